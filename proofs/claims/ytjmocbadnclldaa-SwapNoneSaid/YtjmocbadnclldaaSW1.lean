/- Swap: what the functions do. -/
import Derived.Test.YtjmocbadnclldaaCode
import Derived.Test.YtjmocbadnclldaaK1
namespace Go.Proofs.Ytjmocbadnclldaa

theorem lives_is : ∃ h, progA tab 10 10 [] ⟨0, .leaf⟩ = some (.bool true, h) := by
  have key : (match progA tab 10 10 [] ⟨0, .leaf⟩ with | some (.bool true, _) => true | _ => false) = true := by kernel_rfl
  generalize progA tab 10 10 [] ⟨0, .leaf⟩ = x at key
  match x, key with
  | some (.bool true, h), _ => exact ⟨h, rfl⟩

/-- lives: known -/
def over : Nat → Option FSpec := fun f => if f = 10 then some (constF (.bool true)) else none

theorem overSound : OSound Try.prog over := by
  intro f F hF
  unfold over at hF
  split at hF
  · rename_i e
    subst e
    cases hF
    obtain ⟨h, hh⟩ := lives_is
    exact ⟨((progA_sound tabSound 10).2 10).closed hh, i10.elim fun _ hf => hf.elim fun _ hx => hx.2.2⟩
  · cases hF

/-- the program -/
abbrev R (d : Nat) : Sem1 := progO over tab d

theorem call9 (d : Nat) (l : List AV) (h : AHeap) : R (d + 1) 9 l h = callA (R d) c9 l h := rfl
theorem call10 (d : Nat) (l : List AV) (h : AHeap) : R (d + 1) 10 l h = constF (.bool true) l h := rfl
theorem call11 (d : Nat) (l : List AV) (h : AHeap) : R (d + 1) 11 l h = callA (R d) c11 l h := rfl
theorem call12 (d : Nat) (l : List AV) (h : AHeap) : R (d + 1) 12 l h = callA (R d) c12 l h := rfl
theorem call13 (d : Nat) (l : List AV) (h : AHeap) : R (d + 1) 13 l h = callA (R d) c13 l h := rfl
theorem call14 (d : Nat) (l : List AV) (h : AHeap) : R (d + 1) 14 l h = callA (R d) c14 l h := rfl
theorem call15 (d : Nat) (l : List AV) (h : AHeap) : R (d + 1) 15 l h = callA (R d) c15 l h := rfl
theorem call17 (d : Nat) (l : List AV) (h : AHeap) : R (d + 1) 17 l h = callA (R d) c17 l h := rfl
theorem call18 (d : Nat) (l : List AV) (h : AHeap) : R (d + 1) 18 l h = callA (R d) c18 l h := rfl
theorem call24 (d : Nat) (l : List AV) (h : AHeap) : R (d + 1) 24 l h = callA (R d) c24 l h := rfl
theorem call25 (d : Nat) (l : List AV) (h : AHeap) : R (d + 1) 25 l h = callA (R d) c25 l h := rfl
theorem call26 (d : Nat) (l : List AV) (h : AHeap) : R (d + 1) 26 l h = callA (R d) c26 l h := rfl
theorem call27 (d : Nat) (l : List AV) (h : AHeap) : R (d + 1) 27 l h = callA (R d) c27 l h := rfl

set_option linter.unusedSimpArgs false

/-- a device that no call made -/
def NotMade (h : AHeap) (x : AV) : Prop := x = .nilptr ∨ ∃ D e n a b c d f g, x = .ptr D 0 ∧ h.get D = some (.row e n false false (.vals [a, .bool false, b, c, d, f, g]))

theorem made_no {h : AHeap} {x : AV} (hx : NotMade h x) (d : Nat) : R (d + 1) 27 [x] h = some (.bool false, h) := by
  rcases hx with rfl | ⟨D, e, n, a, b, c, d', f, g, rfl, hD⟩
  · simp [call27, c27, callA, exec, runIns, runIn, runDraw, again, wantedA, evalL, Opd.eval, nj_bool, nj_int, nj_str, nj_ptr, nj_nilptr, nj_sl, nj_ssl, nj_nilsl, nj_esl, nj_map, nj_nilmap, nj_func, nj_yield, nj_nilfunc, nj_agg, nj_bytes, nj_tuple, nj_junk, doOp, aop, setDst, avEq, nilOf, nilEq, scEq, Dat.get, Dat.len, AV.dat, resA, retA, List.replicate, len_nilsl, len_esl, len_sl, len_ssl, binInt, newRow', keepM, AV.same, AHeap.get_put, AHeap.get_new, AHeap.next_put, AHeap.next_new]
  · simp [call27, c27, callA, exec, runIns, runIn, runDraw, again, wantedA, evalL, Opd.eval, nj_bool, nj_int, nj_str, nj_ptr, nj_nilptr, nj_sl, nj_ssl, nj_nilsl, nj_esl, nj_map, nj_nilmap, nj_func, nj_yield, nj_nilfunc, nj_agg, nj_bytes, nj_tuple, nj_junk, doOp, aop, setDst, avEq, nilOf, nilEq, scEq, Dat.get, Dat.len, AV.dat, resA, retA, List.replicate, len_nilsl, len_esl, len_sl, len_ssl, binInt, newRow', keepM, AV.same, AHeap.get_put, AHeap.get_new, AHeap.next_put, AHeap.next_new, hD]

theorem may_no {h : AHeap} {x : AV} (hx : NotMade h x) (d : Nat) (p : Int) (ok : Bool) : R (d + 2) 25 [x, .int .i64 p, .bool ok] h = some (.int .i64 1, h) := by
  have hm := made_no hx d
  have hj : x.notJunk = some x := by rcases hx with rfl | ⟨D, e, n, a, b, c, d', f, g, rfl, hD⟩ <;> rfl
  rcases hx with rfl | ⟨D, e, n, a, b, c, d', f, g, rfl, hD⟩ <;> simp [call25, c25, callA, exec, runIns, runIn, runDraw, again, wantedA, evalL, Opd.eval, nj_bool, nj_int, nj_str, nj_ptr, nj_nilptr, nj_sl, nj_ssl, nj_nilsl, nj_esl, nj_map, nj_nilmap, nj_func, nj_yield, nj_nilfunc, nj_agg, nj_bytes, nj_tuple, nj_junk, doOp, aop, setDst, avEq, nilOf, nilEq, scEq, Dat.get, Dat.len, AV.dat, resA, retA, List.replicate, len_nilsl, len_esl, len_sl, len_ssl, binInt, newRow', keepM, AV.same, AHeap.get_put, AHeap.get_new, AHeap.next_put, AHeap.next_new, hm]

theorem NotMade.keep {S : List Nat} {h h' : AHeap} {x : AV} (hx : NotMade h x) (hk : Keep S h h') (hwf : ∀ D, x = .ptr D 0 → D < h.next ∧ D ∉ S) : NotMade h' x := by
  rcases hx with rfl | ⟨D, e, n, a, b, c, d', f, g, rfl, hD⟩
  · exact .inl rfl
  · exact .inr ⟨D, e, n, a, b, c, d', f, g, rfl, hk.get hD (hwf D rfl).1 (hwf D rfl).2⟩

theorem read_no {h : AHeap} {x : AV} (hx : NotMade h x) (d : Nat) (p : Int) : R (d + 3) 15 [x, .int .i64 p] h = some (.tuple [.nilsl, .int .i64 1], h) := by
  have hm := may_no hx d p true
  rcases hx with rfl | ⟨D, e, n, a, b, c, d', f, g, rfl, hD⟩ <;> simp [call15, c15, callA, exec, runIns, runIn, runDraw, again, wantedA, evalL, Opd.eval, nj_bool, nj_int, nj_str, nj_ptr, nj_nilptr, nj_sl, nj_ssl, nj_nilsl, nj_esl, nj_map, nj_nilmap, nj_func, nj_yield, nj_nilfunc, nj_agg, nj_bytes, nj_tuple, nj_junk, doOp, aop, setDst, avEq, nilOf, nilEq, scEq, Dat.get, Dat.len, AV.dat, resA, retA, List.replicate, len_nilsl, len_esl, len_sl, len_ssl, binInt, newRow', keepM, AV.same, AHeap.get_put, AHeap.get_new, AHeap.next_put, AHeap.next_new, hm]

theorem count_no {h : AHeap} {x : AV} (hx : NotMade h x) (d : Nat) : R (d + 2) 17 [x] h = some (.tuple [.int .i64 0, .int .i64 0], h) := by
  have hm := made_no hx d
  rcases hx with rfl | ⟨D, e, n, a, b, c, d', f, g, rfl, hD⟩ <;> simp [call17, c17, callA, exec, runIns, runIn, runDraw, again, wantedA, evalL, Opd.eval, nj_bool, nj_int, nj_str, nj_ptr, nj_nilptr, nj_sl, nj_ssl, nj_nilsl, nj_esl, nj_map, nj_nilmap, nj_func, nj_yield, nj_nilfunc, nj_agg, nj_bytes, nj_tuple, nj_junk, doOp, aop, setDst, avEq, nilOf, nilEq, scEq, Dat.get, Dat.len, AV.dat, resA, retA, List.replicate, len_nilsl, len_esl, len_sl, len_ssl, binInt, newRow', keepM, AV.same, AHeap.get_put, AHeap.get_new, AHeap.next_put, AHeap.next_new, hm]

theorem write_no {h : AHeap} {x v : AV} {k : Nat} (hx : NotMade h x) (hv : sliceLen v = some k) (d : Nat) (p : Int) : R (d + 3) 12 [x, .int .i64 p, v] h = some (.int .i64 1, h) := by
  have hm := fun ok => may_no hx d p ok
  have hj := notJunk_of_len hv
  rcases hx with rfl | ⟨D, e, n, a, b, c, d', f, g, rfl, hD⟩ <;> simp [call12, c12, callA, exec, runIns, runIn, wantedA, evalL, Opd.eval, nj_bool, nj_int, nj_str, nj_ptr, nj_nilptr, nj_sl, nj_ssl, nj_nilsl, nj_esl, nj_map, nj_nilmap, nj_func, nj_yield, nj_nilfunc, nj_agg, nj_bytes, nj_tuple, nj_junk, doOp, aop, setDst, resA, retA, List.replicate, binInt, hm, hj, hv]

theorem plan_no {h : AHeap} {x : AV} (hx : NotMade h x) (d : Nat) (b : Bool) (p : Int) : R (d + 2) 14 [x, .bool b, .int .i64 p] h = some (.int .i64 1, h) := by
  have hm := made_no hx d
  rcases hx with rfl | ⟨D, e, n, a, b, c, d', f, g, rfl, hD⟩ <;> simp [call14, c14, callA, exec, runIns, runIn, runDraw, again, wantedA, evalL, Opd.eval, nj_bool, nj_int, nj_str, nj_ptr, nj_nilptr, nj_sl, nj_ssl, nj_nilsl, nj_esl, nj_map, nj_nilmap, nj_func, nj_yield, nj_nilfunc, nj_agg, nj_bytes, nj_tuple, nj_junk, doOp, aop, setDst, avEq, nilOf, nilEq, scEq, Dat.get, Dat.len, AV.dat, resA, retA, List.replicate, len_nilsl, len_esl, len_sl, len_ssl, binInt, newRow', keepM, AV.same, AHeap.get_put, AHeap.get_new, AHeap.next_put, AHeap.next_new, hm]

theorem places_no {h : AHeap} {x : AV} (hx : NotMade h x) (d : Nat) : R (d + 2) 24 [x] h = some (.int .i64 0, h) := by
  have hm := made_no hx d
  rcases hx with rfl | ⟨D, e, n, a, b, c, d', f, g, rfl, hD⟩ <;> simp [call24, c24, callA, exec, runIns, runIn, runDraw, again, wantedA, evalL, Opd.eval, nj_bool, nj_int, nj_str, nj_ptr, nj_nilptr, nj_sl, nj_ssl, nj_nilsl, nj_esl, nj_map, nj_nilmap, nj_func, nj_yield, nj_nilfunc, nj_agg, nj_bytes, nj_tuple, nj_junk, doOp, aop, setDst, avEq, nilOf, nilEq, scEq, Dat.get, Dat.len, AV.dat, resA, retA, List.replicate, len_nilsl, len_esl, len_sl, len_ssl, binInt, newRow', keepM, AV.same, AHeap.get_put, AHeap.get_new, AHeap.next_put, AHeap.next_new, hm]

theorem peek_no {h : AHeap} {x : AV} (hx : NotMade h x) (d : Nat) (p : Int) : R (d + 3) 18 [x, .int .i64 p] h = some (.nilsl, h) := by
  have hm := may_no hx d p true
  rcases hx with rfl | ⟨D, e, n, a, b, c, d', f, g, rfl, hD⟩ <;> simp [call18, c18, callA, exec, runIns, runIn, runDraw, again, wantedA, evalL, Opd.eval, nj_bool, nj_int, nj_str, nj_ptr, nj_nilptr, nj_sl, nj_ssl, nj_nilsl, nj_esl, nj_map, nj_nilmap, nj_func, nj_yield, nj_nilfunc, nj_agg, nj_bytes, nj_tuple, nj_junk, doOp, aop, setDst, avEq, nilOf, nilEq, scEq, Dat.get, Dat.len, AV.dat, resA, retA, List.replicate, len_nilsl, len_esl, len_sl, len_ssl, binInt, newRow', keepM, AV.same, AHeap.get_put, AHeap.get_new, AHeap.next_put, AHeap.next_new, hm]

/-- a page that begins with some bytes -/
theorem page_is {h : AHeap} {v : AV} {k n : Nat} (hv : BytesAt h v k n) (hwf : h.wf) (d : Nat) :
    ∃ h', R (d + 1) 11 [v] h = some (.sl h.next 0 4096 4096, h') ∧ h'.get h.next = some (.row 5 1 false false (.bytes 4096 (pageOf n))) ∧ Keep [] h h' ∧ h'.next = h.next + 1 := by
  have hj := notJunk_of_len hv.1
  have hz : (Dat.bytes 1 0).rep 4096 = .bytes 4096 0 := rfl
  have hv1 := hv.keep (h' := h.new (.row 5 1 false false (.bytes 4096 0))) ((Keep.refl _ _).new _) hwf
  obtain ⟨m, h2, hc, hg, hk, hn⟩ := copy_page (id := h.next) hv1 (AHeap.get_new_same _ _) (by rw [AHeap.next_new]; omega)
  refine ⟨h2, ?_, hg, Keep.then ((Keep.refl [] _).new _) hk (by simp) (by simp), hn⟩
  · simp [call11, c11, callA, exec, runIns, runIn, wantedA, evalL, Opd.eval, nj_bool, nj_int, nj_str, nj_ptr, nj_nilptr, nj_sl, nj_ssl, nj_nilsl, nj_esl, nj_map, nj_nilmap, nj_func, nj_yield, nj_nilfunc, nj_agg, nj_bytes, nj_tuple, nj_junk, doOp, setDst, resA, retA, List.replicate, hj, hc,
      show ∀ x h, aop .mv [x] h = some (x, h) from fun _ _ => rfl,
      show aop (.mkslice 5 1 1 (.bytes 1 0)) [.int .i64 4096, .int .i64 4096] h = some (.sl h.next 0 4096 4096, h.new (.row 5 1 false false (.bytes 4096 0))) from rfl]

end Go.Proofs.Ytjmocbadnclldaa
