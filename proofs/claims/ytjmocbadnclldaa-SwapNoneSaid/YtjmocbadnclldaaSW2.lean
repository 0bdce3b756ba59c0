/- Swap: acts; are they light? -/
import Derived.Test.YtjmocbadnclldaaSW1
namespace Go.Proofs.Ytjmocbadnclldaa
set_option linter.unusedSimpArgs false

/-- an act -/
structure ActV where
  kind : Int
  n : Int
  l : AV
  k : Nat
  c : Nat
  raw : Bool

def ActV.cells (a : ActV) : List AV := [.int .i64 a.kind, .int .i64 a.n, a.l, .bool a.raw]

theorem bytes_is {h : AHeap} {a : ActV} (hv : BytesAt h a.l a.k a.c) (hwf : h.wf) (d : Nat) :
    ∃ v h' k c, R (d + 2) 13 [.agg a.cells] h = some (v, h') ∧ BytesAt h' v k c ∧ Keep [] h h' ∧ k = (if a.raw then a.k else 4096) ∧ c = if a.raw then a.c else pageOf a.c := by
  have hj := notJunk_of_len hv.1
  have k1 : Keep [] h (h.new (.row 31 4 false false (.vals a.cells))) := (Keep.refl _ _).new _
  have hv1 := hv.keep k1 hwf
  cases hraw : a.raw with
  | true =>
    refine ⟨a.l, _, a.k, a.c, ?_, hv1, k1, rfl, rfl⟩
    simp [call13, c13, callA, exec, runIns, runIn, runDraw, again, wantedA, evalL, Opd.eval, nj_bool, nj_int, nj_str, nj_ptr, nj_nilptr, nj_sl, nj_ssl, nj_nilsl, nj_esl, nj_map, nj_nilmap, nj_func, nj_yield, nj_nilfunc, nj_agg, nj_bytes, nj_tuple, nj_junk, doOp, aop, setDst, avEq, nilOf, nilEq, scEq, Dat.get, Dat.len, AV.dat, resA, retA, List.replicate, len_nilsl, len_esl, len_sl, len_ssl, binInt, newRow', keepM, AV.same, AHeap.get_put, AHeap.get_new, AHeap.next_put, AHeap.next_new, hj, ActV.cells, hraw]
  | false =>
    obtain ⟨h2, hp, hg, hk, hn⟩ := page_is hv1 (k1.2.2 hwf) d
    refine ⟨.sl (h.next + 1) 0 4096 4096, h2, 4096, pageOf a.c, ?_, ⟨rfl, pageOf_lt _, .inr ?_⟩, k1.trans hk, rfl, rfl⟩
    · simp only [ActV.cells, hraw, AHeap.next_new] at hp hv1
      simp [call13, c13, callA, exec, runIns, runIn, runDraw, again, wantedA, evalL, Opd.eval, nj_bool, nj_int, nj_str, nj_ptr, nj_nilptr, nj_sl, nj_ssl, nj_nilsl, nj_esl, nj_map, nj_nilmap, nj_func, nj_yield, nj_nilfunc, nj_agg, nj_bytes, nj_tuple, nj_junk, doOp, aop, setDst, avEq, nilOf, nilEq, scEq, Dat.get, Dat.len, AV.dat, resA, retA, List.replicate, len_nilsl, len_esl, len_sl, len_ssl, binInt, newRow', keepM, AV.same, AHeap.get_put, AHeap.get_new, AHeap.next_put, AHeap.next_new, hj, ActV.cells, hraw, hp]
    · rw [AHeap.next_new] at hg
      simp only [sliceDat, hg, Dat.take, Nat.zero_add, Nat.mul_one, Nat.le_refl, if_true]
      rw [bsub_page]

/-- a slice of acts, in a row -/
def ActsAt (h : AHeap) (v : AV) (acts : List ActV) : Prop :=
  sliceLen v = some acts.length ∧ (∀ (i : Nat) (a : ActV), acts[i]? = some a → BytesAt h a.l a.k a.c ∧ ∃ id off cap e soft ro d, v = .sl id off acts.length cap ∧ h.get id = some (.row e 4 soft ro d) ∧ d.sub (off + i * 4) 4 = some (.agg a.cells))

theorem ActsAt.keep {h h' : AHeap} {v : AV} {acts : List ActV} (hv : ActsAt h v acts) (hk : Keep [] h h') (hwf : h.wf) : ActsAt h' v acts :=
  ⟨hv.1, fun i a ha => by
    obtain ⟨h1, id, off, cap, e, soft, ro, d, h2, h3, h4⟩ := hv.2 i a ha
    exact ⟨h1.keep hk hwf, id, off, cap, e, soft, ro, d, h2, hk.get h3 (hwf _ _ h3) (by simp), h4⟩⟩

def lightE (v : AV) (n i : Int) : List AV := [.junk, .junk, .junk, .junk, .junk, .junk, .junk, .junk, v, .int .i64 n, .int .i64 i, .junk, .junk, .junk, .junk, .junk, .junk, .junk, .junk]

theorem light_end {v : AV} {d : Nat} {n i : Int} {h : AHeap} (hlt : ¬ i < n) : ∃ e', exec (R d) c9L0 (lightE v n i) h = some (.exit 0, e', h) ∧ e'.length = 19 := by
  simp [lightE, c9L0, callA, exec, runIns, runIn, runDraw, again, wantedA, evalL, Opd.eval, nj_bool, nj_int, nj_str, nj_ptr, nj_nilptr, nj_sl, nj_ssl, nj_nilsl, nj_esl, nj_map, nj_nilmap, nj_func, nj_yield, nj_nilfunc, nj_agg, nj_bytes, nj_tuple, nj_junk, doOp, aop, setDst, avEq, nilOf, nilEq, scEq, Dat.get, Dat.len, AV.dat, resA, retA, List.replicate, len_nilsl, len_esl, len_sl, len_ssl, binInt, newRow', keepM, AV.same, AHeap.get_put, AHeap.get_new, AHeap.next_put, AHeap.next_new, hlt]

theorem light_go {id off len cap d : Nat} {i : Nat} {h : AHeap} {a : ActV} {e : Nat} {soft ro : Bool} {dd : Dat} (hlt : i < len) (hg : h.get id = some (.row e 4 soft ro dd)) (hs : dd.sub (off + i * 4) 4 = some (.agg a.cells)) (hk : sliceLen a.l = some a.k) (hwf : h.wf) (h5 : len ≤ 60) :
    ∃ e', exec (R d) c9L0 (lightE (.sl id off len cap) len i) h = (if a.k ≤ 5000 then some (.normal, e', (h.new (.row 31 4 false false (.vals [.int .i64 0, .int .i64 0, .nilsl, .bool false]))).put h.next (.row 31 4 false false (.vals a.cells))) else
        some (.ret, e', (h.new (.row 31 4 false false (.vals [.int .i64 0, .int .i64 0, .nilsl, .bool false]))).put h.next (.row 31 4 false false (.vals a.cells)))) ∧
      e'.length = 19 ∧ (a.k ≤ 5000 → keepM c9M0 e' = lightE (.sl id off len cap) len (i + 1 : Nat)) ∧ (¬ a.k ≤ 5000 → e'[2]? = some (.bool false)) := by
  have hlt' : (i : Int) < (len : Int) := by omega
  have hid : ¬ h.next = id := by have := hwf id _ hg; omega
  have hj := notJunk_of_len hk
  have hw : IntKind.i64.wrap ((i : Int) + 1) = ((i + 1 : Nat) : Int) := by rw [wrap64] <;> omega
  have hsub : (Dat.vals [.int .i64 0, .int .i64 0, .nilsl, .bool false]).put 0 (.vals [.int .i64 a.kind, .int .i64 a.n, a.l, .bool a.raw]) = some (.vals [.int .i64 a.kind, .int .i64 a.n, a.l, .bool a.raw]) := rfl
  simp only [ActV.cells] at hs ⊢
  by_cases hk5 : a.k ≤ 5000
  · have hgt : ¬ (5000 : Int) < (a.k : Int) := by omega
    simp [lightE, c9L0, c9M0, callA, exec, runIns, runIn, runDraw, again, wantedA, evalL, Opd.eval, nj_bool, nj_int, nj_str, nj_ptr, nj_nilptr, nj_sl, nj_ssl, nj_nilsl, nj_esl, nj_map, nj_nilmap, nj_func, nj_yield, nj_nilfunc, nj_agg, nj_bytes, nj_tuple, nj_junk, doOp, aop, setDst, avEq, nilOf, nilEq, scEq, Dat.get, Dat.len, AV.dat, resA, retA, List.replicate, len_nilsl, len_esl, len_sl, len_ssl, binInt, newRow', keepM, AV.same, AHeap.get_put, AHeap.get_new, AHeap.next_put, AHeap.next_new, hlt', hg, hs, hid, hsub, hj, hk, hgt, hk5, hw]
  · have hgt : (5000 : Int) < (a.k : Int) := by omega
    simp [lightE, c9L0, c9M0, callA, exec, runIns, runIn, runDraw, again, wantedA, evalL, Opd.eval, nj_bool, nj_int, nj_str, nj_ptr, nj_nilptr, nj_sl, nj_ssl, nj_nilsl, nj_esl, nj_map, nj_nilmap, nj_func, nj_yield, nj_nilfunc, nj_agg, nj_bytes, nj_tuple, nj_junk, doOp, aop, setDst, avEq, nilOf, nilEq, scEq, Dat.get, Dat.len, AV.dat, resA, retA, List.replicate, len_nilsl, len_esl, len_sl, len_ssl, binInt, newRow', keepM, AV.same, AHeap.get_put, AHeap.get_new, AHeap.next_put, AHeap.next_new, hlt', hg, hs, hid, hsub, hj, hk, hgt, hk5, hw]

theorem light_loop {v : AV} {acts : List ActV} (d : Nat) : ∀ (r i : Nat) (h : AHeap) (n : Nat) (e : List AV), h.wf → ActsAt h v acts → acts.length ≤ 60 → i + r = acts.length → keepM c9M0 e = lightE v acts.length i →
    ∃ x e' h', iterN (exec (R d) c9L0) c9M0 (n + r + 1) e h = some (x, e', h') ∧ Keep [] h h' ∧ e'.length = 19 ∧
      ((∀ a, a ∈ acts.drop i → a.k ≤ 5000) → x = .exit 0) ∧ (¬ (∀ a, a ∈ acts.drop i → a.k ≤ 5000) → x = .ret ∧ e'[2]? = some (.bool false)) := by
  intro r
  induction r with
  | zero =>
    intro i h n e hwf hv hl hi he
    have hdrop : acts.drop i = [] := List.drop_eq_nil_of_le (by omega)
    obtain ⟨e', h1, h2⟩ := light_end (v := v) (d := d) (n := acts.length) (i := i) (h := h) (by omega)
    refine ⟨.exit 0, e', h, ?_, Keep.refl _ _, h2, fun _ => rfl, fun hn => absurd (by rw [hdrop]; simp) hn⟩
    rw [iterN, he, h1]
  | succ r ih =>
    intro i h n e hwf hv hl hi he
    have hil : i < acts.length := by omega
    have ha : acts[i]? = some acts[i] := by simp [hil]
    obtain ⟨hb, id, off, cap, el, soft, ro, dd, rfl, hg, hs⟩ := hv.2 i _ ha
    obtain ⟨e', h1, h2, h3, h4⟩ := light_go (d := d) (cap := cap) hil hg hs hb.1 hwf hl
    have hdrop : acts.drop i = acts[i] :: acts.drop (i + 1) := List.drop_eq_getElem_cons hil
    have hkeep : Keep [] h ((h.new (.row 31 4 false false (.vals [.int .i64 0, .int .i64 0, .nilsl, .bool false]))).put h.next (.row 31 4 false false (.vals acts[i].cells))) :=
      ((Keep.refl [] h).new _).put _ (.inr (Nat.le_refl _)) (by rw [AHeap.next_new]; omega)
    by_cases hk : acts[i].k ≤ 5000
    · rw [if_pos hk, ← he] at h1
      rw [show n + (r + 1) + 1 = (n + r + 1) + 1 by omega, iterN_normal h1]
      obtain ⟨x, e2, h2', i1, i2, i3, i4, i5⟩ := ih (i + 1) _ n e' (hkeep.2.2 hwf) (hv.keep hkeep hwf) hl (by omega) (h3 hk)
      refine ⟨x, e2, h2', i1, hkeep.trans i2, i3, fun hall => i4 fun b hb => hall b (by rw [hdrop]; exact List.mem_cons_of_mem _ hb), fun hn => i5 fun hall => hn fun b hb => ?_⟩
      rw [hdrop] at hb
      rcases List.mem_cons.1 hb with rfl | hb
      · exact hk
      · exact hall b hb
    · rw [if_neg hk, ← he] at h1
      exact ⟨.ret, e', _, iterN_stop h1 (by simp), hkeep, h2, fun hall => absurd (hall acts[i] (by rw [hdrop]; exact List.mem_cons_self)) hk, fun _ => ⟨rfl, h4 hk⟩⟩

theorem light_is {h : AHeap} {v : AV} {acts : List ActV} (hv : ActsAt h v acts) (hwf : h.wf) (d : Nat) :
    ∃ h', R (d + 1) 9 [v] h = some (.bool (decide (acts.length ≤ 60) && acts.all fun a => decide (a.k ≤ 5000)), h') ∧ Keep [] h h' := by
  have hj := notJunk_of_len hv.1
  by_cases hl : acts.length ≤ 60
  · have hgt : ¬ (60 : Int) < (acts.length : Int) := by omega
    have hr : rounds = (rounds - acts.length - 1) + acts.length + 1 := by unfold rounds; omega
    have hloop := light_loop (v := v) d acts.length 0 h (rounds - acts.length - 1) [v, .junk, .bool false, .junk, .junk, v, .int .i64 acts.length, .bool false, v, .int .i64 acts.length, .int .i64 0, .junk, .junk, .junk, .junk, .junk, .junk, .junk, .junk] hwf hv hl (by omega) rfl
    obtain ⟨x, e', h', i1, i2, i3, i4, i5⟩ := hloop
    rw [← hr] at i1
    refine ⟨h', ?_, i2⟩
    rw [List.drop_zero] at i4 i5
    by_cases hall : ∀ a, a ∈ acts → a.k ≤ 5000
    · have hx := i4 hall
      subst hx
      have hdec : (acts.all fun a => decide (a.k ≤ 5000)) = true := by simpa using hall
      have hd2 : decide (acts.length ≤ 60) = true := by simpa using hl
      rw [hdec, hd2]
      have hle : 2 < e'.length := by omega
      simp [call9, c9, callA, exec, runIns, runIn, runDraw, again, wantedA, evalL, Opd.eval, nj_bool, nj_int, nj_str, nj_ptr, nj_nilptr, nj_sl, nj_ssl, nj_nilsl, nj_esl, nj_map, nj_nilmap, nj_func, nj_yield, nj_nilfunc, nj_agg, nj_bytes, nj_tuple, nj_junk, doOp, aop, setDst, avEq, nilOf, nilEq, scEq, Dat.get, Dat.len, AV.dat, resA, retA, List.replicate, len_nilsl, len_esl, len_sl, len_ssl, binInt, newRow', keepM, AV.same, AHeap.get_put, AHeap.get_new, AHeap.next_put, AHeap.next_new, hj, hv.1, hgt, i1, hle]
    · obtain ⟨rfl, h2⟩ := i5 hall
      have hdec : (acts.all fun a => decide (a.k ≤ 5000)) = false := by
        cases h : acts.all fun a => decide (a.k ≤ 5000) with
        | false => rfl
        | true => exact absurd (by simpa using h) hall
      rw [hdec]
      simp [call9, c9, callA, exec, runIns, runIn, runDraw, again, wantedA, evalL, Opd.eval, nj_bool, nj_int, nj_str, nj_ptr, nj_nilptr, nj_sl, nj_ssl, nj_nilsl, nj_esl, nj_map, nj_nilmap, nj_func, nj_yield, nj_nilfunc, nj_agg, nj_bytes, nj_tuple, nj_junk, doOp, aop, setDst, avEq, nilOf, nilEq, scEq, Dat.get, Dat.len, AV.dat, resA, retA, List.replicate, len_nilsl, len_esl, len_sl, len_ssl, binInt, newRow', keepM, AV.same, AHeap.get_put, AHeap.get_new, AHeap.next_put, AHeap.next_new, hj, hv.1, hgt, i1, h2]
  · have hgt : (60 : Int) < (acts.length : Int) := by omega
    have hd2 : decide (acts.length ≤ 60) = false := by simpa using hl
    refine ⟨h, ?_, Keep.refl _ _⟩
    rw [hd2]
    simp [call9, c9, callA, exec, runIns, runIn, runDraw, again, wantedA, evalL, Opd.eval, nj_bool, nj_int, nj_str, nj_ptr, nj_nilptr, nj_sl, nj_ssl, nj_nilsl, nj_esl, nj_map, nj_nilmap, nj_func, nj_yield, nj_nilfunc, nj_agg, nj_bytes, nj_tuple, nj_junk, doOp, aop, setDst, avEq, nilOf, nilEq, scEq, Dat.get, Dat.len, AV.dat, resA, retA, List.replicate, len_nilsl, len_esl, len_sl, len_ssl, binInt, newRow', keepM, AV.same, AHeap.get_put, AHeap.get_new, AHeap.next_put, AHeap.next_new, hj, hv.1, hgt]

end Go.Proofs.Ytjmocbadnclldaa
