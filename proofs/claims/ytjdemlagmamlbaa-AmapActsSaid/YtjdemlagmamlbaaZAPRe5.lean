/- BY PROGRAM (wip/tool/shake.py): own texts, one behind the other, without what is not needed. -/
import Derived.Control
import Derived.Calls
import Derived.KernelRfl
import Derived.Laws.Sem
import Derived.Laws.Cells
import Derived.Laws.World
import GoSem.Dispatch
import Derived.Laws.StructEq
import Derived.IntWalk
import Derived.WideKeyRuns
import Derived.Laws.BytesArg
import Derived.Orders
import Derived.ChangeArms
import Derived.OpenShut
import Derived.ChangeShapes
import Derived.ProofKit
import Derived.Test.YtjdemlagmamlbaaProg
import Derived.Test.YtjdemlagmamlbaaRows
import Derived.Test.YtjdemlagmamlbaaZAPRe4

namespace Go.Proofs.Ytjdemlagmamlbaa
open Go.ChangeShapes Go.WideShapes Go.ChangeAt Go.RowKit
theorem ownKn : ownKnob Try.prog.godebug = none := by kernel_rfl
theorem laidOut : laidOutB Try.prog = true := by kernel_rfl
theorem enterOk : Try.prog.mayEnter = true := by kernel_rfl
theorem und4 : Try.prog.underlying 4 = some .bool := by kernel_rfl
theorem swapLives : trueD (progD tab 12 (.f n_law09_lives) [] ⟨0, .leaf⟩) = true := by kernel_rfl
theorem overSound : OSound Try.prog over := fun f F hf => by
  simp only [over] at hf
  cases hb : Nat.beq f n_law09_lives with
  | true =>
    rw [hb] at hf
    simp only [cond_true, Option.some.injEq] at hf
    subst hf
    rw [Nat.eq_of_beq_eq_true hb]
    exact ⟨FSound.lives tabSound swapLives, Try.call26⟩
  | false => rw [hb] at hf; cases hf
end Go.Proofs.Ytjdemlagmamlbaa

namespace Go.Proofs.Ytjdemlagmamlbaa
section
variable {h : AHeap} {L R R' : List Chunk} {s x v : AV} {e es b k m : Nat} {d : Dat} {w : Bool} {C : SemW}
theorem okSame_sl {k : Nat} (h : sliceLen v = some k) : okSame v = true := by
  cases v <;> first | rfl | (simp [sliceLen] at h)
/-- a slice of values -/
abbrev VsC (v : AV) (e : Nat) (l : List AV) (w : Bool) : Chunk := SlC v e 1 l.length (.vals l) w
theorem St.vs {l : List AV} (st : St h L) (t : Take L (VsC v e l w) R) : sliceLen v = some l.length ∧ v.notJunk = some v ∧ okSame v = true := by
  obtain ⟨h1, h2, _⟩ := st.slc t
  exact ⟨h1, h2, okSame_sl h1⟩
theorem d_vsIdx {i : Nat} {kk : IntKind} {l : List AV} (st : St h L) (t : Take L (VsC v e l w) R) (h1 : i < l.length) : Does (.indexs 1) [v, .int kk i] h (elemPtr 1 v i) h ∧ (elemPtr 1 v i).notJunk = some (elemPtr 1 v i) :=
  ⟨d_indexs (i := (i : Int)) st t (by omega) (by omega), elemPtr_nj (st.vs t).1 h1⟩
theorem d_vsLoad {i : Nat} {l : List AV} {x : AV} (st : St h L) (t : Take L (VsC v e l w) R) (hx : l[i]? = some x) : Does .load1 [elemPtr 1 v i] h x h :=
  d_loadE st t (List.getElem?_eq_some_iff.1 hx).1 hx
theorem vals_of_take {D : Dat} {off n : Nat} {l : List AV} (h : D.take off n = some (.vals l)) : ∃ c, D = .vals c ∧ off + n ≤ c.length ∧ (c.drop off).take n = l := by
  cases D with
  | vals c =>
    simp only [Dat.take] at h
    split at h
    · rename_i hl; cases h; exact ⟨c, rfl, hl, rfl⟩
    · cases h
  | bytes l n => simp only [Dat.take] at h; split at h <;> cases h
theorem set_in {c l : List AV} {off n i : Nat} {x : AV} (hl : off + n ≤ c.length) (h : (c.drop off).take n = l) (hi : i < n) : Dat.put (.vals c) (off + i) (.vals [x]) = some (.vals (c.set (off + i) x)) ∧ ((c.set (off + i) x).drop off).take n = l.set i x := by
  constructor
  · simp only [Dat.put, List.length_cons, List.length_nil]
    rw [if_pos (by omega), List.set_eq_take_append_cons_drop, if_pos (by omega)]
    simp
  · subst h
    rw [List.drop_set, if_neg (by omega), Nat.add_sub_cancel_left, List.take_set]
theorem e_vsStore {i : Nat} {l : List AV} {x : AV} (st : St h L) (t : Take L (VsC v e l true) R) (hi : i < l.length) (hx : x.dat = .vals [x]) :
    Eff C (.store 1) [elemPtr 1 v i, x] h fun q h' => q = .tuple [] ∧ St h' (VsC v e (l.set i x) true :: R) := .mk (by
  obtain ⟨cs, y, st'⟩ := (st.take t).unpack
  rcases y with ⟨rfl, h0, _⟩ | ⟨rfl, h0, _⟩ | ⟨id, off, cap, D, e', es', sf, rfl, rfl, h3, h4, h5⟩ | ⟨id, idx, D, rfl, rfl, h3, h4, h5⟩
  · omega
  · omega
  · rw [Nat.mul_one] at h3
    obtain ⟨c, rfl, p1, p2⟩ := vals_of_take h3
    obtain ⟨q1, q2⟩ := set_in (x := x) p1 p2 hi
    refine Does.do (v := .tuple []) (h1 := h.put id (.row e' es' sf false (.vals (c.set (off + i) x)))) ⟨rfl, ?_⟩ ⟨rfl, St.pack (cs := [.pt id (.row e' es' sf false (.vals (c.set (off + i) x)))]) (st'.put _) ?_⟩
    · simp only [aop, elemPtr, st'.get, Bool.not_true, Nat.mul_one, hx, q1, Option.map_some]; rfl
    · rw [List.length_set]
      refine .inr (.inr (.inl ⟨id, off, cap, _, e', es', sf, rfl, rfl, ?_, h4, fun _ => by have := h5 rfl; simpa [Dat.len] using this⟩))
      simp only [Dat.take, Nat.mul_one]
      rw [if_pos (by simpa using p1), q2]
  · rw [Nat.mul_one l.length] at h3
    obtain ⟨c, rfl, p1, p2⟩ := vals_of_take h3
    obtain ⟨q1, q2⟩ := set_in (x := x) p1 p2 hi
    refine Does.do (v := .tuple []) (h1 := h.put id (.row e 1 true false (.vals (c.set (idx * 1 + i) x)))) ⟨rfl, ?_⟩ ⟨rfl, St.pack (cs := [.pt id (.row e 1 true false (.vals (c.set (idx * 1 + i) x)))]) (st'.put _) ?_⟩
    · simp only [aop, elemPtr, st'.get, hx]
      rw [show (idx + i) * 1 = idx * 1 + i by omega, q1]; rfl
    · rw [List.length_set]
      refine .inr (.inr (.inr ⟨id, idx, _, rfl, rfl, ?_, rfl, by simpa [Dat.len] using h5⟩))
      simp only [Dat.take]
      rw [Nat.mul_one l.length, if_pos (by simpa using p1), q2])
/-- append one list of values to another -/
theorem e_vsAppend {z : Dat} {l l' : List AV} (st : St h L) (t : Take L (VsC s e l true) R) (t' : Take R (VsC x e l' w) R') (hb : (l.length + l'.length) * b ≤ 2 ^ 40) (hk : l.length + l'.length ≤ 2 ^ 40) :
    Eff C (.append e 1 b z) [s, x] h fun v h' => v.notJunk = some v ∧ sliceLen v = some (l ++ l').length ∧ St h' (VsC v e (l ++ l') true :: VsC x e l' w :: R') := by
  have := e_append (C := C) (z := z) (d'' := .vals (l ++ l')) st t t' rfl (.inl ⟨_, _, rfl, rfl⟩) (fun h0 => by rw [List.eq_nil_of_length_eq_zero h0, List.append_nil])
    (fun h0 => by rw [List.eq_nil_of_length_eq_zero h0, Nat.mul_one]; simp [Dat.take])
    (by rw [Nat.mul_one]; simp only [Dat.take, Nat.zero_add]; rw [if_pos (by simp), List.drop_zero, List.take_of_length_le (by simp)]) hb hk rfl
  rw [← List.length_append] at this
  exact this
/-- a new row of values, as a slice -/
theorem St.vsRow {id n e' es' : Nat} {sf : Bool} {l : List AV} (st : St h L) (t : Take L (.pt id (.row e' es' sf false (.vals l))) R) (hn : n = l.length) : St h (VsC (.sl id 0 n n) e l true :: R) := by
  subst hn
  refine St.pack (cs := [.pt id (.row e' es' sf false (.vals l))]) (st.take t) (.inr (.inr (.inl ⟨id, 0, _, _, e', es', sf, rfl, rfl, ?_, Nat.le_refl _, fun _ => by simp [Dat.len]⟩)))
  simp [Dat.take]
/-- no values -/
theorem St.vsNil (st : St h L) (e : Nat) (w : Bool) : St h (VsC .nilsl e [] w :: L) := St.nilslice st e 1 w
end
end Go.Proofs.Ytjdemlagmamlbaa

namespace Go.Proofs.Ytjdemlagmamlbaa
section
variable {h : AHeap} {L R R' : List Chunk} {s x v : AV} {e es b k m : Nat} {d : Dat} {w : Bool} {C : SemW} {α : Type} {cells : α → List AV} {l : List α} {a : α}
/-- a slice of structs of es cells -/
abbrev RwC (v : AV) (e es : Nat) (cells : α → List AV) (l : List α) (w : Bool) : Chunk := SlC v e es l.length (.vals (l.flatMap cells)) w
/-- the cells of each are so many -/
structure CL (cells : α → List AV) (es : Nat) : Prop where
  len : ∀ a, (cells a).length = es
theorem CL.flat (hc : CL cells es) : ∀ l : List α, (l.flatMap cells).length = l.length * es
  | [] => by simp
  | a :: l => by rw [List.flatMap_cons, List.length_append, hc.len, hc.flat l, List.length_cons, Nat.add_mul]; omega
theorem CL.at (hc : CL cells es) {i : Nat} (hi : l[i]? = some a) : ((l.flatMap cells).drop (i * es)).take es = cells a ∧ i * es + es ≤ (l.flatMap cells).length := flat_at (fun a _ => hc.len a) hi
theorem St.rw (st : St h L) (t : Take L (RwC v e es cells l w) R) : sliceLen v = some l.length ∧ v.notJunk = some v ∧ okSame v = true := by
  obtain ⟨h1, h2, _⟩ := st.slc t
  exact ⟨h1, h2, okSame_sl h1⟩
theorem d_rwIdx {i : Nat} {kk : IntKind} (st : St h L) (t : Take L (RwC v e es cells l w) R) (h1 : i < l.length) : Does (.indexs es) [v, .int kk i] h (elemPtr es v i) h ∧ (elemPtr es v i).notJunk = some (elemPtr es v i) :=
  ⟨d_indexs (i := (i : Int)) st t (by omega) (by omega), elemPtr_nj (st.slc t).1 h1⟩
theorem d_rwLoad {i : Nat} (hc : CL cells es) (st : St h L) (t : Take L (RwC v e es cells l w) R) (hi : l[i]? = some a) : Does (.loadn es) [elemPtr es v i] h (.agg (cells a)) h := by
  obtain ⟨f1, f2⟩ := hc.at hi
  exact d_loadEn st t rfl (List.getElem?_eq_some_iff.1 hi).1 (by simp only [Dat.sub]; rw [if_pos f2, f1])
/-- the address of an element's cell -/
def elemPtrO (es : Nat) (v : AV) (i o : Nat) : AV :=
  match v with
  | .sl id off _ _ => .ptr id (off + i * es + o)
  | .ssl id idx _ _ => .ptr id ((idx + i) * es + o)
  | _ => .junk
theorem elemPtrO_nj (x : sliceLen v = some k) {i o : Nat} (hi : i < k) : (elemPtrO es v i o).notJunk = some (elemPtrO es v i o) := by
  cases v <;> simp [sliceLen] at x <;> first | rfl | omega
theorem d_rwFld {i o : Nat} (x : sliceLen v = some k) (hi : i < k) : Does (.fieldAddr o) [elemPtr es v i] h (elemPtrO es v i o) h ∧ (elemPtrO es v i o).notJunk = some (elemPtrO es v i o) := by
  refine ⟨⟨rfl, ?_⟩, elemPtrO_nj x hi⟩
  cases v <;> simp [sliceLen] at x <;> first | rfl | omega
theorem d_slLoadO {i o : Nat} {y : AV} (st : St h L) (t : Take L (SlC v e es k d w) R) (hi : i < k) (ho : o < es) (hx : d.get (i * es + o) = some y) : Does .load1 [elemPtrO es v i o] h y h := by
  obtain ⟨cs, z, st'⟩ := (st.take t).unpack
  have hle : i * es + es ≤ k * es := by rw [← Nat.succ_mul]; exact Nat.mul_le_mul_right es hi
  rcases z with ⟨rfl, rfl, _⟩ | ⟨rfl, rfl, _⟩ | ⟨id, off, cap, D, e', es', sf, rfl, rfl, h3, _⟩ | ⟨id, idx, D, rfl, rfl, h3, _⟩
  · omega
  · omega
  · exact d_load1 st'.get (by rw [Nat.add_assoc, Dat.take_get h3 (by omega)]; exact hx)
  · exact d_load1 st'.get (by rw [Nat.add_mul, Nat.add_assoc, Dat.take_get h3 (by omega)]; exact hx)
theorem CL.get (hc : CL cells es) {i o : Nat} (hi : l[i]? = some a) (ho : o < es) : (l.flatMap cells)[i * es + o]? = (cells a)[o]? := by
  obtain ⟨f1, f2⟩ := hc.at hi
  rw [← f1, List.getElem?_take, if_pos ho, List.getElem?_drop]
theorem d_rwLoadF {i o : Nat} {y : AV} (hc : CL cells es) (st : St h L) (t : Take L (RwC v e es cells l w) R) (hi : l[i]? = some a) (hx : (cells a)[o]? = some y) : Does .load1 [elemPtrO es v i o] h y h := by
  have ho : o < es := by rw [← hc.len a]; exact (List.getElem?_eq_some_iff.1 hx).1
  exact d_slLoadO st t (List.getElem?_eq_some_iff.1 hi).1 ho (by show (l.flatMap cells)[i * es + o]? = _; rw [hc.get hi ho]; exact hx)
theorem put_in {c l x : List AV} {off n j : Nat} (hl : off + n ≤ c.length) (h : (c.drop off).take n = l) (hj : j + x.length ≤ n) :
    ∃ c', Dat.put (.vals c) (off + j) (.vals x) = some (.vals c') ∧ c'.length = c.length ∧ (c'.drop off).take n = l.take j ++ x ++ l.drop (j + x.length) := by
  refine ⟨c.take (off + j) ++ x ++ c.drop (off + j + x.length), by simp only [Dat.put]; rw [if_pos (by omega)], by simp; omega, ?_⟩
  subst h
  apply List.ext_getElem?
  intro i
  rw [List.getElem?_take, List.getElem?_drop]
  by_cases hi : i < n
  · rw [if_pos hi]
    by_cases h1 : i < j
    · rw [List.append_assoc, List.getElem?_append_left (by simp; omega), List.getElem?_take, if_pos (by omega)]
      rw [List.append_assoc, List.getElem?_append_left (by simp; omega), List.getElem?_take, if_pos h1, List.getElem?_take, if_pos hi, List.getElem?_drop]
    · by_cases h2 : i < j + x.length
      · rw [List.getElem?_append_left (by simp; omega), List.getElem?_append_right (by simp; omega)]
        rw [List.getElem?_append_left (by simp; omega), List.getElem?_append_right (by simp; omega)]
        congr 1; simp; omega
      · rw [List.getElem?_append_right (by simp; omega), List.getElem?_drop]
        rw [List.getElem?_append_right (by simp; omega), List.getElem?_drop, List.getElem?_take, if_pos (by simp; omega), List.getElem?_drop]
        congr 1; simp; omega
  · rw [if_neg hi, List.getElem?_eq_none]
    simp; omega
/-- a store into a slice's cells -/
theorem e_slStore {i o n : Nat} {l y : List AV} {z : AV} (st : St h L) (t : Take L (SlC v e es k (.vals l) true) R) (hi : i < k) (hz : z.dat = .vals y) (hy : y.length = n) (ho : o + n ≤ es) (hn : 0 < n) :
    Eff C (.store n) [elemPtrO es v i o, z] h fun q h' => q = .tuple [] ∧ St h' (SlC v e es k (.vals (l.take (i * es + o) ++ y ++ l.drop (i * es + o + n))) true :: R) := .mk (by
  subst hy
  obtain ⟨cs, u, st'⟩ := (st.take t).unpack
  have hle : i * es + es ≤ k * es := by rw [← Nat.succ_mul]; exact Nat.mul_le_mul_right es hi
  rcases u with ⟨rfl, h0, _⟩ | ⟨rfl, h0, _⟩ | ⟨id, off, cap, D, e', es', sf, rfl, rfl, h3, h4, h5⟩ | ⟨id, idx, D, rfl, rfl, h3, h4, h5⟩
  · omega
  · omega
  · obtain ⟨c, rfl, p1, p2⟩ := vals_of_take h3
    obtain ⟨c', q1, q2, q3⟩ := put_in (x := y) (j := i * es + o) p1 p2 (by omega)
    refine Does.do (v := .tuple []) (h1 := h.put id (.row e' es' sf false (.vals c'))) ⟨rfl, ?_⟩ ⟨rfl, St.pack (cs := [.pt id (.row e' es' sf false (.vals c'))]) (st'.put _) ?_⟩
    · simp only [aop, elemPtrO, st'.get, Bool.not_true, hz, Dat.len]
      rw [if_pos ⟨trivial, hn⟩, Nat.add_assoc, q1]; rfl
    · refine .inr (.inr (.inl ⟨id, off, cap, _, e', es', sf, rfl, rfl, ?_, h4, fun _ => by have := h5 rfl; simpa [Dat.len, q2] using this⟩))
      simp only [Dat.take]
      rw [if_pos (by omega), q3]
  · obtain ⟨c, rfl, p1, p2⟩ := vals_of_take h3
    obtain ⟨c', q1, q2, q3⟩ := put_in (x := y) (j := i * es + o) p1 p2 (by omega)
    refine Does.do (v := .tuple []) (h1 := h.put id (.row e es true false (.vals c'))) ⟨rfl, ?_⟩ ⟨rfl, St.pack (cs := [.pt id (.row e es true false (.vals c'))]) (st'.put _) ?_⟩
    · simp only [aop, elemPtrO, st'.get, hz, Dat.len]
      rw [if_pos ⟨trivial, hn⟩, Nat.add_mul, Nat.add_assoc, q1]; rfl
    · refine .inr (.inr (.inr ⟨id, idx, _, rfl, rfl, ?_, rfl, by simpa [Dat.len, q2] using h5⟩))
      simp only [Dat.take]
      rw [if_pos (by omega), q3])
theorem CL.set (hc : CL cells es) {i o : Nat} {a' : α} {y : List AV} (hi : l[i]? = some a) (hy : cells a' = (cells a).take o ++ y ++ (cells a).drop (o + y.length)) (ho : o + y.length ≤ es) :
    (l.flatMap cells).take (i * es + o) ++ y ++ (l.flatMap cells).drop (i * es + o + y.length) = (l.set i a').flatMap cells := by
  induction l generalizing i with
  | nil => simp at hi
  | cons b l ih =>
    cases i with
    | zero =>
      simp only [List.getElem?_cons_zero, Option.some.injEq] at hi
      subst hi
      have hb := hc.len b
      rw [List.set_cons_zero, List.flatMap_cons, List.flatMap_cons, hy, Nat.zero_mul, Nat.zero_add]
      rw [List.take_append_of_le_length (by omega), List.drop_append_of_le_length (by omega)]
      simp only [List.append_assoc]
    | succ i =>
      simp only [List.getElem?_cons_succ] at hi
      have hb := hc.len b
      rw [List.set_cons_succ, List.flatMap_cons, List.flatMap_cons, ← ih hi]
      have e1 : (i + 1) * es + o = (cells b).length + (i * es + o) := by rw [Nat.add_mul]; omega
      rw [e1, List.take_length_add_append, show (cells b).length + (i * es + o) + y.length = (cells b).length + (i * es + o + y.length) by omega, List.drop_length_add_append]
      simp only [List.append_assoc]
/-- some cells of an element are written -/
theorem e_rwStoreF {i o n : Nat} {a' : α} {y : List AV} {z : AV} (hc : CL cells es) (st : St h L) (t : Take L (RwC v e es cells l true) R) (hi : l[i]? = some a) (hz : z.dat = .vals y) (hn : y.length = n) (h0 : 0 < n) (ho : o + n ≤ es)
    (hy : cells a' = (cells a).take o ++ y ++ (cells a).drop (o + n)) :
    Eff C (.store n) [elemPtrO es v i o, z] h fun q h' => q = .tuple [] ∧ St h' (RwC v e es cells (l.set i a') true :: R) := by
  have := e_slStore (C := C) (o := o) st t (List.getElem?_eq_some_iff.1 hi).1 hz hn ho h0
  subst hn
  rw [hc.set hi hy ho] at this
  show Eff C _ _ _ fun q h' => q = .tuple [] ∧ St h' (SlC v e es (l.set i a').length (.vals ((l.set i a').flatMap cells)) true :: R)
  rw [List.length_set]; exact this
/-- append one list of structs to another -/
theorem e_rwAppend {z : Dat} {l l' : List α} (hc : CL cells es) (h0 : Nat.blt 0 es = true) (st : St h L) (t : Take L (RwC s e es cells l true) R) (t' : Take R (RwC x e es cells l' w) R') (hb : (l.length + l'.length) * b ≤ 2 ^ 40) (hk : l.length + l'.length ≤ 2 ^ 40) :
    Eff C (.append e es b z) [s, x] h fun v h' => v.notJunk = some v ∧ sliceLen v = some (l ++ l').length ∧ St h' (RwC v e es cells (l ++ l') true :: RwC x e es cells l' w :: R') := by
  have f1 := hc.flat l
  have f2 := hc.flat l'
  have := e_append (C := C) (z := z) (d'' := .vals (l.flatMap cells ++ l'.flatMap cells)) st t t' rfl (.inl ⟨_, _, rfl, rfl⟩) (fun h0 => by rw [List.eq_nil_of_length_eq_zero h0]; simp)
    (fun h0 => by rw [List.eq_nil_of_length_eq_zero h0, ← f2]; show Dat.take (.vals (l'.flatMap cells)) 0 (l'.flatMap cells).length = some (.vals ([] ++ l'.flatMap cells)); simp only [Dat.take, Nat.zero_add]; rw [if_pos (Nat.le_refl _), List.drop_zero, List.take_length, List.nil_append])
    (by rw [Nat.add_mul, ← f1, ← f2]; simp only [Dat.take, Nat.zero_add]; rw [if_pos (by simp), List.drop_zero, List.take_of_length_le (by simp)]) hb hk h0
  rw [← List.length_append, ← List.flatMap_append] at this
  exact this
/-- a new row of structs, as a slice -/
theorem St.rwRow {id n e' es' : Nat} {sf : Bool} {c : List AV} (hc : CL cells es) (l : List α) (st : St h L) (t : Take L (.pt id (.row e' es' sf false (.vals c))) R) (hl : c = l.flatMap cells) (hn : n = l.length) : St h (RwC (.sl id 0 n n) e es cells l true :: R) := by
  subst hn hl
  have f := hc.flat l
  refine St.pack (cs := [.pt id (.row e' es' sf false (.vals (l.flatMap cells)))]) (st.take t) (.inr (.inr (.inl ⟨id, 0, _, _, e', es', sf, rfl, rfl, ?_, Nat.le_refl _, fun _ => by simp only [Dat.len]; omega⟩)))
  rw [← f]; simp only [Dat.take, Nat.zero_add]; rw [if_pos (Nat.le_refl _), List.drop_zero, List.take_length]
/-- no structs -/
theorem St.rwNil (st : St h L) (e es : Nat) (cells : α → List AV) (w : Bool) : St h (RwC .nilsl e es cells [] w :: L) := St.nilslice st e es w
end
def sL : ACode → ACode
  | .seq a _ => a
  | c => c
def sR : ACode → ACode
  | .seq _ b => b
  | c => c
def bB : ACode → ACode
  | .block _ b => b
  | c => c
def dr : ACode → List (List DI)
  | .draw l => l
  | _ => []
def cA : ACode → ACode
  | .cond _ a _ => a
  | c => c
end Go.Proofs.Ytjdemlagmamlbaa

namespace Go.Proofs.Ytjdemlagmamlbaa
/-- a loop over a function, as a part: what its frame's slots are -/
def LpIs (I : Nat) (st : LoopState) (j : Option AExit) (s : Env) (N : Nat) (ps : List Nat) (asg body : ACode) (cs : List Chunk) : Prop :=
  ∃ tmps, cs = [.pt I (.loop st j tmps ps asg body)] ∧ tmps.length = N ∧ Cov s tmps
abbrev LpC (I : Nat) (st : LoopState) (j : Option AExit) (s : Env) (N : Nat) (ps : List Nat) (asg body : ACode) : Chunk := pk 30 (.yield I) (LpIs I st j s N ps asg body)
def setS : Env → List Nat → List AV → Env
  | s, [], _ => s
  | s, _, [] => s
  | s, p :: ps, v :: vs => setS ((p, v) :: s) ps vs
theorem cov_setAll {N : Nat} : ∀ {ps : List Nat} {vs : List AV} {s : Env} {e : List AV}, Cov s e → e.length = N → (∀ p, p ∈ ps → p < N) → NoJunk vs → Cov (setS s ps vs) (setAll e ps vs) ∧ (setAll e ps vs).length = N
  | [], _, _, _, hc, hl, _, _ => ⟨by simpa [setS, setAll] using hc, by simpa [setAll] using hl⟩
  | _ :: _, [], _, _, hc, hl, _, _ => ⟨by simpa [setS, setAll] using hc, by simpa [setAll] using hl⟩
  | p :: ps, v :: vs, s, e, hc, hl, hp, hj => by
    simp only [setS, setAll]
    exact cov_setAll (hc.set (by rw [hl]; exact hp p List.mem_cons_self) hj.1) (by simpa using hl) (fun q hq => hp q (List.mem_cons_of_mem _ hq)) hj.2
section
variable {O : Nat → Option FSpec} {T : BT} {ro : Option Nat} {N : Nat} {Q : AExit → Env → AHeap → Prop} {k : List KI} {s : Env} {h : AHeap} {L R : List Chunk}
/-- A LOOP OVER A FUNCTION: the function is called with a value that runs rounds; behind it the frame goes on, or does what a round broke off for. -/
theorem W.rfun {f : Opd} {ps : List Nat} {asg body : ACode} {g : Nat} {first captured : List AV} {Ps : List Chunk} {post : Option AExit → List Chunk → Prop}
    (hf : evalS s f = some (.func g first captured)) (hro : ∀ l, ro = some l → isLoop h l) (st : St h L) (hp : Pick L Ps R)
    (hsp : ∀ I, Spec (progI O T) (.f g) (first ++ [.yield I] ++ captured) (LpC I .ready none s N ps asg body :: Ps) fun _ Rs => ∃ st' j Cl, Rs = LpC I st' j s N ps asg body :: Cl ∧ st' ≠ .busy ∧ post j Cl)
    (w : ∀ j Cl h', post j Cl → St h' (Cl ++ R) → W O T ro N Q (j.getD .normal) k s h') : W O T ro N Q .normal (.code (.rfun f ps asg body) :: k) s h := ⟨fun e hl hc => by
  simp only [postK, execW, hc.eval hf]
  refine ⟨hro, ?_⟩
  have st1 := (st.pick hp).new (.loop .ready none e ps asg body)
  have st2 : St (h.new (.loop .ready none e ps asg body)) ((LpC h.next .ready none s N ps asg body :: Ps) ++ R) := St.pack (cs := [_]) st1 ⟨e, rfl, hl, hc⟩
  refine progI_mono _ _ _ _ _ ?_ (hsp h.next _ R st2)
  rintro v h' ⟨Rs, ⟨st', j, Cl, rfl, hb, hpost⟩, st3⟩
  obtain ⟨cs, ⟨tmps, rfl, ht, hct⟩, st4⟩ := St.unpack st3
  unfold endW
  rw [st4.get]
  exact ⟨hb, (w j Cl _ hpost st4.kill).run e hl hc⟩⟩
/-- what a round's body comes to -/
def rdQ (I : Nat) (s : Env) (N : Nat) (ps : List Nat) (asg body : ACode) (post : AV → List Chunk → Prop) (F : List Chunk) : AExit → Env → AHeap → Prop := fun x _ h =>
  ∃ st j Cl, St h (LpC I st j s N ps asg body :: (Cl ++ F)) ∧ match x with
    | .normal => post (.bool true) (LpC I .ready none s N ps asg body :: Cl)
    | x => post (.bool false) (LpC I .done (some x) s N ps asg body :: Cl)
/-- what its assignments come to -/
def agQ (O : Nat → Option FSpec) (T : BT) (I : Nat) (s : Env) (N : Nat) (ps : List Nat) (asg body : ACode) (post : AV → List Chunk → Prop) (F : List Chunk) : AExit → Env → AHeap → Prop := fun x s1 h =>
  x = .normal ∧ ∃ j L, St h (LpC I .ready j s N ps asg body :: L) ∧ ∀ h, St h (LpC I .busy j s N ps asg body :: L) → W O T (some I) N (rdQ I s N ps asg body post F) .normal [.code body] s1 h
/-- A ROUND of a loop over a function -/
theorem spec_round {I : Nat} {ps : List Nat} {asg body : ACode} {A : List Chunk} {args : List AV} {post : AV → List Chunk → Prop} (hj : NoJunk args) (hl : args.length = ps.length) (hps : ps.all (fun p => Nat.blt p N) = true)
    (k : ∀ h F, St h (LpC I .ready none s N ps asg body :: (A ++ F)) → W O T (some I) N (agQ O T I s N ps asg body post F) .normal [.code asg] (setS s ps args) h) :
    Spec (progI O T) (.y I) args (LpC I .ready none s N ps asg body :: A) post := by
  intro h F st
  refine progI_round ?_
  have w := k h F st
  obtain ⟨cs, ⟨tmps, rfl, ht, hct⟩, st0⟩ := St.unpack st
  unfold roundW
  rw [st0.get]
  have hps' : ∀ p, p ∈ ps → p < N := fun p hp => blt_of (List.all_eq_true.1 hps p hp)
  obtain ⟨c1, c2⟩ := cov_setAll hct ht hps' hj
  refine ⟨hl, execW_mono (fun _ _ _ _ x => x) progI_mono (fun x e1 h1 q => ?_) (w.run _ c2 c1)⟩
  obtain ⟨s1, l1, v1, rfl, j, L1, st1, k1⟩ : ∃ s1, e1.length = N ∧ Cov s1 e1 ∧ agQ O T I s N ps asg body post F x s1 h1 := by
    cases x <;> exact q
  refine ⟨rfl, ?_⟩
  obtain ⟨cs1, ⟨t1, rfl, ht1, hct1⟩, st2⟩ := St.unpack st1
  rw [st2.get]
  have st3 := st2.put (.loop .busy j t1 ps asg body)
  have st4 : St (h1.put I (.loop .busy j t1 ps asg body)) (LpC I .busy j s N ps asg body :: L1) := St.pack (cs := [_]) st3 ⟨t1, rfl, ht1, hct1⟩
  refine execW_mono (fun _ _ _ _ x => x) progI_mono (fun x e2 h2 q => ?_) ((k1 _ st4).run _ l1 v1)
  obtain ⟨s2, _, _, st', j', Cl, st5, hpost⟩ : ∃ s2, e2.length = N ∧ Cov s2 e2 ∧ rdQ I s N ps asg body post F x s2 h2 := by
    cases x <;> exact q
  obtain ⟨cs2, ⟨t2, rfl, ht2, hct2⟩, st6⟩ := St.unpack st5
  unfold roundEnd
  rw [st6.get]
  cases x with
  | normal => exact ⟨_, hpost, St.pack (cs := [_]) (st6.put _) ⟨t2, rfl, ht2, hct2⟩⟩
  | exit i => exact ⟨_, hpost, St.pack (cs := [_]) (st6.put _) ⟨t2, rfl, ht2, hct2⟩⟩
  | ret => exact ⟨_, hpost, St.pack (cs := [_]) (st6.put _) ⟨t2, rfl, ht2, hct2⟩⟩
/-- a value is yielded, by what is known of the rounds -/
theorem e_yieldS {C : SemW} {l : Nat} {rest : List AV} {Ps : List Chunk} {post : AV → List Chunk → Prop} (hM : MonoW C) (hs : Spec C (.y l) rest Ps post) (st : St h L) (hp : Pick L Ps R) :
    Eff C .callv (.yield l :: rest) h fun v h' => ∃ Rs, post v Rs ∧ St h' (Rs ++ R) := .mk (hM _ _ _ _ _ (fun _ _ x => x) (hs h R (st.pick hp)))
/-- a contract, its parts told in other words -/
theorem Spec.conv {C : SemW} (hM : MonoW C) {f : Fn} {args : List AV} {Ps Ps' : List Chunk} {post post' : AV → List Chunk → Prop} (s : Spec C f args Ps post) (pre : ∀ h F, St h (Ps' ++ F) → St h (Ps ++ F))
    (po : ∀ v Rs h F, post v Rs → St h (Rs ++ F) → ∃ Rs', post' v Rs' ∧ St h (Rs' ++ F)) : Spec C f args Ps' post' :=
  fun h F st => hM _ _ _ _ _ (fun _ _ ⟨Rs, h1, h2⟩ => po _ Rs _ _ h1 h2) (s h F (pre h F st))
theorem Spec.unpk {C : SemW} {f : Fn} {args : List AV} {Ps : List Chunk} {post : AV → List Chunk → Prop} {t : Nat} {ky : AV} {P : List Chunk → Prop} (hs : ∀ cs, P cs → Spec C f args (cs ++ Ps) post) : Spec C f args (pk t ky P :: Ps) post := fun h F st => by
  obtain ⟨cs, hp, st⟩ := St.unpack st
  exact hs cs hp h F (by rw [List.append_assoc]; exact st)
end
end Go.Proofs.Ytjdemlagmamlbaa

namespace Go.Proofs.Ytjdemlagmamlbaa
section
variable {h : AHeap} {L R R' : List Chunk} {s x v : AV} {e es b k m : Nat} {d d' d'' : Dat} {w : Bool} {C : SemW}
/-- a slice's cells can be read in a heap -/
structure Vw (h : AHeap) (x : AV) (es m : Nat) (d : Dat) : Prop where
  len : sliceLen x = some m
  dat : ∃ d0, sliceDat h es x = some d0 ∧ (m ≠ 0 → d0 = d) ∧ d0.len = m * es
theorem SlIs.vw {cs : List Chunk} (y : SlIs v e es k d w cs) (st : St h (cs ++ L)) : Vw h v es k d := ⟨y.len, y.sliceDat st⟩
theorem St.vw (st : St h L) (t : Take L (SlC v e es k d w) R) : Vw h v es k d := by
  obtain ⟨cs, y, st'⟩ := (st.take t).unpack
  exact y.vw st'
theorem vals_take {l : List AV} {n : Nat} (h : n ≤ l.length) : Dat.take (.vals l) 0 n = some (.vals (l.take n)) := by
  simp only [Dat.take, Nat.zero_add, List.drop_zero]; rw [if_pos h]
theorem take_at {c l : List AV} {off n i m : Nat} (h : Dat.take (.vals c) off n = some (.vals l)) (hi : i + m ≤ n) : Dat.take (.vals c) (off + i) m = some (.vals ((l.drop i).take m)) := by
  simp only [Dat.take] at h ⊢
  split at h
  · cases h
    rw [if_pos (by omega)]
    congr 2
    rw [List.drop_take, List.take_take, List.drop_drop, Nat.min_eq_left (by omega)]
  · cases h
/-- l[:a:a] -/
theorem d_headV {a : Nat} {l : List AV} {kk : IntKind} (hc : a ≤ k) (st : St h L) (t : Take L (SlC v e es k (.vals l) true) R) :
    ∃ p, Does (.slice es false true true) [v, .int kk a, .int kk a] h p h ∧ p.notJunk = some p ∧ okSame p = true ∧ ∀ h' L' R', St h' L' → Take L' (SlC v e es k (.vals l) true) R' → Vw h' p es a (.vals (l.take (a * es))) := by
  have hle : a * es ≤ k * es := Nat.mul_le_mul_right _ hc
  have key : ∃ p, Does (.slice es false true true) [v, .int kk a, .int kk a] h p h ∧ p.notJunk = some p ∧ okSame p = true ∧ ∀ h', (∃ cs L', SlIs v e es k (.vals l) true cs ∧ St h' (cs ++ L')) → Vw h' p es a (.vals (l.take (a * es))) := by
    obtain ⟨cs, y, st'⟩ := (st.take t).unpack
    have hb : ∀ cap : Nat, k ≤ cap → bounds3 k cap false true true [.int kk a, .int kk a] = some (0, a, a) := fun cap hcap => by
      simp only [bounds3]; rw [if_pos (by omega)]; simp
    rcases y with ⟨rfl, rfl, _⟩ | ⟨_, _, _, _, hw⟩ | ⟨id, off, cap, D, e', es', sf, rfl, rfl, h3, hc', hw⟩ | ⟨id, idx, D, rfl, rfl, h3, hw, hfl⟩
    · have : a = 0 := by omega
      subst this
      exact ⟨.nilsl, ⟨rfl, rfl⟩, rfl, rfl, fun h' _ => ⟨rfl, .vals [], rfl, fun h => absurd rfl h, by simp [Dat.len]⟩⟩
    · cases hw
    · refine ⟨.sl id off a a, ⟨rfl, ?_⟩, rfl, rfl, ?_⟩
      · simp only [aop, hb cap hc', Option.map_some, Nat.zero_mul, Nat.add_zero, ite_self, Nat.sub_zero]
      · rintro h' ⟨cs, L', y, st2⟩
        rcases y with ⟨e, _⟩ | ⟨e, _⟩ | ⟨id2, off2, cap2, D2, _, _, _, e, rfl, g3, _, _⟩ | ⟨_, _, _, e, _⟩
        · cases e
        · cases e
        · cases e
          obtain ⟨c, rfl, p1, p2⟩ := vals_of_take g3
          have := take_at (i := 0) g3 (by omega : 0 + a * es ≤ k * es)
          rw [Nat.add_zero, List.drop_zero] at this
          exact ⟨rfl, _, by simp only [sliceDat, st2.get]; exact this, fun _ => rfl, (Dat.take_spec this).1⟩
        · cases e
    · refine ⟨.sl id (idx * es) a a, ⟨rfl, ?_⟩, rfl, rfl, ?_⟩
      · simp only [aop, hb k (Nat.le_refl _), Option.map_some, Nat.add_zero, ite_self, Nat.sub_zero, if_true]
      · rintro h' ⟨cs, L', y, st2⟩
        rcases y with ⟨e, _⟩ | ⟨e, _⟩ | ⟨_, _, _, _, _, _, _, e, _⟩ | ⟨id2, idx2, D2, e, rfl, g3, _, _⟩
        · cases e
        · cases e
        · cases e
        · cases e
          obtain ⟨c, rfl, p1, p2⟩ := vals_of_take g3
          have := take_at (i := 0) g3 (by omega : 0 + a * es ≤ k * es)
          rw [Nat.add_zero, List.drop_zero] at this
          exact ⟨rfl, _, by simp only [sliceDat, st2.get]; exact this, fun _ => rfl, (Dat.take_spec this).1⟩
  obtain ⟨p, h1, h2, h3, h4⟩ := key
  refine ⟨p, h1, h2, h3, fun h' L' R' st' t' => ?_⟩
  obtain ⟨cs, y, st2⟩ := (st'.take t').unpack
  exact h4 h' ⟨cs, _, y, st2⟩
/-- l[a:] -/
theorem d_tailV {a : Nat} {l : List AV} {kk : IntKind} (hc : a ≤ k) (st : St h L) (t : Take L (SlC v e es k (.vals l) true) R) :
    ∃ p, Does (.slice es true false false) [v, .int kk a] h p h ∧ p.notJunk = some p ∧ okSame p = true ∧ ∀ h' L' R', St h' L' → Take L' (SlC v e es k (.vals l) true) R' → Vw h' p es (k - a) (.vals (l.drop (a * es))) := by
  have hle : a * es ≤ k * es := Nat.mul_le_mul_right _ hc
  have hsub : (k - a) * es = k * es - a * es := Nat.sub_mul _ _ _
  have key : ∃ p, Does (.slice es true false false) [v, .int kk a] h p h ∧ p.notJunk = some p ∧ okSame p = true ∧ ∀ h', (∃ cs L', SlIs v e es k (.vals l) true cs ∧ St h' (cs ++ L')) → Vw h' p es (k - a) (.vals (l.drop (a * es))) := by
    obtain ⟨cs, y, st'⟩ := (st.take t).unpack
    have hb : ∀ cap : Nat, bounds3 k cap true false false [.int kk a] = some (a, k, cap) := fun cap => by
      simp only [bounds3]; rw [if_pos (by omega)]; simp
    rcases y with ⟨rfl, rfl, _⟩ | ⟨_, _, _, _, hw⟩ | ⟨id, off, cap, D, e', es', sf, rfl, rfl, h3, hc', hw⟩ | ⟨id, idx, D, rfl, rfl, h3, hw, hfl⟩
    · have : a = 0 := by omega
      subst this
      exact ⟨.nilsl, ⟨rfl, rfl⟩, rfl, rfl, fun h' _ => ⟨rfl, .vals [], rfl, fun h => absurd rfl h, by simp [Dat.len]⟩⟩
    · cases hw
    · refine ⟨.sl id (if cap = a then off else off + a * es) (k - a) (cap - a), ⟨rfl, ?_⟩, rfl, rfl, ?_⟩
      · simp only [aop, hb cap, Option.map_some]
      · rintro h' ⟨cs, L', y, st2⟩
        rcases y with ⟨e, _⟩ | ⟨e, _⟩ | ⟨id2, off2, cap2, D2, _, _, _, e, rfl, g3, _, _⟩ | ⟨_, _, _, e, _⟩
        · cases e
        · cases e
        · cases e
          obtain ⟨c, rfl, p1, p2⟩ := vals_of_take g3
          have hlen : l.length = k * es := by have := (Dat.take_spec g3).1; simpa [Dat.len] using this
          by_cases hca : cap = a
          · rw [if_pos hca]
            have hk0 : k - a = 0 := by omega
            have := take_at (i := 0) (m := 0) g3 (by omega)
            rw [Nat.add_zero] at this
            refine ⟨rfl, _, by simp only [sliceDat, st2.get, hk0, Nat.zero_mul]; exact this, fun h => absurd hk0 h, by rw [hk0, Nat.zero_mul]; exact (Dat.take_spec this).1⟩
          · rw [if_neg hca]
            have := take_at (i := a * es) (m := (k - a) * es) g3 (by omega)
            rw [List.take_of_length_le (by simp; omega)] at this
            exact ⟨rfl, _, by simp only [sliceDat, st2.get]; exact this, fun _ => rfl, (Dat.take_spec this).1⟩
        · cases e
    · by_cases h0 : a < k ∨ a = 0
      · refine ⟨.ssl id (idx + a) es (k - a), ⟨rfl, ?_⟩, rfl, rfl, ?_⟩
        · simp only [aop, hb k, Option.bind_some, if_true]; rw [if_pos h0]
        · rintro h' ⟨cs, L', y, st2⟩
          rcases y with ⟨e, _⟩ | ⟨e, _⟩ | ⟨_, _, _, _, _, _, _, e, _⟩ | ⟨id2, idx2, D2, e, rfl, g3, _, _⟩
          · cases e
          · cases e
          · cases e
          · cases e
            obtain ⟨c, rfl, p1, p2⟩ := vals_of_take g3
            have hlen : l.length = k * es := by have := (Dat.take_spec g3).1; simpa [Dat.len] using this
            have := take_at (i := a * es) (m := (k - a) * es) g3 (by omega)
            rw [List.take_of_length_le (by simp; omega), ← Nat.add_mul] at this
            exact ⟨rfl, _, by simp only [sliceDat, st2.get, if_true]; exact this, fun _ => rfl, (Dat.take_spec this).1⟩
      · have hka : k - a = 0 := by omega
        refine ⟨.esl, ⟨rfl, ?_⟩, rfl, rfl, ?_⟩
        · simp only [aop, hb k, Option.bind_some, if_true]; rw [if_neg h0]
        · rintro h' _
          exact ⟨by rw [hka]; rfl, .vals [], rfl, fun h => absurd hka h, by rw [hka]; simp [Dat.len]⟩
  obtain ⟨p, h1, h2, h3, h4⟩ := key
  refine ⟨p, h1, h2, h3, fun h' L' R' st' t' => ?_⟩
  obtain ⟨cs, y, st2⟩ := (st'.take t').unpack
  exact h4 h' ⟨cs, _, y, st2⟩
/-- a slice is nil or not -/
theorem d_isNil (x : sliceLen v = some k) (hn : v ≠ .nilsl) : Does (.eqv false .slice) [v, .nilsl] h (.bool false) h := ⟨rfl, by
  cases v <;> simp [sliceLen] at x <;> first | rfl | exact absurd rfl hn⟩
/-- a slice that has grown: there is room behind its elements -/
def GrIs (v : AV) (e es k room : Nat) (l : List AV) (cs : List Chunk) : Prop :=
  ∃ id D, v = .ssl id 0 es k ∧ cs = [.pt id (.row e es true false (.vals D))] ∧ D.length = room * es ∧ D.take (k * es) = l ∧ k ≤ room
abbrev GrC (v : AV) (e es k room : Nat) (l : List AV) : Chunk := pk 33 v (GrIs v e es k room l)
theorem St.gr {l : List AV} {room : Nat} (st : St h L) (t : Take L (GrC v e es k room l) R) : sliceLen v = some k ∧ v.notJunk = some v ∧ l.length = k * es := by
  obtain ⟨cs, ⟨id, D, rfl, rfl, h1, h2, h3⟩, _⟩ := (st.take t).unpack
  refine ⟨rfl, rfl, ?_⟩
  rw [← h2, List.length_take, h1, Nat.min_eq_left (Nat.mul_le_mul_right _ h3)]
theorem e_appendG {z : Dat} {l l' : List AV} {room : Nat} (st : St h L) (t : Take L (GrC s e es k room l) R) (hv : Vw h x es m (.vals l')) (h2 : l'.length = m * es) (hr : k + m ≤ room) (hes : Nat.blt 0 es = true) :
    Eff C (.append e es b z) [s, x] h fun v h' => v.notJunk = some v ∧ sliceLen v = some (k + m) ∧ St h' (GrC v e es (k + m) room (l ++ l') :: R) := .mk (by
  have hlt := blt_of hes
  have hlx := hv.len
  obtain ⟨d0, hd0, hdm, hl0⟩ := hv.dat
  obtain ⟨cs, ⟨id, D, rfl, rfl, p1, p2, p3⟩, st'⟩ := (st.take t).unpack
  by_cases hm : m = 0
  · subst hm
    have e0 : l' = [] := List.eq_nil_of_length_eq_zero (by omega)
    subst e0
    refine Does.do (v := .ssl id 0 es k) (h1 := h) ⟨rfl, ?_⟩ ⟨rfl, rfl, ?_⟩
    · simp only [aop, hlx, hd0]; rfl
    · rw [List.append_nil]
      exact St.pack (cs := [_]) st' ⟨id, D, rfl, rfl, p1, p2, p3⟩
  · have e0 := hdm hm
    subst e0
    have hle : k * es + m * es ≤ room * es := by rw [← Nat.add_mul]; exact Nat.mul_le_mul_right _ hr
    have hput : Dat.put (.vals D) ((0 + k) * es) (.vals l') = some (.vals (D.take ((0 + k) * es) ++ l' ++ D.drop ((0 + k) * es + l'.length))) := by
      simp only [Dat.put]; rw [if_pos (by rw [Nat.zero_add]; omega)]
    refine Does.do (v := .ssl id 0 es (k + m)) (h1 := h.put id (.row e es true false (.vals (D.take ((0 + k) * es) ++ l' ++ D.drop ((0 + k) * es + l'.length))))) ⟨rfl, ?_⟩ ⟨rfl, rfl, ?_⟩
    · simp only [aop, hlx, hd0, ap_ssl hm st'.get]
      rw [if_pos ⟨trivial, trivial, trivial, hlt⟩, if_pos (by rw [Dat.len, p1, Nat.zero_add, Nat.add_mul]; omega), hput]; rfl
    · refine St.pack (cs := [_]) (st'.put _) ⟨id, _, rfl, rfl, ?_, ?_, hr⟩
      · simp only [List.length_append, List.length_take, List.length_drop, p1, Nat.zero_add]; omega
      · have hl : l.length = k * es := by rw [← p2, List.length_take, p1, Nat.min_eq_left (by omega)]
        rw [Nat.zero_add, p2, Nat.add_mul, ← hl, ← h2, ← List.length_append, List.take_left'  rfl])
/-- a grown slice that is full -/
theorem St.grFull {l : List AV} (st : St h L) (t : Take L (GrC v e es k k l) R) : St h (SlC v e es k (.vals l) true :: R) := by
  refine (st.take t).mono fun cs ⟨id, D, e1, e2, p1, p2, p3⟩ => ?_
  refine .inr (.inr (.inr ⟨id, 0, .vals D, e1, e2, ?_, rfl, by simp [Dat.len, p1]⟩))
  rw [Nat.zero_mul, vals_take (by omega), p2]
end
end Go.Proofs.Ytjdemlagmamlbaa

namespace Go.Proofs.Ytjdemlagmamlbaa
/-- a run -/
structure RunV where
  lo : Int
  hi : Int
  n : Int
abbrev RunV.cells (r : RunV) : List AV := [.int .i64 r.lo, .int .i64 r.hi, .int .i64 r.n]
theorem runCL : CL RunV.cells 3 := ⟨fun _ => rfl⟩
abbrev RunsC (v : AV) (l : List RunV) : Chunk := RwC v ty_api_Run 3 RunV.cells l true
abbrev ibox1 (n : Int) : AObj := .row 3 1 false false (.vals [.int .i64 n])
theorem neqS (n : Int) : (n != n) = false := by simp
theorem eqS (n : Int) : (n == n) = true := beq_self_eq_true n
theorem take_snoc1 {α : Type} {l : List α} {i : Nat} {a : α} (h : l[i]? = some a) : l.take (i + 1) = l.take i ++ [a] := by
  rw [List.take_add_one, h]; rfl
/-- a clone -/
theorem runs_Clone {v : AV} {l : List RunV} (hb : l.length ≤ 100000) : Spec R (.f n_slices_Clone_api_Run_api_Run) [v] [RunsC v l] fun x Rs => x.notJunk = some x ∧ sliceLen x = some l.length ∧ Rs = [RunsC x l, RunsC v l] := by
  refine spec_in fun h F st => ?_
  obtain ⟨vl, vj, vs⟩ := St.rw (v := v) (l := l) st Tk
  by_cases hn : v = .nilsl
  · subst hn
    have e0 : l = [] := List.eq_nil_of_length_eq_zero (by simpa [sliceLen] using vl.symm)
    subst e0
    clear st h F; refine spec_w (fun _ _ _ x => progI_call rfl rfl x) Njs rfl (fun h F st => ?_); dsimp only [List.cons_append, List.nil_append] at st
    (repeat (first | (show W _ _ _ _ _ _ (.code (cond _ _ _) :: _) _ _; first | refine W.ct ?_ | refine W.cf ?_) | (show W _ _ _ _ _ _ (.ins (cond _ _ _ :: _) :: _) _ _; first | refine W.gt ?_ | refine W.gf ?_) | (show W _ _ _ _ _ _ [] _ _; refine W.of (.done ?_)) | (apply W.of; constructor <;> first | (show W _ _ _ _ _ _ _ _ _) | (intro (al : Nat) h st; show W _ _ _ _ _ _ _ _ _) | (intro _ h st; show W _ _ _ _ _ _ _ _ _) | exact Sd)))
    exact ⟨_, rfl, _, ⟨rfl, rfl, rfl⟩, st.rwNil _ _ _ _⟩
  · clear st h F; refine spec_w (fun _ _ _ x => progI_call rfl rfl x) Njs rfl (fun h F st => ?_); dsimp only [List.cons_append, List.nil_append] at st
    (repeat (first | (show W _ _ _ _ _ _ (.code (cond _ _ _) :: _) _ _; first | refine W.ct ?_ | refine W.cf ?_) | (show W _ _ _ _ _ _ (.ins (cond _ _ _ :: _) :: _) _ _; first | refine W.gt ?_ | refine W.gf ?_) | (show W _ _ _ _ _ _ [] _ _; refine W.of (.done ?_)) | (apply W.of; constructor <;> first | (show W _ _ _ _ _ _ _ _ _) | (intro (al : Nat) h st; show W _ _ _ _ _ _ _ _ _) | (intro _ h st; show W _ _ _ _ _ _ _ _ _) | exact Sd)))
    (repeat (first | (show W _ _ _ _ _ _ (.code (cond _ _ _) :: _) _ _; first | refine W.ct ?_ | refine W.cf ?_) | (show W _ _ _ _ _ _ (.ins (cond _ _ _ :: _) :: _) _ _; first | refine W.gt ?_ | refine W.gf ?_) | (show W _ _ _ _ _ _ [] _ _; refine W.of (.done ?_)) | (apply W.of; constructor <;> first | (show W _ _ _ _ _ _ _ _ _) | (intro (al : Nat) h st; show W _ _ _ _ _ _ _ _ _) | (intro _ h st; show W _ _ _ _ _ _ _ _ _) | exact Sd))); refine W.do (ho := (d_isNil vl hn)) (w := ?_)
    (repeat (first | (show W _ _ _ _ _ _ (.code (cond _ _ _) :: _) _ _; first | refine W.ct ?_ | refine W.cf ?_) | (show W _ _ _ _ _ _ (.ins (cond _ _ _ :: _) :: _) _ _; first | refine W.gt ?_ | refine W.gf ?_) | (show W _ _ _ _ _ _ [] _ _; refine W.of (.done ?_)) | (apply W.of; constructor <;> first | (show W _ _ _ _ _ _ _ _ _) | (intro (al : Nat) h st; show W _ _ _ _ _ _ _ _ _) | (intro _ h st; show W _ _ _ _ _ _ _ _ _) | exact Sd)))
    have st := St.rwRow (e := ty_api_Run) runCL ([] : List RunV) st Tk rfl rfl
    (repeat (first | (show W _ _ _ _ _ _ (.code (cond _ _ _) :: _) _ _; first | refine W.ct ?_ | refine W.cf ?_) | (show W _ _ _ _ _ _ (.ins (cond _ _ _ :: _) :: _) _ _; first | refine W.gt ?_ | refine W.gf ?_) | (show W _ _ _ _ _ _ [] _ _; refine W.of (.done ?_)) | (apply W.of; constructor <;> first | (show W _ _ _ _ _ _ _ _ _) | (intro (al : Nat) h st; show W _ _ _ _ _ _ _ _ _) | (intro _ h st; show W _ _ _ _ _ _ _ _ _) | exact Sd))); refine W.ef (ho := (e_rwAppend (l := []) (l' := l) runCL rfl st Tk Tk (by simp; omega) (by simp; omega))) (w := ?_); rintro vv h ⟨bj, bl, st⟩; refine nj ?_
    (repeat (first | (show W _ _ _ _ _ _ (.code (cond _ _ _) :: _) _ _; first | refine W.ct ?_ | refine W.cf ?_) | (show W _ _ _ _ _ _ (.ins (cond _ _ _ :: _) :: _) _ _; first | refine W.gt ?_ | refine W.gf ?_) | (show W _ _ _ _ _ _ [] _ _; refine W.of (.done ?_)) | (apply W.of; constructor <;> first | (show W _ _ _ _ _ _ _ _ _) | (intro (al : Nat) h st; show W _ _ _ _ _ _ _ _ _) | (intro _ h st; show W _ _ _ _ _ _ _ _ _) | exact Sd)))
    exact ⟨_, rfl, _, ⟨bj, bl, rfl⟩, st⟩
/-- a run more, put with the last one if they have one count -/
def joinS (out : List RunV) (r : RunV) : List RunV :=
  match out[out.length - 1]? with
  | some p => if p.n = r.n then out.set (out.length - 1) { p with hi := r.hi } else out ++ [r]
  | none => out ++ [r]
def joinM (l : List RunV) : List RunV := l.foldl joinS []
theorem joinM_snoc (l : List RunV) (r : RunV) : joinM (l ++ [r]) = joinS (joinM l) r := by unfold joinM; rw [List.foldl_append]; rfl
theorem joinS_len (out : List RunV) (r : RunV) : (joinS out r).length ≤ out.length + 1 := by
  unfold joinS
  split
  · split <;> simp
  · simp
theorem joinM_len : ∀ l : List RunV, (joinM l).length ≤ l.length := by
  intro l
  have key : ∀ (l out : List RunV), (l.foldl joinS out).length ≤ out.length + l.length := by
    intro l
    induction l with
    | nil => intro out; simp
    | cons r l ih => intro out; have := ih (joinS out r); have := joinS_len out r; simp only [List.foldl_cons, List.length_cons]; omega
  have := key l []
  simpa [joinM] using this
structure JoS where
  i : Nat
  out : AV
set_option maxRecDepth 4000 in
theorem spread_join {v : AV} {l : List RunV} (hb : l.length ≤ 100000) : Spec R (.f n_spread_join) [v] [RunsC v l] fun x Rs => x.notJunk = some x ∧ sliceLen x = some (joinM l).length ∧ Rs = [RunsC x (joinM l), RunsC v l] := by
  refine spec_in fun h F st => ?_
  obtain ⟨vl, vj, vs⟩ := St.rw (v := v) (l := l) st Tk
  clear st h F; refine spec_w (fun _ _ _ x => progI_call rfl rfl x) Njs rfl (fun h F st => ?_); dsimp only [List.cons_append, List.nil_append] at st
  (repeat (first | (show W _ _ _ _ _ _ (.code (cond _ _ _) :: _) _ _; first | refine W.ct ?_ | refine W.cf ?_) | (show W _ _ _ _ _ _ (.ins (cond _ _ _ :: _) :: _) _ _; first | refine W.gt ?_ | refine W.gf ?_) | (show W _ _ _ _ _ _ [] _ _; refine W.of (.done ?_)) | (apply W.of; constructor <;> first | (show W _ _ _ _ _ _ _ _ _) | (intro (al : Nat) h st; show W _ _ _ _ _ _ _ _ _) | (intro _ h st; show W _ _ _ _ _ _ _ _ _) | exact Sd)))
  have st := st.rwNil ty_api_Run 3 RunV.cells true
  refine W.loop (fun y : JoS => [(3, y.out), (7, v), (8, .int .i64 l.length), (9, .int .i64 y.i)]) (fun y => RunsC y.out (joinM (l.take y.i)) :: RunsC v l :: F)
    (fun y => y.i ≤ l.length) (fun y => l.length - y.i) ⟨0, .nilsl⟩ (small_rounds (by simp only; omega)) Sbs (st.sel Sels) (Nat.zero_le _) ?_
  clear st
  intro ⟨i, out⟩ h hi st
  dsimp only at hi st ⊢
  obtain ⟨ol, oj, os⟩ := St.rw (v := out) (l := joinM (l.take i)) st Tk
  have hk := joinM_len (l.take i)
  rw [List.length_take] at hk
  by_cases hlt : i < l.length
  · obtain ⟨a, ha⟩ : ∃ a, l[i]? = some a := ⟨l[i], by simp [hlt]⟩
    have ej : joinM (l.take (i + 1)) = joinS (joinM (l.take i)) a := by rw [take_snoc1 ha, joinM_snoc]
    obtain ⟨gp, gq⟩ := d_rwIdx (v := v) (l := l) (kk := .i64) st Tk hlt
    (repeat (first | (show W _ _ _ _ _ _ (.code (cond _ _ _) :: _) _ _; first | refine W.ct ?_ | refine W.cf ?_) | (show W _ _ _ _ _ _ (.ins (cond _ _ _ :: _) :: _) _ _; first | refine W.gt ?_ | refine W.gf ?_) | (show W _ _ _ _ _ _ [] _ _; refine W.of (.done ?_)) | (apply W.of; constructor <;> first | (show W _ _ _ _ _ _ _ _ _) | (intro (al : Nat) h st; show W _ _ _ _ _ _ _ _ _) | (intro _ h st; show W _ _ _ _ _ _ _ _ _) | exact Sd))); refine W.do (ho := gp) (w := ?_)
    (repeat (first | (show W _ _ _ _ _ _ (.code (cond _ _ _) :: _) _ _; first | refine W.ct ?_ | refine W.cf ?_) | (show W _ _ _ _ _ _ (.ins (cond _ _ _ :: _) :: _) _ _; first | refine W.gt ?_ | refine W.gf ?_) | (show W _ _ _ _ _ _ [] _ _; refine W.of (.done ?_)) | (apply W.of; constructor <;> first | (show W _ _ _ _ _ _ _ _ _) | (intro (al : Nat) h st; show W _ _ _ _ _ _ _ _ _) | (intro _ h st; show W _ _ _ _ _ _ _ _ _) | exact Sd))); refine W.do (ho := (d_rwLoad runCL st Tk ha)) (w := ?_)
    (repeat (first | (show W _ _ _ _ _ _ (.code (cond _ _ _) :: _) _ _; first | refine W.ct ?_ | refine W.cf ?_) | (show W _ _ _ _ _ _ (.ins (cond _ _ _ :: _) :: _) _ _; first | refine W.gt ?_ | refine W.gf ?_) | (show W _ _ _ _ _ _ [] _ _; refine W.of (.done ?_)) | (apply W.of; constructor <;> first | (show W _ _ _ _ _ _ _ _ _) | (intro (al : Nat) h st; show W _ _ _ _ _ _ _ _ _) | (intro _ h st; show W _ _ _ _ _ _ _ _ _) | exact Sd)))
    by_cases h0 : (joinM (l.take i)).length = 0
    · have e1 : joinS (joinM (l.take i)) a = joinM (l.take i) ++ [a] := by unfold joinS; rw [List.eq_nil_of_length_eq_zero h0]; rfl
      (repeat (first | (show W _ _ _ _ _ _ (.code (cond _ _ _) :: _) _ _; first | refine W.ct ?_ | refine W.cf ?_) | (show W _ _ _ _ _ _ (.ins (cond _ _ _ :: _) :: _) _ _; first | refine W.gt ?_ | refine W.gf ?_) | (show W _ _ _ _ _ _ [] _ _; refine W.of (.done ?_)) | (apply W.of; constructor <;> first | (show W _ _ _ _ _ _ _ _ _) | (intro (al : Nat) h st; show W _ _ _ _ _ _ _ _ _) | (intro _ h st; show W _ _ _ _ _ _ _ _ _) | exact Sd)))
      have st := St.rwRow (e := ty_api_Run) runCL [a] st Tk rfl rfl
      (repeat (first | (show W _ _ _ _ _ _ (.code (cond _ _ _) :: _) _ _; first | refine W.ct ?_ | refine W.cf ?_) | (show W _ _ _ _ _ _ (.ins (cond _ _ _ :: _) :: _) _ _; first | refine W.gt ?_ | refine W.gf ?_) | (show W _ _ _ _ _ _ [] _ _; refine W.of (.done ?_)) | (apply W.of; constructor <;> first | (show W _ _ _ _ _ _ _ _ _) | (intro (al : Nat) h st; show W _ _ _ _ _ _ _ _ _) | (intro _ h st; show W _ _ _ _ _ _ _ _ _) | exact Sd))); refine W.ef (ho := (e_rwAppend (s := out) (l' := [a]) runCL rfl st Tk Tk (by simp; omega) (by simp; omega))) (w := ?_); rintro vv h ⟨bj, bl, st⟩; refine nj ?_
      (repeat (first | (show W _ _ _ _ _ _ (.code (cond _ _ _) :: _) _ _; first | refine W.ct ?_ | refine W.cf ?_) | (show W _ _ _ _ _ _ (.ins (cond _ _ _ :: _) :: _) _ _; first | refine W.gt ?_ | refine W.gf ?_) | (show W _ _ _ _ _ _ [] _ _; refine W.of (.done ?_)) | (apply W.of; constructor <;> first | (show W _ _ _ _ _ _ _ _ _) | (intro (al : Nat) h st; show W _ _ _ _ _ _ _ _ _) | (intro _ h st; show W _ _ _ _ _ _ _ _ _) | exact Sd)))
      rw [← e1, ← ej] at st
      refine W.of (.lp ?_)
      exact ⟨⟨i + 1, vv⟩, by simp only; omega, hlt, Sbs, st.sel Sels⟩
    · obtain ⟨p, hp⟩ : ∃ p, (joinM (l.take i))[(joinM (l.take i)).length - 1]? = some p := ⟨(joinM (l.take i))[(joinM (l.take i)).length - 1], by simp⟩
      obtain ⟨fp, fq⟩ := d_rwIdx (v := out) (l := joinM (l.take i)) (i := (joinM (l.take i)).length - 1) (kk := .i64) st Tk (by omega)
      rw [show ((((joinM (l.take i)).length - 1 : Nat)) : Int) = ((joinM (l.take i)).length : Int) - 1 by omega] at fp
      obtain ⟨xp, xq⟩ := d_rwFld (h := h) (es := 3) (i := (joinM (l.take i)).length - 1) (o := 2) ol (by omega)
      have hlen : 0 < (joinM (l.take i)).length := by omega
      (repeat (first | (show W _ _ _ _ _ _ (.code (cond _ _ _) :: _) _ _; first | refine W.ct ?_ | refine W.cf ?_) | (show W _ _ _ _ _ _ (.ins (cond _ _ _ :: _) :: _) _ _; first | refine W.gt ?_ | refine W.gf ?_) | (show W _ _ _ _ _ _ [] _ _; refine W.of (.done ?_)) | (apply W.of; constructor <;> first | (show W _ _ _ _ _ _ _ _ _) | (intro (al : Nat) h st; show W _ _ _ _ _ _ _ _ _) | (intro _ h st; show W _ _ _ _ _ _ _ _ _) | exact Sd)))
      (repeat (first | (show W _ _ _ _ _ _ (.code (cond _ _ _) :: _) _ _; first | refine W.ct ?_ | refine W.cf ?_) | (show W _ _ _ _ _ _ (.ins (cond _ _ _ :: _) :: _) _ _; first | refine W.gt ?_ | refine W.gf ?_) | (show W _ _ _ _ _ _ [] _ _; refine W.of (.done ?_)) | (apply W.of; constructor <;> first | (show W _ _ _ _ _ _ _ _ _) | (intro (al : Nat) h st; show W _ _ _ _ _ _ _ _ _) | (intro _ h st; show W _ _ _ _ _ _ _ _ _) | exact Sd))); refine W.do (ho := fp) (w := ?_)
      (repeat (first | (show W _ _ _ _ _ _ (.code (cond _ _ _) :: _) _ _; first | refine W.ct ?_ | refine W.cf ?_) | (show W _ _ _ _ _ _ (.ins (cond _ _ _ :: _) :: _) _ _; first | refine W.gt ?_ | refine W.gf ?_) | (show W _ _ _ _ _ _ [] _ _; refine W.of (.done ?_)) | (apply W.of; constructor <;> first | (show W _ _ _ _ _ _ _ _ _) | (intro (al : Nat) h st; show W _ _ _ _ _ _ _ _ _) | (intro _ h st; show W _ _ _ _ _ _ _ _ _) | exact Sd))); refine W.do (ho := xp) (w := ?_)
      (repeat (first | (show W _ _ _ _ _ _ (.code (cond _ _ _) :: _) _ _; first | refine W.ct ?_ | refine W.cf ?_) | (show W _ _ _ _ _ _ (.ins (cond _ _ _ :: _) :: _) _ _; first | refine W.gt ?_ | refine W.gf ?_) | (show W _ _ _ _ _ _ [] _ _; refine W.of (.done ?_)) | (apply W.of; constructor <;> first | (show W _ _ _ _ _ _ _ _ _) | (intro (al : Nat) h st; show W _ _ _ _ _ _ _ _ _) | (intro _ h st; show W _ _ _ _ _ _ _ _ _) | exact Sd))); refine W.do (ho := (d_rwLoadF (o := 2) runCL st Tk hp rfl)) (w := ?_)
      (repeat (first | (show W _ _ _ _ _ _ (.code (cond _ _ _) :: _) _ _; first | refine W.ct ?_ | refine W.cf ?_) | (show W _ _ _ _ _ _ (.ins (cond _ _ _ :: _) :: _) _ _; first | refine W.gt ?_ | refine W.gf ?_) | (show W _ _ _ _ _ _ [] _ _; refine W.of (.done ?_)) | (apply W.of; constructor <;> first | (show W _ _ _ _ _ _ _ _ _) | (intro (al : Nat) h st; show W _ _ _ _ _ _ _ _ _) | (intro _ h st; show W _ _ _ _ _ _ _ _ _) | exact Sd)))
      by_cases hn : p.n = a.n
      · have e1 : joinS (joinM (l.take i)) a = (joinM (l.take i)).set ((joinM (l.take i)).length - 1) { p with hi := a.hi } := by unfold joinS; rw [hp]; simp only; rw [if_pos hn]
        have fp := (d_rwIdx (v := out) (l := joinM (l.take i)) (i := (joinM (l.take i)).length - 1) (kk := .i64) st Tk (by omega)).1
        rw [show ((((joinM (l.take i)).length - 1 : Nat)) : Int) = ((joinM (l.take i)).length : Int) - 1 by omega] at fp
        (repeat (first | (show W _ _ _ _ _ _ (.code (cond _ _ _) :: _) _ _; first | refine W.ct ?_ | refine W.cf ?_) | (show W _ _ _ _ _ _ (.ins (cond _ _ _ :: _) :: _) _ _; first | refine W.gt ?_ | refine W.gf ?_) | (show W _ _ _ _ _ _ [] _ _; refine W.of (.done ?_)) | (apply W.of; constructor <;> first | (show W _ _ _ _ _ _ _ _ _) | (intro (al : Nat) h st; show W _ _ _ _ _ _ _ _ _) | (intro _ h st; show W _ _ _ _ _ _ _ _ _) | exact Sd)))
        (repeat (first | (show W _ _ _ _ _ _ (.code (cond _ _ _) :: _) _ _; first | refine W.ct ?_ | refine W.cf ?_) | (show W _ _ _ _ _ _ (.ins (cond _ _ _ :: _) :: _) _ _; first | refine W.gt ?_ | refine W.gf ?_) | (show W _ _ _ _ _ _ [] _ _; refine W.of (.done ?_)) | (apply W.of; constructor <;> first | (show W _ _ _ _ _ _ _ _ _) | (intro (al : Nat) h st; show W _ _ _ _ _ _ _ _ _) | (intro _ h st; show W _ _ _ _ _ _ _ _ _) | exact Sd))); refine W.do (ho := fp) (w := ?_)
        obtain ⟨yp, yq⟩ := d_rwFld (h := h) (es := 3) (i := (joinM (l.take i)).length - 1) (o := 1) ol (by omega)
        (repeat (first | (show W _ _ _ _ _ _ (.code (cond _ _ _) :: _) _ _; first | refine W.ct ?_ | refine W.cf ?_) | (show W _ _ _ _ _ _ (.ins (cond _ _ _ :: _) :: _) _ _; first | refine W.gt ?_ | refine W.gf ?_) | (show W _ _ _ _ _ _ [] _ _; refine W.of (.done ?_)) | (apply W.of; constructor <;> first | (show W _ _ _ _ _ _ _ _ _) | (intro (al : Nat) h st; show W _ _ _ _ _ _ _ _ _) | (intro _ h st; show W _ _ _ _ _ _ _ _ _) | exact Sd))); refine W.do (ho := yp) (w := ?_)
        (repeat (first | (show W _ _ _ _ _ _ (.code (cond _ _ _) :: _) _ _; first | refine W.ct ?_ | refine W.cf ?_) | (show W _ _ _ _ _ _ (.ins (cond _ _ _ :: _) :: _) _ _; first | refine W.gt ?_ | refine W.gf ?_) | (show W _ _ _ _ _ _ [] _ _; refine W.of (.done ?_)) | (apply W.of; constructor <;> first | (show W _ _ _ _ _ _ _ _ _) | (intro (al : Nat) h st; show W _ _ _ _ _ _ _ _ _) | (intro _ h st; show W _ _ _ _ _ _ _ _ _) | exact Sd))); refine W.ef0 (ho := (e_rwStoreF (o := 1) (n := 1) (a' := { p with hi := a.hi }) (y := [.int .i64 a.hi]) runCL st Tk hp rfl rfl (by decide) (by decide) rfl)) (w := ?_); rintro _ h ⟨_, st⟩
        (repeat (first | (show W _ _ _ _ _ _ (.code (cond _ _ _) :: _) _ _; first | refine W.ct ?_ | refine W.cf ?_) | (show W _ _ _ _ _ _ (.ins (cond _ _ _ :: _) :: _) _ _; first | refine W.gt ?_ | refine W.gf ?_) | (show W _ _ _ _ _ _ [] _ _; refine W.of (.done ?_)) | (apply W.of; constructor <;> first | (show W _ _ _ _ _ _ _ _ _) | (intro (al : Nat) h st; show W _ _ _ _ _ _ _ _ _) | (intro _ h st; show W _ _ _ _ _ _ _ _ _) | exact Sd)))
        rw [← e1, ← ej] at st
        refine W.of (.lp ?_)
        exact ⟨⟨i + 1, out⟩, by simp only; omega, hlt, Sbs, st.sel Sels⟩
      · have e1 : joinS (joinM (l.take i)) a = joinM (l.take i) ++ [a] := by unfold joinS; rw [hp]; simp only; rw [if_neg hn]
        (repeat (first | (show W _ _ _ _ _ _ (.code (cond _ _ _) :: _) _ _; first | refine W.ct ?_ | refine W.cf ?_) | (show W _ _ _ _ _ _ (.ins (cond _ _ _ :: _) :: _) _ _; first | refine W.gt ?_ | refine W.gf ?_) | (show W _ _ _ _ _ _ [] _ _; refine W.of (.done ?_)) | (apply W.of; constructor <;> first | (show W _ _ _ _ _ _ _ _ _) | (intro (al : Nat) h st; show W _ _ _ _ _ _ _ _ _) | (intro _ h st; show W _ _ _ _ _ _ _ _ _) | exact Sd)))
        have st := St.rwRow (e := ty_api_Run) runCL [a] st Tk rfl rfl
        (repeat (first | (show W _ _ _ _ _ _ (.code (cond _ _ _) :: _) _ _; first | refine W.ct ?_ | refine W.cf ?_) | (show W _ _ _ _ _ _ (.ins (cond _ _ _ :: _) :: _) _ _; first | refine W.gt ?_ | refine W.gf ?_) | (show W _ _ _ _ _ _ [] _ _; refine W.of (.done ?_)) | (apply W.of; constructor <;> first | (show W _ _ _ _ _ _ _ _ _) | (intro (al : Nat) h st; show W _ _ _ _ _ _ _ _ _) | (intro _ h st; show W _ _ _ _ _ _ _ _ _) | exact Sd))); refine W.ef (ho := (e_rwAppend (s := out) (l' := [a]) runCL rfl st Tk Tk (by simp; omega) (by simp; omega))) (w := ?_); rintro vv h ⟨bj, bl, st⟩; refine nj ?_
        (repeat (first | (show W _ _ _ _ _ _ (.code (cond _ _ _) :: _) _ _; first | refine W.ct ?_ | refine W.cf ?_) | (show W _ _ _ _ _ _ (.ins (cond _ _ _ :: _) :: _) _ _; first | refine W.gt ?_ | refine W.gf ?_) | (show W _ _ _ _ _ _ [] _ _; refine W.of (.done ?_)) | (apply W.of; constructor <;> first | (show W _ _ _ _ _ _ _ _ _) | (intro (al : Nat) h st; show W _ _ _ _ _ _ _ _ _) | (intro _ h st; show W _ _ _ _ _ _ _ _ _) | exact Sd)))
        rw [← e1, ← ej] at st
        refine W.of (.lp ?_)
        exact ⟨⟨i + 1, vv⟩, by simp only; omega, hlt, Sbs, st.sel Sels⟩
  · have e : i = l.length := by omega
    subst e
    rw [List.take_length] at st ol
    (repeat (first | (show W _ _ _ _ _ _ (.code (cond _ _ _) :: _) _ _; first | refine W.ct ?_ | refine W.cf ?_) | (show W _ _ _ _ _ _ (.ins (cond _ _ _ :: _) :: _) _ _; first | refine W.gt ?_ | refine W.gf ?_) | (show W _ _ _ _ _ _ [] _ _; refine W.of (.done ?_)) | (apply W.of; constructor <;> first | (show W _ _ _ _ _ _ _ _ _) | (intro (al : Nat) h st; show W _ _ _ _ _ _ _ _ _) | (intro _ h st; show W _ _ _ _ _ _ _ _ _) | exact Sd)))
    exact ⟨_, rfl, _, ⟨oj, ol, rfl⟩, st⟩
/-- does a run go over a place? -/
def overQ (at' : Int) (r : RunV) : Bool := decide (r.lo < at' ∧ at' < r.hi)
theorem split_cb {r : RunV} {B : Nat} {at' : Int} : Spec R (.f n_spread_split_1) [.agg r.cells, .ptr B 0] [.pt B (ibox1 at')] fun v Rs => v = .bool (overQ at' r) ∧ Rs = [.pt B (ibox1 at')] := by
  refine spec_w (fun _ _ _ x => progI_call rfl rfl x) Njs rfl (fun h F st => ?_); dsimp only [List.cons_append, List.nil_append] at st
  unfold overQ
  (repeat (first | (show W _ _ _ _ _ _ (.code (cond _ _ _) :: _) _ _; first | refine W.ct ?_ | refine W.cf ?_) | (show W _ _ _ _ _ _ (.ins (cond _ _ _ :: _) :: _) _ _; first | refine W.gt ?_ | refine W.gf ?_) | (show W _ _ _ _ _ _ [] _ _; refine W.of (.done ?_)) | (apply W.of; constructor <;> first | (show W _ _ _ _ _ _ _ _ _) | (intro (al : Nat) h st; show W _ _ _ _ _ _ _ _ _) | (intro _ h st; show W _ _ _ _ _ _ _ _ _) | exact Sd)))
  by_cases h1 : r.lo < at'
  · (repeat (first | (show W _ _ _ _ _ _ (.code (cond _ _ _) :: _) _ _; first | refine W.ct ?_ | refine W.cf ?_) | (show W _ _ _ _ _ _ (.ins (cond _ _ _ :: _) :: _) _ _; first | refine W.gt ?_ | refine W.gf ?_) | (show W _ _ _ _ _ _ [] _ _; refine W.of (.done ?_)) | (apply W.of; constructor <;> first | (show W _ _ _ _ _ _ _ _ _) | (intro (al : Nat) h st; show W _ _ _ _ _ _ _ _ _) | (intro _ h st; show W _ _ _ _ _ _ _ _ _) | exact Sd)))
    by_cases h2 : at' < r.hi
    · (repeat (first | (show W _ _ _ _ _ _ (.code (cond _ _ _) :: _) _ _; first | refine W.ct ?_ | refine W.cf ?_) | (show W _ _ _ _ _ _ (.ins (cond _ _ _ :: _) :: _) _ _; first | refine W.gt ?_ | refine W.gf ?_) | (show W _ _ _ _ _ _ [] _ _; refine W.of (.done ?_)) | (apply W.of; constructor <;> first | (show W _ _ _ _ _ _ _ _ _) | (intro (al : Nat) h st; show W _ _ _ _ _ _ _ _ _) | (intro _ h st; show W _ _ _ _ _ _ _ _ _) | exact Sd)))
      exact ⟨_, rfl, _, ⟨by simp [retA, h1, h2], rfl⟩, st.sel Sels⟩
    · (repeat (first | (show W _ _ _ _ _ _ (.code (cond _ _ _) :: _) _ _; first | refine W.ct ?_ | refine W.cf ?_) | (show W _ _ _ _ _ _ (.ins (cond _ _ _ :: _) :: _) _ _; first | refine W.gt ?_ | refine W.gf ?_) | (show W _ _ _ _ _ _ [] _ _; refine W.of (.done ?_)) | (apply W.of; constructor <;> first | (show W _ _ _ _ _ _ _ _ _) | (intro (al : Nat) h st; show W _ _ _ _ _ _ _ _ _) | (intro _ h st; show W _ _ _ _ _ _ _ _ _) | exact Sd)))
      exact ⟨_, rfl, _, ⟨by simp [retA, h2], rfl⟩, st.sel Sels⟩
  · (repeat (first | (show W _ _ _ _ _ _ (.code (cond _ _ _) :: _) _ _; first | refine W.ct ?_ | refine W.cf ?_) | (show W _ _ _ _ _ _ (.ins (cond _ _ _ :: _) :: _) _ _; first | refine W.gt ?_ | refine W.gf ?_) | (show W _ _ _ _ _ _ [] _ _; refine W.of (.done ?_)) | (apply W.of; constructor <;> first | (show W _ _ _ _ _ _ _ _ _) | (intro (al : Nat) h st; show W _ _ _ _ _ _ _ _ _) | (intro _ h st; show W _ _ _ _ _ _ _ _ _) | exact Sd)))
    exact ⟨_, rfl, _, ⟨by simp [retA, h1], rfl⟩, st.sel Sels⟩
/-- where the first is that a place lies in; -1: there is none -/
def overI (at' : Int) (l : List RunV) : Int := match l.findIdx? (overQ at') with | some k => k | none => -1
theorem findIdx_at {p : RunV → Bool} {l : List RunV} {i : Nat} {a : RunV} (ha : l[i]? = some a) (hp : p a = true) (hn : ∀ j b, j < i → l[j]? = some b → p b = false) : l.findIdx? p = some i := by
  rw [List.findIdx?_eq_some_iff_getElem]
  obtain ⟨h1, h2⟩ := List.getElem?_eq_some_iff.1 ha
  refine ⟨h1, by rw [h2]; exact hp, fun j hj => ?_⟩
  have := hn j (l[j]'(by omega)) hj (by simp)
  simp [this]
theorem findIdx_no {p : RunV → Bool} {l : List RunV} (hn : ∀ (j : Nat) b, l[j]? = some b → p b = false) : l.findIdx? p = none := by
  rw [List.findIdx?_eq_none_iff]
  intro x hx
  obtain ⟨j, hj, e⟩ := List.getElem_of_mem hx
  exact hn j x (by simp [hj, e])
set_option maxRecDepth 4000 in
theorem runs_IndexFunc {v : AV} {l : List RunV} {B : Nat} {at' : Int} (hb : l.length ≤ 100000) : Spec R (.f n_slices_IndexFunc_api_Run_api_Run) [v, .func n_spread_split_1 [] [.ptr B 0]] [RunsC v l, .pt B (ibox1 at')] fun x Rs => x = .int .i64 (overI at' l) ∧ Rs = [RunsC v l, .pt B (ibox1 at')] := by
  refine spec_in fun h F st => ?_
  obtain ⟨vl, vj, vs⟩ := St.rw (v := v) (l := l) st Tk
  clear st h F; refine spec_w (fun _ _ _ x => progI_call rfl rfl x) Njs rfl (fun h F st => ?_); dsimp only [List.cons_append, List.nil_append] at st
  (repeat (first | (show W _ _ _ _ _ _ (.code (cond _ _ _) :: _) _ _; first | refine W.ct ?_ | refine W.cf ?_) | (show W _ _ _ _ _ _ (.ins (cond _ _ _ :: _) :: _) _ _; first | refine W.gt ?_ | refine W.gf ?_) | (show W _ _ _ _ _ _ [] _ _; refine W.of (.done ?_)) | (apply W.of; constructor <;> first | (show W _ _ _ _ _ _ _ _ _) | (intro (al : Nat) h st; show W _ _ _ _ _ _ _ _ _) | (intro _ h st; show W _ _ _ _ _ _ _ _ _) | exact Sd)))
  refine W.loop (fun i : Nat => [(0, v), (1, .func n_spread_split_1 [] [.ptr B 0]), (7, .int .i64 l.length), (8, .int .i64 i)]) (fun _ => RunsC v l :: .pt B (ibox1 at') :: F)
    (fun i => i ≤ l.length ∧ ∀ j b, j < i → l[j]? = some b → overQ at' b = false) (fun i => l.length - i) 0 (small_rounds (by omega)) Sbs (st.sel Sels) ⟨Nat.zero_le _, fun j b h => by omega⟩ ?_
  clear st
  intro i h ⟨hi, hn⟩ st
  by_cases hlt : i < l.length
  · obtain ⟨a, ha⟩ : ∃ a, l[i]? = some a := ⟨l[i], by simp [hlt]⟩
    obtain ⟨gp, gq⟩ := d_rwIdx (v := v) (l := l) (kk := .i64) st Tk hlt
    (repeat (first | (show W _ _ _ _ _ _ (.code (cond _ _ _) :: _) _ _; first | refine W.ct ?_ | refine W.cf ?_) | (show W _ _ _ _ _ _ (.ins (cond _ _ _ :: _) :: _) _ _; first | refine W.gt ?_ | refine W.gf ?_) | (show W _ _ _ _ _ _ [] _ _; refine W.of (.done ?_)) | (apply W.of; constructor <;> first | (show W _ _ _ _ _ _ _ _ _) | (intro (al : Nat) h st; show W _ _ _ _ _ _ _ _ _) | (intro _ h st; show W _ _ _ _ _ _ _ _ _) | exact Sd)))
    (repeat (first | (show W _ _ _ _ _ _ (.code (cond _ _ _) :: _) _ _; first | refine W.ct ?_ | refine W.cf ?_) | (show W _ _ _ _ _ _ (.ins (cond _ _ _ :: _) :: _) _ _; first | refine W.gt ?_ | refine W.gf ?_) | (show W _ _ _ _ _ _ [] _ _; refine W.of (.done ?_)) | (apply W.of; constructor <;> first | (show W _ _ _ _ _ _ _ _ _) | (intro (al : Nat) h st; show W _ _ _ _ _ _ _ _ _) | (intro _ h st; show W _ _ _ _ _ _ _ _ _) | exact Sd))); refine W.do (ho := gp) (w := ?_)
    (repeat (first | (show W _ _ _ _ _ _ (.code (cond _ _ _) :: _) _ _; first | refine W.ct ?_ | refine W.cf ?_) | (show W _ _ _ _ _ _ (.ins (cond _ _ _ :: _) :: _) _ _; first | refine W.gt ?_ | refine W.gf ?_) | (show W _ _ _ _ _ _ [] _ _; refine W.of (.done ?_)) | (apply W.of; constructor <;> first | (show W _ _ _ _ _ _ _ _ _) | (intro (al : Nat) h st; show W _ _ _ _ _ _ _ _ _) | (intro _ h st; show W _ _ _ _ _ _ _ _ _) | exact Sd))); refine W.do (ho := (d_rwLoad runCL st Tk ha)) (w := ?_)
    (repeat (first | (show W _ _ _ _ _ _ (.code (cond _ _ _) :: _) _ _; first | refine W.ct ?_ | refine W.cf ?_) | (show W _ _ _ _ _ _ (.ins (cond _ _ _ :: _) :: _) _ _; first | refine W.gt ?_ | refine W.gf ?_) | (show W _ _ _ _ _ _ [] _ _; refine W.of (.done ?_)) | (apply W.of; constructor <;> first | (show W _ _ _ _ _ _ _ _ _) | (intro (al : Nat) h st; show W _ _ _ _ _ _ _ _ _) | (intro _ h st; show W _ _ _ _ _ _ _ _ _) | exact Sd))); refine W.call (hs := split_cb) (w := ?_); rintro vv _ ⟨rfl, rfl⟩ h st; refine nj ?_; dsimp only [List.cons_append, List.nil_append] at st
    cases hq : overQ at' a with
    | true =>
      (repeat (first | (show W _ _ _ _ _ _ (.code (cond _ _ _) :: _) _ _; first | refine W.ct ?_ | refine W.cf ?_) | (show W _ _ _ _ _ _ (.ins (cond _ _ _ :: _) :: _) _ _; first | refine W.gt ?_ | refine W.gf ?_) | (show W _ _ _ _ _ _ [] _ _; refine W.of (.done ?_)) | (apply W.of; constructor <;> first | (show W _ _ _ _ _ _ _ _ _) | (intro (al : Nat) h st; show W _ _ _ _ _ _ _ _ _) | (intro _ h st; show W _ _ _ _ _ _ _ _ _) | exact Sd)))
      exact ⟨_, rfl, _, ⟨by unfold overI; rw [findIdx_at ha hq hn]; rfl, rfl⟩, st.sel Sels⟩
    | false =>
      (repeat (first | (show W _ _ _ _ _ _ (.code (cond _ _ _) :: _) _ _; first | refine W.ct ?_ | refine W.cf ?_) | (show W _ _ _ _ _ _ (.ins (cond _ _ _ :: _) :: _) _ _; first | refine W.gt ?_ | refine W.gf ?_) | (show W _ _ _ _ _ _ [] _ _; refine W.of (.done ?_)) | (apply W.of; constructor <;> first | (show W _ _ _ _ _ _ _ _ _) | (intro (al : Nat) h st; show W _ _ _ _ _ _ _ _ _) | (intro _ h st; show W _ _ _ _ _ _ _ _ _) | exact Sd)))
      refine W.of (.lp ?_)
      refine ⟨i + 1, by omega, ⟨hlt, fun j b hj hb => ?_⟩, Sbs, st.sel Sels⟩
      by_cases e : j = i
      · subst e; rw [ha] at hb; cases hb; exact hq
      · exact hn j b (by omega) hb
  · (repeat (first | (show W _ _ _ _ _ _ (.code (cond _ _ _) :: _) _ _; first | refine W.ct ?_ | refine W.cf ?_) | (show W _ _ _ _ _ _ (.ins (cond _ _ _ :: _) :: _) _ _; first | refine W.gt ?_ | refine W.gf ?_) | (show W _ _ _ _ _ _ [] _ _; refine W.of (.done ?_)) | (apply W.of; constructor <;> first | (show W _ _ _ _ _ _ _ _ _) | (intro (al : Nat) h st; show W _ _ _ _ _ _ _ _ _) | (intro _ h st; show W _ _ _ _ _ _ _ _ _) | exact Sd)))
    exact ⟨_, rfl, _, ⟨by unfold overI; rw [findIdx_no fun j b hb => hn j b (by have := (List.getElem?_eq_some_iff.1 hb).1; omega) hb]; rfl, rfl⟩, st⟩
/-- runs, none of which goes over a place -/
def splitM (l : List RunV) (at' : Int) : List RunV :=
  match l with
  | [] => []
  | r :: l => if overQ at' r = true then { r with hi := at' } :: { r with lo := at' } :: l else r :: splitM l at'
theorem splitM_no {at' : Int} : ∀ {l : List RunV}, l.findIdx? (overQ at') = none → splitM l at' = l
  | [], _ => rfl
  | r :: l, h => by
    rw [List.findIdx?_eq_none_iff] at h
    simp only [splitM]
    rw [if_neg (by rw [h r List.mem_cons_self]; decide), splitM_no (by rw [List.findIdx?_eq_none_iff]; exact fun x hx => h x (List.mem_cons_of_mem _ hx))]
theorem splitM_at {at' : Int} : ∀ {l : List RunV} {k : Nat}, l.findIdx? (overQ at') = some k → ∃ r, l[k]? = some r ∧ splitM l at' = l.take k ++ [{ r with hi := at' }, { r with lo := at' }] ++ l.drop (k + 1)
  | [], k, h => by simp at h
  | r :: l, k, h => by
    simp only [splitM]
    rw [List.findIdx?_cons] at h
    by_cases hr : overQ at' r = true
    · rw [if_pos hr] at h
      cases h
      rw [if_pos hr]
      exact ⟨r, rfl, rfl⟩
    · rw [if_neg hr] at h
      rw [if_neg hr]
      cases h2 : l.findIdx? (overQ at') with
      | none => rw [h2] at h; cases h
      | some j =>
        rw [h2] at h
        cases h
        obtain ⟨q, h3, h4⟩ := splitM_at h2
        exact ⟨q, by simpa using h3, by rw [h4]; simp⟩
end Go.Proofs.Ytjdemlagmamlbaa

namespace Go.Proofs.Ytjdemlagmamlbaa
theorem rep_flat_len (n : Nat) (c : List AV) : (List.replicate n c).flatten.length = n * c.length := by
  induction n with
  | zero => simp
  | succ n ih => rw [List.replicate_succ, List.flatten_cons, List.length_append, ih, Nat.succ_mul]; omega
theorem e_appendz0 {C : SemW} {h : AHeap} {L : List Chunk} {e es b n : Nat} {c : List AV} {kk : IntKind} (st : St h L) (hc : c.length = es) (hes : 0 < es) (hn : 0 < n) (hb : n * b ≤ 2 ^ 40) (hk : n ≤ 2 ^ 40) :
    Eff C (.appendz e es b (.vals c)) [.nilsl, .int kk (n : Nat)] h fun v h' => ∃ id, v = .ssl id 0 es n ∧ St h' (.pt id (.row e es true false (.vals (List.replicate n c).flatten)) :: L) := .mk (by
  have hr : ((Dat.vals c).rep n) = .vals (List.replicate n c).flatten := rfl
  have hl : (Dat.vals (List.replicate n c).flatten).len = n * es := by show (List.replicate n c).flatten.length = _; rw [rep_flat_len, hc]
  refine Does.do (v := .ssl h.next 0 es n) (h1 := h.new (.row e es true false (.vals (List.replicate n c).flatten))) ⟨rfl, ?_⟩ ⟨h.next, rfl, st.new _⟩
  have hb' : (n : Int) * (b : Int) ≤ 2 ^ 40 := by have : ((n * b : Nat) : Int) ≤ ((2 ^ 40 : Nat) : Int) := Int.ofNat_le.2 hb; simpa using this
  simp only [aop, Int.toNat_natCast]
  rw [if_pos ⟨by omega, hb', by omega, by rw [hr]; exact hl⟩, ap_nil (by omega), if_pos ⟨by omega, by omega, by rw [hr]; exact hl⟩]
  simp only [newRow', hr]
  rw [if_pos hes]; rfl)
theorem d_slice0 {id es n : Nat} {kk : IntKind} {h : AHeap} : Does (.slice es false true false) [.ssl id 0 es n, .int kk ((0 : Nat) : Int)] h (.ssl id 0 es 0) h := ⟨rfl, by
  have hb : bounds3 n n false true false [.int kk ((0 : Nat) : Int)] = some (0, 0, n) := by simp only [bounds3]; rw [if_pos (by omega)]; rfl
  simp only [aop, hb, Option.bind_some, if_true, or_true]⟩
theorem runs_Grow {n : Nat} (hn : 0 < n) (hb : n ≤ 300000) : Spec R (.f n_slices_Grow_api_Run_api_Run) [.nilsl, .int .i64 (n : Nat)] [] fun v Rs => v.notJunk = some v ∧ sliceLen v = some 0 ∧ Rs = [GrC v ty_api_Run 3 0 n []] := by
  refine spec_w (fun _ _ _ x => progI_call rfl rfl x) Njs rfl (fun h F st => ?_); dsimp only [List.cons_append, List.nil_append] at st
  (repeat (first | (show W _ _ _ _ _ _ (.code (cond _ _ _) :: _) _ _; first | refine W.ct ?_ | refine W.cf ?_) | (show W _ _ _ _ _ _ (.ins (cond _ _ _ :: _) :: _) _ _; first | refine W.gt ?_ | refine W.gf ?_) | (show W _ _ _ _ _ _ [] _ _; refine W.of (.done ?_)) | (apply W.of; constructor <;> first | (show W _ _ _ _ _ _ _ _ _) | (intro (al : Nat) h st; show W _ _ _ _ _ _ _ _ _) | (intro _ h st; show W _ _ _ _ _ _ _ _ _) | exact Sd)))
  rw [show (n : Int) - (0 - ((0 : Nat) : Int)) = (n : Nat) by omega]
  (repeat (first | (show W _ _ _ _ _ _ (.code (cond _ _ _) :: _) _ _; first | refine W.ct ?_ | refine W.cf ?_) | (show W _ _ _ _ _ _ (.ins (cond _ _ _ :: _) :: _) _ _; first | refine W.gt ?_ | refine W.gf ?_) | (show W _ _ _ _ _ _ [] _ _; refine W.of (.done ?_)) | (apply W.of; constructor <;> first | (show W _ _ _ _ _ _ _ _ _) | (intro (al : Nat) h st; show W _ _ _ _ _ _ _ _ _) | (intro _ h st; show W _ _ _ _ _ _ _ _ _) | exact Sd))); refine W.ef (ho := (e_appendz0 (n := n) st rfl (by decide) hn (by omega) (by omega))) (w := ?_); rintro vv h ⟨id, rfl, st⟩; refine nj ?_
  (repeat (first | (show W _ _ _ _ _ _ (.code (cond _ _ _) :: _) _ _; first | refine W.ct ?_ | refine W.cf ?_) | (show W _ _ _ _ _ _ (.ins (cond _ _ _ :: _) :: _) _ _; first | refine W.gt ?_ | refine W.gf ?_) | (show W _ _ _ _ _ _ [] _ _; refine W.of (.done ?_)) | (apply W.of; constructor <;> first | (show W _ _ _ _ _ _ _ _ _) | (intro (al : Nat) h st; show W _ _ _ _ _ _ _ _ _) | (intro _ h st; show W _ _ _ _ _ _ _ _ _) | exact Sd))); refine W.do (ho := d_slice0) (w := ?_)
  (repeat (first | (show W _ _ _ _ _ _ (.code (cond _ _ _) :: _) _ _; first | refine W.ct ?_ | refine W.cf ?_) | (show W _ _ _ _ _ _ (.ins (cond _ _ _ :: _) :: _) _ _; first | refine W.gt ?_ | refine W.gf ?_) | (show W _ _ _ _ _ _ [] _ _; refine W.of (.done ?_)) | (apply W.of; constructor <;> first | (show W _ _ _ _ _ _ _ _ _) | (intro (al : Nat) h st; show W _ _ _ _ _ _ _ _ _) | (intro _ h st; show W _ _ _ _ _ _ _ _ _) | exact Sd)))
  refine ⟨_, rfl, _, ⟨rfl, rfl, rfl⟩, St.pack (cs := [_]) st ⟨id, _, rfl, rfl, rep_flat_len n _, by simp, Nat.zero_le _⟩⟩
/-- a slice that is put behind others: its cells -/
structure PcV where
  v : AV
  m : Nat
  c : List AV
def pcSum (l : List PcV) : Nat := (l.map PcV.m).sum
def pcAll (l : List PcV) : List AV := l.flatMap PcV.c
theorem pcSum_snoc (l : List PcV) (p : PcV) : pcSum (l ++ [p]) = pcSum l + p.m := by simp [pcSum]
theorem pcAll_snoc (l : List PcV) (p : PcV) : pcAll (l ++ [p]) = pcAll l ++ p.c := by simp [pcAll]
theorem pcSum_take (l : List PcV) (i : Nat) : pcSum (l.take i) ≤ pcSum l := by
  have : pcSum l = pcSum (l.take i) + pcSum (l.drop i) := by
    unfold pcSum
    rw [← List.sum_append, ← List.map_append, List.take_append_drop]
  omega
set_option maxRecDepth 4000 in
theorem runs_Concat {v : AV} {l : List PcV} {X Y : Chunk} (h0 : 0 < pcSum l) (hb : pcSum l ≤ 300000) (hlen : l.length ≤ 1000) (hc : ∀ p, p ∈ l → p.c.length = p.m * 3) (hv : ∀ p, p ∈ l → ∀ h L, St h (X :: Y :: L) → Vw h p.v 3 p.m (.vals p.c)) (hok : ∀ p, p ∈ l → p.v.notJunk = some p.v) :
    Spec R (.f n_slices_Concat_api_Run_api_Run) [v] [VsC v 117 (l.map PcV.v) true, X, Y] fun x Rs => x.notJunk = some x ∧ sliceLen x = some (pcSum l) ∧ Rs = [SlC x ty_api_Run 3 (pcSum l) (.vals (pcAll l)) true, X, Y] := by
  refine spec_in fun h F st => ?_
  obtain ⟨vl, vj, vs⟩ := St.vs (v := v) (l := l.map PcV.v) st Tk
  rw [List.length_map] at vl
  clear st h F; refine spec_w (fun _ _ _ x => progI_call rfl rfl x) Njs rfl (fun h F st => ?_); dsimp only [List.cons_append, List.nil_append] at st
  (repeat (first | (show W _ _ _ _ _ _ (.code (cond _ _ _) :: _) _ _; first | refine W.ct ?_ | refine W.cf ?_) | (show W _ _ _ _ _ _ (.ins (cond _ _ _ :: _) :: _) _ _; first | refine W.gt ?_ | refine W.gf ?_) | (show W _ _ _ _ _ _ [] _ _; refine W.of (.done ?_)) | (apply W.of; constructor <;> first | (show W _ _ _ _ _ _ _ _ _) | (intro (al : Nat) h st; show W _ _ _ _ _ _ _ _ _) | (intro _ h st; show W _ _ _ _ _ _ _ _ _) | exact Sd)))
  refine W.loop (fun i : Nat => [(0, v), (3, .int .i64 (pcSum (l.take i) : Nat)), (9, v), (10, .int .i64 l.length), (11, .int .i64 i)]) (fun _ => VsC v 117 (l.map PcV.v) true :: X :: Y :: F)
    (fun i => i ≤ l.length) (fun i => l.length - i) 0 (small_rounds (by omega)) Sbs (st.sel Sels) (Nat.zero_le _) ?_
  clear st
  intro i h hi st
  have hk := pcSum_take l i
  by_cases hlt : i < l.length
  · obtain ⟨p, hp⟩ : ∃ p, l[i]? = some p := ⟨l[i], by simp [hlt]⟩
    have hm := List.mem_of_getElem? hp
    have w := hv p hm h _ (st.pick (Ps := [X, Y]) Pks)
    have wl := w.len
    have wj := hok p hm
    have ws := pcSum_take l (i + 1)
    rw [take_snoc1 hp, pcSum_snoc] at ws
    obtain ⟨gp, gq⟩ := d_vsIdx (v := v) (l := l.map PcV.v) (i := i) (kk := .i64) st Tk (by rw [List.length_map]; exact hlt)
    (repeat (first | (show W _ _ _ _ _ _ (.code (cond _ _ _) :: _) _ _; first | refine W.ct ?_ | refine W.cf ?_) | (show W _ _ _ _ _ _ (.ins (cond _ _ _ :: _) :: _) _ _; first | refine W.gt ?_ | refine W.gf ?_) | (show W _ _ _ _ _ _ [] _ _; refine W.of (.done ?_)) | (apply W.of; constructor <;> first | (show W _ _ _ _ _ _ _ _ _) | (intro (al : Nat) h st; show W _ _ _ _ _ _ _ _ _) | (intro _ h st; show W _ _ _ _ _ _ _ _ _) | exact Sd))); refine W.do (ho := gp) (w := ?_)
    (repeat (first | (show W _ _ _ _ _ _ (.code (cond _ _ _) :: _) _ _; first | refine W.ct ?_ | refine W.cf ?_) | (show W _ _ _ _ _ _ (.ins (cond _ _ _ :: _) :: _) _ _; first | refine W.gt ?_ | refine W.gf ?_) | (show W _ _ _ _ _ _ [] _ _; refine W.of (.done ?_)) | (apply W.of; constructor <;> first | (show W _ _ _ _ _ _ _ _ _) | (intro (al : Nat) h st; show W _ _ _ _ _ _ _ _ _) | (intro _ h st; show W _ _ _ _ _ _ _ _ _) | exact Sd))); refine W.do (ho := (d_vsLoad (v := v) (l := l.map PcV.v) (x := p.v) st Tk (by rw [List.getElem?_map, hp]; rfl))) (w := ?_)
    (repeat (first | (show W _ _ _ _ _ _ (.code (cond _ _ _) :: _) _ _; first | refine W.ct ?_ | refine W.cf ?_) | (show W _ _ _ _ _ _ (.ins (cond _ _ _ :: _) :: _) _ _; first | refine W.gt ?_ | refine W.gf ?_) | (show W _ _ _ _ _ _ [] _ _; refine W.of (.done ?_)) | (apply W.of; constructor <;> first | (show W _ _ _ _ _ _ _ _ _) | (intro (al : Nat) h st; show W _ _ _ _ _ _ _ _ _) | (intro _ h st; show W _ _ _ _ _ _ _ _ _) | exact Sd)))
    rw [show (pcSum (l.take i) : Int) + (p.m : Nat) = ((pcSum (l.take (i + 1)) : Nat) : Int) by rw [take_snoc1 hp, pcSum_snoc]; omega]
    (repeat (first | (show W _ _ _ _ _ _ (.code (cond _ _ _) :: _) _ _; first | refine W.ct ?_ | refine W.cf ?_) | (show W _ _ _ _ _ _ (.ins (cond _ _ _ :: _) :: _) _ _; first | refine W.gt ?_ | refine W.gf ?_) | (show W _ _ _ _ _ _ [] _ _; refine W.of (.done ?_)) | (apply W.of; constructor <;> first | (show W _ _ _ _ _ _ _ _ _) | (intro (al : Nat) h st; show W _ _ _ _ _ _ _ _ _) | (intro _ h st; show W _ _ _ _ _ _ _ _ _) | exact Sd)))
    refine W.of (.lp ?_)
    exact ⟨i + 1, by omega, hlt, Sbs, st.sel Sels⟩
  · have e : i = l.length := by omega
    subst e
    rw [List.take_length]
    (repeat (first | (show W _ _ _ _ _ _ (.code (cond _ _ _) :: _) _ _; first | refine W.ct ?_ | refine W.cf ?_) | (show W _ _ _ _ _ _ (.ins (cond _ _ _ :: _) :: _) _ _; first | refine W.gt ?_ | refine W.gf ?_) | (show W _ _ _ _ _ _ [] _ _; refine W.of (.done ?_)) | (apply W.of; constructor <;> first | (show W _ _ _ _ _ _ _ _ _) | (intro (al : Nat) h st; show W _ _ _ _ _ _ _ _ _) | (intro _ h st; show W _ _ _ _ _ _ _ _ _) | exact Sd))); refine W.call (hs := (runs_Grow (n := pcSum l) h0 hb)) (w := ?_); rintro vv _ ⟨gj, gl, rfl⟩ h st; refine nj ?_; dsimp only [List.cons_append, List.nil_append] at st
    obtain ⟨g0, rfl⟩ : ∃ y, y = vv := ⟨_, rfl⟩
    (repeat (first | (show W _ _ _ _ _ _ (.code (cond _ _ _) :: _) _ _; first | refine W.ct ?_ | refine W.cf ?_) | (show W _ _ _ _ _ _ (.ins (cond _ _ _ :: _) :: _) _ _; first | refine W.gt ?_ | refine W.gf ?_) | (show W _ _ _ _ _ _ [] _ _; refine W.of (.done ?_)) | (apply W.of; constructor <;> first | (show W _ _ _ _ _ _ _ _ _) | (intro (al : Nat) h st; show W _ _ _ _ _ _ _ _ _) | (intro _ h st; show W _ _ _ _ _ _ _ _ _) | exact Sd)))
    refine W.loop (fun y : JoS => [(6, y.out), (25, v), (26, .int .i64 l.length), (27, .int .i64 y.i)]) (fun y => GrC y.out ty_api_Run 3 (pcSum (l.take y.i)) (pcSum l) (pcAll (l.take y.i)) :: VsC v 117 (l.map PcV.v) true :: X :: Y :: F)
      (fun y => y.i ≤ l.length) (fun y => l.length - y.i) ⟨0, g0⟩ (small_rounds (by simp only; omega)) Sbs (st.sel Sels) (Nat.zero_le _) ?_
    clear st
    intro ⟨i, out⟩ h hi st
    dsimp only at hi st ⊢
    obtain ⟨ol, oj, _⟩ := St.gr (v := out) st Tk
    have hk := pcSum_take l i
    by_cases hlt : i < l.length
    · obtain ⟨p, hp⟩ : ∃ p, l[i]? = some p := ⟨l[i], by simp [hlt]⟩
      have hm := List.mem_of_getElem? hp
      have w := hv p hm h _ (st.pick (Ps := [X, Y]) Pks)
      have wl := w.len
      have wj := hok p hm
      have ws := pcSum_take l (i + 1)
      rw [take_snoc1 hp, pcSum_snoc] at ws
      obtain ⟨gp, gq⟩ := d_vsIdx (v := v) (l := l.map PcV.v) (i := i) (kk := .i64) st Tk (by rw [List.length_map]; exact hlt)
      (repeat (first | (show W _ _ _ _ _ _ (.code (cond _ _ _) :: _) _ _; first | refine W.ct ?_ | refine W.cf ?_) | (show W _ _ _ _ _ _ (.ins (cond _ _ _ :: _) :: _) _ _; first | refine W.gt ?_ | refine W.gf ?_) | (show W _ _ _ _ _ _ [] _ _; refine W.of (.done ?_)) | (apply W.of; constructor <;> first | (show W _ _ _ _ _ _ _ _ _) | (intro (al : Nat) h st; show W _ _ _ _ _ _ _ _ _) | (intro _ h st; show W _ _ _ _ _ _ _ _ _) | exact Sd))); refine W.do (ho := gp) (w := ?_)
      (repeat (first | (show W _ _ _ _ _ _ (.code (cond _ _ _) :: _) _ _; first | refine W.ct ?_ | refine W.cf ?_) | (show W _ _ _ _ _ _ (.ins (cond _ _ _ :: _) :: _) _ _; first | refine W.gt ?_ | refine W.gf ?_) | (show W _ _ _ _ _ _ [] _ _; refine W.of (.done ?_)) | (apply W.of; constructor <;> first | (show W _ _ _ _ _ _ _ _ _) | (intro (al : Nat) h st; show W _ _ _ _ _ _ _ _ _) | (intro _ h st; show W _ _ _ _ _ _ _ _ _) | exact Sd))); refine W.do (ho := (d_vsLoad (v := v) (l := l.map PcV.v) (x := p.v) st Tk (by rw [List.getElem?_map, hp]; rfl))) (w := ?_)
      (repeat (first | (show W _ _ _ _ _ _ (.code (cond _ _ _) :: _) _ _; first | refine W.ct ?_ | refine W.cf ?_) | (show W _ _ _ _ _ _ (.ins (cond _ _ _ :: _) :: _) _ _; first | refine W.gt ?_ | refine W.gf ?_) | (show W _ _ _ _ _ _ [] _ _; refine W.of (.done ?_)) | (apply W.of; constructor <;> first | (show W _ _ _ _ _ _ _ _ _) | (intro (al : Nat) h st; show W _ _ _ _ _ _ _ _ _) | (intro _ h st; show W _ _ _ _ _ _ _ _ _) | exact Sd))); refine W.ef (ho := (e_appendG (s := out) (l' := p.c) st Tk w (hc p hm) (by omega) rfl)) (w := ?_); rintro vv h ⟨bj, bl, st⟩; refine nj ?_
      (repeat (first | (show W _ _ _ _ _ _ (.code (cond _ _ _) :: _) _ _; first | refine W.ct ?_ | refine W.cf ?_) | (show W _ _ _ _ _ _ (.ins (cond _ _ _ :: _) :: _) _ _; first | refine W.gt ?_ | refine W.gf ?_) | (show W _ _ _ _ _ _ [] _ _; refine W.of (.done ?_)) | (apply W.of; constructor <;> first | (show W _ _ _ _ _ _ _ _ _) | (intro (al : Nat) h st; show W _ _ _ _ _ _ _ _ _) | (intro _ h st; show W _ _ _ _ _ _ _ _ _) | exact Sd)))
      rw [← pcSum_snoc, ← pcAll_snoc, ← take_snoc1 hp] at st
      refine W.of (.lp ?_)
      exact ⟨⟨i + 1, vv⟩, by simp only; omega, hlt, Sbs, st.sel Sels⟩
    · have e : i = l.length := by omega
      subst e
      rw [List.take_length] at st ol
      (repeat (first | (show W _ _ _ _ _ _ (.code (cond _ _ _) :: _) _ _; first | refine W.ct ?_ | refine W.cf ?_) | (show W _ _ _ _ _ _ (.ins (cond _ _ _ :: _) :: _) _ _; first | refine W.gt ?_ | refine W.gf ?_) | (show W _ _ _ _ _ _ [] _ _; refine W.of (.done ?_)) | (apply W.of; constructor <;> first | (show W _ _ _ _ _ _ _ _ _) | (intro (al : Nat) h st; show W _ _ _ _ _ _ _ _ _) | (intro _ h st; show W _ _ _ _ _ _ _ _ _) | exact Sd)))
      have st := st.grFull Tk
      exact ⟨_, rfl, _, ⟨oj, ol, rfl⟩, st.sel Sels⟩
end Go.Proofs.Ytjdemlagmamlbaa

namespace Go.Proofs.Ytjdemlagmamlbaa
theorem fills3 {a b c : AV} {x y z : Nat} (ha : sliceLen a = some x) (hb : sliceLen b = some y) (hc : sliceLen c = some z) : fills (([0, 1, 2] : List Nat).map fun i => (i * 1, 1)) [a, b, c] ((Dat.vals [.nilsl]).rep 3) = some (.vals [a, b, c]) := by
  have e1 := sl_dat ha
  have e2 := sl_dat hb
  have e3 := sl_dat hc
  show fills [(0, 1), (1, 1), (2, 1)] [a, b, c] (.vals [.nilsl, .nilsl, .nilsl]) = _
  simp only [fills, e1, e2, e3, Dat.len]
  rfl
theorem CL.take {α : Type} {cells : α → List AV} {es : Nat} (hc : CL cells es) : ∀ (l : List α) (k : Nat), (l.take k).flatMap cells = (l.flatMap cells).take (k * es)
  | [], k => by simp
  | a :: l, 0 => by simp
  | a :: l, k + 1 => by
    have := hc.len a
    rw [List.take_succ_cons, List.flatMap_cons, List.flatMap_cons, CL.take hc l k, Nat.succ_mul, Nat.add_comm, ← this, List.take_length_add_append]
theorem CL.drop {α : Type} {cells : α → List AV} {es : Nat} (hc : CL cells es) : ∀ (l : List α) (k : Nat), (l.drop k).flatMap cells = (l.flatMap cells).drop (k * es)
  | [], k => by simp
  | a :: l, 0 => by simp
  | a :: l, k + 1 => by
    have := hc.len a
    rw [List.drop_succ_cons, List.flatMap_cons, CL.drop hc l k, Nat.succ_mul, Nat.add_comm, ← this, List.drop_length_add_append]
def splitTail : ACode := sR (sR (sR (sR c_spread_split.body)))
set_option maxRecDepth 8000 in
theorem split_tail {v : AV} {l : List RunV} {B A1 A2 : Nat} {at' : Int} {k : Nat} {r : RunV} {F : List Chunk} {h : AHeap} {Q : AExit → Env → AHeap → Prop} (hb : l.length ≤ 100000) (hk : l[k]? = some r)
    (st : St h (RunsC v l :: .pt B (ibox1 at') :: .pt A1 (.row ty_api_Run 3 false false (.vals r.cells)) :: .pt A2 (.row ty_api_Run 3 false false (.vals [.int .i64 0, .int .i64 0, .int .i64 0])) :: F))
    (hQ : ∀ x h s, x.notJunk = some x → sliceLen x = some (l.length + 1) → look s 4 = some x → St h (RunsC x (l.take k ++ [{ r with hi := at' }, { r with lo := at' }] ++ l.drop (k + 1)) :: F) → Q .ret s h) :
    W over tab none c_spread_split.ntmps Q .normal [.dis [⟨11, J (.store 3) [T 7, T 21], [], false⟩], .code splitTail] [(0, v), (3, .ptr B 0), (5, .int .i64 k), (6, .ptr A1 0), (7, .ptr A2 0), (21, .agg r.cells)] h := by
  obtain ⟨vl, vj, vs⟩ := St.rw (v := v) (l := l) st Tk
  have hkl := (List.getElem?_eq_some_iff.1 hk).1
  (repeat (first | (show W _ _ _ _ _ _ (.code (cond _ _ _) :: _) _ _; first | refine W.ct ?_ | refine W.cf ?_) | (show W _ _ _ _ _ _ (.ins (cond _ _ _ :: _) :: _) _ _; first | refine W.gt ?_ | refine W.gf ?_) | (show W _ _ _ _ _ _ [] _ _; refine W.of (.done ?_)) | (apply W.of; constructor <;> first | (show W _ _ _ _ _ _ _ _ _) | (intro (al : Nat) h st; show W _ _ _ _ _ _ _ _ _) | (intro _ h st; show W _ _ _ _ _ _ _ _ _) | exact Sd)))
  obtain ⟨p, p1, p2, p3, p4⟩ := d_headV (a := k) (k := l.length) (e := ty_api_Run) (es := 3) (kk := .i64) (l := l.flatMap RunV.cells) (v := v) (by omega) st Tk
  obtain ⟨q, q1, q2, q3, q4⟩ := d_tailV (a := k + 1) (k := l.length) (e := ty_api_Run) (es := 3) (kk := .i64) (l := l.flatMap RunV.cells) (v := v) (by omega) st Tk
  rw [show ((k + 1 : Nat) : Int) = (k : Int) + 1 by omega] at q1
  (repeat (first | (show W _ _ _ _ _ _ (.code (cond _ _ _) :: _) _ _; first | refine W.ct ?_ | refine W.cf ?_) | (show W _ _ _ _ _ _ (.ins (cond _ _ _ :: _) :: _) _ _; first | refine W.gt ?_ | refine W.gf ?_) | (show W _ _ _ _ _ _ [] _ _; refine W.of (.done ?_)) | (apply W.of; constructor <;> first | (show W _ _ _ _ _ _ _ _ _) | (intro (al : Nat) h st; show W _ _ _ _ _ _ _ _ _) | (intro _ h st; show W _ _ _ _ _ _ _ _ _) | exact Sd))); refine W.do (ho := p1) (w := ?_)
  (repeat (first | (show W _ _ _ _ _ _ (.code (cond _ _ _) :: _) _ _; first | refine W.ct ?_ | refine W.cf ?_) | (show W _ _ _ _ _ _ (.ins (cond _ _ _ :: _) :: _) _ _; first | refine W.gt ?_ | refine W.gf ?_) | (show W _ _ _ _ _ _ [] _ _; refine W.of (.done ?_)) | (apply W.of; constructor <;> first | (show W _ _ _ _ _ _ _ _ _) | (intro (al : Nat) h st; show W _ _ _ _ _ _ _ _ _) | (intro _ h st; show W _ _ _ _ _ _ _ _ _) | exact Sd)))
  (repeat (first | (show W _ _ _ _ _ _ (.code (cond _ _ _) :: _) _ _; first | refine W.ct ?_ | refine W.cf ?_) | (show W _ _ _ _ _ _ (.ins (cond _ _ _ :: _) :: _) _ _; first | refine W.gt ?_ | refine W.gf ?_) | (show W _ _ _ _ _ _ [] _ _; refine W.of (.done ?_)) | (apply W.of; constructor <;> first | (show W _ _ _ _ _ _ _ _ _) | (intro (al : Nat) h st; show W _ _ _ _ _ _ _ _ _) | (intro _ h st; show W _ _ _ _ _ _ _ _ _) | exact Sd))); refine W.do (ho := q1) (w := ?_)
  (repeat (first | (show W _ _ _ _ _ _ (.code (cond _ _ _) :: _) _ _; first | refine W.ct ?_ | refine W.cf ?_) | (show W _ _ _ _ _ _ (.ins (cond _ _ _ :: _) :: _) _ _; first | refine W.gt ?_ | refine W.gf ?_) | (show W _ _ _ _ _ _ [] _ _; refine W.of (.done ?_)) | (apply W.of; constructor <;> first | (show W _ _ _ _ _ _ _ _ _) | (intro (al : Nat) h st; show W _ _ _ _ _ _ _ _ _) | (intro _ h st; show W _ _ _ _ _ _ _ _ _) | exact Sd)))
  have st := St.rwRow (e := ty_api_Run) runCL [({ r with hi := at' } : RunV), { r with lo := at' }] st Tk rfl rfl
  have wp := p4 _ _ _ st Tk
  have wq := q4 _ _ _ st Tk
  (repeat (first | (show W _ _ _ _ _ _ (.code (cond _ _ _) :: _) _ _; first | refine W.ct ?_ | refine W.cf ?_) | (show W _ _ _ _ _ _ (.ins (cond _ _ _ :: _) :: _) _ _; first | refine W.gt ?_ | refine W.gf ?_) | (show W _ _ _ _ _ _ [] _ _; refine W.of (.done ?_)) | (apply W.of; constructor <;> first | (show W _ _ _ _ _ _ _ _ _) | (intro (al : Nat) h st; show W _ _ _ _ _ _ _ _ _) | (intro _ h st; show W _ _ _ _ _ _ _ _ _) | exact Sd))); refine W.ef (ho := (e_bslice (e := 117) (es := 1) st (fills3 wp.len rfl wq.len) rfl rfl)) (w := ?_); rintro vv h ⟨id, rfl, st⟩; refine nj ?_
  have hflat := runCL.flat l
  have st := St.vsRow (l := [p, .sl al 0 2 2, q]) (e := 117) st Tk rfl
  have hs : pcSum [⟨p, k, (l.flatMap RunV.cells).take (k * 3)⟩, ⟨.sl al 0 2 2, 2, ([({ r with hi := at' } : RunV), { r with lo := at' }]).flatMap RunV.cells⟩, ⟨q, l.length - (k + 1), (l.flatMap RunV.cells).drop ((k + 1) * 3)⟩] = l.length + 1 := by
    simp only [pcSum, List.map_cons, List.map_nil, List.sum_cons, List.sum_nil]; omega
  have hcc := (runs_Concat (v := .sl id 0 3 3) (X := RunsC v l) (Y := RwC (.sl al 0 2 2) ty_api_Run 3 RunV.cells [({ r with hi := at' } : RunV), { r with lo := at' }] true) (l := [⟨p, k, (l.flatMap RunV.cells).take (k * 3)⟩, ⟨.sl al 0 2 2, 2, ([({ r with hi := at' } : RunV), { r with lo := at' }]).flatMap RunV.cells⟩, ⟨q, l.length - (k + 1), (l.flatMap RunV.cells).drop ((k + 1) * 3)⟩]) (by rw [hs]; omega) (by rw [hs]; omega) (by simp) (fun x hx => by
      simp only [List.mem_cons, List.not_mem_nil, or_false] at hx
      rcases hx with rfl | rfl | rfl
      · simp only [List.length_take, hflat]; omega
      · rfl
      · simp only [List.length_drop, hflat]; omega) (fun x hx h L st => by
      simp only [List.mem_cons, List.not_mem_nil, or_false] at hx
      rcases hx with rfl | rfl | rfl
      · exact p4 _ _ _ st .here
      · exact st.vw (.there .here)
      · exact q4 _ _ _ st .here) (fun x hx => by
      simp only [List.mem_cons, List.not_mem_nil, or_false] at hx
      rcases hx with rfl | rfl | rfl
      · exact p2
      · rfl
      · exact q2))
  (repeat (first | (show W _ _ _ _ _ _ (.code (cond _ _ _) :: _) _ _; first | refine W.ct ?_ | refine W.cf ?_) | (show W _ _ _ _ _ _ (.ins (cond _ _ _ :: _) :: _) _ _; first | refine W.gt ?_ | refine W.gf ?_) | (show W _ _ _ _ _ _ [] _ _; refine W.of (.done ?_)) | (apply W.of; constructor <;> first | (show W _ _ _ _ _ _ _ _ _) | (intro (al : Nat) h st; show W _ _ _ _ _ _ _ _ _) | (intro _ h st; show W _ _ _ _ _ _ _ _ _) | exact Sd))); refine W.call (hs := hcc) (w := ?_); rintro vv _ ⟨gj, gl, rfl⟩ h st; refine nj ?_; dsimp only [List.cons_append, List.nil_append] at st
  rw [hs] at gl st
  (repeat (first | (show W _ _ _ _ _ _ (.code (cond _ _ _) :: _) _ _; first | refine W.ct ?_ | refine W.cf ?_) | (show W _ _ _ _ _ _ (.ins (cond _ _ _ :: _) :: _) _ _; first | refine W.gt ?_ | refine W.gf ?_) | (show W _ _ _ _ _ _ [] _ _; refine W.of (.done ?_)) | (apply W.of; constructor <;> first | (show W _ _ _ _ _ _ _ _ _) | (intro (al : Nat) h st; show W _ _ _ _ _ _ _ _ _) | (intro _ h st; show W _ _ _ _ _ _ _ _ _) | exact Sd)))
  refine hQ _ _ _ gj gl rfl ?_
  have e : pcAll [⟨p, k, (l.flatMap RunV.cells).take (k * 3)⟩, ⟨.sl al 0 2 2, 2, ([({ r with hi := at' } : RunV), { r with lo := at' }]).flatMap RunV.cells⟩, ⟨q, l.length - (k + 1), (l.flatMap RunV.cells).drop ((k + 1) * 3)⟩] = (l.take k ++ [{ r with hi := at' }, { r with lo := at' }] ++ l.drop (k + 1)).flatMap RunV.cells := by
    rw [List.flatMap_append, List.flatMap_append, runCL.take, runCL.drop]
    simp [pcAll]
  rw [e] at st
  have e2 : (l.take k ++ [{ r with hi := at' }, { r with lo := at' }] ++ l.drop (k + 1)).length = l.length + 1 := by simp; omega
  show St _ (SlC _ ty_api_Run 3 (l.take k ++ [{ r with hi := at' }, { r with lo := at' }] ++ l.drop (k + 1)).length _ true :: F)
  rw [e2]
  exact st.sel Sels
set_option maxRecDepth 8000 in
theorem spread_split {v : AV} {l : List RunV} {at' : Int} (hb : l.length ≤ 100000) : Spec R (.f n_spread_split) [v, .int .i64 at'] [RunsC v l] fun x Rs => x.notJunk = some x ∧ sliceLen x = some (splitM l at').length ∧ Rs = [RunsC x (splitM l at')] := by
  refine spec_in fun h F st => ?_
  obtain ⟨vl, vj, vs⟩ := St.rw (v := v) (l := l) st Tk
  clear st h F; refine spec_w (fun _ _ _ x => progI_call rfl rfl x) Njs rfl (fun h F st => ?_); dsimp only [List.cons_append, List.nil_append] at st
  (repeat (first | (show W _ _ _ _ _ _ (.code (cond _ _ _) :: _) _ _; first | refine W.ct ?_ | refine W.cf ?_) | (show W _ _ _ _ _ _ (.ins (cond _ _ _ :: _) :: _) _ _; first | refine W.gt ?_ | refine W.gf ?_) | (show W _ _ _ _ _ _ [] _ _; refine W.of (.done ?_)) | (apply W.of; constructor <;> first | (show W _ _ _ _ _ _ _ _ _) | (intro (al : Nat) h st; show W _ _ _ _ _ _ _ _ _) | (intro _ h st; show W _ _ _ _ _ _ _ _ _) | exact Sd)))
  obtain ⟨B, rfl⟩ : ∃ y, y = al := ⟨_, rfl⟩
  (repeat (first | (show W _ _ _ _ _ _ (.code (cond _ _ _) :: _) _ _; first | refine W.ct ?_ | refine W.cf ?_) | (show W _ _ _ _ _ _ (.ins (cond _ _ _ :: _) :: _) _ _; first | refine W.gt ?_ | refine W.gf ?_) | (show W _ _ _ _ _ _ [] _ _; refine W.of (.done ?_)) | (apply W.of; constructor <;> first | (show W _ _ _ _ _ _ _ _ _) | (intro (al : Nat) h st; show W _ _ _ _ _ _ _ _ _) | (intro _ h st; show W _ _ _ _ _ _ _ _ _) | exact Sd))); refine W.call (hs := (runs_IndexFunc (at' := at') hb)) (w := ?_); rintro vv _ ⟨rfl, rfl⟩ h st; refine nj ?_; dsimp only [List.cons_append, List.nil_append] at st
  cases hx : l.findIdx? (overQ at') with
  | none =>
    have e1 : overI at' l = -1 := by unfold overI; rw [hx]
    rw [e1, splitM_no hx]
    (repeat (first | (show W _ _ _ _ _ _ (.code (cond _ _ _) :: _) _ _; first | refine W.ct ?_ | refine W.cf ?_) | (show W _ _ _ _ _ _ (.ins (cond _ _ _ :: _) :: _) _ _; first | refine W.gt ?_ | refine W.gf ?_) | (show W _ _ _ _ _ _ [] _ _; refine W.of (.done ?_)) | (apply W.of; constructor <;> first | (show W _ _ _ _ _ _ _ _ _) | (intro (al : Nat) h st; show W _ _ _ _ _ _ _ _ _) | (intro _ h st; show W _ _ _ _ _ _ _ _ _) | exact Sd)))
    exact ⟨_, rfl, _, ⟨vj, vl, rfl⟩, st.sel Sels⟩
  | some k =>
    have e1 : overI at' l = (k : Nat) := by unfold overI; rw [hx]
    obtain ⟨r, hr, e2⟩ := splitM_at hx
    have hk := (List.getElem?_eq_some_iff.1 hr).1
    have gs : okSame (.agg r.cells) = true := rfl
    rw [e1]
    obtain ⟨gp, gq⟩ := d_rwIdx (v := v) (l := l) (kk := .i64) st Tk hk
    have hl := d_rwLoad runCL st Tk hr
    have tail : ∀ {A1 A2 : Nat} {h : AHeap} {s : Env}, Sub [(0, v), (3, .ptr B 0), (5, .int .i64 k), (6, .ptr A1 0), (7, .ptr A2 0), (21, .agg r.cells)] s → St h (RunsC v l :: .pt B (ibox1 at') :: .pt A1 (.row ty_api_Run 3 false false (.vals r.cells)) :: .pt A2 (.row ty_api_Run 3 false false (.vals [.int .i64 0, .int .i64 0, .int .i64 0])) :: F) →
        W over tab none c_spread_split.ntmps (fnQ c_spread_split.res fun x h' => ∃ Rs, (x.notJunk = some x ∧ sliceLen x = some (splitM l at').length ∧ Rs = [RunsC x (splitM l at')]) ∧ St h' (Rs ++ F)) .normal [.dis [⟨11, J (.store 3) [T 7, T 21], [], false⟩], .code splitTail] s h := by
      intro A1 A2 h s hs st
      refine W.sub hs (split_tail hb hr st fun x h s xj xl hx st => ?_)
      refine ⟨[x], by simp only [resS, c_spread_split, hx], [RunsC x (splitM l at')], ⟨xj, ?_, rfl⟩, ?_⟩
      · show sliceLen x = _
        rw [e2, xl]; simp; omega
      · rw [e2]; exact st
    (repeat (first | (show W _ _ _ _ _ _ (.code (cond _ _ _) :: _) _ _; first | refine W.ct ?_ | refine W.cf ?_) | (show W _ _ _ _ _ _ (.ins (cond _ _ _ :: _) :: _) _ _; first | refine W.gt ?_ | refine W.gf ?_) | (show W _ _ _ _ _ _ [] _ _; refine W.of (.done ?_)) | (apply W.of; constructor <;> first | (show W _ _ _ _ _ _ _ _ _) | (intro (al : Nat) h st; show W _ _ _ _ _ _ _ _ _) | (intro _ h st; show W _ _ _ _ _ _ _ _ _) | exact Sd)))
    refine W.draw2 ?_ ?_
    · (repeat (first | (show W _ _ _ _ _ _ (.code (cond _ _ _) :: _) _ _; first | refine W.ct ?_ | refine W.cf ?_) | (show W _ _ _ _ _ _ (.ins (cond _ _ _ :: _) :: _) _ _; first | refine W.gt ?_ | refine W.gf ?_) | (show W _ _ _ _ _ _ [] _ _; refine W.of (.done ?_)) | (apply W.of; constructor <;> first | (show W _ _ _ _ _ _ _ _ _) | (intro (al : Nat) h st; show W _ _ _ _ _ _ _ _ _) | (intro _ h st; show W _ _ _ _ _ _ _ _ _) | exact Sd))); refine W.do (ho := gp) (w := ?_)
      (repeat (first | (show W _ _ _ _ _ _ (.code (cond _ _ _) :: _) _ _; first | refine W.ct ?_ | refine W.cf ?_) | (show W _ _ _ _ _ _ (.ins (cond _ _ _ :: _) :: _) _ _; first | refine W.gt ?_ | refine W.gf ?_) | (show W _ _ _ _ _ _ [] _ _; refine W.of (.done ?_)) | (apply W.of; constructor <;> first | (show W _ _ _ _ _ _ _ _ _) | (intro (al : Nat) h st; show W _ _ _ _ _ _ _ _ _) | (intro _ h st; show W _ _ _ _ _ _ _ _ _) | exact Sd))); refine W.do (ho := hl) (w := ?_)
      (repeat (first | (show W _ _ _ _ _ _ (.code (cond _ _ _) :: _) _ _; first | refine W.ct ?_ | refine W.cf ?_) | (show W _ _ _ _ _ _ (.ins (cond _ _ _ :: _) :: _) _ _; first | refine W.gt ?_ | refine W.gf ?_) | (show W _ _ _ _ _ _ [] _ _; refine W.of (.done ?_)) | (apply W.of; constructor <;> first | (show W _ _ _ _ _ _ _ _ _) | (intro (al : Nat) h st; show W _ _ _ _ _ _ _ _ _) | (intro _ h st; show W _ _ _ _ _ _ _ _ _) | exact Sd))); refine W.do (ho := gp) (w := ?_)
      (repeat (first | (show W _ _ _ _ _ _ (.code (cond _ _ _) :: _) _ _; first | refine W.ct ?_ | refine W.cf ?_) | (show W _ _ _ _ _ _ (.ins (cond _ _ _ :: _) :: _) _ _; first | refine W.gt ?_ | refine W.gf ?_) | (show W _ _ _ _ _ _ [] _ _; refine W.of (.done ?_)) | (apply W.of; constructor <;> first | (show W _ _ _ _ _ _ _ _ _) | (intro (al : Nat) h st; show W _ _ _ _ _ _ _ _ _) | (intro _ h st; show W _ _ _ _ _ _ _ _ _) | exact Sd))); refine W.do (ho := hl) (w := ?_)
      (repeat (first | (show W _ _ _ _ _ _ (.code (cond _ _ _) :: _) _ _; first | refine W.ct ?_ | refine W.cf ?_) | (show W _ _ _ _ _ _ (.ins (cond _ _ _ :: _) :: _) _ _; first | refine W.gt ?_ | refine W.gf ?_) | (show W _ _ _ _ _ _ [] _ _; refine W.of (.done ?_)) | (apply W.of; constructor <;> first | (show W _ _ _ _ _ _ _ _ _) | (intro (al : Nat) h st; show W _ _ _ _ _ _ _ _ _) | (intro _ h st; show W _ _ _ _ _ _ _ _ _) | exact Sd))); refine W.of (.ag (.dz rfl rfl (d_rwLoad runCL st Tk hr) gs (.dz rfl rfl (d_rwLoad runCL st Tk hr) gs .nil)) ?_)
      (repeat (first | (show W _ _ _ _ _ _ (.code (cond _ _ _) :: _) _ _; first | refine W.ct ?_ | refine W.cf ?_) | (show W _ _ _ _ _ _ (.ins (cond _ _ _ :: _) :: _) _ _; first | refine W.gt ?_ | refine W.gf ?_) | (show W _ _ _ _ _ _ [] _ _; refine W.of (.done ?_)) | (apply W.of; constructor <;> first | (show W _ _ _ _ _ _ _ _ _) | (intro (al : Nat) h st; show W _ _ _ _ _ _ _ _ _) | (intro _ h st; show W _ _ _ _ _ _ _ _ _) | exact Sd))); refine W.of (.ag (.dz rfl rfl (d_rwLoad runCL st Tk hr) gs (.dz rfl rfl (d_rwLoad runCL st Tk hr) gs .nil)) ?_)
      (repeat (first | (show W _ _ _ _ _ _ (.code (cond _ _ _) :: _) _ _; first | refine W.ct ?_ | refine W.cf ?_) | (show W _ _ _ _ _ _ (.ins (cond _ _ _ :: _) :: _) _ _; first | refine W.gt ?_ | refine W.gf ?_) | (show W _ _ _ _ _ _ [] _ _; refine W.of (.done ?_)) | (apply W.of; constructor <;> first | (show W _ _ _ _ _ _ _ _ _) | (intro (al : Nat) h st; show W _ _ _ _ _ _ _ _ _) | (intro _ h st; show W _ _ _ _ _ _ _ _ _) | exact Sd))); refine W.of (.ag (.dz rfl rfl (d_rwLoad runCL st Tk hr) gs .nil) ?_)
      exact tail Sbs (st.sel Sels)
    · (repeat (first | (show W _ _ _ _ _ _ (.code (cond _ _ _) :: _) _ _; first | refine W.ct ?_ | refine W.cf ?_) | (show W _ _ _ _ _ _ (.ins (cond _ _ _ :: _) :: _) _ _; first | refine W.gt ?_ | refine W.gf ?_) | (show W _ _ _ _ _ _ [] _ _; refine W.of (.done ?_)) | (apply W.of; constructor <;> first | (show W _ _ _ _ _ _ _ _ _) | (intro (al : Nat) h st; show W _ _ _ _ _ _ _ _ _) | (intro _ h st; show W _ _ _ _ _ _ _ _ _) | exact Sd))); refine W.do (ho := gp) (w := ?_)
      (repeat (first | (show W _ _ _ _ _ _ (.code (cond _ _ _) :: _) _ _; first | refine W.ct ?_ | refine W.cf ?_) | (show W _ _ _ _ _ _ (.ins (cond _ _ _ :: _) :: _) _ _; first | refine W.gt ?_ | refine W.gf ?_) | (show W _ _ _ _ _ _ [] _ _; refine W.of (.done ?_)) | (apply W.of; constructor <;> first | (show W _ _ _ _ _ _ _ _ _) | (intro (al : Nat) h st; show W _ _ _ _ _ _ _ _ _) | (intro _ h st; show W _ _ _ _ _ _ _ _ _) | exact Sd))); refine W.do (ho := hl) (w := ?_)
      (repeat (first | (show W _ _ _ _ _ _ (.code (cond _ _ _) :: _) _ _; first | refine W.ct ?_ | refine W.cf ?_) | (show W _ _ _ _ _ _ (.ins (cond _ _ _ :: _) :: _) _ _; first | refine W.gt ?_ | refine W.gf ?_) | (show W _ _ _ _ _ _ [] _ _; refine W.of (.done ?_)) | (apply W.of; constructor <;> first | (show W _ _ _ _ _ _ _ _ _) | (intro (al : Nat) h st; show W _ _ _ _ _ _ _ _ _) | (intro _ h st; show W _ _ _ _ _ _ _ _ _) | exact Sd))); refine W.do (ho := gp) (w := ?_)
      (repeat (first | (show W _ _ _ _ _ _ (.code (cond _ _ _) :: _) _ _; first | refine W.ct ?_ | refine W.cf ?_) | (show W _ _ _ _ _ _ (.ins (cond _ _ _ :: _) :: _) _ _; first | refine W.gt ?_ | refine W.gf ?_) | (show W _ _ _ _ _ _ [] _ _; refine W.of (.done ?_)) | (apply W.of; constructor <;> first | (show W _ _ _ _ _ _ _ _ _) | (intro (al : Nat) h st; show W _ _ _ _ _ _ _ _ _) | (intro _ h st; show W _ _ _ _ _ _ _ _ _) | exact Sd))); refine W.do (ho := hl) (w := ?_)
      (repeat (first | (show W _ _ _ _ _ _ (.code (cond _ _ _) :: _) _ _; first | refine W.ct ?_ | refine W.cf ?_) | (show W _ _ _ _ _ _ (.ins (cond _ _ _ :: _) :: _) _ _; first | refine W.gt ?_ | refine W.gf ?_) | (show W _ _ _ _ _ _ [] _ _; refine W.of (.done ?_)) | (apply W.of; constructor <;> first | (show W _ _ _ _ _ _ _ _ _) | (intro (al : Nat) h st; show W _ _ _ _ _ _ _ _ _) | (intro _ h st; show W _ _ _ _ _ _ _ _ _) | exact Sd))); refine W.of (.ag (.dz rfl rfl (d_rwLoad runCL st Tk hr) gs (.dz rfl rfl (d_rwLoad runCL st Tk hr) gs .nil)) ?_)
      (repeat (first | (show W _ _ _ _ _ _ (.code (cond _ _ _) :: _) _ _; first | refine W.ct ?_ | refine W.cf ?_) | (show W _ _ _ _ _ _ (.ins (cond _ _ _ :: _) :: _) _ _; first | refine W.gt ?_ | refine W.gf ?_) | (show W _ _ _ _ _ _ [] _ _; refine W.of (.done ?_)) | (apply W.of; constructor <;> first | (show W _ _ _ _ _ _ _ _ _) | (intro (al : Nat) h st; show W _ _ _ _ _ _ _ _ _) | (intro _ h st; show W _ _ _ _ _ _ _ _ _) | exact Sd))); refine W.of (.ag (.dz rfl rfl (d_rwLoad runCL st Tk hr) gs (.dz rfl rfl (d_rwLoad runCL st Tk hr) gs .nil)) ?_)
      (repeat (first | (show W _ _ _ _ _ _ (.code (cond _ _ _) :: _) _ _; first | refine W.ct ?_ | refine W.cf ?_) | (show W _ _ _ _ _ _ (.ins (cond _ _ _ :: _) :: _) _ _; first | refine W.gt ?_ | refine W.gf ?_) | (show W _ _ _ _ _ _ [] _ _; refine W.of (.done ?_)) | (apply W.of; constructor <;> first | (show W _ _ _ _ _ _ _ _ _) | (intro (al : Nat) h st; show W _ _ _ _ _ _ _ _ _) | (intro _ h st; show W _ _ _ _ _ _ _ _ _) | exact Sd))); refine W.of (.ag (.dz rfl rfl (d_rwLoad runCL st Tk hr) gs .nil) ?_)
      exact tail Sbs (st.sel Sels)
end Go.Proofs.Ytjdemlagmamlbaa

namespace Go.Proofs.Ytjdemlagmamlbaa
variable {D : Nat}
/-- runs side by side -/
def Chain : Int → List RunV → Int → Prop
  | o, [], n => o = n
  | o, r :: l, n => r.lo = o ∧ r.lo < r.hi ∧ Chain r.hi l n
/-- no two of one count -/
def Adj : List RunV → Prop
  | [] => True
  | [_] => True
  | a :: b :: l => a.n ≠ b.n ∧ Adj (b :: l)
structure COk (l : List RunV) (n : Int) : Prop where
  chain : Chain 0 l n
  adj : Adj l
  n0 : 0 ≤ n
  n1 : n ≤ 4096
  cnt : ∀ r, r ∈ l → 0 ≤ r.n ∧ r.n ≤ 1000000
theorem Chain.le : ∀ {l : List RunV} {o n : Int}, Chain o l n → o + l.length ≤ n
  | [], o, n, h => by simp [Chain] at h; simp; omega
  | r :: l, o, n, h => by
    obtain ⟨h1, h2, h3⟩ := h
    have := h3.le
    simp only [List.length_cons]; omega
theorem COk.len {l : List RunV} {n : Int} (h : COk l n) : l.length ≤ 4096 := by
  have := h.chain.le
  have := h.n1
  omega
theorem Chain.mem : ∀ {l : List RunV} {o n : Int}, Chain o l n → ∀ r, r ∈ l → o ≤ r.lo ∧ r.lo < r.hi ∧ r.hi ≤ n
  | [], _, _, _, r, hr => by simp at hr
  | x :: l, o, n, h, r, hr => by
    obtain ⟨h1, h2, h3⟩ := h
    have hle := h3.le
    rcases List.mem_cons.1 hr with rfl | hr
    · exact ⟨by omega, h2, by omega⟩
    · have := h3.mem r hr
      omega
abbrev cntRow (lv : AV) (n : Int) : AObj := .row ty_spread_Counts 3 false false (.vals [lv, .int .i64 n, .bool true])
def CntIs (D : Nat) (l : List RunV) (n : Int) (cs : List Chunk) : Prop := ∃ lv, cs = [.pt D (cntRow lv n), RunsC lv l] ∧ COk l n
abbrev CntC (D : Nat) (l : List RunV) (n : Int) : Chunk := pk 34 (.ptr D 0) (CntIs D l n)
variable {l : List RunV} {n : Int}
theorem St.cnt {h : AHeap} {L R : List Chunk} (st : St h L) (t : Take L (CntC D l n) R) : COk l n := by
  obtain ⟨cs, ⟨lv, _, hk⟩, _⟩ := (st.take t).unpack
  exact hk
theorem cnt_made : Spec R (.f n_spread_Counts_made) [.ptr D 0] [CntC D l n] fun v Rs => v = .bool true ∧ Rs = [CntC D l n] := by
  refine spec_w (fun _ _ _ x => progI_call rfl rfl x) Njs rfl (fun h F st => ?_); dsimp only [List.cons_append, List.nil_append] at st
  obtain ⟨_, ⟨lv, rfl, hok⟩, st⟩ := St.unpack st; dsimp only [List.cons_append, List.nil_append] at st
  (repeat (first | (show W _ _ _ _ _ _ (.code (cond _ _ _) :: _) _ _; first | refine W.ct ?_ | refine W.cf ?_) | (show W _ _ _ _ _ _ (.ins (cond _ _ _ :: _) :: _) _ _; first | refine W.gt ?_ | refine W.gf ?_) | (show W _ _ _ _ _ _ [] _ _; refine W.of (.done ?_)) | (apply W.of; constructor <;> first | (show W _ _ _ _ _ _ _ _ _) | (intro (al : Nat) h st; show W _ _ _ _ _ _ _ _ _) | (intro _ h st; show W _ _ _ _ _ _ _ _ _) | exact Sd)))
  exact ⟨_, rfl, _, ⟨rfl, rfl⟩, St.packP (cs := [_, _]) st ⟨lv, rfl, hok⟩ Pks⟩
theorem cnt_Len : Spec R (.f n_spread_Counts_Len) [.ptr D 0] [CntC D l n] fun v Rs => v = .int .i64 n ∧ Rs = [CntC D l n] := by
  refine spec_w (fun _ _ _ x => progI_call rfl rfl x) Njs rfl (fun h F st => ?_); dsimp only [List.cons_append, List.nil_append] at st
  (repeat (first | (show W _ _ _ _ _ _ (.code (cond _ _ _) :: _) _ _; first | refine W.ct ?_ | refine W.cf ?_) | (show W _ _ _ _ _ _ (.ins (cond _ _ _ :: _) :: _) _ _; first | refine W.gt ?_ | refine W.gf ?_) | (show W _ _ _ _ _ _ [] _ _; refine W.of (.done ?_)) | (apply W.of; constructor <;> first | (show W _ _ _ _ _ _ _ _ _) | (intro (al : Nat) h st; show W _ _ _ _ _ _ _ _ _) | (intro _ h st; show W _ _ _ _ _ _ _ _ _) | exact Sd))); refine W.call (hs := cnt_made) (w := ?_); rintro vv _ ⟨rfl, rfl⟩ h st; refine nj ?_; dsimp only [List.cons_append, List.nil_append] at st
  obtain ⟨_, ⟨lv, rfl, hok⟩, st⟩ := St.unpack st; dsimp only [List.cons_append, List.nil_append] at st
  (repeat (first | (show W _ _ _ _ _ _ (.code (cond _ _ _) :: _) _ _; first | refine W.ct ?_ | refine W.cf ?_) | (show W _ _ _ _ _ _ (.ins (cond _ _ _ :: _) :: _) _ _; first | refine W.gt ?_ | refine W.gf ?_) | (show W _ _ _ _ _ _ [] _ _; refine W.of (.done ?_)) | (apply W.of; constructor <;> first | (show W _ _ _ _ _ _ _ _ _) | (intro (al : Nat) h st; show W _ _ _ _ _ _ _ _ _) | (intro _ h st; show W _ _ _ _ _ _ _ _ _) | exact Sd)))
  exact ⟨_, rfl, _, ⟨rfl, rfl⟩, St.packP (cs := [_, _]) st ⟨lv, rfl, hok⟩ Pks⟩
theorem cnt_Runs : Spec R (.f n_spread_Counts_Runs) [.ptr D 0] [CntC D l n] fun x Rs => x.notJunk = some x ∧ sliceLen x = some l.length ∧ Rs = [RunsC x l, CntC D l n] := by
  refine spec_w (fun _ _ _ x => progI_call rfl rfl x) Njs rfl (fun h F st => ?_); dsimp only [List.cons_append, List.nil_append] at st
  (repeat (first | (show W _ _ _ _ _ _ (.code (cond _ _ _) :: _) _ _; first | refine W.ct ?_ | refine W.cf ?_) | (show W _ _ _ _ _ _ (.ins (cond _ _ _ :: _) :: _) _ _; first | refine W.gt ?_ | refine W.gf ?_) | (show W _ _ _ _ _ _ [] _ _; refine W.of (.done ?_)) | (apply W.of; constructor <;> first | (show W _ _ _ _ _ _ _ _ _) | (intro (al : Nat) h st; show W _ _ _ _ _ _ _ _ _) | (intro _ h st; show W _ _ _ _ _ _ _ _ _) | exact Sd))); refine W.call (hs := cnt_made) (w := ?_); rintro vv _ ⟨rfl, rfl⟩ h st; refine nj ?_; dsimp only [List.cons_append, List.nil_append] at st
  obtain ⟨_, ⟨lv, rfl, hok⟩, st⟩ := St.unpack st; dsimp only [List.cons_append, List.nil_append] at st
  obtain ⟨vl, vj, vs⟩ := St.rw (v := lv) (l := l) st Tk
  have hlen := hok.len
  (repeat (first | (show W _ _ _ _ _ _ (.code (cond _ _ _) :: _) _ _; first | refine W.ct ?_ | refine W.cf ?_) | (show W _ _ _ _ _ _ (.ins (cond _ _ _ :: _) :: _) _ _; first | refine W.gt ?_ | refine W.gf ?_) | (show W _ _ _ _ _ _ [] _ _; refine W.of (.done ?_)) | (apply W.of; constructor <;> first | (show W _ _ _ _ _ _ _ _ _) | (intro (al : Nat) h st; show W _ _ _ _ _ _ _ _ _) | (intro _ h st; show W _ _ _ _ _ _ _ _ _) | exact Sd))); refine W.call (hs := (runs_Clone (v := lv) (l := l) (by omega))) (w := ?_); rintro vv _ ⟨gj, gl, rfl⟩ h st; refine nj ?_; dsimp only [List.cons_append, List.nil_append] at st
  (repeat (first | (show W _ _ _ _ _ _ (.code (cond _ _ _) :: _) _ _; first | refine W.ct ?_ | refine W.cf ?_) | (show W _ _ _ _ _ _ (.ins (cond _ _ _ :: _) :: _) _ _; first | refine W.gt ?_ | refine W.gf ?_) | (show W _ _ _ _ _ _ [] _ _; refine W.of (.done ?_)) | (apply W.of; constructor <;> first | (show W _ _ _ _ _ _ _ _ _) | (intro (al : Nat) h st; show W _ _ _ _ _ _ _ _ _) | (intro _ h st; show W _ _ _ _ _ _ _ _ _) | exact Sd)))
  have st := St.packP (t := 34) (k := .ptr D 0) (P := CntIs D l n) (cs := [_, _]) st ⟨lv, rfl, hok⟩ Pks
  exact ⟨_, rfl, _, ⟨gj, gl, rfl⟩, st.sel Sels⟩
/-- what an iterator over runs has with it -/
abbrev ptBox (D : Nat) : AObj := .row 103 1 false false (.vals [.ptr D 0])
theorem cnt_parts {p : AV} {lo hi : Int} (hp : p.notJunk = some p) (hd : p.dat = .vals [p]) : Spec R (.f n_spread_Counts_parts) [p, .int .i64 lo, .int .i64 hi] [] fun v Rs => ∃ a b c, v = .func n_spread_Counts_parts_1 [] [.ptr a 0, .ptr b 0, .ptr c 0] ∧
    Rs = [.pt a (.row 103 1 false false (.vals [p])), .pt b (ibox1 lo), .pt c (ibox1 hi)] := by
  refine spec_w (fun _ _ _ x => progI_call rfl rfl x) Njs rfl (fun h F st => ?_); dsimp only [List.cons_append, List.nil_append] at st
  (repeat (first | (show W _ _ _ _ _ _ (.code (cond _ _ _) :: _) _ _; first | refine W.ct ?_ | refine W.cf ?_) | (show W _ _ _ _ _ _ (.ins (cond _ _ _ :: _) :: _) _ _; first | refine W.gt ?_ | refine W.gf ?_) | (show W _ _ _ _ _ _ [] _ _; refine W.of (.done ?_)) | (apply W.of; constructor <;> first | (show W _ _ _ _ _ _ _ _ _) | (intro (al : Nat) h st; show W _ _ _ _ _ _ _ _ _) | (intro _ h st; show W _ _ _ _ _ _ _ _ _) | exact Sd))); refine W.ef (ho := (e_box (e := 103) (es := 1) (v := p) st (by rw [hd]; rfl) rfl)) (w := ?_); rintro vv h ⟨a, rfl, st⟩; refine nj ?_
  rw [hd] at st
  (repeat (first | (show W _ _ _ _ _ _ (.code (cond _ _ _) :: _) _ _; first | refine W.ct ?_ | refine W.cf ?_) | (show W _ _ _ _ _ _ (.ins (cond _ _ _ :: _) :: _) _ _; first | refine W.gt ?_ | refine W.gf ?_) | (show W _ _ _ _ _ _ [] _ _; refine W.of (.done ?_)) | (apply W.of; constructor <;> first | (show W _ _ _ _ _ _ _ _ _) | (intro (al : Nat) h st; show W _ _ _ _ _ _ _ _ _) | (intro _ h st; show W _ _ _ _ _ _ _ _ _) | exact Sd)))
  exact ⟨_, rfl, _, ⟨_, _, _, rfl, rfl⟩, st.sel Sels⟩
/-- a run's part -/
def clip (lo hi : Int) (r : RunV) : RunV := ⟨if lo > r.lo then lo else r.lo, if hi < r.hi then hi else r.hi, r.n⟩
def partsL (l : List RunV) (lo hi : Int) : List RunV := (l.map (clip lo hi)).filter fun r => decide (r.lo < r.hi)
abbrev ClC (I : Nat) (Cl : List RunV → List Chunk → Prop) (pre : List RunV) : Chunk := pk 31 (.yield I) (Cl pre)
abbrev ErC (I : Nat) (E : List Chunk → Prop) : Chunk := pk 32 (.yield I) E
/-- who is asked run by run -/
def AsksR (I : Nat) (items : List RunV) (Cl : List RunV → List Chunk → Prop) (E : List Chunk → Prop) : Prop := ∀ pre x suf, items = pre ++ x :: suf → Spec R (.y I) [.agg x.cells] [ClC I Cl pre] fun v Rs =>
  (v = .bool true ∧ Rs = [ClC I Cl (pre ++ [x])]) ∨ (v = .bool false ∧ Rs = [ErC I E])
theorem partsL_snoc {lo hi : Int} {r : RunV} {l : List RunV} : partsL (l ++ [r]) lo hi = if (clip lo hi r).lo < (clip lo hi r).hi then partsL l lo hi ++ [clip lo hi r] else partsL l lo hi := by
  unfold partsL
  rw [List.map_append, List.filter_append, List.map_cons, List.map_nil]
  by_cases h : (clip lo hi r).lo < (clip lo hi r).hi
  · rw [if_pos h, List.filter_cons_of_pos (by simpa using h), List.filter_nil]
  · rw [if_neg h, List.filter_cons_of_neg (by simpa using h), List.filter_nil, List.append_nil]
theorem partsL_split {lo hi : Int} {r : RunV} {l : List RunV} {i : Nat} (hr : l[i]? = some r) (h : (clip lo hi r).lo < (clip lo hi r).hi) : partsL l lo hi = partsL (l.take i) lo hi ++ clip lo hi r :: partsL (l.drop (i + 1)) lo hi := by
  obtain ⟨h1, h2⟩ := List.getElem?_eq_some_iff.1 hr
  have e : l = l.take i ++ r :: l.drop (i + 1) := by
    rw [← h2, List.getElem_cons_drop, List.take_append_drop]
  conv => lhs; rw [e]
  unfold partsL
  rw [List.map_append, List.filter_append, List.map_cons, List.filter_cons_of_pos (by simpa using h)]
set_option maxRecDepth 8000 in
theorem cnt_parts_1 {I a b c : Nat} {lo hi : Int} {Cl : List RunV → List Chunk → Prop} {E : List Chunk → Prop} (hy : AsksR I (partsL l lo hi) Cl E) :
    Spec R (.f n_spread_Counts_parts_1) [.yield I, .ptr a 0, .ptr b 0, .ptr c 0] [.pt a (ptBox D), .pt b (ibox1 lo), .pt c (ibox1 hi), CntC D l n, ClC I Cl []] fun _ Rs =>
      ∃ c', Rs = [c', .pt a (ptBox D), .pt b (ibox1 lo), .pt c (ibox1 hi), CntC D l n] ∧ (c' = ClC I Cl (partsL l lo hi) ∨ c' = ErC I E) := by
  refine spec_w (fun _ _ _ x => progI_call rfl rfl x) Njs rfl (fun h F st => ?_); dsimp only [List.cons_append, List.nil_append] at st
  (repeat (first | (show W _ _ _ _ _ _ (.code (cond _ _ _) :: _) _ _; first | refine W.ct ?_ | refine W.cf ?_) | (show W _ _ _ _ _ _ (.ins (cond _ _ _ :: _) :: _) _ _; first | refine W.gt ?_ | refine W.gf ?_) | (show W _ _ _ _ _ _ [] _ _; refine W.of (.done ?_)) | (apply W.of; constructor <;> first | (show W _ _ _ _ _ _ _ _ _) | (intro (al : Nat) h st; show W _ _ _ _ _ _ _ _ _) | (intro _ h st; show W _ _ _ _ _ _ _ _ _) | exact Sd))); refine W.call (hs := cnt_made) (w := ?_); rintro vv _ ⟨rfl, rfl⟩ h st; refine nj ?_; dsimp only [List.cons_append, List.nil_append] at st
  obtain ⟨_, ⟨lv, rfl, hok⟩, st⟩ := St.unpack st; dsimp only [List.cons_append, List.nil_append] at st
  obtain ⟨vl, vj, vs⟩ := St.rw (v := lv) (l := l) st Tk
  have hlen := hok.len
  (repeat (first | (show W _ _ _ _ _ _ (.code (cond _ _ _) :: _) _ _; first | refine W.ct ?_ | refine W.cf ?_) | (show W _ _ _ _ _ _ (.ins (cond _ _ _ :: _) :: _) _ _; first | refine W.gt ?_ | refine W.gf ?_) | (show W _ _ _ _ _ _ [] _ _; refine W.of (.done ?_)) | (apply W.of; constructor <;> first | (show W _ _ _ _ _ _ _ _ _) | (intro (al : Nat) h st; show W _ _ _ _ _ _ _ _ _) | (intro _ h st; show W _ _ _ _ _ _ _ _ _) | exact Sd)))
  refine W.loop (fun i : Nat => [(0, .yield I), (2, .ptr b 0), (3, .ptr c 0), (13, lv), (14, .int .i64 l.length), (15, .int .i64 i)]) (fun i => ClC I Cl (partsL (l.take i) lo hi) :: .pt D (cntRow lv n) :: RunsC lv l :: .pt a (ptBox D) :: .pt b (ibox1 lo) :: .pt c (ibox1 hi) :: F)
    (fun i => i ≤ l.length) (fun i => l.length - i) 0 (small_rounds (by omega)) Sbs (st.sel Sels) (Nat.zero_le _) ?_
  clear st
  intro i h hi' st
  by_cases hlt : i < l.length
  · obtain ⟨r, hr⟩ : ∃ r, l[i]? = some r := ⟨l[i], by simp [hlt]⟩
    have ep : partsL (l.take (i + 1)) lo hi = if (clip lo hi r).lo < (clip lo hi r).hi then partsL (l.take i) lo hi ++ [clip lo hi r] else partsL (l.take i) lo hi := by rw [take_snoc1 hr, partsL_snoc]
    obtain ⟨gp, gq⟩ := d_rwIdx (v := lv) (l := l) (kk := .i64) st Tk hlt
    (repeat (first | (show W _ _ _ _ _ _ (.code (cond _ _ _) :: _) _ _; first | refine W.ct ?_ | refine W.cf ?_) | (show W _ _ _ _ _ _ (.ins (cond _ _ _ :: _) :: _) _ _; first | refine W.gt ?_ | refine W.gf ?_) | (show W _ _ _ _ _ _ [] _ _; refine W.of (.done ?_)) | (apply W.of; constructor <;> first | (show W _ _ _ _ _ _ _ _ _) | (intro (al : Nat) h st; show W _ _ _ _ _ _ _ _ _) | (intro _ h st; show W _ _ _ _ _ _ _ _ _) | exact Sd))); refine W.do (ho := gp) (w := ?_)
    (repeat (first | (show W _ _ _ _ _ _ (.code (cond _ _ _) :: _) _ _; first | refine W.ct ?_ | refine W.cf ?_) | (show W _ _ _ _ _ _ (.ins (cond _ _ _ :: _) :: _) _ _; first | refine W.gt ?_ | refine W.gf ?_) | (show W _ _ _ _ _ _ [] _ _; refine W.of (.done ?_)) | (apply W.of; constructor <;> first | (show W _ _ _ _ _ _ _ _ _) | (intro (al : Nat) h st; show W _ _ _ _ _ _ _ _ _) | (intro _ h st; show W _ _ _ _ _ _ _ _ _) | exact Sd))); refine W.do (ho := (d_rwLoad runCL st Tk hr)) (w := ?_)
    (repeat (first | (show W _ _ _ _ _ _ (.code (cond _ _ _) :: _) _ _; first | refine W.ct ?_ | refine W.cf ?_) | (show W _ _ _ _ _ _ (.ins (cond _ _ _ :: _) :: _) _ _; first | refine W.gt ?_ | refine W.gf ?_) | (show W _ _ _ _ _ _ [] _ _; refine W.of (.done ?_)) | (apply W.of; constructor <;> first | (show W _ _ _ _ _ _ _ _ _) | (intro (al : Nat) h st; show W _ _ _ _ _ _ _ _ _) | (intro _ h st; show W _ _ _ _ _ _ _ _ _) | exact Sd)))
    have back : ∀ {h : AHeap} {L R : List Chunk}, St h L → Pick L [.pt D (cntRow lv n), RunsC lv l] R → St h (CntC D l n :: R) := fun st pk => St.packP (t := 34) (k := .ptr D 0) (P := CntIs D l n) st ⟨lv, rfl, hok⟩ pk
    by_cases hq : (clip lo hi r).lo < (clip lo hi r).hi
    · rw [if_pos hq] at ep
      have hq1 : (if lo > r.lo then lo else r.lo) < (if hi < r.hi then hi else r.hi) := hq
      (repeat (first | (show W _ _ _ _ _ _ (.code (cond _ _ _) :: _) _ _; first | refine W.ct ?_ | refine W.cf ?_) | (show W _ _ _ _ _ _ (.ins (cond _ _ _ :: _) :: _) _ _; first | refine W.gt ?_ | refine W.gf ?_) | (show W _ _ _ _ _ _ [] _ _; refine W.of (.done ?_)) | (apply W.of; constructor <;> first | (show W _ _ _ _ _ _ _ _ _) | (intro (al : Nat) h st; show W _ _ _ _ _ _ _ _ _) | (intro _ h st; show W _ _ _ _ _ _ _ _ _) | exact Sd)))
      refine W.ef (ho := e_yieldS progI_mono (hy _ _ _ (partsL_split hr hq)) st Pks) (w := ?_)
      rintro vv h ⟨_, (⟨rfl, rfl⟩ | ⟨rfl, rfl⟩), st⟩
      · refine nj ?_
        dsimp only [List.cons_append, List.nil_append] at st
        (repeat (first | (show W _ _ _ _ _ _ (.code (cond _ _ _) :: _) _ _; first | refine W.ct ?_ | refine W.cf ?_) | (show W _ _ _ _ _ _ (.ins (cond _ _ _ :: _) :: _) _ _; first | refine W.gt ?_ | refine W.gf ?_) | (show W _ _ _ _ _ _ [] _ _; refine W.of (.done ?_)) | (apply W.of; constructor <;> first | (show W _ _ _ _ _ _ _ _ _) | (intro (al : Nat) h st; show W _ _ _ _ _ _ _ _ _) | (intro _ h st; show W _ _ _ _ _ _ _ _ _) | exact Sd)))
        rw [← ep] at st
        refine W.of (.lp ?_)
        exact ⟨i + 1, by omega, hlt, Sbs, st.sel Sels⟩
      · refine nj ?_
        dsimp only [List.cons_append, List.nil_append] at st
        (repeat (first | (show W _ _ _ _ _ _ (.code (cond _ _ _) :: _) _ _; first | refine W.ct ?_ | refine W.cf ?_) | (show W _ _ _ _ _ _ (.ins (cond _ _ _ :: _) :: _) _ _; first | refine W.gt ?_ | refine W.gf ?_) | (show W _ _ _ _ _ _ [] _ _; refine W.of (.done ?_)) | (apply W.of; constructor <;> first | (show W _ _ _ _ _ _ _ _ _) | (intro (al : Nat) h st; show W _ _ _ _ _ _ _ _ _) | (intro _ h st; show W _ _ _ _ _ _ _ _ _) | exact Sd)))
        exact ⟨_, rfl, _, ⟨_, rfl, .inr rfl⟩, (back st Pks).sel Sels⟩
    · rw [if_neg hq] at ep
      have hq1 : ¬ (if lo > r.lo then lo else r.lo) < (if hi < r.hi then hi else r.hi) := hq
      (repeat (first | (show W _ _ _ _ _ _ (.code (cond _ _ _) :: _) _ _; first | refine W.ct ?_ | refine W.cf ?_) | (show W _ _ _ _ _ _ (.ins (cond _ _ _ :: _) :: _) _ _; first | refine W.gt ?_ | refine W.gf ?_) | (show W _ _ _ _ _ _ [] _ _; refine W.of (.done ?_)) | (apply W.of; constructor <;> first | (show W _ _ _ _ _ _ _ _ _) | (intro (al : Nat) h st; show W _ _ _ _ _ _ _ _ _) | (intro _ h st; show W _ _ _ _ _ _ _ _ _) | exact Sd)))
      rw [← ep] at st
      refine W.of (.lp ?_)
      exact ⟨i + 1, by omega, hlt, Sbs, st.sel Sels⟩
  · have e : i = l.length := by omega
    subst e
    rw [List.take_length] at st
    (repeat (first | (show W _ _ _ _ _ _ (.code (cond _ _ _) :: _) _ _; first | refine W.ct ?_ | refine W.cf ?_) | (show W _ _ _ _ _ _ (.ins (cond _ _ _ :: _) :: _) _ _; first | refine W.gt ?_ | refine W.gf ?_) | (show W _ _ _ _ _ _ [] _ _; refine W.of (.done ?_)) | (apply W.of; constructor <;> first | (show W _ _ _ _ _ _ _ _ _) | (intro (al : Nat) h st; show W _ _ _ _ _ _ _ _ _) | (intro _ h st; show W _ _ _ _ _ _ _ _ _) | exact Sd)))
    have st := St.packP (t := 34) (k := .ptr D 0) (P := CntIs D l n) (cs := [.pt D (cntRow lv n), RunsC lv l]) st ⟨lv, rfl, hok⟩ Pks
    exact ⟨_, rfl, _, ⟨_, rfl, .inl rfl⟩, st.sel Sels⟩
end Go.Proofs.Ytjdemlagmamlbaa

namespace Go.Proofs.Ytjdemlagmamlbaa
def runX (r : RunV) : List Int := List.replicate (r.hi - r.lo).toNat r.n
def expand (l : List RunV) : List Int := l.flatMap runX
theorem expand_cons (r : RunV) (l : List RunV) : expand (r :: l) = runX r ++ expand l := rfl
theorem expand_append (a b : List RunV) : expand (a ++ b) = expand a ++ expand b := List.flatMap_append
theorem runX_len (r : RunV) : (runX r).length = (r.hi - r.lo).toNat := List.length_replicate
theorem Chain.append : ∀ {a b : List RunV} {o n : Int}, Chain o (a ++ b) n ↔ ∃ m, Chain o a m ∧ Chain m b n
  | [], b, o, n => by simp [Chain]
  | r :: a, b, o, n => by
    simp only [List.cons_append, Chain]
    rw [Chain.append (a := a)]
    exact ⟨fun ⟨h1, h2, m, h3, h4⟩ => ⟨m, ⟨h1, h2, h3⟩, h4⟩, fun ⟨m, ⟨h1, h2, h3⟩, h4⟩ => ⟨h1, h2, m, h3, h4⟩⟩
theorem Chain.length : ∀ {l : List RunV} {o n : Int}, Chain o l n → (expand l).length = (n - o).toNat
  | [], o, n, h => by simp only [Chain] at h; subst h; simp [expand]
  | r :: l, o, n, h => by
    obtain ⟨h1, h2, h3⟩ := h
    have := h3.le
    rw [expand_cons, List.length_append, runX_len, h3.length]; omega
theorem joinS_nil (r : RunV) : joinS [] r = [r] := rfl
theorem joinS_snoc (init : List RunV) (p r : RunV) : joinS (init ++ [p]) r = if p.n = r.n then init ++ [{ p with hi := r.hi }] else init ++ [p, r] := by
  unfold joinS
  have e : (init ++ [p])[(init ++ [p]).length - 1]? = some p := by simp
  rw [e]
  simp only
  split
  · simp
  · simp
theorem Adj.snoc : ∀ {l : List RunV} {p r : RunV}, Adj (l ++ [p]) → p.n ≠ r.n → Adj (l ++ [p, r])
  | [], _, _, _, h => ⟨h, trivial⟩
  | [_], _, _, ha, h => ⟨ha.1, h, trivial⟩
  | _ :: b :: l, _, _, ha, h => ⟨ha.1, Adj.snoc (l := b :: l) ha.2 h⟩
theorem Adj.swap : ∀ {l : List RunV} {p q : RunV}, Adj (l ++ [p]) → p.n = q.n → Adj (l ++ [q])
  | [], _, _, _, _ => trivial
  | [_], _, _, ha, h => ⟨by rw [← h]; exact ha.1, trivial⟩
  | _ :: b :: l, _, _, ha, h => ⟨ha.1, Adj.swap (l := b :: l) ha.2 h⟩
theorem joinS_ok {out : List RunV} {r : RunV} {o : Int} (hc : Chain o out r.lo) (hr : r.lo < r.hi) (ha : Adj out) :
    Chain o (joinS out r) r.hi ∧ Adj (joinS out r) ∧ expand (joinS out r) = expand out ++ runX r ∧ ∀ x, x ∈ joinS out r → x.n = r.n ∨ ∃ y, y ∈ out ∧ x.n = y.n := by
  rcases List.eq_nil_or_concat out with rfl | ⟨init, p, rfl⟩
  · simp only [Chain] at hc
    exact ⟨⟨hc.symm, hr, rfl⟩, trivial, by rw [joinS_nil]; simp [expand], fun x hx => by simp [joinS_nil] at hx; subst hx; exact .inl rfl⟩
  · rw [List.concat_eq_append] at *
    rw [joinS_snoc]
    obtain ⟨m, h1, h2, h3, h4⟩ := Chain.append.1 hc
    simp only [Chain] at h4
    split
    · rename_i hn
      refine ⟨Chain.append.2 ⟨m, h1, h2, by simp only; omega, rfl⟩, Adj.swap ha rfl, ?_, fun x hx => ?_⟩
      · rw [expand_append, expand_append, List.append_assoc]
        congr 1
        simp only [expand, List.flatMap_cons, List.flatMap_nil, List.append_nil, runX, hn]
        rw [List.replicate_append_replicate]
        congr 1; omega
      · rcases List.mem_append.1 hx with hx | hx
        · exact .inr ⟨x, by simp [hx], rfl⟩
        · simp at hx; subst hx; exact .inl hn
    · rename_i hn
      refine ⟨Chain.append.2 ⟨m, h1, h2, h3, by omega, hr, rfl⟩, Adj.snoc ha hn, ?_, fun x hx => ?_⟩
      · rw [show init ++ [p, r] = (init ++ [p]) ++ [r] by simp, expand_append]; simp [expand]
      · rcases List.mem_append.1 hx with hx | hx
        · exact .inr ⟨x, by simp [hx], rfl⟩
        · simp at hx
          rcases hx with rfl | rfl
          · exact .inr ⟨x, by simp, rfl⟩
          · exact .inl rfl
theorem joinM_ok : ∀ {l : List RunV} {n : Int}, Chain 0 l n → Chain 0 (joinM l) n ∧ Adj (joinM l) ∧ expand (joinM l) = expand l ∧ ∀ x, x ∈ joinM l → ∃ y, y ∈ l ∧ x.n = y.n := by
  intro l
  have key : ∀ (l out : List RunV) (o m n : Int), Chain o out m → Adj out → Chain m l n → Chain o (l.foldl joinS out) n ∧ Adj (l.foldl joinS out) ∧ expand (l.foldl joinS out) = expand out ++ expand l ∧ ∀ x, x ∈ l.foldl joinS out → (∃ y, y ∈ out ∧ x.n = y.n) ∨ ∃ y, y ∈ l ∧ x.n = y.n := by
    intro l
    induction l with
    | nil =>
      intro out o m n h1 h2 h3
      simp only [Chain] at h3; subst h3
      exact ⟨h1, h2, by simp [expand], fun x hx => .inl ⟨x, hx, rfl⟩⟩
    | cons r l ih =>
      intro out o m n h1 h2 h3
      obtain ⟨g1, g2, g3⟩ := h3
      subst g1
      obtain ⟨k1, k2, k3, k4⟩ := joinS_ok h1 g2 h2
      obtain ⟨j1, j2, j3, j4⟩ := ih _ _ _ _ k1 k2 g3
      refine ⟨j1, j2, by rw [List.foldl_cons, j3, k3, expand_cons, List.append_assoc], fun x hx => ?_⟩
      rcases j4 x hx with ⟨y, hy, e⟩ | ⟨y, hy, e⟩
      · rcases k4 y hy with h | ⟨z, hz, e2⟩
        · exact .inr ⟨r, by simp, by rw [e, h]⟩
        · exact .inl ⟨z, hz, by rw [e, e2]⟩
      · exact .inr ⟨y, by simp [hy], e⟩
  intro n h
  obtain ⟨h1, h2, h3, h4⟩ := key l [] 0 0 n rfl trivial h
  exact ⟨h1, h2, by rw [joinM, h3]; rfl, fun x hx => by
    rcases h4 x hx with ⟨y, hy, _⟩ | h
    · simp at hy
    · exact h⟩
theorem splitM_ok {a : Int} : ∀ {l : List RunV} {o n : Int}, Chain o l n → Chain o (splitM l a) n ∧ expand (splitM l a) = expand l ∧ (∀ x, x ∈ splitM l a → overQ a x = false) ∧ (∀ x, x ∈ splitM l a → ∃ y, y ∈ l ∧ x.n = y.n ∧ y.lo ≤ x.lo ∧ x.hi ≤ y.hi)
  | [], o, n, h => ⟨h, rfl, by simp [splitM], by simp [splitM]⟩
  | r :: l, o, n, h => by
    obtain ⟨h1, h2, h3⟩ := h
    simp only [splitM]
    by_cases hq : overQ a r = true
    · rw [if_pos hq]
      have hq' := hq
      simp only [overQ, decide_eq_true_eq] at hq'
      refine ⟨⟨h1, hq'.1, rfl, hq'.2, h3⟩, ?_, fun x hx => ?_, fun x hx => ?_⟩
      · rw [expand_cons, expand_cons, expand_cons, ← List.append_assoc]
        congr 1
        simp only [runX]
        rw [List.replicate_append_replicate]
        congr 1; omega
      · rcases List.mem_cons.1 hx with rfl | hx
        · simp [overQ]
        · rcases List.mem_cons.1 hx with rfl | hx
          · simp [overQ]
          · have := h3.mem x hx
            simp only [overQ, decide_eq_false_iff_not]; omega
      · rcases List.mem_cons.1 hx with rfl | hx
        · exact ⟨r, by simp, rfl, Int.le_refl _, by simp only; omega⟩
        · rcases List.mem_cons.1 hx with rfl | hx
          · exact ⟨r, by simp, rfl, by simp only; omega, Int.le_refl _⟩
          · exact ⟨x, by simp [hx], rfl, Int.le_refl _, Int.le_refl _⟩
    · rw [if_neg hq]
      obtain ⟨k1, k2, k3, k4⟩ := splitM_ok (a := a) h3
      refine ⟨⟨h1, h2, k1⟩, by rw [expand_cons, expand_cons, k2], fun x hx => ?_, fun x hx => ?_⟩
      · rcases List.mem_cons.1 hx with rfl | hx
        · simpa using hq
        · exact k3 x hx
      · rcases List.mem_cons.1 hx with rfl | hx
        · exact ⟨x, by simp, rfl, Int.le_refl _, Int.le_refl _⟩
        · obtain ⟨y, hy, e⟩ := k4 x hx
          exact ⟨y, by simp [hy], e⟩
/-- split twice: no run goes over one of the places -/
theorem split2_ok {a b : Int} {l : List RunV} {n : Int} (h : Chain 0 l n) : Chain 0 (splitM (splitM l a) b) n ∧ expand (splitM (splitM l a) b) = expand l ∧ (∀ x, x ∈ splitM (splitM l a) b → overQ a x = false ∧ overQ b x = false) ∧ (∀ x, x ∈ splitM (splitM l a) b → ∃ y, y ∈ l ∧ x.n = y.n) := by
  obtain ⟨h1, h2, h3, h4⟩ := splitM_ok (a := a) h
  obtain ⟨k1, k2, k3, k4⟩ := splitM_ok (a := b) h1
  refine ⟨k1, by rw [k2, h2], fun x hx => ⟨?_, k3 x hx⟩, fun x hx => ?_⟩
  · obtain ⟨y, hy, _, g1, g2⟩ := k4 x hx
    have := h3 y hy
    simp only [overQ, decide_eq_false_iff_not] at this ⊢
    omega
  · obtain ⟨y, hy, e, _⟩ := k4 x hx
    obtain ⟨z, hz, e2, _⟩ := h4 y hy
    exact ⟨z, hz, by rw [e, e2]⟩
/-- counts within are more -/
def addR (lo hi by' : Int) (r : RunV) : RunV := if r.lo ≥ lo ∧ r.hi ≤ hi then { r with n := r.n + by' } else r
def addL (o : Int) (cs : List Int) (lo hi by' : Int) : List Int :=
  match cs with
  | [] => []
  | c :: cs => (if lo ≤ o ∧ o < hi then c + by' else c) :: addL (o + 1) cs lo hi by'
theorem addL_append {lo hi by' : Int} : ∀ {a b : List Int} {o : Int}, addL o (a ++ b) lo hi by' = addL o a lo hi by' ++ addL (o + a.length) b lo hi by'
  | [], b, o => by simp [addL]
  | c :: a, b, o => by
    simp only [List.cons_append, addL, List.length_cons]
    rw [addL_append (a := a)]
    rw [show o + 1 + (a.length : Int) = o + ((a.length + 1 : Nat) : Int) by omega]
theorem addL_in {lo hi by' c : Int} : ∀ {k : Nat} {o : Int}, lo ≤ o → o + k ≤ hi → addL o (List.replicate k c) lo hi by' = List.replicate k (c + by')
  | 0, _, _, _ => rfl
  | k + 1, o, h1, h2 => by
    rw [List.replicate_succ, addL, addL_in (k := k) (by omega) (by omega), if_pos (by omega), List.replicate_succ]
theorem addL_out {lo hi by' c : Int} : ∀ {k : Nat} {o : Int}, (o + k ≤ lo ∨ hi ≤ o) → addL o (List.replicate k c) lo hi by' = List.replicate k c
  | 0, _, _ => rfl
  | k + 1, o, h => by
    rw [List.replicate_succ, addL, addL_out (k := k) (by omega), if_neg (by omega)]
theorem addL_length {lo hi by' : Int} : ∀ {cs : List Int} {o : Int}, (addL o cs lo hi by').length = cs.length
  | [], _ => rfl
  | c :: cs, o => by simp [addL, addL_length]
theorem addM_ok {lo hi by' : Int} : ∀ {l : List RunV} {o n : Int}, Chain o l n → lo ≤ hi → (∀ x, x ∈ l → overQ lo x = false ∧ overQ hi x = false) → Chain o (l.map (addR lo hi by')) n ∧ expand (l.map (addR lo hi by')) = addL o (expand l) lo hi by'
  | [], o, n, h, _, _ => ⟨h, rfl⟩
  | r :: l, o, n, h, hle, hx => by
    obtain ⟨h1, h2, h3⟩ := h
    obtain ⟨k1, k2⟩ := addM_ok (lo := lo) (hi := hi) (by' := by') h3 hle fun x hx' => hx x (List.mem_cons_of_mem _ hx')
    obtain ⟨g1, g2⟩ := hx r List.mem_cons_self
    simp only [overQ, decide_eq_false_iff_not] at g1 g2
    have e1 : (addR lo hi by' r).lo = r.lo ∧ (addR lo hi by' r).hi = r.hi := by unfold addR; split <;> exact ⟨rfl, rfl⟩
    refine ⟨⟨by rw [e1.1]; exact h1, by rw [e1.1, e1.2]; exact h2, by rw [e1.2]; exact k1⟩, ?_⟩
    rw [List.map_cons, expand_cons, expand_cons, addL_append, k2, runX_len]
    congr 1
    · unfold addR
      split
      · rename_i hc
        simp only [runX]
        rw [addL_in (by omega) (by omega)]
      · rename_i hc
        simp only [runX]
        rw [addL_out (by omega)]
    · congr 1; omega
end Go.Proofs.Ytjdemlagmamlbaa

namespace Go.Proofs.Ytjdemlagmamlbaa
theorem partsL_nil (lo hi : Int) : partsL [] lo hi = [] := rfl
theorem partsL_cons {lo hi : Int} {r : RunV} {l : List RunV} : partsL (r :: l) lo hi = if (clip lo hi r).lo < (clip lo hi r).hi then clip lo hi r :: partsL l lo hi else partsL l lo hi := by
  unfold partsL
  rw [List.map_cons, List.filter_cons]
  by_cases h : (clip lo hi r).lo < (clip lo hi r).hi
  · rw [if_pos h, if_pos (by simpa using h)]
  · rw [if_neg h, if_neg (by simpa using h)]
theorem drop_app {α : Type} {a b : List α} {k : Nat} (h : a.length ≤ k) : (a ++ b).drop k = b.drop (k - a.length) := by
  rw [List.drop_append, List.drop_eq_nil_of_le h, List.nil_append]
theorem partsL_ok {lo hi : Int} : ∀ {l : List RunV} {o n : Int}, Chain o l n → hi ≤ n →
    (max lo o < hi → Chain (max lo o) (partsL l lo hi) hi ∧ expand (partsL l lo hi) = ((expand l).drop (max lo o - o).toNat).take (hi - max lo o).toNat) ∧ (hi ≤ max lo o → partsL l lo hi = []) ∧ ∀ x, x ∈ partsL l lo hi → ∃ y, y ∈ l ∧ x.n = y.n
  | [], o, n, h, hn => by
    simp only [Chain] at h
    exact ⟨fun h1 => by omega, fun _ => rfl, fun x hx => by simp [partsL_nil] at hx⟩
  | r :: l, o, n, h, hn => by
    obtain ⟨h1, h2, h3⟩ := h
    subst h1
    obtain ⟨k1, k2, k3⟩ := partsL_ok (lo := lo) (hi := hi) h3 hn
    rw [partsL_cons, expand_cons]
    have hmem : ∀ x, x ∈ (if (clip lo hi r).lo < (clip lo hi r).hi then clip lo hi r :: partsL l lo hi else partsL l lo hi) → ∃ y, y ∈ r :: l ∧ x.n = y.n := by
      intro x hx
      split at hx
      · rcases List.mem_cons.1 hx with rfl | hx
        · exact ⟨r, by simp, rfl⟩
        · obtain ⟨y, hy, e⟩ := k3 x hx; exact ⟨y, by simp [hy], e⟩
      · obtain ⟨y, hy, e⟩ := k3 x hx; exact ⟨y, by simp [hy], e⟩
    have hcl : (clip lo hi r).lo = max lo r.lo := by unfold clip; simp only; split <;> omega
    have hch : (clip lo hi r).hi = min hi r.hi := by unfold clip; simp only; split <;> omega
    rw [hcl, hch]
    rw [hcl, hch] at hmem
    by_cases c1 : r.hi ≤ lo
    · rw [if_neg (by omega)]
      rw [if_neg (by omega)] at hmem
      refine ⟨fun hm => ?_, fun hm => k2 (by omega), hmem⟩
      have em : max lo r.hi = max lo r.lo := by omega
      obtain ⟨g1, g2⟩ := k1 (by omega)
      refine ⟨by rw [← em]; exact g1, ?_⟩
      rw [g2, em, drop_app (by rw [runX_len]; omega), runX_len]
      congr 2; omega
    · by_cases c2 : max lo r.lo < hi
      · rw [if_pos (by omega)]
        rw [if_pos (by omega)] at hmem
        refine ⟨fun _ => ?_, fun hm => by omega, hmem⟩
        by_cases c3 : hi ≤ r.hi
        · have e0 := k2 (by omega)
          rw [e0]
          have eh : min hi r.hi = hi := by omega
          refine ⟨⟨hcl, by rw [hcl, hch]; omega, by rw [hch, eh]; rfl⟩, ?_⟩
          rw [expand_cons, show expand ([] : List RunV) = [] from rfl, List.append_nil, List.drop_append_of_le_length (by rw [runX_len]; omega)]
          rw [List.take_append_of_le_length (by rw [List.length_drop, runX_len]; omega)]
          simp only [runX, List.drop_replicate, List.take_replicate]
          rw [hcl, hch, show (clip lo hi r).n = r.n from rfl]
          congr 1; omega
        · obtain ⟨g1, g2⟩ := k1 (by omega)
          have em : max lo r.hi = r.hi := by omega
          have eh : min hi r.hi = r.hi := by omega
          rw [em] at g1 g2
          refine ⟨⟨hcl, by rw [hcl, hch]; omega, by rw [hch, eh]; exact g1⟩, ?_⟩
          rw [expand_cons, g2, Int.sub_self, List.drop_append_of_le_length (by rw [runX_len]; omega)]
          rw [List.take_append, show ((0 : Int)).toNat = 0 from rfl, List.drop_zero]
          congr 1
          · rw [List.take_of_length_le (by rw [List.length_drop, runX_len]; omega)]
            simp only [runX, List.drop_replicate]
            rw [hcl, hch, show (clip lo hi r).n = r.n from rfl]
            congr 1; omega
          · rw [List.length_drop, runX_len]
            congr 1; omega
      · rw [if_neg (by omega)]
        rw [if_neg (by omega)] at hmem
        exact ⟨fun hm => by omega, fun _ => k2 (by omega), hmem⟩
/-- those whose count becomes 0 -/
def goneP (o : Int) (cs : List Int) (by' : Int) : List Int :=
  match cs with
  | [] => []
  | c :: cs => if c ≠ 0 ∧ c + by' = 0 then o :: goneP (o + 1) cs by' else goneP (o + 1) cs by'
theorem goneP_append {by' : Int} : ∀ {a b : List Int} {o : Int}, goneP o (a ++ b) by' = goneP o a by' ++ goneP (o + a.length) b by'
  | [], b, o => by simp [goneP]
  | c :: a, b, o => by
    simp only [List.cons_append, goneP, List.length_cons]
    rw [goneP_append (a := a), show o + 1 + (a.length : Int) = o + ((a.length + 1 : Nat) : Int) by omega]
    split <;> simp
/-- so many numbers from one on -/
def upto (o : Int) : Nat → List Int
  | 0 => []
  | k + 1 => o :: upto (o + 1) k
theorem upto_snoc : ∀ (o : Int) (k : Nat), upto o (k + 1) = upto o k ++ [o + k]
  | o, 0 => by simp [upto]
  | o, k + 1 => by
    rw [upto, upto_snoc (o + 1) k, upto, List.cons_append]
    congr 3; omega
theorem goneP_rep {c by' : Int} : ∀ {k : Nat} {o : Int}, goneP o (List.replicate k c) by' = if c ≠ 0 ∧ c + by' = 0 then upto o k else []
  | 0, o => by simp [goneP, upto]
  | k + 1, o => by
    rw [List.replicate_succ, goneP, goneP_rep]
    split <;> rfl
/-- what is gone of runs -/
def goneR (by' : Int) (l : List RunV) : List Int := l.flatMap fun r => if by' ≠ 0 ∧ by' = -r.n then upto r.lo (r.hi - r.lo).toNat else []
theorem goneR_ok {by' : Int} : ∀ {l : List RunV} {o n : Int}, Chain o l n → goneR by' l = goneP o (expand l) by'
  | [], _, _, _ => rfl
  | r :: l, o, n, h => by
    obtain ⟨h1, h2, h3⟩ := h
    subst h1
    have ih := goneR_ok (by' := by') h3
    unfold goneR at ih ⊢
    rw [List.flatMap_cons, ih, expand_cons, goneP_append, runX_len]
    congr 1
    · simp only [runX]
      rw [goneP_rep]
      by_cases hc : by' ≠ 0 ∧ by' = -r.n
      · rw [if_pos hc, if_pos (by omega)]
      · rw [if_neg hc, if_neg (by omega)]
    · congr 1; omega
/-- may counts be so many more? -/
def okBy (by' : Int) (cs : List Int) : Prop := ∀ c, c ∈ cs → ¬ (by' < -c) ∧ ¬ (by' > 1000000 - c)
theorem mem_expand : ∀ {l : List RunV} {o n : Int}, Chain o l n → ∀ c, c ∈ expand l ↔ ∃ r, r ∈ l ∧ r.n = c
  | [], _, _, _, c => by simp [expand]
  | r :: l, o, n, h, c => by
    obtain ⟨h1, h2, h3⟩ := h
    rw [expand_cons, List.mem_append, mem_expand h3 c]
    simp only [runX, List.mem_replicate, List.mem_cons, exists_eq_or_imp]
    constructor
    · rintro (⟨_, rfl⟩ | h)
      · exact .inl rfl
      · exact .inr h
    · rintro (rfl | h)
      · exact .inl ⟨by omega, rfl⟩
      · exact .inr h
end Go.Proofs.Ytjdemlagmamlbaa

namespace Go.Proofs.Ytjdemlagmamlbaa
variable {D : Nat} {l : List RunV} {n : Int}
/-- an item's count -/
def atL (cs : List Int) (i : Int) : Int := if 0 ≤ i ∧ i < cs.length then (cs[i.toNat]?).getD 0 else -1
theorem parts_one (hk : COk l n) {i : Int} (h0 : 0 ≤ i) (h1 : i < n) : partsL l i (i + 1) = [⟨i, i + 1, atL (expand l) i⟩] := by
  have hlen := hk.chain.length
  obtain ⟨k1, _, _⟩ := partsL_ok (lo := i) (hi := i + 1) hk.chain (by omega)
  have em : max i 0 = i := by omega
  rw [em] at k1
  obtain ⟨g1, g2⟩ := k1 (by omega)
  cases hp : partsL l i (i + 1) with
  | nil => rw [hp] at g1; simp only [Chain] at g1; omega
  | cons r rest =>
    rw [hp] at g1 g2
    obtain ⟨c1, c2, c3⟩ := g1
    have := c3.le
    have e0 : rest = [] := List.eq_nil_of_length_eq_zero (by omega)
    subst e0
    simp only [Chain] at c3
    have hv : r.n = atL (expand l) i := by
      have hx : (expand [r])[0]? = some r.n := by
        simp only [expand, List.flatMap_cons, List.flatMap_nil, List.append_nil, runX]
        rw [List.getElem?_replicate, if_pos (by omega)]
      rw [g2, List.getElem?_take, if_pos (by omega), List.getElem?_drop] at hx
      unfold atL
      rw [if_pos (by omega), show i.toNat = (i - 0).toNat + 0 by omega, hx]; rfl
    cases r; simp only at *; subst c1 c3 hv; rfl
abbrev rcell (n : Int) : AObj := .row 3 1 false false (.vals [.int .i64 n])
abbrev partsF (a b c : Nat) : AV := .func n_spread_Counts_parts_1 [] [.ptr a 0, .ptr b 0, .ptr c 0]
abbrev atLp (I X a b c : Nat) (st : LoopState) (j : Option AExit) : Chunk := LpC I st j [(4, .ptr X 0), (18, partsF a b c)] c_spread_Counts_At.ntmps [19] c_spread_Counts_At_A0 c_spread_Counts_At_B0
theorem at_round {I X a b c : Nat} {x : RunV} : Spec R (.y I) [.agg x.cells] [atLp I X a b c .ready none, .pt X (rcell 0)] fun v Rs => v = .bool false ∧ Rs = [atLp I X a b c .done (some .ret), .pt X (rcell x.n)] := by
  refine spec_round (A := [.pt X (rcell 0)]) Njs rfl rfl (fun h F st => ?_)
  dsimp only [List.cons_append, List.nil_append] at st
  (repeat (first | (show W _ _ _ _ _ _ (.code (cond _ _ _) :: _) _ _; first | refine W.ct ?_ | refine W.cf ?_) | (show W _ _ _ _ _ _ (.ins (cond _ _ _ :: _) :: _) _ _; first | refine W.gt ?_ | refine W.gf ?_) | (show W _ _ _ _ _ _ [] _ _; refine W.of (.done ?_)) | (apply W.of; constructor <;> first | (show W _ _ _ _ _ _ _ _ _) | (intro (al : Nat) h st; show W _ _ _ _ _ _ _ _ _) | (intro _ h st; show W _ _ _ _ _ _ _ _ _) | exact Sd)))
  refine ⟨rfl, none, _, st.take (c := atLp I X a b c .ready none) Tk, fun h st => ?_⟩
  (repeat (first | (show W _ _ _ _ _ _ (.code (cond _ _ _) :: _) _ _; first | refine W.ct ?_ | refine W.cf ?_) | (show W _ _ _ _ _ _ (.ins (cond _ _ _ :: _) :: _) _ _; first | refine W.gt ?_ | refine W.gf ?_) | (show W _ _ _ _ _ _ [] _ _; refine W.of (.done ?_)) | (apply W.of; constructor <;> first | (show W _ _ _ _ _ _ _ _ _) | (intro (al : Nat) h st; show W _ _ _ _ _ _ _ _ _) | (intro _ h st; show W _ _ _ _ _ _ _ _ _) | exact Sd)))
  exact ⟨_, _, [.pt X (rcell x.n)], st.sel Sels, rfl, rfl⟩
set_option maxRecDepth 8000 in
theorem cnt_At {i : Int} : Spec R (.f n_spread_Counts_At) [.ptr D 0, .int .i64 i] [CntC D l n] fun v Rs => v = .int .i64 (atL (expand l) i) ∧ Rs = [CntC D l n] := by
  refine spec_in fun h F st => ?_
  have hk := st.cnt Tk
  have hlen := hk.chain.length
  have hn0 := hk.n0
  have hn1 := hk.n1
  clear st h F; refine spec_w (fun _ _ _ x => progI_call rfl rfl x) Njs rfl (fun h F st => ?_); dsimp only [List.cons_append, List.nil_append] at st
  by_cases h0 : i < 0
  · (repeat (first | (show W _ _ _ _ _ _ (.code (cond _ _ _) :: _) _ _; first | refine W.ct ?_ | refine W.cf ?_) | (show W _ _ _ _ _ _ (.ins (cond _ _ _ :: _) :: _) _ _; first | refine W.gt ?_ | refine W.gf ?_) | (show W _ _ _ _ _ _ [] _ _; refine W.of (.done ?_)) | (apply W.of; constructor <;> first | (show W _ _ _ _ _ _ _ _ _) | (intro (al : Nat) h st; show W _ _ _ _ _ _ _ _ _) | (intro _ h st; show W _ _ _ _ _ _ _ _ _) | exact Sd)))
    refine ⟨_, res_cell rfl (d_load1 (st.get' Tk) rfl) rfl, _, ⟨?_, rfl⟩, st.sel Sels⟩
    unfold atL; rw [if_neg (by omega)]; rfl
  · by_cases h1 : i ≥ n
    · (repeat (first | (show W _ _ _ _ _ _ (.code (cond _ _ _) :: _) _ _; first | refine W.ct ?_ | refine W.cf ?_) | (show W _ _ _ _ _ _ (.ins (cond _ _ _ :: _) :: _) _ _; first | refine W.gt ?_ | refine W.gf ?_) | (show W _ _ _ _ _ _ [] _ _; refine W.of (.done ?_)) | (apply W.of; constructor <;> first | (show W _ _ _ _ _ _ _ _ _) | (intro (al : Nat) h st; show W _ _ _ _ _ _ _ _ _) | (intro _ h st; show W _ _ _ _ _ _ _ _ _) | exact Sd))); refine W.call (hs := cnt_Len) (w := ?_); rintro vv _ ⟨rfl, rfl⟩ h st; refine nj ?_; dsimp only [List.cons_append, List.nil_append] at st
      (repeat (first | (show W _ _ _ _ _ _ (.code (cond _ _ _) :: _) _ _; first | refine W.ct ?_ | refine W.cf ?_) | (show W _ _ _ _ _ _ (.ins (cond _ _ _ :: _) :: _) _ _; first | refine W.gt ?_ | refine W.gf ?_) | (show W _ _ _ _ _ _ [] _ _; refine W.of (.done ?_)) | (apply W.of; constructor <;> first | (show W _ _ _ _ _ _ _ _ _) | (intro (al : Nat) h st; show W _ _ _ _ _ _ _ _ _) | (intro _ h st; show W _ _ _ _ _ _ _ _ _) | exact Sd)))
      refine ⟨_, res_cell rfl (d_load1 (st.get' Tk) rfl) rfl, _, ⟨?_, rfl⟩, st.sel Sels⟩
      unfold atL; rw [if_neg (by omega)]; rfl
    · (repeat (first | (show W _ _ _ _ _ _ (.code (cond _ _ _) :: _) _ _; first | refine W.ct ?_ | refine W.cf ?_) | (show W _ _ _ _ _ _ (.ins (cond _ _ _ :: _) :: _) _ _; first | refine W.gt ?_ | refine W.gf ?_) | (show W _ _ _ _ _ _ [] _ _; refine W.of (.done ?_)) | (apply W.of; constructor <;> first | (show W _ _ _ _ _ _ _ _ _) | (intro (al : Nat) h st; show W _ _ _ _ _ _ _ _ _) | (intro _ h st; show W _ _ _ _ _ _ _ _ _) | exact Sd))); refine W.call (hs := cnt_Len) (w := ?_); rintro vv _ ⟨rfl, rfl⟩ h st; refine nj ?_; dsimp only [List.cons_append, List.nil_append] at st
      (repeat (first | (show W _ _ _ _ _ _ (.code (cond _ _ _) :: _) _ _; first | refine W.ct ?_ | refine W.cf ?_) | (show W _ _ _ _ _ _ (.ins (cond _ _ _ :: _) :: _) _ _; first | refine W.gt ?_ | refine W.gf ?_) | (show W _ _ _ _ _ _ [] _ _; refine W.of (.done ?_)) | (apply W.of; constructor <;> first | (show W _ _ _ _ _ _ _ _ _) | (intro (al : Nat) h st; show W _ _ _ _ _ _ _ _ _) | (intro _ h st; show W _ _ _ _ _ _ _ _ _) | exact Sd))); refine W.call (hs := (cnt_parts (p := .ptr D 0) (lo := i) (hi := i + 1) rfl rfl)) (w := ?_); rintro vv _ ⟨a, b, c, rfl, rfl⟩ h st; refine nj ?_; dsimp only [List.cons_append, List.nil_append] at st
      (repeat (first | (show W _ _ _ _ _ _ (.code (cond _ _ _) :: _) _ _; first | refine W.ct ?_ | refine W.cf ?_) | (show W _ _ _ _ _ _ (.ins (cond _ _ _ :: _) :: _) _ _; first | refine W.gt ?_ | refine W.gf ?_) | (show W _ _ _ _ _ _ [] _ _; refine W.of (.done ?_)) | (apply W.of; constructor <;> first | (show W _ _ _ _ _ _ _ _ _) | (intro (al : Nat) h st; show W _ _ _ _ _ _ _ _ _) | (intro _ h st; show W _ _ _ _ _ _ _ _ _) | exact Sd)))
      obtain ⟨X, rfl⟩ : ∃ y, y = al := ⟨_, rfl⟩
      refine W.sub (s' := [(4, .ptr X 0), (18, .func n_spread_Counts_parts_1 [] [.ptr a 0, .ptr b 0, .ptr c 0])]) Sbs ?_
      refine W.rfun (Ps := [.pt a (ptBox D), .pt b (ibox1 i), .pt c (ibox1 (i + 1)), CntC D l n, .pt X (rcell 0)]) (post := fun j Cl => j = some .ret ∧ Cl = [.pt X (rcell (atL (expand l) i)), CntC D l n]) rfl (fun _ e => (by cases e)) st Pks (fun I => ?_) (fun j Cl h' hp st => ?_)
      · have hp1 := parts_one hk (by omega) (by omega : i < n)
        have hy : AsksR I (partsL l i (i + 1)) (fun pre cs => pre = [] ∧ cs = [atLp I X a b c .ready none, .pt X (rcell 0)]) (fun cs => cs = [atLp I X a b c .done (some .ret), .pt X (rcell (atL (expand l) i))]) := fun pre x suf e => by
          rw [hp1] at e
          obtain ⟨rfl, rfl⟩ : pre = [] ∧ x = ⟨i, i + 1, atL (expand l) i⟩ := by
            cases pre with
            | nil => simp at e; exact ⟨rfl, e.1.symm⟩
            | cons y ys => have := congrArg List.length e; simp at this
          refine Spec.unpk fun cs ⟨_, e⟩ => ?_
          subst e
          rw [List.append_nil]
          exact at_round.conv progI_mono (fun _ _ st => st) fun v Rs h F ⟨e1, e2⟩ st => ⟨_, .inr ⟨e1, rfl⟩, St.pack (cs := [_, _]) (by subst e2; exact st) rfl⟩
        refine (cnt_parts_1 (D := D) (l := l) (n := n) (a := a) (b := b) (c := c) hy).conv progI_mono (fun h F st => ?_) fun v Rs h F ⟨c', e, hc⟩ st => ?_
        · exact (St.packP (t := 31) (k := .yield I) (P := fun cs => ([] : List RunV) = [] ∧ cs = [atLp I X a b c .ready none, .pt X (rcell 0)]) st ⟨rfl, rfl⟩ Pks).sel Sels
        · subst e
          rw [hp1] at hc
          rcases hc with rfl | rfl
          · obtain ⟨cs, ⟨e, _⟩, _⟩ := St.unpack st
            cases e
          · obtain ⟨cs, rfl, st⟩ := St.unpack st
            exact ⟨_, ⟨.done, some .ret, [.pt X (rcell (atL (expand l) i)), CntC D l n], rfl, by decide, rfl, rfl⟩, st.sel Sels⟩
      · obtain ⟨rfl, rfl⟩ := hp
        (repeat (first | (show W _ _ _ _ _ _ (.code (cond _ _ _) :: _) _ _; first | refine W.ct ?_ | refine W.cf ?_) | (show W _ _ _ _ _ _ (.ins (cond _ _ _ :: _) :: _) _ _; first | refine W.gt ?_ | refine W.gf ?_) | (show W _ _ _ _ _ _ [] _ _; refine W.of (.done ?_)) | (apply W.of; constructor <;> first | (show W _ _ _ _ _ _ _ _ _) | (intro (al : Nat) h st; show W _ _ _ _ _ _ _ _ _) | (intro _ h st; show W _ _ _ _ _ _ _ _ _) | exact Sd)))
        exact ⟨_, res_cell rfl (d_load1 (st.get' Tk) rfl) rfl, _, ⟨rfl, rfl⟩, st.sel Sels⟩
end Go.Proofs.Ytjdemlagmamlbaa

namespace Go.Proofs.Ytjdemlagmamlbaa
variable {D : Nat} {l : List RunV} {n : Int}
theorem parts_all : ∀ {l : List RunV} {o n lo hi : Int}, Chain o l n → lo ≤ o → n ≤ hi → partsL l lo hi = l
  | [], _, _, _, _, _, _, _ => rfl
  | r :: l, o, n, lo, hi, h, h1, h2 => by
    have hm := Chain.mem h r List.mem_cons_self
    obtain ⟨g1, g2, g3⟩ := h
    have e : clip lo hi r = r := by
      unfold clip
      rw [if_neg (by omega), if_neg (by omega)]
    rw [partsL_cons, e, if_pos g2, parts_all g3 (by omega) h2]
def sumR (l : List RunV) : Int := (l.map fun r => r.n * (r.hi - r.lo)).sum
theorem sumR_snoc (l : List RunV) (r : RunV) : sumR (l ++ [r]) = sumR l + r.n * (r.hi - r.lo) := by simp [sumR]
theorem sum_rep (k : Nat) (c : Int) : (List.replicate k c).sum = c * k := by
  induction k with
  | zero => simp
  | succ k ih => rw [List.replicate_succ, List.sum_cons, ih, Int.natCast_add, Int.mul_add]; simp; omega
theorem sumR_ok : ∀ {l : List RunV} {o n : Int}, Chain o l n → sumR l = (expand l).sum
  | [], _, _, _ => rfl
  | r :: l, o, n, h => by
    obtain ⟨h1, h2, h3⟩ := h
    have ih := sumR_ok h3
    unfold sumR at ih ⊢
    rw [List.map_cons, List.sum_cons, ih, expand_cons, List.sum_append]
    congr 1
    simp only [runX]
    rw [sum_rep]
    congr 1; omega
theorem run_prod {r : RunV} (h1 : 0 ≤ r.n ∧ r.n ≤ 1000000) (h2 : r.lo < r.hi) : 0 ≤ r.n * (r.hi - r.lo) ∧ r.n * (r.hi - r.lo) ≤ 1000000 * (r.hi - r.lo) :=
  ⟨Int.mul_nonneg h1.1 (by omega), Int.mul_le_mul_of_nonneg_right h1.2 (by omega)⟩
theorem sumR_le : ∀ {l : List RunV} {o n : Int}, Chain o l n → (∀ r, r ∈ l → 0 ≤ r.n ∧ r.n ≤ 1000000) → 0 ≤ sumR l ∧ sumR l ≤ 1000000 * (n - o)
  | [], o, n, h, _ => by simp only [Chain] at h; subst h; simp [sumR]
  | r :: l, o, n, h, hc => by
    obtain ⟨h1, h2, h3⟩ := h
    subst h1
    obtain ⟨k1, k2⟩ := sumR_le h3 fun x hx => hc x (List.mem_cons_of_mem _ hx)
    obtain ⟨g1, g2⟩ := run_prod (hc r List.mem_cons_self) h2
    unfold sumR at k1 k2 ⊢
    rw [List.map_cons, List.sum_cons]
    omega
abbrev suLp (I X : Nat) (f : AV) (st : LoopState) (j : Option AExit) : Chunk := LpC I st j [(3, .ptr X 0), (8, f)] c_spread_Counts_Sum.ntmps [9] c_spread_Counts_Sum_A0 c_spread_Counts_Sum_B0
theorem sum_round {I X : Nat} {f : AV} {x : RunV} {s : Int} (h0 : 0 ≤ x.n * (x.hi - x.lo)) (h1 : x.n * (x.hi - x.lo) ≤ 1000000 * 5000) (g0 : 0 ≤ s) (g1 : s ≤ 1000000 * 5000) (hl : 0 ≤ x.lo) (hh : x.lo < x.hi) (hh2 : x.hi ≤ 5000) : Spec R (.y I) [.agg x.cells] [suLp I X f .ready none, .pt X (rcell s)] fun v Rs => v = .bool true ∧ Rs = [suLp I X f .ready none, .pt X (rcell (s + x.n * (x.hi - x.lo)))] := by
  refine spec_round (A := [.pt X (rcell s)]) Njs rfl rfl (fun h F st => ?_)
  dsimp only [List.cons_append, List.nil_append] at st
  (repeat (first | (show W _ _ _ _ _ _ (.code (cond _ _ _) :: _) _ _; first | refine W.ct ?_ | refine W.cf ?_) | (show W _ _ _ _ _ _ (.ins (cond _ _ _ :: _) :: _) _ _; first | refine W.gt ?_ | refine W.gf ?_) | (show W _ _ _ _ _ _ [] _ _; refine W.of (.done ?_)) | (apply W.of; constructor <;> first | (show W _ _ _ _ _ _ _ _ _) | (intro (al : Nat) h st; show W _ _ _ _ _ _ _ _ _) | (intro _ h st; show W _ _ _ _ _ _ _ _ _) | exact Sd)))
  refine ⟨rfl, none, _, st.take (c := suLp I X f .ready none) Tk, fun h st => ?_⟩
  (repeat (first | (show W _ _ _ _ _ _ (.code (cond _ _ _) :: _) _ _; first | refine W.ct ?_ | refine W.cf ?_) | (show W _ _ _ _ _ _ (.ins (cond _ _ _ :: _) :: _) _ _; first | refine W.gt ?_ | refine W.gf ?_) | (show W _ _ _ _ _ _ [] _ _; refine W.of (.done ?_)) | (apply W.of; constructor <;> first | (show W _ _ _ _ _ _ _ _ _) | (intro (al : Nat) h st; show W _ _ _ _ _ _ _ _ _) | (intro _ h st; show W _ _ _ _ _ _ _ _ _) | exact Sd)))
  rw [wrap64 (n := x.n * (x.hi - x.lo)) (by omega) (by omega)]
  (repeat (first | (show W _ _ _ _ _ _ (.code (cond _ _ _) :: _) _ _; first | refine W.ct ?_ | refine W.cf ?_) | (show W _ _ _ _ _ _ (.ins (cond _ _ _ :: _) :: _) _ _; first | refine W.gt ?_ | refine W.gf ?_) | (show W _ _ _ _ _ _ [] _ _; refine W.of (.done ?_)) | (apply W.of; constructor <;> first | (show W _ _ _ _ _ _ _ _ _) | (intro (al : Nat) h st; show W _ _ _ _ _ _ _ _ _) | (intro _ h st; show W _ _ _ _ _ _ _ _ _) | exact Sd)))
  exact ⟨_, _, [.pt X (rcell (s + x.n * (x.hi - x.lo)))], st.sel Sels, rfl, rfl⟩
set_option maxRecDepth 8000 in
theorem cnt_Sum : Spec R (.f n_spread_Counts_Sum) [.ptr D 0] [CntC D l n] fun v Rs => v = .int .i64 (expand l).sum ∧ Rs = [CntC D l n] := by
  refine spec_in fun h F st => ?_
  have hk := st.cnt Tk
  have hn0 := hk.n0
  have hn1 := hk.n1
  have hs := sumR_ok hk.chain
  have hp := parts_all (lo := 0) (hi := n) hk.chain (by omega) (by omega)
  clear st h F; refine spec_w (fun _ _ _ x => progI_call rfl rfl x) Njs rfl (fun h F st => ?_); dsimp only [List.cons_append, List.nil_append] at st
  (repeat (first | (show W _ _ _ _ _ _ (.code (cond _ _ _) :: _) _ _; first | refine W.ct ?_ | refine W.cf ?_) | (show W _ _ _ _ _ _ (.ins (cond _ _ _ :: _) :: _) _ _; first | refine W.gt ?_ | refine W.gf ?_) | (show W _ _ _ _ _ _ [] _ _; refine W.of (.done ?_)) | (apply W.of; constructor <;> first | (show W _ _ _ _ _ _ _ _ _) | (intro (al : Nat) h st; show W _ _ _ _ _ _ _ _ _) | (intro _ h st; show W _ _ _ _ _ _ _ _ _) | exact Sd))); refine W.call (hs := cnt_Len) (w := ?_); rintro vv _ ⟨rfl, rfl⟩ h st; refine nj ?_; dsimp only [List.cons_append, List.nil_append] at st
  (repeat (first | (show W _ _ _ _ _ _ (.code (cond _ _ _) :: _) _ _; first | refine W.ct ?_ | refine W.cf ?_) | (show W _ _ _ _ _ _ (.ins (cond _ _ _ :: _) :: _) _ _; first | refine W.gt ?_ | refine W.gf ?_) | (show W _ _ _ _ _ _ [] _ _; refine W.of (.done ?_)) | (apply W.of; constructor <;> first | (show W _ _ _ _ _ _ _ _ _) | (intro (al : Nat) h st; show W _ _ _ _ _ _ _ _ _) | (intro _ h st; show W _ _ _ _ _ _ _ _ _) | exact Sd))); refine W.call (hs := (cnt_parts (p := .ptr D 0) (lo := 0) (hi := n) rfl rfl)) (w := ?_); rintro vv _ ⟨a, b, c, rfl, rfl⟩ h st; refine nj ?_; dsimp only [List.cons_append, List.nil_append] at st
  (repeat (first | (show W _ _ _ _ _ _ (.code (cond _ _ _) :: _) _ _; first | refine W.ct ?_ | refine W.cf ?_) | (show W _ _ _ _ _ _ (.ins (cond _ _ _ :: _) :: _) _ _; first | refine W.gt ?_ | refine W.gf ?_) | (show W _ _ _ _ _ _ [] _ _; refine W.of (.done ?_)) | (apply W.of; constructor <;> first | (show W _ _ _ _ _ _ _ _ _) | (intro (al : Nat) h st; show W _ _ _ _ _ _ _ _ _) | (intro _ h st; show W _ _ _ _ _ _ _ _ _) | exact Sd)))
  obtain ⟨X, rfl⟩ : ∃ y, y = al := ⟨_, rfl⟩
  refine W.sub (s' := [(3, .ptr X 0), (8, partsF a b c)]) Sbs ?_
  refine W.rfun (Ps := [.pt a (ptBox D), .pt b (ibox1 0), .pt c (ibox1 n), CntC D l n, .pt X (rcell 0)]) (post := fun j Cl => j = none ∧ Cl = [.pt X (rcell (expand l).sum), CntC D l n]) rfl (fun _ e => (by cases e)) st Pks (fun I => ?_) (fun j Cl h' hp st => ?_)
  · have hy : AsksR I (partsL l 0 n) (fun pre cs => cs = [suLp I X (partsF a b c) .ready none, .pt X (rcell (sumR pre))]) (fun _ => False) := fun pre x suf e => by
      rw [hp] at e
      have hm := hk.chain.mem x (by rw [e]; simp)
      have hc := hk.cnt x (by rw [e]; simp)
      obtain ⟨g1, g2⟩ := run_prod hc hm.2.1
      have hch := hk.chain
      rw [e] at hch
      obtain ⟨m, q1, q2⟩ := Chain.append.1 hch
      obtain ⟨k1, k2⟩ := sumR_le q1 fun r hr => hk.cnt r (by rw [e]; simp [hr])
      have hmn := q2.le
      refine Spec.unpk fun cs e2 => ?_
      subst e2
      rw [List.append_nil]
      refine (sum_round g1 (by omega) k1 (by omega) (by omega) hm.2.1 (by omega)).conv progI_mono (fun _ _ st => st) fun v Rs h F ⟨e1, e2⟩ st => ⟨_, .inl ⟨e1, rfl⟩, St.pack (cs := [_, _]) (by subst e2; exact st) (by show _ = _; rw [sumR_snoc])⟩
    refine (cnt_parts_1 (D := D) (l := l) (n := n) (a := a) (b := b) (c := c) hy).conv progI_mono (fun h F st => ?_) fun v Rs h F ⟨c', e, hc⟩ st => ?_
    · exact (St.packP (t := 31) (k := .yield I) (P := fun cs => cs = [suLp I X (partsF a b c) .ready none, .pt X (rcell (sumR []))]) st rfl Pks).sel Sels
    · subst e
      rw [hp] at hc
      rcases hc with rfl | rfl
      · obtain ⟨cs, rfl, st⟩ := St.unpack st
        rw [hs] at st
        exact ⟨_, ⟨.ready, none, [.pt X (rcell (expand l).sum), CntC D l n], rfl, by decide, rfl, rfl⟩, st.sel Sels⟩
      · obtain ⟨cs, e, st⟩ := St.unpack st
        exact e.elim
  · obtain ⟨rfl, rfl⟩ := hp
    (repeat (first | (show W _ _ _ _ _ _ (.code (cond _ _ _) :: _) _ _; first | refine W.ct ?_ | refine W.cf ?_) | (show W _ _ _ _ _ _ (.ins (cond _ _ _ :: _) :: _) _ _; first | refine W.gt ?_ | refine W.gf ?_) | (show W _ _ _ _ _ _ [] _ _; refine W.of (.done ?_)) | (apply W.of; constructor <;> first | (show W _ _ _ _ _ _ _ _ _) | (intro (al : Nat) h st; show W _ _ _ _ _ _ _ _ _) | (intro _ h st; show W _ _ _ _ _ _ _ _ _) | exact Sd)))
    exact ⟨_, rfl, _, ⟨rfl, rfl⟩, st.sel Sels⟩
end Go.Proofs.Ytjdemlagmamlbaa

namespace Go.Proofs.Ytjdemlagmamlbaa
variable {D : Nat} {l : List RunV} {n : Int}
abbrev gcell (v : AV) : AObj := .row 77 1 false false (.vals [v])
abbrev ecell (n : Int) : AObj := .row 32 1 false false (.vals [.int .i64 n])
/-- does a run forbid it? -/
def badR (by' : Int) (r : RunV) : Prop := by' < -r.n ∨ by' > 1000000 - r.n
theorem upto_len : ∀ (o : Int) (k : Nat), (upto o k).length = k
  | _, 0 => rfl
  | o, k + 1 => by simp [upto, upto_len]
theorem goneR_snoc (by' : Int) (l : List RunV) (r : RunV) : goneR by' (l ++ [r]) = goneR by' l ++ (if by' ≠ 0 ∧ by' = -r.n then upto r.lo (r.hi - r.lo).toNat else []) := by
  unfold goneR; rw [List.flatMap_append]; simp
theorem goneR_len {by' : Int} : ∀ {l : List RunV} {o n : Int}, Chain o l n → ((goneR by' l).length : Int) ≤ n - o
  | [], o, n, h => by simp only [Chain] at h; subst h; simp [goneR]
  | r :: l, o, n, h => by
    obtain ⟨h1, h2, h3⟩ := h
    have ih := goneR_len (by' := by') h3
    unfold goneR at ih ⊢
    rw [List.flatMap_cons, List.length_append]
    split
    · rw [upto_len]; omega
    · simp only [List.length_nil]; omega
structure GoS where
  k : Nat
  v : AV
abbrev adE (B7 B8 B9 B10 : Nat) : Env := [(7, .ptr B7 0), (8, .ptr B8 0), (9, .ptr B9 0), (10, .ptr B10 0)]
abbrev adLp (I B7 B8 B9 B10 : Nat) (s : Env) (st : LoopState) (j : Option AExit) : Chunk := LpC I st j (adE B7 B8 B9 B10 ++ s) c_spread_Counts_Add.ntmps [38] c_spread_Counts_Add_A0 c_spread_Counts_Add_B0
abbrev adC (B7 B8 B9 B10 : Nat) (by' e : Int) (gv : AV) (g : List Int) : List Chunk := [.pt B7 (ibox1 by'), .pt B8 (gcell .nilsl), .pt B9 (ecell e), .pt B10 (gcell gv), VsC gv 3 (g.map ikey) true]
set_option maxRecDepth 8000 in
theorem add_round_bad {I B7 B8 B9 B10 : Nat} {s : Env} {by' : Int} {gv : AV} {g : List Int} {x : RunV} (hx0 : 0 ≤ x.n) (hx1 : x.n ≤ 1000000) (hb : badR by' x) :
    Spec R (.y I) [.agg x.cells] (adLp I B7 B8 B9 B10 s .ready none :: adC B7 B8 B9 B10 by' 0 gv g) fun v Rs => v = .bool false ∧ Rs = adLp I B7 B8 B9 B10 s .done (some .ret) :: adC B7 B8 B9 B10 by' 2 gv g := by
  refine spec_round (A := adC B7 B8 B9 B10 by' 0 gv g) Njs rfl rfl (fun h F st => ?_)
  dsimp only [List.cons_append, List.nil_append] at st
  (repeat (first | (show W _ _ _ _ _ _ (.code (cond _ _ _) :: _) _ _; first | refine W.ct ?_ | refine W.cf ?_) | (show W _ _ _ _ _ _ (.ins (cond _ _ _ :: _) :: _) _ _; first | refine W.gt ?_ | refine W.gf ?_) | (show W _ _ _ _ _ _ [] _ _; refine W.of (.done ?_)) | (apply W.of; constructor <;> first | (show W _ _ _ _ _ _ _ _ _) | (intro (al : Nat) h st; show W _ _ _ _ _ _ _ _ _) | (intro _ h st; show W _ _ _ _ _ _ _ _ _) | exact Sd)))
  refine ⟨rfl, none, _, st.take (c := adLp I B7 B8 B9 B10 s .ready none) Tk, fun h st => ?_⟩
  (repeat (first | (show W _ _ _ _ _ _ (.code (cond _ _ _) :: _) _ _; first | refine W.ct ?_ | refine W.cf ?_) | (show W _ _ _ _ _ _ (.ins (cond _ _ _ :: _) :: _) _ _; first | refine W.gt ?_ | refine W.gf ?_) | (show W _ _ _ _ _ _ [] _ _; refine W.of (.done ?_)) | (apply W.of; constructor <;> first | (show W _ _ _ _ _ _ _ _ _) | (intro (al : Nat) h st; show W _ _ _ _ _ _ _ _ _) | (intro _ h st; show W _ _ _ _ _ _ _ _ _) | exact Sd)))
  rw [wrap64 (n := 0 - x.n) (by omega) (by omega)]
  by_cases h1 : by' < 0 - x.n
  · (repeat (first | (show W _ _ _ _ _ _ (.code (cond _ _ _) :: _) _ _; first | refine W.ct ?_ | refine W.cf ?_) | (show W _ _ _ _ _ _ (.ins (cond _ _ _ :: _) :: _) _ _; first | refine W.gt ?_ | refine W.gf ?_) | (show W _ _ _ _ _ _ [] _ _; refine W.of (.done ?_)) | (apply W.of; constructor <;> first | (show W _ _ _ _ _ _ _ _ _) | (intro (al : Nat) h st; show W _ _ _ _ _ _ _ _ _) | (intro _ h st; show W _ _ _ _ _ _ _ _ _) | exact Sd)))
    exact ⟨_, _, adC B7 B8 B9 B10 by' 2 gv g, st.sel Sels, rfl, rfl⟩
  · have h2 : by' > 1000000 - x.n := by unfold badR at hb; omega
    (repeat (first | (show W _ _ _ _ _ _ (.code (cond _ _ _) :: _) _ _; first | refine W.ct ?_ | refine W.cf ?_) | (show W _ _ _ _ _ _ (.ins (cond _ _ _ :: _) :: _) _ _; first | refine W.gt ?_ | refine W.gf ?_) | (show W _ _ _ _ _ _ [] _ _; refine W.of (.done ?_)) | (apply W.of; constructor <;> first | (show W _ _ _ _ _ _ _ _ _) | (intro (al : Nat) h st; show W _ _ _ _ _ _ _ _ _) | (intro _ h st; show W _ _ _ _ _ _ _ _ _) | exact Sd)))
    exact ⟨_, _, adC B7 B8 B9 B10 by' 2 gv g, st.sel Sels, rfl, rfl⟩
set_option maxRecDepth 8000 in
theorem add_round_ok {I B7 B8 B9 B10 : Nat} {s : Env} {by' : Int} {gv : AV} {g : List Int} {x : RunV} (hx0 : 0 ≤ x.n) (hx1 : x.n ≤ 1000000) (hb : ¬ badR by' x) (hg : g.length ≤ 5000) (hl : 0 ≤ x.lo) (hh : x.lo < x.hi) (hh2 : x.hi ≤ 5000) :
    Spec R (.y I) [.agg x.cells] (adLp I B7 B8 B9 B10 s .ready none :: adC B7 B8 B9 B10 by' 0 gv g) fun v Rs => v = .bool true ∧ ∃ gv', Rs = adLp I B7 B8 B9 B10 s .ready none :: adC B7 B8 B9 B10 by' 0 gv' (g ++ if by' ≠ 0 ∧ by' = -x.n then upto x.lo (x.hi - x.lo).toNat else []) := by
  refine spec_round (A := adC B7 B8 B9 B10 by' 0 gv g) Njs rfl rfl (fun h F st => ?_)
  dsimp only [List.cons_append, List.nil_append] at st
  (repeat (first | (show W _ _ _ _ _ _ (.code (cond _ _ _) :: _) _ _; first | refine W.ct ?_ | refine W.cf ?_) | (show W _ _ _ _ _ _ (.ins (cond _ _ _ :: _) :: _) _ _; first | refine W.gt ?_ | refine W.gf ?_) | (show W _ _ _ _ _ _ [] _ _; refine W.of (.done ?_)) | (apply W.of; constructor <;> first | (show W _ _ _ _ _ _ _ _ _) | (intro (al : Nat) h st; show W _ _ _ _ _ _ _ _ _) | (intro _ h st; show W _ _ _ _ _ _ _ _ _) | exact Sd)))
  refine ⟨rfl, none, _, st.take (c := adLp I B7 B8 B9 B10 s .ready none) Tk, fun h st => ?_⟩
  unfold badR at hb
  have h1 : ¬ by' < 0 - x.n := by omega
  have h2 : ¬ by' > 1000000 - x.n := by omega
  (repeat (first | (show W _ _ _ _ _ _ (.code (cond _ _ _) :: _) _ _; first | refine W.ct ?_ | refine W.cf ?_) | (show W _ _ _ _ _ _ (.ins (cond _ _ _ :: _) :: _) _ _; first | refine W.gt ?_ | refine W.gf ?_) | (show W _ _ _ _ _ _ [] _ _; refine W.of (.done ?_)) | (apply W.of; constructor <;> first | (show W _ _ _ _ _ _ _ _ _) | (intro (al : Nat) h st; show W _ _ _ _ _ _ _ _ _) | (intro _ h st; show W _ _ _ _ _ _ _ _ _) | exact Sd)))
  rw [wrap64 (n := 0 - x.n) (by omega) (by omega)]
  (repeat (first | (show W _ _ _ _ _ _ (.code (cond _ _ _) :: _) _ _; first | refine W.ct ?_ | refine W.cf ?_) | (show W _ _ _ _ _ _ (.ins (cond _ _ _ :: _) :: _) _ _; first | refine W.gt ?_ | refine W.gf ?_) | (show W _ _ _ _ _ _ [] _ _; refine W.of (.done ?_)) | (apply W.of; constructor <;> first | (show W _ _ _ _ _ _ _ _ _) | (intro (al : Nat) h st; show W _ _ _ _ _ _ _ _ _) | (intro _ h st; show W _ _ _ _ _ _ _ _ _) | exact Sd)))
  obtain ⟨X, rfl⟩ : ∃ y, y = al := ⟨_, rfl⟩
  by_cases hc : by' ≠ 0 ∧ by' = -x.n
  · rw [if_pos hc]
    refine W.loop (fun y : GoS => (11, .ptr X 0) :: (12, .int .i64 (x.lo + (y.k : Nat))) :: adE B7 B8 B9 B10) (fun y => .pt X (.row 121 3 false false (.vals x.cells)) :: adLp I B7 B8 B9 B10 s .busy none :: (adC B7 B8 B9 B10 by' 0 y.v (g ++ upto x.lo y.k) ++ F))
      (fun y => (y.k : Int) ≤ x.hi - x.lo) (fun y => (x.hi - x.lo).toNat - y.k) ⟨0, gv⟩ (small_rounds (by simp only; omega)) ⟨rfl, by simp [look], rfl, rfl, rfl, rfl, trivial⟩ ?_ (by simp only; omega) ?_
    · simp only [upto, List.append_nil]
      exact st.sel Sels
    · clear st
      intro ⟨k, v⟩ h hk st
      dsimp only [List.cons_append, List.nil_append] at hk st ⊢
      obtain ⟨vl, vj, vs⟩ := St.vs (v := v) st Tk
      rw [List.length_map, List.length_append, upto_len] at vl
      (repeat (first | (show W _ _ _ _ _ _ (.code (cond _ _ _) :: _) _ _; first | refine W.ct ?_ | refine W.cf ?_) | (show W _ _ _ _ _ _ (.ins (cond _ _ _ :: _) :: _) _ _; first | refine W.gt ?_ | refine W.gf ?_) | (show W _ _ _ _ _ _ [] _ _; refine W.of (.done ?_)) | (apply W.of; constructor <;> first | (show W _ _ _ _ _ _ _ _ _) | (intro (al : Nat) h st; show W _ _ _ _ _ _ _ _ _) | (intro _ h st; show W _ _ _ _ _ _ _ _ _) | exact Sd)))
      rw [wrap64 (n := 0 - x.n) (by omega) (by omega)]
      have hby : by' = 0 - x.n := by omega
      have hb0 := hc.1
      by_cases hlt : (k : Int) < x.hi - x.lo
      · (repeat (first | (show W _ _ _ _ _ _ (.code (cond _ _ _) :: _) _ _; first | refine W.ct ?_ | refine W.cf ?_) | (show W _ _ _ _ _ _ (.ins (cond _ _ _ :: _) :: _) _ _; first | refine W.gt ?_ | refine W.gf ?_) | (show W _ _ _ _ _ _ [] _ _; refine W.of (.done ?_)) | (apply W.of; constructor <;> first | (show W _ _ _ _ _ _ _ _ _) | (intro (al : Nat) h st; show W _ _ _ _ _ _ _ _ _) | (intro _ h st; show W _ _ _ _ _ _ _ _ _) | exact Sd)))
        have st := St.vsRow (l := [.int .i64 (x.lo + (k : Nat))]) (e := 3) st Tk rfl
        (repeat (first | (show W _ _ _ _ _ _ (.code (cond _ _ _) :: _) _ _; first | refine W.ct ?_ | refine W.cf ?_) | (show W _ _ _ _ _ _ (.ins (cond _ _ _ :: _) :: _) _ _; first | refine W.gt ?_ | refine W.gf ?_) | (show W _ _ _ _ _ _ [] _ _; refine W.of (.done ?_)) | (apply W.of; constructor <;> first | (show W _ _ _ _ _ _ _ _ _) | (intro (al : Nat) h st; show W _ _ _ _ _ _ _ _ _) | (intro _ h st; show W _ _ _ _ _ _ _ _ _) | exact Sd))); refine W.ef (ho := (e_vsAppend (s := v) (l' := [.int .i64 (x.lo + (k : Nat))]) st Tk Tk (by simp [upto_len]; omega) (by simp [upto_len]; omega))) (w := ?_); rintro vv h ⟨bj, bl, st⟩; refine nj ?_
        obtain ⟨v2, rfl⟩ : ∃ y, y = vv := ⟨_, rfl⟩
        (repeat (first | (show W _ _ _ _ _ _ (.code (cond _ _ _) :: _) _ _; first | refine W.ct ?_ | refine W.cf ?_) | (show W _ _ _ _ _ _ (.ins (cond _ _ _ :: _) :: _) _ _; first | refine W.gt ?_ | refine W.gf ?_) | (show W _ _ _ _ _ _ [] _ _; refine W.of (.done ?_)) | (apply W.of; constructor <;> first | (show W _ _ _ _ _ _ _ _ _) | (intro (al : Nat) h st; show W _ _ _ _ _ _ _ _ _) | (intro _ h st; show W _ _ _ _ _ _ _ _ _) | exact Sd))); refine W.ef0 (ho := (e_storeV (i := 0) st Tk rfl (by simp) (sl_dat bl))) (w := ?_); rintro _ h ⟨_, st⟩
        (repeat (first | (show W _ _ _ _ _ _ (.code (cond _ _ _) :: _) _ _; first | refine W.ct ?_ | refine W.cf ?_) | (show W _ _ _ _ _ _ (.ins (cond _ _ _ :: _) :: _) _ _; first | refine W.gt ?_ | refine W.gf ?_) | (show W _ _ _ _ _ _ [] _ _; refine W.of (.done ?_)) | (apply W.of; constructor <;> first | (show W _ _ _ _ _ _ _ _ _) | (intro (al : Nat) h st; show W _ _ _ _ _ _ _ _ _) | (intro _ h st; show W _ _ _ _ _ _ _ _ _) | exact Sd)))
        rw [show ((g ++ upto x.lo k).map ikey ++ [.int .i64 (x.lo + (k : Nat))]) = (g ++ upto x.lo (k + 1)).map ikey by rw [upto_snoc, ← List.append_assoc, List.map_append (l₂ := [x.lo + (k : Int)])]; rfl] at st
        refine W.of (.lp ?_)
        exact ⟨⟨k + 1, v2⟩, by simp only; omega, by simp only; omega, ⟨rfl, by simp only [look]; congr 2; omega, rfl, rfl, rfl, rfl, trivial⟩, st.sel Sels⟩
      · have e : k = (x.hi - x.lo).toNat := by omega
        subst e
        (repeat (first | (show W _ _ _ _ _ _ (.code (cond _ _ _) :: _) _ _; first | refine W.ct ?_ | refine W.cf ?_) | (show W _ _ _ _ _ _ (.ins (cond _ _ _ :: _) :: _) _ _; first | refine W.gt ?_ | refine W.gf ?_) | (show W _ _ _ _ _ _ [] _ _; refine W.of (.done ?_)) | (apply W.of; constructor <;> first | (show W _ _ _ _ _ _ _ _ _) | (intro (al : Nat) h st; show W _ _ _ _ _ _ _ _ _) | (intro _ h st; show W _ _ _ _ _ _ _ _ _) | exact Sd)))
        exact ⟨_, _, adC B7 B8 B9 B10 by' 0 v (g ++ upto x.lo (x.hi - x.lo).toNat), st.sel Sels, rfl, v, rfl⟩
  · rw [if_neg hc, List.append_nil]
    refine W.loop (fun _ : Unit => (11, .ptr X 0) :: (12, .int .i64 x.lo) :: adE B7 B8 B9 B10) (fun _ => .pt X (.row 121 3 false false (.vals x.cells)) :: adLp I B7 B8 B9 B10 s .busy none :: (adC B7 B8 B9 B10 by' 0 gv g ++ F))
      (fun _ => True) (fun _ => 0) () (small_rounds (by omega)) Sbs (st.sel Sels) trivial ?_
    clear st
    intro _ h _ st
    dsimp only [List.cons_append, List.nil_append] at st ⊢
    by_cases h0 : by' = 0
    · (repeat (first | (show W _ _ _ _ _ _ (.code (cond _ _ _) :: _) _ _; first | refine W.ct ?_ | refine W.cf ?_) | (show W _ _ _ _ _ _ (.ins (cond _ _ _ :: _) :: _) _ _; first | refine W.gt ?_ | refine W.gf ?_) | (show W _ _ _ _ _ _ [] _ _; refine W.of (.done ?_)) | (apply W.of; constructor <;> first | (show W _ _ _ _ _ _ _ _ _) | (intro (al : Nat) h st; show W _ _ _ _ _ _ _ _ _) | (intro _ h st; show W _ _ _ _ _ _ _ _ _) | exact Sd)))
      exact ⟨_, _, adC B7 B8 B9 B10 by' 0 gv g, st.sel Sels, rfl, gv, rfl⟩
    · (repeat (first | (show W _ _ _ _ _ _ (.code (cond _ _ _) :: _) _ _; first | refine W.ct ?_ | refine W.cf ?_) | (show W _ _ _ _ _ _ (.ins (cond _ _ _ :: _) :: _) _ _; first | refine W.gt ?_ | refine W.gf ?_) | (show W _ _ _ _ _ _ [] _ _; refine W.of (.done ?_)) | (apply W.of; constructor <;> first | (show W _ _ _ _ _ _ _ _ _) | (intro (al : Nat) h st; show W _ _ _ _ _ _ _ _ _) | (intro _ h st; show W _ _ _ _ _ _ _ _ _) | exact Sd)))
      rw [wrap64 (n := 0 - x.n) (by omega) (by omega)]
      (repeat (first | (show W _ _ _ _ _ _ (.code (cond _ _ _) :: _) _ _; first | refine W.ct ?_ | refine W.cf ?_) | (show W _ _ _ _ _ _ (.ins (cond _ _ _ :: _) :: _) _ _; first | refine W.gt ?_ | refine W.gf ?_) | (show W _ _ _ _ _ _ [] _ _; refine W.of (.done ?_)) | (apply W.of; constructor <;> first | (show W _ _ _ _ _ _ _ _ _) | (intro (al : Nat) h st; show W _ _ _ _ _ _ _ _ _) | (intro _ h st; show W _ _ _ _ _ _ _ _ _) | exact Sd)))
      exact ⟨_, _, adC B7 B8 B9 B10 by' 0 gv g, st.sel Sels, rfl, gv, rfl⟩
end Go.Proofs.Ytjdemlagmamlbaa

namespace Go.Proofs.Ytjdemlagmamlbaa
variable {D : Nat} {l : List RunV} {n : Int}
theorem addL_in' {lo hi by' : Int} : ∀ {cs : List Int} {o : Int}, lo ≤ o → o + cs.length ≤ hi → addL o cs lo hi by' = cs.map (· + by')
  | [], _, _, _ => rfl
  | c :: cs, o, h1, h2 => by
    simp only [List.length_cons] at h2
    rw [addL, if_pos (by omega), addL_in' (by omega) (by omega), List.map_cons]
theorem addL_out' {lo hi by' : Int} : ∀ {cs : List Int} {o : Int}, (o + cs.length ≤ lo ∨ hi ≤ o) → addL o cs lo hi by' = cs
  | [], _, _ => rfl
  | c :: cs, o, h => by
    simp only [List.length_cons] at h
    rw [addL, if_neg (by omega), addL_out' (by omega)]
/-- the counts of some items -/
def slc (cs : List Int) (lo hi : Int) : List Int := (cs.drop lo.toNat).take (hi - lo).toNat
theorem addL_eq {cs : List Int} {lo hi by' : Int} (h0 : 0 ≤ lo) (h1 : lo ≤ hi) (h2 : hi ≤ cs.length) : addL 0 cs lo hi by' = cs.take lo.toNat ++ (slc cs lo hi).map (· + by') ++ cs.drop hi.toNat := by
  have e : cs = cs.take lo.toNat ++ (slc cs lo hi ++ cs.drop hi.toNat) := by
    unfold slc
    have : cs.drop hi.toNat = (cs.drop lo.toNat).drop (hi - lo).toNat := by rw [List.drop_drop]; congr 1; omega
    rw [this, List.take_append_drop, List.take_append_drop]
  have l1 : (cs.take lo.toNat).length = lo.toNat := by rw [List.length_take]; omega
  have l2 : (slc cs lo hi).length = (hi - lo).toNat := by unfold slc; rw [List.length_take, List.length_drop]; omega
  conv => lhs; rw [e]
  rw [addL_append, addL_append, addL_out' (by omega), addL_in' (by omega) (by omega), addL_out' (by omega), List.append_assoc]
/-- may it be added? -/
structure AddOk (cs : List Int) (lo hi by' : Int) : Prop where
  l0 : 0 ≤ lo
  h0 : hi ≤ cs.length
  le : lo ≤ hi
  ok : okBy by' (slc cs lo hi)
theorem slc_len {cs : List Int} {lo hi : Int} (h0 : 0 ≤ lo) (h1 : lo ≤ hi) (h2 : hi ≤ cs.length) : (slc cs lo hi).length = (hi - lo).toNat := by unfold slc; rw [List.length_take, List.length_drop]; omega
theorem parts_slc (hk : COk l n) {lo hi : Int} (h0 : 0 ≤ lo) (h1 : lo < hi) (h2 : hi ≤ n) : Chain lo (partsL l lo hi) hi ∧ expand (partsL l lo hi) = slc (expand l) lo hi ∧ ∀ x, x ∈ partsL l lo hi → 0 ≤ x.n ∧ x.n ≤ 1000000 := by
  obtain ⟨k1, _, k3⟩ := partsL_ok (lo := lo) (hi := hi) hk.chain h2
  have em : max lo 0 = lo := by omega
  rw [em] at k1
  obtain ⟨g1, g2⟩ := k1 h1
  refine ⟨g1, by rw [g2]; unfold slc; congr 2; omega, fun x hx => ?_⟩
  obtain ⟨y, hy, e⟩ := k3 x hx
  rw [e]; exact hk.cnt y hy
theorem parts_none (hk : COk l n) {lo hi : Int} (h1 : hi ≤ lo) (h2 : hi ≤ n) : partsL l lo hi = [] :=
  (partsL_ok (lo := lo) (hi := hi) hk.chain h2).2.1 (by omega)
/-- the counts behind it -/
theorem add_cnt (hk : COk l n) {lo hi by' : Int} (ha : AddOk (expand l) lo hi by') : ∀ c, c ∈ addL 0 (expand l) lo hi by' → 0 ≤ c ∧ c ≤ 1000000 := by
  have hc : ∀ c, c ∈ expand l → 0 ≤ c ∧ c ≤ 1000000 := fun c hc => by
    obtain ⟨r, hr, e⟩ := (mem_expand hk.chain c).1 hc
    rw [← e]; exact hk.cnt r hr
  intro c hm
  rw [addL_eq ha.l0 ha.le ha.h0] at hm
  rcases List.mem_append.1 hm with hm | hm
  · rcases List.mem_append.1 hm with hm | hm
    · exact hc c (List.mem_of_mem_take hm)
    · obtain ⟨d, hd, rfl⟩ := List.mem_map.1 hm
      have := ha.ok d hd
      omega
  · exact hc c (List.mem_of_mem_drop hm)
theorem by_small (hk : COk l n) {lo hi by' : Int} (ha : AddOk (expand l) lo hi by') (h : lo < hi) : -1000000 ≤ by' ∧ by' ≤ 1000000 := by
  have hlen := slc_len ha.l0 ha.le ha.h0
  have hh := ha.h0
  have hl := hk.chain.length
  have hn0 := hk.n0
  cases e : slc (expand l) lo hi with
  | nil => rw [e] at hlen; simp at hlen; omega
  | cons c cs =>
    have hm : c ∈ slc (expand l) lo hi := by rw [e]; simp
    have h1 := ha.ok c hm
    obtain ⟨r, hr, e2⟩ := (mem_expand hk.chain c).1 (List.mem_of_mem_drop (List.mem_of_mem_take hm))
    have := hk.cnt r hr
    omega
structure L2S where
  i : Nat
abbrev l2E (B7 B8 B9 B10 D : Nat) (lo hi : Int) (v : AV) (k : Nat) (i : Nat) : Env := [(0, .ptr D 0), (1, .int .i64 lo), (2, .int .i64 hi), (7, .ptr B7 0), (8, .ptr B8 0), (9, .ptr B9 0), (10, .ptr B10 0), (13, v), (84, v), (85, .int .i64 (k : Nat)), (86, .int .i64 (i : Nat))]
abbrev addI (lo hi by' : Int) (ls : List RunV) (i : Nat) : List RunV := (ls.take i).map (addR lo hi by') ++ ls.drop i
theorem addI_at {lo hi by' : Int} {ls : List RunV} {i : Nat} {r : RunV} (hr : ls[i]? = some r) : (addI lo hi by' ls i)[i]? = some r := by
  have hi := (List.getElem?_eq_some_iff.1 hr).1
  unfold addI
  rw [List.getElem?_append_right (by simp; omega), List.getElem?_drop]
  simp only [List.length_map, List.length_take]
  rw [show i + (i - min i ls.length) = i by omega]; exact hr
theorem addI_step {lo hi by' : Int} {ls : List RunV} {i : Nat} {r : RunV} (hr : ls[i]? = some r) : (addI lo hi by' ls i).set i (addR lo hi by' r) = addI lo hi by' ls (i + 1) := by
  have hi := (List.getElem?_eq_some_iff.1 hr).1
  unfold addI
  rw [take_snoc1 hr, List.map_append, List.append_assoc]
  have e : ls.drop i = r :: ls.drop (i + 1) := by
    obtain ⟨h1, h2⟩ := List.getElem?_eq_some_iff.1 hr
    rw [← h2, List.getElem_cons_drop]
  rw [e, List.set_append_right _ _ (by simp; omega)]
  simp only [List.length_map, List.length_take]
  rw [show i - min i ls.length = 0 by omega]; rfl
theorem addI_len {lo hi by' : Int} {ls : List RunV} {i : Nat} : (addI lo hi by' ls i).length = ls.length := by
  unfold addI; simp only [List.length_append, List.length_map, List.length_take, List.length_drop]; omega
set_option maxRecDepth 8000 in
theorem add_L2 {B7 B8 B9 B10 D : Nat} {lo hi by' : Int} {v : AV} {ls : List RunV} {F : List Chunk} {Q : AExit → Env → AHeap → Prop} {k : List KI} {h : AHeap} {i : Nat} (hlt : i < ls.length) (hlen : ls.length ≤ 100000)
    (hb : ∀ r, r ∈ ls → r.lo ≥ lo ∧ r.hi ≤ hi → -9223372036854775808 ≤ r.n + by' ∧ r.n + by' ≤ 9223372036854775807) (st : St h (RunsC v (addI lo hi by' ls i) :: .pt B7 (ibox1 by') :: F)) :
    W over tab none c_spread_Counts_Add.ntmps Q .normal (.code c_spread_Counts_Add_L2 :: .lp (fun s' h' => ∃ j : Nat, ls.length - j < ls.length - i ∧ j ≤ ls.length ∧ Sub (l2E B7 B8 B9 B10 D lo hi v ls.length j) s' ∧ St h' (RunsC v (addI lo hi by' ls j) :: .pt B7 (ibox1 by') :: F)) :: k) (l2E B7 B8 B9 B10 D lo hi v ls.length i) h := by
  obtain ⟨r, hr⟩ : ∃ r, ls[i]? = some r := ⟨ls[i], by simp [hlt]⟩
  have hra := addI_at (lo := lo) (hi := hi) (by' := by') hr
  have hst := addI_step (lo := lo) (hi := hi) (by' := by') hr
  obtain ⟨vl, vj, vs⟩ := St.rw (v := v) (l := addI lo hi by' ls i) st Tk
  have hil : i < (addI lo hi by' ls i).length := by rw [addI_len]; exact hlt
  obtain ⟨gp, gq⟩ := d_rwIdx (v := v) (l := addI lo hi by' ls i) (kk := .i64) st Tk hil
  (repeat (first | (show W _ _ _ _ _ _ (.code (cond _ _ _) :: _) _ _; first | refine W.ct ?_ | refine W.cf ?_) | (show W _ _ _ _ _ _ (.ins (cond _ _ _ :: _) :: _) _ _; first | refine W.gt ?_ | refine W.gf ?_) | (show W _ _ _ _ _ _ [] _ _; refine W.of (.done ?_)) | (apply W.of; constructor <;> first | (show W _ _ _ _ _ _ _ _ _) | (intro (al : Nat) h st; show W _ _ _ _ _ _ _ _ _) | (intro _ h st; show W _ _ _ _ _ _ _ _ _) | exact Sd))); refine W.do (ho := gp) (w := ?_)
  (repeat (first | (show W _ _ _ _ _ _ (.code (cond _ _ _) :: _) _ _; first | refine W.ct ?_ | refine W.cf ?_) | (show W _ _ _ _ _ _ (.ins (cond _ _ _ :: _) :: _) _ _; first | refine W.gt ?_ | refine W.gf ?_) | (show W _ _ _ _ _ _ [] _ _; refine W.of (.done ?_)) | (apply W.of; constructor <;> first | (show W _ _ _ _ _ _ _ _ _) | (intro (al : Nat) h st; show W _ _ _ _ _ _ _ _ _) | (intro _ h st; show W _ _ _ _ _ _ _ _ _) | exact Sd))); refine W.do (ho := (d_rwLoad runCL st Tk hra)) (w := ?_)
  (repeat (first | (show W _ _ _ _ _ _ (.code (cond _ _ _) :: _) _ _; first | refine W.ct ?_ | refine W.cf ?_) | (show W _ _ _ _ _ _ (.ins (cond _ _ _ :: _) :: _) _ _; first | refine W.gt ?_ | refine W.gf ?_) | (show W _ _ _ _ _ _ [] _ _; refine W.of (.done ?_)) | (apply W.of; constructor <;> first | (show W _ _ _ _ _ _ _ _ _) | (intro (al : Nat) h st; show W _ _ _ _ _ _ _ _ _) | (intro _ h st; show W _ _ _ _ _ _ _ _ _) | exact Sd)))
  have keep : ¬ (r.lo ≥ lo ∧ r.hi ≤ hi) → addI lo hi by' ls (i + 1) = addI lo hi by' ls i := fun hc => by
    rw [← hst]
    have e : addR lo hi by' r = r := by unfold addR; rw [if_neg hc]
    rw [e]
    exact set_same' hra
  by_cases h1 : r.lo ≥ lo
  · by_cases h2 : r.hi ≤ hi
    · obtain ⟨b1, b2⟩ := hb r (List.mem_of_getElem? hr) ⟨h1, h2⟩
      have ea : addR lo hi by' r = { r with n := r.n + by' } := by unfold addR; rw [if_pos ⟨h1, h2⟩]
      obtain ⟨xp, xq⟩ := d_rwFld (h := h) (es := 3) (i := i) (o := 2) vl hil
      obtain ⟨gp, gq⟩ := d_rwIdx (v := v) (l := addI lo hi by' ls i) (kk := .i64) st Tk hil
      (repeat (first | (show W _ _ _ _ _ _ (.code (cond _ _ _) :: _) _ _; first | refine W.ct ?_ | refine W.cf ?_) | (show W _ _ _ _ _ _ (.ins (cond _ _ _ :: _) :: _) _ _; first | refine W.gt ?_ | refine W.gf ?_) | (show W _ _ _ _ _ _ [] _ _; refine W.of (.done ?_)) | (apply W.of; constructor <;> first | (show W _ _ _ _ _ _ _ _ _) | (intro (al : Nat) h st; show W _ _ _ _ _ _ _ _ _) | (intro _ h st; show W _ _ _ _ _ _ _ _ _) | exact Sd)))
      (repeat (first | (show W _ _ _ _ _ _ (.code (cond _ _ _) :: _) _ _; first | refine W.ct ?_ | refine W.cf ?_) | (show W _ _ _ _ _ _ (.ins (cond _ _ _ :: _) :: _) _ _; first | refine W.gt ?_ | refine W.gf ?_) | (show W _ _ _ _ _ _ [] _ _; refine W.of (.done ?_)) | (apply W.of; constructor <;> first | (show W _ _ _ _ _ _ _ _ _) | (intro (al : Nat) h st; show W _ _ _ _ _ _ _ _ _) | (intro _ h st; show W _ _ _ _ _ _ _ _ _) | exact Sd))); refine W.do (ho := gp) (w := ?_)
      (repeat (first | (show W _ _ _ _ _ _ (.code (cond _ _ _) :: _) _ _; first | refine W.ct ?_ | refine W.cf ?_) | (show W _ _ _ _ _ _ (.ins (cond _ _ _ :: _) :: _) _ _; first | refine W.gt ?_ | refine W.gf ?_) | (show W _ _ _ _ _ _ [] _ _; refine W.of (.done ?_)) | (apply W.of; constructor <;> first | (show W _ _ _ _ _ _ _ _ _) | (intro (al : Nat) h st; show W _ _ _ _ _ _ _ _ _) | (intro _ h st; show W _ _ _ _ _ _ _ _ _) | exact Sd))); refine W.do (ho := xp) (w := ?_)
      (repeat (first | (show W _ _ _ _ _ _ (.code (cond _ _ _) :: _) _ _; first | refine W.ct ?_ | refine W.cf ?_) | (show W _ _ _ _ _ _ (.ins (cond _ _ _ :: _) :: _) _ _; first | refine W.gt ?_ | refine W.gf ?_) | (show W _ _ _ _ _ _ [] _ _; refine W.of (.done ?_)) | (apply W.of; constructor <;> first | (show W _ _ _ _ _ _ _ _ _) | (intro (al : Nat) h st; show W _ _ _ _ _ _ _ _ _) | (intro _ h st; show W _ _ _ _ _ _ _ _ _) | exact Sd))); refine W.do (ho := (d_rwLoadF (o := 2) runCL st Tk hra rfl)) (w := ?_)
      (repeat (first | (show W _ _ _ _ _ _ (.code (cond _ _ _) :: _) _ _; first | refine W.ct ?_ | refine W.cf ?_) | (show W _ _ _ _ _ _ (.ins (cond _ _ _ :: _) :: _) _ _; first | refine W.gt ?_ | refine W.gf ?_) | (show W _ _ _ _ _ _ [] _ _; refine W.of (.done ?_)) | (apply W.of; constructor <;> first | (show W _ _ _ _ _ _ _ _ _) | (intro (al : Nat) h st; show W _ _ _ _ _ _ _ _ _) | (intro _ h st; show W _ _ _ _ _ _ _ _ _) | exact Sd))); refine W.do (ho := gp) (w := ?_)
      (repeat (first | (show W _ _ _ _ _ _ (.code (cond _ _ _) :: _) _ _; first | refine W.ct ?_ | refine W.cf ?_) | (show W _ _ _ _ _ _ (.ins (cond _ _ _ :: _) :: _) _ _; first | refine W.gt ?_ | refine W.gf ?_) | (show W _ _ _ _ _ _ [] _ _; refine W.of (.done ?_)) | (apply W.of; constructor <;> first | (show W _ _ _ _ _ _ _ _ _) | (intro (al : Nat) h st; show W _ _ _ _ _ _ _ _ _) | (intro _ h st; show W _ _ _ _ _ _ _ _ _) | exact Sd))); refine W.do (ho := xp) (w := ?_)
      (repeat (first | (show W _ _ _ _ _ _ (.code (cond _ _ _) :: _) _ _; first | refine W.ct ?_ | refine W.cf ?_) | (show W _ _ _ _ _ _ (.ins (cond _ _ _ :: _) :: _) _ _; first | refine W.gt ?_ | refine W.gf ?_) | (show W _ _ _ _ _ _ [] _ _; refine W.of (.done ?_)) | (apply W.of; constructor <;> first | (show W _ _ _ _ _ _ _ _ _) | (intro (al : Nat) h st; show W _ _ _ _ _ _ _ _ _) | (intro _ h st; show W _ _ _ _ _ _ _ _ _) | exact Sd))); refine W.ef0 (ho := (e_rwStoreF (o := 2) (n := 1) (a' := { r with n := r.n + by' }) (y := [.int .i64 (r.n + by')]) runCL st Tk hra rfl rfl (by decide) (by decide) rfl)) (w := ?_); rintro _ h ⟨_, st⟩
      rw [← ea, hst] at st
      (repeat (first | (show W _ _ _ _ _ _ (.code (cond _ _ _) :: _) _ _; first | refine W.ct ?_ | refine W.cf ?_) | (show W _ _ _ _ _ _ (.ins (cond _ _ _ :: _) :: _) _ _; first | refine W.gt ?_ | refine W.gf ?_) | (show W _ _ _ _ _ _ [] _ _; refine W.of (.done ?_)) | (apply W.of; constructor <;> first | (show W _ _ _ _ _ _ _ _ _) | (intro (al : Nat) h st; show W _ _ _ _ _ _ _ _ _) | (intro _ h st; show W _ _ _ _ _ _ _ _ _) | exact Sd)))
      refine W.of (.lp ?_)
      exact ⟨i + 1, by omega, hlt, Sbs, st.sel Sels⟩
    · rw [← keep (fun h => h2 h.2)] at st
      (repeat (first | (show W _ _ _ _ _ _ (.code (cond _ _ _) :: _) _ _; first | refine W.ct ?_ | refine W.cf ?_) | (show W _ _ _ _ _ _ (.ins (cond _ _ _ :: _) :: _) _ _; first | refine W.gt ?_ | refine W.gf ?_) | (show W _ _ _ _ _ _ [] _ _; refine W.of (.done ?_)) | (apply W.of; constructor <;> first | (show W _ _ _ _ _ _ _ _ _) | (intro (al : Nat) h st; show W _ _ _ _ _ _ _ _ _) | (intro _ h st; show W _ _ _ _ _ _ _ _ _) | exact Sd)))
      refine W.of (.lp ?_)
      exact ⟨i + 1, by omega, hlt, Sbs, st.sel Sels⟩
  · rw [← keep (fun h => h1 h.1)] at st
    (repeat (first | (show W _ _ _ _ _ _ (.code (cond _ _ _) :: _) _ _; first | refine W.ct ?_ | refine W.cf ?_) | (show W _ _ _ _ _ _ (.ins (cond _ _ _ :: _) :: _) _ _; first | refine W.gt ?_ | refine W.gf ?_) | (show W _ _ _ _ _ _ [] _ _; refine W.of (.done ?_)) | (apply W.of; constructor <;> first | (show W _ _ _ _ _ _ _ _ _) | (intro (al : Nat) h st; show W _ _ _ _ _ _ _ _ _) | (intro _ h st; show W _ _ _ _ _ _ _ _ _) | exact Sd)))
    refine W.of (.lp ?_)
    exact ⟨i + 1, by omega, hlt, Sbs, st.sel Sels⟩
end Go.Proofs.Ytjdemlagmamlbaa

namespace Go.Proofs.Ytjdemlagmamlbaa
variable {D : Nat} {l : List RunV} {n : Int}
/-- who counts what is gone -/
def addCl (I B7 B8 B9 B10 : Nat) (s : Env) (by' : Int) (pre : List RunV) (cs : List Chunk) : Prop := ∃ gv, cs = adLp I B7 B8 B9 B10 s .ready none :: adC B7 B8 B9 B10 by' 0 gv (goneR by' pre) ∧ ∀ x, x ∈ pre → ¬ badR by' x
def addEr (I B7 B8 B9 B10 : Nat) (s : Env) (by' : Int) (items : List RunV) (cs : List Chunk) : Prop := ∃ gv g, cs = adLp I B7 B8 B9 B10 s .done (some .ret) :: adC B7 B8 B9 B10 by' 2 gv g ∧ ∃ x, x ∈ items ∧ badR by' x
theorem add_asks {I B7 B8 B9 B10 : Nat} {s : Env} {by' lo hi : Int} {items : List RunV} (hc : Chain lo items hi) (h0 : 0 ≤ lo) (h1 : hi ≤ 4096) (hn : ∀ x, x ∈ items → 0 ≤ x.n ∧ x.n ≤ 1000000) : AsksR I items (addCl I B7 B8 B9 B10 s by') (addEr I B7 B8 B9 B10 s by' items) := fun pre x suf e => by
  have hx := hn x (by rw [e]; simp)
  have hm := hc.mem x (by rw [e]; simp)
  rw [e] at hc
  obtain ⟨m, q1, q2⟩ := Chain.append.1 hc
  have hg := goneR_len (by' := by') q1
  have hq := q2.le
  refine Spec.unpk fun cs ⟨gv, e2, hp⟩ => ?_
  subst e2
  rw [List.append_nil]
  by_cases hb : badR by' x
  · refine (add_round_bad hx.1 hx.2 hb).conv progI_mono (fun _ _ st => st) fun v Rs h F ⟨e1, e2⟩ st => ⟨_, .inr ⟨e1, rfl⟩, ?_⟩
    subst e2
    exact St.pack st ⟨gv, _, rfl, x, by rw [e]; simp, hb⟩
  · refine (add_round_ok hx.1 hx.2 hb (by omega) (by omega) hm.2.1 (by omega)).conv progI_mono (fun _ _ st => st) fun v Rs h F ⟨e1, gv', e2⟩ st => ⟨_, .inl ⟨e1, rfl⟩, ?_⟩
    subst e2
    refine St.pack st ⟨gv', by rw [goneR_snoc], fun y hy => ?_⟩
    rcases List.mem_append.1 hy with hy | hy
    · exact hp y hy
    · rw [List.mem_singleton.1 hy]; exact hb
theorem add_asks0 {I B7 B8 B9 B10 : Nat} {s : Env} {by' : Int} : AsksR I [] (addCl I B7 B8 B9 B10 s by') (addEr I B7 B8 B9 B10 s by' []) := fun pre x suf e => by
  have := congrArg List.length e
  simp at this
/-- what the loop over runs comes to -/
theorem add_loop (hk : COk l n) {I a b c B7 B8 B9 B10 : Nat} {s : Env} {lo hi by' : Int} (h0 : 0 ≤ lo) (h1 : lo ≤ hi) (h2 : hi ≤ n) :
    Spec R (.f n_spread_Counts_parts_1) [.yield I, .ptr a 0, .ptr b 0, .ptr c 0] (adLp I B7 B8 B9 B10 s .ready none :: ([.pt a (ptBox D), .pt b (ibox1 lo), .pt c (ibox1 hi), CntC D l n] ++ adC B7 B8 B9 B10 by' 0 .nilsl [])) fun _ Rs =>
      (okBy by' (slc (expand l) lo hi) ∧ ∃ gv, Rs = adLp I B7 B8 B9 B10 s .ready none :: (CntC D l n :: adC B7 B8 B9 B10 by' 0 gv (goneP lo (slc (expand l) lo hi) by'))) ∨
      (¬ okBy by' (slc (expand l) lo hi) ∧ ∃ gv g, Rs = adLp I B7 B8 B9 B10 s .done (some .ret) :: (CntC D l n :: adC B7 B8 B9 B10 by' 2 gv g)) := by
  have hn1 := hk.n1
  have facts : AsksR I (partsL l lo hi) (addCl I B7 B8 B9 B10 s by') (addEr I B7 B8 B9 B10 s by' (partsL l lo hi)) ∧ goneR by' (partsL l lo hi) = goneP lo (slc (expand l) lo hi) by' ∧ ((∀ x, x ∈ partsL l lo hi → ¬ badR by' x) ↔ okBy by' (slc (expand l) lo hi)) := by
    by_cases hlt : lo < hi
    · obtain ⟨g1, g2, g3⟩ := parts_slc hk h0 hlt h2
      refine ⟨add_asks g1 h0 (by omega) g3, by rw [goneR_ok g1, g2], fun h c hc => ?_, fun h x hx hb => ?_⟩
      · rw [← g2] at hc
        obtain ⟨r, hr, e⟩ := (mem_expand g1 c).1 hc
        have := h r hr
        unfold badR at this
        omega
      · have := h x.n (by rw [← g2]; exact (mem_expand g1 _).2 ⟨x, hx, rfl⟩)
        unfold badR at hb; omega
    · have e0 := parts_none hk (lo := lo) (hi := hi) (by omega) h2
      have e1 : slc (expand l) lo hi = [] := by unfold slc; rw [show (hi - lo).toNat = 0 by omega, List.take_zero]
      rw [e0, e1]
      exact ⟨add_asks0, rfl, fun _ c hc => by simp at hc, fun _ x hx => by simp at hx⟩
  obtain ⟨hy, hg, hb⟩ := facts
  refine (cnt_parts_1 (D := D) (l := l) (n := n) (a := a) (b := b) (c := c) hy).conv progI_mono (fun h F st => ?_) fun v Rs h F ⟨c', e, hc⟩ st => ?_
  · dsimp only [List.cons_append, List.nil_append] at st ⊢
    have st : St h (adLp I B7 B8 B9 B10 s .ready none :: (adC B7 B8 B9 B10 by' 0 .nilsl (goneR by' [])) ++ ([.pt a (ptBox D), .pt b (ibox1 lo), .pt c (ibox1 hi), CntC D l n] ++ F)) := st.sel Sels
    have st := St.pack (t := 31) (k := .yield I) (P := addCl I B7 B8 B9 B10 s by' []) st ⟨.nilsl, rfl, by simp⟩
    exact st.sel Sels
  · subst e
    rcases hc with rfl | rfl
    · obtain ⟨cs, ⟨gv, rfl, hp⟩, st⟩ := St.unpack st
      rw [hg] at st
      exact ⟨_, .inl ⟨hb.1 hp, gv, rfl⟩, st.sel Sels⟩
    · obtain ⟨cs, ⟨gv, g, rfl, x, hx, hbx⟩, st⟩ := St.unpack st
      exact ⟨_, .inr ⟨fun h => hb.2 h x hx hbx, gv, g, rfl⟩, st.sel Sels⟩
abbrev addPost (D : Nat) (l : List RunV) (n lo hi by' : Int) (r : AV) (Rs : List Chunk) : Prop :=
    (AddOk (expand l) lo hi by' ∧ ∃ gv l', r = .tuple [gv, .int .i64 0] ∧ gv.notJunk = some gv ∧ sliceLen gv = some (goneP lo (slc (expand l) lo hi) by').length ∧ expand l' = addL 0 (expand l) lo hi by' ∧ Rs = [VsC gv 3 ((goneP lo (slc (expand l) lo hi) by').map ikey) true, CntC D l' n]) ∨
    (¬ AddOk (expand l) lo hi by' ∧ r = .tuple [.nilsl, .int .i64 2] ∧ Rs = [CntC D l n])
def addRest : ACode := sR (sR (sR (sR (sR c_spread_Counts_Add.body))))
def addFun : ACode := bB (sR (sL (sR (sR (sR (sR c_spread_Counts_Add.body))))))
set_option maxRecDepth 8000 in
theorem add_main {D a b c B7 B8 B9 B10 : Nat} {lo hi by' : Int} {F : List Chunk} {h : AHeap} (hk : COk l n) (h0 : 0 ≤ lo) (h1 : lo ≤ hi) (h2 : hi ≤ n)
    (st : St h ([.pt a (ptBox D), .pt b (ibox1 lo), .pt c (ibox1 hi), CntC D l n] ++ adC B7 B8 B9 B10 by' 0 .nilsl [] ++ F)) :
    W over tab none c_spread_Counts_Add.ntmps (fnQ c_spread_Counts_Add.res fun v h' => ∃ Rs, addPost D l n lo hi by' v Rs ∧ St h' (Rs ++ F)) .normal [.code addFun, .blk 0, .code addRest]
      ([(37, partsF a b c), (0, .ptr D 0), (1, .int .i64 lo), (2, .int .i64 hi), (7, .ptr B7 0), (8, .ptr B8 0), (9, .ptr B9 0), (10, .ptr B10 0)] ++ [(37, partsF a b c), (0, .ptr D 0), (1, .int .i64 lo), (2, .int .i64 hi)]) h := by
  have hlen := hk.chain.length
  have hn0 := hk.n0
  have hn1 := hk.n1
  refine W.sub (s' := adE B7 B8 B9 B10 ++ [(37, partsF a b c), (0, .ptr D 0), (1, .int .i64 lo), (2, .int .i64 hi)]) Sbs ?_
  refine W.rfun (Ps := [.pt a (ptBox D), .pt b (ibox1 lo), .pt c (ibox1 hi), CntC D l n] ++ adC B7 B8 B9 B10 by' 0 .nilsl [])
    (post := fun j Cl => (j = none ∧ okBy by' (slc (expand l) lo hi) ∧ ∃ gv, Cl = CntC D l n :: adC B7 B8 B9 B10 by' 0 gv (goneP lo (slc (expand l) lo hi) by')) ∨ (j = some .ret ∧ ¬ okBy by' (slc (expand l) lo hi) ∧ ∃ gv g, Cl = CntC D l n :: adC B7 B8 B9 B10 by' 2 gv g))
    rfl (fun _ e => (by cases e)) st Pks (fun I => ?_) (fun j Cl h' hp st => ?_)
  · refine (add_loop hk h0 h1 h2).conv progI_mono (fun h F st => st) fun v Rs h F hp st => ?_
    rcases hp with ⟨p1, gv, rfl⟩ | ⟨p1, gv, g, rfl⟩
    · exact ⟨_, ⟨.ready, none, _, rfl, by decide, .inl ⟨rfl, p1, gv, rfl⟩⟩, st⟩
    · exact ⟨_, ⟨.done, some .ret, _, rfl, by decide, .inr ⟨rfl, p1, gv, g, rfl⟩⟩, st⟩
  rcases hp with ⟨rfl, hok, gv, rfl⟩ | ⟨rfl, hok, gv, g, rfl⟩
  · have ha : AddOk (expand l) lo hi by' := ⟨h0, by omega, h1, hok⟩
    dsimp only [List.cons_append, List.nil_append] at st
    obtain ⟨_, ⟨lv, rfl, _⟩, st⟩ := St.unpack st; dsimp only [List.cons_append, List.nil_append] at st
    obtain ⟨vl, vj, vs⟩ := St.rw (v := lv) (l := l) st Tk
    have hll := hk.len
    obtain ⟨s1, s2, s3, s4⟩ := split2_ok (a := lo) (b := hi) hk.chain
    obtain ⟨m1, m2⟩ := addM_ok (lo := lo) (hi := hi) (by' := by') s1 h1 s3
    obtain ⟨j1, j2, j3, j4⟩ := joinM_ok m1
    have hl1 := (splitM_ok (a := lo) hk.chain).1.le
    have hl2 := s1.le
    (repeat (first | (show W _ _ _ _ _ _ (.code (cond _ _ _) :: _) _ _; first | refine W.ct ?_ | refine W.cf ?_) | (show W _ _ _ _ _ _ (.ins (cond _ _ _ :: _) :: _) _ _; first | refine W.gt ?_ | refine W.gf ?_) | (show W _ _ _ _ _ _ [] _ _; refine W.of (.done ?_)) | (apply W.of; constructor <;> first | (show W _ _ _ _ _ _ _ _ _) | (intro (al : Nat) h st; show W _ _ _ _ _ _ _ _ _) | (intro _ h st; show W _ _ _ _ _ _ _ _ _) | exact Sd))); refine W.call (hs := (spread_split (v := lv) (l := l) (at' := lo) (by omega))) (w := ?_); rintro vv _ ⟨gj, gl, rfl⟩ h st; refine nj ?_; dsimp only [List.cons_append, List.nil_append] at st
    (repeat (first | (show W _ _ _ _ _ _ (.code (cond _ _ _) :: _) _ _; first | refine W.ct ?_ | refine W.cf ?_) | (show W _ _ _ _ _ _ (.ins (cond _ _ _ :: _) :: _) _ _; first | refine W.gt ?_ | refine W.gf ?_) | (show W _ _ _ _ _ _ [] _ _; refine W.of (.done ?_)) | (apply W.of; constructor <;> first | (show W _ _ _ _ _ _ _ _ _) | (intro (al : Nat) h st; show W _ _ _ _ _ _ _ _ _) | (intro _ h st; show W _ _ _ _ _ _ _ _ _) | exact Sd))); refine W.call (hs := (spread_split (l := splitM l lo) (at' := hi) (by omega))) (w := ?_); rintro vv _ ⟨gj2, gl2, rfl⟩ h st; refine nj ?_; dsimp only [List.cons_append, List.nil_append] at st
    (repeat (first | (show W _ _ _ _ _ _ (.code (cond _ _ _) :: _) _ _; first | refine W.ct ?_ | refine W.cf ?_) | (show W _ _ _ _ _ _ (.ins (cond _ _ _ :: _) :: _) _ _; first | refine W.gt ?_ | refine W.gf ?_) | (show W _ _ _ _ _ _ [] _ _; refine W.of (.done ?_)) | (apply W.of; constructor <;> first | (show W _ _ _ _ _ _ _ _ _) | (intro (al : Nat) h st; show W _ _ _ _ _ _ _ _ _) | (intro _ h st; show W _ _ _ _ _ _ _ _ _) | exact Sd))); refine W.call (hs := (runs_Clone (l := splitM (splitM l lo) hi) (by omega))) (w := ?_); rintro vv _ ⟨gj3, gl3, rfl⟩ h st; refine nj ?_; dsimp only [List.cons_append, List.nil_append] at st
    obtain ⟨v3, rfl⟩ : ∃ y, y = vv := ⟨_, rfl⟩
    generalize splitM (splitM l lo) hi = ls at *
    have hb : ∀ r, r ∈ ls → r.lo ≥ lo ∧ r.hi ≤ hi → -9223372036854775808 ≤ r.n + by' ∧ r.n + by' ≤ 9223372036854775807 := fun r hr hrr => by
      have hm := s1.mem r hr
      have := by_small hk ha (by omega)
      obtain ⟨y, hy, e⟩ := s4 r hr
      have := hk.cnt y hy
      rw [← e] at this; omega
    (repeat (first | (show W _ _ _ _ _ _ (.code (cond _ _ _) :: _) _ _; first | refine W.ct ?_ | refine W.cf ?_) | (show W _ _ _ _ _ _ (.ins (cond _ _ _ :: _) :: _) _ _; first | refine W.gt ?_ | refine W.gf ?_) | (show W _ _ _ _ _ _ [] _ _; refine W.of (.done ?_)) | (apply W.of; constructor <;> first | (show W _ _ _ _ _ _ _ _ _) | (intro (al : Nat) h st; show W _ _ _ _ _ _ _ _ _) | (intro _ h st; show W _ _ _ _ _ _ _ _ _) | exact Sd)))
    refine W.loop (fun i : Nat => l2E B7 B8 B9 B10 D lo hi v3 ls.length i) (fun i => RunsC v3 (addI lo hi by' ls i) :: .pt B7 (ibox1 by') :: .pt D (cntRow lv n) :: .pt B8 (gcell .nilsl) :: .pt B9 (ecell 0) :: .pt B10 (gcell gv) :: VsC gv 3 ((goneP lo (slc (expand l) lo hi) by').map ikey) true :: F)
      (fun i => i ≤ ls.length) (fun i => ls.length - i) 0 (small_rounds (by omega)) Sbs ?_ (Nat.zero_le _) ?_
    · rw [show addI lo hi by' ls 0 = ls by simp [addI]]
      exact st.sel Sels
    clear st
    intro i h hi' st
    by_cases hlt : i < ls.length
    · exact add_L2 hlt (by omega) hb st
    · have e : i = ls.length := by omega
      subst e
      rw [show addI lo hi by' ls ls.length = ls.map (addR lo hi by') by simp [addI]] at st
      have gl4 : sliceLen v3 = some (ls.map (addR lo hi by')).length := by rw [gl3, List.length_map]
      (repeat (first | (show W _ _ _ _ _ _ (.code (cond _ _ _) :: _) _ _; first | refine W.ct ?_ | refine W.cf ?_) | (show W _ _ _ _ _ _ (.ins (cond _ _ _ :: _) :: _) _ _; first | refine W.gt ?_ | refine W.gf ?_) | (show W _ _ _ _ _ _ [] _ _; refine W.of (.done ?_)) | (apply W.of; constructor <;> first | (show W _ _ _ _ _ _ _ _ _) | (intro (al : Nat) h st; show W _ _ _ _ _ _ _ _ _) | (intro _ h st; show W _ _ _ _ _ _ _ _ _) | exact Sd))); refine W.call (hs := (spread_join (l := ls.map (addR lo hi by')) (by rw [List.length_map]; omega))) (w := ?_); rintro vv _ ⟨kj, kl, rfl⟩ h st; refine nj ?_; dsimp only [List.cons_append, List.nil_append] at st
      obtain ⟨v4, rfl⟩ : ∃ y, y = vv := ⟨_, rfl⟩
      (repeat (first | (show W _ _ _ _ _ _ (.code (cond _ _ _) :: _) _ _; first | refine W.ct ?_ | refine W.cf ?_) | (show W _ _ _ _ _ _ (.ins (cond _ _ _ :: _) :: _) _ _; first | refine W.gt ?_ | refine W.gf ?_) | (show W _ _ _ _ _ _ [] _ _; refine W.of (.done ?_)) | (apply W.of; constructor <;> first | (show W _ _ _ _ _ _ _ _ _) | (intro (al : Nat) h st; show W _ _ _ _ _ _ _ _ _) | (intro _ h st; show W _ _ _ _ _ _ _ _ _) | exact Sd)))
      (repeat (first | (show W _ _ _ _ _ _ (.code (cond _ _ _) :: _) _ _; first | refine W.ct ?_ | refine W.cf ?_) | (show W _ _ _ _ _ _ (.ins (cond _ _ _ :: _) :: _) _ _; first | refine W.gt ?_ | refine W.gf ?_) | (show W _ _ _ _ _ _ [] _ _; refine W.of (.done ?_)) | (apply W.of; constructor <;> first | (show W _ _ _ _ _ _ _ _ _) | (intro (al : Nat) h st; show W _ _ _ _ _ _ _ _ _) | (intro _ h st; show W _ _ _ _ _ _ _ _ _) | exact Sd))); refine W.ef0 (ho := (e_storeV (i := 0) st Tk rfl (by simp) (sl_dat kl))) (w := ?_); rintro _ h ⟨_, st⟩
      obtain ⟨xl, xj, xs⟩ := St.vs (v := gv) st Tk
      (repeat (first | (show W _ _ _ _ _ _ (.code (cond _ _ _) :: _) _ _; first | refine W.ct ?_ | refine W.cf ?_) | (show W _ _ _ _ _ _ (.ins (cond _ _ _ :: _) :: _) _ _; first | refine W.gt ?_ | refine W.gf ?_) | (show W _ _ _ _ _ _ [] _ _; refine W.of (.done ?_)) | (apply W.of; constructor <;> first | (show W _ _ _ _ _ _ _ _ _) | (intro (al : Nat) h st; show W _ _ _ _ _ _ _ _ _) | (intro _ h st; show W _ _ _ _ _ _ _ _ _) | exact Sd)))
      (repeat (first | (show W _ _ _ _ _ _ (.code (cond _ _ _) :: _) _ _; first | refine W.ct ?_ | refine W.cf ?_) | (show W _ _ _ _ _ _ (.ins (cond _ _ _ :: _) :: _) _ _; first | refine W.gt ?_ | refine W.gf ?_) | (show W _ _ _ _ _ _ [] _ _; refine W.of (.done ?_)) | (apply W.of; constructor <;> first | (show W _ _ _ _ _ _ _ _ _) | (intro (al : Nat) h st; show W _ _ _ _ _ _ _ _ _) | (intro _ h st; show W _ _ _ _ _ _ _ _ _) | exact Sd))); refine W.ef0 (ho := (e_storeV (i := 0) st Tk rfl (by simp) (sl_dat xl))) (w := ?_); rintro _ h ⟨_, st⟩
      (repeat (first | (show W _ _ _ _ _ _ (.code (cond _ _ _) :: _) _ _; first | refine W.ct ?_ | refine W.cf ?_) | (show W _ _ _ _ _ _ (.ins (cond _ _ _ :: _) :: _) _ _; first | refine W.gt ?_ | refine W.gf ?_) | (show W _ _ _ _ _ _ [] _ _; refine W.of (.done ?_)) | (apply W.of; constructor <;> first | (show W _ _ _ _ _ _ _ _ _) | (intro (al : Nat) h st; show W _ _ _ _ _ _ _ _ _) | (intro _ h st; show W _ _ _ _ _ _ _ _ _) | exact Sd)))
      have ex : expand (joinM (ls.map (addR lo hi by'))) = addL 0 (expand l) lo hi by' := by rw [j3, m2, s2]
      have hok2 : COk (joinM (ls.map (addR lo hi by'))) n := ⟨j1, j2, hn0, hn1, fun r hr => add_cnt hk ha r.n (by rw [← ex]; exact (mem_expand j1 _).2 ⟨r, hr, rfl⟩)⟩
      have st := St.packP (t := 34) (k := .ptr D 0) (P := CntIs D (joinM (ls.map (addR lo hi by'))) n) (cs := [.pt D (cntRow v4 n), RunsC v4 (joinM (ls.map (addR lo hi by')))]) st ⟨v4, rfl, hok2⟩ Pks
      refine ⟨_, res_cell rfl (d_loadV (i := 0) (x := gv) st Tk rfl rfl) (res_cell rfl (d_loadV (i := 0) st Tk rfl rfl) rfl), _, .inl ⟨ha, gv, _, rfl, xj, by rw [xl, List.length_map], ex, rfl⟩, st.sel Sels⟩
  · dsimp only [List.cons_append, List.nil_append] at st
    (repeat (first | (show W _ _ _ _ _ _ (.code (cond _ _ _) :: _) _ _; first | refine W.ct ?_ | refine W.cf ?_) | (show W _ _ _ _ _ _ (.ins (cond _ _ _ :: _) :: _) _ _; first | refine W.gt ?_ | refine W.gf ?_) | (show W _ _ _ _ _ _ [] _ _; refine W.of (.done ?_)) | (apply W.of; constructor <;> first | (show W _ _ _ _ _ _ _ _ _) | (intro (al : Nat) h st; show W _ _ _ _ _ _ _ _ _) | (intro _ h st; show W _ _ _ _ _ _ _ _ _) | exact Sd)))
    exact ⟨_, res_cell rfl (d_load1 (st.get' Tk) rfl) (res_cell rfl (d_load1 (st.get' Tk) rfl) rfl), _, .inr ⟨fun h => hok h.ok, rfl, rfl⟩, st.sel Sels⟩
set_option maxRecDepth 8000 in
theorem cnt_Add {lo hi by' : Int} : Spec R (.f n_spread_Counts_Add) [.ptr D 0, .int .i64 lo, .int .i64 hi, .int .i64 by'] [CntC D l n] (addPost D l n lo hi by') := by
  refine spec_in fun h F st => ?_
  have hk := st.cnt Tk
  have hlen := hk.chain.length
  have hn0 := hk.n0
  have hn1 := hk.n1
  clear st h F; refine spec_w (fun _ _ _ x => progI_call rfl rfl x) Njs rfl (fun h F st => ?_); dsimp only [List.cons_append, List.nil_append] at st
  (repeat (first | (show W _ _ _ _ _ _ (.code (cond _ _ _) :: _) _ _; first | refine W.ct ?_ | refine W.cf ?_) | (show W _ _ _ _ _ _ (.ins (cond _ _ _ :: _) :: _) _ _; first | refine W.gt ?_ | refine W.gf ?_) | (show W _ _ _ _ _ _ [] _ _; refine W.of (.done ?_)) | (apply W.of; constructor <;> first | (show W _ _ _ _ _ _ _ _ _) | (intro (al : Nat) h st; show W _ _ _ _ _ _ _ _ _) | (intro _ h st; show W _ _ _ _ _ _ _ _ _) | exact Sd))); refine W.call (hs := cnt_made) (w := ?_); rintro vv _ ⟨rfl, rfl⟩ h st; refine nj ?_; dsimp only [List.cons_append, List.nil_append] at st
  obtain ⟨_, ⟨lv, rfl, hok⟩, st⟩ := St.unpack st; dsimp only [List.cons_append, List.nil_append] at st
  by_cases h0 : lo < 0
  · (repeat (first | (show W _ _ _ _ _ _ (.code (cond _ _ _) :: _) _ _; first | refine W.ct ?_ | refine W.cf ?_) | (show W _ _ _ _ _ _ (.ins (cond _ _ _ :: _) :: _) _ _; first | refine W.gt ?_ | refine W.gf ?_) | (show W _ _ _ _ _ _ [] _ _; refine W.of (.done ?_)) | (apply W.of; constructor <;> first | (show W _ _ _ _ _ _ _ _ _) | (intro (al : Nat) h st; show W _ _ _ _ _ _ _ _ _) | (intro _ h st; show W _ _ _ _ _ _ _ _ _) | exact Sd)))
    have st := St.packP (t := 34) (k := .ptr D 0) (P := CntIs D l n) (cs := [_, _]) st ⟨lv, rfl, hok⟩ Pks
    exact ⟨_, res_cell rfl (d_load1 (st.get' Tk) rfl) (res_cell rfl (d_load1 (st.get' Tk) rfl) rfl), _, .inr ⟨fun h => by have := h.l0; omega, rfl, rfl⟩, st.sel Sels⟩
  · by_cases h1 : hi > n
    · (repeat (first | (show W _ _ _ _ _ _ (.code (cond _ _ _) :: _) _ _; first | refine W.ct ?_ | refine W.cf ?_) | (show W _ _ _ _ _ _ (.ins (cond _ _ _ :: _) :: _) _ _; first | refine W.gt ?_ | refine W.gf ?_) | (show W _ _ _ _ _ _ [] _ _; refine W.of (.done ?_)) | (apply W.of; constructor <;> first | (show W _ _ _ _ _ _ _ _ _) | (intro (al : Nat) h st; show W _ _ _ _ _ _ _ _ _) | (intro _ h st; show W _ _ _ _ _ _ _ _ _) | exact Sd)))
      have st := St.packP (t := 34) (k := .ptr D 0) (P := CntIs D l n) (cs := [_, _]) st ⟨lv, rfl, hok⟩ Pks
      exact ⟨_, res_cell rfl (d_load1 (st.get' Tk) rfl) (res_cell rfl (d_load1 (st.get' Tk) rfl) rfl), _, .inr ⟨fun h => by have := h.h0; omega, rfl, rfl⟩, st.sel Sels⟩
    · by_cases h2 : lo > hi
      · (repeat (first | (show W _ _ _ _ _ _ (.code (cond _ _ _) :: _) _ _; first | refine W.ct ?_ | refine W.cf ?_) | (show W _ _ _ _ _ _ (.ins (cond _ _ _ :: _) :: _) _ _; first | refine W.gt ?_ | refine W.gf ?_) | (show W _ _ _ _ _ _ [] _ _; refine W.of (.done ?_)) | (apply W.of; constructor <;> first | (show W _ _ _ _ _ _ _ _ _) | (intro (al : Nat) h st; show W _ _ _ _ _ _ _ _ _) | (intro _ h st; show W _ _ _ _ _ _ _ _ _) | exact Sd)))
        have st := St.packP (t := 34) (k := .ptr D 0) (P := CntIs D l n) (cs := [_, _]) st ⟨lv, rfl, hok⟩ Pks
        exact ⟨_, res_cell rfl (d_load1 (st.get' Tk) rfl) (res_cell rfl (d_load1 (st.get' Tk) rfl) rfl), _, .inr ⟨fun h => by have := h.le; omega, rfl, rfl⟩, st.sel Sels⟩
      · (repeat (first | (show W _ _ _ _ _ _ (.code (cond _ _ _) :: _) _ _; first | refine W.ct ?_ | refine W.cf ?_) | (show W _ _ _ _ _ _ (.ins (cond _ _ _ :: _) :: _) _ _; first | refine W.gt ?_ | refine W.gf ?_) | (show W _ _ _ _ _ _ [] _ _; refine W.of (.done ?_)) | (apply W.of; constructor <;> first | (show W _ _ _ _ _ _ _ _ _) | (intro (al : Nat) h st; show W _ _ _ _ _ _ _ _ _) | (intro _ h st; show W _ _ _ _ _ _ _ _ _) | exact Sd))); refine W.call (hs := (cnt_parts (p := .ptr D 0) (lo := lo) (hi := hi) rfl rfl)) (w := ?_); rintro vv _ ⟨a, b, c, rfl, rfl⟩ h st; refine nj ?_; dsimp only [List.cons_append, List.nil_append] at st
        (repeat (first | (show W _ _ _ _ _ _ (.code (cond _ _ _) :: _) _ _; first | refine W.ct ?_ | refine W.cf ?_) | (show W _ _ _ _ _ _ (.ins (cond _ _ _ :: _) :: _) _ _; first | refine W.gt ?_ | refine W.gf ?_) | (show W _ _ _ _ _ _ [] _ _; refine W.of (.done ?_)) | (apply W.of; constructor <;> first | (show W _ _ _ _ _ _ _ _ _) | (intro (al : Nat) h st; show W _ _ _ _ _ _ _ _ _) | (intro _ h st; show W _ _ _ _ _ _ _ _ _) | exact Sd)))
        have st := St.packP (t := 34) (k := .ptr D 0) (P := CntIs D l n) (cs := [_, _]) st ⟨lv, rfl, hok⟩ Pks
        have st := st.vsNil 3 true
        exact W.sub Sbs (add_main hk (by omega) (by omega) (by omega) (st.sel Sels))
end Go.Proofs.Ytjdemlagmamlbaa

namespace Go.Proofs.Ytjdemlagmamlbaa
variable {D : Nat} {l : List RunV} {n : Int}
theorem zero_chain {m : Int} (h : n < m) (hk : COk l n) : Chain 0 (l ++ [⟨n, m, 0⟩]) m ∧ expand (l ++ [⟨n, m, 0⟩]) = expand l ++ List.replicate (m - n).toNat 0 := by
  refine ⟨Chain.append.2 ⟨n, hk.chain, rfl, h, rfl⟩, ?_⟩
  rw [expand_append]; simp [expand, runX]
def growDraw : ACode := cA (sR (sL (sR (sR c_spread_Counts_Grow.body))))
def growRest : ACode := sR (sR (sR c_spread_Counts_Grow.body))
set_option maxRecDepth 8000 in
theorem grow_tail {X : Nat} {v lv : AV} {m : Int} {F : List Chunk} {h : AHeap} {Q : AExit → Env → AHeap → Prop} (hlt : n < m) (hm : m ≤ 4096) (hk : COk l n)
    (st : St h (RunsC v l :: RunsC (.sl X 0 1 1) [⟨n, m, 0⟩] :: .pt D (cntRow lv n) :: F))
    (hQ : ∀ l' s h, expand l' = expand l ++ List.replicate (m - n).toNat 0 → look s 4 = some (.int .i64 0) → St h (CntC D l' m :: F) → Q .ret s h) :
    W over tab none c_spread_Counts_Grow.ntmps Q .normal [.ins [I 39 (.append ty_api_Run 3 24 (.vals [.int .i64 0, .int .i64 0, .int .i64 0])) [T 31, T 38]], .ag [], .dis (List.drop 14 ((dr growDraw).headD [])), .code growRest]
      [(0, .ptr D 0), (1, .int .i64 m), (26, .ptr D 0), (31, v), (38, .sl X 0 1 1)] h := by
  obtain ⟨z1, z2⟩ := zero_chain hlt hk
  obtain ⟨j1, j2, j3, j4⟩ := joinM_ok z1
  have hlen := hk.len
  have hn0 := hk.n0
  obtain ⟨vl, vj, vs⟩ := St.rw (v := v) (l := l) st Tk
  (repeat (first | (show W _ _ _ _ _ _ (.code (cond _ _ _) :: _) _ _; first | refine W.ct ?_ | refine W.cf ?_) | (show W _ _ _ _ _ _ (.ins (cond _ _ _ :: _) :: _) _ _; first | refine W.gt ?_ | refine W.gf ?_) | (show W _ _ _ _ _ _ [] _ _; refine W.of (.done ?_)) | (apply W.of; constructor <;> first | (show W _ _ _ _ _ _ _ _ _) | (intro (al : Nat) h st; show W _ _ _ _ _ _ _ _ _) | (intro _ h st; show W _ _ _ _ _ _ _ _ _) | exact Sd))); refine W.ef (ho := (e_rwAppend (s := v) (l' := [(⟨n, m, 0⟩ : RunV)]) runCL rfl st Tk Tk (by simp; omega) (by simp; omega))) (w := ?_); rintro vv h ⟨bj, bl, st⟩; refine nj ?_
  (repeat (first | (show W _ _ _ _ _ _ (.code (cond _ _ _) :: _) _ _; first | refine W.ct ?_ | refine W.cf ?_) | (show W _ _ _ _ _ _ (.ins (cond _ _ _ :: _) :: _) _ _; first | refine W.gt ?_ | refine W.gf ?_) | (show W _ _ _ _ _ _ [] _ _; refine W.of (.done ?_)) | (apply W.of; constructor <;> first | (show W _ _ _ _ _ _ _ _ _) | (intro (al : Nat) h st; show W _ _ _ _ _ _ _ _ _) | (intro _ h st; show W _ _ _ _ _ _ _ _ _) | exact Sd))); refine W.call (hs := (spread_join (l := l ++ [⟨n, m, 0⟩]) (by simp; omega))) (w := ?_); rintro vv _ ⟨kj, kl, rfl⟩ h st; refine nj ?_; dsimp only [List.cons_append, List.nil_append] at st
  obtain ⟨v4, rfl⟩ : ∃ y, y = vv := ⟨_, rfl⟩
  (repeat (first | (show W _ _ _ _ _ _ (.code (cond _ _ _) :: _) _ _; first | refine W.ct ?_ | refine W.cf ?_) | (show W _ _ _ _ _ _ (.ins (cond _ _ _ :: _) :: _) _ _; first | refine W.gt ?_ | refine W.gf ?_) | (show W _ _ _ _ _ _ [] _ _; refine W.of (.done ?_)) | (apply W.of; constructor <;> first | (show W _ _ _ _ _ _ _ _ _) | (intro (al : Nat) h st; show W _ _ _ _ _ _ _ _ _) | (intro _ h st; show W _ _ _ _ _ _ _ _ _) | exact Sd))); refine W.ef0 (ho := (e_storeV (i := 0) st Tk rfl (by simp) (sl_dat kl))) (w := ?_); rintro _ h ⟨_, st⟩
  (repeat (first | (show W _ _ _ _ _ _ (.code (cond _ _ _) :: _) _ _; first | refine W.ct ?_ | refine W.cf ?_) | (show W _ _ _ _ _ _ (.ins (cond _ _ _ :: _) :: _) _ _; first | refine W.gt ?_ | refine W.gf ?_) | (show W _ _ _ _ _ _ [] _ _; refine W.of (.done ?_)) | (apply W.of; constructor <;> first | (show W _ _ _ _ _ _ _ _ _) | (intro (al : Nat) h st; show W _ _ _ _ _ _ _ _ _) | (intro _ h st; show W _ _ _ _ _ _ _ _ _) | exact Sd)))
  have hok2 : COk (joinM (l ++ [⟨n, m, 0⟩])) m := ⟨j1, j2, by omega, hm, fun r hr => by
    obtain ⟨y, hy, e⟩ := j4 r hr
    rcases List.mem_append.1 hy with hy | hy
    · rw [e]; exact hk.cnt y hy
    · rw [List.mem_singleton.1 hy] at e; simp only at e; omega⟩
  have st := St.packP (t := 34) (k := .ptr D 0) (P := CntIs D (joinM (l ++ [⟨n, m, 0⟩])) m) (cs := [.pt D (cntRow v4 m), RunsC v4 (joinM (l ++ [⟨n, m, 0⟩]))]) st ⟨v4, rfl, hok2⟩ Pks
  exact hQ _ _ _ (by rw [j3, z2]) rfl (st.sel Sels)
set_option maxRecDepth 8000 in
theorem cnt_Grow {m : Int} : Spec R (.f n_spread_Counts_Grow) [.ptr D 0, .int .i64 m] [CntC D l n] fun v Rs =>
    ((n ≤ m ∧ m ≤ 4096) ∧ v = .int .i64 0 ∧ ∃ l', Rs = [CntC D l' m] ∧ expand l' = expand l ++ List.replicate (m - n).toNat 0) ∨ (¬ (n ≤ m ∧ m ≤ 4096) ∧ v = .int .i64 2 ∧ Rs = [CntC D l n]) := by
  refine spec_in fun h F st => ?_
  have hk := st.cnt Tk
  clear st h F; refine spec_w (fun _ _ _ x => progI_call rfl rfl x) Njs rfl (fun h F st => ?_); dsimp only [List.cons_append, List.nil_append] at st
  (repeat (first | (show W _ _ _ _ _ _ (.code (cond _ _ _) :: _) _ _; first | refine W.ct ?_ | refine W.cf ?_) | (show W _ _ _ _ _ _ (.ins (cond _ _ _ :: _) :: _) _ _; first | refine W.gt ?_ | refine W.gf ?_) | (show W _ _ _ _ _ _ [] _ _; refine W.of (.done ?_)) | (apply W.of; constructor <;> first | (show W _ _ _ _ _ _ _ _ _) | (intro (al : Nat) h st; show W _ _ _ _ _ _ _ _ _) | (intro _ h st; show W _ _ _ _ _ _ _ _ _) | exact Sd))); refine W.call (hs := cnt_made) (w := ?_); rintro vv _ ⟨rfl, rfl⟩ h st; refine nj ?_; dsimp only [List.cons_append, List.nil_append] at st
  obtain ⟨_, ⟨lv, rfl, hok⟩, st⟩ := St.unpack st; dsimp only [List.cons_append, List.nil_append] at st
  by_cases h0 : m < n
  · (repeat (first | (show W _ _ _ _ _ _ (.code (cond _ _ _) :: _) _ _; first | refine W.ct ?_ | refine W.cf ?_) | (show W _ _ _ _ _ _ (.ins (cond _ _ _ :: _) :: _) _ _; first | refine W.gt ?_ | refine W.gf ?_) | (show W _ _ _ _ _ _ [] _ _; refine W.of (.done ?_)) | (apply W.of; constructor <;> first | (show W _ _ _ _ _ _ _ _ _) | (intro (al : Nat) h st; show W _ _ _ _ _ _ _ _ _) | (intro _ h st; show W _ _ _ _ _ _ _ _ _) | exact Sd)))
    have st := St.packP (t := 34) (k := .ptr D 0) (P := CntIs D l n) (cs := [_, _]) st ⟨lv, rfl, hok⟩ Pks
    exact ⟨_, rfl, _, .inr ⟨by omega, rfl, rfl⟩, st.sel Sels⟩
  · by_cases h1 : m > 4096
    · (repeat (first | (show W _ _ _ _ _ _ (.code (cond _ _ _) :: _) _ _; first | refine W.ct ?_ | refine W.cf ?_) | (show W _ _ _ _ _ _ (.ins (cond _ _ _ :: _) :: _) _ _; first | refine W.gt ?_ | refine W.gf ?_) | (show W _ _ _ _ _ _ [] _ _; refine W.of (.done ?_)) | (apply W.of; constructor <;> first | (show W _ _ _ _ _ _ _ _ _) | (intro (al : Nat) h st; show W _ _ _ _ _ _ _ _ _) | (intro _ h st; show W _ _ _ _ _ _ _ _ _) | exact Sd)))
      have st := St.packP (t := 34) (k := .ptr D 0) (P := CntIs D l n) (cs := [_, _]) st ⟨lv, rfl, hok⟩ Pks
      exact ⟨_, rfl, _, .inr ⟨by omega, rfl, rfl⟩, st.sel Sels⟩
    · by_cases h2 : m > n
      · obtain ⟨vl, vj, vs⟩ := St.rw (v := lv) (l := l) st Tk
        have hlen := hk.len
        (repeat (first | (show W _ _ _ _ _ _ (.code (cond _ _ _) :: _) _ _; first | refine W.ct ?_ | refine W.cf ?_) | (show W _ _ _ _ _ _ (.ins (cond _ _ _ :: _) :: _) _ _; first | refine W.gt ?_ | refine W.gf ?_) | (show W _ _ _ _ _ _ [] _ _; refine W.of (.done ?_)) | (apply W.of; constructor <;> first | (show W _ _ _ _ _ _ _ _ _) | (intro (al : Nat) h st; show W _ _ _ _ _ _ _ _ _) | (intro _ h st; show W _ _ _ _ _ _ _ _ _) | exact Sd)))
        have tail : ∀ {X : Nat} {v : AV} {h : AHeap} {s : Env}, Sub [(0, .ptr D 0), (1, .int .i64 m), (26, .ptr D 0), (31, v), (38, .sl X 0 1 1)] s → St h (RunsC v l :: RunsC (.sl X 0 1 1) [⟨n, m, 0⟩] :: .pt D (cntRow lv n) :: F) →
            W over tab none c_spread_Counts_Grow.ntmps (fnQ c_spread_Counts_Grow.res fun v h' => ∃ Rs, (((n ≤ m ∧ m ≤ 4096) ∧ v = .int .i64 0 ∧ ∃ l', Rs = [CntC D l' m] ∧ expand l' = expand l ++ List.replicate (m - n).toNat 0) ∨ (¬ (n ≤ m ∧ m ≤ 4096) ∧ v = .int .i64 2 ∧ Rs = [CntC D l n])) ∧ St h' (Rs ++ F)) .normal [.ins [I 39 (.append ty_api_Run 3 24 (.vals [.int .i64 0, .int .i64 0, .int .i64 0])) [T 31, T 38]], .ag [], .dis (List.drop 14 ((dr growDraw).headD [])), .code growRest] s h := by
          intro X v h s hs st
          exact W.sub hs (grow_tail h2 (by omega) hk st fun l' s h e hl st => ⟨[.int .i64 0], by simp only [resS, c_spread_Counts_Grow, hl], _, .inl ⟨⟨by omega, by omega⟩, rfl, l', rfl, e⟩, st⟩)
        refine W.draw2 ?_ ?_
        · (repeat (first | (show W _ _ _ _ _ _ (.code (cond _ _ _) :: _) _ _; first | refine W.ct ?_ | refine W.cf ?_) | (show W _ _ _ _ _ _ (.ins (cond _ _ _ :: _) :: _) _ _; first | refine W.gt ?_ | refine W.gf ?_) | (show W _ _ _ _ _ _ [] _ _; refine W.of (.done ?_)) | (apply W.of; constructor <;> first | (show W _ _ _ _ _ _ _ _ _) | (intro (al : Nat) h st; show W _ _ _ _ _ _ _ _ _) | (intro _ h st; show W _ _ _ _ _ _ _ _ _) | exact Sd))); refine W.call (hs := (runs_Clone (v := lv) (l := l) (by omega))) (w := ?_); rintro vv _ ⟨gj, gl, rfl⟩ h st; refine nj ?_; dsimp only [List.cons_append, List.nil_append] at st
          (repeat (first | (show W _ _ _ _ _ _ (.code (cond _ _ _) :: _) _ _; first | refine W.ct ?_ | refine W.cf ?_) | (show W _ _ _ _ _ _ (.ins (cond _ _ _ :: _) :: _) _ _; first | refine W.gt ?_ | refine W.gf ?_) | (show W _ _ _ _ _ _ [] _ _; refine W.of (.done ?_)) | (apply W.of; constructor <;> first | (show W _ _ _ _ _ _ _ _ _) | (intro (al : Nat) h st; show W _ _ _ _ _ _ _ _ _) | (intro _ h st; show W _ _ _ _ _ _ _ _ _) | exact Sd)))
          have st := St.rwRow (e := ty_api_Run) runCL [(⟨n, m, 0⟩ : RunV)] st Tk rfl rfl
          exact tail Sbs (st.sel Sels)
        · (repeat (first | (show W _ _ _ _ _ _ (.code (cond _ _ _) :: _) _ _; first | refine W.ct ?_ | refine W.cf ?_) | (show W _ _ _ _ _ _ (.ins (cond _ _ _ :: _) :: _) _ _; first | refine W.gt ?_ | refine W.gf ?_) | (show W _ _ _ _ _ _ [] _ _; refine W.of (.done ?_)) | (apply W.of; constructor <;> first | (show W _ _ _ _ _ _ _ _ _) | (intro (al : Nat) h st; show W _ _ _ _ _ _ _ _ _) | (intro _ h st; show W _ _ _ _ _ _ _ _ _) | exact Sd)))
          have st := St.rwRow (e := ty_api_Run) runCL [(⟨n, m, 0⟩ : RunV)] st Tk rfl rfl
          (repeat (first | (show W _ _ _ _ _ _ (.code (cond _ _ _) :: _) _ _; first | refine W.ct ?_ | refine W.cf ?_) | (show W _ _ _ _ _ _ (.ins (cond _ _ _ :: _) :: _) _ _; first | refine W.gt ?_ | refine W.gf ?_) | (show W _ _ _ _ _ _ [] _ _; refine W.of (.done ?_)) | (apply W.of; constructor <;> first | (show W _ _ _ _ _ _ _ _ _) | (intro (al : Nat) h st; show W _ _ _ _ _ _ _ _ _) | (intro _ h st; show W _ _ _ _ _ _ _ _ _) | exact Sd))); refine W.call (hs := (runs_Clone (v := lv) (l := l) (by omega))) (w := ?_); rintro vv _ ⟨gj, gl, rfl⟩ h st; refine nj ?_; dsimp only [List.cons_append, List.nil_append] at st
          (repeat (first | (show W _ _ _ _ _ _ (.code (cond _ _ _) :: _) _ _; first | refine W.ct ?_ | refine W.cf ?_) | (show W _ _ _ _ _ _ (.ins (cond _ _ _ :: _) :: _) _ _; first | refine W.gt ?_ | refine W.gf ?_) | (show W _ _ _ _ _ _ [] _ _; refine W.of (.done ?_)) | (apply W.of; constructor <;> first | (show W _ _ _ _ _ _ _ _ _) | (intro (al : Nat) h st; show W _ _ _ _ _ _ _ _ _) | (intro _ h st; show W _ _ _ _ _ _ _ _ _) | exact Sd)))
          exact tail Sbs (st.sel Sels)
      · have e : m = n := by omega
        subst e
        (repeat (first | (show W _ _ _ _ _ _ (.code (cond _ _ _) :: _) _ _; first | refine W.ct ?_ | refine W.cf ?_) | (show W _ _ _ _ _ _ (.ins (cond _ _ _ :: _) :: _) _ _; first | refine W.gt ?_ | refine W.gf ?_) | (show W _ _ _ _ _ _ [] _ _; refine W.of (.done ?_)) | (apply W.of; constructor <;> first | (show W _ _ _ _ _ _ _ _ _) | (intro (al : Nat) h st; show W _ _ _ _ _ _ _ _ _) | (intro _ h st; show W _ _ _ _ _ _ _ _ _) | exact Sd)))
        have st := St.packP (t := 34) (k := .ptr D 0) (P := CntIs D l m) (cs := [_, _]) st ⟨lv, rfl, hok⟩ Pks
        exact ⟨_, rfl, _, .inl ⟨by omega, rfl, l, rfl, by simp⟩, st.sel Sels⟩
end Go.Proofs.Ytjdemlagmamlbaa

namespace Go.Proofs.Ytjdemlagmamlbaa
variable {D : Nat} {l : List RunV} {n : Int}
theorem ok_nil : COk [] 0 := ⟨rfl, trivial, by decide, by decide, by simp⟩
theorem cnt_New {m : Int} (h0 : 0 ≤ m) (h1 : m ≤ 4096) : Spec R (.f n_spread_New) [.int .i64 m] [] fun v Rs => ∃ D l, v = .ptr D 0 ∧ Rs = [CntC D l m] ∧ expand l = List.replicate m.toNat 0 := by
  refine spec_w (fun _ _ _ x => progI_call rfl rfl x) Njs rfl (fun h F st => ?_); dsimp only [List.cons_append, List.nil_append] at st
  (repeat (first | (show W _ _ _ _ _ _ (.code (cond _ _ _) :: _) _ _; first | refine W.ct ?_ | refine W.cf ?_) | (show W _ _ _ _ _ _ (.ins (cond _ _ _ :: _) :: _) _ _; first | refine W.gt ?_ | refine W.gf ?_) | (show W _ _ _ _ _ _ [] _ _; refine W.of (.done ?_)) | (apply W.of; constructor <;> first | (show W _ _ _ _ _ _ _ _ _) | (intro (al : Nat) h st; show W _ _ _ _ _ _ _ _ _) | (intro _ h st; show W _ _ _ _ _ _ _ _ _) | exact Sd)))
  obtain ⟨D, rfl⟩ : ∃ y, y = al := ⟨_, rfl⟩
  have st := st.rwNil ty_api_Run 3 RunV.cells true
  have st := St.packP (t := 34) (k := .ptr D 0) (P := CntIs D [] 0) (cs := [.pt D (cntRow .nilsl 0), RunsC .nilsl []]) st ⟨.nilsl, rfl, ok_nil⟩ Pks
  (repeat (first | (show W _ _ _ _ _ _ (.code (cond _ _ _) :: _) _ _; first | refine W.ct ?_ | refine W.cf ?_) | (show W _ _ _ _ _ _ (.ins (cond _ _ _ :: _) :: _) _ _; first | refine W.gt ?_ | refine W.gf ?_) | (show W _ _ _ _ _ _ [] _ _; refine W.of (.done ?_)) | (apply W.of; constructor <;> first | (show W _ _ _ _ _ _ _ _ _) | (intro (al : Nat) h st; show W _ _ _ _ _ _ _ _ _) | (intro _ h st; show W _ _ _ _ _ _ _ _ _) | exact Sd))); refine W.call (hs := (cnt_Grow (m := m))) (w := ?_); rintro vv _ (⟨_, rfl, l', rfl, e⟩ | ⟨hn, _⟩) h st; refine nj ?_; dsimp only [List.cons_append, List.nil_append] at st
  · (repeat (first | (show W _ _ _ _ _ _ (.code (cond _ _ _) :: _) _ _; first | refine W.ct ?_ | refine W.cf ?_) | (show W _ _ _ _ _ _ (.ins (cond _ _ _ :: _) :: _) _ _; first | refine W.gt ?_ | refine W.gf ?_) | (show W _ _ _ _ _ _ [] _ _; refine W.of (.done ?_)) | (apply W.of; constructor <;> first | (show W _ _ _ _ _ _ _ _ _) | (intro (al : Nat) h st; show W _ _ _ _ _ _ _ _ _) | (intro _ h st; show W _ _ _ _ _ _ _ _ _) | exact Sd)))
    exact ⟨_, rfl, _, ⟨D, l', rfl, rfl, by rw [e]; simp [expand]⟩, st⟩
  · omega
end Go.Proofs.Ytjdemlagmamlbaa

namespace Go.Proofs.Ytjdemlagmamlbaa
variable {D : Nat} {l : List RunV} {n : Int}
instance : DecidableEq RunV := fun a b => decidable_of_iff (a.lo = b.lo ∧ a.hi = b.hi ∧ a.n = b.n) (by cases a; cases b; simp)
theorem list_eq_of {α : Type} {l l' : List α} (hl : l.length = l'.length) (h : ∀ (j : Nat) (a b : α), l[j]? = some a → l'[j]? = some b → a = b) : l = l' := by
  apply List.ext_getElem? 
  intro i
  by_cases hi : i < l.length
  · have e1 : l[i]? = some l[i] := by simp [hi]
    have e2 : l'[i]? = some (l'[i]'(by omega)) := by simp
    rw [e1, e2, h i _ _ e1 e2]
  · rw [List.getElem?_eq_none (by omega), List.getElem?_eq_none (by omega)]
set_option maxRecDepth 4000 in
theorem ref01_Ints {a b : AV} {e e' : Nat} {l l' : List Int} {w w' : Bool} (hlen : l.length ≤ 100000) : Spec R (.f n_ref01_Ints) [a, b] [VsC a e (l.map ikey) w, VsC b e' (l'.map ikey) w'] fun r Rs => r = .bool (decide (l = l')) ∧ Rs = [VsC a e (l.map ikey) w, VsC b e' (l'.map ikey) w'] := by
  refine spec_in fun h F st => ?_
  obtain ⟨al, aj, ao⟩ := St.vs (v := a) st Tk
  obtain ⟨bl, bj, bo⟩ := St.vs (v := b) (l := l'.map ikey) st Tk
  rw [List.length_map] at al bl
  clear st h F; refine spec_w (fun _ _ _ x => progI_call rfl rfl x) Njs rfl (fun h F st => ?_); dsimp only [List.cons_append, List.nil_append] at st
  (repeat (first | (show W _ _ _ _ _ _ (.code (cond _ _ _) :: _) _ _; first | refine W.ct ?_ | refine W.cf ?_) | (show W _ _ _ _ _ _ (.ins (cond _ _ _ :: _) :: _) _ _; first | refine W.gt ?_ | refine W.gf ?_) | (show W _ _ _ _ _ _ [] _ _; refine W.of (.done ?_)) | (apply W.of; constructor <;> first | (show W _ _ _ _ _ _ _ _ _) | (intro (al : Nat) h st; show W _ _ _ _ _ _ _ _ _) | (intro _ h st; show W _ _ _ _ _ _ _ _ _) | exact Sd)))
  by_cases hl : l.length = l'.length
  · (repeat (first | (show W _ _ _ _ _ _ (.code (cond _ _ _) :: _) _ _; first | refine W.ct ?_ | refine W.cf ?_) | (show W _ _ _ _ _ _ (.ins (cond _ _ _ :: _) :: _) _ _; first | refine W.gt ?_ | refine W.gf ?_) | (show W _ _ _ _ _ _ [] _ _; refine W.of (.done ?_)) | (apply W.of; constructor <;> first | (show W _ _ _ _ _ _ _ _ _) | (intro (al : Nat) h st; show W _ _ _ _ _ _ _ _ _) | (intro _ h st; show W _ _ _ _ _ _ _ _ _) | exact Sd)))
    refine W.loop (fun i : Nat => [(0, a), (1, b), (12, .int .i64 l.length), (13, .int .i64 i)]) (fun _ => VsC a e (l.map ikey) w :: VsC b e' (l'.map ikey) w' :: F)
      (fun i => i ≤ l.length ∧ ∀ (j : Nat) x y, j < i → l[j]? = some x → l'[j]? = some y → x = y) (fun i => l.length - i) 0 (small_rounds (by omega)) Sbs (st.sel Sels) ⟨Nat.zero_le _, fun j x y h => by omega⟩ ?_
    clear st
    intro i h ⟨hi, hn⟩ st
    by_cases hlt : i < l.length
    · obtain ⟨x, hx⟩ : ∃ x, l[i]? = some x := ⟨l[i], by simp [hlt]⟩
      obtain ⟨y, hy⟩ : ∃ y, l'[i]? = some y := ⟨l'[i]'(by omega), by simp⟩
      obtain ⟨gp, gq⟩ := d_vsIdx (v := a) (l := l.map ikey) (i := i) (kk := .i64) st Tk (by rw [List.length_map]; exact hlt)
      obtain ⟨fp, fq⟩ := d_vsIdx (v := b) (l := l'.map ikey) (i := i) (kk := .i64) st Tk (by rw [List.length_map]; omega)
      (repeat (first | (show W _ _ _ _ _ _ (.code (cond _ _ _) :: _) _ _; first | refine W.ct ?_ | refine W.cf ?_) | (show W _ _ _ _ _ _ (.ins (cond _ _ _ :: _) :: _) _ _; first | refine W.gt ?_ | refine W.gf ?_) | (show W _ _ _ _ _ _ [] _ _; refine W.of (.done ?_)) | (apply W.of; constructor <;> first | (show W _ _ _ _ _ _ _ _ _) | (intro (al : Nat) h st; show W _ _ _ _ _ _ _ _ _) | (intro _ h st; show W _ _ _ _ _ _ _ _ _) | exact Sd))); refine W.do (ho := gp) (w := ?_)
      (repeat (first | (show W _ _ _ _ _ _ (.code (cond _ _ _) :: _) _ _; first | refine W.ct ?_ | refine W.cf ?_) | (show W _ _ _ _ _ _ (.ins (cond _ _ _ :: _) :: _) _ _; first | refine W.gt ?_ | refine W.gf ?_) | (show W _ _ _ _ _ _ [] _ _; refine W.of (.done ?_)) | (apply W.of; constructor <;> first | (show W _ _ _ _ _ _ _ _ _) | (intro (al : Nat) h st; show W _ _ _ _ _ _ _ _ _) | (intro _ h st; show W _ _ _ _ _ _ _ _ _) | exact Sd))); refine W.do (ho := (d_vsLoad (v := a) (l := l.map ikey) (x := ikey x) st Tk (by rw [List.getElem?_map, hx]; rfl))) (w := ?_)
      (repeat (first | (show W _ _ _ _ _ _ (.code (cond _ _ _) :: _) _ _; first | refine W.ct ?_ | refine W.cf ?_) | (show W _ _ _ _ _ _ (.ins (cond _ _ _ :: _) :: _) _ _; first | refine W.gt ?_ | refine W.gf ?_) | (show W _ _ _ _ _ _ [] _ _; refine W.of (.done ?_)) | (apply W.of; constructor <;> first | (show W _ _ _ _ _ _ _ _ _) | (intro (al : Nat) h st; show W _ _ _ _ _ _ _ _ _) | (intro _ h st; show W _ _ _ _ _ _ _ _ _) | exact Sd))); refine W.do (ho := fp) (w := ?_)
      (repeat (first | (show W _ _ _ _ _ _ (.code (cond _ _ _) :: _) _ _; first | refine W.ct ?_ | refine W.cf ?_) | (show W _ _ _ _ _ _ (.ins (cond _ _ _ :: _) :: _) _ _; first | refine W.gt ?_ | refine W.gf ?_) | (show W _ _ _ _ _ _ [] _ _; refine W.of (.done ?_)) | (apply W.of; constructor <;> first | (show W _ _ _ _ _ _ _ _ _) | (intro (al : Nat) h st; show W _ _ _ _ _ _ _ _ _) | (intro _ h st; show W _ _ _ _ _ _ _ _ _) | exact Sd))); refine W.do (ho := (d_vsLoad (v := b) (l := l'.map ikey) (x := ikey y) st Tk (by rw [List.getElem?_map, hy]; rfl))) (w := ?_)
      by_cases he : x = y
      · subst he
        (repeat (first | (show W _ _ _ _ _ _ (.code (cond _ _ _) :: _) _ _; first | refine W.ct ?_ | refine W.cf ?_) | (show W _ _ _ _ _ _ (.ins (cond _ _ _ :: _) :: _) _ _; first | refine W.gt ?_ | refine W.gf ?_) | (show W _ _ _ _ _ _ [] _ _; refine W.of (.done ?_)) | (apply W.of; constructor <;> first | (show W _ _ _ _ _ _ _ _ _) | (intro (al : Nat) h st; show W _ _ _ _ _ _ _ _ _) | (intro _ h st; show W _ _ _ _ _ _ _ _ _) | exact Sd)))
        rw [neqS]
        (repeat (first | (show W _ _ _ _ _ _ (.code (cond _ _ _) :: _) _ _; first | refine W.ct ?_ | refine W.cf ?_) | (show W _ _ _ _ _ _ (.ins (cond _ _ _ :: _) :: _) _ _; first | refine W.gt ?_ | refine W.gf ?_) | (show W _ _ _ _ _ _ [] _ _; refine W.of (.done ?_)) | (apply W.of; constructor <;> first | (show W _ _ _ _ _ _ _ _ _) | (intro (al : Nat) h st; show W _ _ _ _ _ _ _ _ _) | (intro _ h st; show W _ _ _ _ _ _ _ _ _) | exact Sd)))
        refine W.of (.lp ?_)
        refine ⟨i + 1, by omega, ⟨hlt, fun j p q hj hp hq => ?_⟩, Sbs, st.sel Sels⟩
        by_cases e : j = i
        · subst e; rw [hx] at hp; rw [hy] at hq; cases hp; cases hq; rfl
        · exact hn j p q (by omega) hp hq
      · have hne : ¬ l = l' := fun e2 => by rw [e2, hy] at hx; cases hx; exact he rfl
        (repeat (first | (show W _ _ _ _ _ _ (.code (cond _ _ _) :: _) _ _; first | refine W.ct ?_ | refine W.cf ?_) | (show W _ _ _ _ _ _ (.ins (cond _ _ _ :: _) :: _) _ _; first | refine W.gt ?_ | refine W.gf ?_) | (show W _ _ _ _ _ _ [] _ _; refine W.of (.done ?_)) | (apply W.of; constructor <;> first | (show W _ _ _ _ _ _ _ _ _) | (intro (al : Nat) h st; show W _ _ _ _ _ _ _ _ _) | (intro _ h st; show W _ _ _ _ _ _ _ _ _) | exact Sd)))
        exact ⟨_, rfl, _, ⟨by rw [decide_eq_false hne]; rfl, rfl⟩, st.sel Sels⟩
    · have he : l = l' := list_eq_of hl fun j x y hx hy => hn j x y (by have := (List.getElem?_eq_some_iff.1 hx).1; omega) hx hy
      (repeat (first | (show W _ _ _ _ _ _ (.code (cond _ _ _) :: _) _ _; first | refine W.ct ?_ | refine W.cf ?_) | (show W _ _ _ _ _ _ (.ins (cond _ _ _ :: _) :: _) _ _; first | refine W.gt ?_ | refine W.gf ?_) | (show W _ _ _ _ _ _ [] _ _; refine W.of (.done ?_)) | (apply W.of; constructor <;> first | (show W _ _ _ _ _ _ _ _ _) | (intro (al : Nat) h st; show W _ _ _ _ _ _ _ _ _) | (intro _ h st; show W _ _ _ _ _ _ _ _ _) | exact Sd)))
      exact ⟨_, rfl, _, ⟨by rw [decide_eq_true he]; rfl, rfl⟩, st.sel Sels⟩
  · have hne : ¬ l = l' := fun e2 => hl (by rw [e2])
    (repeat (first | (show W _ _ _ _ _ _ (.code (cond _ _ _) :: _) _ _; first | refine W.ct ?_ | refine W.cf ?_) | (show W _ _ _ _ _ _ (.ins (cond _ _ _ :: _) :: _) _ _; first | refine W.gt ?_ | refine W.gf ?_) | (show W _ _ _ _ _ _ [] _ _; refine W.of (.done ?_)) | (apply W.of; constructor <;> first | (show W _ _ _ _ _ _ _ _ _) | (intro (al : Nat) h st; show W _ _ _ _ _ _ _ _ _) | (intro _ h st; show W _ _ _ _ _ _ _ _ _) | exact Sd)))
    exact ⟨_, rfl, _, ⟨by rw [decide_eq_false hne]; rfl, rfl⟩, st⟩
theorem add_okD {cs : List Int} {lo hi by' : Int} (h0 : 0 ≤ lo) (h1 : lo ≤ hi) (h2 : hi ≤ cs.length) (h : ((slc cs lo hi).all fun c => decide (¬ (by' < -c) ∧ ¬ (by' > 1000000 - c))) = true) : AddOk cs lo hi by' :=
  ⟨h0, h2, h1, fun c hc => of_decide_eq_true (List.all_eq_true.1 h c hc)⟩
/-- an Add that may be -/
theorem cnt_Add_ok {lo hi by' : Int} (ha : AddOk (expand l) lo hi by') : Spec R (.f n_spread_Counts_Add) [.ptr D 0, .int .i64 lo, .int .i64 hi, .int .i64 by'] [CntC D l n] fun r Rs =>
    ∃ gv l', r = .tuple [gv, .int .i64 0] ∧ gv.notJunk = some gv ∧ sliceLen gv = some (goneP lo (slc (expand l) lo hi) by').length ∧ expand l' = addL 0 (expand l) lo hi by' ∧ Rs = [VsC gv 3 ((goneP lo (slc (expand l) lo hi) by').map ikey) true, CntC D l' n] :=
  cnt_Add.mono progI_mono fun r Rs h => by
    rcases h with ⟨_, h⟩ | ⟨h, _⟩
    · exact h
    · exact absurd ha h
end Go.Proofs.Ytjdemlagmamlbaa

namespace Go.Proofs.Ytjdemlagmamlbaa
/-- an act -/
structure ActP where
  lo : Int
  hi : Int
  by' : Int
  grow : Bool
abbrev ActP.cells (a : ActP) : List AV := [.int .i64 a.lo, .int .i64 a.hi, .int .i64 a.by', .bool a.grow]
abbrev ActP.G (_ : ActP) : List Chunk := []
variable {p : AV}
end Go.Proofs.Ytjdemlagmamlbaa

namespace Go.Proofs.Ytjdemlagmamlbaa
variable {D : Nat} {l : List RunV} {n : Int}
theorem Adj.at : ∀ {l : List RunV} {i : Nat} {a b : RunV}, Adj l → l[i]? = some a → l[i + 1]? = some b → a.n ≠ b.n
  | [], _, _, _, _, h, _ => by simp at h
  | [_], i, _, _, _, _, h => by simp at h
  | x :: y :: l, 0, a, b, ha, h1, h2 => by
    simp at h1 h2; subst h1 h2; exact ha.1
  | x :: y :: l, i + 1, a, b, ha, h1, h2 => Adj.at (l := y :: l) (i := i) ha.2 (by simpa using h1) (by simpa using h2)
structure RuS where
  i : Nat
  at' : Int
end Go.Proofs.Ytjdemlagmamlbaa

namespace Go.Proofs.Ytjdemlagmamlbaa
section
variable {h : AHeap} {L R : List Chunk} {v : AV} {e k : Nat}
/-- an element of a part of a slice, looked at -/
structure RdV (h : AHeap) (p : AV) (i : Nat) (x : AV) : Prop where
  get : ∃ q, q.notJunk = some q ∧ (∀ kk, Does (.indexs 1) [p, .int kk (i : Nat)] h q h) ∧ Does .load1 [q] h x h
/-- l[a:b] -/
theorem d_midV {a b : Nat} {l : List AV} {kk : IntKind} (hab : a ≤ b) (hb : b ≤ k) (st : St h L) (t : Take L (SlC v e 1 k (.vals l) true) R) :
    ∃ p, Does (.slice 1 true true false) [v, .int kk a, .int kk b] h p h ∧ p.notJunk = some p ∧ sliceLen p = some (b - a) ∧ ∀ h' L' R', St h' L' → Take L' (SlC v e 1 k (.vals l) true) R' → ∀ i x, i < b - a → l[a + i]? = some x → RdV h' p i x := by
  have key : ∃ p, Does (.slice 1 true true false) [v, .int kk a, .int kk b] h p h ∧ p.notJunk = some p ∧ sliceLen p = some (b - a) ∧ ∀ h', (∃ cs L', SlIs v e 1 k (.vals l) true cs ∧ St h' (cs ++ L')) → ∀ i x, i < b - a → l[a + i]? = some x → RdV h' p i x := by
    obtain ⟨cs, y, st'⟩ := (st.take t).unpack
    have hbd : ∀ cap : Nat, k ≤ cap → bounds3 k cap true true false [.int kk a, .int kk b] = some (a, b, cap) := fun cap hc => by
      simp only [bounds3]; rw [if_pos (by omega)]; simp
    rcases y with ⟨rfl, rfl, _⟩ | ⟨_, _, _, _, hw⟩ | ⟨id, off, cap, D, e', es', sf, rfl, rfl, h3, hc', hw⟩ | ⟨id, idx, D, rfl, rfl, h3, hw, hfl⟩
    · have e1 : a = 0 := by omega
      have e2 : b = 0 := by omega
      subst e1 e2
      exact ⟨.nilsl, ⟨rfl, rfl⟩, rfl, rfl, fun h' _ i x hi => by omega⟩
    · cases hw
    · refine ⟨.sl id (if cap = a then off else off + a * 1) (b - a) (cap - a), ⟨rfl, ?_⟩, rfl, rfl, ?_⟩
      · simp only [aop, hbd cap hc', Option.map_some]
      · rintro h' ⟨cs, L', y, st2⟩ i x hi hx
        rw [if_neg (by omega)]
        rcases y with ⟨e, _⟩ | ⟨e, _⟩ | ⟨id2, off2, cap2, D2, _, _, _, e, rfl, g3, _, _⟩ | ⟨_, _, _, e, _⟩
        · cases e
        · cases e
        · cases e
          obtain ⟨c, rfl, p1, p2⟩ := vals_of_take g3
          refine ⟨.ptr id (off + a * 1 + i * 1), rfl, fun kk => ⟨rfl, ?_⟩, d_load1 st2.get ?_⟩
          · simp only [aop]; rw [if_pos ⟨by omega, by omega⟩]; simp
          · have hx' : (Dat.vals l).get (a + i) = some x := hx
            rw [← Dat.take_get g3 (by omega)] at hx'
            rw [← hx']; congr 1; omega
        · cases e
    · have hbd2 := hbd k (Nat.le_refl _)
      by_cases h0 : a < k ∨ a = 0
      · refine ⟨.ssl id (idx + a) 1 (b - a), ⟨rfl, ?_⟩, rfl, rfl, ?_⟩
        · simp only [aop, hbd2, Option.bind_some, if_true]; rw [if_pos h0]
        · rintro h' ⟨cs, L', y, st2⟩ i x hi hx
          rcases y with ⟨e, _⟩ | ⟨e, _⟩ | ⟨_, _, _, _, _, _, _, e, _⟩ | ⟨id2, idx2, D2, e, rfl, g3, _, _⟩
          · cases e
          · cases e
          · cases e
          · cases e
            refine ⟨.ptr id ((idx + a + i) * 1), rfl, fun kk => ⟨rfl, ?_⟩, d_load1 st2.get ?_⟩
            · simp only [aop]; rw [if_pos ⟨by omega, by omega, trivial⟩]; simp
            · have hx' : (Dat.vals l).get (a + i) = some x := hx
              rw [← Dat.take_get g3 (by omega)] at hx'
              rw [← hx']; congr 1; omega
      · refine ⟨.esl, ⟨rfl, ?_⟩, rfl, by show some 0 = _; congr 1; omega, fun h' _ i x hi => by omega⟩
        simp only [aop, hbd2, Option.bind_some, if_true]; rw [if_neg h0]
  obtain ⟨p, h1, h2, h3, h4⟩ := key
  refine ⟨p, h1, h2, h3, fun h' L' R' st' t' => ?_⟩
  obtain ⟨cs, y, st2⟩ := (st'.take t').unpack
  exact h4 h' ⟨cs, _, y, st2⟩
end
end Go.Proofs.Ytjdemlagmamlbaa

namespace Go.Proofs.Ytjdemlagmamlbaa
variable {D : Nat} {cs : List Int}
structure RcOk (cs : List Int) : Prop where
  len : cs.length ≤ 4096
  cnt : ∀ c, c ∈ cs → 0 ≤ c ∧ c ≤ 1000000
abbrev rcRow (lv : AV) : AObj := .row ty_ref11_Counts 1 false false (.vals [lv])
def RcIs (D : Nat) (cs : List Int) (ch : List Chunk) : Prop := ∃ lv, ch = [.pt D (rcRow lv), VsC lv 3 (cs.map ikey) true] ∧ RcOk cs
abbrev RcC (D : Nat) (cs : List Int) : Chunk := pk 36 (.ptr D 0) (RcIs D cs)
theorem rep_ikey (n : Nat) : (List.replicate n [AV.int .i64 0]).flatten = (List.replicate n (0 : Int)).map ikey := by
  induction n with
  | zero => rfl
  | succ n ih => rw [List.replicate_succ, List.flatten_cons, ih, List.replicate_succ, List.map_cons]; rfl
theorem St.ivs {h : AHeap} {L R : List Chunk} {v : AV} {e : Nat} {w : Bool} (st : St h L) (t : Take L (VsC v e (cs.map ikey) w) R) : sliceLen v = some cs.length ∧ v.notJunk = some v ∧ okSame v = true := by
  obtain ⟨a, b, c⟩ := St.vs (v := v) st t
  rw [List.length_map] at a
  exact ⟨a, b, c⟩
theorem rc_New {m : Nat} (h1 : m ≤ 4096) : Spec R (.f n_ref11_New) [.int .i64 (m : Nat)] [] fun v Rs => ∃ D, v = .ptr D 0 ∧ Rs = [RcC D (List.replicate m 0)] := by
  refine spec_w (fun _ _ _ x => progI_call rfl rfl x) Njs rfl (fun h F st => ?_); dsimp only [List.cons_append, List.nil_append] at st
  (repeat (first | (show W _ _ _ _ _ _ (.code (cond _ _ _) :: _) _ _; first | refine W.ct ?_ | refine W.cf ?_) | (show W _ _ _ _ _ _ (.ins (cond _ _ _ :: _) :: _) _ _; first | refine W.gt ?_ | refine W.gf ?_) | (show W _ _ _ _ _ _ [] _ _; refine W.of (.done ?_)) | (apply W.of; constructor <;> first | (show W _ _ _ _ _ _ _ _ _) | (intro (al : Nat) h st; show W _ _ _ _ _ _ _ _ _) | (intro _ h st; show W _ _ _ _ _ _ _ _ _) | exact Sd)))
  (repeat (first | (show W _ _ _ _ _ _ (.code (cond _ _ _) :: _) _ _; first | refine W.ct ?_ | refine W.cf ?_) | (show W _ _ _ _ _ _ (.ins (cond _ _ _ :: _) :: _) _ _; first | refine W.gt ?_ | refine W.gf ?_) | (show W _ _ _ _ _ _ [] _ _; refine W.of (.done ?_)) | (apply W.of; constructor <;> first | (show W _ _ _ _ _ _ _ _ _) | (intro (al : Nat) h st; show W _ _ _ _ _ _ _ _ _) | (intro _ h st; show W _ _ _ _ _ _ _ _ _) | exact Sd))); refine W.ef (ho := (e_mkslice (e := 3) (es := 1) (b := 8) (z := .vals [.int .i64 0]) (d := .vals ((List.replicate m (0 : Int)).map ikey)) (l := (m : Nat)) (c := (m : Nat)) st (by omega) (by omega) (by omega) (by omega) rfl (by show Dat.vals (List.replicate m [AV.int .i64 0]).flatten = _; rw [rep_ikey]) (by simp [Dat.len]) rfl)) (w := ?_); rintro vv h ⟨id, rfl, st⟩; refine nj ?_
  rw [Int.toNat_natCast]
  (repeat (first | (show W _ _ _ _ _ _ (.code (cond _ _ _) :: _) _ _; first | refine W.ct ?_ | refine W.cf ?_) | (show W _ _ _ _ _ _ (.ins (cond _ _ _ :: _) :: _) _ _; first | refine W.gt ?_ | refine W.gf ?_) | (show W _ _ _ _ _ _ [] _ _; refine W.of (.done ?_)) | (apply W.of; constructor <;> first | (show W _ _ _ _ _ _ _ _ _) | (intro (al : Nat) h st; show W _ _ _ _ _ _ _ _ _) | (intro _ h st; show W _ _ _ _ _ _ _ _ _) | exact Sd)))
  have st := St.vsRow (l := (List.replicate m (0 : Int)).map ikey) (e := 3) (n := m) st Tk (by simp)
  have st := St.packP (t := 36) (k := .ptr al 0) (P := RcIs al (List.replicate m 0)) (cs := [.pt al (rcRow (.sl id 0 m m)), VsC (.sl id 0 m m) 3 ((List.replicate m (0 : Int)).map ikey) true]) st ⟨_, rfl, by simpa using h1, fun c hc => by rw [(List.mem_replicate.1 hc).2]; decide⟩ Pks
  exact ⟨_, rfl, _, ⟨_, rfl, rfl⟩, st.sel Sels⟩
theorem rc_At {i : Int} : Spec R (.f n_ref11_Counts_At) [.ptr D 0, .int .i64 i] [RcC D cs] fun v Rs => v = .int .i64 (atL cs i) ∧ Rs = [RcC D cs] := by
  refine spec_w (fun _ _ _ x => progI_call rfl rfl x) Njs rfl (fun h F st => ?_); dsimp only [List.cons_append, List.nil_append] at st
  obtain ⟨_, ⟨lv, rfl, hok⟩, st⟩ := St.unpack st; dsimp only [List.cons_append, List.nil_append] at st
  obtain ⟨vl, vj, vs⟩ := St.ivs (v := lv) (cs := cs) st Tk
  have back : ∀ {h : AHeap} {L R : List Chunk}, St h L → Pick L [.pt D (rcRow lv), VsC lv 3 (cs.map ikey) true] R → St h (RcC D cs :: R) := fun st pk => St.packP (t := 36) (k := .ptr D 0) (P := RcIs D cs) st ⟨lv, rfl, hok⟩ pk
  unfold atL
  by_cases h0 : i < 0
  · rw [if_neg (by omega)]
    (repeat (first | (show W _ _ _ _ _ _ (.code (cond _ _ _) :: _) _ _; first | refine W.ct ?_ | refine W.cf ?_) | (show W _ _ _ _ _ _ (.ins (cond _ _ _ :: _) :: _) _ _; first | refine W.gt ?_ | refine W.gf ?_) | (show W _ _ _ _ _ _ [] _ _; refine W.of (.done ?_)) | (apply W.of; constructor <;> first | (show W _ _ _ _ _ _ _ _ _) | (intro (al : Nat) h st; show W _ _ _ _ _ _ _ _ _) | (intro _ h st; show W _ _ _ _ _ _ _ _ _) | exact Sd)))
    exact ⟨_, rfl, _, ⟨rfl, rfl⟩, back st Pks⟩
  · by_cases h1 : i ≥ cs.length
    · rw [if_neg (by omega)]
      (repeat (first | (show W _ _ _ _ _ _ (.code (cond _ _ _) :: _) _ _; first | refine W.ct ?_ | refine W.cf ?_) | (show W _ _ _ _ _ _ (.ins (cond _ _ _ :: _) :: _) _ _; first | refine W.gt ?_ | refine W.gf ?_) | (show W _ _ _ _ _ _ [] _ _; refine W.of (.done ?_)) | (apply W.of; constructor <;> first | (show W _ _ _ _ _ _ _ _ _) | (intro (al : Nat) h st; show W _ _ _ _ _ _ _ _ _) | (intro _ h st; show W _ _ _ _ _ _ _ _ _) | exact Sd)))
      exact ⟨_, rfl, _, ⟨rfl, rfl⟩, back st Pks⟩
    · rw [if_pos (by omega)]
      obtain ⟨j, rfl⟩ : ∃ j : Nat, i = (j : Int) := ⟨i.toNat, by omega⟩
      obtain ⟨c, hc⟩ : ∃ c, cs[j]? = some c := ⟨cs[j]'(by omega), by simp⟩
      obtain ⟨gp, gq⟩ := d_vsIdx (v := lv) (l := cs.map ikey) (i := j) (kk := .i64) st Tk (by rw [List.length_map]; omega)
      (repeat (first | (show W _ _ _ _ _ _ (.code (cond _ _ _) :: _) _ _; first | refine W.ct ?_ | refine W.cf ?_) | (show W _ _ _ _ _ _ (.ins (cond _ _ _ :: _) :: _) _ _; first | refine W.gt ?_ | refine W.gf ?_) | (show W _ _ _ _ _ _ [] _ _; refine W.of (.done ?_)) | (apply W.of; constructor <;> first | (show W _ _ _ _ _ _ _ _ _) | (intro (al : Nat) h st; show W _ _ _ _ _ _ _ _ _) | (intro _ h st; show W _ _ _ _ _ _ _ _ _) | exact Sd))); refine W.do (ho := gp) (w := ?_)
      (repeat (first | (show W _ _ _ _ _ _ (.code (cond _ _ _) :: _) _ _; first | refine W.ct ?_ | refine W.cf ?_) | (show W _ _ _ _ _ _ (.ins (cond _ _ _ :: _) :: _) _ _; first | refine W.gt ?_ | refine W.gf ?_) | (show W _ _ _ _ _ _ [] _ _; refine W.of (.done ?_)) | (apply W.of; constructor <;> first | (show W _ _ _ _ _ _ _ _ _) | (intro (al : Nat) h st; show W _ _ _ _ _ _ _ _ _) | (intro _ h st; show W _ _ _ _ _ _ _ _ _) | exact Sd))); refine W.do (ho := (d_vsLoad (v := lv) (l := cs.map ikey) (x := ikey c) st Tk (by rw [List.getElem?_map, hc]; rfl))) (w := ?_)
      (repeat (first | (show W _ _ _ _ _ _ (.code (cond _ _ _) :: _) _ _; first | refine W.ct ?_ | refine W.cf ?_) | (show W _ _ _ _ _ _ (.ins (cond _ _ _ :: _) :: _) _ _; first | refine W.gt ?_ | refine W.gf ?_) | (show W _ _ _ _ _ _ [] _ _; refine W.of (.done ?_)) | (apply W.of; constructor <;> first | (show W _ _ _ _ _ _ _ _ _) | (intro (al : Nat) h st; show W _ _ _ _ _ _ _ _ _) | (intro _ h st; show W _ _ _ _ _ _ _ _ _) | exact Sd)))
      rw [Int.toNat_natCast, hc]
      exact ⟨_, rfl, _, ⟨rfl, rfl⟩, back st Pks⟩
theorem sum_take (cs : List Int) (h : ∀ c, c ∈ cs → 0 ≤ c ∧ c ≤ 1000000) : 0 ≤ cs.sum ∧ cs.sum ≤ 1000000 * cs.length := by
  induction cs with
  | nil => simp
  | cons c cs ih =>
    obtain ⟨h1, h2⟩ := ih fun x hx => h x (List.mem_cons_of_mem _ hx)
    have := h c List.mem_cons_self
    simp only [List.sum_cons, List.length_cons]
    omega
theorem sum_snoc (cs : List Int) (c : Int) : (cs ++ [c]).sum = cs.sum + c := by simp
set_option maxRecDepth 4000 in
theorem rc_Sum : Spec R (.f n_ref11_Counts_Sum) [.ptr D 0] [RcC D cs] fun v Rs => v = .int .i64 cs.sum ∧ Rs = [RcC D cs] := by
  refine spec_w (fun _ _ _ x => progI_call rfl rfl x) Njs rfl (fun h F st => ?_); dsimp only [List.cons_append, List.nil_append] at st
  obtain ⟨_, ⟨lv, rfl, hok⟩, st⟩ := St.unpack st; dsimp only [List.cons_append, List.nil_append] at st
  obtain ⟨vl, vj, vs⟩ := St.ivs (v := lv) (cs := cs) st Tk
  have hlen := hok.len
  (repeat (first | (show W _ _ _ _ _ _ (.code (cond _ _ _) :: _) _ _; first | refine W.ct ?_ | refine W.cf ?_) | (show W _ _ _ _ _ _ (.ins (cond _ _ _ :: _) :: _) _ _; first | refine W.gt ?_ | refine W.gf ?_) | (show W _ _ _ _ _ _ [] _ _; refine W.of (.done ?_)) | (apply W.of; constructor <;> first | (show W _ _ _ _ _ _ _ _ _) | (intro (al : Nat) h st; show W _ _ _ _ _ _ _ _ _) | (intro _ h st; show W _ _ _ _ _ _ _ _ _) | exact Sd)))
  refine W.loop (fun i : Nat => [(3, .int .i64 (cs.take i).sum), (9, lv), (10, .int .i64 cs.length), (11, .int .i64 i)]) (fun _ => .pt D (rcRow lv) :: VsC lv 3 (cs.map ikey) true :: F) (fun i => i ≤ cs.length) (fun i => cs.length - i) 0 (small_rounds (by omega)) Sbs st (Nat.zero_le _) ?_
  clear st
  intro i h hi st
  by_cases hlt : i < cs.length
  · obtain ⟨c, hc⟩ : ∃ c, cs[i]? = some c := ⟨cs[i], by simp [hlt]⟩
    have hcn := hok.cnt c (List.mem_of_getElem? hc)
    obtain ⟨s1, s2⟩ := sum_take (cs.take i) fun x hx => hok.cnt x (List.mem_of_mem_take hx)
    rw [List.length_take] at s2
    obtain ⟨gp, gq⟩ := d_vsIdx (v := lv) (l := cs.map ikey) (i := i) (kk := .i64) st Tk (by rw [List.length_map]; omega)
    (repeat (first | (show W _ _ _ _ _ _ (.code (cond _ _ _) :: _) _ _; first | refine W.ct ?_ | refine W.cf ?_) | (show W _ _ _ _ _ _ (.ins (cond _ _ _ :: _) :: _) _ _; first | refine W.gt ?_ | refine W.gf ?_) | (show W _ _ _ _ _ _ [] _ _; refine W.of (.done ?_)) | (apply W.of; constructor <;> first | (show W _ _ _ _ _ _ _ _ _) | (intro (al : Nat) h st; show W _ _ _ _ _ _ _ _ _) | (intro _ h st; show W _ _ _ _ _ _ _ _ _) | exact Sd))); refine W.do (ho := gp) (w := ?_)
    (repeat (first | (show W _ _ _ _ _ _ (.code (cond _ _ _) :: _) _ _; first | refine W.ct ?_ | refine W.cf ?_) | (show W _ _ _ _ _ _ (.ins (cond _ _ _ :: _) :: _) _ _; first | refine W.gt ?_ | refine W.gf ?_) | (show W _ _ _ _ _ _ [] _ _; refine W.of (.done ?_)) | (apply W.of; constructor <;> first | (show W _ _ _ _ _ _ _ _ _) | (intro (al : Nat) h st; show W _ _ _ _ _ _ _ _ _) | (intro _ h st; show W _ _ _ _ _ _ _ _ _) | exact Sd))); refine W.do (ho := (d_vsLoad (v := lv) (l := cs.map ikey) (x := ikey c) st Tk (by rw [List.getElem?_map, hc]; rfl))) (w := ?_)
    (repeat (first | (show W _ _ _ _ _ _ (.code (cond _ _ _) :: _) _ _; first | refine W.ct ?_ | refine W.cf ?_) | (show W _ _ _ _ _ _ (.ins (cond _ _ _ :: _) :: _) _ _; first | refine W.gt ?_ | refine W.gf ?_) | (show W _ _ _ _ _ _ [] _ _; refine W.of (.done ?_)) | (apply W.of; constructor <;> first | (show W _ _ _ _ _ _ _ _ _) | (intro (al : Nat) h st; show W _ _ _ _ _ _ _ _ _) | (intro _ h st; show W _ _ _ _ _ _ _ _ _) | exact Sd)))
    rw [← sum_snoc, ← take_snoc1 hc]
    refine W.of (.lp ?_)
    exact ⟨i + 1, by omega, hlt, Sbs, st.sel Sels⟩
  · have e : i = cs.length := by omega
    subst e
    rw [List.take_length]
    (repeat (first | (show W _ _ _ _ _ _ (.code (cond _ _ _) :: _) _ _; first | refine W.ct ?_ | refine W.cf ?_) | (show W _ _ _ _ _ _ (.ins (cond _ _ _ :: _) :: _) _ _; first | refine W.gt ?_ | refine W.gf ?_) | (show W _ _ _ _ _ _ [] _ _; refine W.of (.done ?_)) | (apply W.of; constructor <;> first | (show W _ _ _ _ _ _ _ _ _) | (intro (al : Nat) h st; show W _ _ _ _ _ _ _ _ _) | (intro _ h st; show W _ _ _ _ _ _ _ _ _) | exact Sd)))
    exact ⟨_, rfl, _, ⟨rfl, rfl⟩, St.packP (t := 36) (k := .ptr D 0) (P := RcIs D cs) st ⟨lv, rfl, hok⟩ Pks⟩
end Go.Proofs.Ytjdemlagmamlbaa
