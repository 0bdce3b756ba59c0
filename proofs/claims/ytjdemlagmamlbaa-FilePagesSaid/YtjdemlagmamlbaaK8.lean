/- Slices of values: their stores, their append. -/
import Derived.Test.YtjdemlagmamlbaaK7
namespace Go.Proofs.Ytjdemlagmamlbaa

section
variable {h : AHeap} {L R R' : List Chunk} {s x v : AV} {e es b k m : Nat} {d : Dat} {w : Bool} {C : SemW}

theorem okSame_sl {k : Nat} (h : sliceLen v = some k) : okSame v = true := by
  cases v <;> first | rfl | (simp [sliceLen] at h)

/-- a slice of values -/
abbrev VsC (v : AV) (e : Nat) (l : List AV) (w : Bool) : Chunk := SlC v e 1 l.length (.vals l) w

theorem St.vs {l : List AV} (st : St h L) (t : Take L (VsC v e l w) R) : sliceLen v = some l.length ∧ v.notJunk = some v ∧ okSame v = true := by
  obtain ⟨h1, h2, _⟩ := st.slc t
  exact ⟨h1, h2, okSame_sl h1⟩

theorem d_vsIdx {i : Nat} {kk : IntKind} {l : List AV} (st : St h L) (t : Take L (VsC v e l w) R) (h1 : i < l.length) : Does (.indexs 1) [v, .int kk i] h (elemPtr 1 v i) h ∧ (elemPtr 1 v i).notJunk = some (elemPtr 1 v i) :=
  ⟨d_indexs (i := (i : Int)) st t (by omega) (by omega), elemPtr_nj (st.vs t).1 h1⟩

theorem d_vsLoad {i : Nat} {l : List AV} {x : AV} (st : St h L) (t : Take L (VsC v e l w) R) (hx : l[i]? = some x) : Does .load1 [elemPtr 1 v i] h x h :=
  d_loadE st t (List.getElem?_eq_some_iff.1 hx).1 hx

theorem vals_of_take {D : Dat} {off n : Nat} {l : List AV} (h : D.take off n = some (.vals l)) : ∃ c, D = .vals c ∧ off + n ≤ c.length ∧ (c.drop off).take n = l := by
  cases D with
  | vals c =>
    simp only [Dat.take] at h
    split at h
    · rename_i hl; cases h; exact ⟨c, rfl, hl, rfl⟩
    · cases h
  | bytes l n => simp only [Dat.take] at h; split at h <;> cases h

theorem set_in {c l : List AV} {off n i : Nat} {x : AV} (hl : off + n ≤ c.length) (h : (c.drop off).take n = l) (hi : i < n) : Dat.put (.vals c) (off + i) (.vals [x]) = some (.vals (c.set (off + i) x)) ∧ ((c.set (off + i) x).drop off).take n = l.set i x := by
  constructor
  · simp only [Dat.put, List.length_cons, List.length_nil]
    rw [if_pos (by omega), List.set_eq_take_append_cons_drop, if_pos (by omega)]
    simp
  · subst h
    rw [List.drop_set, if_neg (by omega), Nat.add_sub_cancel_left, List.take_set]

theorem e_vsStore {i : Nat} {l : List AV} {x : AV} (st : St h L) (t : Take L (VsC v e l true) R) (hi : i < l.length) (hx : x.dat = .vals [x]) :
    Eff C (.store 1) [elemPtr 1 v i, x] h fun q h' => q = .tuple [] ∧ St h' (VsC v e (l.set i x) true :: R) := .mk (by
  obtain ⟨cs, y, st'⟩ := (st.take t).unpack
  rcases y with ⟨rfl, h0, _⟩ | ⟨rfl, h0, _⟩ | ⟨id, off, cap, D, e', es', sf, rfl, rfl, h3, h4, h5⟩ | ⟨id, idx, D, rfl, rfl, h3, h4, h5⟩
  · omega
  · omega
  · rw [Nat.mul_one] at h3
    obtain ⟨c, rfl, p1, p2⟩ := vals_of_take h3
    obtain ⟨q1, q2⟩ := set_in (x := x) p1 p2 hi
    refine Does.do (v := .tuple []) (h1 := h.put id (.row e' es' sf false (.vals (c.set (off + i) x)))) ⟨rfl, ?_⟩ ⟨rfl, St.pack (cs := [.pt id (.row e' es' sf false (.vals (c.set (off + i) x)))]) (st'.put _) ?_⟩
    · simp only [aop, elemPtr, st'.get, Bool.not_true, Nat.mul_one, hx, q1, Option.map_some]; rfl
    · rw [List.length_set]
      refine .inr (.inr (.inl ⟨id, off, cap, _, e', es', sf, rfl, rfl, ?_, h4, fun _ => by have := h5 rfl; simpa [Dat.len] using this⟩))
      simp only [Dat.take, Nat.mul_one]
      rw [if_pos (by simpa using p1), q2]
  · rw [Nat.mul_one l.length] at h3
    obtain ⟨c, rfl, p1, p2⟩ := vals_of_take h3
    obtain ⟨q1, q2⟩ := set_in (x := x) p1 p2 hi
    refine Does.do (v := .tuple []) (h1 := h.put id (.row e 1 true false (.vals (c.set (idx * 1 + i) x)))) ⟨rfl, ?_⟩ ⟨rfl, St.pack (cs := [.pt id (.row e 1 true false (.vals (c.set (idx * 1 + i) x)))]) (st'.put _) ?_⟩
    · simp only [aop, elemPtr, st'.get, hx]
      rw [show (idx + i) * 1 = idx * 1 + i by omega, q1]; rfl
    · rw [List.length_set]
      refine .inr (.inr (.inr ⟨id, idx, _, rfl, rfl, ?_, rfl, by simpa [Dat.len] using h5⟩))
      simp only [Dat.take]
      rw [Nat.mul_one l.length, if_pos (by simpa using p1), q2])

/-- append one list of values to another -/
theorem e_vsAppend {z : Dat} {l l' : List AV} (st : St h L) (t : Take L (VsC s e l true) R) (t' : Take R (VsC x e l' w) R') (hb : (l.length + l'.length) * b ≤ 2 ^ 40) (hk : l.length + l'.length ≤ 2 ^ 40) :
    Eff C (.append e 1 b z) [s, x] h fun v h' => v.notJunk = some v ∧ sliceLen v = some (l ++ l').length ∧ St h' (VsC v e (l ++ l') true :: VsC x e l' w :: R') := by
  have := e_append (C := C) (z := z) (d'' := .vals (l ++ l')) st t t' rfl (.inl ⟨_, _, rfl, rfl⟩) (fun h0 => by rw [List.eq_nil_of_length_eq_zero h0, List.append_nil])
    (fun h0 => by rw [List.eq_nil_of_length_eq_zero h0, Nat.mul_one]; simp [Dat.take])
    (by rw [Nat.mul_one]; simp only [Dat.take, Nat.zero_add]; rw [if_pos (by simp), List.drop_zero, List.take_of_length_le (by simp)]) hb hk rfl
  rw [← List.length_append] at this
  exact this

/-- a new row of values, as a slice -/
theorem St.vsRow {id n e' es' : Nat} {sf : Bool} {l : List AV} (st : St h L) (t : Take L (.pt id (.row e' es' sf false (.vals l))) R) (hn : n = l.length) : St h (VsC (.sl id 0 n n) e l true :: R) := by
  subst hn
  refine St.pack (cs := [.pt id (.row e' es' sf false (.vals l))]) (st.take t) (.inr (.inr (.inl ⟨id, 0, _, _, e', es', sf, rfl, rfl, ?_, Nat.le_refl _, fun _ => by simp [Dat.len]⟩)))
  simp [Dat.take]

/-- no values -/
theorem St.vsNil (st : St h L) (e : Nat) (w : Bool) : St h (VsC .nilsl e [] w :: L) := St.nilslice st e 1 w

end
end Go.Proofs.Ytjdemlagmamlbaa
