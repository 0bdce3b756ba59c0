/- Soundness of the operations, continued: slices, fields, reads. -/
import Derived.Test.YtjdemlagmamlbaaM6
namespace Go.Proofs.Ytjdemlagmamlbaa
variable {Λ : Lam}

theorem Rel.row {μ h w} (r : Rel Λ μ h w) {id e es soft ro d} (hg : h.get id = some (.row e es soft ro d)) :
    ∃ l, μ id = some l ∧ RowR μ w l e es soft ro d := r.obj id _ hg

theorem RowR.get {μ : Mu} {w : World} {l : Loc} {e es : Nat} {soft ro : Bool} {d : Dat} (h : RowR μ w l e es soft ro d) {i : Nat} {v : AV} (hv : d.get i = some v) :
    ∃ cv, w.cell? ⟨l.block, l.off + i, none⟩ = some cv ∧ VR μ v cv ∧ cv.oneCell' = true := by
  obtain ⟨c, fr, p, q, _⟩ := h
  obtain ⟨cv, a, b, o⟩ := q i v hv
  exact ⟨cv, by rw [cell_at p]; exact a, b, o⟩

/-- a run of a row's cells -/
theorem RowR.take {μ : Mu} {w : World} {l : Loc} {e es : Nat} {soft ro : Bool} {d s : Dat} (h : RowR μ w l e es soft ro d) {off n : Nat} (ht : d.take off n = some s) (P : Program) :
    ∃ cs : List Value, (∀ w' : World, w'.heap = w.heap → (loadCells ⟨l.block, l.off + off, none⟩ n).run P w' = .ok cs.toArray w') ∧ DatC μ s cs := by
  obtain ⟨t1, t2, t3⟩ := Dat.take_spec ht
  rcases Nat.eq_zero_or_pos n with h0 | h0
  · subst h0
    refine ⟨[], fun w' _ => by simp [loadCells, loadCellsFrom], by simp [t1], fun i x hx => ?_⟩
    have := Dat.get_lt hx
    omega
  · obtain ⟨c, fr, p, q, _⟩ := h
    have hlen : l.off + off + n ≤ c.size := by
      obtain ⟨v, hv⟩ := Dat.get_of_lt (d := d) (i := off + n - 1) (by omega)
      obtain ⟨cv, a, _⟩ := q _ _ hv
      have := (Array.getElem?_eq_some_iff.1 a).1
      omega
    refine ⟨_, fun w' hw' => run_loadRow P (by rw [hw']; exact p) hlen, by simp; omega, fun i x hx => ?_⟩
    have hi : i < n := t1 ▸ Dat.get_lt hx
    rw [t3 i hi] at hx
    obtain ⟨cv, a, b⟩ := q _ _ hx
    refine ⟨cv, ?_, b⟩
    simp only [List.getElem?_take, hi, if_true, List.getElem?_drop]
    rw [← a]; simp [Nat.add_assoc]

theorem boundOk {P : Program} {w : World} {k : IntKind} {i : Int} {y : Nat} {code : BoundsCode} (h0 : 0 ≤ i) (h1 : i ≤ y) : (Instr.sliceBound (.int k i) y code).run P w = .ok i.toNat w := by
  simp [Instr.sliceBound, asIntOf, h0, h1]

/-- the operands that are there, in their order -/
def optVals (lo hi mx : Option Value) : List Value := lo.toList ++ hi.toList ++ mx.toList

theorem bounds_ok {P : Program} {μ : Mu} {isSlice : Bool} {len cap : Nat} {lo hi mx : Option Value} {args : List AV} {l r m : Nat} (h : bounds3 len cap lo.isSome hi.isSome mx.isSome args = some (l, r, m))
    (ha : VRL μ args (optVals lo hi mx)) (w : World) : (Instr.sliceBounds isSlice len cap lo hi mx).run P w = .ok (l, r, m) w := by
  cases lo <;> cases hi <;> cases mx <;> simp only [Option.isSome_none, Option.isSome_some, bounds3, optVals, Option.toList_none, Option.toList_some, List.nil_append, List.append_nil, List.cons_append] at h ha
  · split at h
    · cases h
      simp [Instr.sliceBounds]
    · cases h
  · cases h
  · split at h
    · split at h
      · rename_i hc
        cases h
        obtain ⟨a, e, v⟩ := VRL.one ha
        cases e; rw [VR.int v]
        simp [Instr.sliceBounds, boundOk (P := P) (w := w) hc.1 hc.2]
      · cases h
    · cases h
  · split at h
    · split at h
      · rename_i hc
        cases h
        obtain ⟨a, b, e, v, u⟩ := VRL.two ha
        cases e; rw [VR.int v, VR.int u]
        simp [Instr.sliceBounds, boundOk (P := P) (w := w) (show (0 : Int) ≤ _ by omega) hc.2.2]
        rw [boundOk hc.1 (by omega)]; simp
      · cases h
    · cases h
  · split at h
    · split at h
      · rename_i hc
        cases h
        obtain ⟨a, e, v⟩ := VRL.one ha
        cases e; rw [VR.int v]
        simp [Instr.sliceBounds, boundOk (P := P) (w := w) hc.1 hc.2]
      · cases h
    · cases h
  · cases h
  · split at h
    · split at h
      · rename_i hc
        cases h
        obtain ⟨a, b, e, v, u⟩ := VRL.two ha
        cases e; rw [VR.int v, VR.int u]
        simp [Instr.sliceBounds, boundOk (P := P) (w := w) (show (0 : Int) ≤ _ by omega) hc.2.2]
        rw [boundOk hc.1 (by omega)]; simp
      · cases h
    · cases h
  · split at h
    · split at h
      · rename_i hc
        cases h
        obtain ⟨a, b, c, e, v, u, t⟩ := VRL.three ha
        cases e; rw [VR.int v, VR.int u, VR.int t]
        simp [Instr.sliceBounds, boundOk (P := P) (w := w) (show (0 : Int) ≤ _ by omega) hc.2.2.2]
        rw [boundOk (by omega) (by omega)]; simp
        rw [boundOk hc.1 (by omega)]; simp
      · cases h
    · cases h

end Go.Proofs.Ytjdemlagmamlbaa
