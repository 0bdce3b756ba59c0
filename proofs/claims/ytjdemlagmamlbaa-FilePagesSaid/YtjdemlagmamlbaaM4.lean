/- Cells of the model's world against rows of the abstract heap. -/
import Derived.Test.YtjdemlagmamlbaaM1b
import Derived.Test.YtjdemlagmamlbaaM3
namespace Go.Proofs.Ytjdemlagmamlbaa

/-- a list of the model's cells is a row's -/
def DatC (μ : Mu) (d : Dat) (l : List Value) : Prop :=
  l.length = d.len ∧ ∀ (i : Nat) (x : AV), d.get i = some x → ∃ c, l[i]? = some c ∧ VR μ x c ∧ c.oneCell' = true

theorem DatC.ext {μ μ' : Mu} (h : Ext μ μ') {d : Dat} {l : List Value} (e : DatC μ d l) : DatC μ' d l :=
  ⟨e.1, fun i x hx => by obtain ⟨c, a, b, o⟩ := e.2 i x hx; exact ⟨c, a, VR.ext h _ _ b, o⟩⟩

theorem DatC.cells {μ : Mu} {d : Dat} {l : List Value} (e : DatC μ d l) : ∀ x, x ∈ l → x.oneCell' = true := by
  intro x hx
  obtain ⟨i, hi, rfl⟩ := List.getElem_of_mem hx
  obtain ⟨v, hv⟩ := Dat.get_of_lt (d := d) (i := i) (by rw [← e.1]; exact hi)
  obtain ⟨c, a, _, o⟩ := e.2 i v hv
  rw [List.getElem?_eq_getElem hi] at a
  cases a; exact o

def AV.isVal : AV → Bool
  | .tuple _ => false
  | .junk => false
  | _ => true

theorem DatC.bytes (μ : Mu) (len n : Nat) : DatC μ (.bytes len n) ((List.range len).map fun i => Value.int .u8 (byteAt n i)) := by
  refine ⟨by simp [Dat.len], fun i x hx => ?_⟩
  have hi := Dat.get_lt hx
  simp only [Dat.len] at hi
  simp only [Dat.get] at hx
  rw [if_pos hi] at hx
  cases hx
  exact ⟨.int .u8 (byteAt n i), by simp [hi], by simp [VR], rfl⟩

theorem VR.dat {μ : Mu} {v : AV} {cv : Value} (h : VR μ v cv) (hv : v.isVal = true) : DatC μ v.dat cv.cells.toList := by
  have one : ∀ (x : AV) (c : Value), VR μ x c → c.oneCell' = true → DatC μ (.vals [x]) [c] := by
    intro x c hx hc
    refine ⟨rfl, fun i y hy => ?_⟩
    cases i with
    | zero => simp [Dat.get] at hy; subst hy; exact ⟨c, by simp, hx, hc⟩
    | succ i => simp [Dat.get] at hy
  cases v with
  | agg cs =>
    simp only [VR] at h; obtain ⟨a, p, q, rfl⟩ := h
    refine ⟨by simpa [AV.dat, Dat.len, Value.cells] using VRL.length p, fun i x hx => ?_⟩
    simp only [AV.dat, Dat.get] at hx
    obtain ⟨y, hy, r⟩ := VRL.get p i x hx
    exact ⟨y, by simpa [Value.cells] using hy, r, q y (List.mem_of_getElem? hy)⟩
  | bytes len n =>
    simp only [VR] at h; subst h
    exact DatC.bytes μ len n
  | tuple vs => simp [AV.isVal] at hv
  | junk => simp [AV.isVal] at hv
  | bool b => have h' := h; simp only [VR] at h'; subst h'; exact one _ _ h rfl
  | int k n => have h' := h; simp only [VR] at h'; subst h'; exact one _ _ h rfl
  | str s => have h' := h; simp only [VR] at h'; subst h'; exact one _ _ h rfl
  | ptr id off => have h' := h; simp only [VR] at h'; obtain ⟨l, _, rfl⟩ := h'; exact one _ _ h rfl
  | nilptr => have h' := h; simp only [VR] at h'; subst h'; exact one _ _ h rfl
  | sl id off len cap => have h' := h; simp only [VR] at h'; obtain ⟨l, _, rfl⟩ := h'; exact one _ _ h rfl
  | ssl id idx es len => have h' := h; simp only [VR] at h'; obtain ⟨l, _, _, rfl⟩ := h'; exact one _ _ h rfl
  | nilsl => have h' := h; simp only [VR] at h'; subst h'; exact one _ _ h rfl
  | esl => have h' := h; simp only [VR] at h'; obtain ⟨a, c, rfl⟩ := h'; exact one _ _ h rfl
  | map id => have h' := h; simp only [VR] at h'; obtain ⟨l, _, rfl⟩ := h'; exact one _ _ h rfl
  | nilmap => have h' := h; simp only [VR] at h'; subst h'; exact one _ _ h rfl
  | func f a b => have h' := h; simp only [VR] at h'; obtain ⟨_, _, _, _, rfl⟩ := h'; exact one _ _ h rfl
  | yield l => have h' := h; simp only [VR] at h'; obtain ⟨m, _, rfl⟩ := h'; exact one _ _ h rfl
  | nilfunc => have h' := h; simp only [VR] at h'; subst h'; exact one _ _ h rfl

theorem DatC.agg {μ : Mu} {d : Dat} {l : List Value} (e : DatC μ d l) : VR μ d.agg (.agg l.toArray) := by
  cases d with
  | vals cs =>
    simp only [Dat.agg, VR]
    refine ⟨l, VRL.of_get e.1 fun i x hx => ?_, e.cells, rfl⟩
    obtain ⟨c, a, b, _⟩ := e.2 i x hx
    exact ⟨c, a, b⟩
  | bytes len n =>
    simp only [Dat.agg, VR]
    congr 2
    apply List.ext_getElem?
    intro i
    by_cases hi : i < len
    · obtain ⟨c, a, b, _⟩ := e.2 i (.int .u8 (byteAt n i)) (by simp only [Dat.get]; exact if_pos hi)
      simp only [VR] at b; subst b
      simp [a, hi]
    · have : l.length = len := e.1
      rw [List.getElem?_eq_none (by omega), List.getElem?_eq_none (by simp; omega)]

theorem DatC.take {μ : Mu} {d e : Dat} {l : List Value} (h : DatC μ d l) {off len : Nat} (ht : d.take off len = some e) : DatC μ e ((l.drop off).take len) := by
  obtain ⟨h1, h2, h3⟩ := Dat.take_spec ht
  refine ⟨by simp only [List.length_take, List.length_drop]; have := h.1; omega, fun i x hx => ?_⟩
  have hi : i < len := h1 ▸ Dat.get_lt hx
  rw [h3 i hi] at hx
  obtain ⟨c, a, b⟩ := h.2 _ _ hx
  exact ⟨c, by simp only [List.getElem?_take, hi, if_true, List.getElem?_drop]; exact a, b⟩

theorem Dat.sub_take {d : Dat} {off len : Nat} {v : AV} (h : d.sub off len = some v) : ∃ e, d.take off len = some e ∧ v = e.agg := by
  unfold Dat.sub at h
  unfold Dat.take
  split at h
  · split at h
    · cases h; exact ⟨_, by rw [if_pos ‹_›], rfl⟩
    · cases h
  · split at h
    · cases h; exact ⟨_, by rw [if_pos ‹_›], rfl⟩
    · cases h

theorem DatC.app {μ : Mu} {d e f : Dat} {l m : List Value} (h : DatC μ d l) (k : DatC μ e m) (ha : d.app e = some f) : DatC μ f (l ++ m) := by
  refine ⟨by rw [Dat.app_len ha, List.length_append, h.1, k.1], fun i x hx => ?_⟩
  by_cases hi : i < d.len
  · rw [Dat.app_left ha i hi] at hx
    obtain ⟨c, a, b⟩ := h.2 _ _ hx
    exact ⟨c, by rw [List.getElem?_append_left (by rw [h.1]; exact hi)]; exact a, b⟩
  · rw [Dat.app_right ha i (by omega)] at hx
    obtain ⟨c, a, b⟩ := k.2 _ _ hx
    exact ⟨c, by rw [List.getElem?_append_right (by rw [h.1]; omega), h.1]; exact a, b⟩

/-- the cells of a row, as a list -/
theorem row_cells {μ : Mu} {w : World} {l : Loc} {elem es : Nat} {soft ro : Bool} {d : Dat} (h : RowR μ w l elem es soft ro d) :
    ∃ c fr, w.heap[l.block]? = some (.cells c elem fr) ∧ DatC μ d ((c.toList.drop l.off).take d.len) ∧ l.off + d.len ≤ c.size ∨ d.len = 0 := by
  obtain ⟨c, fr, p, q, r⟩ := h
  rcases Nat.eq_zero_or_pos d.len with h0 | h0
  · exact ⟨c, fr, .inr h0⟩
  · refine ⟨c, fr, .inl ⟨p, ?_, ?_⟩⟩
    · have hlen : l.off + d.len ≤ c.size := by
        obtain ⟨v, hv⟩ := Dat.get_of_lt (d := d) (i := d.len - 1) (by omega)
        obtain ⟨cv, a, _⟩ := q _ _ hv
        have := (Array.getElem?_eq_some_iff.1 a).1
        omega
      refine ⟨by simp; omega, fun i x hx => ?_⟩
      have hi := Dat.get_lt hx
      obtain ⟨cv, a, b⟩ := q _ _ hx
      exact ⟨cv, by simp only [List.getElem?_take, hi, if_true, List.getElem?_drop]; simpa using a, b⟩
    · obtain ⟨v, hv⟩ := Dat.get_of_lt (d := d) (i := d.len - 1) (by omega)
      obtain ⟨cv, a, _⟩ := q _ _ hv
      have := (Array.getElem?_eq_some_iff.1 a).1
      omega

theorem cell_at {w : World} {b off : Nat} {c : Array Value} {e : TypeId} {fr : Nat × Nat} (h : w.heap[b]? = some (.cells c e fr)) : w.cell? ⟨b, off, none⟩ = c[off]? := by
  simp [World.cell?, h]

theorem frozen_at {w : World} {b off : Nat} {c : Array Value} {e : TypeId} (h : w.heap[b]? = some (.cells c e (0, 0))) : w.frozen? ⟨b, off, none⟩ = false := by
  simp [World.frozen?, h]

theorem add_at (b off n : Nat) : (⟨b, off, none⟩ : Addr).add n = ⟨b, off + n, none⟩ := by
  unfold Addr.add
  split
  · rename_i h; simp [h]
  · rfl

theorem heap_setCell {w : World} {b off : Nat} {c : Array Value} {e : TypeId} {fr : Nat × Nat} (v : Value) (h : w.heap[b]? = some (.cells c e fr)) :
    (w.setCell ⟨b, off, none⟩ v).heap[b]? = some (.cells (c.setIfInBounds off v) e fr) ∧ (∀ b', b' ≠ b → (w.setCell ⟨b, off, none⟩ v).heap[b']? = w.heap[b']?) := by
  constructor
  · simp [World.setCell, Array.getElem?_modify, h]
  · intro b' hb
    simp only [World.setCell, Array.getElem?_modify]
    rw [if_neg (fun e => hb e.symm)]

/-- only one block has changed -/
structure Only (b : Nat) (w w' : World) : Prop where
  os : w'.os = w.os
  tape : w'.tape = w.tape
  output : w'.output = w.output
  size : w'.heap.size = w.heap.size
  rest : ∀ b', b' ≠ b → w'.heap[b']? = w.heap[b']?

theorem Only.refl (b : Nat) (w : World) : Only b w w := ⟨rfl, rfl, rfl, rfl, fun _ _ => rfl⟩
theorem Only.trans {b : Nat} {x y z : World} (h : Only b x y) (k : Only b y z) : Only b x z :=
  ⟨k.os.trans h.os, k.tape.trans h.tape, k.output.trans h.output, k.size.trans h.size, fun b' hb => (k.rest b' hb).trans (h.rest b' hb)⟩
theorem Only.setCell {b off : Nat} (w : World) (v : Value) : Only b w (w.setCell ⟨b, off, none⟩ v) :=
  ⟨rfl, rfl, rfl, by simp [World.setCell], fun b' hb => by
    simp only [World.setCell, Array.getElem?_modify]
    rw [if_neg (fun e => hb e.symm)]⟩

theorem run_storeCells (P : Program) (b off : Nat) (e : TypeId) : ∀ (vs : List Value) (i : Nat) (w : World) (c : Array Value), w.heap[b]? = some (.cells c e (0, 0)) →
    (∀ v, v ∈ vs → v.oneCell' = true) → off + i + vs.length ≤ c.size →
    ∃ (w' : World) (c' : Array Value), (storeCells ⟨b, off, none⟩ vs i).run P w = .ok () w' ∧ w'.heap[b]? = some (.cells c' e (0, 0)) ∧ c'.size = c.size ∧
      (∀ k, c'[k]? = if off + i ≤ k ∧ k < off + i + vs.length then vs[k - (off + i)]? else c[k]?) ∧ Only b w w'
  | [], i, w, c, hb, _, _ => ⟨w, c, by simp [storeCells], hb, rfl, fun k => by rw [if_neg (by simp)], Only.refl b w⟩
  | v :: vs, i, w, c, hb, hv, hle => by
    simp only [List.length_cons] at hle
    have hc : w.cell? ⟨b, off + i, none⟩ = some (c[off + i]'(by omega)) := by rw [cell_at hb]; exact Array.getElem?_eq_getElem (by omega)
    have hf := frozen_at (off := off + i) hb
    have hone := hv v (by simp)
    obtain ⟨h1, h2⟩ := heap_setCell (off := off + i) v hb
    obtain ⟨w', c', r1, r2, r3, r4, r5⟩ := run_storeCells P b off e vs (i + 1) (w.setCell ⟨b, off + i, none⟩ v) (c.setIfInBounds (off + i) v) h1 (fun x hx => hv x (by simp [hx])) (by simp; omega)
    refine ⟨w', c', ?_, r2, by simpa using r3, fun k => ?_, (Only.setCell w v).trans r5⟩
    · simp only [storeCells, Sem.run_bind, add_at, run_store P w _ v .plain hone, hc, hf]
      exact r1
    · rw [r4 k]
      simp only [List.length_cons]
      by_cases h1 : off + (i + 1) ≤ k ∧ k < off + (i + 1) + vs.length
      · rw [if_pos h1, if_pos (by omega)]
        have : k - (off + i) = (k - (off + (i + 1))) + 1 := by omega
        rw [this]; simp
      · rw [if_neg h1, Array.getElem?_setIfInBounds]
        by_cases h2 : off + i = k
        · rw [if_pos h2, if_pos (by omega), if_pos (by omega)]
          have : k - (off + i) = 0 := by omega
          rw [this]; simp
        · rw [if_neg h2, if_neg (by omega)]

/-- cells are read -/
theorem run_loadRow (P : Program) {w : World} {b off n : Nat} {e : TypeId} {c : Array Value} {fr : Nat × Nat} (h : w.heap[b]? = some (.cells c e fr)) (hle : off + n ≤ c.size) :
    (loadCells ⟨b, off, none⟩ n).run P w = .ok ((c.toList.drop off).take n).toArray w := by
  have hl : ((c.toList.drop off).take n).length = n := by simp; omega
  have := run_loadCells_list (P := P) w ⟨b, off, none⟩ ((c.toList.drop off).take n) (fun j v hj => by
    rw [add_at, cell_at h]
    have hlt : j < n := by
      have := (List.getElem?_eq_some_iff.1 hj).1
      omega
    simp only [List.getElem?_take, hlt, if_true, List.getElem?_drop] at hj
    simpa using hj)
  rw [hl] at this
  exact this

end Go.Proofs.Ytjdemlagmamlbaa
