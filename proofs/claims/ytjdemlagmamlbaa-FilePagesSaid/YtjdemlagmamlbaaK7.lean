/- Lists of parts; arguments that are lists. -/
import Derived.Test.YtjdemlagmamlbaaK6
namespace Go.Proofs.Ytjdemlagmamlbaa

section
variable {α : Type} {h : AHeap} {L R : List Chunk} {key : AV} {G : α → List Chunk} {l : List α} {a : α} {i : Nat}

/-- for each of a list its parts -/
abbrev SepC (key : AV) (G : α → List Chunk) (l : List α) : Chunk := pk 14 key (fun cs => cs = l.flatMap G)

theorem perm_out : ∀ {l : List α} {i : Nat} {a : α}, l[i]? = some a → l.Perm (a :: l.eraseIdx i)
  | [], i, a, h => by simp at h
  | b :: l, 0, a, h => by simp at h; subst h; exact List.Perm.refl _
  | b :: l, i + 1, a, h => by
    simp only [List.getElem?_cons_succ] at h
    exact ((perm_out h).cons b).trans (List.Perm.swap _ _ _)
theorem perm_set : ∀ {l : List α} {i : Nat} {a : α}, i < l.length → (l.set i a).Perm (a :: l.eraseIdx i)
  | [], i, a, h => by simp at h
  | b :: l, 0, a, _ => List.Perm.refl _
  | b :: l, i + 1, a, h => by
    simp only [List.length_cons] at h
    exact ((perm_set (show i < l.length by omega)).cons b).trans (List.Perm.swap _ _ _)

theorem St.sepOut (st : St h L) (t : Take L (SepC key G l) R) (hi : l[i]? = some a) : St h (G a ++ SepC key G (l.eraseIdx i) :: R) := by
  obtain ⟨cs, rfl, st'⟩ := (st.take t).unpack
  have p : (l.flatMap G).Perm (G a ++ (l.eraseIdx i).flatMap G) := (perm_out hi).flatMap_right G
  have st2 := st'.perm (p.append_right R)
  rw [List.append_assoc] at st2
  have st3 : St h ((l.eraseIdx i).flatMap G ++ (R ++ G a)) := st2.perm ((List.perm_append_comm).trans (by rw [List.append_assoc]))
  exact (St.pack (t := 14) (k := key) (P := fun cs => cs = (l.eraseIdx i).flatMap G) st3 rfl).perm ((List.perm_append_comm (l₁ := _ :: R) (l₂ := G a)))
theorem St.sepIn (st : St h (G a ++ SepC key G (l.eraseIdx i) :: R)) (hi : i < l.length) : St h (SepC key G (l.set i a) :: R) := by
  have s1 := st.perm (List.perm_append_comm (l₁ := G a) (l₂ := SepC key G (l.eraseIdx i) :: R))
  obtain ⟨cs, rfl, s2⟩ := St.unpack (L := R ++ G a) s1
  refine St.pack (cs := (l.set i a).flatMap G) (s2.perm ?_) rfl
  refine List.Perm.trans ?_ ((((perm_set (a := a) hi).flatMap_right G).append_right R).symm)
  simp only [List.flatMap_cons]
  rw [← List.append_assoc]
  refine List.perm_append_comm.trans ?_
  rw [List.append_assoc]
theorem set_same' : ∀ {l : List α} {i : Nat} {a : α}, l[i]? = some a → l.set i a = l
  | [], i, a, h => by simp at h
  | b :: l, 0, a, h => by simp at h; subst h; rfl
  | b :: l, i + 1, a, h => by
    simp only [List.getElem?_cons_succ] at h
    rw [List.set_cons_succ, set_same' h]
theorem St.sepBack (st : St h (G a ++ SepC key G (l.eraseIdx i) :: R)) (hi : l[i]? = some a) : St h (SepC key G l :: R) := by
  have := st.sepIn (List.getElem?_eq_some_iff.1 hi).1
  rwa [set_same' hi] at this
theorem St.sepNil (st : St h L) (key : AV) (G : α → List Chunk) : St h (SepC key G [] :: L) := St.pack (cs := []) st rfl
theorem St.sepSnoc (st : St h L) {R' : List Chunk} (t : Take L (SepC key G l) R) (p : Pick R (G a) R') : St h (SepC key G (l ++ [a]) :: R') := by
  have s1 := (st.take t).perm ((p.perm).cons _)
  obtain ⟨cs, rfl, s2⟩ := s1.unpack
  refine St.pack (cs := (l ++ [a]).flatMap G) (s2.perm ?_) rfl
  rw [List.flatMap_append, List.flatMap_cons, List.flatMap_nil, List.append_nil, List.append_assoc]

/-- parts that are not written -/
def RoL (cs : List Chunk) : Prop := ∀ m, semL cs m → ∀ i o, m i = some o → o.rw = false

theorem St.dupL {A : List Chunk} (st : St h (A ++ L)) (hA : RoL A) : St h (A ++ (A ++ L)) := by
  obtain ⟨m, h1, h2⟩ := st.has
  obtain ⟨x, y, g1, g2, g3, g4⟩ := semL_append.1 h2
  refine ⟨st.wf, m, h1, semL_append.2 ⟨x, m, fun i => ?_, fun i => ?_, g3, h2⟩⟩
  · cases hx : x i with
    | none => exact .inl rfl
    | some o => exact .inr (.inr ⟨by rw [g2, hx]; rfl, fun o' e => by cases e; exact hA x g3 i _ hx⟩)
  · rw [g2]; cases x i <;> simp

theorem RoL.nil : RoL [] := fun m hm i o e => by rw [hm i] at e; cases e
theorem RoL.cons {c : Chunk} {cs : List Chunk} (h1 : RoL [c]) (h2 : RoL cs) : RoL (c :: cs) := by
  rintro m ⟨x, y, g1, g2, g3, g4⟩ i o e
  rw [g2] at e
  cases hx : x i with
  | none => rw [hx] at e; exact h2 y g4 i o (by simpa using e)
  | some o' => rw [hx] at e; cases e; exact h1 x ⟨x, fun _ => none, fun _ => .inr (.inl rfl), fun i => by simp, g3, fun _ => rfl⟩ i _ hx
theorem RoL.pk {t : Nat} {k : AV} {P : List Chunk → Prop} (hp : ∀ cs, P cs → RoL cs) : RoL [pk t k P] := by
  intro m hm i o e
  obtain ⟨cs, h1, h2⟩ := semL_own.1 hm
  rw [List.append_nil] at h2
  exact hp cs h1 m h2 i o e
theorem RoL.row {id e es : Nat} {sf : Bool} {d : Dat} : RoL [.pt id (.row e es sf true d)] := by
  rintro m ⟨x, y, g1, g2, ⟨g3, g4⟩, g5⟩ i o e
  rw [g2, g5 i, Option.or_none] at e
  by_cases hi : i = id
  · subst hi; rw [g3] at e; cases e; rfl
  · rw [g4 i hi] at e; cases e
theorem RoL.sl {v : AV} {e es k : Nat} {d : Dat} {cs : List Chunk} (y : SlIs v e es k d false cs) : RoL cs := by
  rcases y with ⟨rfl, rfl, hl, rfl⟩ | ⟨rfl, rfl, hl, rfl, hw⟩ | ⟨id, off, cap, D, e', es', sf, rfl, rfl, h3, h4, h5⟩ | ⟨id, idx, D, rfl, rfl, h3, h4, h5⟩
  · exact .nil
  · exact .nil
  · exact .row
  · cases h4
theorem RoL.by {v : AV} {k n : Nat} : RoL [ByC v k n false] := .pk fun _ x => .sl x.1
theorem RoL.slc {v : AV} {e es k : Nat} {d : Dat} : RoL [SlC v e es k d false] := .pk fun _ x => .sl x
theorem RoL.append {A B : List Chunk} (h1 : RoL A) (h2 : RoL B) : RoL (A ++ B) := by
  intro m hm i o e
  obtain ⟨x, y, g1, g2, g3, g4⟩ := semL_append.1 hm
  rw [g2] at e
  cases hx : x i with
  | none => rw [hx] at e; exact h2 y g4 i o (by simpa using e)
  | some o' => rw [hx] at e; cases e; exact h1 x g3 i _ hx

/-- a list that is an argument: its elements' cells, and what is behind them -/
def ArIs (v : AV) (es : Nat) (cells : α → List AV) (G : α → List Chunk) (l : List α) (cs : List Chunk) : Prop :=
  cs = SlC v 0 es l.length (.vals (l.flatMap cells)) false :: l.flatMap G ∧ ∀ a, a ∈ l → (cells a).length = es ∧ RoL (G a)
abbrev ArC (v : AV) (es : Nat) (cells : α → List AV) (G : α → List Chunk) (l : List α) : Chunk := pk 15 v (ArIs v es cells G l)

variable {v : AV} {es : Nat} {cells : α → List AV}

theorem St.ar (st : St h L) (t : Take L (ArC v es cells G l) R) : sliceLen v = some l.length ∧ v.notJunk = some v := by
  obtain ⟨cs, ⟨rfl, _⟩, st'⟩ := (st.take t).unpack
  have := St.slc st' Take.here
  exact ⟨this.1, this.2.1⟩

theorem roL_flat (hr : ∀ a, a ∈ l → RoL (G a)) : RoL (l.flatMap G) := by
  induction l with
  | nil => exact .nil
  | cons a l ih => rw [List.flatMap_cons]; exact .append (hr a List.mem_cons_self) (ih fun b hb => hr b (List.mem_cons_of_mem _ hb))

/-- what is behind one of them -/
theorem St.arAt (st : St h L) (t : Take L (ArC v es cells G l) R) (hi : l[i]? = some a) : St h (G a ++ L) := by
  obtain ⟨cs, ⟨rfl, hr⟩, st'⟩ := (st.take t).unpack
  have hro : RoL (SlC v 0 es l.length (.vals (l.flatMap cells)) false :: l.flatMap G) := .cons .slc (roL_flat fun b hb => (hr b hb).2)
  have s1 := st'.dupL hro
  have s2 : St h (ArC v es cells G l :: ((SlC v 0 es l.length (.vals (l.flatMap cells)) false :: l.flatMap G) ++ R)) := St.pack s1 ⟨rfl, hr⟩
  have p : (l.flatMap G).Perm (G a ++ (l.eraseIdx i).flatMap G) := (perm_out hi).flatMap_right G
  have s3 : St h (G a ++ ((l.eraseIdx i).flatMap G ++ SlC v 0 es l.length (.vals (l.flatMap cells)) false :: (ArC v es cells G l :: R))) := by
    refine s2.perm ?_
    refine List.Perm.trans (List.perm_middle (l₁ := SlC v 0 es l.length (.vals (l.flatMap cells)) false :: l.flatMap G) (a := ArC v es cells G l)).symm ?_
    rw [List.cons_append]
    refine List.Perm.trans ((p.append_right (ArC v es cells G l :: R)).cons _) ?_
    rw [List.append_assoc]
    exact (List.perm_middle (l₁ := G a ++ (l.eraseIdx i).flatMap G) (a := SlC v 0 es l.length (.vals (l.flatMap cells)) false)).symm.trans (by rw [List.append_assoc]) |> fun q => (by rw [List.append_assoc] at q; exact q)
  have s4 : St h (G a ++ (ArC v es cells G l :: R)) := by
    have q : Sel (G a ++ ((l.eraseIdx i).flatMap G ++ SlC v 0 es l.length (.vals (l.flatMap cells)) false :: (ArC v es cells G l :: R))) (G a ++ (ArC v es cells G l :: R)) := by
      generalize ArC v es cells G l :: R = X
      generalize SlC v 0 es l.length (.vals (l.flatMap cells)) false = c
      generalize (l.eraseIdx i).flatMap G = B
      generalize G a = A
      induction A with
      | nil =>
        induction B with
        | nil => exact .skip .nil
        | cons b B ih => exact .skip ih
      | cons b A ih => exact .cons .here ih
    exact s3.sel q
  exact s4.perm (List.Perm.append_left _ t.perm.symm)

theorem flat_at {es : Nat} : ∀ {l : List α} {i : Nat} {a : α}, (∀ a, a ∈ l → (cells a).length = es) → l[i]? = some a → ((l.flatMap cells).drop (i * es)).take es = cells a ∧ i * es + es ≤ (l.flatMap cells).length
  | [], i, a, _, h => by simp at h
  | b :: l, 0, a, hl, h => by
    simp at h; subst h
    have := hl b List.mem_cons_self
    simp only [List.flatMap_cons, Nat.zero_mul, List.drop_zero, List.length_append]
    exact ⟨by rw [List.take_append_of_le_length (by omega), List.take_of_length_le (by omega)], by omega⟩
  | b :: l, i + 1, a, hl, h => by
    have hb := hl b List.mem_cons_self
    simp only [List.getElem?_cons_succ] at h
    obtain ⟨h1, h2⟩ := flat_at (fun a ha => hl a (List.mem_cons_of_mem _ ha)) h
    simp only [List.flatMap_cons, List.length_append]
    refine ⟨?_, by rw [Nat.add_mul]; omega⟩
    rw [show (i + 1) * es = (cells b).length + i * es by rw [Nat.add_mul]; omega, ← List.drop_drop, List.drop_left' rfl]
    exact h1

theorem d_indexar {kk : IntKind} {i : Int} (st : St h L) (t : Take L (ArC v es cells G l) R) (h0 : 0 ≤ i) (h1 : i < l.length) : Does (.indexs es) [v, .int kk i] h (elemPtr es v i.toNat) h := by
  obtain ⟨cs, ⟨rfl, _⟩, st'⟩ := (st.take t).unpack
  exact d_indexs st' Take.here h0 h1

/-- the element's address, by a number -/
theorem d_arIdx {kk : IntKind} {i : Nat} (st : St h L) (t : Take L (ArC v es cells G l) R) (h1 : i < l.length) : Does (.indexs es) [v, .int kk i] h (elemPtr es v i) h ∧ (elemPtr es v i).notJunk = some (elemPtr es v i) :=
  ⟨d_indexar (i := (i : Int)) st t (by omega) (by omega), elemPtr_nj (st.ar t).1 h1⟩

theorem d_loadar (st : St h L) (t : Take L (ArC v es cells G l) R) (hi : l[i]? = some a) : Does (.loadn es) [elemPtr es v i] h (.agg (cells a)) h := by
  obtain ⟨cs, ⟨rfl, hr⟩, st'⟩ := (st.take t).unpack
  obtain ⟨h1, h2⟩ := flat_at (fun b hb => (hr b hb).1) hi
  refine d_loadEn st' Take.here rfl (List.getElem?_eq_some_iff.1 hi).1 ?_
  simp only [Dat.sub]
  rw [if_pos h2, h1]

/-- an argument that is a list -/
theorem St.argL {s : Sh} (st : St h L) (ha : AD h (.slice s) [v]) (each : ∀ x, AD h s x → ∃ a : α, x = cells a ∧ RoL (G a) ∧ ∀ L, St h L → St h (G a ++ L)) :
    ∃ l : List α, l.length ≤ maxLen ∧ St h (ArC v s.size cells G l :: L) := by
  simp only [AD, List.cons.injEq, and_true] at ha
  rcases ha with rfl | rfl | ⟨id, len, cap, e, elems, rfl, h0, h1, h2, hg, hl, hx⟩
  · exact ⟨[], Nat.zero_le _, St.pack (cs := [_]) (St.pack (t := 10) (k := .nilsl) (P := SlIs .nilsl 0 s.size 0 (.vals []) false) (cs := []) st (.inl ⟨rfl, rfl, rfl, rfl⟩)) ⟨rfl, by simp⟩⟩
  · exact ⟨[], Nat.zero_le _, St.pack (cs := [_]) (St.pack (t := 10) (k := .esl) (P := SlIs .esl 0 s.size 0 (.vals []) false) (cs := []) st (.inr (.inl ⟨rfl, rfl, rfl, rfl, rfl⟩))) ⟨rfl, by simp⟩⟩
  · have key : ∀ elems : List (List AV), (∀ x, x ∈ elems → AD h s x) → ∃ l : List α, elems = l.map cells ∧ (∀ a, a ∈ l → (cells a).length = s.size ∧ RoL (G a)) ∧ ∀ L, St h L → St h (l.flatMap G ++ L) := by
      intro elems
      induction elems with
      | nil => exact fun _ => ⟨[], rfl, by simp, fun L st => st⟩
      | cons x xs ih =>
        intro hx
        obtain ⟨a, e1, hr, k⟩ := each x (hx x List.mem_cons_self)
        obtain ⟨l, e2, h3, k2⟩ := ih fun y hy => hx y (List.mem_cons_of_mem _ hy)
        refine ⟨a :: l, by rw [e1, e2]; rfl, fun b hb => ?_, fun L st => ?_⟩
        · rcases List.mem_cons.1 hb with rfl | hb
          · exact ⟨by rw [← e1]; exact AD.length s x (hx x List.mem_cons_self), hr⟩
          · exact h3 b hb
        · rw [List.flatMap_cons, List.append_assoc]; exact k _ (k2 L st)
    obtain ⟨l, rfl, hr, k⟩ := key elems hx
    rw [List.length_map] at hl
    subst hl
    refine ⟨l, by omega, St.pack (cs := SlC (.sl id 0 l.length cap) 0 s.size l.length (.vals (l.flatMap cells)) false :: l.flatMap G) ?_ ⟨rfl, hr⟩⟩
    rw [List.cons_append]
    have hlen : (l.flatMap cells).length = l.length * s.size := by
      clear h0 h1 h2 hg k hx key
      induction l with
      | nil => simp
      | cons a l ih =>
        rw [List.flatMap_cons, List.length_append, (hr a List.mem_cons_self).1, ih fun b hb => hr b (List.mem_cons_of_mem _ hb), List.length_cons, Nat.add_mul]; omega
    refine St.pack (cs := [.pt id (.row e s.size false true (.vals (l.flatMap cells)))]) ((k L st).addRo (by rw [List.flatMap_def]; exact hg) rfl) (.inr (.inr (.inl ⟨id, 0, cap, _, e, s.size, false, rfl, rfl, ?_, h1, fun e => (by cases e)⟩)))
    simp only [Dat.take, Nat.zero_add]
    rw [if_pos (by omega), List.drop_zero, List.take_of_length_le (by omega)]

end
end Go.Proofs.Ytjdemlagmamlbaa
