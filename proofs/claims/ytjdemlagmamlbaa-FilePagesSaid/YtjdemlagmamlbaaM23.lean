/- Assertions on the abstract heap, in parts that lie apart. -/
import Derived.Test.YtjdemlagmamlbaaM22
namespace Go.Proofs.Ytjdemlagmamlbaa

/-- all objects have numbers below the next one -/
def AHeap.wf (h : AHeap) : Prop := ∀ id o, h.get id = some o → id < h.next

theorem AHeap.get_put (h : AHeap) (i j : Nat) (o : AObj) : (h.put i o).get j = if i = j then some o else h.get j := by
  split
  · rename_i e; subst e; exact AHeap.get_put_same h i o
  · rename_i e; exact AHeap.get_put_ne h o e
theorem AHeap.get_new (h : AHeap) (j : Nat) (o : AObj) : (h.new o).get j = if h.next = j then some o else h.get j := by
  split
  · rename_i e; subst e; exact AHeap.get_new_same h o
  · rename_i e; exact AHeap.get_new_ne h o e
theorem AHeap.get_kill (h : AHeap) (i j : Nat) : (h.kill i).get j = if i = j then none else h.get j := by
  split
  · rename_i e; subst e; exact AHeap.get_kill_same h i
  · rename_i e; exact AHeap.get_kill_ne h e

abbrev Hp := Nat → Option AObj

/-- a part of the heap: an object; or what a predicate says, with a number and a value to know it by -/
inductive Chunk where
  | pt (id : Nat) (o : AObj)
  | ap (tag : Nat) (key : AV) (P : Hp → Prop)

def Chunk.sem : Chunk → Hp → Prop
  | .pt id o, m => m id = some o ∧ ∀ j, j ≠ id → m j = none
  | .ap _ _ P, m => P m

/-- two parts that go together: apart, but for what is not written -/
def Cmp (a b : Hp) : Prop := ∀ i, a i = none ∨ b i = none ∨ (a i = b i ∧ ∀ o, a i = some o → o.rw = false)
abbrev cup (a b : Hp) : Hp := fun i => (a i).or (b i)

def semL : List Chunk → Hp → Prop
  | [], m => ∀ i, m i = none
  | c :: cs, m => ∃ a b : Hp, Cmp a b ∧ (∀ i, m i = (a i).or (b i)) ∧ c.sem a ∧ semL cs b

/-- the heap has these parts, apart from each other -/
structure St (h : AHeap) (L : List Chunk) : Prop where
  wf : h.wf
  has : ∃ m : Hp, (∀ i o, m i = some o → h.get i = some o) ∧ semL L m

theorem or_none {α : Type} {a b : Option α} : a.or b = none ↔ a = none ∧ b = none := by cases a <;> simp

/-- at one place -/
abbrev C1 (a b : Option AObj) : Prop := a = none ∨ b = none ∨ (a = b ∧ ∀ o, a = some o → o.rw = false)
theorem C1.symm {a b : Option AObj} (h : C1 a b) : C1 b a := by
  rcases h with h | h | ⟨h1, h2⟩
  · exact .inr (.inl h)
  · exact .inl h
  · exact .inr (.inr ⟨h1.symm, h1 ▸ h2⟩)
theorem C1.comm {a b : Option AObj} (h : C1 a b) : a.or b = b.or a := by
  rcases h with rfl | rfl | ⟨rfl, _⟩ <;> simp
/-- three parts, however they are gathered -/
theorem C1.three {a b c : Option AObj} (h1 : C1 b c) (h2 : C1 a (b.or c)) : C1 a b ∧ C1 a c ∧ C1 b (a.or c) ∧ C1 (a.or b) c ∧ b.or (a.or c) = a.or (b.or c) := by
  cases a with
  | none => exact ⟨.inl rfl, .inl rfl, by simpa using h1, by simpa using h1, by simp⟩
  | some x =>
    cases b with
    | none => exact ⟨.inr (.inl rfl), by simpa using h2, .inl rfl, by simpa using h2, by simp⟩
    | some y =>
      rcases h2 with h2 | h2 | ⟨h2, h3⟩
      · cases h2
      · simp at h2
      · simp only [Option.some_or, Option.some.injEq] at h2
        subst h2
        refine ⟨.inr (.inr ⟨rfl, h3⟩), h1, .inr (.inr ⟨by simp, h3⟩), by simpa using h1, by simp⟩
theorem C1.three' {a b c : Option AObj} (h1 : C1 a b) (h2 : C1 (a.or b) c) : C1 b c ∧ C1 a (b.or c) := by
  cases a with
  | none => exact ⟨by simpa using h2, .inl rfl⟩
  | some x =>
    cases b with
    | none => exact ⟨.inl rfl, by simpa using h2⟩
    | some y =>
      rcases h1 with h1 | h1 | ⟨h1, h3⟩
      · cases h1
      · cases h1
      · simp only [Option.some.injEq] at h1
        subst h1
        refine ⟨by simpa using h2, .inr (.inr ⟨by simp, h3⟩)⟩

theorem semL_swap {c d : Chunk} {L : List Chunk} {m : Hp} (h : semL (c :: d :: L) m) : semL (d :: c :: L) m := by
  obtain ⟨a, b, h1, h2, h3, a', b', h4, h5, h6, h7⟩ := h
  have k (i : Nat) := C1.three (h4 i) (h5 i ▸ h1 i)
  exact ⟨a', cup a b', fun i => (k i).2.2.1, fun i => by rw [h2, h5]; exact (k i).2.2.2.2.symm, h6, a, b', fun i => (k i).2.1, fun _ => rfl, h3, h7⟩

theorem semL_perm {L L' : List Chunk} (p : L.Perm L') : ∀ {m : Hp}, semL L m → semL L' m := by
  induction p with
  | nil => exact fun h => h
  | cons c _ ih => exact fun ⟨a, b, h1, h2, h3, h4⟩ => ⟨a, b, h1, h2, h3, ih h4⟩
  | swap c d l => exact fun h => semL_swap h
  | trans _ _ ih1 ih2 => exact fun h => ih2 (ih1 h)

theorem semL_append {A B : List Chunk} : ∀ {m : Hp}, semL (A ++ B) m ↔ ∃ a b : Hp, Cmp a b ∧ (∀ i, m i = (a i).or (b i)) ∧ semL A a ∧ semL B b := by
  induction A with
  | nil =>
    intro m
    constructor
    · intro h; exact ⟨fun _ => none, m, fun _ => .inl rfl, fun _ => by simp, fun _ => rfl, h⟩
    · rintro ⟨a, b, _, h2, h3, h4⟩
      have : m = b := funext fun i => by rw [h2, h3 i]; simp
      rw [this]; exact h4
  | cons c A ih =>
    intro m
    constructor
    · rintro ⟨a, b, h1, h2, h3, h4⟩
      obtain ⟨a', b', g1, g2, g3, g4⟩ := ih.1 h4
      have k (i : Nat) := C1.three (g1 i) (g2 i ▸ h1 i)
      exact ⟨cup a a', b', fun i => (k i).2.2.2.1, fun i => by rw [h2, g2]; exact (Option.or_assoc ..).symm, ⟨a, a', fun i => (k i).1, fun _ => rfl, h3, g3⟩, g4⟩
    · rintro ⟨a, b, h1, h2, ⟨a1, a2, g1, g2, g3, g4⟩, h4⟩
      have k (i : Nat) := C1.three' (g1 i) (g2 i ▸ h1 i)
      exact ⟨a1, cup a2 b, fun i => (k i).2, fun i => by rw [h2, g2]; exact Option.or_assoc .., g3, ih.2 ⟨a2, b, fun i => (k i).1, fun _ => rfl, g4, h4⟩⟩

/-- what some parts, told by a property of theirs, say together -/
def own (P : List Chunk → Prop) : Hp → Prop := fun m => ∃ cs, P cs ∧ semL cs m

/-- a part that is others together -/
abbrev pk (tag : Nat) (key : AV) (P : List Chunk → Prop) : Chunk := .ap tag key (own P)

theorem semL_own {t : Nat} {k : AV} {P : List Chunk → Prop} {L : List Chunk} {m : Hp} : semL (pk t k P :: L) m ↔ ∃ cs, P cs ∧ semL (cs ++ L) m := by
  constructor
  · rintro ⟨a, b, h1, h2, ⟨cs, h3, h4⟩, h5⟩
    exact ⟨cs, h3, semL_append.2 ⟨a, b, h1, h2, h4, h5⟩⟩
  · rintro ⟨cs, h3, h⟩
    obtain ⟨a, b, h1, h2, h4, h5⟩ := semL_append.1 h
    exact ⟨a, b, h1, h2, ⟨cs, h3, h4⟩, h5⟩

/-- one of a list -/
inductive Take : List Chunk → Chunk → List Chunk → Prop where
  | here {c : Chunk} {l : List Chunk} : Take (c :: l) c l
  | there {c d : Chunk} {l l' : List Chunk} : Take l c l' → Take (d :: l) c (d :: l')

theorem Take.perm {L R : List Chunk} {c : Chunk} (t : Take L c R) : L.Perm (c :: R) := by
  induction t with
  | here => exact List.Perm.refl _
  | there _ ih => exact (List.Perm.cons _ ih).trans (List.Perm.swap _ _ _)

/-- some of a list, one after another -/
inductive Pick : List Chunk → List Chunk → List Chunk → Prop where
  | nil {L : List Chunk} : Pick L [] L
  | cons {L L' R : List Chunk} {c : Chunk} {cs : List Chunk} : Take L c L' → Pick L' cs R → Pick L (c :: cs) R

theorem Pick.perm {L Ps R : List Chunk} (p : Pick L Ps R) : L.Perm (Ps ++ R) := by
  induction p with
  | nil => exact List.Perm.refl _
  | cons t _ ih => exact t.perm.trans (List.Perm.cons _ ih)

section
variable {h : AHeap} {L R : List Chunk}

theorem St.perm {L' : List Chunk} (st : St h L) (p : L.Perm L') : St h L' := ⟨st.wf, st.has.elim fun m x => ⟨m, x.1, semL_perm p x.2⟩⟩
theorem St.take {c : Chunk} (st : St h L) (t : Take L c R) : St h (c :: R) := st.perm t.perm
theorem St.pick {Ps : List Chunk} (st : St h L) (t : Pick L Ps R) : St h (Ps ++ R) := st.perm t.perm

theorem St.drop {c : Chunk} (st : St h (c :: L)) : St h L := by
  obtain ⟨m, h1, a, b, h2, h3, _, h5⟩ := st.has
  refine ⟨st.wf, b, fun i o e => h1 i o ?_, h5⟩
  rw [h3, C1.comm (h2 i), e]; rfl

theorem St.dropL {A : List Chunk} (st : St h (A ++ L)) : St h L := by
  induction A with
  | nil => exact st
  | cons c A ih => exact ih st.drop

theorem St.unpack {t : Nat} {k : AV} {P : List Chunk → Prop} (st : St h (pk t k P :: L)) : ∃ cs, P cs ∧ St h (cs ++ L) := by
  obtain ⟨m, h1, h2⟩ := st.has
  obtain ⟨cs, h3, h4⟩ := semL_own.1 h2
  exact ⟨cs, h3, st.wf, m, h1, h4⟩

theorem St.pack {t : Nat} {k : AV} {P : List Chunk → Prop} {cs : List Chunk} (st : St h (cs ++ L)) (hp : P cs) : St h (pk t k P :: L) := by
  obtain ⟨m, h1, h2⟩ := st.has
  exact ⟨st.wf, m, h1, semL_own.2 ⟨cs, hp, h2⟩⟩

theorem St.mono {t t' : Nat} {k k' : AV} {P P' : List Chunk → Prop} (st : St h (pk t k P :: L)) (hp : ∀ cs, P cs → P' cs) : St h (pk t' k' P' :: L) := by
  obtain ⟨cs, h1, h2⟩ := st.unpack
  exact h2.pack (hp cs h1)

theorem St.get {id : Nat} {o : AObj} (st : St h (.pt id o :: L)) : h.get id = some o := by
  obtain ⟨m, h1, a, b, h2, h3, ⟨h4, _⟩, _⟩ := st.has
  refine h1 id o ?_
  rw [h3, h4]; simp

theorem St.lt {id : Nat} {o : AObj} (st : St h (.pt id o :: L)) : id < h.next := st.wf _ _ st.get

theorem St.get' {id : Nat} {o : AObj} (st : St h L) (t : Take L (.pt id o) R) : h.get id = some o := (st.take t).get

theorem St.ne {i j : Nat} {o o' : AObj} (st : St h (.pt i o :: .pt j o' :: L)) (hrw : o.rw = true := by rfl) : i ≠ j := by
  obtain ⟨m, _, a, b, h2, _, ⟨h4, _⟩, a', b', _, h6, ⟨h7, _⟩, _⟩ := st.has
  intro e
  subst e
  rcases h2 i with g | g | ⟨_, g⟩
  · rw [g] at h4; cases h4
  · rw [h6, h7] at g; cases g
  · rw [g o h4] at hrw; cases hrw

/-- what is not written may be known twice -/
theorem St.dup {id : Nat} {o : AObj} (st : St h (.pt id o :: L)) (hro : o.rw = false) : St h (.pt id o :: .pt id o :: L) := by
  obtain ⟨m, h1, a, b, h2, h3, ⟨h4, h5⟩, h6⟩ := st.has
  refine ⟨st.wf, m, h1, a, m, fun i => ?_, fun i => ?_, ⟨h4, h5⟩, a, b, h2, h3, ⟨h4, h5⟩, h6⟩
  · by_cases hi : i = id
    · subst hi
      refine .inr (.inr ⟨by rw [h3, h4]; rfl, fun o' e => ?_⟩)
      rw [h4] at e; cases e; exact hro
    · exact .inl (h5 i hi)
  · rw [h3]; cases a i <;> simp

theorem AHeap.wf_put {h : AHeap} (hw : h.wf) {i : Nat} (o : AObj) (hi : i < h.next) : (h.put i o).wf := by
  intro id x hg
  rw [AHeap.get_put] at hg
  show id < h.next
  split at hg
  · omega
  · exact hw id x hg
theorem AHeap.wf_new {h : AHeap} (hw : h.wf) (o : AObj) : (h.new o).wf := by
  intro id x hg
  rw [AHeap.get_new] at hg
  show id < h.next + 1
  split at hg
  · omega
  · have := hw id x hg; omega
theorem AHeap.wf_kill {h : AHeap} (hw : h.wf) (i : Nat) : (h.kill i).wf := by
  intro id x hg
  rw [AHeap.get_kill] at hg
  show id < h.next
  split at hg
  · cases hg
  · exact hw id x hg

theorem St.new (st : St h L) (o : AObj) : St (h.new o) (.pt h.next o :: L) := by
  obtain ⟨m, h1, h2⟩ := st.has
  refine ⟨AHeap.wf_new st.wf o, fun i => if i = h.next then some o else m i, fun i x e => ?_, fun i => if i = h.next then some o else none, m, fun i => ?_, fun i => ?_, ⟨by simp, fun j hj => by simp [hj]⟩, h2⟩
  · rw [AHeap.get_new]
    simp only at e
    split at e
    · rename_i e1; rw [if_pos e1.symm]; exact e
    · rename_i e1; rw [if_neg (fun e2 => e1 e2.symm)]; exact h1 i x e
  · by_cases e : i = h.next
    · refine .inr (.inl ?_)
      cases hm : m i with
      | none => rfl
      | some x => have := st.wf _ _ (h1 i x hm); omega
    · exact .inl (by simp [e])
  · by_cases e : i = h.next <;> simp [e]

theorem St.put {id : Nat} {o : AObj} (st : St h (.pt id o :: L)) (o' : AObj) (hrw : o.rw = true := by rfl) : St (h.put id o') (.pt id o' :: L) := by
  have hlt := st.lt
  obtain ⟨m, h1, a, b, h2, h3, ⟨h4, h5⟩, h6⟩ := st.has
  have hb : b id = none := by
    rcases h2 id with g | g | ⟨_, g⟩
    · rw [g] at h4; cases h4
    · exact g
    · rw [g o h4] at hrw; cases hrw
  refine ⟨AHeap.wf_put st.wf o' hlt, fun i => if i = id then some o' else b i, fun i x e => ?_, fun i => if i = id then some o' else none, b, fun i => ?_, fun i => ?_, ⟨by simp, fun j hj => by simp [hj]⟩, h6⟩
  · rw [AHeap.get_put]
    simp only at e
    split at e
    · rename_i e1; rw [if_pos e1.symm]; exact e
    · rename_i e1
      rw [if_neg (fun e2 => e1 e2.symm)]
      refine h1 i x ?_
      rw [h3, h5 i e1]; simpa using e
  · by_cases e : i = id
    · subst e; exact .inr (.inl hb)
    · exact .inl (by simp [e])
  · by_cases e : i = id <;> simp [e]

theorem St.kill {id : Nat} {o : AObj} (st : St h (.pt id o :: L)) (hrw : o.rw = true := by rfl) : St (h.kill id) L := by
  obtain ⟨m, h1, a, b, h2, h3, ⟨h4, h5⟩, h6⟩ := st.has
  have hb : b id = none := by
    rcases h2 id with g | g | ⟨_, g⟩
    · rw [g] at h4; cases h4
    · exact g
    · rw [g o h4] at hrw; cases hrw
  refine ⟨AHeap.wf_kill st.wf id, b, fun i x e => ?_, h6⟩
  rw [AHeap.get_kill]
  by_cases e1 : id = i
  · subst e1; rw [hb] at e; cases e
  · rw [if_neg e1]
    refine h1 i x ?_
    rw [h3, h5 i (fun e2 => e1 e2.symm)]; simpa using e

end

/-- all the heap, whatever it is -/
theorem St.ofHeap {h : AHeap} (hw : h.wf) : St h [.ap 0 .nilptr fun m => ∀ i o, m i = some o ↔ h.get i = some o] :=
  ⟨hw, h.get, fun _ _ e => e, h.get, fun _ => none, fun _ => .inr (.inl rfl), fun i => by simp, fun _ _ => Iff.rfl, fun _ => rfl⟩

theorem St.nil {h : AHeap} (hw : h.wf) : St h [] := ⟨hw, fun _ => none, fun _ _ e => (by cases e), fun _ => rfl⟩

/-- WHAT A CALL DOES: with these parts of the heap it answers so, and leaves those. -/
def Spec (C : SemW) (f : Fn) (args : List AV) (Ps : List Chunk) (post : AV → List Chunk → Prop) : Prop :=
  ∀ h F, St h (Ps ++ F) → C f args h fun v h' => ∃ Rs, post v Rs ∧ St h' (Rs ++ F)

theorem Spec.mono {C : SemW} (hM : MonoW C) {f : Fn} {args : List AV} {Ps : List Chunk} {post post' : AV → List Chunk → Prop} (s : Spec C f args Ps post) (hp : ∀ v Rs, post v Rs → post' v Rs) : Spec C f args Ps post' :=
  fun h F st => hM _ _ _ _ _ (fun _ _ ⟨Rs, h1, h2⟩ => ⟨Rs, hp _ _ h1, h2⟩) (s h F st)

/-- more parts than are wanted -/
theorem Spec.frame {C : SemW} (hM : MonoW C) {f : Fn} {args : List AV} {Ps : List Chunk} {post : AV → List Chunk → Prop} (s : Spec C f args Ps post) (G : List Chunk) : Spec C f args (Ps ++ G) fun v Rs => ∃ Rs', post v Rs' ∧ Rs = Rs' ++ G :=
  fun h F st => hM _ _ _ _ _ (fun _ _ ⟨Rs, h1, h2⟩ => ⟨Rs ++ G, ⟨Rs, h1, rfl⟩, by rw [List.append_assoc]; exact h2⟩) (s h (G ++ F) (by rw [← List.append_assoc]; exact st))

end Go.Proofs.Ytjdemlagmamlbaa
