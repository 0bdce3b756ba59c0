/- Arguments as parts of the heap. -/
import Derived.Test.YtjdemlagmamlbaaK5
namespace Go.Proofs.Ytjdemlagmamlbaa

section
variable {h : AHeap} {L R : List Chunk}

/-- what is not written, of the heap that is there -/
theorem St.addRo {id : Nat} {o : AObj} (st : St h L) (hg : h.get id = some o) (hro : o.rw = false) : St h (.pt id o :: L) := by
  obtain ⟨m, h1, h2⟩ := st.has
  refine ⟨st.wf, fun i => if i = id then some o else m i, fun i x e => ?_, fun i => if i = id then some o else none, m, fun i => ?_, fun i => ?_, ⟨by simp, fun j hj => by simp [hj]⟩, h2⟩
  · simp only at e
    split at e
    · rename_i e1; subst e1; cases e; exact hg
    · exact h1 i x e
  · by_cases e : i = id
    · subst e
      cases hm : m i with
      | none => exact .inr (.inl rfl)
      | some x =>
        have := h1 i x hm
        rw [hg] at this; cases this
        exact .inr (.inr ⟨by simp, fun o' e => by simp at e; subst e; exact hro⟩)
    · exact .inl (by simp [e])
  · by_cases e : i = id <;> simp [e]

/-- a part that is not written may be known twice -/
theorem St.dupB {v : AV} {k n : Nat} (st : St h (ByC v k n false :: L)) : St h (ByC v k n false :: ByC v k n false :: L) := by
  obtain ⟨cs, ⟨y, hn⟩, st'⟩ := st.unpack
  rcases y with ⟨rfl, rfl, hl, rfl⟩ | ⟨rfl, rfl, hl, rfl, hw⟩ | ⟨id, off, cap, D, e', es', sf, rfl, rfl, h3, h4, h5⟩ | ⟨id, idx, D, rfl, rfl, h3, h4, h5⟩
  · exact St.pack (cs := []) st ⟨.inl ⟨rfl, rfl, hl, rfl⟩, hn⟩
  · exact St.pack (cs := []) st ⟨.inr (.inl ⟨rfl, rfl, hl, rfl, hw⟩), hn⟩
  · have s1 := st'.dup rfl
    have s2 := St.pack (t := 12) (k := .sl id off k cap) (P := ByIs (.sl id off k cap) k n false) (cs := [_]) s1 ⟨.inr (.inr (.inl ⟨id, off, cap, D, e', es', sf, rfl, rfl, h3, h4, h5⟩)), hn⟩
    exact St.pack (cs := [_]) (s2.perm (List.Perm.swap _ _ _)) ⟨.inr (.inr (.inl ⟨id, off, cap, D, e', es', sf, rfl, rfl, h3, h4, h5⟩)), hn⟩
  · cases h4

theorem St.copyB {v : AV} {k n : Nat} (st : St h L) (t : Take L (ByC v k n false) R) : St h (ByC v k n false :: L) :=
  ((st.take t).dupB).perm (List.Perm.cons _ t.perm.symm)

/-- bytes that are an argument -/
theorem argB {v : AV} (ha : AD h .bytes [v]) : ∃ k n, k ≤ maxLen ∧ ∀ L, St h L → St h (ByC v k n false :: L) := by
  simp only [AD, List.cons.injEq, and_true] at ha
  rcases ha with rfl | rfl | ⟨id, len, cap, n, e, rfl, h0, h1, h2, h3, hg⟩
  · exact ⟨0, 0, Nat.zero_le _, fun L st => st.byNil false⟩
  · exact ⟨0, 0, Nat.zero_le _, fun L st => St.pack (cs := []) st ⟨.inr (.inl ⟨rfl, rfl, rfl, rfl, rfl⟩), by decide⟩⟩
  · refine ⟨len, n, by omega, fun L st => St.pack (cs := [.pt id (.row e 1 false true (.bytes len n))]) (st.addRo hg rfl) ⟨.inr (.inr (.inl ⟨id, 0, cap, .bytes len n, e, 1, false, rfl, rfl, ?_, h1, fun e => (by cases e)⟩)), h3⟩⟩
    rw [Nat.mul_one]; exact take_bytes h3
theorem St.argB {v : AV} (st : St h L) (ha : AD h .bytes [v]) : ∃ k n, k ≤ maxLen ∧ St h (ByC v k n false :: L) := by
  obtain ⟨k, n, h1, h2⟩ := Go.Proofs.Ytjdemlagmamlbaa.argB ha
  exact ⟨k, n, h1, h2 L st⟩

end

/-- a law, by a contract of its function -/
theorem Spec.law {C : SemW} (hM : MonoW C) {f : Fn} {args : List AV} {Ps : List Chunk} {post : AV → List Chunk → Prop} {h : AHeap} (hs : Spec C f args Ps post) (st : St h Ps) (hp : ∀ v Rs, post v Rs → v = .bool true) : C f args h fun v _ => v = .bool true :=
  hM _ _ _ _ _ (fun v _ ⟨Rs, h1, _⟩ => hp v Rs h1) (hs h [] (by rw [List.append_nil]; exact st))

/-- what a function without arguments answers -/
theorem spec_const {O : Nat → Option FSpec} {T : BT} {n : Nat} {v : AV} (hO : O n = some (constF v)) : Spec (progI O T) (.f n) [] [] fun x Rs => x = v ∧ Rs = [] :=
  fun _ _ st => progI_known hO ⟨rfl, [], ⟨rfl, rfl⟩, st⟩

end Go.Proofs.Ytjdemlagmamlbaa
