/- Loops over a map, in whatever order. -/
import Derived.Test.YtjdemlagmamlbaaK8
namespace Go.Proofs.Ytjdemlagmamlbaa

section
variable {α β : Type} [DecidableEq α]

abbrev encP (ke : α → AV) (ve : β → AV) (p : α × β × Nat) : AV × AV × Nat := (ke p.1, ve p.2.1, p.2.2)
abbrev kvP (p : α × β × Nat) : α × β := (p.1, p.2.1)

/-- a loop over a map: what the map has, the keys that were met, the one that was met last -/
def ItIs (I M : Nat) (ke : α → AV) (ve : β → AV) (l : List (α × β)) (dn : List α) (cur : Option (α × β)) (cs : List Chunk) : Prop :=
  ∃ (l' : List (α × β × Nat)) (clock : Nat) (seen : List Nat), cs = [.pt M (.map (l'.map (encP ke ve)) clock), .pt I (.iter (some M) clock seen clock)] ∧ l'.map kvP = l ∧ (keys l).Nodup ∧ Stamps (l'.map (encP ke ve)) clock ∧
    (∀ p, p ∈ l' → (p.2.2 ∈ seen ↔ p.1 ∈ dn)) ∧ (∀ a b, cur = some (a, b) → ∃ p, p ∈ l' ∧ p.1 = a ∧ p.2.1 = b ∧ seen.getLast? = some p.2.2) ∧ (seen = [] → dn = [])

abbrev ItC (I M : Nat) (ke : α → AV) (ve : β → AV) (l : List (α × β)) (dn : List α) (cur : Option (α × β)) : Chunk := pk 16 (.ptr I 0) (ItIs I M ke ve l dn cur)

omit [DecidableEq α] in
theorem ghost_of {ke : α → AV} {ve : β → AV} : ∀ {es : List (AV × AV × Nat)} {l : List (α × β)}, es.map (fun e => (e.1, e.2.1)) = l.map (fun p => (ke p.1, ve p.2)) → ∃ l' : List (α × β × Nat), l'.map (encP ke ve) = es ∧ l'.map kvP = l
  | [], [], _ => ⟨[], rfl, rfl⟩
  | [], _ :: _, h => by simp at h
  | _ :: _, [], h => by simp at h
  | (k, v, s) :: es, (a, b) :: l, h => by
    simp only [List.map_cons, List.cons.injEq, Prod.mk.injEq] at h
    obtain ⟨⟨rfl, rfl⟩, h⟩ := h
    obtain ⟨l', h1, h2⟩ := ghost_of h
    exact ⟨(a, b, s) :: l', by simp [h1], by simp [h2]⟩

omit [DecidableEq α] in
theorem ghost_map {ke : α → AV} {ve : β → AV} {l' : List (α × β × Nat)} : (l'.map (encP ke ve)).map (fun e => (e.1, e.2.1)) = (l'.map kvP).map (fun p => (ke p.1, ve p.2)) := by
  simp [List.map_map, Function.comp_def]

theorem erase_map {γ δ : Type} (f : γ → δ) : ∀ (l : List γ) (i : Nat), (l.map f).eraseIdx i = (l.eraseIdx i).map f
  | [], _ => rfl
  | _ :: _, 0 => rfl
  | x :: l, i + 1 => by rw [List.map_cons, List.eraseIdx_cons_succ, List.eraseIdx_cons_succ, List.map_cons, erase_map f l i]

theorem alook_mem {l : List (α × β)} (h : (keys l).Nodup) {a : α} {b : β} : alook l a = some b ↔ (a, b) ∈ l := by
  induction l with
  | nil => simp [alook]
  | cons p l ih =>
    obtain ⟨k, v⟩ := p
    simp only [keys, List.map_cons, List.nodup_cons] at h
    simp only [alook, List.mem_cons, Prod.mk.injEq]
    by_cases e : k = a
    · subst e
      rw [if_pos rfl]
      constructor
      · intro h1; cases h1; exact .inl ⟨rfl, rfl⟩
      · rintro (⟨_, rfl⟩ | h1)
        · rfl
        · exact absurd (List.mem_map.2 ⟨_, h1, rfl⟩) h.1
    · rw [if_neg e, ih h.2]
      constructor
      · exact .inr
      · rintro (⟨e1, _⟩ | h1)
        · exact absurd e1.symm e
        · exact h1

theorem adel_filter {l : List (α × β)} (h : (keys l).Nodup) (a : α) : adel l a = l.filter fun p => decide (p.1 ≠ a) := by
  induction l with
  | nil => rfl
  | cons p l ih =>
    obtain ⟨k, v⟩ := p
    simp only [keys, List.map_cons, List.nodup_cons] at h
    simp only [adel]
    by_cases e : k = a
    · subst e
      rw [if_pos rfl, List.filter_cons_of_neg (by simp)]
      symm
      rw [List.filter_eq_self]
      intro q hq
      simp only [ne_eq, decide_not, Bool.not_eq_eq_eq_not, Bool.not_true, decide_eq_false_iff_not]
      intro e
      exact h.1 (List.mem_map.2 ⟨q, hq, e⟩)
    · rw [if_neg e, List.filter_cons_of_pos (by simpa using e), ih h.2]

section ops
variable {h : AHeap} {L R : List Chunk} {ke : α → AV} {ve : β → AV} {kk : EqK} {I M : Nat} {l : List (α × β)} {dn : List α} {cur : Option (α × β)} {C : SemW}

omit [DecidableEq α] in
theorem e_range (st : St h L) (t : Take L (MpC M ke ve l) R) : Eff C .range [.map M] h fun x h' => ∃ I, x = .ptr I 0 ∧ St h' (ItC I M ke ve l [] none :: R) := .mk (by
  obtain ⟨cs, ⟨es, clock, rfl, h1, h2, h3⟩, st'⟩ := (st.take t).unpack
  obtain ⟨l', rfl, rfl⟩ := ghost_of h1
  refine Does.do (v := .ptr h.next 0) (h1 := h.new (.iter (some M) clock [] clock)) ⟨rfl, ?_⟩ ⟨h.next, rfl, ?_⟩
  · simp only [aop, st'.get]
  · exact St.pack (cs := [_, _]) ((st'.new _).perm (List.Perm.swap _ _ _)) ⟨l', clock, [], rfl, rfl, h2, h3, fun p hp => by simp, fun a b e => (by cases e), fun _ => rfl⟩)

omit [DecidableEq α] in
theorem stamps_inj : ∀ {l' : List (α × β × Nat)} {clock : Nat}, Stamps (l'.map (encP ke ve)) clock → ∀ p q, p ∈ l' → q ∈ l' → p.2.2 = q.2.2 → p = q
  | [], _, _, p, q, hp, _, _ => by cases hp
  | x :: l', clock, hs, p, q, hp, hq, e => by
    simp only [List.map_cons, Stamps] at hs
    obtain ⟨_, h2, h3⟩ := hs
    have key : ∀ r, r ∈ l' → x.2.2 < r.2.2 := fun r hr => h2 _ (List.mem_map.2 ⟨r, hr, rfl⟩)
    rcases List.mem_cons.1 hp with h | h
    · rcases List.mem_cons.1 hq with h' | h'
      · rw [h, h']
      · have := key q h'; rw [h] at e; omega
    · rcases List.mem_cons.1 hq with h' | h'
      · have := key p h; rw [h'] at e; omega
      · exact stamps_inj h3 p q h h' e

/-- the next step -/
theorem e_next (st : St h L) (t : Take L (ItC I M ke ve l dn cur) R) : Eff C .next [.ptr I 0] h fun x h' =>
    (∃ a b, alook l a = some b ∧ a ∉ dn ∧ x = .tuple [.bool true, ke a, ve b] ∧ St h' (ItC I M ke ve l (a :: dn) (some (a, b)) :: R)) ∨ ((∀ a, a ∈ keys l → a ∈ dn) ∧ x = .tuple [.bool false] ∧ St h' (ItC I M ke ve l dn cur :: R)) := .mk (by
  obtain ⟨cs, ⟨l', clock, seen, rfl, rfl, h2, h3, h4, h5, h6⟩, st'⟩ := (st.take t).unpack
  have gM := st'.get
  have gI := (st'.perm (List.Perm.swap _ _ _)).get
  simp only [doOpW, nextW, gI, gM]
  refine ⟨?_, fun e he hs => ?_, fun hall => ?_⟩
  · cases l' with
    | nil => exact .inr (.inl rfl)
    | cons p l' => exact .inr (.inr ⟨_, List.mem_cons_self, h3.lt _ List.mem_cons_self⟩)
  · obtain ⟨p, hp, rfl⟩ := List.mem_map.1 he
    refine .inl ⟨p.1, p.2.1, (alook_mem h2).2 (List.mem_map.2 ⟨p, hp, rfl⟩), fun hd => hs ((h4 p hp).2 hd), rfl, ?_⟩
    refine St.pack (cs := [_, _]) (((st'.perm (List.Perm.swap _ _ _)).put _).perm (List.Perm.swap _ _ _)) ⟨l', clock, seen ++ [p.2.2], rfl, rfl, h2, h3, fun q hq => ?_, fun a b e => ?_, fun e => by simp at e⟩
    · rw [List.mem_append, List.mem_singleton, List.mem_cons, h4 q hq]
      constructor
      · rintro (h | h)
        · exact .inr h
        · exact .inl (by rw [stamps_inj h3 q p hq hp h])
      · rintro (h | h)
        · refine .inr ?_
          have e1 := (alook_mem h2).2 (List.mem_map.2 ⟨p, hp, rfl⟩)
          have e2 := (alook_mem h2).2 (List.mem_map.2 ⟨q, hq, rfl⟩)
          have hk : p = q := by
            have hpq : ∀ {l' : List (α × β × Nat)}, (keys (l'.map kvP)).Nodup → p ∈ l' → q ∈ l' → q.1 = p.1 → p = q := by
              intro l'
              induction l' with
              | nil => intro _ hp; cases hp
              | cons x l' ih =>
                intro hn hp hq he
                simp only [keys, List.map_cons, List.nodup_cons] at hn
                rcases List.mem_cons.1 hp with h | h
                · rcases List.mem_cons.1 hq with h' | h'
                  · rw [h, h']
                  · rw [h] at he
                    exact absurd (List.mem_map.2 ⟨_, List.mem_map.2 ⟨q, h', rfl⟩, he⟩) hn.1
                · rcases List.mem_cons.1 hq with h' | h'
                  · rw [h'] at he
                    exact absurd (List.mem_map.2 ⟨_, List.mem_map.2 ⟨p, h, rfl⟩, he.symm⟩) hn.1
                  · exact ih hn.2 h h' he
            exact hpq h2 hp hq h
          rw [hk]
        · exact .inl h
    · cases e
      exact ⟨p, hp, rfl, rfl, by simp⟩
  · refine .inr ⟨fun a ha => ?_, trivial, St.pack (cs := [_, _]) st' ⟨l', clock, seen, rfl, rfl, h2, h3, h4, h5, h6⟩⟩
    simp only [keys, List.mem_map] at ha
    obtain ⟨_, ⟨p, hp, rfl⟩, rfl⟩ := ha
    exact (h4 p hp).1 (hall _ (List.mem_map.2 ⟨p, hp, rfl⟩) (h3.lt _ (List.mem_map.2 ⟨p, hp, rfl⟩))))

omit [DecidableEq α] in
theorem find_stamp : ∀ {l' : List (α × β × Nat)} {clock : Nat}, Stamps (l'.map (encP ke ve)) clock → ∀ p, p ∈ l' → (l'.map (encP ke ve)).find? (fun e => e.2.2 == p.2.2) = some (encP ke ve p)
  | [], _, _, p, hp => by cases hp
  | x :: l', clock, hs, p, hp => by
    simp only [List.map_cons, Stamps] at hs
    obtain ⟨_, h2, h3⟩ := hs
    rcases List.mem_cons.1 hp with rfl | hp
    · simp
    · have : x.2.2 < p.2.2 := h2 _ (List.mem_map.2 ⟨p, hp, rfl⟩)
      rw [List.map_cons, List.find?_cons_of_neg (by simp; omega)]
      exact find_stamp h3 p hp

omit [DecidableEq α] in
theorem d_entry {a : α} {b : β} (st : St h L) (t : Take L (ItC I M ke ve l dn (some (a, b))) R) : Does .entry [.ptr I 0] h (.tuple [ke a, ve b]) h := by
  obtain ⟨cs, ⟨l', clock, seen, rfl, rfl, h2, h3, h4, h5, h6⟩, st'⟩ := (st.take t).unpack
  obtain ⟨p, hp, rfl, rfl, hs⟩ := h5 a b rfl
  have gM := st'.get
  have gI := (st'.perm (List.Perm.swap _ _ _)).get
  refine ⟨rfl, ?_⟩
  simp only [aop, gI, gM, hs, if_true, find_stamp h3 p hp, Option.map_some]

theorem e_itDelete (st : St h L) (t : Take L (ItC I M ke ve l dn cur) R) (hk : KeyOk kk ke) (a : α) : Eff C (.delete kk) [.map M, ke a] h fun x h' => x = .tuple [] ∧ St h' (ItC I M ke ve (adel l a) dn none :: R) := .mk (by
  obtain ⟨cs, ⟨l', clock, seen, rfl, rfl, h2, h3, h4, h5, h6⟩, st'⟩ := (st.take t).unpack
  rcases findE_is hk a (ghost_map (ke := ke) (ve := ve) (l' := l')) with ⟨g1, g2⟩ | ⟨i, b', s, g1, g2, g3⟩
  · refine Does.do (v := .tuple []) (h1 := h) ⟨rfl, ?_⟩ ⟨rfl, ?_⟩
    · simp only [aop, hk a a, Option.isSome_some, Bool.true_eq_false, if_false, st'.get, g2]
    · rw [adel_none g1]
      exact St.pack (cs := [_, _]) st' ⟨l', clock, seen, rfl, rfl, h2, h3, h4, fun _ _ e => (by cases e), h6⟩
  · refine Does.do (v := .tuple []) (h1 := h.put M (.map ((l'.map (encP ke ve)).eraseIdx i) clock)) ⟨rfl, ?_⟩ ⟨rfl, ?_⟩
    · simp only [aop, hk a a, Option.isSome_some, Bool.true_eq_false, if_false, st'.get, g2]
    · have e1 : (l'.map (encP ke ve)).eraseIdx i = (l'.eraseIdx i).map (encP ke ve) := erase_map _ _ _
      have e2 : (l'.eraseIdx i).map kvP = adel (l'.map kvP) a := by
        have key : ∀ {l' : List (α × β × Nat)} {i : Nat}, findE kk (ke a) (l'.map (encP ke ve)) = some (some i) → (l'.eraseIdx i).map kvP = adel (l'.map kvP) a := by
          intro l'
          induction l' with
          | nil => intro i h; simp [findE] at h
          | cons x l' ih =>
            intro i h
            simp only [List.map_cons, findE, hk a x.1] at h
            simp only [List.map_cons, adel]
            by_cases e : x.1 = a
            · rw [decide_eq_true e.symm] at h
              simp at h; subst h
              rw [if_pos e]; rfl
            · rw [decide_eq_false (fun y => e y.symm)] at h
              simp only [Option.map_eq_some_iff] at h
              obtain ⟨y, hy, hyi⟩ := h
              rw [if_neg e]
              cases y with
              | none => simp at hyi
              | some j =>
                simp at hyi; subst hyi
                rw [List.eraseIdx_cons_succ, List.map_cons, ih hy]
        exact key g2
      have st2 := st'.put (.map ((l'.map (encP ke ve)).eraseIdx i) clock)
      rw [e1] at st2 ⊢
      refine St.pack (cs := [_, _]) st2 ⟨l'.eraseIdx i, clock, seen, rfl, e2, (nodup_adel h2).1, by rw [← e1]; exact h3.erase i, fun p hp => h4 p (List.mem_of_mem_eraseIdx hp), fun _ _ e => (by cases e), h6⟩)

omit [DecidableEq α] in
/-- the loop's end -/
theorem St.itEnd (st : St h L) (t : Take L (ItC I M ke ve l dn cur) R) : St h (MpC M ke ve l :: R) := by
  obtain ⟨cs, ⟨l', clock, seen, rfl, rfl, h2, h3, h4, h5, h6⟩, st'⟩ := (st.take t).unpack
  exact St.pack (cs := [_]) (st'.sel (.cons .here (.skip .nil))) ⟨_, clock, rfl, ghost_map, h2, h3⟩

end ops
end
end Go.Proofs.Ytjdemlagmamlbaa
