/- Maps as parts of the heap. -/
import Derived.Test.YtjdemlagmamlbaaK3
namespace Go.Proofs.Ytjdemlagmamlbaa

section
variable {α β : Type} [DecidableEq α]

def alook : List (α × β) → α → Option β
  | [], _ => none
  | (k, v) :: l, a => if k = a then some v else alook l a
def aput : List (α × β) → α → β → List (α × β)
  | [], a, b => [(a, b)]
  | (k, v) :: l, a, b => if k = a then (a, b) :: l else (k, v) :: aput l a b
def adel : List (α × β) → α → List (α × β)
  | [], _ => []
  | (k, v) :: l, a => if k = a then l else (k, v) :: adel l a

theorem alook_aput (l : List (α × β)) (a : α) (b : β) (x : α) : alook (aput l a b) x = if a = x then some b else alook l x := by
  induction l with
  | nil => simp [aput, alook]
  | cons p l ih =>
    obtain ⟨k, v⟩ := p
    simp only [aput]
    by_cases h : k = a
    · subst h
      rw [if_pos rfl]
      simp only [alook]
      split <;> rfl
    · rw [if_neg h]
      simp only [alook, ih]
      by_cases hk : k = x
      · subst hk
        rw [if_pos rfl, if_pos rfl, if_neg (fun e => h e.symm)]
      · rw [if_neg hk, if_neg hk]

def keys (l : List (α × β)) : List α := l.map Prod.fst

theorem mem_keys_aput {l : List (α × β)} {a : α} {b : β} {x : α} : x ∈ keys (aput l a b) ↔ x = a ∨ x ∈ keys l := by
  induction l with
  | nil => simp [aput, keys]
  | cons p l ih =>
    obtain ⟨k, v⟩ := p
    simp only [aput]
    by_cases h : k = a
    · subst h; rw [if_pos rfl]; simp [keys]
    · rw [if_neg h]
      simp only [keys, List.map_cons, List.mem_cons] at ih ⊢
      rw [ih]
      constructor
      · rintro (h1 | h1 | h1)
        · exact .inr (.inl h1)
        · exact .inl h1
        · exact .inr (.inr h1)
      · rintro (h1 | h1 | h1)
        · exact .inr (.inl h1)
        · exact .inl h1
        · exact .inr (.inr h1)

theorem nodup_aput {l : List (α × β)} {a : α} {b : β} (h : (keys l).Nodup) : (keys (aput l a b)).Nodup := by
  induction l with
  | nil => simp [aput, keys]
  | cons p l ih =>
    obtain ⟨k, v⟩ := p
    simp only [keys, List.map_cons, List.nodup_cons] at h ⊢
    simp only [aput]
    by_cases hk : k = a
    · subst hk; rw [if_pos rfl]; simpa [keys] using h
    · rw [if_neg hk]
      simp only [List.map_cons, List.nodup_cons]
      exact ⟨fun hm => by
        rcases mem_keys_aput.1 hm with h1 | h1
        · exact hk h1
        · exact h.1 h1, ih h.2⟩

theorem nodup_adel {l : List (α × β)} {a : α} (h : (keys l).Nodup) : (keys (adel l a)).Nodup ∧ ∀ x, x ∈ keys (adel l a) → x ∈ keys l := by
  induction l with
  | nil => simp [adel, keys]
  | cons p l ih =>
    obtain ⟨k, v⟩ := p
    simp only [keys, List.map_cons, List.nodup_cons] at h
    simp only [adel]
    by_cases hk : k = a
    · rw [if_pos hk]; exact ⟨h.2, fun x hx => List.mem_cons_of_mem _ hx⟩
    · rw [if_neg hk]
      obtain ⟨h1, h2⟩ := ih h.2
      refine ⟨?_, fun x hx => ?_⟩
      · simp only [keys, List.map_cons, List.nodup_cons]; exact ⟨fun hm => h.1 (h2 _ hm), h1⟩
      · rcases List.mem_cons.1 hx with rfl | hx
        · exact List.mem_cons_self
        · exact List.mem_cons_of_mem _ (h2 x hx)

theorem alook_none {l : List (α × β)} {a : α} : alook l a = none ↔ a ∉ keys l := by
  induction l with
  | nil => simp [alook, keys]
  | cons p l ih =>
    obtain ⟨k, v⟩ := p
    simp only [alook, keys, List.map_cons, List.mem_cons]
    by_cases h : k = a
    · rw [if_pos h]; simp [h]
    · rw [if_neg h, ih]
      constructor
      · intro g hh
        rcases hh with hh | hh
        · exact h hh.symm
        · exact g hh
      · exact fun g hh => g (.inr hh)

theorem alook_adel {l : List (α × β)} {a x : α} (h : (keys l).Nodup) : alook (adel l a) x = if a = x then none else alook l x := by
  induction l with
  | nil => simp [adel, alook]
  | cons p l ih =>
    obtain ⟨k, v⟩ := p
    simp only [keys, List.map_cons, List.nodup_cons] at h
    simp only [adel]
    by_cases hk : k = a
    · subst hk
      rw [if_pos rfl]
      simp only [alook]
      by_cases hx : k = x
      · subst hx; rw [if_pos rfl]; exact alook_none.2 h.1
      · rw [if_neg hx, if_neg hx]
    · rw [if_neg hk]
      simp only [alook, ih h.2]
      by_cases hx : k = x
      · subst hx; rw [if_pos rfl, if_neg (fun e => hk e.symm), if_pos rfl]
      · rw [if_neg hx, if_neg hx]

/-- keys that are equal just where what they are of is -/
def KeyOk (kk : EqK) (ke : α → AV) : Prop := ∀ a b, avEq kk (ke a) (ke b) = some (decide (a = b))

theorem keyInt : KeyOk (.scal .int) (fun n : Int => AV.int .i64 n) := fun a b => by
  simp only [avEq, scEq, if_true]
  congr 1

/-- stamps rise, below the next one -/
def Stamps : List (AV × AV × Nat) → Nat → Prop
  | [], _ => True
  | (_, _, b) :: es, clock => b < clock ∧ (∀ e, e ∈ es → b < e.2.2) ∧ Stamps es clock

theorem Stamps.lt : ∀ {es : List (AV × AV × Nat)} {clock : Nat}, Stamps es clock → ∀ e, e ∈ es → e.2.2 < clock
  | (_, _, b) :: es, clock, h, e, he => by
    rcases List.mem_cons.1 he with rfl | he
    · exact h.1
    · exact Stamps.lt h.2.2 e he

theorem Stamps.mono : ∀ {es : List (AV × AV × Nat)} {c c' : Nat}, Stamps es c → c ≤ c' → Stamps es c'
  | [], _, _, _, _ => trivial
  | (_, _, _) :: _, _, _, h, hc => ⟨Nat.lt_of_lt_of_le h.1 hc, h.2.1, Stamps.mono h.2.2 hc⟩

theorem Stamps.snoc : ∀ {es : List (AV × AV × Nat)} {c : Nat} {k v : AV}, Stamps es c → Stamps (es ++ [(k, v, c)]) (c + 1)
  | [], c, _, _, _ => ⟨by omega, by simp, trivial⟩
  | (_, _, b) :: es, c, k, v, h => by
    refine ⟨by have := h.1; omega, fun e he => ?_, Stamps.snoc h.2.2⟩
    rcases List.mem_append.1 he with he | he
    · exact h.2.1 e he
    · rw [List.mem_singleton.1 he]; exact h.1

/-- what a map is -/
def MpIs (ke : α → AV) (ve : β → AV) (M : Nat) (l : List (α × β)) (cs : List Chunk) : Prop :=
  ∃ es clock, cs = [.pt M (.map es clock)] ∧ es.map (fun e => (e.1, e.2.1)) = l.map (fun p => (ke p.1, ve p.2)) ∧ (keys l).Nodup ∧ Stamps es clock

abbrev MpC (M : Nat) (ke : α → AV) (ve : β → AV) (l : List (α × β)) : Chunk := pk 11 (.map M) (MpIs ke ve M l)

theorem findE_is {kk : EqK} {ke : α → AV} {ve : β → AV} (hk : KeyOk kk ke) (a : α) : ∀ {es : List (AV × AV × Nat)} {l : List (α × β)}, es.map (fun e => (e.1, e.2.1)) = l.map (fun p => (ke p.1, ve p.2)) →
    (alook l a = none ∧ findE kk (ke a) es = some none) ∨ (∃ i b s, alook l a = some b ∧ findE kk (ke a) es = some (some i) ∧ es[i]? = some (ke a, ve b, s))
  | [], [], _ => .inl ⟨rfl, rfl⟩
  | [], _ :: _, h => by simp at h
  | _ :: _, [], h => by simp at h
  | (k, v, s) :: es, (a', b') :: l, h => by
    simp only [List.map_cons, List.cons.injEq, Prod.mk.injEq] at h
    obtain ⟨⟨rfl, rfl⟩, h⟩ := h
    simp only [findE, hk a a', alook]
    by_cases e : a = a'
    · subst e
      exact .inr ⟨0, b', s, by simp, by simp, by simp⟩
    · rw [decide_eq_false e, if_neg (fun x => e x.symm)]
      rcases findE_is hk a h with ⟨h1, h2⟩ | ⟨i, b, s', h1, h2, h3⟩
      · exact .inl ⟨h1, by rw [h2]; rfl⟩
      · exact .inr ⟨i + 1, b, s', h1, by rw [h2]; rfl, by simpa using h3⟩

theorem modify_is {ke : α → AV} {ve : β → AV} {kk : EqK} (hk : KeyOk kk ke) (a : α) (b : β) : ∀ {es : List (AV × AV × Nat)} {l : List (α × β)} {i : Nat}, es.map (fun e => (e.1, e.2.1)) = l.map (fun p => (ke p.1, ve p.2)) → findE kk (ke a) es = some (some i) →
    (es.modify i fun e => (ke a, ve b, e.2.2)).map (fun e => (e.1, e.2.1)) = (aput l a b).map (fun p => (ke p.1, ve p.2))
  | [], [], _, _, hf => by simp [findE] at hf
  | [], _ :: _, _, h, _ => by simp at h
  | _ :: _, [], _, h, _ => by simp at h
  | (k, v, s) :: es, (a', b') :: l, i, h, hf => by
    simp only [List.map_cons, List.cons.injEq, Prod.mk.injEq] at h
    obtain ⟨⟨rfl, rfl⟩, h⟩ := h
    simp only [findE, hk a a'] at hf
    simp only [aput]
    by_cases e : a = a'
    · subst e
      simp at hf
      subst hf
      simp [h]
    · rw [decide_eq_false e] at hf
      simp only [Option.map_eq_some_iff] at hf
      obtain ⟨x, hx, hxi⟩ := hf
      rw [if_neg (fun x => e x.symm)]
      cases x with
      | none => simp at hxi
      | some j =>
        simp at hxi
        subst hxi
        simp [List.modify_succ_cons, modify_is hk a b h hx]

theorem aput_new {ke : α → AV} {ve : β → AV} {kk : EqK} (hk : KeyOk kk ke) (a : α) (b : β) : ∀ {es : List (AV × AV × Nat)} {l : List (α × β)}, es.map (fun e => (e.1, e.2.1)) = l.map (fun p => (ke p.1, ve p.2)) → findE kk (ke a) es = some none → aput l a b = l ++ [(a, b)]
  | [], [], _, _ => rfl
  | [], _ :: _, h, _ => by simp at h
  | _ :: _, [], h, _ => by simp at h
  | (k, v, s) :: es, (a', b') :: l, h, hf => by
    simp only [List.map_cons, List.cons.injEq, Prod.mk.injEq] at h
    obtain ⟨⟨rfl, rfl⟩, h⟩ := h
    simp only [findE, hk a a'] at hf
    simp only [aput]
    by_cases e : a = a'
    · subst e; simp at hf
    · rw [decide_eq_false e] at hf
      simp only [Option.map_eq_some_iff] at hf
      obtain ⟨x, hx, hxi⟩ := hf
      rw [if_neg (fun x => e x.symm)]
      cases x with
      | none => rw [aput_new hk a b h hx]; rfl
      | some j => simp at hxi

theorem erase_is {ke : α → AV} {ve : β → AV} {kk : EqK} (hk : KeyOk kk ke) (a : α) : ∀ {es : List (AV × AV × Nat)} {l : List (α × β)} {i : Nat}, es.map (fun e => (e.1, e.2.1)) = l.map (fun p => (ke p.1, ve p.2)) → findE kk (ke a) es = some (some i) →
    (es.eraseIdx i).map (fun e => (e.1, e.2.1)) = (adel l a).map (fun p => (ke p.1, ve p.2))
  | [], [], _, _, hf => by simp [findE] at hf
  | [], _ :: _, _, h, _ => by simp at h
  | _ :: _, [], _, h, _ => by simp at h
  | (k, v, s) :: es, (a', b') :: l, i, h, hf => by
    simp only [List.map_cons, List.cons.injEq, Prod.mk.injEq] at h
    obtain ⟨⟨rfl, rfl⟩, h⟩ := h
    simp only [findE, hk a a'] at hf
    simp only [adel]
    by_cases e : a = a'
    · subst e
      simp at hf
      subst hf
      simp [h]
    · rw [decide_eq_false e] at hf
      simp only [Option.map_eq_some_iff] at hf
      obtain ⟨x, hx, hxi⟩ := hf
      rw [if_neg (fun x => e x.symm)]
      cases x with
      | none => simp at hxi
      | some j =>
        simp at hxi
        subst hxi
        simp [erase_is hk a h hx]

theorem Stamps.modify {f : AV × AV × Nat → AV × AV × Nat} (hf : ∀ e, (f e).2.2 = e.2.2) : ∀ {es : List (AV × AV × Nat)} {c : Nat} (i : Nat), Stamps es c → Stamps (es.modify i f) c ∧ ∀ e, e ∈ es.modify i f → ∃ e', e' ∈ es ∧ e'.2.2 = e.2.2
  | [], _, i, h => by cases i <;> simp [h]
  | (k, v, b) :: es, c, i, h => by
    cases i with
    | zero =>
      simp only [List.modify_zero_cons]
      have hb := hf (k, v, b)
      cases hfe : f (k, v, b) with
      | mk k' vb =>
      obtain ⟨v', b'⟩ := vb
      rw [hfe] at hb
      simp only at hb
      subst hb
      refine ⟨⟨h.1, h.2.1, h.2.2⟩, fun e he => ?_⟩
      rcases List.mem_cons.1 he with rfl | he
      · exact ⟨_, List.mem_cons_self, rfl⟩
      · exact ⟨e, List.mem_cons_of_mem _ he, rfl⟩
    | succ i =>
      simp only [List.modify_succ_cons]
      obtain ⟨h1, h2⟩ := Stamps.modify hf i h.2.2
      refine ⟨⟨h.1, fun e he => ?_, h1⟩, fun e he => ?_⟩
      · obtain ⟨e', he', hb⟩ := h2 e he
        rw [← hb]; exact h.2.1 e' he'
      · rcases List.mem_cons.1 he with rfl | he
        · exact ⟨_, List.mem_cons_self, rfl⟩
        · obtain ⟨e', he', hb⟩ := h2 e he
          exact ⟨e', List.mem_cons_of_mem _ he', hb⟩

theorem Stamps.erase : ∀ {es : List (AV × AV × Nat)} {c : Nat} (i : Nat), Stamps es c → Stamps (es.eraseIdx i) c
  | [], _, i, h => by cases i <;> simp [h]
  | (k, v, b) :: es, c, i, h => by
    cases i with
    | zero => exact h.2.2
    | succ i =>
      simp only [List.eraseIdx_cons_succ]
      exact ⟨h.1, fun e he => h.2.1 e (List.mem_of_mem_eraseIdx he), Stamps.erase i h.2.2⟩

section ops
variable {h : AHeap} {L R : List Chunk} {ke : α → AV} {ve : β → AV} {kk : EqK} {M : Nat} {l : List (α × β)} {C : SemW}

theorem d_lookup (st : St h L) (t : Take L (MpC M ke ve l) R) (hk : KeyOk kk ke) (z : AV) (a : α) : Does (.lookup kk z false) [.map M, ke a] h ((alook l a).elim z ve) h := by
  obtain ⟨cs, ⟨es, clock, rfl, h1, h2, h3⟩, st'⟩ := (st.take t).unpack
  refine ⟨rfl, ?_⟩
  simp only [aop, hk a a, Option.isSome_some, Bool.true_eq_false, if_false, st'.get]
  rcases findE_is hk a h1 with ⟨g1, g2⟩ | ⟨i, b, s, g1, g2, g3⟩
  · rw [g1, g2]; rfl
  · rw [g1, g2]; simp only [g3]; rfl

theorem d_lookupOk (st : St h L) (t : Take L (MpC M ke ve l) R) (hk : KeyOk kk ke) (z : AV) (a : α) : Does (.lookup kk z true) [.map M, ke a] h (.tuple [(alook l a).elim z ve, .bool (alook l a).isSome]) h := by
  obtain ⟨cs, ⟨es, clock, rfl, h1, h2, h3⟩, st'⟩ := (st.take t).unpack
  refine ⟨rfl, ?_⟩
  simp only [aop, hk a a, Option.isSome_some, Bool.true_eq_false, if_false, st'.get]
  rcases findE_is hk a h1 with ⟨g1, g2⟩ | ⟨i, b, s, g1, g2, g3⟩
  · rw [g1, g2]; rfl
  · rw [g1, g2]; simp only [g3]; rfl

omit [DecidableEq α] in
theorem d_lenm (st : St h L) (t : Take L (MpC M ke ve l) R) : Does .lenm [.map M] h (.int .i64 l.length) h := by
  obtain ⟨cs, ⟨es, clock, rfl, h1, h2, h3⟩, st'⟩ := (st.take t).unpack
  refine ⟨rfl, ?_⟩
  have : es.length = l.length := by simpa using congrArg List.length h1
  simp only [aop, st'.get, this]

theorem e_mapput (st : St h L) (t : Take L (MpC M ke ve l) R) (hk : KeyOk kk ke) (a : α) (b : β) : Eff C (.mapput kk) [.map M, ke a, ve b] h fun x h' => x = .tuple [] ∧ St h' (MpC M ke ve (aput l a b) :: R) := .mk (by
  obtain ⟨cs, ⟨es, clock, rfl, h1, h2, h3⟩, st'⟩ := (st.take t).unpack
  rcases findE_is hk a h1 with ⟨g1, g2⟩ | ⟨i, b', s, g1, g2, g3⟩
  · refine Does.do (v := .tuple []) (h1 := h.put M (.map (es ++ [(ke a, ve b, clock)]) (clock + 1))) ⟨rfl, ?_⟩ ⟨rfl, ?_⟩
    · simp only [aop, hk a a, Option.isSome_some, Bool.true_eq_false, if_false, st'.get, g2]
    · refine St.pack (cs := [_]) (st'.put _) ⟨_, _, rfl, ?_, nodup_aput h2, h3.snoc⟩
      rw [aput_new hk a b h1 g2]
      simp [h1]
  · refine Does.do (v := .tuple []) (h1 := h.put M (.map (es.modify i fun e => (ke a, ve b, e.2.2)) clock)) ⟨rfl, ?_⟩ ⟨rfl, ?_⟩
    · simp only [aop, hk a a, Option.isSome_some, Bool.true_eq_false, if_false, st'.get, g2]
    · exact St.pack (cs := [_]) (st'.put _) ⟨_, _, rfl, modify_is hk a b h1 g2, nodup_aput h2, (Stamps.modify (f := fun e => (ke a, ve b, e.2.2)) (fun _ => rfl) i h3).1⟩)

theorem adel_none {l : List (α × β)} {a : α} (h : alook l a = none) : adel l a = l := by
  induction l with
  | nil => rfl
  | cons p l ih =>
    obtain ⟨k, v⟩ := p
    simp only [alook] at h
    simp only [adel]
    by_cases e : k = a
    · rw [if_pos e] at h; cases h
    · rw [if_neg e] at h ⊢; rw [ih h]

theorem e_delete (st : St h L) (t : Take L (MpC M ke ve l) R) (hk : KeyOk kk ke) (a : α) : Eff C (.delete kk) [.map M, ke a] h fun x h' => x = .tuple [] ∧ St h' (MpC M ke ve (adel l a) :: R) := .mk (by
  obtain ⟨cs, ⟨es, clock, rfl, h1, h2, h3⟩, st'⟩ := (st.take t).unpack
  rcases findE_is hk a h1 with ⟨g1, g2⟩ | ⟨i, b', s, g1, g2, g3⟩
  · refine Does.do (v := .tuple []) (h1 := h) ⟨rfl, ?_⟩ ⟨rfl, ?_⟩
    · simp only [aop, hk a a, Option.isSome_some, Bool.true_eq_false, if_false, st'.get, g2]
    · rw [adel_none g1]
      exact St.pack (cs := [_]) st' ⟨_, _, rfl, h1, h2, h3⟩
  · refine Does.do (v := .tuple []) (h1 := h.put M (.map (es.eraseIdx i) clock)) ⟨rfl, ?_⟩ ⟨rfl, ?_⟩
    · simp only [aop, hk a a, Option.isSome_some, Bool.true_eq_false, if_false, st'.get, g2]
    · exact St.pack (cs := [_]) (st'.put _) ⟨_, _, rfl, erase_is hk a h1 g2, (nodup_adel h2).1, h3.erase i⟩)

omit [DecidableEq α] in
theorem e_newmap (st : St h L) (ke : α → AV) (ve : β → AV) : Eff C .mkmap [] h fun x h' => ∃ M, x = .map M ∧ St h' (MpC M ke ve ([] : List (α × β)) :: L) := .mk
  (Does.do (v := .map h.next) (h1 := h.new (.map [] 0)) ⟨rfl, rfl⟩ ⟨h.next, rfl, St.pack (cs := [_]) (st.new _) ⟨[], 0, rfl, rfl, List.nodup_nil, trivial⟩⟩)

end ops
end
end Go.Proofs.Ytjdemlagmamlbaa
