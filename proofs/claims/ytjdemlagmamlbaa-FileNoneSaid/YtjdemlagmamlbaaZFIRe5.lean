/- BY PROGRAM (wip/tool/shake.py): own texts, one behind the other, without what is not needed. -/
import Derived.Control
import Derived.Calls
import Derived.KernelRfl
import Derived.Laws.Sem
import Derived.Laws.Cells
import Derived.Laws.World
import GoSem.Dispatch
import Derived.Laws.StructEq
import Derived.IntWalk
import Derived.WideKeyRuns
import Derived.Laws.BytesArg
import Derived.Orders
import Derived.ChangeArms
import Derived.OpenShut
import Derived.ChangeShapes
import Derived.ProofKit
import Derived.Test.YtjdemlagmamlbaaProg
import Derived.Test.YtjdemlagmamlbaaRows
import Derived.Test.YtjdemlagmamlbaaZFIRe4

namespace Go.Proofs.Ytjdemlagmamlbaa
open Go.ChangeShapes Go.WideShapes Go.ChangeAt Go.RowKit
theorem ownKn : ownKnob Try.prog.godebug = none := by kernel_rfl
theorem laidOut : laidOutB Try.prog = true := by kernel_rfl
theorem enterOk : Try.prog.mayEnter = true := by kernel_rfl
theorem und4 : Try.prog.underlying 4 = some .bool := by kernel_rfl
theorem swapLives : trueD (progD tab 12 (.f n_law09_lives) [] ⟨0, .leaf⟩) = true := by kernel_rfl
theorem overSound : OSound Try.prog over := fun f F hf => by
  simp only [over] at hf
  cases hb : Nat.beq f n_law09_lives with
  | true =>
    rw [hb] at hf
    simp only [cond_true, Option.some.injEq] at hf
    subst hf
    rw [Nat.eq_of_beq_eq_true hb]
    exact ⟨FSound.lives tabSound swapLives, Try.call26⟩
  | false => rw [hb] at hf; cases hf
end Go.Proofs.Ytjdemlagmamlbaa

namespace Go.Proofs.Ytjdemlagmamlbaa
section
variable {h : AHeap} {L R R' : List Chunk} {s x v : AV} {e es b k m : Nat} {d : Dat} {w : Bool} {C : SemW}
theorem okSame_sl {k : Nat} (h : sliceLen v = some k) : okSame v = true := by
  cases v <;> first | rfl | (simp [sliceLen] at h)
/-- a slice of values -/
abbrev VsC (v : AV) (e : Nat) (l : List AV) (w : Bool) : Chunk := SlC v e 1 l.length (.vals l) w
theorem St.vs {l : List AV} (st : St h L) (t : Take L (VsC v e l w) R) : sliceLen v = some l.length ∧ v.notJunk = some v ∧ okSame v = true := by
  obtain ⟨h1, h2, _⟩ := st.slc t
  exact ⟨h1, h2, okSame_sl h1⟩
theorem d_vsIdx {i : Nat} {kk : IntKind} {l : List AV} (st : St h L) (t : Take L (VsC v e l w) R) (h1 : i < l.length) : Does (.indexs 1) [v, .int kk i] h (elemPtr 1 v i) h ∧ (elemPtr 1 v i).notJunk = some (elemPtr 1 v i) :=
  ⟨d_indexs (i := (i : Int)) st t (by omega) (by omega), elemPtr_nj (st.vs t).1 h1⟩
theorem d_vsLoad {i : Nat} {l : List AV} {x : AV} (st : St h L) (t : Take L (VsC v e l w) R) (hx : l[i]? = some x) : Does .load1 [elemPtr 1 v i] h x h :=
  d_loadE st t (List.getElem?_eq_some_iff.1 hx).1 hx
theorem vals_of_take {D : Dat} {off n : Nat} {l : List AV} (h : D.take off n = some (.vals l)) : ∃ c, D = .vals c ∧ off + n ≤ c.length ∧ (c.drop off).take n = l := by
  cases D with
  | vals c =>
    simp only [Dat.take] at h
    split at h
    · rename_i hl; cases h; exact ⟨c, rfl, hl, rfl⟩
    · cases h
  | bytes l n => simp only [Dat.take] at h; split at h <;> cases h
theorem set_in {c l : List AV} {off n i : Nat} {x : AV} (hl : off + n ≤ c.length) (h : (c.drop off).take n = l) (hi : i < n) : Dat.put (.vals c) (off + i) (.vals [x]) = some (.vals (c.set (off + i) x)) ∧ ((c.set (off + i) x).drop off).take n = l.set i x := by
  constructor
  · simp only [Dat.put, List.length_cons, List.length_nil]
    rw [if_pos (by omega), List.set_eq_take_append_cons_drop, if_pos (by omega)]
    simp
  · subst h
    rw [List.drop_set, if_neg (by omega), Nat.add_sub_cancel_left, List.take_set]
theorem e_vsStore {i : Nat} {l : List AV} {x : AV} (st : St h L) (t : Take L (VsC v e l true) R) (hi : i < l.length) (hx : x.dat = .vals [x]) :
    Eff C (.store 1) [elemPtr 1 v i, x] h fun q h' => q = .tuple [] ∧ St h' (VsC v e (l.set i x) true :: R) := .mk (by
  obtain ⟨cs, y, st'⟩ := (st.take t).unpack
  rcases y with ⟨rfl, h0, _⟩ | ⟨rfl, h0, _⟩ | ⟨id, off, cap, D, e', es', sf, rfl, rfl, h3, h4, h5⟩ | ⟨id, idx, D, rfl, rfl, h3, h4, h5⟩
  · omega
  · omega
  · rw [Nat.mul_one] at h3
    obtain ⟨c, rfl, p1, p2⟩ := vals_of_take h3
    obtain ⟨q1, q2⟩ := set_in (x := x) p1 p2 hi
    refine Does.do (v := .tuple []) (h1 := h.put id (.row e' es' sf false (.vals (c.set (off + i) x)))) ⟨rfl, ?_⟩ ⟨rfl, St.pack (cs := [.pt id (.row e' es' sf false (.vals (c.set (off + i) x)))]) (st'.put _) ?_⟩
    · simp only [aop, elemPtr, st'.get, Bool.not_true, Nat.mul_one, hx, q1, Option.map_some]; rfl
    · rw [List.length_set]
      refine .inr (.inr (.inl ⟨id, off, cap, _, e', es', sf, rfl, rfl, ?_, h4, fun _ => by have := h5 rfl; simpa [Dat.len] using this⟩))
      simp only [Dat.take, Nat.mul_one]
      rw [if_pos (by simpa using p1), q2]
  · rw [Nat.mul_one l.length] at h3
    obtain ⟨c, rfl, p1, p2⟩ := vals_of_take h3
    obtain ⟨q1, q2⟩ := set_in (x := x) p1 p2 hi
    refine Does.do (v := .tuple []) (h1 := h.put id (.row e 1 true false (.vals (c.set (idx * 1 + i) x)))) ⟨rfl, ?_⟩ ⟨rfl, St.pack (cs := [.pt id (.row e 1 true false (.vals (c.set (idx * 1 + i) x)))]) (st'.put _) ?_⟩
    · simp only [aop, elemPtr, st'.get, hx]
      rw [show (idx + i) * 1 = idx * 1 + i by omega, q1]; rfl
    · rw [List.length_set]
      refine .inr (.inr (.inr ⟨id, idx, _, rfl, rfl, ?_, rfl, by simpa [Dat.len] using h5⟩))
      simp only [Dat.take]
      rw [Nat.mul_one l.length, if_pos (by simpa using p1), q2])
/-- append one list of values to another -/
theorem e_vsAppend {z : Dat} {l l' : List AV} (st : St h L) (t : Take L (VsC s e l true) R) (t' : Take R (VsC x e l' w) R') (hb : (l.length + l'.length) * b ≤ 2 ^ 40) (hk : l.length + l'.length ≤ 2 ^ 40) :
    Eff C (.append e 1 b z) [s, x] h fun v h' => v.notJunk = some v ∧ sliceLen v = some (l ++ l').length ∧ St h' (VsC v e (l ++ l') true :: VsC x e l' w :: R') := by
  have := e_append (C := C) (z := z) (d'' := .vals (l ++ l')) st t t' rfl (.inl ⟨_, _, rfl, rfl⟩) (fun h0 => by rw [List.eq_nil_of_length_eq_zero h0, List.append_nil])
    (fun h0 => by rw [List.eq_nil_of_length_eq_zero h0, Nat.mul_one]; simp [Dat.take])
    (by rw [Nat.mul_one]; simp only [Dat.take, Nat.zero_add]; rw [if_pos (by simp), List.drop_zero, List.take_of_length_le (by simp)]) hb hk rfl
  rw [← List.length_append] at this
  exact this
/-- a new row of values, as a slice -/
theorem St.vsRow {id n e' es' : Nat} {sf : Bool} {l : List AV} (st : St h L) (t : Take L (.pt id (.row e' es' sf false (.vals l))) R) (hn : n = l.length) : St h (VsC (.sl id 0 n n) e l true :: R) := by
  subst hn
  refine St.pack (cs := [.pt id (.row e' es' sf false (.vals l))]) (st.take t) (.inr (.inr (.inl ⟨id, 0, _, _, e', es', sf, rfl, rfl, ?_, Nat.le_refl _, fun _ => by simp [Dat.len]⟩)))
  simp [Dat.take]
/-- no values -/
theorem St.vsNil (st : St h L) (e : Nat) (w : Bool) : St h (VsC .nilsl e [] w :: L) := St.nilslice st e 1 w
end
end Go.Proofs.Ytjdemlagmamlbaa

namespace Go.Proofs.Ytjdemlagmamlbaa
section
variable {α β : Type} [DecidableEq α]
abbrev encP (ke : α → AV) (ve : β → AV) (p : α × β × Nat) : AV × AV × Nat := (ke p.1, ve p.2.1, p.2.2)
abbrev kvP (p : α × β × Nat) : α × β := (p.1, p.2.1)
/-- a loop over a map: what the map has, the keys that were met, the one that was met last -/
def ItIs (I M : Nat) (ke : α → AV) (ve : β → AV) (l : List (α × β)) (dn : List α) (cur : Option (α × β)) (cs : List Chunk) : Prop :=
  ∃ (l' : List (α × β × Nat)) (clock : Nat) (seen : List Nat), cs = [.pt M (.map (l'.map (encP ke ve)) clock), .pt I (.iter (some M) clock seen clock)] ∧ l'.map kvP = l ∧ (keys l).Nodup ∧ Stamps (l'.map (encP ke ve)) clock ∧
    (∀ p, p ∈ l' → (p.2.2 ∈ seen ↔ p.1 ∈ dn)) ∧ (∀ a b, cur = some (a, b) → ∃ p, p ∈ l' ∧ p.1 = a ∧ p.2.1 = b ∧ seen.getLast? = some p.2.2) ∧ (seen = [] → dn = [])
abbrev ItC (I M : Nat) (ke : α → AV) (ve : β → AV) (l : List (α × β)) (dn : List α) (cur : Option (α × β)) : Chunk := pk 16 (.ptr I 0) (ItIs I M ke ve l dn cur)
omit [DecidableEq α] in
theorem ghost_of {ke : α → AV} {ve : β → AV} : ∀ {es : List (AV × AV × Nat)} {l : List (α × β)}, es.map (fun e => (e.1, e.2.1)) = l.map (fun p => (ke p.1, ve p.2)) → ∃ l' : List (α × β × Nat), l'.map (encP ke ve) = es ∧ l'.map kvP = l
  | [], [], _ => ⟨[], rfl, rfl⟩
  | [], _ :: _, h => by simp at h
  | _ :: _, [], h => by simp at h
  | (k, v, s) :: es, (a, b) :: l, h => by
    simp only [List.map_cons, List.cons.injEq, Prod.mk.injEq] at h
    obtain ⟨⟨rfl, rfl⟩, h⟩ := h
    obtain ⟨l', h1, h2⟩ := ghost_of h
    exact ⟨(a, b, s) :: l', by simp [h1], by simp [h2]⟩
omit [DecidableEq α] in
theorem ghost_map {ke : α → AV} {ve : β → AV} {l' : List (α × β × Nat)} : (l'.map (encP ke ve)).map (fun e => (e.1, e.2.1)) = (l'.map kvP).map (fun p => (ke p.1, ve p.2)) := by
  simp [List.map_map, Function.comp_def]
theorem erase_map {γ δ : Type} (f : γ → δ) : ∀ (l : List γ) (i : Nat), (l.map f).eraseIdx i = (l.eraseIdx i).map f
  | [], _ => rfl
  | _ :: _, 0 => rfl
  | x :: l, i + 1 => by rw [List.map_cons, List.eraseIdx_cons_succ, List.eraseIdx_cons_succ, List.map_cons, erase_map f l i]
theorem alook_mem {l : List (α × β)} (h : (keys l).Nodup) {a : α} {b : β} : alook l a = some b ↔ (a, b) ∈ l := by
  induction l with
  | nil => simp [alook]
  | cons p l ih =>
    obtain ⟨k, v⟩ := p
    simp only [keys, List.map_cons, List.nodup_cons] at h
    simp only [alook, List.mem_cons, Prod.mk.injEq]
    by_cases e : k = a
    · subst e
      rw [if_pos rfl]
      constructor
      · intro h1; cases h1; exact .inl ⟨rfl, rfl⟩
      · rintro (⟨_, rfl⟩ | h1)
        · rfl
        · exact absurd (List.mem_map.2 ⟨_, h1, rfl⟩) h.1
    · rw [if_neg e, ih h.2]
      constructor
      · exact .inr
      · rintro (⟨e1, _⟩ | h1)
        · exact absurd e1.symm e
        · exact h1
theorem adel_filter {l : List (α × β)} (h : (keys l).Nodup) (a : α) : adel l a = l.filter fun p => decide (p.1 ≠ a) := by
  induction l with
  | nil => rfl
  | cons p l ih =>
    obtain ⟨k, v⟩ := p
    simp only [keys, List.map_cons, List.nodup_cons] at h
    simp only [adel]
    by_cases e : k = a
    · subst e
      rw [if_pos rfl, List.filter_cons_of_neg (by simp)]
      symm
      rw [List.filter_eq_self]
      intro q hq
      simp only [ne_eq, decide_not, Bool.not_eq_eq_eq_not, Bool.not_true, decide_eq_false_iff_not]
      intro e
      exact h.1 (List.mem_map.2 ⟨q, hq, e⟩)
    · rw [if_neg e, List.filter_cons_of_pos (by simpa using e), ih h.2]
section ops
variable {h : AHeap} {L R : List Chunk} {ke : α → AV} {ve : β → AV} {kk : EqK} {I M : Nat} {l : List (α × β)} {dn : List α} {cur : Option (α × β)} {C : SemW}
omit [DecidableEq α] in
theorem e_range (st : St h L) (t : Take L (MpC M ke ve l) R) : Eff C .range [.map M] h fun x h' => ∃ I, x = .ptr I 0 ∧ St h' (ItC I M ke ve l [] none :: R) := .mk (by
  obtain ⟨cs, ⟨es, clock, rfl, h1, h2, h3⟩, st'⟩ := (st.take t).unpack
  obtain ⟨l', rfl, rfl⟩ := ghost_of h1
  refine Does.do (v := .ptr h.next 0) (h1 := h.new (.iter (some M) clock [] clock)) ⟨rfl, ?_⟩ ⟨h.next, rfl, ?_⟩
  · simp only [aop, st'.get]
  · exact St.pack (cs := [_, _]) ((st'.new _).perm (List.Perm.swap _ _ _)) ⟨l', clock, [], rfl, rfl, h2, h3, fun p hp => by simp, fun a b e => (by cases e), fun _ => rfl⟩)
omit [DecidableEq α] in
theorem stamps_inj : ∀ {l' : List (α × β × Nat)} {clock : Nat}, Stamps (l'.map (encP ke ve)) clock → ∀ p q, p ∈ l' → q ∈ l' → p.2.2 = q.2.2 → p = q
  | [], _, _, p, q, hp, _, _ => by cases hp
  | x :: l', clock, hs, p, q, hp, hq, e => by
    simp only [List.map_cons, Stamps] at hs
    obtain ⟨_, h2, h3⟩ := hs
    have key : ∀ r, r ∈ l' → x.2.2 < r.2.2 := fun r hr => h2 _ (List.mem_map.2 ⟨r, hr, rfl⟩)
    rcases List.mem_cons.1 hp with h | h
    · rcases List.mem_cons.1 hq with h' | h'
      · rw [h, h']
      · have := key q h'; rw [h] at e; omega
    · rcases List.mem_cons.1 hq with h' | h'
      · have := key p h; rw [h'] at e; omega
      · exact stamps_inj h3 p q h h' e
/-- the next step -/
theorem e_next (st : St h L) (t : Take L (ItC I M ke ve l dn cur) R) : Eff C .next [.ptr I 0] h fun x h' =>
    (∃ a b, alook l a = some b ∧ a ∉ dn ∧ x = .tuple [.bool true, ke a, ve b] ∧ St h' (ItC I M ke ve l (a :: dn) (some (a, b)) :: R)) ∨ ((∀ a, a ∈ keys l → a ∈ dn) ∧ x = .tuple [.bool false] ∧ St h' (ItC I M ke ve l dn cur :: R)) := .mk (by
  obtain ⟨cs, ⟨l', clock, seen, rfl, rfl, h2, h3, h4, h5, h6⟩, st'⟩ := (st.take t).unpack
  have gM := st'.get
  have gI := (st'.perm (List.Perm.swap _ _ _)).get
  simp only [doOpW, nextW, gI, gM]
  refine ⟨?_, fun e he hs => ?_, fun hall => ?_⟩
  · cases l' with
    | nil => exact .inr (.inl rfl)
    | cons p l' => exact .inr (.inr ⟨_, List.mem_cons_self, h3.lt _ List.mem_cons_self⟩)
  · obtain ⟨p, hp, rfl⟩ := List.mem_map.1 he
    refine .inl ⟨p.1, p.2.1, (alook_mem h2).2 (List.mem_map.2 ⟨p, hp, rfl⟩), fun hd => hs ((h4 p hp).2 hd), rfl, ?_⟩
    refine St.pack (cs := [_, _]) (((st'.perm (List.Perm.swap _ _ _)).put _).perm (List.Perm.swap _ _ _)) ⟨l', clock, seen ++ [p.2.2], rfl, rfl, h2, h3, fun q hq => ?_, fun a b e => ?_, fun e => by simp at e⟩
    · rw [List.mem_append, List.mem_singleton, List.mem_cons, h4 q hq]
      constructor
      · rintro (h | h)
        · exact .inr h
        · exact .inl (by rw [stamps_inj h3 q p hq hp h])
      · rintro (h | h)
        · refine .inr ?_
          have e1 := (alook_mem h2).2 (List.mem_map.2 ⟨p, hp, rfl⟩)
          have e2 := (alook_mem h2).2 (List.mem_map.2 ⟨q, hq, rfl⟩)
          have hk : p = q := by
            have hpq : ∀ {l' : List (α × β × Nat)}, (keys (l'.map kvP)).Nodup → p ∈ l' → q ∈ l' → q.1 = p.1 → p = q := by
              intro l'
              induction l' with
              | nil => intro _ hp; cases hp
              | cons x l' ih =>
                intro hn hp hq he
                simp only [keys, List.map_cons, List.nodup_cons] at hn
                rcases List.mem_cons.1 hp with h | h
                · rcases List.mem_cons.1 hq with h' | h'
                  · rw [h, h']
                  · rw [h] at he
                    exact absurd (List.mem_map.2 ⟨_, List.mem_map.2 ⟨q, h', rfl⟩, he⟩) hn.1
                · rcases List.mem_cons.1 hq with h' | h'
                  · rw [h'] at he
                    exact absurd (List.mem_map.2 ⟨_, List.mem_map.2 ⟨p, h, rfl⟩, he.symm⟩) hn.1
                  · exact ih hn.2 h h' he
            exact hpq h2 hp hq h
          rw [hk]
        · exact .inl h
    · cases e
      exact ⟨p, hp, rfl, rfl, by simp⟩
  · refine .inr ⟨fun a ha => ?_, trivial, St.pack (cs := [_, _]) st' ⟨l', clock, seen, rfl, rfl, h2, h3, h4, h5, h6⟩⟩
    simp only [keys, List.mem_map] at ha
    obtain ⟨_, ⟨p, hp, rfl⟩, rfl⟩ := ha
    exact (h4 p hp).1 (hall _ (List.mem_map.2 ⟨p, hp, rfl⟩) (h3.lt _ (List.mem_map.2 ⟨p, hp, rfl⟩))))
omit [DecidableEq α] in
theorem find_stamp : ∀ {l' : List (α × β × Nat)} {clock : Nat}, Stamps (l'.map (encP ke ve)) clock → ∀ p, p ∈ l' → (l'.map (encP ke ve)).find? (fun e => e.2.2 == p.2.2) = some (encP ke ve p)
  | [], _, _, p, hp => by cases hp
  | x :: l', clock, hs, p, hp => by
    simp only [List.map_cons, Stamps] at hs
    obtain ⟨_, h2, h3⟩ := hs
    rcases List.mem_cons.1 hp with rfl | hp
    · simp
    · have : x.2.2 < p.2.2 := h2 _ (List.mem_map.2 ⟨p, hp, rfl⟩)
      rw [List.map_cons, List.find?_cons_of_neg (by simp; omega)]
      exact find_stamp h3 p hp
omit [DecidableEq α] in
theorem d_entry {a : α} {b : β} (st : St h L) (t : Take L (ItC I M ke ve l dn (some (a, b))) R) : Does .entry [.ptr I 0] h (.tuple [ke a, ve b]) h := by
  obtain ⟨cs, ⟨l', clock, seen, rfl, rfl, h2, h3, h4, h5, h6⟩, st'⟩ := (st.take t).unpack
  obtain ⟨p, hp, rfl, rfl, hs⟩ := h5 a b rfl
  have gM := st'.get
  have gI := (st'.perm (List.Perm.swap _ _ _)).get
  refine ⟨rfl, ?_⟩
  simp only [aop, gI, gM, hs, if_true, find_stamp h3 p hp, Option.map_some]
theorem e_itDelete (st : St h L) (t : Take L (ItC I M ke ve l dn cur) R) (hk : KeyOk kk ke) (a : α) : Eff C (.delete kk) [.map M, ke a] h fun x h' => x = .tuple [] ∧ St h' (ItC I M ke ve (adel l a) dn none :: R) := .mk (by
  obtain ⟨cs, ⟨l', clock, seen, rfl, rfl, h2, h3, h4, h5, h6⟩, st'⟩ := (st.take t).unpack
  rcases findE_is hk a (ghost_map (ke := ke) (ve := ve) (l' := l')) with ⟨g1, g2⟩ | ⟨i, b', s, g1, g2, g3⟩
  · refine Does.do (v := .tuple []) (h1 := h) ⟨rfl, ?_⟩ ⟨rfl, ?_⟩
    · simp only [aop, hk a a, Option.isSome_some, Bool.true_eq_false, if_false, st'.get, g2]
    · rw [adel_none g1]
      exact St.pack (cs := [_, _]) st' ⟨l', clock, seen, rfl, rfl, h2, h3, h4, fun _ _ e => (by cases e), h6⟩
  · refine Does.do (v := .tuple []) (h1 := h.put M (.map ((l'.map (encP ke ve)).eraseIdx i) clock)) ⟨rfl, ?_⟩ ⟨rfl, ?_⟩
    · simp only [aop, hk a a, Option.isSome_some, Bool.true_eq_false, if_false, st'.get, g2]
    · have e1 : (l'.map (encP ke ve)).eraseIdx i = (l'.eraseIdx i).map (encP ke ve) := erase_map _ _ _
      have e2 : (l'.eraseIdx i).map kvP = adel (l'.map kvP) a := by
        have key : ∀ {l' : List (α × β × Nat)} {i : Nat}, findE kk (ke a) (l'.map (encP ke ve)) = some (some i) → (l'.eraseIdx i).map kvP = adel (l'.map kvP) a := by
          intro l'
          induction l' with
          | nil => intro i h; simp [findE] at h
          | cons x l' ih =>
            intro i h
            simp only [List.map_cons, findE, hk a x.1] at h
            simp only [List.map_cons, adel]
            by_cases e : x.1 = a
            · rw [decide_eq_true e.symm] at h
              simp at h; subst h
              rw [if_pos e]; rfl
            · rw [decide_eq_false (fun y => e y.symm)] at h
              simp only [Option.map_eq_some_iff] at h
              obtain ⟨y, hy, hyi⟩ := h
              rw [if_neg e]
              cases y with
              | none => simp at hyi
              | some j =>
                simp at hyi; subst hyi
                rw [List.eraseIdx_cons_succ, List.map_cons, ih hy]
        exact key g2
      have st2 := st'.put (.map ((l'.map (encP ke ve)).eraseIdx i) clock)
      rw [e1] at st2 ⊢
      refine St.pack (cs := [_, _]) st2 ⟨l'.eraseIdx i, clock, seen, rfl, e2, (nodup_adel h2).1, by rw [← e1]; exact h3.erase i, fun p hp => h4 p (List.mem_of_mem_eraseIdx hp), fun _ _ e => (by cases e), h6⟩)
omit [DecidableEq α] in
/-- the loop's end -/
theorem St.itEnd (st : St h L) (t : Take L (ItC I M ke ve l dn cur) R) : St h (MpC M ke ve l :: R) := by
  obtain ⟨cs, ⟨l', clock, seen, rfl, rfl, h2, h3, h4, h5, h6⟩, st'⟩ := (st.take t).unpack
  exact St.pack (cs := [_]) (st'.sel (.cons .here (.skip .nil))) ⟨_, clock, rfl, ghost_map, h2, h3⟩
end ops
end
end Go.Proofs.Ytjdemlagmamlbaa

namespace Go.Proofs.Ytjdemlagmamlbaa
abbrev Pl := Int × Int
abbrev pkey (p : Pl) : AV := .agg [.int .i64 p.1, .int .i64 p.2]
theorem keyPl : KeyOk (.flat [.int, .int]) pkey := fun a b => by
  obtain ⟨a1, a2⟩ := a
  obtain ⟨b1, b2⟩ := b
  simp only [avEq, eqFlat, scEq, if_true, Prod.mk.injEq]
  by_cases h1 : a1 = b1
  · by_cases h2 : a2 = b2
    · simp [h1, h2]
    · simp [h1, h2]
  · have : (a1 == b1) = false := by simpa using h1
    rw [this]; simp [h1]
/-- files -/
structure FiS where
  sizes : List Int
  pg : List (Pl × Nat)
  left : Int
def PlOk (l : List (Pl × Nat)) : Prop := ∀ p, p ∈ l → p.2 < 2 ^ (8 * 4096)
abbrev FiS.row (s : FiS) (lv : AV) (M : Nat) : AObj := .row ty_file_Store 4 false false (.vals [.bool true, lv, .map M, .int .i64 s.left])
def FiIs (D : Nat) (s : FiS) (cs : List Chunk) : Prop := ∃ lv M, cs = [.pt D (s.row lv M), VsC lv 3 (s.sizes.map ikey) true, MpC M pkey pageV s.pg] ∧ PlOk s.pg ∧ s.sizes.length ≤ 16
abbrev FiC (D : Nat) (s : FiS) : Chunk := pk 22 (.ptr D 0) (FiIs D s)
variable {D : Nat} {s : FiS}
/-- the walk's facts on what is unpacked -/
theorem FiS.slice {h : AHeap} {L R : List Chunk} {lv : AV} (st : St h L) (t : Take L (VsC lv 3 (s.sizes.map ikey) true) R) : sliceLen lv = some s.sizes.length ∧ lv.notJunk = some lv ∧ okSame lv = true := by
  obtain ⟨a, b, c⟩ := st.vs t
  rw [List.length_map] at a
  exact ⟨a, b, c⟩
theorem file_New : Spec R (.f n_file_New) [] [] fun v Rs => ∃ D, v = .ptr D 0 ∧ Rs = [FiC D ⟨[], [], 0⟩] := by
  refine spec_w (fun _ _ _ x => progI_call rfl rfl x) Njs rfl (fun h F st => ?_); dsimp only [List.cons_append, List.nil_append] at st
  (repeat (first | (show W _ _ _ _ _ _ (.code (cond _ _ _) :: _) _ _; first | refine W.ct ?_ | refine W.cf ?_) | (show W _ _ _ _ _ _ (.ins (cond _ _ _ :: _) :: _) _ _; first | refine W.gt ?_ | refine W.gf ?_) | (show W _ _ _ _ _ _ [] _ _; refine W.of (.done ?_)) | (apply W.of; constructor <;> first | (show W _ _ _ _ _ _ _ _ _) | (intro (al : Nat) h st; show W _ _ _ _ _ _ _ _ _) | (intro _ h st; show W _ _ _ _ _ _ _ _ _) | exact Sd))); refine W.ef (ho := (e_newmap st pkey pageV)) (w := ?_); rintro vv h ⟨M, rfl, st⟩; refine nj ?_
  (repeat (first | (show W _ _ _ _ _ _ (.code (cond _ _ _) :: _) _ _; first | refine W.ct ?_ | refine W.cf ?_) | (show W _ _ _ _ _ _ (.ins (cond _ _ _ :: _) :: _) _ _; first | refine W.gt ?_ | refine W.gf ?_) | (show W _ _ _ _ _ _ [] _ _; refine W.of (.done ?_)) | (apply W.of; constructor <;> first | (show W _ _ _ _ _ _ _ _ _) | (intro (al : Nat) h st; show W _ _ _ _ _ _ _ _ _) | (intro _ h st; show W _ _ _ _ _ _ _ _ _) | exact Sd)))
  have st := st.vsNil 3 true
  exact ⟨_, rfl, _, ⟨_, rfl, rfl⟩, St.packP (cs := [_, _, _]) st ⟨_, M, rfl, fun p hp => absurd hp (by simp), by simp⟩ Pks⟩
theorem file_made : Spec R (.f n_file_Store_made) [.ptr D 0] [FiC D s] fun v Rs => v = .bool true ∧ Rs = [FiC D s] := by
  refine spec_w (fun _ _ _ x => progI_call rfl rfl x) Njs rfl (fun h F st => ?_); dsimp only [List.cons_append, List.nil_append] at st
  obtain ⟨_, ⟨lv, M, rfl, hok⟩, st⟩ := St.unpack st; dsimp only [List.cons_append, List.nil_append] at st
  (repeat (first | (show W _ _ _ _ _ _ (.code (cond _ _ _) :: _) _ _; first | refine W.ct ?_ | refine W.cf ?_) | (show W _ _ _ _ _ _ (.ins (cond _ _ _ :: _) :: _) _ _; first | refine W.gt ?_ | refine W.gf ?_) | (show W _ _ _ _ _ _ [] _ _; refine W.of (.done ?_)) | (apply W.of; constructor <;> first | (show W _ _ _ _ _ _ _ _ _) | (intro (al : Nat) h st; show W _ _ _ _ _ _ _ _ _) | (intro _ h st; show W _ _ _ _ _ _ _ _ _) | exact Sd)))
  exact ⟨_, rfl, _, ⟨rfl, rfl⟩, St.packP (cs := [_, _, _]) st ⟨lv, M, rfl, hok⟩ Pks⟩
/-- a file's size -/
def FiS.size (s : FiS) (id : Int) : Option Int := if 1 ≤ id ∧ id ≤ s.sizes.length then s.sizes[(id - 1).toNat]? else none
theorem size_some {id n : Int} (h : s.size id = some n) : 1 ≤ id ∧ id ≤ s.sizes.length ∧ s.sizes[(id - 1).toNat]? = some n := by
  unfold FiS.size at h
  split at h
  · rename_i g; exact ⟨g.1, g.2, h⟩
  · cases h
theorem size_none {id : Int} (h : s.size id = none) : ¬ (1 ≤ id ∧ id ≤ s.sizes.length) := by
  unfold FiS.size at h
  intro g
  rw [if_pos g] at h
  rw [List.getElem?_eq_none_iff] at h
  omega
theorem file_Size {id : Int} : Spec R (.f n_file_Store_Size) [.ptr D 0, .int .i64 id] [FiC D s] fun v Rs => v = .tuple [.int .i64 ((s.size id).getD 0), .bool (s.size id).isSome] ∧ Rs = [FiC D s] := by
  refine spec_w (fun _ _ _ x => progI_call rfl rfl x) Njs rfl (fun h F st => ?_); dsimp only [List.cons_append, List.nil_append] at st
  (repeat (first | (show W _ _ _ _ _ _ (.code (cond _ _ _) :: _) _ _; first | refine W.ct ?_ | refine W.cf ?_) | (show W _ _ _ _ _ _ (.ins (cond _ _ _ :: _) :: _) _ _; first | refine W.gt ?_ | refine W.gf ?_) | (show W _ _ _ _ _ _ [] _ _; refine W.of (.done ?_)) | (apply W.of; constructor <;> first | (show W _ _ _ _ _ _ _ _ _) | (intro (al : Nat) h st; show W _ _ _ _ _ _ _ _ _) | (intro _ h st; show W _ _ _ _ _ _ _ _ _) | exact Sd))); refine W.call (hs := file_made) (w := ?_); rintro vv _ ⟨rfl, rfl⟩ h st; refine nj ?_; dsimp only [List.cons_append, List.nil_append] at st
  obtain ⟨_, ⟨lv, M, rfl, hok⟩, st⟩ := St.unpack st; dsimp only [List.cons_append, List.nil_append] at st
  obtain ⟨hl, hj, _⟩ := FiS.slice st Tk
  (repeat (first | (show W _ _ _ _ _ _ (.code (cond _ _ _) :: _) _ _; first | refine W.ct ?_ | refine W.cf ?_) | (show W _ _ _ _ _ _ (.ins (cond _ _ _ :: _) :: _) _ _; first | refine W.gt ?_ | refine W.gf ?_) | (show W _ _ _ _ _ _ [] _ _; refine W.of (.done ?_)) | (apply W.of; constructor <;> first | (show W _ _ _ _ _ _ _ _ _) | (intro (al : Nat) h st; show W _ _ _ _ _ _ _ _ _) | (intro _ h st; show W _ _ _ _ _ _ _ _ _) | exact Sd)))
  cases hs : s.size id with
  | none =>
    have hn := size_none hs
    by_cases h1 : id < 1
    · (repeat (first | (show W _ _ _ _ _ _ (.code (cond _ _ _) :: _) _ _; first | refine W.ct ?_ | refine W.cf ?_) | (show W _ _ _ _ _ _ (.ins (cond _ _ _ :: _) :: _) _ _; first | refine W.gt ?_ | refine W.gf ?_) | (show W _ _ _ _ _ _ [] _ _; refine W.of (.done ?_)) | (apply W.of; constructor <;> first | (show W _ _ _ _ _ _ _ _ _) | (intro (al : Nat) h st; show W _ _ _ _ _ _ _ _ _) | (intro _ h st; show W _ _ _ _ _ _ _ _ _) | exact Sd)))
      exact ⟨_, rfl, _, ⟨rfl, rfl⟩, St.packP (cs := [_, _, _]) st ⟨lv, M, rfl, hok⟩ Pks⟩
    · (repeat (first | (show W _ _ _ _ _ _ (.code (cond _ _ _) :: _) _ _; first | refine W.ct ?_ | refine W.cf ?_) | (show W _ _ _ _ _ _ (.ins (cond _ _ _ :: _) :: _) _ _; first | refine W.gt ?_ | refine W.gf ?_) | (show W _ _ _ _ _ _ [] _ _; refine W.of (.done ?_)) | (apply W.of; constructor <;> first | (show W _ _ _ _ _ _ _ _ _) | (intro (al : Nat) h st; show W _ _ _ _ _ _ _ _ _) | (intro _ h st; show W _ _ _ _ _ _ _ _ _) | exact Sd)))
      exact ⟨_, rfl, _, ⟨rfl, rfl⟩, St.packP (cs := [_, _, _]) st ⟨lv, M, rfl, hok⟩ Pks⟩
  | some n =>
    obtain ⟨h1, h2, h3⟩ := size_some hs
    have hb := hok.2
    (repeat (first | (show W _ _ _ _ _ _ (.code (cond _ _ _) :: _) _ _; first | refine W.ct ?_ | refine W.cf ?_) | (show W _ _ _ _ _ _ (.ins (cond _ _ _ :: _) :: _) _ _; first | refine W.gt ?_ | refine W.gf ?_) | (show W _ _ _ _ _ _ [] _ _; refine W.of (.done ?_)) | (apply W.of; constructor <;> first | (show W _ _ _ _ _ _ _ _ _) | (intro (al : Nat) h st; show W _ _ _ _ _ _ _ _ _) | (intro _ h st; show W _ _ _ _ _ _ _ _ _) | exact Sd)))
    obtain ⟨gp, gq⟩ := d_vsIdx (l := s.sizes.map ikey) (i := (id - 1).toNat) (kk := .i64) st Tk (by rw [List.length_map]; omega)
    rw [show (((id - 1).toNat : Nat) : Int) = id - 1 by omega] at gp
    (repeat (first | (show W _ _ _ _ _ _ (.code (cond _ _ _) :: _) _ _; first | refine W.ct ?_ | refine W.cf ?_) | (show W _ _ _ _ _ _ (.ins (cond _ _ _ :: _) :: _) _ _; first | refine W.gt ?_ | refine W.gf ?_) | (show W _ _ _ _ _ _ [] _ _; refine W.of (.done ?_)) | (apply W.of; constructor <;> first | (show W _ _ _ _ _ _ _ _ _) | (intro (al : Nat) h st; show W _ _ _ _ _ _ _ _ _) | (intro _ h st; show W _ _ _ _ _ _ _ _ _) | exact Sd))); refine W.do (ho := gp) (w := ?_)
    (repeat (first | (show W _ _ _ _ _ _ (.code (cond _ _ _) :: _) _ _; first | refine W.ct ?_ | refine W.cf ?_) | (show W _ _ _ _ _ _ (.ins (cond _ _ _ :: _) :: _) _ _; first | refine W.gt ?_ | refine W.gf ?_) | (show W _ _ _ _ _ _ [] _ _; refine W.of (.done ?_)) | (apply W.of; constructor <;> first | (show W _ _ _ _ _ _ _ _ _) | (intro (al : Nat) h st; show W _ _ _ _ _ _ _ _ _) | (intro _ h st; show W _ _ _ _ _ _ _ _ _) | exact Sd))); refine W.do (ho := (d_vsLoad (l := s.sizes.map ikey) st Tk (by rw [List.getElem?_map, h3]; rfl))) (w := ?_)
    (repeat (first | (show W _ _ _ _ _ _ (.code (cond _ _ _) :: _) _ _; first | refine W.ct ?_ | refine W.cf ?_) | (show W _ _ _ _ _ _ (.ins (cond _ _ _ :: _) :: _) _ _; first | refine W.gt ?_ | refine W.gf ?_) | (show W _ _ _ _ _ _ [] _ _; refine W.of (.done ?_)) | (apply W.of; constructor <;> first | (show W _ _ _ _ _ _ _ _ _) | (intro (al : Nat) h st; show W _ _ _ _ _ _ _ _ _) | (intro _ h st; show W _ _ _ _ _ _ _ _ _) | exact Sd)))
    exact ⟨_, rfl, _, ⟨rfl, rfl⟩, St.packP (cs := [_, _, _]) st ⟨lv, M, rfl, hok⟩ Pks⟩
theorem file_known {id : Int} : Spec R (.f n_file_Store_known) [.ptr D 0, .int .i64 id] [FiC D s] fun v Rs => v = .tuple [.int .i64 ((s.size id).getD 0), .int .i64 (if (s.size id).isSome then 0 else 7)] ∧ Rs = [FiC D s] := by
  refine spec_w (fun _ _ _ x => progI_call rfl rfl x) Njs rfl (fun h F st => ?_); dsimp only [List.cons_append, List.nil_append] at st
  (repeat (first | (show W _ _ _ _ _ _ (.code (cond _ _ _) :: _) _ _; first | refine W.ct ?_ | refine W.cf ?_) | (show W _ _ _ _ _ _ (.ins (cond _ _ _ :: _) :: _) _ _; first | refine W.gt ?_ | refine W.gf ?_) | (show W _ _ _ _ _ _ [] _ _; refine W.of (.done ?_)) | (apply W.of; constructor <;> first | (show W _ _ _ _ _ _ _ _ _) | (intro (al : Nat) h st; show W _ _ _ _ _ _ _ _ _) | (intro _ h st; show W _ _ _ _ _ _ _ _ _) | exact Sd))); refine W.call (hs := file_made) (w := ?_); rintro vv _ ⟨rfl, rfl⟩ h st; refine nj ?_; dsimp only [List.cons_append, List.nil_append] at st
  (repeat (first | (show W _ _ _ _ _ _ (.code (cond _ _ _) :: _) _ _; first | refine W.ct ?_ | refine W.cf ?_) | (show W _ _ _ _ _ _ (.ins (cond _ _ _ :: _) :: _) _ _; first | refine W.gt ?_ | refine W.gf ?_) | (show W _ _ _ _ _ _ [] _ _; refine W.of (.done ?_)) | (apply W.of; constructor <;> first | (show W _ _ _ _ _ _ _ _ _) | (intro (al : Nat) h st; show W _ _ _ _ _ _ _ _ _) | (intro _ h st; show W _ _ _ _ _ _ _ _ _) | exact Sd))); refine W.call (hs := file_Size) (w := ?_); rintro vv _ ⟨rfl, rfl⟩ h st; refine nj ?_; dsimp only [List.cons_append, List.nil_append] at st
  (repeat (first | (show W _ _ _ _ _ _ (.code (cond _ _ _) :: _) _ _; first | refine W.ct ?_ | refine W.cf ?_) | (show W _ _ _ _ _ _ (.ins (cond _ _ _ :: _) :: _) _ _; first | refine W.gt ?_ | refine W.gf ?_) | (show W _ _ _ _ _ _ [] _ _; refine W.of (.done ?_)) | (apply W.of; constructor <;> first | (show W _ _ _ _ _ _ _ _ _) | (intro (al : Nat) h st; show W _ _ _ _ _ _ _ _ _) | (intro _ h st; show W _ _ _ _ _ _ _ _ _) | exact Sd)))
  cases hs : s.size id with
  | none =>
    (repeat (first | (show W _ _ _ _ _ _ (.code (cond _ _ _) :: _) _ _; first | refine W.ct ?_ | refine W.cf ?_) | (show W _ _ _ _ _ _ (.ins (cond _ _ _ :: _) :: _) _ _; first | refine W.gt ?_ | refine W.gf ?_) | (show W _ _ _ _ _ _ [] _ _; refine W.of (.done ?_)) | (apply W.of; constructor <;> first | (show W _ _ _ _ _ _ _ _ _) | (intro (al : Nat) h st; show W _ _ _ _ _ _ _ _ _) | (intro _ h st; show W _ _ _ _ _ _ _ _ _) | exact Sd)))
    exact ⟨_, rfl, _, ⟨rfl, rfl⟩, st⟩
  | some n =>
    (repeat (first | (show W _ _ _ _ _ _ (.code (cond _ _ _) :: _) _ _; first | refine W.ct ?_ | refine W.cf ?_) | (show W _ _ _ _ _ _ (.ins (cond _ _ _ :: _) :: _) _ _; first | refine W.gt ?_ | refine W.gf ?_) | (show W _ _ _ _ _ _ [] _ _; refine W.of (.done ?_)) | (apply W.of; constructor <;> first | (show W _ _ _ _ _ _ _ _ _) | (intro (al : Nat) h st; show W _ _ _ _ _ _ _ _ _) | (intro _ h st; show W _ _ _ _ _ _ _ _ _) | exact Sd)))
    exact ⟨_, rfl, _, ⟨rfl, rfl⟩, st⟩
theorem file_known_n {id : Int} (hs : s.size id = none) : Spec R (.f n_file_Store_known) [.ptr D 0, .int .i64 id] [FiC D s] fun v Rs => v = .tuple [.int .i64 0, .int .i64 7] ∧ Rs = [FiC D s] := by
  have := file_known (D := D) (s := s) (id := id); rw [hs] at this; exact this
theorem file_known_s {id z : Int} (hs : s.size id = some z) : Spec R (.f n_file_Store_known) [.ptr D 0, .int .i64 id] [FiC D s] fun v Rs => v = .tuple [.int .i64 z, .int .i64 0] ∧ Rs = [FiC D s] := by
  have := file_known (D := D) (s := s) (id := id); rw [hs] at this; exact this
/-- what Make does -/
def FiS.make (s : FiS) (n : Int) : FiS × Int × Int :=
  if n < 0 ∨ n > 4096 then (s, 0, 2) else if s.sizes.length ≥ 16 then (s, 0, 5) else ({ s with sizes := s.sizes ++ [n] }, s.sizes.length + 1, 0)
theorem file_Make {n : Int} : Spec R (.f n_file_Store_Make) [.ptr D 0, .int .i64 n] [FiC D s] fun v Rs => v = .tuple [.int .i64 (s.make n).2.1, .int .i64 (s.make n).2.2] ∧ Rs = [FiC D (s.make n).1] := by
  refine spec_w (fun _ _ _ x => progI_call rfl rfl x) Njs rfl (fun h F st => ?_); dsimp only [List.cons_append, List.nil_append] at st
  (repeat (first | (show W _ _ _ _ _ _ (.code (cond _ _ _) :: _) _ _; first | refine W.ct ?_ | refine W.cf ?_) | (show W _ _ _ _ _ _ (.ins (cond _ _ _ :: _) :: _) _ _; first | refine W.gt ?_ | refine W.gf ?_) | (show W _ _ _ _ _ _ [] _ _; refine W.of (.done ?_)) | (apply W.of; constructor <;> first | (show W _ _ _ _ _ _ _ _ _) | (intro (al : Nat) h st; show W _ _ _ _ _ _ _ _ _) | (intro _ h st; show W _ _ _ _ _ _ _ _ _) | exact Sd))); refine W.call (hs := file_made) (w := ?_); rintro vv _ ⟨rfl, rfl⟩ h st; refine nj ?_; dsimp only [List.cons_append, List.nil_append] at st
  unfold FiS.make
  by_cases h1 : n < 0
  · rw [if_pos (.inl h1)]
    (repeat (first | (show W _ _ _ _ _ _ (.code (cond _ _ _) :: _) _ _; first | refine W.ct ?_ | refine W.cf ?_) | (show W _ _ _ _ _ _ (.ins (cond _ _ _ :: _) :: _) _ _; first | refine W.gt ?_ | refine W.gf ?_) | (show W _ _ _ _ _ _ [] _ _; refine W.of (.done ?_)) | (apply W.of; constructor <;> first | (show W _ _ _ _ _ _ _ _ _) | (intro (al : Nat) h st; show W _ _ _ _ _ _ _ _ _) | (intro _ h st; show W _ _ _ _ _ _ _ _ _) | exact Sd)))
    exact ⟨_, rfl, _, ⟨rfl, rfl⟩, st⟩
  · by_cases h2 : n > 4096
    · rw [if_pos (.inr h2)]
      (repeat (first | (show W _ _ _ _ _ _ (.code (cond _ _ _) :: _) _ _; first | refine W.ct ?_ | refine W.cf ?_) | (show W _ _ _ _ _ _ (.ins (cond _ _ _ :: _) :: _) _ _; first | refine W.gt ?_ | refine W.gf ?_) | (show W _ _ _ _ _ _ [] _ _; refine W.of (.done ?_)) | (apply W.of; constructor <;> first | (show W _ _ _ _ _ _ _ _ _) | (intro (al : Nat) h st; show W _ _ _ _ _ _ _ _ _) | (intro _ h st; show W _ _ _ _ _ _ _ _ _) | exact Sd)))
      exact ⟨_, rfl, _, ⟨rfl, rfl⟩, st⟩
    · rw [if_neg (by omega)]
      obtain ⟨_, ⟨lv, M, rfl, hok⟩, st⟩ := St.unpack st; dsimp only [List.cons_append, List.nil_append] at st
      obtain ⟨hl, hj, _⟩ := FiS.slice st Tk
      have hb := hok.2
      by_cases h3 : s.sizes.length ≥ 16
      · rw [if_pos h3]
        (repeat (first | (show W _ _ _ _ _ _ (.code (cond _ _ _) :: _) _ _; first | refine W.ct ?_ | refine W.cf ?_) | (show W _ _ _ _ _ _ (.ins (cond _ _ _ :: _) :: _) _ _; first | refine W.gt ?_ | refine W.gf ?_) | (show W _ _ _ _ _ _ [] _ _; refine W.of (.done ?_)) | (apply W.of; constructor <;> first | (show W _ _ _ _ _ _ _ _ _) | (intro (al : Nat) h st; show W _ _ _ _ _ _ _ _ _) | (intro _ h st; show W _ _ _ _ _ _ _ _ _) | exact Sd)))
        exact ⟨_, rfl, _, ⟨rfl, rfl⟩, St.packP (cs := [_, _, _]) st ⟨lv, M, rfl, hok⟩ Pks⟩
      · rw [if_neg h3]
        (repeat (first | (show W _ _ _ _ _ _ (.code (cond _ _ _) :: _) _ _; first | refine W.ct ?_ | refine W.cf ?_) | (show W _ _ _ _ _ _ (.ins (cond _ _ _ :: _) :: _) _ _; first | refine W.gt ?_ | refine W.gf ?_) | (show W _ _ _ _ _ _ [] _ _; refine W.of (.done ?_)) | (apply W.of; constructor <;> first | (show W _ _ _ _ _ _ _ _ _) | (intro (al : Nat) h st; show W _ _ _ _ _ _ _ _ _) | (intro _ h st; show W _ _ _ _ _ _ _ _ _) | exact Sd)))
        have st := St.vsRow (l := [.int .i64 n]) (e := 3) st Tk rfl
        (repeat (first | (show W _ _ _ _ _ _ (.code (cond _ _ _) :: _) _ _; first | refine W.ct ?_ | refine W.cf ?_) | (show W _ _ _ _ _ _ (.ins (cond _ _ _ :: _) :: _) _ _; first | refine W.gt ?_ | refine W.gf ?_) | (show W _ _ _ _ _ _ [] _ _; refine W.of (.done ?_)) | (apply W.of; constructor <;> first | (show W _ _ _ _ _ _ _ _ _) | (intro (al : Nat) h st; show W _ _ _ _ _ _ _ _ _) | (intro _ h st; show W _ _ _ _ _ _ _ _ _) | exact Sd))); refine W.ef (ho := (e_vsAppend (l := s.sizes.map ikey) (l' := [.int .i64 n]) st Tk Tk (by simp; omega) (by simp; omega))) (w := ?_); rintro vv h ⟨bj, bl, st⟩; refine nj ?_
        obtain ⟨l2, rfl⟩ : ∃ y, y = vv := ⟨_, rfl⟩
        have bl' : sliceLen l2 = some (s.sizes.length + 1) := by rw [bl]; simp
        (repeat (first | (show W _ _ _ _ _ _ (.code (cond _ _ _) :: _) _ _; first | refine W.ct ?_ | refine W.cf ?_) | (show W _ _ _ _ _ _ (.ins (cond _ _ _ :: _) :: _) _ _; first | refine W.gt ?_ | refine W.gf ?_) | (show W _ _ _ _ _ _ [] _ _; refine W.of (.done ?_)) | (apply W.of; constructor <;> first | (show W _ _ _ _ _ _ _ _ _) | (intro (al : Nat) h st; show W _ _ _ _ _ _ _ _ _) | (intro _ h st; show W _ _ _ _ _ _ _ _ _) | exact Sd))); refine W.ef0 (ho := (e_storeV (i := 1) st Tk rfl (by simp) (sl_dat bl))) (w := ?_); rintro _ h ⟨_, st⟩
        (repeat (first | (show W _ _ _ _ _ _ (.code (cond _ _ _) :: _) _ _; first | refine W.ct ?_ | refine W.cf ?_) | (show W _ _ _ _ _ _ (.ins (cond _ _ _ :: _) :: _) _ _; first | refine W.gt ?_ | refine W.gf ?_) | (show W _ _ _ _ _ _ [] _ _; refine W.of (.done ?_)) | (apply W.of; constructor <;> first | (show W _ _ _ _ _ _ _ _ _) | (intro (al : Nat) h st; show W _ _ _ _ _ _ _ _ _) | (intro _ h st; show W _ _ _ _ _ _ _ _ _) | exact Sd)))
        rw [show (s.sizes.map ikey ++ [.int .i64 n]) = (s.sizes ++ [n]).map ikey by rw [List.map_append]; rfl] at st
        have st := St.packP (t := 22) (k := .ptr D 0) (P := FiIs D { s with sizes := s.sizes ++ [n] }) st ⟨l2, M, rfl, hok.1, by simp; omega⟩ Pks
        exact ⟨_, rfl, _, ⟨rfl, rfl⟩, st.sel Sels⟩
/-- a page's content -/
def FiS.cell (s : FiS) (p : Pl) : Nat := (alook s.pg p).getD 0
theorem plOk_at {l : List (Pl × Nat)} (h : PlOk l) (p : Pl) : (alook l p).getD 0 < 2 ^ (8 * 4096) := by
  induction l with
  | nil => exact page_pos
  | cons a l ih =>
    obtain ⟨k, v⟩ := a
    simp only [alook]
    split
    · exact h _ List.mem_cons_self
    · exact ih fun q hq => h q (List.mem_cons_of_mem _ hq)
theorem d_lookPl {h : AHeap} {L R : List Chunk} {M : Nat} {l : List (Pl × Nat)} (st : St h L) (t : Take L (MpC M pkey pageV l) R) (p : Pl) :
    Does (.lookup (.flat [.int, .int]) (.bytes 4096 0) false) [.map M, .agg [.int .i64 p.1, .int .i64 p.2]] h (.bytes 4096 ((alook l p).getD 0)) h := by
  have e := d_lookup st t keyPl (.bytes 4096 0) p
  have e2 : (alook l p).elim (.bytes 4096 0) pageV = .bytes 4096 ((alook l p).getD 0) := by cases alook l p <;> rfl
  rw [← e2]; exact e
/-- is it a page of a file? -/
def FiS.ok (s : FiS) (id n : Int) : Bool := match s.size id with
  | none => false
  | some z => decide (0 ≤ n ∧ n < z)
theorem ok_none {id n : Int} (h : s.size id = none) : s.ok id n = false := by unfold FiS.ok; rw [h]
theorem ok_some {id n z : Int} (h : s.size id = some z) : s.ok id n = decide (0 ≤ n ∧ n < z) := by unfold FiS.ok; rw [h]
/-- what Peek tells -/
def FiS.pk (s : FiS) (id n : Int) : Nat × Nat := if s.ok id n = true then (4096, s.cell (id, n)) else (0, 0)
/-- a call more; does it fail? -/
def FiS.tick (s : FiS) : FiS := if s.left > 0 then { s with left := s.left - 1 } else s
def FiS.bad (s : FiS) : Bool := decide (s.left = 1)
structure AtV where
  s : FiS
  e : Int
def FiS.at' (s : FiS) (id n : Int) (g : Bool) : AtV := if (s.size id).isNone = true then ⟨s, 7⟩ else if s.ok id n = true ∧ g = true then ⟨s.tick, if s.bad then 6 else 0⟩ else ⟨s, 2⟩
theorem file_at {id n : Int} {g : Bool} (hlo : s.left ≤ 9223372036854775807) : Spec R (.f n_file_Store_at) [.ptr D 0, .int .i64 id, .int .i64 n, .bool g] [FiC D s] fun v Rs =>
    ∃ p : Pl, ((s.at' id n g).e = 0 → p = (id, n)) ∧ v = .tuple [pkey p, .int .i64 (s.at' id n g).e] ∧ Rs = [FiC D (s.at' id n g).s] := by
  refine spec_w (fun _ _ _ x => progI_call rfl rfl x) Njs rfl (fun h F st => ?_); dsimp only [List.cons_append, List.nil_append] at st
  unfold FiS.at'
  cases hs : s.size id with
  | none =>
    (repeat (first | (show W _ _ _ _ _ _ (.code (cond _ _ _) :: _) _ _; first | refine W.ct ?_ | refine W.cf ?_) | (show W _ _ _ _ _ _ (.ins (cond _ _ _ :: _) :: _) _ _; first | refine W.gt ?_ | refine W.gf ?_) | (show W _ _ _ _ _ _ [] _ _; refine W.of (.done ?_)) | (apply W.of; constructor <;> first | (show W _ _ _ _ _ _ _ _ _) | (intro (al : Nat) h st; show W _ _ _ _ _ _ _ _ _) | (intro _ h st; show W _ _ _ _ _ _ _ _ _) | exact Sd))); refine W.call (hs := (file_known_n hs)) (w := ?_); rintro vv _ ⟨rfl, rfl⟩ h st; refine nj ?_; dsimp only [List.cons_append, List.nil_append] at st
    (repeat (first | (show W _ _ _ _ _ _ (.code (cond _ _ _) :: _) _ _; first | refine W.ct ?_ | refine W.cf ?_) | (show W _ _ _ _ _ _ (.ins (cond _ _ _ :: _) :: _) _ _; first | refine W.gt ?_ | refine W.gf ?_) | (show W _ _ _ _ _ _ [] _ _; refine W.of (.done ?_)) | (apply W.of; constructor <;> first | (show W _ _ _ _ _ _ _ _ _) | (intro (al : Nat) h st; show W _ _ _ _ _ _ _ _ _) | (intro _ h st; show W _ _ _ _ _ _ _ _ _) | exact Sd)))
    exact ⟨_, res_cell rfl (d_loadn (n := 2) (off := 0) (st.get' Tk) rfl) rfl, _, ⟨(0, 0), fun h => absurd h (by simp), rfl, rfl⟩, st.sel Sels⟩
  | some z =>
    rw [ok_some hs, if_neg (by simp)]
    (repeat (first | (show W _ _ _ _ _ _ (.code (cond _ _ _) :: _) _ _; first | refine W.ct ?_ | refine W.cf ?_) | (show W _ _ _ _ _ _ (.ins (cond _ _ _ :: _) :: _) _ _; first | refine W.gt ?_ | refine W.gf ?_) | (show W _ _ _ _ _ _ [] _ _; refine W.of (.done ?_)) | (apply W.of; constructor <;> first | (show W _ _ _ _ _ _ _ _ _) | (intro (al : Nat) h st; show W _ _ _ _ _ _ _ _ _) | (intro _ h st; show W _ _ _ _ _ _ _ _ _) | exact Sd))); refine W.call (hs := (file_known_s hs)) (w := ?_); rintro vv _ ⟨rfl, rfl⟩ h st; refine nj ?_; dsimp only [List.cons_append, List.nil_append] at st
    by_cases h1 : n < 0
    · rw [if_neg (by simp; omega)]
      (repeat (first | (show W _ _ _ _ _ _ (.code (cond _ _ _) :: _) _ _; first | refine W.ct ?_ | refine W.cf ?_) | (show W _ _ _ _ _ _ (.ins (cond _ _ _ :: _) :: _) _ _; first | refine W.gt ?_ | refine W.gf ?_) | (show W _ _ _ _ _ _ [] _ _; refine W.of (.done ?_)) | (apply W.of; constructor <;> first | (show W _ _ _ _ _ _ _ _ _) | (intro (al : Nat) h st; show W _ _ _ _ _ _ _ _ _) | (intro _ h st; show W _ _ _ _ _ _ _ _ _) | exact Sd)))
      exact ⟨_, res_cell rfl (d_loadn (n := 2) (off := 0) (st.get' Tk) rfl) rfl, _, ⟨(0, 0), fun h => absurd h (by simp), rfl, rfl⟩, st.sel Sels⟩
    · by_cases h2 : n < z
      · cases g with
        | false =>
          rw [if_neg (by simp)]
          (repeat (first | (show W _ _ _ _ _ _ (.code (cond _ _ _) :: _) _ _; first | refine W.ct ?_ | refine W.cf ?_) | (show W _ _ _ _ _ _ (.ins (cond _ _ _ :: _) :: _) _ _; first | refine W.gt ?_ | refine W.gf ?_) | (show W _ _ _ _ _ _ [] _ _; refine W.of (.done ?_)) | (apply W.of; constructor <;> first | (show W _ _ _ _ _ _ _ _ _) | (intro (al : Nat) h st; show W _ _ _ _ _ _ _ _ _) | (intro _ h st; show W _ _ _ _ _ _ _ _ _) | exact Sd)))
          exact ⟨_, res_cell rfl (d_loadn (n := 2) (off := 0) (st.get' Tk) rfl) rfl, _, ⟨(0, 0), fun h => absurd h (by simp), rfl, rfl⟩, st.sel Sels⟩
        | true =>
          rw [if_pos ⟨decide_eq_true ⟨by omega, h2⟩, rfl⟩]
          (repeat (first | (show W _ _ _ _ _ _ (.code (cond _ _ _) :: _) _ _; first | refine W.ct ?_ | refine W.cf ?_) | (show W _ _ _ _ _ _ (.ins (cond _ _ _ :: _) :: _) _ _; first | refine W.gt ?_ | refine W.gf ?_) | (show W _ _ _ _ _ _ [] _ _; refine W.of (.done ?_)) | (apply W.of; constructor <;> first | (show W _ _ _ _ _ _ _ _ _) | (intro (al : Nat) h st; show W _ _ _ _ _ _ _ _ _) | (intro _ h st; show W _ _ _ _ _ _ _ _ _) | exact Sd)))
          obtain ⟨_, ⟨lv, M, rfl, hok⟩, st⟩ := St.unpack st; dsimp only [List.cons_append, List.nil_append] at st
          unfold FiS.tick FiS.bad
          by_cases h3 : s.left > 0
          · rw [if_pos h3]
            (repeat (first | (show W _ _ _ _ _ _ (.code (cond _ _ _) :: _) _ _; first | refine W.ct ?_ | refine W.cf ?_) | (show W _ _ _ _ _ _ (.ins (cond _ _ _ :: _) :: _) _ _; first | refine W.gt ?_ | refine W.gf ?_) | (show W _ _ _ _ _ _ [] _ _; refine W.of (.done ?_)) | (apply W.of; constructor <;> first | (show W _ _ _ _ _ _ _ _ _) | (intro (al : Nat) h st; show W _ _ _ _ _ _ _ _ _) | (intro _ h st; show W _ _ _ _ _ _ _ _ _) | exact Sd)))
            by_cases h4 : s.left = 1
            · rw [decide_eq_true h4]
              (repeat (first | (show W _ _ _ _ _ _ (.code (cond _ _ _) :: _) _ _; first | refine W.ct ?_ | refine W.cf ?_) | (show W _ _ _ _ _ _ (.ins (cond _ _ _ :: _) :: _) _ _; first | refine W.gt ?_ | refine W.gf ?_) | (show W _ _ _ _ _ _ [] _ _; refine W.of (.done ?_)) | (apply W.of; constructor <;> first | (show W _ _ _ _ _ _ _ _ _) | (intro (al : Nat) h st; show W _ _ _ _ _ _ _ _ _) | (intro _ h st; show W _ _ _ _ _ _ _ _ _) | exact Sd)))
              have st := St.packP (t := 22) (k := .ptr D 0) (P := FiIs D { s with left := s.left - 1 }) st ⟨lv, M, rfl, hok⟩ Pks
              exact ⟨_, res_cell rfl (d_loadn (n := 2) (off := 0) (st.get' Tk) rfl) rfl, _, ⟨(0, 0), fun h => absurd h (by simp), rfl, rfl⟩, st.sel Sels⟩
            · rw [decide_eq_false h4]
              (repeat (first | (show W _ _ _ _ _ _ (.code (cond _ _ _) :: _) _ _; first | refine W.ct ?_ | refine W.cf ?_) | (show W _ _ _ _ _ _ (.ins (cond _ _ _ :: _) :: _) _ _; first | refine W.gt ?_ | refine W.gf ?_) | (show W _ _ _ _ _ _ [] _ _; refine W.of (.done ?_)) | (apply W.of; constructor <;> first | (show W _ _ _ _ _ _ _ _ _) | (intro (al : Nat) h st; show W _ _ _ _ _ _ _ _ _) | (intro _ h st; show W _ _ _ _ _ _ _ _ _) | exact Sd)))
              have st := St.packP (t := 22) (k := .ptr D 0) (P := FiIs D { s with left := s.left - 1 }) st ⟨lv, M, rfl, hok⟩ Pks
              exact ⟨_, res_cell rfl (d_loadn (n := 2) (off := 0) (st.get' Tk) rfl) rfl, _, ⟨(id, n), fun _ => rfl, rfl, rfl⟩, st.sel Sels⟩
          · rw [if_neg h3]
            (repeat (first | (show W _ _ _ _ _ _ (.code (cond _ _ _) :: _) _ _; first | refine W.ct ?_ | refine W.cf ?_) | (show W _ _ _ _ _ _ (.ins (cond _ _ _ :: _) :: _) _ _; first | refine W.gt ?_ | refine W.gf ?_) | (show W _ _ _ _ _ _ [] _ _; refine W.of (.done ?_)) | (apply W.of; constructor <;> first | (show W _ _ _ _ _ _ _ _ _) | (intro (al : Nat) h st; show W _ _ _ _ _ _ _ _ _) | (intro _ h st; show W _ _ _ _ _ _ _ _ _) | exact Sd)))
            have st := St.packP (t := 22) (k := .ptr D 0) (P := FiIs D s) st ⟨lv, M, rfl, hok⟩ Pks
            rw [decide_eq_false (show ¬ s.left = 1 by omega)]
            exact ⟨_, res_cell rfl (d_loadn (n := 2) (off := 0) (st.get' Tk) rfl) rfl, _, ⟨(id, n), fun _ => rfl, rfl, rfl⟩, st.sel Sels⟩
      · rw [if_neg (by simp; omega)]
        (repeat (first | (show W _ _ _ _ _ _ (.code (cond _ _ _) :: _) _ _; first | refine W.ct ?_ | refine W.cf ?_) | (show W _ _ _ _ _ _ (.ins (cond _ _ _ :: _) :: _) _ _; first | refine W.gt ?_ | refine W.gf ?_) | (show W _ _ _ _ _ _ [] _ _; refine W.of (.done ?_)) | (apply W.of; constructor <;> first | (show W _ _ _ _ _ _ _ _ _) | (intro (al : Nat) h st; show W _ _ _ _ _ _ _ _ _) | (intro _ h st; show W _ _ _ _ _ _ _ _ _) | exact Sd)))
        exact ⟨_, res_cell rfl (d_loadn (n := 2) (off := 0) (st.get' Tk) rfl) rfl, _, ⟨(0, 0), fun h => absurd h (by simp), rfl, rfl⟩, st.sel Sels⟩
theorem at_pg {id n : Int} {g : Bool} : (s.at' id n g).s.pg = s.pg ∧ (s.at' id n g).s.sizes = s.sizes ∧ ((s.at' id n g).e = 0 → s.ok id n = true ∧ g = true) := by
  unfold FiS.at' FiS.tick
  split
  · exact ⟨rfl, rfl, fun h => absurd h (by simp)⟩
  · split
    · rename_i h
      exact ⟨by split <;> rfl, by split <;> rfl, fun _ => h⟩
    · exact ⟨rfl, rfl, fun h => absurd h (by simp)⟩
/-- what Read tells -/
def FiS.rk (s : FiS) (id n : Int) : Nat × Nat := if (s.at' id n true).e = 0 then (4096, s.cell (id, n)) else (0, 0)
theorem file_Read {id n : Int} (hlo : s.left ≤ 9223372036854775807) : Spec R (.f n_file_Store_Read) [.ptr D 0, .int .i64 id, .int .i64 n] [FiC D s] fun r Rs =>
    ∃ x, r = .tuple [x, .int .i64 (s.at' id n true).e] ∧ x.notJunk = some x ∧ sliceLen x = some (s.rk id n).1 ∧ Rs = [ByC x (s.rk id n).1 (s.rk id n).2 true, FiC D (s.at' id n true).s] := by
  refine spec_w (fun _ _ _ x => progI_call rfl rfl x) Njs rfl (fun h F st => ?_); dsimp only [List.cons_append, List.nil_append] at st
  (repeat (first | (show W _ _ _ _ _ _ (.code (cond _ _ _) :: _) _ _; first | refine W.ct ?_ | refine W.cf ?_) | (show W _ _ _ _ _ _ (.ins (cond _ _ _ :: _) :: _) _ _; first | refine W.gt ?_ | refine W.gf ?_) | (show W _ _ _ _ _ _ [] _ _; refine W.of (.done ?_)) | (apply W.of; constructor <;> first | (show W _ _ _ _ _ _ _ _ _) | (intro (al : Nat) h st; show W _ _ _ _ _ _ _ _ _) | (intro _ h st; show W _ _ _ _ _ _ _ _ _) | exact Sd))); refine W.call (hs := (file_at hlo)) (w := ?_); rintro vv _ ⟨p, hp, rfl, rfl⟩ h st; refine nj ?_; dsimp only [List.cons_append, List.nil_append] at st
  obtain ⟨q1, q2, q3⟩ := at_pg (s := s) (id := id) (n := n) (g := true)
  unfold FiS.rk
  by_cases h0 : (s.at' id n true).e = 0
  · rw [if_pos h0]
    have e := hp h0
    subst e
    (repeat (first | (show W _ _ _ _ _ _ (.code (cond _ _ _) :: _) _ _; first | refine W.ct ?_ | refine W.cf ?_) | (show W _ _ _ _ _ _ (.ins (cond _ _ _ :: _) :: _) _ _; first | refine W.gt ?_ | refine W.gf ?_) | (show W _ _ _ _ _ _ [] _ _; refine W.of (.done ?_)) | (apply W.of; constructor <;> first | (show W _ _ _ _ _ _ _ _ _) | (intro (al : Nat) h st; show W _ _ _ _ _ _ _ _ _) | (intro _ h st; show W _ _ _ _ _ _ _ _ _) | exact Sd)))
    have st := st.take (c := FiC D (s.at' id n true).s) Tk
    obtain ⟨_, ⟨lv, M, rfl, hok⟩, st⟩ := St.unpack st; dsimp only [List.cons_append, List.nil_append] at st
    have hok1 : PlOk s.pg := q1 ▸ hok.1
    rw [q1] at st
    (repeat (first | (show W _ _ _ _ _ _ (.code (cond _ _ _) :: _) _ _; first | refine W.ct ?_ | refine W.cf ?_) | (show W _ _ _ _ _ _ (.ins (cond _ _ _ :: _) :: _) _ _; first | refine W.gt ?_ | refine W.gf ?_) | (show W _ _ _ _ _ _ [] _ _; refine W.of (.done ?_)) | (apply W.of; constructor <;> first | (show W _ _ _ _ _ _ _ _ _) | (intro (al : Nat) h st; show W _ _ _ _ _ _ _ _ _) | (intro _ h st; show W _ _ _ _ _ _ _ _ _) | exact Sd))); refine W.do (ho := (d_lookPl st Tk (id, n))) (w := ?_)
    (repeat (first | (show W _ _ _ _ _ _ (.code (cond _ _ _) :: _) _ _; first | refine W.ct ?_ | refine W.cf ?_) | (show W _ _ _ _ _ _ (.ins (cond _ _ _ :: _) :: _) _ _; first | refine W.gt ?_ | refine W.gf ?_) | (show W _ _ _ _ _ _ [] _ _; refine W.of (.done ?_)) | (apply W.of; constructor <;> first | (show W _ _ _ _ _ _ _ _ _) | (intro (al : Nat) h st; show W _ _ _ _ _ _ _ _ _) | (intro _ h st; show W _ _ _ _ _ _ _ _ _) | exact Sd))); refine W.of (.ag ((.ld rfl rfl st Tk rfl rfl (.ldn rfl rfl st Tk rfl rfl (.dz rfl rfl (d_lookPl st Tk (id, n)) rfl .nil)))) ?_)
    (repeat (first | (show W _ _ _ _ _ _ (.code (cond _ _ _) :: _) _ _; first | refine W.ct ?_ | refine W.cf ?_) | (show W _ _ _ _ _ _ (.ins (cond _ _ _ :: _) :: _) _ _; first | refine W.gt ?_ | refine W.gf ?_) | (show W _ _ _ _ _ _ [] _ _; refine W.of (.done ?_)) | (apply W.of; constructor <;> first | (show W _ _ _ _ _ _ _ _ _) | (intro (al : Nat) h st; show W _ _ _ _ _ _ _ _ _) | (intro _ h st; show W _ _ _ _ _ _ _ _ _) | exact Sd)))
    rw [bput_new (plOk_at hok1 (id, n))] at st
    have st := St.packP (t := 22) (k := .ptr D 0) (P := FiIs D (s.at' id n true).s) st ⟨lv, M, by rw [q1], hok⟩ Pks
    have st := St.byRow' (k := 4096) (n := (alook s.pg (id, n)).getD 0) st Tk (plOk_at hok1 (id, n))
    exact ⟨_, rfl, _, ⟨_, by rw [h0]; rfl, rfl, rfl, rfl⟩, st.sel Sels⟩
  · rw [if_neg h0]
    (repeat (first | (show W _ _ _ _ _ _ (.code (cond _ _ _) :: _) _ _; first | refine W.ct ?_ | refine W.cf ?_) | (show W _ _ _ _ _ _ (.ins (cond _ _ _ :: _) :: _) _ _; first | refine W.gt ?_ | refine W.gf ?_) | (show W _ _ _ _ _ _ [] _ _; refine W.of (.done ?_)) | (apply W.of; constructor <;> first | (show W _ _ _ _ _ _ _ _ _) | (intro (al : Nat) h st; show W _ _ _ _ _ _ _ _ _) | (intro _ h st; show W _ _ _ _ _ _ _ _ _) | exact Sd)))
    have st : St h (FiC D (s.at' id n true).s :: F) := st.sel Sels
    exact ⟨_, rfl, _, ⟨_, rfl, rfl, rfl, rfl⟩, st.byNil true⟩
end Go.Proofs.Ytjdemlagmamlbaa

namespace Go.Proofs.Ytjdemlagmamlbaa
variable {D : Nat} {s : FiS}
theorem d_eqPage {h : AHeap} {a : Nat} (ha : a < 2 ^ (8 * 4096)) : Does (.eqv false (.bytes 4096)) [.bytes 4096 a, .bytes 4096 0] h (.bool (decide (a = 0))) h := ⟨rfl, by
  simp only [aop, avEq, and_self, if_true, Option.map_some, Bool.false_eq_true, if_false, Nat.mod_eq_of_lt ha, Nat.zero_mod]
  congr 3⟩
/-- a page is written -/
def FiS.put (s : FiS) (p : Pl) (n : Nat) : FiS := { s with pg := if n = 0 then adel s.pg p else aput s.pg p n }
def FiS.write (s : FiS) (id n : Int) (k N : Nat) : AtV :=
  let a := s.at' id n ((k : Int) == 4096)
  ⟨if a.e = 0 then a.s.put (id, n) N else a.s, a.e⟩
theorem plOk_put {l : List (Pl × Nat)} {p : Pl} {n : Nat} (h : PlOk l) (hn : n < 2 ^ (8 * 4096)) : PlOk (aput l p n) := by
  intro q hq
  induction l with
  | nil => simp [aput] at hq; subst hq; exact hn
  | cons a l ih =>
    obtain ⟨k, v⟩ := a
    simp only [aput] at hq
    split at hq
    · rcases List.mem_cons.1 hq with rfl | hq
      · exact hn
      · exact h q (List.mem_cons_of_mem _ hq)
    · rcases List.mem_cons.1 hq with rfl | hq
      · exact h _ List.mem_cons_self
      · exact ih (fun q hq => h q (List.mem_cons_of_mem _ hq)) hq
theorem adel_sub {l : List (Pl × Nat)} {p : Pl} : ∀ q, q ∈ adel l p → q ∈ l := by
  induction l with
  | nil => exact fun q h => h
  | cons a l ih =>
    obtain ⟨k, v⟩ := a
    intro q hq
    simp only [adel] at hq
    split at hq
    · exact List.mem_cons_of_mem _ hq
    · rcases List.mem_cons.1 hq with rfl | hq
      · exact List.mem_cons_self
      · exact List.mem_cons_of_mem _ (ih q hq)
theorem file_Write {id n : Int} {v : AV} {k N : Nat} {w : Bool} (hlo : s.left ≤ 9223372036854775807) : Spec R (.f n_file_Store_Write) [.ptr D 0, .int .i64 id, .int .i64 n, v] [FiC D s, ByC v k N w] fun r Rs =>
    r = .int .i64 (s.write id n k N).e ∧ Rs = [FiC D (s.write id n k N).s, ByC v k N w] := by
  refine spec_in fun h F st => ?_
  obtain ⟨vl, vj⟩ := st.by2 Tk
  have hN : k = 4096 → N < 2 ^ (8 * 4096) := fun e => e ▸ (st.by Tk).2.2
  clear st h F; refine spec_w (fun _ _ _ x => progI_call rfl rfl x) Njs rfl (fun h F st => ?_); dsimp only [List.cons_append, List.nil_append] at st
  (repeat (first | (show W _ _ _ _ _ _ (.code (cond _ _ _) :: _) _ _; first | refine W.ct ?_ | refine W.cf ?_) | (show W _ _ _ _ _ _ (.ins (cond _ _ _ :: _) :: _) _ _; first | refine W.gt ?_ | refine W.gf ?_) | (show W _ _ _ _ _ _ [] _ _; refine W.of (.done ?_)) | (apply W.of; constructor <;> first | (show W _ _ _ _ _ _ _ _ _) | (intro (al : Nat) h st; show W _ _ _ _ _ _ _ _ _) | (intro _ h st; show W _ _ _ _ _ _ _ _ _) | exact Sd))); refine W.call (hs := (file_at hlo)) (w := ?_); rintro vv _ ⟨p, hp, rfl, rfl⟩ h st; refine nj ?_; dsimp only [List.cons_append, List.nil_append] at st
  obtain ⟨q1, q2, q3⟩ := at_pg (s := s) (id := id) (n := n) (g := (k : Int) == 4096)
  unfold FiS.write
  dsimp only
  by_cases h0 : (s.at' id n ((k : Int) == 4096)).e = 0
  · rw [if_pos h0]
    have e := hp h0
    subst e
    have hk : k = 4096 := by have := eq_of_beq (q3 h0).2; omega
    subst hk
    (repeat (first | (show W _ _ _ _ _ _ (.code (cond _ _ _) :: _) _ _; first | refine W.ct ?_ | refine W.cf ?_) | (show W _ _ _ _ _ _ (.ins (cond _ _ _ :: _) :: _) _ _; first | refine W.gt ?_ | refine W.gf ?_) | (show W _ _ _ _ _ _ [] _ _; refine W.of (.done ?_)) | (apply W.of; constructor <;> first | (show W _ _ _ _ _ _ _ _ _) | (intro (al : Nat) h st; show W _ _ _ _ _ _ _ _ _) | (intro _ h st; show W _ _ _ _ _ _ _ _ _) | exact Sd)))
    obtain ⟨q, hq1, hq2, hq3⟩ := d_page (v := v) (m := 4096) st Tk (Nat.le_refl _) (by decide)
    (repeat (first | (show W _ _ _ _ _ _ (.code (cond _ _ _) :: _) _ _; first | refine W.ct ?_ | refine W.cf ?_) | (show W _ _ _ _ _ _ (.ins (cond _ _ _ :: _) :: _) _ _; first | refine W.gt ?_ | refine W.gf ?_) | (show W _ _ _ _ _ _ [] _ _; refine W.of (.done ?_)) | (apply W.of; constructor <;> first | (show W _ _ _ _ _ _ _ _ _) | (intro (al : Nat) h st; show W _ _ _ _ _ _ _ _ _) | (intro _ h st; show W _ _ _ _ _ _ _ _ _) | exact Sd))); refine W.do (ho := hq1) (w := ?_)
    (repeat (first | (show W _ _ _ _ _ _ (.code (cond _ _ _) :: _) _ _; first | refine W.ct ?_ | refine W.cf ?_) | (show W _ _ _ _ _ _ (.ins (cond _ _ _ :: _) :: _) _ _; first | refine W.gt ?_ | refine W.gf ?_) | (show W _ _ _ _ _ _ [] _ _; refine W.of (.done ?_)) | (apply W.of; constructor <;> first | (show W _ _ _ _ _ _ _ _ _) | (intro (al : Nat) h st; show W _ _ _ _ _ _ _ _ _) | (intro _ h st; show W _ _ _ _ _ _ _ _ _) | exact Sd))); refine W.do (ho := hq3) (w := ?_)
    have hn := hN rfl
    rw [bsub_whole hn]
    (repeat (first | (show W _ _ _ _ _ _ (.code (cond _ _ _) :: _) _ _; first | refine W.ct ?_ | refine W.cf ?_) | (show W _ _ _ _ _ _ (.ins (cond _ _ _ :: _) :: _) _ _; first | refine W.gt ?_ | refine W.gf ?_) | (show W _ _ _ _ _ _ [] _ _; refine W.of (.done ?_)) | (apply W.of; constructor <;> first | (show W _ _ _ _ _ _ _ _ _) | (intro (al : Nat) h st; show W _ _ _ _ _ _ _ _ _) | (intro _ h st; show W _ _ _ _ _ _ _ _ _) | exact Sd)))
    rw [bput_new hn] at st
    rw [bput_new hn, bsub_whole hn]
    (repeat (first | (show W _ _ _ _ _ _ (.code (cond _ _ _) :: _) _ _; first | refine W.ct ?_ | refine W.cf ?_) | (show W _ _ _ _ _ _ (.ins (cond _ _ _ :: _) :: _) _ _; first | refine W.gt ?_ | refine W.gf ?_) | (show W _ _ _ _ _ _ [] _ _; refine W.of (.done ?_)) | (apply W.of; constructor <;> first | (show W _ _ _ _ _ _ _ _ _) | (intro (al : Nat) h st; show W _ _ _ _ _ _ _ _ _) | (intro _ h st; show W _ _ _ _ _ _ _ _ _) | exact Sd))); refine W.do (ho := (d_eqPage hn)) (w := ?_)
    have st := st.take (c := FiC D (s.at' id n (((4096 : Nat) : Int) == 4096)).s) Tk
    obtain ⟨_, ⟨lv, M, rfl, hok⟩, st⟩ := St.unpack st; dsimp only [List.cons_append, List.nil_append] at st
    by_cases hz : N = 0
    · subst hz
      (repeat (first | (show W _ _ _ _ _ _ (.code (cond _ _ _) :: _) _ _; first | refine W.ct ?_ | refine W.cf ?_) | (show W _ _ _ _ _ _ (.ins (cond _ _ _ :: _) :: _) _ _; first | refine W.gt ?_ | refine W.gf ?_) | (show W _ _ _ _ _ _ [] _ _; refine W.of (.done ?_)) | (apply W.of; constructor <;> first | (show W _ _ _ _ _ _ _ _ _) | (intro (al : Nat) h st; show W _ _ _ _ _ _ _ _ _) | (intro _ h st; show W _ _ _ _ _ _ _ _ _) | exact Sd)))
      (repeat (first | (show W _ _ _ _ _ _ (.code (cond _ _ _) :: _) _ _; first | refine W.ct ?_ | refine W.cf ?_) | (show W _ _ _ _ _ _ (.ins (cond _ _ _ :: _) :: _) _ _; first | refine W.gt ?_ | refine W.gf ?_) | (show W _ _ _ _ _ _ [] _ _; refine W.of (.done ?_)) | (apply W.of; constructor <;> first | (show W _ _ _ _ _ _ _ _ _) | (intro (al : Nat) h st; show W _ _ _ _ _ _ _ _ _) | (intro _ h st; show W _ _ _ _ _ _ _ _ _) | exact Sd))); refine W.ef0 (ho := (e_delete st Tk keyPl (id, n))) (w := ?_); rintro _ h ⟨_, st⟩
      (repeat (first | (show W _ _ _ _ _ _ (.code (cond _ _ _) :: _) _ _; first | refine W.ct ?_ | refine W.cf ?_) | (show W _ _ _ _ _ _ (.ins (cond _ _ _ :: _) :: _) _ _; first | refine W.gt ?_ | refine W.gf ?_) | (show W _ _ _ _ _ _ [] _ _; refine W.of (.done ?_)) | (apply W.of; constructor <;> first | (show W _ _ _ _ _ _ _ _ _) | (intro (al : Nat) h st; show W _ _ _ _ _ _ _ _ _) | (intro _ h st; show W _ _ _ _ _ _ _ _ _) | exact Sd)))
      have st := St.packP (t := 22) (k := .ptr D 0) (P := FiIs D ((s.at' id n (((4096 : Nat) : Int) == 4096)).s.put (id, n) 0)) st ⟨lv, M, rfl, fun q hq => hok.1 q (adel_sub q hq), hok.2⟩ Pks
      exact ⟨_, rfl, _, ⟨by rw [h0]; rfl, rfl⟩, st.sel Sels⟩
    · (repeat (first | (show W _ _ _ _ _ _ (.code (cond _ _ _) :: _) _ _; first | refine W.ct ?_ | refine W.cf ?_) | (show W _ _ _ _ _ _ (.ins (cond _ _ _ :: _) :: _) _ _; first | refine W.gt ?_ | refine W.gf ?_) | (show W _ _ _ _ _ _ [] _ _; refine W.of (.done ?_)) | (apply W.of; constructor <;> first | (show W _ _ _ _ _ _ _ _ _) | (intro (al : Nat) h st; show W _ _ _ _ _ _ _ _ _) | (intro _ h st; show W _ _ _ _ _ _ _ _ _) | exact Sd)))
      rw [bsub_whole hn]
      (repeat (first | (show W _ _ _ _ _ _ (.code (cond _ _ _) :: _) _ _; first | refine W.ct ?_ | refine W.cf ?_) | (show W _ _ _ _ _ _ (.ins (cond _ _ _ :: _) :: _) _ _; first | refine W.gt ?_ | refine W.gf ?_) | (show W _ _ _ _ _ _ [] _ _; refine W.of (.done ?_)) | (apply W.of; constructor <;> first | (show W _ _ _ _ _ _ _ _ _) | (intro (al : Nat) h st; show W _ _ _ _ _ _ _ _ _) | (intro _ h st; show W _ _ _ _ _ _ _ _ _) | exact Sd))); refine W.ef0 (ho := (e_mapput st Tk keyPl (id, n) N)) (w := ?_); rintro _ h ⟨_, st⟩
      (repeat (first | (show W _ _ _ _ _ _ (.code (cond _ _ _) :: _) _ _; first | refine W.ct ?_ | refine W.cf ?_) | (show W _ _ _ _ _ _ (.ins (cond _ _ _ :: _) :: _) _ _; first | refine W.gt ?_ | refine W.gf ?_) | (show W _ _ _ _ _ _ [] _ _; refine W.of (.done ?_)) | (apply W.of; constructor <;> first | (show W _ _ _ _ _ _ _ _ _) | (intro (al : Nat) h st; show W _ _ _ _ _ _ _ _ _) | (intro _ h st; show W _ _ _ _ _ _ _ _ _) | exact Sd)))
      have e2 : (s.at' id n (((4096 : Nat) : Int) == 4096)).s.put (id, n) N = { (s.at' id n (((4096 : Nat) : Int) == 4096)).s with pg := aput (s.at' id n (((4096 : Nat) : Int) == 4096)).s.pg (id, n) N } := by unfold FiS.put; rw [if_neg hz]
      have st := St.packP (t := 22) (k := .ptr D 0) (P := FiIs D ((s.at' id n (((4096 : Nat) : Int) == 4096)).s.put (id, n) N)) st ⟨lv, M, by rw [e2], by rw [e2]; exact plOk_put hok.1 hn, by rw [e2]; exact hok.2⟩ Pks
      exact ⟨_, rfl, _, ⟨by rw [h0]; rfl, rfl⟩, st.sel Sels⟩
  · rw [if_neg h0]
    (repeat (first | (show W _ _ _ _ _ _ (.code (cond _ _ _) :: _) _ _; first | refine W.ct ?_ | refine W.cf ?_) | (show W _ _ _ _ _ _ (.ins (cond _ _ _ :: _) :: _) _ _; first | refine W.gt ?_ | refine W.gf ?_) | (show W _ _ _ _ _ _ [] _ _; refine W.of (.done ?_)) | (apply W.of; constructor <;> first | (show W _ _ _ _ _ _ _ _ _) | (intro (al : Nat) h st; show W _ _ _ _ _ _ _ _ _) | (intro _ h st; show W _ _ _ _ _ _ _ _ _) | exact Sd)))
    exact ⟨_, rfl, _, ⟨rfl, rfl⟩, st.sel Sels⟩
end Go.Proofs.Ytjdemlagmamlbaa

namespace Go.Proofs.Ytjdemlagmamlbaa
variable {D : Nat} {s : FiS}
abbrev ibox (n : Int) : AObj := .row 3 1 false false (.vals [.int .i64 n])
abbrev n_DelFunc : Nat := n_maps_DeleteFunc_map_file_place_4096_byte_file_place_4096_byte
/-- is it cut off? -/
def cutQ (id z : Int) (p : Pl) : Bool := decide (p.1 = id ∧ z ≤ p.2)
theorem file_cb {p : Pl} {N B1 B2 : Nat} {id z : Int} : Spec R (.f n_file_Store_Resize_1) [pkey p, pageV N, .ptr B1 0, .ptr B2 0] [.pt B1 (ibox id), .pt B2 (ibox z)] fun v Rs => v = .bool (cutQ id z p) ∧ Rs = [.pt B1 (ibox id), .pt B2 (ibox z)] := by
  refine spec_w (fun _ _ _ x => progI_call rfl rfl x) Njs rfl (fun h F st => ?_); dsimp only [List.cons_append, List.nil_append] at st
  unfold cutQ
  by_cases h1 : p.1 = id
  · have e1 : (p.1 == id) = true := by simp [h1]
    (repeat (first | (show W _ _ _ _ _ _ (.code (cond _ _ _) :: _) _ _; first | refine W.ct ?_ | refine W.cf ?_) | (show W _ _ _ _ _ _ (.ins (cond _ _ _ :: _) :: _) _ _; first | refine W.gt ?_ | refine W.gf ?_) | (show W _ _ _ _ _ _ [] _ _; refine W.of (.done ?_)) | (apply W.of; constructor <;> first | (show W _ _ _ _ _ _ _ _ _) | (intro (al : Nat) h st; show W _ _ _ _ _ _ _ _ _) | (intro _ h st; show W _ _ _ _ _ _ _ _ _) | exact Sd)))
    exact ⟨_, rfl, _, ⟨by simp [retA, h1], rfl⟩, st.sel Sels⟩
  · (repeat (first | (show W _ _ _ _ _ _ (.code (cond _ _ _) :: _) _ _; first | refine W.ct ?_ | refine W.cf ?_) | (show W _ _ _ _ _ _ (.ins (cond _ _ _ :: _) :: _) _ _; first | refine W.gt ?_ | refine W.gf ?_) | (show W _ _ _ _ _ _ [] _ _; refine W.of (.done ?_)) | (apply W.of; constructor <;> first | (show W _ _ _ _ _ _ _ _ _) | (intro (al : Nat) h st; show W _ _ _ _ _ _ _ _ _) | (intro _ h st; show W _ _ _ _ _ _ _ _ _) | exact Sd)))
    exact ⟨_, rfl, _, ⟨by simp [retA, h1], rfl⟩, st.sel Sels⟩
structure DelS where
  l : List (Pl × Nat)
  dn : List Pl
  cur : Option (Pl × Nat)
theorem filter_step {l : List (Pl × Nat)} (hn : (keys l).Nodup) {dn : List Pl} {c : Pl → Bool} {a : Pl} (hc : c a = true) :
    adel (l.filter fun q => !(decide (q.1 ∈ dn) && c q.1)) a = l.filter fun q => !(decide (q.1 ∈ a :: dn) && c q.1) := by
  have hn' : (keys (l.filter fun q => !(decide (q.1 ∈ dn) && c q.1))).Nodup := by
    unfold keys at *
    exact hn.sublist (List.filter_sublist.map _)
  rw [adel_filter hn', List.filter_filter]
  congr 1
  funext q
  by_cases e : q.1 = a
  · simp [e, hc]
  · simp [e]
theorem filter_keep {l : List (Pl × Nat)} {dn : List Pl} {c : Pl → Bool} {a : Pl} (hc : c a = false) :
    (l.filter fun q => !(decide (q.1 ∈ dn) && c q.1)) = l.filter fun q => !(decide (q.1 ∈ a :: dn) && c q.1) := by
  congr 1
  funext q
  by_cases e : q.1 = a
  · simp [e, hc]
  · simp [e]
theorem count_less {l : List (Pl × Nat)} {dn : List Pl} {a : Pl} {b : Nat} (h : alook l a = some b) (hd : a ∉ dn) (l2 : List (Pl × Nat)) (hs : l2.Sublist l) :
    (l2.filter fun q => decide (q.1 ∉ a :: dn)).length < (l.filter fun q => decide (q.1 ∉ dn)).length := by
  have h3 : (l2.filter fun q => decide (q.1 ∉ a :: dn)).length ≤ (l.filter fun q => decide (q.1 ∉ a :: dn)).length := (hs.filter _).length_le
  refine Nat.lt_of_le_of_lt h3 ?_
  clear h3 hs
  induction l with
  | nil => simp [alook] at h
  | cons x l ih =>
    obtain ⟨k, v⟩ := x
    simp only [alook] at h
    have mono : ∀ l : List (Pl × Nat), (l.filter fun q => decide (q.1 ∉ a :: dn)).length ≤ (l.filter fun q => decide (q.1 ∉ dn)).length := fun l => by
      induction l with
      | nil => simp
      | cons y l ih => simp only [List.filter_cons, List.mem_cons, not_or]; split <;> split <;> simp_all <;> omega
    by_cases e : k = a
    · subst e
      rw [List.filter_cons_of_neg (by simp), List.filter_cons_of_pos (by simpa using hd)]
      have := mono l
      simp only [List.length_cons]; omega
    · rw [if_neg e] at h
      have := ih h
      simp only [List.filter_cons, List.mem_cons, not_or]
      split <;> split <;> simp_all <;> omega
theorem del_func {M B1 B2 : Nat} {id z : Int} {l : List (Pl × Nat)} (hn : (keys l).Nodup) (hlen : l.length < 100000) : Spec R (.f n_DelFunc) [.map M, .func n_file_Store_Resize_1 [] [.ptr B1 0, .ptr B2 0]] [MpC M pkey pageV l, .pt B1 (ibox id), .pt B2 (ibox z)]
    fun v Rs => v = .tuple [] ∧ Rs = [MpC M pkey pageV (l.filter fun q => !cutQ id z q.1), .pt B1 (ibox id), .pt B2 (ibox z)] := by
  refine spec_w (fun _ _ _ x => progI_call rfl rfl x) Njs rfl (fun h F st => ?_); dsimp only [List.cons_append, List.nil_append] at st
  (repeat (first | (show W _ _ _ _ _ _ (.code (cond _ _ _) :: _) _ _; first | refine W.ct ?_ | refine W.cf ?_) | (show W _ _ _ _ _ _ (.ins (cond _ _ _ :: _) :: _) _ _; first | refine W.gt ?_ | refine W.gf ?_) | (show W _ _ _ _ _ _ [] _ _; refine W.of (.done ?_)) | (apply W.of; constructor <;> first | (show W _ _ _ _ _ _ _ _ _) | (intro (al : Nat) h st; show W _ _ _ _ _ _ _ _ _) | (intro _ h st; show W _ _ _ _ _ _ _ _ _) | exact Sd))); refine W.ef (ho := (e_range st Tk)) (w := ?_); rintro vv h ⟨I, rfl, st⟩; refine nj ?_
  (repeat (first | (show W _ _ _ _ _ _ (.code (cond _ _ _) :: _) _ _; first | refine W.ct ?_ | refine W.cf ?_) | (show W _ _ _ _ _ _ (.ins (cond _ _ _ :: _) :: _) _ _; first | refine W.gt ?_ | refine W.gf ?_) | (show W _ _ _ _ _ _ [] _ _; refine W.of (.done ?_)) | (apply W.of; constructor <;> first | (show W _ _ _ _ _ _ _ _ _) | (intro (al : Nat) h st; show W _ _ _ _ _ _ _ _ _) | (intro _ h st; show W _ _ _ _ _ _ _ _ _) | exact Sd)))
  refine W.loop (fun _ : DelS => [(0, .map M), (1, .func n_file_Store_Resize_1 [] [.ptr B1 0, .ptr B2 0]), (7, .ptr I 0)]) (fun y => ItC I M pkey pageV y.l y.dn y.cur :: .pt B1 (ibox id) :: .pt B2 (ibox z) :: F)
    (fun y => y.l = l.filter fun q => !(decide (q.1 ∈ y.dn) && cutQ id z q.1)) (fun y => (y.l.filter fun q => decide (q.1 ∉ y.dn)).length) ⟨l, [], none⟩ ?_ Sbs st (List.filter_eq_self.2 (fun _ _ => by simp)).symm ?_
  · refine small_rounds (Nat.lt_of_le_of_lt (List.length_filter_le _ _) ?_)
    simp only; omega
  clear st
  intro ⟨l', dn, cur⟩ h hl st
  dsimp only at hl st ⊢
  (repeat (first | (show W _ _ _ _ _ _ (.code (cond _ _ _) :: _) _ _; first | refine W.ct ?_ | refine W.cf ?_) | (show W _ _ _ _ _ _ (.ins (cond _ _ _ :: _) :: _) _ _; first | refine W.gt ?_ | refine W.gf ?_) | (show W _ _ _ _ _ _ [] _ _; refine W.of (.done ?_)) | (apply W.of; constructor <;> first | (show W _ _ _ _ _ _ _ _ _) | (intro (al : Nat) h st; show W _ _ _ _ _ _ _ _ _) | (intro _ h st; show W _ _ _ _ _ _ _ _ _) | exact Sd)))
  refine W.ef (ho := e_next st Tk) (w := ?_)
  rintro vv h (⟨a, b, g1, g2, rfl, st⟩ | ⟨g, rfl, st⟩)
  · refine nj ?_
    (repeat (first | (show W _ _ _ _ _ _ (.code (cond _ _ _) :: _) _ _; first | refine W.ct ?_ | refine W.cf ?_) | (show W _ _ _ _ _ _ (.ins (cond _ _ _ :: _) :: _) _ _; first | refine W.gt ?_ | refine W.gf ?_) | (show W _ _ _ _ _ _ [] _ _; refine W.of (.done ?_)) | (apply W.of; constructor <;> first | (show W _ _ _ _ _ _ _ _ _) | (intro (al : Nat) h st; show W _ _ _ _ _ _ _ _ _) | (intro _ h st; show W _ _ _ _ _ _ _ _ _) | exact Sd)))
    (repeat (first | (show W _ _ _ _ _ _ (.code (cond _ _ _) :: _) _ _; first | refine W.ct ?_ | refine W.cf ?_) | (show W _ _ _ _ _ _ (.ins (cond _ _ _ :: _) :: _) _ _; first | refine W.gt ?_ | refine W.gf ?_) | (show W _ _ _ _ _ _ [] _ _; refine W.of (.done ?_)) | (apply W.of; constructor <;> first | (show W _ _ _ _ _ _ _ _ _) | (intro (al : Nat) h st; show W _ _ _ _ _ _ _ _ _) | (intro _ h st; show W _ _ _ _ _ _ _ _ _) | exact Sd))); refine W.do (ho := (d_entry st Tk)) (w := ?_)
    (repeat (first | (show W _ _ _ _ _ _ (.code (cond _ _ _) :: _) _ _; first | refine W.ct ?_ | refine W.cf ?_) | (show W _ _ _ _ _ _ (.ins (cond _ _ _ :: _) :: _) _ _; first | refine W.gt ?_ | refine W.gf ?_) | (show W _ _ _ _ _ _ [] _ _; refine W.of (.done ?_)) | (apply W.of; constructor <;> first | (show W _ _ _ _ _ _ _ _ _) | (intro (al : Nat) h st; show W _ _ _ _ _ _ _ _ _) | (intro _ h st; show W _ _ _ _ _ _ _ _ _) | exact Sd))); refine W.call (hs := (file_cb (p := a))) (w := ?_); rintro vv _ ⟨rfl, rfl⟩ h st; refine nj ?_; dsimp only [List.cons_append, List.nil_append] at st
    cases hc : cutQ id z a with
    | true =>
      (repeat (first | (show W _ _ _ _ _ _ (.code (cond _ _ _) :: _) _ _; first | refine W.ct ?_ | refine W.cf ?_) | (show W _ _ _ _ _ _ (.ins (cond _ _ _ :: _) :: _) _ _; first | refine W.gt ?_ | refine W.gf ?_) | (show W _ _ _ _ _ _ [] _ _; refine W.of (.done ?_)) | (apply W.of; constructor <;> first | (show W _ _ _ _ _ _ _ _ _) | (intro (al : Nat) h st; show W _ _ _ _ _ _ _ _ _) | (intro _ h st; show W _ _ _ _ _ _ _ _ _) | exact Sd)))
      (repeat (first | (show W _ _ _ _ _ _ (.code (cond _ _ _) :: _) _ _; first | refine W.ct ?_ | refine W.cf ?_) | (show W _ _ _ _ _ _ (.ins (cond _ _ _ :: _) :: _) _ _; first | refine W.gt ?_ | refine W.gf ?_) | (show W _ _ _ _ _ _ [] _ _; refine W.of (.done ?_)) | (apply W.of; constructor <;> first | (show W _ _ _ _ _ _ _ _ _) | (intro (al : Nat) h st; show W _ _ _ _ _ _ _ _ _) | (intro _ h st; show W _ _ _ _ _ _ _ _ _) | exact Sd))); refine W.ef0 (ho := (e_itDelete st Tk keyPl a)) (w := ?_); rintro _ h ⟨_, st⟩
      (repeat (first | (show W _ _ _ _ _ _ (.code (cond _ _ _) :: _) _ _; first | refine W.ct ?_ | refine W.cf ?_) | (show W _ _ _ _ _ _ (.ins (cond _ _ _ :: _) :: _) _ _; first | refine W.gt ?_ | refine W.gf ?_) | (show W _ _ _ _ _ _ [] _ _; refine W.of (.done ?_)) | (apply W.of; constructor <;> first | (show W _ _ _ _ _ _ _ _ _) | (intro (al : Nat) h st; show W _ _ _ _ _ _ _ _ _) | (intro _ h st; show W _ _ _ _ _ _ _ _ _) | exact Sd)))
      refine W.of (.lp ?_)
      have hsub : (adel l' a).Sublist l' := by
        have hn' : (keys l').Nodup := by rw [hl]; unfold keys at *; exact hn.sublist (List.filter_sublist.map _)
        rw [adel_filter hn']; exact List.filter_sublist
      exact ⟨⟨adel l' a, a :: dn, none⟩, count_less g1 g2 _ hsub, by show adel l' a = _; rw [hl]; exact filter_step hn hc, Sbs, st.sel Sels⟩
    | false =>
      (repeat (first | (show W _ _ _ _ _ _ (.code (cond _ _ _) :: _) _ _; first | refine W.ct ?_ | refine W.cf ?_) | (show W _ _ _ _ _ _ (.ins (cond _ _ _ :: _) :: _) _ _; first | refine W.gt ?_ | refine W.gf ?_) | (show W _ _ _ _ _ _ [] _ _; refine W.of (.done ?_)) | (apply W.of; constructor <;> first | (show W _ _ _ _ _ _ _ _ _) | (intro (al : Nat) h st; show W _ _ _ _ _ _ _ _ _) | (intro _ h st; show W _ _ _ _ _ _ _ _ _) | exact Sd)))
      refine W.of (.lp ?_)
      exact ⟨⟨l', a :: dn, some (a, b)⟩, count_less g1 g2 _ (List.Sublist.refl _), by show l' = _; rw [hl]; exact filter_keep hc, Sbs, st.sel Sels⟩
  · refine nj ?_
    (repeat (first | (show W _ _ _ _ _ _ (.code (cond _ _ _) :: _) _ _; first | refine W.ct ?_ | refine W.cf ?_) | (show W _ _ _ _ _ _ (.ins (cond _ _ _ :: _) :: _) _ _; first | refine W.gt ?_ | refine W.gf ?_) | (show W _ _ _ _ _ _ [] _ _; refine W.of (.done ?_)) | (apply W.of; constructor <;> first | (show W _ _ _ _ _ _ _ _ _) | (intro (al : Nat) h st; show W _ _ _ _ _ _ _ _ _) | (intro _ h st; show W _ _ _ _ _ _ _ _ _) | exact Sd)))
    have st := st.itEnd Tk
    have e : l' = l.filter fun q => !cutQ id z q.1 := by
      rw [hl]
      refine List.filter_congr fun q hq => ?_
      cases hc : cutQ id z q.1 with
      | false => simp
      | true =>
        have : q.1 ∈ dn := by
          by_cases hd : q.1 ∈ dn
          · exact hd
          · exact g q.1 (List.mem_map.2 ⟨q, by rw [hl]; exact List.mem_filter.2 ⟨hq, by simp [hd]⟩, rfl⟩)
        simp [this]
    rw [e] at st
    exact ⟨_, rfl, _, ⟨rfl, rfl⟩, st⟩
theorem St.mpNodup {α β : Type} {h : AHeap} {L R : List Chunk} {ke : α → AV} {ve : β → AV} {M : Nat} {l : List (α × β)} (st : St h L) (t : Take L (MpC M ke ve l) R) : (keys l).Nodup := by
  obtain ⟨cs, ⟨es, clock, rfl, h1, h2, h3⟩, _⟩ := (st.take t).unpack
  exact h2
/-- what Resize does -/
def FiS.resize (s : FiS) (id z : Int) : AtV :=
  if (s.size id).isNone = true then ⟨s, 7⟩ else if z < 0 ∨ z > 4096 then ⟨s, 2⟩ else ⟨{ s with sizes := s.sizes.set (id - 1).toNat z, pg := s.pg.filter fun q => !cutQ id z q.1 }, 0⟩
theorem file_Resize {id z : Int} (hlen : s.pg.length < 100000) : Spec R (.f n_file_Store_Resize) [.ptr D 0, .int .i64 id, .int .i64 z] [FiC D s] fun r Rs => r = .int .i64 (s.resize id z).e ∧ Rs = [FiC D (s.resize id z).s] := by
  refine spec_w (fun _ _ _ x => progI_call rfl rfl x) Njs rfl (fun h F st => ?_); dsimp only [List.cons_append, List.nil_append] at st
  unfold FiS.resize
  cases hs : s.size id with
  | none =>
    (repeat (first | (show W _ _ _ _ _ _ (.code (cond _ _ _) :: _) _ _; first | refine W.ct ?_ | refine W.cf ?_) | (show W _ _ _ _ _ _ (.ins (cond _ _ _ :: _) :: _) _ _; first | refine W.gt ?_ | refine W.gf ?_) | (show W _ _ _ _ _ _ [] _ _; refine W.of (.done ?_)) | (apply W.of; constructor <;> first | (show W _ _ _ _ _ _ _ _ _) | (intro (al : Nat) h st; show W _ _ _ _ _ _ _ _ _) | (intro _ h st; show W _ _ _ _ _ _ _ _ _) | exact Sd))); refine W.call (hs := (file_known_n hs)) (w := ?_); rintro vv _ ⟨rfl, rfl⟩ h st; refine nj ?_; dsimp only [List.cons_append, List.nil_append] at st
    (repeat (first | (show W _ _ _ _ _ _ (.code (cond _ _ _) :: _) _ _; first | refine W.ct ?_ | refine W.cf ?_) | (show W _ _ _ _ _ _ (.ins (cond _ _ _ :: _) :: _) _ _; first | refine W.gt ?_ | refine W.gf ?_) | (show W _ _ _ _ _ _ [] _ _; refine W.of (.done ?_)) | (apply W.of; constructor <;> first | (show W _ _ _ _ _ _ _ _ _) | (intro (al : Nat) h st; show W _ _ _ _ _ _ _ _ _) | (intro _ h st; show W _ _ _ _ _ _ _ _ _) | exact Sd)))
    exact ⟨_, rfl, _, ⟨rfl, rfl⟩, st.sel Sels⟩
  | some y =>
    rw [if_neg (by simp)]
    (repeat (first | (show W _ _ _ _ _ _ (.code (cond _ _ _) :: _) _ _; first | refine W.ct ?_ | refine W.cf ?_) | (show W _ _ _ _ _ _ (.ins (cond _ _ _ :: _) :: _) _ _; first | refine W.gt ?_ | refine W.gf ?_) | (show W _ _ _ _ _ _ [] _ _; refine W.of (.done ?_)) | (apply W.of; constructor <;> first | (show W _ _ _ _ _ _ _ _ _) | (intro (al : Nat) h st; show W _ _ _ _ _ _ _ _ _) | (intro _ h st; show W _ _ _ _ _ _ _ _ _) | exact Sd))); refine W.call (hs := (file_known_s hs)) (w := ?_); rintro vv _ ⟨rfl, rfl⟩ h st; refine nj ?_; dsimp only [List.cons_append, List.nil_append] at st
    by_cases h1 : z < 0
    · rw [if_pos (.inl h1)]
      (repeat (first | (show W _ _ _ _ _ _ (.code (cond _ _ _) :: _) _ _; first | refine W.ct ?_ | refine W.cf ?_) | (show W _ _ _ _ _ _ (.ins (cond _ _ _ :: _) :: _) _ _; first | refine W.gt ?_ | refine W.gf ?_) | (show W _ _ _ _ _ _ [] _ _; refine W.of (.done ?_)) | (apply W.of; constructor <;> first | (show W _ _ _ _ _ _ _ _ _) | (intro (al : Nat) h st; show W _ _ _ _ _ _ _ _ _) | (intro _ h st; show W _ _ _ _ _ _ _ _ _) | exact Sd)))
      exact ⟨_, rfl, _, ⟨rfl, rfl⟩, st.sel Sels⟩
    · by_cases h2 : z > 4096
      · rw [if_pos (.inr h2)]
        (repeat (first | (show W _ _ _ _ _ _ (.code (cond _ _ _) :: _) _ _; first | refine W.ct ?_ | refine W.cf ?_) | (show W _ _ _ _ _ _ (.ins (cond _ _ _ :: _) :: _) _ _; first | refine W.gt ?_ | refine W.gf ?_) | (show W _ _ _ _ _ _ [] _ _; refine W.of (.done ?_)) | (apply W.of; constructor <;> first | (show W _ _ _ _ _ _ _ _ _) | (intro (al : Nat) h st; show W _ _ _ _ _ _ _ _ _) | (intro _ h st; show W _ _ _ _ _ _ _ _ _) | exact Sd)))
        exact ⟨_, rfl, _, ⟨rfl, rfl⟩, st.sel Sels⟩
      · rw [if_neg (by omega)]
        obtain ⟨_, ⟨lv, M, rfl, hok⟩, st⟩ := St.unpack st; dsimp only [List.cons_append, List.nil_append] at st
        obtain ⟨hl, hj, _⟩ := FiS.slice st Tk
        obtain ⟨g1, g2, g3⟩ := size_some hs
        have hb := hok.2
        have hi : (id - 1).toNat < s.sizes.length := by omega
        (repeat (first | (show W _ _ _ _ _ _ (.code (cond _ _ _) :: _) _ _; first | refine W.ct ?_ | refine W.cf ?_) | (show W _ _ _ _ _ _ (.ins (cond _ _ _ :: _) :: _) _ _; first | refine W.gt ?_ | refine W.gf ?_) | (show W _ _ _ _ _ _ [] _ _; refine W.of (.done ?_)) | (apply W.of; constructor <;> first | (show W _ _ _ _ _ _ _ _ _) | (intro (al : Nat) h st; show W _ _ _ _ _ _ _ _ _) | (intro _ h st; show W _ _ _ _ _ _ _ _ _) | exact Sd)))
        obtain ⟨gp, gq⟩ := d_vsIdx (l := s.sizes.map ikey) (i := (id - 1).toNat) (kk := .i64) st Tk (by rw [List.length_map]; exact hi)
        rw [show (((id - 1).toNat : Nat) : Int) = id - 1 by omega] at gp
        (repeat (first | (show W _ _ _ _ _ _ (.code (cond _ _ _) :: _) _ _; first | refine W.ct ?_ | refine W.cf ?_) | (show W _ _ _ _ _ _ (.ins (cond _ _ _ :: _) :: _) _ _; first | refine W.gt ?_ | refine W.gf ?_) | (show W _ _ _ _ _ _ [] _ _; refine W.of (.done ?_)) | (apply W.of; constructor <;> first | (show W _ _ _ _ _ _ _ _ _) | (intro (al : Nat) h st; show W _ _ _ _ _ _ _ _ _) | (intro _ h st; show W _ _ _ _ _ _ _ _ _) | exact Sd))); refine W.do (ho := gp) (w := ?_)
        (repeat (first | (show W _ _ _ _ _ _ (.code (cond _ _ _) :: _) _ _; first | refine W.ct ?_ | refine W.cf ?_) | (show W _ _ _ _ _ _ (.ins (cond _ _ _ :: _) :: _) _ _; first | refine W.gt ?_ | refine W.gf ?_) | (show W _ _ _ _ _ _ [] _ _; refine W.of (.done ?_)) | (apply W.of; constructor <;> first | (show W _ _ _ _ _ _ _ _ _) | (intro (al : Nat) h st; show W _ _ _ _ _ _ _ _ _) | (intro _ h st; show W _ _ _ _ _ _ _ _ _) | exact Sd))); refine W.ef0 (ho := (e_vsStore (l := s.sizes.map ikey) (i := (id - 1).toNat) st Tk (by rw [List.length_map]; exact hi) rfl)) (w := ?_); rintro _ h ⟨_, st⟩
        (repeat (first | (show W _ _ _ _ _ _ (.code (cond _ _ _) :: _) _ _; first | refine W.ct ?_ | refine W.cf ?_) | (show W _ _ _ _ _ _ (.ins (cond _ _ _ :: _) :: _) _ _; first | refine W.gt ?_ | refine W.gf ?_) | (show W _ _ _ _ _ _ [] _ _; refine W.of (.done ?_)) | (apply W.of; constructor <;> first | (show W _ _ _ _ _ _ _ _ _) | (intro (al : Nat) h st; show W _ _ _ _ _ _ _ _ _) | (intro _ h st; show W _ _ _ _ _ _ _ _ _) | exact Sd))); refine W.call (hs := (del_func (id := id) (z := z) (St.mpNodup (ke := pkey) (ve := pageV) (l := s.pg) (M := M) st Tk) hlen)) (w := ?_); rintro vv _ ⟨rfl, rfl⟩ h st; refine nj ?_; dsimp only [List.cons_append, List.nil_append] at st
        (repeat (first | (show W _ _ _ _ _ _ (.code (cond _ _ _) :: _) _ _; first | refine W.ct ?_ | refine W.cf ?_) | (show W _ _ _ _ _ _ (.ins (cond _ _ _ :: _) :: _) _ _; first | refine W.gt ?_ | refine W.gf ?_) | (show W _ _ _ _ _ _ [] _ _; refine W.of (.done ?_)) | (apply W.of; constructor <;> first | (show W _ _ _ _ _ _ _ _ _) | (intro (al : Nat) h st; show W _ _ _ _ _ _ _ _ _) | (intro _ h st; show W _ _ _ _ _ _ _ _ _) | exact Sd)))
        rw [show (s.sizes.map ikey).set (id - 1).toNat (.int .i64 z) = (s.sizes.set (id - 1).toNat z).map ikey by rw [List.map_set]] at st
        have st := St.packP (t := 22) (k := .ptr D 0) (P := FiIs D { s with sizes := s.sizes.set (id - 1).toNat z, pg := s.pg.filter fun q => !cutQ id z q.1 }) st ⟨lv, M, rfl, fun q hq => hok.1 q (List.mem_filter.1 hq).1, by simpa using hb⟩ Pks
        exact ⟨_, rfl, _, ⟨rfl, rfl⟩, st.sel Sels⟩
end Go.Proofs.Ytjdemlagmamlbaa

namespace Go.Proofs.Ytjdemlagmamlbaa
variable {D : Nat} {s : FiS}
theorem law10_page {v : AV} {k n : Nat} {w : Bool} : Spec R (.f n_law10_page) [v] [ByC v k n w] fun x Rs => (∃ id, x = .sl id 0 4096 4096) ∧ Rs = [ByC x 4096 (pageN k n) true, ByC v k n w] := by
  refine spec_in fun h F st => ?_
  obtain ⟨hl, hj, hn⟩ := st.by Tk
  clear st h F; refine spec_w (fun _ _ _ x => progI_call rfl rfl x) Njs rfl (fun h F st => ?_); dsimp only [List.cons_append, List.nil_append] at st
  (repeat (first | (show W _ _ _ _ _ _ (.code (cond _ _ _) :: _) _ _; first | refine W.ct ?_ | refine W.cf ?_) | (show W _ _ _ _ _ _ (.ins (cond _ _ _ :: _) :: _) _ _; first | refine W.gt ?_ | refine W.gf ?_) | (show W _ _ _ _ _ _ [] _ _; refine W.of (.done ?_)) | (apply W.of; constructor <;> first | (show W _ _ _ _ _ _ _ _ _) | (intro (al : Nat) h st; show W _ _ _ _ _ _ _ _ _) | (intro _ h st; show W _ _ _ _ _ _ _ _ _) | exact Sd))); refine W.ef (ho := (e_mkbytes (k := 4096) st (by decide))) (w := ?_); rintro vv h ⟨id, rfl, st⟩; refine nj ?_
  (repeat (first | (show W _ _ _ _ _ _ (.code (cond _ _ _) :: _) _ _; first | refine W.ct ?_ | refine W.cf ?_) | (show W _ _ _ _ _ _ (.ins (cond _ _ _ :: _) :: _) _ _; first | refine W.gt ?_ | refine W.gf ?_) | (show W _ _ _ _ _ _ [] _ _; refine W.of (.done ?_)) | (apply W.of; constructor <;> first | (show W _ _ _ _ _ _ _ _ _) | (intro (al : Nat) h st; show W _ _ _ _ _ _ _ _ _) | (intro _ h st; show W _ _ _ _ _ _ _ _ _) | exact Sd)))
  (repeat (first | (show W _ _ _ _ _ _ (.code (cond _ _ _) :: _) _ _; first | refine W.ct ?_ | refine W.cf ?_) | (show W _ _ _ _ _ _ (.ins (cond _ _ _ :: _) :: _) _ _; first | refine W.gt ?_ | refine W.gf ?_) | (show W _ _ _ _ _ _ [] _ _; refine W.of (.done ?_)) | (apply W.of; constructor <;> first | (show W _ _ _ _ _ _ _ _ _) | (intro (al : Nat) h st; show W _ _ _ _ _ _ _ _ _) | (intro _ h st; show W _ _ _ _ _ _ _ _ _) | exact Sd))); refine W.ef (ho := (e_copyb st Tk Tk)) (w := ?_); rintro vv h ⟨rfl, st⟩; refine nj ?_
  (repeat (first | (show W _ _ _ _ _ _ (.code (cond _ _ _) :: _) _ _; first | refine W.ct ?_ | refine W.cf ?_) | (show W _ _ _ _ _ _ (.ins (cond _ _ _ :: _) :: _) _ _; first | refine W.gt ?_ | refine W.gf ?_) | (show W _ _ _ _ _ _ [] _ _; refine W.of (.done ?_)) | (apply W.of; constructor <;> first | (show W _ _ _ _ _ _ _ _ _) | (intro (al : Nat) h st; show W _ _ _ _ _ _ _ _ _) | (intro _ h st; show W _ _ _ _ _ _ _ _ _) | exact Sd)))
  exact ⟨_, rfl, _, ⟨⟨_, rfl⟩, rfl⟩, st⟩
theorem make_ok {n : Int} (h0 : 0 ≤ n) (h1 : n ≤ 4096) (h2 : s.sizes.length < 16) : s.make n = ({ s with sizes := s.sizes ++ [n] }, (s.sizes.length : Int) + 1, 0) := by
  unfold FiS.make; rw [if_neg (by omega), if_neg (by omega)]
theorem file_Make_ok {n : Int} (h0 : 0 ≤ n) (h1 : n ≤ 4096) (h2 : s.sizes.length < 16) : Spec R (.f n_file_Store_Make) [.ptr D 0, .int .i64 n] [FiC D s] fun v Rs => v = .tuple [.int .i64 ((s.sizes.length : Int) + 1), .int .i64 0] ∧ Rs = [FiC D { s with sizes := s.sizes ++ [n] }] :=
  file_Make.mono progI_mono fun v Rs ⟨e1, e2⟩ => by rw [make_ok h0 h1 h2] at e1 e2; exact ⟨e1, e2⟩
theorem St.fiNodup {h : AHeap} {L R : List Chunk} (st : St h L) (t : Take L (FiC D s) R) : (keys s.pg).Nodup := by
  obtain ⟨cs, ⟨lv, M, rfl, _⟩, st'⟩ := (st.take t).unpack
  exact St.mpNodup (ke := pkey) (ve := pageV) (M := M) (l := s.pg) st' (.there (.there .here))
theorem cell_put (hn : (keys s.pg).Nodup) (p q : Pl) (N : Nat) : (s.put p N).cell q = if p = q then N else s.cell q := by
  unfold FiS.put FiS.cell
  by_cases hz : N = 0
  · subst hz
    simp only [if_true, alook_adel hn]
    split <;> rfl
  · simp only [if_neg hz, alook_aput]
    split <;> rfl
theorem at_ok {id n : Int} (h : s.ok id n = true) (hb : s.left ≠ 1) : s.at' id n true = ⟨s.tick, 0⟩ := by
  unfold FiS.at' FiS.bad
  cases hs : s.size id with
  | none => rw [ok_none hs] at h; cases h
  | some z => rw [if_neg (by simp), if_pos ⟨h, rfl⟩, decide_eq_false hb]; rfl
/-- a Read that does not fail -/
theorem file_Read_ok {id n : Int} (hlo : s.left ≤ 9223372036854775807) (h : s.ok id n = true) (hb : s.left ≠ 1) : Spec R (.f n_file_Store_Read) [.ptr D 0, .int .i64 id, .int .i64 n] [FiC D s] fun r Rs =>
    ∃ x, r = .tuple [x, .int .i64 0] ∧ x.notJunk = some x ∧ sliceLen x = some 4096 ∧ Rs = [ByC x 4096 (s.cell (id, n)) true, FiC D s.tick] :=
  (file_Read hlo).mono progI_mono fun r Rs ⟨x, e1, e2, e3, e4⟩ => by
    rw [at_ok h hb] at e1 e4
    unfold FiS.rk at e3 e4
    rw [at_ok h hb, if_pos rfl] at e3 e4
    exact ⟨x, e1, e2, e3, e4⟩
theorem file_Write_ok {id n : Int} {v : AV} {N : Nat} {w : Bool} (hlo : s.left ≤ 9223372036854775807) (h : s.ok id n = true) (hb : s.left ≠ 1) : Spec R (.f n_file_Store_Write) [.ptr D 0, .int .i64 id, .int .i64 n, v] [FiC D s, ByC v 4096 N w] fun r Rs =>
    r = .int .i64 0 ∧ Rs = [FiC D (s.tick.put (id, n) N), ByC v 4096 N w] :=
  (file_Write hlo).mono progI_mono fun r Rs ⟨e1, e2⟩ => by
    have e : s.write id n 4096 N = ⟨s.tick.put (id, n) N, 0⟩ := by
      unfold FiS.write; dsimp only
      rw [show (((4096 : Nat) : Int) == 4096) = true from rfl, at_ok h hb, if_pos rfl]
    rw [e] at e1 e2
    exact ⟨e1, e2⟩
theorem alook_filter {l : List (Pl × Nat)} (hn : (keys l).Nodup) (g : Pl → Bool) (p : Pl) : alook (l.filter fun q => g q.1) p = if g p = true then alook l p else none := by
  have hn' : (keys (l.filter fun q => g q.1)).Nodup := by unfold keys at *; exact hn.sublist (List.filter_sublist.map _)
  cases h : alook (l.filter fun q => g q.1) p with
  | some b =>
    have hm := (alook_mem hn').1 h
    obtain ⟨h1, h2⟩ := List.mem_filter.1 hm
    rw [if_pos h2]; exact ((alook_mem hn).2 h1).symm
  | none =>
    split
    · rename_i hg
      cases h2 : alook l p with
      | none => rfl
      | some b =>
        have := (alook_mem hn').2 (List.mem_filter.2 ⟨(alook_mem hn).1 h2, hg⟩)
        rw [h] at this; cases this
    · rfl
theorem resize_ok {id z y : Int} (hs : s.size id = some y) (h0 : 0 ≤ z) (h1 : z ≤ 4096) : s.resize id z = ⟨{ s with sizes := s.sizes.set (id - 1).toNat z, pg := s.pg.filter fun q => !cutQ id z q.1 }, 0⟩ := by
  unfold FiS.resize; rw [hs, if_neg (by simp), if_neg (by omega)]
theorem file_Resize_ok {id z y : Int} (hlen : s.pg.length < 100000) (hs : s.size id = some y) (h0 : 0 ≤ z) (h1 : z ≤ 4096) : Spec R (.f n_file_Store_Resize) [.ptr D 0, .int .i64 id, .int .i64 z] [FiC D s] fun r Rs =>
    r = .int .i64 0 ∧ Rs = [FiC D { s with sizes := s.sizes.set (id - 1).toNat z, pg := s.pg.filter fun q => !cutQ id z q.1 }] :=
  (file_Resize hlen).mono progI_mono fun r Rs ⟨e1, e2⟩ => by rw [resize_ok hs h0 h1] at e1 e2; exact ⟨e1, e2⟩
theorem put_len (p : Pl) (N : Nat) : (s.put p N).pg.length ≤ s.pg.length + 1 := by
  unfold FiS.put
  simp only
  split
  · have : ∀ l : List (Pl × Nat), (adel l p).length ≤ l.length := fun l => by
      induction l with
      | nil => simp [adel]
      | cons a l ih =>
        obtain ⟨k, v⟩ := a
        simp only [adel]; split <;> simp <;> omega
    have := this s.pg; omega
  · have : ∀ l : List (Pl × Nat), (aput l p N).length ≤ l.length + 1 := fun l => by
      induction l with
      | nil => simp [aput]
      | cons a l ih =>
        obtain ⟨k, v⟩ := a
        simp only [aput]; split <;> simp <;> omega
    exact this s.pg
/-- two files of one size -/
abbrev cS (z z' : Int) (pg : List (Pl × Nat)) : FiS := ⟨[z, z'], pg, 0⟩
theorem fiNew_size : (⟨[2], [], 0⟩ : FiS).size 1 = some 2 := rfl
set_option maxRecDepth 8000 in
/-- the document's examples are as it says -/
theorem law10_lives : Spec R (.f n_law10_lives) [] [] fun v Rs => v = .bool true ∧ Rs = [] := by
  refine spec_w (fun _ _ _ x => progI_call rfl rfl x) Njs rfl (fun h F st => ?_); dsimp only [List.cons_append, List.nil_append] at st
  (repeat (first | (show W _ _ _ _ _ _ (.code (cond _ _ _) :: _) _ _; first | refine W.ct ?_ | refine W.cf ?_) | (show W _ _ _ _ _ _ (.ins (cond _ _ _ :: _) :: _) _ _; first | refine W.gt ?_ | refine W.gf ?_) | (show W _ _ _ _ _ _ [] _ _; refine W.of (.done ?_)) | (apply W.of; constructor <;> first | (show W _ _ _ _ _ _ _ _ _) | (intro (al : Nat) h st; show W _ _ _ _ _ _ _ _ _) | (intro _ h st; show W _ _ _ _ _ _ _ _ _) | exact Sd))); refine W.call (hs := file_New) (w := ?_); rintro vv _ ⟨D, rfl, rfl⟩ h st; refine nj ?_; dsimp only [List.cons_append, List.nil_append] at st
  (repeat (first | (show W _ _ _ _ _ _ (.code (cond _ _ _) :: _) _ _; first | refine W.ct ?_ | refine W.cf ?_) | (show W _ _ _ _ _ _ (.ins (cond _ _ _ :: _) :: _) _ _; first | refine W.gt ?_ | refine W.gf ?_) | (show W _ _ _ _ _ _ [] _ _; refine W.of (.done ?_)) | (apply W.of; constructor <;> first | (show W _ _ _ _ _ _ _ _ _) | (intro (al : Nat) h st; show W _ _ _ _ _ _ _ _ _) | (intro _ h st; show W _ _ _ _ _ _ _ _ _) | exact Sd))); refine W.call (hs := (file_Make_ok (s := ⟨[], [], 0⟩) (n := 2) (by decide) (by decide) (by decide))) (w := ?_); rintro vv _ ⟨rfl, rfl⟩ h st; refine nj ?_; dsimp only [List.cons_append, List.nil_append] at st
  (repeat (first | (show W _ _ _ _ _ _ (.code (cond _ _ _) :: _) _ _; first | refine W.ct ?_ | refine W.cf ?_) | (show W _ _ _ _ _ _ (.ins (cond _ _ _ :: _) :: _) _ _; first | refine W.gt ?_ | refine W.gf ?_) | (show W _ _ _ _ _ _ [] _ _; refine W.of (.done ?_)) | (apply W.of; constructor <;> first | (show W _ _ _ _ _ _ _ _ _) | (intro (al : Nat) h st; show W _ _ _ _ _ _ _ _ _) | (intro _ h st; show W _ _ _ _ _ _ _ _ _) | exact Sd)))
  have st := St.byRow' (k := 1) (n := 7) st Tk (by decide)
  (repeat (first | (show W _ _ _ _ _ _ (.code (cond _ _ _) :: _) _ _; first | refine W.ct ?_ | refine W.cf ?_) | (show W _ _ _ _ _ _ (.ins (cond _ _ _ :: _) :: _) _ _; first | refine W.gt ?_ | refine W.gf ?_) | (show W _ _ _ _ _ _ [] _ _; refine W.of (.done ?_)) | (apply W.of; constructor <;> first | (show W _ _ _ _ _ _ _ _ _) | (intro (al : Nat) h st; show W _ _ _ _ _ _ _ _ _) | (intro _ h st; show W _ _ _ _ _ _ _ _ _) | exact Sd))); refine W.call (hs := law10_page) (w := ?_); rintro vv _ ⟨⟨id1, rfl⟩, rfl⟩ h st; refine nj ?_; dsimp only [List.cons_append, List.nil_append] at st
  (repeat (first | (show W _ _ _ _ _ _ (.code (cond _ _ _) :: _) _ _; first | refine W.ct ?_ | refine W.cf ?_) | (show W _ _ _ _ _ _ (.ins (cond _ _ _ :: _) :: _) _ _; first | refine W.gt ?_ | refine W.gf ?_) | (show W _ _ _ _ _ _ [] _ _; refine W.of (.done ?_)) | (apply W.of; constructor <;> first | (show W _ _ _ _ _ _ _ _ _) | (intro (al : Nat) h st; show W _ _ _ _ _ _ _ _ _) | (intro _ h st; show W _ _ _ _ _ _ _ _ _) | exact Sd))); refine W.call (hs := (file_Write_ok (D := D) (s := ⟨[2], [], 0⟩) (id := 1) (n := 1) (v := .sl id1 0 4096 4096) (by decide) (by rw [ok_some fiNew_size]; decide) (by decide))) (w := ?_); rintro vv _ ⟨rfl, rfl⟩ h st; refine nj ?_; dsimp only [List.cons_append, List.nil_append] at st
  have hlen := put_len (s := ⟨[2], [], 0⟩) (1, 1) (pageN 1 7)
  have st : St h (FiC D ⟨[2], ((⟨[2], [], 0⟩ : FiS).put (1, 1) (pageN 1 7)).pg, 0⟩ :: ByC (.sl id1 0 4096 4096) 4096 (pageN 1 7) true :: ByC (.sl al 0 1 1) 1 7 true :: F) := st
  have hn := st.fiNodup Tk
  simp only at hn
  generalize ((⟨[2], [], 0⟩ : FiS).put (1, 1) (pageN 1 7)).pg = pg at *
  (repeat (first | (show W _ _ _ _ _ _ (.code (cond _ _ _) :: _) _ _; first | refine W.ct ?_ | refine W.cf ?_) | (show W _ _ _ _ _ _ (.ins (cond _ _ _ :: _) :: _) _ _; first | refine W.gt ?_ | refine W.gf ?_) | (show W _ _ _ _ _ _ [] _ _; refine W.of (.done ?_)) | (apply W.of; constructor <;> first | (show W _ _ _ _ _ _ _ _ _) | (intro (al : Nat) h st; show W _ _ _ _ _ _ _ _ _) | (intro _ h st; show W _ _ _ _ _ _ _ _ _) | exact Sd))); refine W.call (hs := (file_Resize_ok (s := ⟨[2], pg, 0⟩) (id := 1) (z := 1) (y := 2) (by show pg.length < 100000; simp only [List.length_nil] at hlen; omega) rfl (by decide) (by decide))) (w := ?_); rintro vv _ ⟨rfl, rfl⟩ h st; refine nj ?_; dsimp only [List.cons_append, List.nil_append] at st
  have hl2 : (pg.filter fun q => !cutQ 1 1 q.1).length ≤ pg.length := List.length_filter_le _ _
  have st : St h (FiC D ⟨[1], pg.filter fun q => !cutQ 1 1 q.1, 0⟩ :: ByC (.sl id1 0 4096 4096) 4096 (pageN 1 7) true :: ByC (.sl al 0 1 1) 1 7 true :: F) := st
  (repeat (first | (show W _ _ _ _ _ _ (.code (cond _ _ _) :: _) _ _; first | refine W.ct ?_ | refine W.cf ?_) | (show W _ _ _ _ _ _ (.ins (cond _ _ _ :: _) :: _) _ _; first | refine W.gt ?_ | refine W.gf ?_) | (show W _ _ _ _ _ _ [] _ _; refine W.of (.done ?_)) | (apply W.of; constructor <;> first | (show W _ _ _ _ _ _ _ _ _) | (intro (al : Nat) h st; show W _ _ _ _ _ _ _ _ _) | (intro _ h st; show W _ _ _ _ _ _ _ _ _) | exact Sd))); refine W.call (hs := (file_Resize_ok (s := ⟨[1], pg.filter fun q => !cutQ 1 1 q.1, 0⟩) (id := 1) (z := 2) (y := 1) (by show (pg.filter fun q => !cutQ 1 1 q.1).length < 100000; simp only [List.length_nil] at hlen; omega) rfl (by decide) (by decide))) (w := ?_); rintro vv _ ⟨rfl, rfl⟩ h st; refine nj ?_; dsimp only [List.cons_append, List.nil_append] at st
  have st : St h (FiC D ⟨[2], (pg.filter fun q => !cutQ 1 1 q.1).filter fun q => !cutQ 1 2 q.1, 0⟩ :: F) := st.sel Sels
  have hn' : (keys (pg.filter fun q => !cutQ 1 1 q.1)).Nodup := by unfold keys at *; exact hn.sublist (List.filter_sublist.map _)
  have hc : (alook ((pg.filter fun q => !cutQ 1 1 q.1).filter fun q => !cutQ 1 2 q.1) (1, 1)).getD 0 = 0 := by
    rw [alook_filter hn' (fun p => !cutQ 1 2 p), alook_filter hn (fun p => !cutQ 1 1 p)]
    rw [if_pos (by decide), if_neg (by decide)]; rfl
  generalize ((pg.filter fun q => !cutQ 1 1 q.1).filter fun q => !cutQ 1 2 q.1) = pg2 at *
  (repeat (first | (show W _ _ _ _ _ _ (.code (cond _ _ _) :: _) _ _; first | refine W.ct ?_ | refine W.cf ?_) | (show W _ _ _ _ _ _ (.ins (cond _ _ _ :: _) :: _) _ _; first | refine W.gt ?_ | refine W.gf ?_) | (show W _ _ _ _ _ _ [] _ _; refine W.of (.done ?_)) | (apply W.of; constructor <;> first | (show W _ _ _ _ _ _ _ _ _) | (intro (al : Nat) h st; show W _ _ _ _ _ _ _ _ _) | (intro _ h st; show W _ _ _ _ _ _ _ _ _) | exact Sd))); refine W.call (hs := (file_Read_ok (s := ⟨[2], pg2, 0⟩) (id := 1) (n := 1) (by show (0 : Int) ≤ 9223372036854775807; decide) (by rw [ok_some (z := 2) rfl]; decide) (by show ¬ (0 : Int) = 1; decide))) (w := ?_); rintro vv _ ⟨x, rfl, gx, gl, rfl⟩ h st; refine nj ?_; dsimp only [List.cons_append, List.nil_append] at st
  rw [show (⟨[2], pg2, 0⟩ : FiS).cell (1, 1) = 0 from hc] at st
  (repeat (first | (show W _ _ _ _ _ _ (.code (cond _ _ _) :: _) _ _; first | refine W.ct ?_ | refine W.cf ?_) | (show W _ _ _ _ _ _ (.ins (cond _ _ _ :: _) :: _) _ _; first | refine W.gt ?_ | refine W.gf ?_) | (show W _ _ _ _ _ _ [] _ _; refine W.of (.done ?_)) | (apply W.of; constructor <;> first | (show W _ _ _ _ _ _ _ _ _) | (intro (al : Nat) h st; show W _ _ _ _ _ _ _ _ _) | (intro _ h st; show W _ _ _ _ _ _ _ _ _) | exact Sd)))
  have st := st.byNil false
  (repeat (first | (show W _ _ _ _ _ _ (.code (cond _ _ _) :: _) _ _; first | refine W.ct ?_ | refine W.cf ?_) | (show W _ _ _ _ _ _ (.ins (cond _ _ _ :: _) :: _) _ _; first | refine W.gt ?_ | refine W.gf ?_) | (show W _ _ _ _ _ _ [] _ _; refine W.of (.done ?_)) | (apply W.of; constructor <;> first | (show W _ _ _ _ _ _ _ _ _) | (intro (al : Nat) h st; show W _ _ _ _ _ _ _ _ _) | (intro _ h st; show W _ _ _ _ _ _ _ _ _) | exact Sd))); refine W.call (hs := (law10_page (v := .nilsl) (k := 0) (n := 0) (w := false))) (w := ?_); rintro vv _ ⟨⟨id2, rfl⟩, rfl⟩ h st; refine nj ?_; dsimp only [List.cons_append, List.nil_append] at st
  rw [show pageN 0 0 = 0 by decide] at st
  (repeat (first | (show W _ _ _ _ _ _ (.code (cond _ _ _) :: _) _ _; first | refine W.ct ?_ | refine W.cf ?_) | (show W _ _ _ _ _ _ (.ins (cond _ _ _ :: _) :: _) _ _; first | refine W.gt ?_ | refine W.gf ?_) | (show W _ _ _ _ _ _ [] _ _; refine W.of (.done ?_)) | (apply W.of; constructor <;> first | (show W _ _ _ _ _ _ _ _ _) | (intro (al : Nat) h st; show W _ _ _ _ _ _ _ _ _) | (intro _ h st; show W _ _ _ _ _ _ _ _ _) | exact Sd))); refine W.call (hs := (Bytes_t (a := x))) (w := ?_); rintro vv _ ⟨rfl, rfl⟩ h st; refine nj ?_; dsimp only [List.cons_append, List.nil_append] at st
  (repeat (first | (show W _ _ _ _ _ _ (.code (cond _ _ _) :: _) _ _; first | refine W.ct ?_ | refine W.cf ?_) | (show W _ _ _ _ _ _ (.ins (cond _ _ _ :: _) :: _) _ _; first | refine W.gt ?_ | refine W.gf ?_) | (show W _ _ _ _ _ _ [] _ _; refine W.of (.done ?_)) | (apply W.of; constructor <;> first | (show W _ _ _ _ _ _ _ _ _) | (intro (al : Nat) h st; show W _ _ _ _ _ _ _ _ _) | (intro _ h st; show W _ _ _ _ _ _ _ _ _) | exact Sd)))
  exact ⟨_, rfl, _, ⟨rfl, rfl⟩, st.sel Sels⟩
end Go.Proofs.Ytjdemlagmamlbaa

namespace Go.Proofs.Ytjdemlagmamlbaa
variable {D : Nat} {s : FiS}
/-- all pages up to one are written -/
def CutOk (P i : Nat) (pg : List (Pl × Nat)) : Prop := pg.length ≤ 2 * i ∧ ∀ f : Int, (f = 1 ∨ f = 2) → ∀ j : Nat, j < i → (alook pg (f, (j : Int))).getD 0 = P
theorem CutOk.step {P i : Nat} {pg : List (Pl × Nat)} {z z' : Int} (h : CutOk P i pg) (hn : (keys pg).Nodup) (hn2 : (keys ((cS z z' pg).put (1, (i : Int)) P).pg).Nodup) :
    CutOk P (i + 1) ((cS z z' ((cS z z' pg).put (1, (i : Int)) P).pg).put (2, (i : Int)) P).pg := by
  refine ⟨?_, fun f hf j hj => ?_⟩
  · have a := put_len (s := cS z z' pg) (1, (i : Int)) P
    have b := put_len (s := cS z z' ((cS z z' pg).put (1, (i : Int)) P).pg) (2, (i : Int)) P
    have := h.1
    simp only at a b ⊢; omega
  · have a := cell_put (s := cS z z' pg) hn (1, (i : Int)) (f, (j : Int)) P
    have b := cell_put (s := cS z z' ((cS z z' pg).put (1, (i : Int)) P).pg) hn2 (2, (i : Int)) (f, (j : Int)) P
    have e : (alook ((cS z z' ((cS z z' pg).put (1, (i : Int)) P).pg).put (2, (i : Int)) P).pg (f, (j : Int))).getD 0 = if (2, (i : Int)) = (f, (j : Int)) then P else if (1, (i : Int)) = (f, (j : Int)) then P else (cS z z' pg).cell (f, (j : Int)) := by
      have a' : (cS z z' ((cS z z' pg).put (1, (i : Int)) P).pg).cell (f, (j : Int)) = if (1, (i : Int)) = (f, (j : Int)) then P else (cS z z' pg).cell (f, (j : Int)) := a
      rw [← a']; exact b
    rw [e]
    by_cases hij : j = i
    · subst hij
      rcases hf with rfl | rfl <;> simp
    · rw [if_neg (by simp; omega), if_neg (by simp; omega)]
      exact h.2 f hf j (by omega)
/-- behind the cut and the growth -/
theorem CutOk.cut {P z : Nat} {pg : List (Pl × Nat)} (h : CutOk P z pg) (hn : (keys pg).Nodup) (k i : Nat) (hi : i < z) :
    (alook ((pg.filter fun q => !cutQ 1 (k : Int) q.1).filter fun q => !cutQ 1 (z : Int) q.1) (1, (i : Int))).getD 0 = (if k ≤ i then 0 else P) ∧ (alook ((pg.filter fun q => !cutQ 1 (k : Int) q.1).filter fun q => !cutQ 1 (z : Int) q.1) (2, (i : Int))).getD 0 = P := by
  have hn' : (keys (pg.filter fun q => !cutQ 1 (k : Int) q.1)).Nodup := by unfold keys at *; exact hn.sublist (List.filter_sublist.map _)
  rw [alook_filter hn' (fun p => !cutQ 1 (z : Int) p), alook_filter hn' (fun p => !cutQ 1 (z : Int) p), alook_filter hn (fun p => !cutQ 1 (k : Int) p), alook_filter hn (fun p => !cutQ 1 (k : Int) p)]
  have e1 := h.2 1 (.inl rfl) i hi
  have e2 := h.2 2 (.inr rfl) i hi
  constructor
  · rw [if_pos (by simp [cutQ]; omega)]
    by_cases hki : k ≤ i
    · rw [if_neg (by simp [cutQ]; omega), if_pos hki]; rfl
    · rw [if_pos (by simp [cutQ]; omega), if_neg hki]; exact e1
  · rw [if_pos (by simp [cutQ]), if_pos (by simp [cutQ])]; exact e2
end Go.Proofs.Ytjdemlagmamlbaa

namespace Go.Proofs.Ytjdemlagmamlbaa
variable {D : Nat} {s : FiS}
/-- two numbers of an argument -/
abbrev U2 := Nat × Nat
abbrev U2.cells (p : U2) : List AV := [.int .u64 (p.1 : Nat), .int .u64 (p.2 : Nat)]
abbrev U2.G (_ : U2) : List Chunk := []
/-- all six pages begin as is told -/
def PgH (pg : List (Pl × Nat)) (has : Nat) : Prop := ∀ i : Nat, i < 6 → byteAt ((alook pg (1, (i : Int))).getD 0) 0 = byteAt has i
abbrev pS (pg : List (Pl × Nat)) (l : Int) : FiS := ⟨[6], pg, l⟩
theorem PgH.put {pg : List (Pl × Nat)} {has n a N : Nat} (h : PgH pg has) (hn : (keys pg).Nodup) (ha : a < 256) (hN : byteAt N 0 = a) : PgH ((pS pg 0).put (1, (n : Int)) N).pg (bput has n 1 a) := by
  intro i hi
  have e := cell_put (s := pS pg 0) hn (1, (n : Int)) (1, (i : Int)) N
  unfold FiS.cell at e
  rw [e, byteAt_bput]
  by_cases h1 : n = i
  · subst h1
    rw [if_pos rfl, if_pos (by omega), Nat.sub_self, byteAt_small _ ha]; exact hN
  · rw [if_neg (by simp; omega), if_neg (by omega)]
    exact h i hi
end Go.Proofs.Ytjdemlagmamlbaa

namespace Go.Proofs.Ytjdemlagmamlbaa
variable {D : Nat} {s : FiS}
/-- an act -/
structure ActF where
  kind : Int
  id : Int
  n : Int
  v : AV
  k : Nat
  c : Nat
  raw : Bool
  hn : n ≤ 9223372036854775807
def ActF.cells (a : ActF) : List AV := [.int .i64 a.kind, .int .i64 a.id, .int .i64 a.n, a.v, .bool a.raw]
def ActF.G (a : ActF) : List Chunk := [ByC a.v a.k a.c false]
/-- the acts' bytes are what is told -/
def LenF (l : List ActF) : Prop := ∀ a, a ∈ l → sliceLen a.v = some a.k ∧ a.v.notJunk = some a.v
theorem cellsF_len (a : ActF) : a.cells.length = 5 := rfl
theorem law10_light {v : AV} {e : Nat} {w : Bool} {l : List ActF} (hl : LenF l) : Spec R (.f n_law10_light) [v] [SlC v e 5 l.length (.vals (l.flatMap ActF.cells)) w] fun r Rs =>
    (∃ b, r = .bool b ∧ (b = true → l.length ≤ 60 ∧ ∀ a, a ∈ l → a.k ≤ 5000)) ∧ Rs = [SlC v e 5 l.length (.vals (l.flatMap ActF.cells)) w] := by
  refine spec_in fun h F st => ?_
  obtain ⟨hv, hj, _⟩ := st.slc Tk
  clear st h F; refine spec_w (fun _ _ _ x => progI_call rfl rfl x) Njs rfl (fun h F st => ?_); dsimp only [List.cons_append, List.nil_append] at st
  (repeat (first | (show W _ _ _ _ _ _ (.code (cond _ _ _) :: _) _ _; first | refine W.ct ?_ | refine W.cf ?_) | (show W _ _ _ _ _ _ (.ins (cond _ _ _ :: _) :: _) _ _; first | refine W.gt ?_ | refine W.gf ?_) | (show W _ _ _ _ _ _ [] _ _; refine W.of (.done ?_)) | (apply W.of; constructor <;> first | (show W _ _ _ _ _ _ _ _ _) | (intro (al : Nat) h st; show W _ _ _ _ _ _ _ _ _) | (intro _ h st; show W _ _ _ _ _ _ _ _ _) | exact Sd)))
  by_cases h60 : l.length ≤ 60
  · (repeat (first | (show W _ _ _ _ _ _ (.code (cond _ _ _) :: _) _ _; first | refine W.ct ?_ | refine W.cf ?_) | (show W _ _ _ _ _ _ (.ins (cond _ _ _ :: _) :: _) _ _; first | refine W.gt ?_ | refine W.gf ?_) | (show W _ _ _ _ _ _ [] _ _; refine W.of (.done ?_)) | (apply W.of; constructor <;> first | (show W _ _ _ _ _ _ _ _ _) | (intro (al : Nat) h st; show W _ _ _ _ _ _ _ _ _) | (intro _ h st; show W _ _ _ _ _ _ _ _ _) | exact Sd)))
    refine W.loop (fun i : Nat => [(8, v), (9, .int .i64 l.length), (10, .int .i64 i)]) (fun _ => SlC v e 5 l.length (.vals (l.flatMap ActF.cells)) w :: F) (fun i => i ≤ l.length ∧ ∀ j a, j < i → l[j]? = some a → a.k ≤ 5000) (fun i => l.length - i) 0 (small_rounds (by omega)) Sbs st ⟨by omega, fun j a h => by omega⟩ ?_
    clear st
    intro i h ⟨hi, hall⟩ st
    by_cases hlt : i < l.length
    · obtain ⟨a, ha⟩ : ∃ a, l[i]? = some a := ⟨l[i], by simp [hlt]⟩
      obtain ⟨gl, gj⟩ := hl a (List.mem_of_getElem? ha)
      have gp := d_indexs (i := (i : Int)) (kk := .i64) st Tk (by omega) (by omega)
      have gq := elemPtr_nj (es := 5) hv hlt
      rw [Int.toNat_natCast] at gp
      obtain ⟨f1, f2⟩ := flat_at (fun a _ => cellsF_len a) ha
      (repeat (first | (show W _ _ _ _ _ _ (.code (cond _ _ _) :: _) _ _; first | refine W.ct ?_ | refine W.cf ?_) | (show W _ _ _ _ _ _ (.ins (cond _ _ _ :: _) :: _) _ _; first | refine W.gt ?_ | refine W.gf ?_) | (show W _ _ _ _ _ _ [] _ _; refine W.of (.done ?_)) | (apply W.of; constructor <;> first | (show W _ _ _ _ _ _ _ _ _) | (intro (al : Nat) h st; show W _ _ _ _ _ _ _ _ _) | (intro _ h st; show W _ _ _ _ _ _ _ _ _) | exact Sd)))
      (repeat (first | (show W _ _ _ _ _ _ (.code (cond _ _ _) :: _) _ _; first | refine W.ct ?_ | refine W.cf ?_) | (show W _ _ _ _ _ _ (.ins (cond _ _ _ :: _) :: _) _ _; first | refine W.gt ?_ | refine W.gf ?_) | (show W _ _ _ _ _ _ [] _ _; refine W.of (.done ?_)) | (apply W.of; constructor <;> first | (show W _ _ _ _ _ _ _ _ _) | (intro (al : Nat) h st; show W _ _ _ _ _ _ _ _ _) | (intro _ h st; show W _ _ _ _ _ _ _ _ _) | exact Sd))); refine W.do (ho := gp) (w := ?_)
      (repeat (first | (show W _ _ _ _ _ _ (.code (cond _ _ _) :: _) _ _; first | refine W.ct ?_ | refine W.cf ?_) | (show W _ _ _ _ _ _ (.ins (cond _ _ _ :: _) :: _) _ _; first | refine W.gt ?_ | refine W.gf ?_) | (show W _ _ _ _ _ _ [] _ _; refine W.of (.done ?_)) | (apply W.of; constructor <;> first | (show W _ _ _ _ _ _ _ _ _) | (intro (al : Nat) h st; show W _ _ _ _ _ _ _ _ _) | (intro _ h st; show W _ _ _ _ _ _ _ _ _) | exact Sd))); refine W.do (ho := (d_loadEn (x := .agg a.cells) st Tk rfl hlt (by simp only [Dat.sub]; rw [if_pos f2, f1]))) (w := ?_)
      (repeat (first | (show W _ _ _ _ _ _ (.code (cond _ _ _) :: _) _ _; first | refine W.ct ?_ | refine W.cf ?_) | (show W _ _ _ _ _ _ (.ins (cond _ _ _ :: _) :: _) _ _; first | refine W.gt ?_ | refine W.gf ?_) | (show W _ _ _ _ _ _ [] _ _; refine W.of (.done ?_)) | (apply W.of; constructor <;> first | (show W _ _ _ _ _ _ _ _ _) | (intro (al : Nat) h st; show W _ _ _ _ _ _ _ _ _) | (intro _ h st; show W _ _ _ _ _ _ _ _ _) | exact Sd)))
      by_cases h5 : a.k ≤ 5000
      · (repeat (first | (show W _ _ _ _ _ _ (.code (cond _ _ _) :: _) _ _; first | refine W.ct ?_ | refine W.cf ?_) | (show W _ _ _ _ _ _ (.ins (cond _ _ _ :: _) :: _) _ _; first | refine W.gt ?_ | refine W.gf ?_) | (show W _ _ _ _ _ _ [] _ _; refine W.of (.done ?_)) | (apply W.of; constructor <;> first | (show W _ _ _ _ _ _ _ _ _) | (intro (al : Nat) h st; show W _ _ _ _ _ _ _ _ _) | (intro _ h st; show W _ _ _ _ _ _ _ _ _) | exact Sd)))
        have hall' : ∀ j a, j < i + 1 → l[j]? = some a → a.k ≤ 5000 := fun j b hj hb => by
          by_cases e : j = i
          · subst e; rw [ha] at hb; cases hb; exact h5
          · exact hall j b (by omega) hb
        refine W.of (.lp ?_); exact ⟨i + 1, by omega, ⟨by omega, hall'⟩, Sbs, st.sel Sels⟩
      · (repeat (first | (show W _ _ _ _ _ _ (.code (cond _ _ _) :: _) _ _; first | refine W.ct ?_ | refine W.cf ?_) | (show W _ _ _ _ _ _ (.ins (cond _ _ _ :: _) :: _) _ _; first | refine W.gt ?_ | refine W.gf ?_) | (show W _ _ _ _ _ _ [] _ _; refine W.of (.done ?_)) | (apply W.of; constructor <;> first | (show W _ _ _ _ _ _ _ _ _) | (intro (al : Nat) h st; show W _ _ _ _ _ _ _ _ _) | (intro _ h st; show W _ _ _ _ _ _ _ _ _) | exact Sd)))
        exact ⟨_, rfl, _, ⟨⟨_, rfl, fun h => by cases h⟩, rfl⟩, st.sel Sels⟩
    · (repeat (first | (show W _ _ _ _ _ _ (.code (cond _ _ _) :: _) _ _; first | refine W.ct ?_ | refine W.cf ?_) | (show W _ _ _ _ _ _ (.ins (cond _ _ _ :: _) :: _) _ _; first | refine W.gt ?_ | refine W.gf ?_) | (show W _ _ _ _ _ _ [] _ _; refine W.of (.done ?_)) | (apply W.of; constructor <;> first | (show W _ _ _ _ _ _ _ _ _) | (intro (al : Nat) h st; show W _ _ _ _ _ _ _ _ _) | (intro _ h st; show W _ _ _ _ _ _ _ _ _) | exact Sd)))
      refine ⟨_, rfl, _, ⟨⟨_, rfl, fun _ => ⟨h60, fun a ha => ?_⟩⟩, rfl⟩, st⟩
      obtain ⟨j, hj, e⟩ := List.getElem_of_mem ha
      exact hall j a (by omega) (by simp [hj, e])
  · (repeat (first | (show W _ _ _ _ _ _ (.code (cond _ _ _) :: _) _ _; first | refine W.ct ?_ | refine W.cf ?_) | (show W _ _ _ _ _ _ (.ins (cond _ _ _ :: _) :: _) _ _; first | refine W.gt ?_ | refine W.gf ?_) | (show W _ _ _ _ _ _ [] _ _; refine W.of (.done ?_)) | (apply W.of; constructor <;> first | (show W _ _ _ _ _ _ _ _ _) | (intro (al : Nat) h st; show W _ _ _ _ _ _ _ _ _) | (intro _ h st; show W _ _ _ _ _ _ _ _ _) | exact Sd)))
    exact ⟨_, rfl, _, ⟨⟨_, rfl, fun h => by cases h⟩, rfl⟩, st⟩
/-- an act's bytes -/
def ActF.bk (a : ActF) : Nat := if a.raw then a.k else 4096
def ActF.bn (a : ActF) : Nat := if a.raw then a.c else pageN a.k a.c
theorem bytesF_w {a : ActF} : Spec R (.f n_law10_Act_bytes) [.agg a.cells] [ByC a.v a.k a.c false] fun x Rs => x.notJunk = some x ∧ sliceLen x = some a.bk ∧ ∃ w, Rs = [ByC x a.bk a.bn w, ByC a.v a.k a.c false] := by
  refine spec_in fun h F st => ?_
  obtain ⟨gl, gj, gn⟩ := st.by Tk
  clear st h F; refine spec_w (fun _ _ _ x => progI_call rfl rfl x) Njs rfl (fun h F st => ?_); dsimp only [List.cons_append, List.nil_append] at st
  unfold ActF.bk ActF.bn
  (repeat (first | (show W _ _ _ _ _ _ (.code (cond _ _ _) :: _) _ _; first | refine W.ct ?_ | refine W.cf ?_) | (show W _ _ _ _ _ _ (.ins (cond _ _ _ :: _) :: _) _ _; first | refine W.gt ?_ | refine W.gf ?_) | (show W _ _ _ _ _ _ [] _ _; refine W.of (.done ?_)) | (apply W.of; constructor <;> first | (show W _ _ _ _ _ _ _ _ _) | (intro (al : Nat) h st; show W _ _ _ _ _ _ _ _ _) | (intro _ h st; show W _ _ _ _ _ _ _ _ _) | exact Sd)))
  cases hr : a.raw with
  | true =>
    (repeat (first | (show W _ _ _ _ _ _ (.code (cond _ _ _) :: _) _ _; first | refine W.ct ?_ | refine W.cf ?_) | (show W _ _ _ _ _ _ (.ins (cond _ _ _ :: _) :: _) _ _; first | refine W.gt ?_ | refine W.gf ?_) | (show W _ _ _ _ _ _ [] _ _; refine W.of (.done ?_)) | (apply W.of; constructor <;> first | (show W _ _ _ _ _ _ _ _ _) | (intro (al : Nat) h st; show W _ _ _ _ _ _ _ _ _) | (intro _ h st; show W _ _ _ _ _ _ _ _ _) | exact Sd)))
    exact ⟨_, rfl, _, ⟨gj, gl, false, rfl⟩, (st.copyB Tk).sel Sels⟩
  | false =>
    (repeat (first | (show W _ _ _ _ _ _ (.code (cond _ _ _) :: _) _ _; first | refine W.ct ?_ | refine W.cf ?_) | (show W _ _ _ _ _ _ (.ins (cond _ _ _ :: _) :: _) _ _; first | refine W.gt ?_ | refine W.gf ?_) | (show W _ _ _ _ _ _ [] _ _; refine W.of (.done ?_)) | (apply W.of; constructor <;> first | (show W _ _ _ _ _ _ _ _ _) | (intro (al : Nat) h st; show W _ _ _ _ _ _ _ _ _) | (intro _ h st; show W _ _ _ _ _ _ _ _ _) | exact Sd))); refine W.call (hs := law10_page) (w := ?_); rintro vv _ ⟨⟨id, rfl⟩, rfl⟩ h st; refine nj ?_; dsimp only [List.cons_append, List.nil_append] at st
    (repeat (first | (show W _ _ _ _ _ _ (.code (cond _ _ _) :: _) _ _; first | refine W.ct ?_ | refine W.cf ?_) | (show W _ _ _ _ _ _ (.ins (cond _ _ _ :: _) :: _) _ _; first | refine W.gt ?_ | refine W.gf ?_) | (show W _ _ _ _ _ _ [] _ _; refine W.of (.done ?_)) | (apply W.of; constructor <;> first | (show W _ _ _ _ _ _ _ _ _) | (intro (al : Nat) h st; show W _ _ _ _ _ _ _ _ _) | (intro _ h st; show W _ _ _ _ _ _ _ _ _) | exact Sd)))
    exact ⟨_, rfl, _, ⟨rfl, rfl, true, rfl⟩, st.sel Sels⟩
abbrev zFile : AObj := .row ty_file_Store 4 false false (.vals [.bool false, .nilsl, .nilmap, .int .i64 0])
def NoFIs (p : AV) (cs : List Chunk) : Prop := (p = .nilptr ∧ cs = []) ∨ ∃ Z, p = .ptr Z 0 ∧ cs = [.pt Z zFile]
abbrev NoF (p : AV) : Chunk := pk 23 p (NoFIs p)
variable {p : AV}
theorem NoFIs.nj {cs : List Chunk} (h : NoFIs p cs) : p.notJunk = some p := by
  rcases h with ⟨rfl, _⟩ | ⟨Z, rfl, _⟩ <;> rfl
theorem St.noF {h : AHeap} {L R : List Chunk} (st : St h L) (t : Take L (NoF p) R) : p.notJunk = some p := by
  obtain ⟨cs, x, _⟩ := (st.take t).unpack
  exact x.nj
theorem no_made : Spec R (.f n_file_Store_made) [p] [NoF p] fun v Rs => v = .bool false ∧ Rs = [NoF p] := by
  intro h F st
  obtain ⟨cs, (⟨rfl, rfl⟩ | ⟨Z, rfl, rfl⟩), st⟩ := st.unpack
  · have key : Spec R (.f n_file_Store_made) [.nilptr] [] fun v Rs => v = .bool false ∧ Rs = [] := by
      refine spec_w (fun _ _ _ x => progI_call rfl rfl x) Njs rfl (fun h F st => ?_); dsimp only [List.cons_append, List.nil_append] at st
      (repeat (first | (show W _ _ _ _ _ _ (.code (cond _ _ _) :: _) _ _; first | refine W.ct ?_ | refine W.cf ?_) | (show W _ _ _ _ _ _ (.ins (cond _ _ _ :: _) :: _) _ _; first | refine W.gt ?_ | refine W.gf ?_) | (show W _ _ _ _ _ _ [] _ _; refine W.of (.done ?_)) | (apply W.of; constructor <;> first | (show W _ _ _ _ _ _ _ _ _) | (intro (al : Nat) h st; show W _ _ _ _ _ _ _ _ _) | (intro _ h st; show W _ _ _ _ _ _ _ _ _) | exact Sd)))
      exact ⟨_, rfl, _, ⟨rfl, rfl⟩, st⟩
    refine progI_mono _ _ _ _ _ ?_ (key h F st)
    rintro v h' ⟨Rs, ⟨rfl, rfl⟩, st'⟩
    exact ⟨_, ⟨rfl, rfl⟩, St.pack (cs := []) st' (.inl ⟨rfl, rfl⟩)⟩
  · have key : Spec R (.f n_file_Store_made) [.ptr Z 0] [.pt Z zFile] fun v Rs => v = .bool false ∧ Rs = [.pt Z zFile] := by
      refine spec_w (fun _ _ _ x => progI_call rfl rfl x) Njs rfl (fun h F st => ?_); dsimp only [List.cons_append, List.nil_append] at st
      (repeat (first | (show W _ _ _ _ _ _ (.code (cond _ _ _) :: _) _ _; first | refine W.ct ?_ | refine W.cf ?_) | (show W _ _ _ _ _ _ (.ins (cond _ _ _ :: _) :: _) _ _; first | refine W.gt ?_ | refine W.gf ?_) | (show W _ _ _ _ _ _ [] _ _; refine W.of (.done ?_)) | (apply W.of; constructor <;> first | (show W _ _ _ _ _ _ _ _ _) | (intro (al : Nat) h st; show W _ _ _ _ _ _ _ _ _) | (intro _ h st; show W _ _ _ _ _ _ _ _ _) | exact Sd)))
      exact ⟨_, rfl, _, ⟨rfl, rfl⟩, st⟩
    refine progI_mono _ _ _ _ _ ?_ (key h F st)
    rintro v h' ⟨Rs, ⟨rfl, rfl⟩, st'⟩
    exact ⟨_, ⟨rfl, rfl⟩, St.pack (cs := [_]) st' (.inr ⟨Z, rfl, rfl⟩)⟩
theorem no_Size {id : Int} : Spec R (.f n_file_Store_Size) [p, .int .i64 id] [NoF p] fun v Rs => v = .tuple [.int .i64 0, .bool false] ∧ Rs = [NoF p] := by
  refine spec_in fun h F st => ?_
  have hp := st.noF Tk
  clear st h F; refine spec_w (fun _ _ _ x => progI_call rfl rfl x) Njs rfl (fun h F st => ?_); dsimp only [List.cons_append, List.nil_append] at st
  (repeat (first | (show W _ _ _ _ _ _ (.code (cond _ _ _) :: _) _ _; first | refine W.ct ?_ | refine W.cf ?_) | (show W _ _ _ _ _ _ (.ins (cond _ _ _ :: _) :: _) _ _; first | refine W.gt ?_ | refine W.gf ?_) | (show W _ _ _ _ _ _ [] _ _; refine W.of (.done ?_)) | (apply W.of; constructor <;> first | (show W _ _ _ _ _ _ _ _ _) | (intro (al : Nat) h st; show W _ _ _ _ _ _ _ _ _) | (intro _ h st; show W _ _ _ _ _ _ _ _ _) | exact Sd))); refine W.call (hs := no_made) (w := ?_); rintro vv _ ⟨rfl, rfl⟩ h st; refine nj ?_; dsimp only [List.cons_append, List.nil_append] at st
  (repeat (first | (show W _ _ _ _ _ _ (.code (cond _ _ _) :: _) _ _; first | refine W.ct ?_ | refine W.cf ?_) | (show W _ _ _ _ _ _ (.ins (cond _ _ _ :: _) :: _) _ _; first | refine W.gt ?_ | refine W.gf ?_) | (show W _ _ _ _ _ _ [] _ _; refine W.of (.done ?_)) | (apply W.of; constructor <;> first | (show W _ _ _ _ _ _ _ _ _) | (intro (al : Nat) h st; show W _ _ _ _ _ _ _ _ _) | (intro _ h st; show W _ _ _ _ _ _ _ _ _) | exact Sd)))
  exact ⟨_, rfl, _, ⟨rfl, rfl⟩, st⟩
theorem no_known {id : Int} : Spec R (.f n_file_Store_known) [p, .int .i64 id] [NoF p] fun v Rs => v = .tuple [.int .i64 0, .int .i64 1] ∧ Rs = [NoF p] := by
  refine spec_in fun h F st => ?_
  have hp := st.noF Tk
  clear st h F; refine spec_w (fun _ _ _ x => progI_call rfl rfl x) Njs rfl (fun h F st => ?_); dsimp only [List.cons_append, List.nil_append] at st
  (repeat (first | (show W _ _ _ _ _ _ (.code (cond _ _ _) :: _) _ _; first | refine W.ct ?_ | refine W.cf ?_) | (show W _ _ _ _ _ _ (.ins (cond _ _ _ :: _) :: _) _ _; first | refine W.gt ?_ | refine W.gf ?_) | (show W _ _ _ _ _ _ [] _ _; refine W.of (.done ?_)) | (apply W.of; constructor <;> first | (show W _ _ _ _ _ _ _ _ _) | (intro (al : Nat) h st; show W _ _ _ _ _ _ _ _ _) | (intro _ h st; show W _ _ _ _ _ _ _ _ _) | exact Sd))); refine W.call (hs := no_made) (w := ?_); rintro vv _ ⟨rfl, rfl⟩ h st; refine nj ?_; dsimp only [List.cons_append, List.nil_append] at st
  (repeat (first | (show W _ _ _ _ _ _ (.code (cond _ _ _) :: _) _ _; first | refine W.ct ?_ | refine W.cf ?_) | (show W _ _ _ _ _ _ (.ins (cond _ _ _ :: _) :: _) _ _; first | refine W.gt ?_ | refine W.gf ?_) | (show W _ _ _ _ _ _ [] _ _; refine W.of (.done ?_)) | (apply W.of; constructor <;> first | (show W _ _ _ _ _ _ _ _ _) | (intro (al : Nat) h st; show W _ _ _ _ _ _ _ _ _) | (intro _ h st; show W _ _ _ _ _ _ _ _ _) | exact Sd)))
  exact ⟨_, rfl, _, ⟨rfl, rfl⟩, st⟩
theorem no_Make {n : Int} : Spec R (.f n_file_Store_Make) [p, .int .i64 n] [NoF p] fun v Rs => v = .tuple [.int .i64 0, .int .i64 1] ∧ Rs = [NoF p] := by
  refine spec_in fun h F st => ?_
  have hp := st.noF Tk
  clear st h F; refine spec_w (fun _ _ _ x => progI_call rfl rfl x) Njs rfl (fun h F st => ?_); dsimp only [List.cons_append, List.nil_append] at st
  (repeat (first | (show W _ _ _ _ _ _ (.code (cond _ _ _) :: _) _ _; first | refine W.ct ?_ | refine W.cf ?_) | (show W _ _ _ _ _ _ (.ins (cond _ _ _ :: _) :: _) _ _; first | refine W.gt ?_ | refine W.gf ?_) | (show W _ _ _ _ _ _ [] _ _; refine W.of (.done ?_)) | (apply W.of; constructor <;> first | (show W _ _ _ _ _ _ _ _ _) | (intro (al : Nat) h st; show W _ _ _ _ _ _ _ _ _) | (intro _ h st; show W _ _ _ _ _ _ _ _ _) | exact Sd))); refine W.call (hs := no_made) (w := ?_); rintro vv _ ⟨rfl, rfl⟩ h st; refine nj ?_; dsimp only [List.cons_append, List.nil_append] at st
  (repeat (first | (show W _ _ _ _ _ _ (.code (cond _ _ _) :: _) _ _; first | refine W.ct ?_ | refine W.cf ?_) | (show W _ _ _ _ _ _ (.ins (cond _ _ _ :: _) :: _) _ _; first | refine W.gt ?_ | refine W.gf ?_) | (show W _ _ _ _ _ _ [] _ _; refine W.of (.done ?_)) | (apply W.of; constructor <;> first | (show W _ _ _ _ _ _ _ _ _) | (intro (al : Nat) h st; show W _ _ _ _ _ _ _ _ _) | (intro _ h st; show W _ _ _ _ _ _ _ _ _) | exact Sd)))
  exact ⟨_, rfl, _, ⟨rfl, rfl⟩, st⟩
theorem no_at {id n : Int} {g : Bool} : Spec R (.f n_file_Store_at) [p, .int .i64 id, .int .i64 n, .bool g] [NoF p] fun v Rs => v = .tuple [pkey (0, 0), .int .i64 1] ∧ Rs = [NoF p] := by
  refine spec_in fun h F st => ?_
  have hp := st.noF Tk
  clear st h F; refine spec_w (fun _ _ _ x => progI_call rfl rfl x) Njs rfl (fun h F st => ?_); dsimp only [List.cons_append, List.nil_append] at st
  (repeat (first | (show W _ _ _ _ _ _ (.code (cond _ _ _) :: _) _ _; first | refine W.ct ?_ | refine W.cf ?_) | (show W _ _ _ _ _ _ (.ins (cond _ _ _ :: _) :: _) _ _; first | refine W.gt ?_ | refine W.gf ?_) | (show W _ _ _ _ _ _ [] _ _; refine W.of (.done ?_)) | (apply W.of; constructor <;> first | (show W _ _ _ _ _ _ _ _ _) | (intro (al : Nat) h st; show W _ _ _ _ _ _ _ _ _) | (intro _ h st; show W _ _ _ _ _ _ _ _ _) | exact Sd))); refine W.call (hs := no_known) (w := ?_); rintro vv _ ⟨rfl, rfl⟩ h st; refine nj ?_; dsimp only [List.cons_append, List.nil_append] at st
  (repeat (first | (show W _ _ _ _ _ _ (.code (cond _ _ _) :: _) _ _; first | refine W.ct ?_ | refine W.cf ?_) | (show W _ _ _ _ _ _ (.ins (cond _ _ _ :: _) :: _) _ _; first | refine W.gt ?_ | refine W.gf ?_) | (show W _ _ _ _ _ _ [] _ _; refine W.of (.done ?_)) | (apply W.of; constructor <;> first | (show W _ _ _ _ _ _ _ _ _) | (intro (al : Nat) h st; show W _ _ _ _ _ _ _ _ _) | (intro _ h st; show W _ _ _ _ _ _ _ _ _) | exact Sd)))
  exact ⟨_, res_cell rfl (d_loadn (n := 2) (off := 0) (st.get' Tk) rfl) rfl, _, ⟨rfl, rfl⟩, st.sel Sels⟩
theorem no_Read {id n : Int} : Spec R (.f n_file_Store_Read) [p, .int .i64 id, .int .i64 n] [NoF p] fun v Rs => v = .tuple [.nilsl, .int .i64 1] ∧ Rs = [NoF p] := by
  refine spec_in fun h F st => ?_
  have hp := st.noF Tk
  clear st h F; refine spec_w (fun _ _ _ x => progI_call rfl rfl x) Njs rfl (fun h F st => ?_); dsimp only [List.cons_append, List.nil_append] at st
  (repeat (first | (show W _ _ _ _ _ _ (.code (cond _ _ _) :: _) _ _; first | refine W.ct ?_ | refine W.cf ?_) | (show W _ _ _ _ _ _ (.ins (cond _ _ _ :: _) :: _) _ _; first | refine W.gt ?_ | refine W.gf ?_) | (show W _ _ _ _ _ _ [] _ _; refine W.of (.done ?_)) | (apply W.of; constructor <;> first | (show W _ _ _ _ _ _ _ _ _) | (intro (al : Nat) h st; show W _ _ _ _ _ _ _ _ _) | (intro _ h st; show W _ _ _ _ _ _ _ _ _) | exact Sd))); refine W.call (hs := no_at) (w := ?_); rintro vv _ ⟨rfl, rfl⟩ h st; refine nj ?_; dsimp only [List.cons_append, List.nil_append] at st
  (repeat (first | (show W _ _ _ _ _ _ (.code (cond _ _ _) :: _) _ _; first | refine W.ct ?_ | refine W.cf ?_) | (show W _ _ _ _ _ _ (.ins (cond _ _ _ :: _) :: _) _ _; first | refine W.gt ?_ | refine W.gf ?_) | (show W _ _ _ _ _ _ [] _ _; refine W.of (.done ?_)) | (apply W.of; constructor <;> first | (show W _ _ _ _ _ _ _ _ _) | (intro (al : Nat) h st; show W _ _ _ _ _ _ _ _ _) | (intro _ h st; show W _ _ _ _ _ _ _ _ _) | exact Sd)))
  exact ⟨_, rfl, _, ⟨rfl, rfl⟩, st.sel Sels⟩
theorem no_Write {id n : Int} {v : AV} {k N : Nat} {w : Bool} : Spec R (.f n_file_Store_Write) [p, .int .i64 id, .int .i64 n, v] [NoF p, ByC v k N w] fun r Rs => r = .int .i64 1 ∧ Rs = [NoF p, ByC v k N w] := by
  refine spec_in fun h F st => ?_
  have hp := st.noF Tk
  obtain ⟨vl, vj⟩ := st.by2 Tk
  clear st h F; refine spec_w (fun _ _ _ x => progI_call rfl rfl x) Njs rfl (fun h F st => ?_); dsimp only [List.cons_append, List.nil_append] at st
  (repeat (first | (show W _ _ _ _ _ _ (.code (cond _ _ _) :: _) _ _; first | refine W.ct ?_ | refine W.cf ?_) | (show W _ _ _ _ _ _ (.ins (cond _ _ _ :: _) :: _) _ _; first | refine W.gt ?_ | refine W.gf ?_) | (show W _ _ _ _ _ _ [] _ _; refine W.of (.done ?_)) | (apply W.of; constructor <;> first | (show W _ _ _ _ _ _ _ _ _) | (intro (al : Nat) h st; show W _ _ _ _ _ _ _ _ _) | (intro _ h st; show W _ _ _ _ _ _ _ _ _) | exact Sd))); refine W.call (hs := no_at) (w := ?_); rintro vv _ ⟨rfl, rfl⟩ h st; refine nj ?_; dsimp only [List.cons_append, List.nil_append] at st
  (repeat (first | (show W _ _ _ _ _ _ (.code (cond _ _ _) :: _) _ _; first | refine W.ct ?_ | refine W.cf ?_) | (show W _ _ _ _ _ _ (.ins (cond _ _ _ :: _) :: _) _ _; first | refine W.gt ?_ | refine W.gf ?_) | (show W _ _ _ _ _ _ [] _ _; refine W.of (.done ?_)) | (apply W.of; constructor <;> first | (show W _ _ _ _ _ _ _ _ _) | (intro (al : Nat) h st; show W _ _ _ _ _ _ _ _ _) | (intro _ h st; show W _ _ _ _ _ _ _ _ _) | exact Sd)))
  exact ⟨_, rfl, _, ⟨rfl, rfl⟩, st.sel Sels⟩
theorem no_Resize {id n : Int} : Spec R (.f n_file_Store_Resize) [p, .int .i64 id, .int .i64 n] [NoF p] fun r Rs => r = .int .i64 1 ∧ Rs = [NoF p] := by
  refine spec_in fun h F st => ?_
  have hp := st.noF Tk
  clear st h F; refine spec_w (fun _ _ _ x => progI_call rfl rfl x) Njs rfl (fun h F st => ?_); dsimp only [List.cons_append, List.nil_append] at st
  (repeat (first | (show W _ _ _ _ _ _ (.code (cond _ _ _) :: _) _ _; first | refine W.ct ?_ | refine W.cf ?_) | (show W _ _ _ _ _ _ (.ins (cond _ _ _ :: _) :: _) _ _; first | refine W.gt ?_ | refine W.gf ?_) | (show W _ _ _ _ _ _ [] _ _; refine W.of (.done ?_)) | (apply W.of; constructor <;> first | (show W _ _ _ _ _ _ _ _ _) | (intro (al : Nat) h st; show W _ _ _ _ _ _ _ _ _) | (intro _ h st; show W _ _ _ _ _ _ _ _ _) | exact Sd))); refine W.call (hs := no_known) (w := ?_); rintro vv _ ⟨rfl, rfl⟩ h st; refine nj ?_; dsimp only [List.cons_append, List.nil_append] at st
  (repeat (first | (show W _ _ _ _ _ _ (.code (cond _ _ _) :: _) _ _; first | refine W.ct ?_ | refine W.cf ?_) | (show W _ _ _ _ _ _ (.ins (cond _ _ _ :: _) :: _) _ _; first | refine W.gt ?_ | refine W.gf ?_) | (show W _ _ _ _ _ _ [] _ _; refine W.of (.done ?_)) | (apply W.of; constructor <;> first | (show W _ _ _ _ _ _ _ _ _) | (intro (al : Nat) h st; show W _ _ _ _ _ _ _ _ _) | (intro _ h st; show W _ _ _ _ _ _ _ _ _) | exact Sd)))
  exact ⟨_, rfl, _, ⟨rfl, rfl⟩, st.sel Sels⟩
theorem no_Plan {n : Int} : Spec R (.f n_file_Store_Plan) [p, .int .i64 n] [NoF p] fun r Rs => r = .int .i64 1 ∧ Rs = [NoF p] := by
  refine spec_in fun h F st => ?_
  have hp := st.noF Tk
  clear st h F; refine spec_w (fun _ _ _ x => progI_call rfl rfl x) Njs rfl (fun h F st => ?_); dsimp only [List.cons_append, List.nil_append] at st
  (repeat (first | (show W _ _ _ _ _ _ (.code (cond _ _ _) :: _) _ _; first | refine W.ct ?_ | refine W.cf ?_) | (show W _ _ _ _ _ _ (.ins (cond _ _ _ :: _) :: _) _ _; first | refine W.gt ?_ | refine W.gf ?_) | (show W _ _ _ _ _ _ [] _ _; refine W.of (.done ?_)) | (apply W.of; constructor <;> first | (show W _ _ _ _ _ _ _ _ _) | (intro (al : Nat) h st; show W _ _ _ _ _ _ _ _ _) | (intro _ h st; show W _ _ _ _ _ _ _ _ _) | exact Sd))); refine W.call (hs := no_made) (w := ?_); rintro vv _ ⟨rfl, rfl⟩ h st; refine nj ?_; dsimp only [List.cons_append, List.nil_append] at st
  (repeat (first | (show W _ _ _ _ _ _ (.code (cond _ _ _) :: _) _ _; first | refine W.ct ?_ | refine W.cf ?_) | (show W _ _ _ _ _ _ (.ins (cond _ _ _ :: _) :: _) _ _; first | refine W.gt ?_ | refine W.gf ?_) | (show W _ _ _ _ _ _ [] _ _; refine W.of (.done ?_)) | (apply W.of; constructor <;> first | (show W _ _ _ _ _ _ _ _ _) | (intro (al : Nat) h st; show W _ _ _ _ _ _ _ _ _) | (intro _ h st; show W _ _ _ _ _ _ _ _ _) | exact Sd)))
  exact ⟨_, rfl, _, ⟨rfl, rfl⟩, st⟩
theorem no_Ids : Spec R (.f n_file_Store_Ids) [p] [NoF p] fun r Rs => r = .nilsl ∧ Rs = [NoF p] := by
  refine spec_in fun h F st => ?_
  have hp := st.noF Tk
  clear st h F; refine spec_w (fun _ _ _ x => progI_call rfl rfl x) Njs rfl (fun h F st => ?_); dsimp only [List.cons_append, List.nil_append] at st
  (repeat (first | (show W _ _ _ _ _ _ (.code (cond _ _ _) :: _) _ _; first | refine W.ct ?_ | refine W.cf ?_) | (show W _ _ _ _ _ _ (.ins (cond _ _ _ :: _) :: _) _ _; first | refine W.gt ?_ | refine W.gf ?_) | (show W _ _ _ _ _ _ [] _ _; refine W.of (.done ?_)) | (apply W.of; constructor <;> first | (show W _ _ _ _ _ _ _ _ _) | (intro (al : Nat) h st; show W _ _ _ _ _ _ _ _ _) | (intro _ h st; show W _ _ _ _ _ _ _ _ _) | exact Sd))); refine W.call (hs := no_made) (w := ?_); rintro vv _ ⟨rfl, rfl⟩ h st; refine nj ?_; dsimp only [List.cons_append, List.nil_append] at st
  (repeat (first | (show W _ _ _ _ _ _ (.code (cond _ _ _) :: _) _ _; first | refine W.ct ?_ | refine W.cf ?_) | (show W _ _ _ _ _ _ (.ins (cond _ _ _ :: _) :: _) _ _; first | refine W.gt ?_ | refine W.gf ?_) | (show W _ _ _ _ _ _ [] _ _; refine W.of (.done ?_)) | (apply W.of; constructor <;> first | (show W _ _ _ _ _ _ _ _ _) | (intro (al : Nat) h st; show W _ _ _ _ _ _ _ _ _) | (intro _ h st; show W _ _ _ _ _ _ _ _ _) | exact Sd)))
  exact ⟨_, rfl, _, ⟨rfl, rfl⟩, st⟩
theorem no_Peek {id n : Int} : Spec R (.f n_file_Store_Peek) [p, .int .i64 id, .int .i64 n] [NoF p] fun r Rs => r = .nilsl ∧ Rs = [NoF p] := by
  refine spec_in fun h F st => ?_
  have hp := st.noF Tk
  clear st h F; refine spec_w (fun _ _ _ x => progI_call rfl rfl x) Njs rfl (fun h F st => ?_); dsimp only [List.cons_append, List.nil_append] at st
  (repeat (first | (show W _ _ _ _ _ _ (.code (cond _ _ _) :: _) _ _; first | refine W.ct ?_ | refine W.cf ?_) | (show W _ _ _ _ _ _ (.ins (cond _ _ _ :: _) :: _) _ _; first | refine W.gt ?_ | refine W.gf ?_) | (show W _ _ _ _ _ _ [] _ _; refine W.of (.done ?_)) | (apply W.of; constructor <;> first | (show W _ _ _ _ _ _ _ _ _) | (intro (al : Nat) h st; show W _ _ _ _ _ _ _ _ _) | (intro _ h st; show W _ _ _ _ _ _ _ _ _) | exact Sd))); refine W.call (hs := no_Size) (w := ?_); rintro vv _ ⟨rfl, rfl⟩ h st; refine nj ?_; dsimp only [List.cons_append, List.nil_append] at st
  (repeat (first | (show W _ _ _ _ _ _ (.code (cond _ _ _) :: _) _ _; first | refine W.ct ?_ | refine W.cf ?_) | (show W _ _ _ _ _ _ (.ins (cond _ _ _ :: _) :: _) _ _; first | refine W.gt ?_ | refine W.gf ?_) | (show W _ _ _ _ _ _ [] _ _; refine W.of (.done ?_)) | (apply W.of; constructor <;> first | (show W _ _ _ _ _ _ _ _ _) | (intro (al : Nat) h st; show W _ _ _ _ _ _ _ _ _) | (intro _ h st; show W _ _ _ _ _ _ _ _ _) | exact Sd)))
  exact ⟨_, rfl, _, ⟨rfl, rfl⟩, st⟩
abbrev noneE (A Z i : Nat) : Env := [(1, .ptr A 0), (17, .agg [.nilptr, .ptr Z 0]), (18, .int .i64 i)]
set_option maxRecDepth 8000 in
/-- a round: of no store, or of one that no call made -/
theorem none_round {A Z : Nat} {a : ActF} {F : List Chunk} {Q : AExit → Env → AHeap → Prop} {k : List KI} {h : AHeap} {i : Nat} {J : Env → AHeap → Prop} (hi : i < 2) (hv : (if i = 0 then AV.nilptr else .ptr Z 0) = p) (hs : okSame a.v = true)
    (st : St h (NoF p :: .pt A (.row 91 5 false false (.vals a.cells)) :: ByC a.v a.k a.c false :: F)) (hJ : ∀ h, St h (NoF p :: .pt A (.row 91 5 false false (.vals a.cells)) :: ByC a.v a.k a.c false :: F) → ∀ s, Sub (noneE A Z (i + 1)) s → J s h) :
    W over tab none c_law10_FileNone.ntmps Q .normal (.code c_law10_FileNone_L0 :: .lp J :: k) (noneE A Z i) h := by
  have hp := st.noF Tk
  have gs : okSame (.agg a.cells) = true := by simp only [okSame, ActF.cells, okSameL, hs, Bool.and_self]
  (repeat (first | (show W _ _ _ _ _ _ (.code (cond _ _ _) :: _) _ _; first | refine W.ct ?_ | refine W.cf ?_) | (show W _ _ _ _ _ _ (.ins (cond _ _ _ :: _) :: _) _ _; first | refine W.gt ?_ | refine W.gf ?_) | (show W _ _ _ _ _ _ [] _ _; refine W.of (.done ?_)) | (apply W.of; constructor <;> first | (show W _ _ _ _ _ _ _ _ _) | (intro (al : Nat) h st; show W _ _ _ _ _ _ _ _ _) | (intro _ h st; show W _ _ _ _ _ _ _ _ _) | exact Sd)))
  have hx : Does (.indexv 2 1 false) [.agg [.nilptr, .ptr Z 0], .int .i64 (i : Int)] h p h := ⟨rfl, by
    subst hv
    rcases (by omega : i = 0 ∨ i = 1) with rfl | rfl <;> rfl⟩
  (repeat (first | (show W _ _ _ _ _ _ (.code (cond _ _ _) :: _) _ _; first | refine W.ct ?_ | refine W.cf ?_) | (show W _ _ _ _ _ _ (.ins (cond _ _ _ :: _) :: _) _ _; first | refine W.gt ?_ | refine W.gf ?_) | (show W _ _ _ _ _ _ [] _ _; refine W.of (.done ?_)) | (apply W.of; constructor <;> first | (show W _ _ _ _ _ _ _ _ _) | (intro (al : Nat) h st; show W _ _ _ _ _ _ _ _ _) | (intro _ h st; show W _ _ _ _ _ _ _ _ _) | exact Sd))); refine W.do (ho := hx) (w := ?_)
  (repeat (first | (show W _ _ _ _ _ _ (.code (cond _ _ _) :: _) _ _; first | refine W.ct ?_ | refine W.cf ?_) | (show W _ _ _ _ _ _ (.ins (cond _ _ _ :: _) :: _) _ _; first | refine W.gt ?_ | refine W.gf ?_) | (show W _ _ _ _ _ _ [] _ _; refine W.of (.done ?_)) | (apply W.of; constructor <;> first | (show W _ _ _ _ _ _ _ _ _) | (intro (al : Nat) h st; show W _ _ _ _ _ _ _ _ _) | (intro _ h st; show W _ _ _ _ _ _ _ _ _) | exact Sd))); refine W.call (hs := no_Make) (w := ?_); rintro vv _ ⟨rfl, rfl⟩ h st; refine nj ?_; dsimp only [List.cons_append, List.nil_append] at st
  (repeat (first | (show W _ _ _ _ _ _ (.code (cond _ _ _) :: _) _ _; first | refine W.ct ?_ | refine W.cf ?_) | (show W _ _ _ _ _ _ (.ins (cond _ _ _ :: _) :: _) _ _; first | refine W.gt ?_ | refine W.gf ?_) | (show W _ _ _ _ _ _ [] _ _; refine W.of (.done ?_)) | (apply W.of; constructor <;> first | (show W _ _ _ _ _ _ _ _ _) | (intro (al : Nat) h st; show W _ _ _ _ _ _ _ _ _) | (intro _ h st; show W _ _ _ _ _ _ _ _ _) | exact Sd))); refine W.call (hs := no_Read) (w := ?_); rintro vv _ ⟨rfl, rfl⟩ h st; refine nj ?_; dsimp only [List.cons_append, List.nil_append] at st
  (repeat (first | (show W _ _ _ _ _ _ (.code (cond _ _ _) :: _) _ _; first | refine W.ct ?_ | refine W.cf ?_) | (show W _ _ _ _ _ _ (.ins (cond _ _ _ :: _) :: _) _ _; first | refine W.gt ?_ | refine W.gf ?_) | (show W _ _ _ _ _ _ [] _ _; refine W.of (.done ?_)) | (apply W.of; constructor <;> first | (show W _ _ _ _ _ _ _ _ _) | (intro (al : Nat) h st; show W _ _ _ _ _ _ _ _ _) | (intro _ h st; show W _ _ _ _ _ _ _ _ _) | exact Sd))); refine W.call (hs := no_Size) (w := ?_); rintro vv _ ⟨rfl, rfl⟩ h st; refine nj ?_; dsimp only [List.cons_append, List.nil_append] at st
  (repeat (first | (show W _ _ _ _ _ _ (.code (cond _ _ _) :: _) _ _; first | refine W.ct ?_ | refine W.cf ?_) | (show W _ _ _ _ _ _ (.ins (cond _ _ _ :: _) :: _) _ _; first | refine W.gt ?_ | refine W.gf ?_) | (show W _ _ _ _ _ _ [] _ _; refine W.of (.done ?_)) | (apply W.of; constructor <;> first | (show W _ _ _ _ _ _ _ _ _) | (intro (al : Nat) h st; show W _ _ _ _ _ _ _ _ _) | (intro _ h st; show W _ _ _ _ _ _ _ _ _) | exact Sd))); refine W.call (hs := bytesF_w) (w := ?_); rintro vv _ ⟨gx, gk, w, rfl⟩ h st; refine nj ?_; dsimp only [List.cons_append, List.nil_append] at st
  (repeat (first | (show W _ _ _ _ _ _ (.code (cond _ _ _) :: _) _ _; first | refine W.ct ?_ | refine W.cf ?_) | (show W _ _ _ _ _ _ (.ins (cond _ _ _ :: _) :: _) _ _; first | refine W.gt ?_ | refine W.gf ?_) | (show W _ _ _ _ _ _ [] _ _; refine W.of (.done ?_)) | (apply W.of; constructor <;> first | (show W _ _ _ _ _ _ _ _ _) | (intro (al : Nat) h st; show W _ _ _ _ _ _ _ _ _) | (intro _ h st; show W _ _ _ _ _ _ _ _ _) | exact Sd))); refine W.call (hs := no_Write) (w := ?_); rintro vv _ ⟨rfl, rfl⟩ h st; refine nj ?_; dsimp only [List.cons_append, List.nil_append] at st
  (repeat (first | (show W _ _ _ _ _ _ (.code (cond _ _ _) :: _) _ _; first | refine W.ct ?_ | refine W.cf ?_) | (show W _ _ _ _ _ _ (.ins (cond _ _ _ :: _) :: _) _ _; first | refine W.gt ?_ | refine W.gf ?_) | (show W _ _ _ _ _ _ [] _ _; refine W.of (.done ?_)) | (apply W.of; constructor <;> first | (show W _ _ _ _ _ _ _ _ _) | (intro (al : Nat) h st; show W _ _ _ _ _ _ _ _ _) | (intro _ h st; show W _ _ _ _ _ _ _ _ _) | exact Sd))); refine W.call (hs := no_Resize) (w := ?_); rintro vv _ ⟨rfl, rfl⟩ h st; refine nj ?_; dsimp only [List.cons_append, List.nil_append] at st
  (repeat (first | (show W _ _ _ _ _ _ (.code (cond _ _ _) :: _) _ _; first | refine W.ct ?_ | refine W.cf ?_) | (show W _ _ _ _ _ _ (.ins (cond _ _ _ :: _) :: _) _ _; first | refine W.gt ?_ | refine W.gf ?_) | (show W _ _ _ _ _ _ [] _ _; refine W.of (.done ?_)) | (apply W.of; constructor <;> first | (show W _ _ _ _ _ _ _ _ _) | (intro (al : Nat) h st; show W _ _ _ _ _ _ _ _ _) | (intro _ h st; show W _ _ _ _ _ _ _ _ _) | exact Sd))); refine W.call (hs := no_Plan) (w := ?_); rintro vv _ ⟨rfl, rfl⟩ h st; refine nj ?_; dsimp only [List.cons_append, List.nil_append] at st
  (repeat (first | (show W _ _ _ _ _ _ (.code (cond _ _ _) :: _) _ _; first | refine W.ct ?_ | refine W.cf ?_) | (show W _ _ _ _ _ _ (.ins (cond _ _ _ :: _) :: _) _ _; first | refine W.gt ?_ | refine W.gf ?_) | (show W _ _ _ _ _ _ [] _ _; refine W.of (.done ?_)) | (apply W.of; constructor <;> first | (show W _ _ _ _ _ _ _ _ _) | (intro (al : Nat) h st; show W _ _ _ _ _ _ _ _ _) | (intro _ h st; show W _ _ _ _ _ _ _ _ _) | exact Sd))); refine W.call (hs := no_Ids) (w := ?_); rintro vv _ ⟨rfl, rfl⟩ h st; refine nj ?_; dsimp only [List.cons_append, List.nil_append] at st
  (repeat (first | (show W _ _ _ _ _ _ (.code (cond _ _ _) :: _) _ _; first | refine W.ct ?_ | refine W.cf ?_) | (show W _ _ _ _ _ _ (.ins (cond _ _ _ :: _) :: _) _ _; first | refine W.gt ?_ | refine W.gf ?_) | (show W _ _ _ _ _ _ [] _ _; refine W.of (.done ?_)) | (apply W.of; constructor <;> first | (show W _ _ _ _ _ _ _ _ _) | (intro (al : Nat) h st; show W _ _ _ _ _ _ _ _ _) | (intro _ h st; show W _ _ _ _ _ _ _ _ _) | exact Sd))); refine W.call (hs := no_Peek) (w := ?_); rintro vv _ ⟨rfl, rfl⟩ h st; refine nj ?_; dsimp only [List.cons_append, List.nil_append] at st
  (repeat (first | (show W _ _ _ _ _ _ (.code (cond _ _ _) :: _) _ _; first | refine W.ct ?_ | refine W.cf ?_) | (show W _ _ _ _ _ _ (.ins (cond _ _ _ :: _) :: _) _ _; first | refine W.gt ?_ | refine W.gf ?_) | (show W _ _ _ _ _ _ [] _ _; refine W.of (.done ?_)) | (apply W.of; constructor <;> first | (show W _ _ _ _ _ _ _ _ _) | (intro (al : Nat) h st; show W _ _ _ _ _ _ _ _ _) | (intro _ h st; show W _ _ _ _ _ _ _ _ _) | exact Sd)))
  refine W.of (.lp ?_)
  exact hJ _ (st.sel Sels) _ Sbs
end Go.Proofs.Ytjdemlagmamlbaa

namespace Go.Proofs.Ytjdemlagmamlbaa
set_option maxRecDepth 8000 in
theorem fnone_w {a : ActF} : Spec R (.f n_law10_FileNone) [.agg a.cells] [ByC a.v a.k a.c false] fun v _ => v = .bool true := by
  refine spec_in fun h F st => ?_
  obtain ⟨gl, gj⟩ := st.by2 Tk
  have go := okSame_sl gl
  clear st h F; refine spec_w (fun _ _ _ x => progI_call rfl rfl x) Njs rfl (fun h F st => ?_); dsimp only [List.cons_append, List.nil_append] at st
  (repeat (first | (show W _ _ _ _ _ _ (.code (cond _ _ _) :: _) _ _; first | refine W.ct ?_ | refine W.cf ?_) | (show W _ _ _ _ _ _ (.ins (cond _ _ _ :: _) :: _) _ _; first | refine W.gt ?_ | refine W.gf ?_) | (show W _ _ _ _ _ _ [] _ _; refine W.of (.done ?_)) | (apply W.of; constructor <;> first | (show W _ _ _ _ _ _ _ _ _) | (intro (al : Nat) h st; show W _ _ _ _ _ _ _ _ _) | (intro _ h st; show W _ _ _ _ _ _ _ _ _) | exact Sd)))
  have st := St.slice (n := 1) (cap := 1) (e := 0) (es := 5) (d := .vals (([a] : List ActF).flatMap ActF.cells)) st rfl (by decide) (by show (5 : Nat) ≤ 5; decide)
  (repeat (first | (show W _ _ _ _ _ _ (.code (cond _ _ _) :: _) _ _; first | refine W.ct ?_ | refine W.cf ?_) | (show W _ _ _ _ _ _ (.ins (cond _ _ _ :: _) :: _) _ _; first | refine W.gt ?_ | refine W.gf ?_) | (show W _ _ _ _ _ _ [] _ _; refine W.of (.done ?_)) | (apply W.of; constructor <;> first | (show W _ _ _ _ _ _ _ _ _) | (intro (al : Nat) h st; show W _ _ _ _ _ _ _ _ _) | (intro _ h st; show W _ _ _ _ _ _ _ _ _) | exact Sd))); refine W.call (hs := (law10_light (l := [a]) (e := 0) (w := true) (fun b hb => by rw [List.mem_singleton.1 hb]; exact ⟨gl, gj⟩))) (w := ?_); rintro vv _ ⟨⟨b, rfl, _⟩, rfl⟩ h st; refine nj ?_; dsimp only [List.cons_append, List.nil_append] at st
  cases b with
  | false =>
    (repeat (first | (show W _ _ _ _ _ _ (.code (cond _ _ _) :: _) _ _; first | refine W.ct ?_ | refine W.cf ?_) | (show W _ _ _ _ _ _ (.ins (cond _ _ _ :: _) :: _) _ _; first | refine W.gt ?_ | refine W.gf ?_) | (show W _ _ _ _ _ _ [] _ _; refine W.of (.done ?_)) | (apply W.of; constructor <;> first | (show W _ _ _ _ _ _ _ _ _) | (intro (al : Nat) h st; show W _ _ _ _ _ _ _ _ _) | (intro _ h st; show W _ _ _ _ _ _ _ _ _) | exact Sd))); refine W.call (hs := law10_lives) (w := ?_); rintro vv _ ⟨rfl, rfl⟩ h st; refine nj ?_; dsimp only [List.cons_append, List.nil_append] at st
    (repeat (first | (show W _ _ _ _ _ _ (.code (cond _ _ _) :: _) _ _; first | refine W.ct ?_ | refine W.cf ?_) | (show W _ _ _ _ _ _ (.ins (cond _ _ _ :: _) :: _) _ _; first | refine W.gt ?_ | refine W.gf ?_) | (show W _ _ _ _ _ _ [] _ _; refine W.of (.done ?_)) | (apply W.of; constructor <;> first | (show W _ _ _ _ _ _ _ _ _) | (intro (al : Nat) h st; show W _ _ _ _ _ _ _ _ _) | (intro _ h st; show W _ _ _ _ _ _ _ _ _) | exact Sd)))
    exact ⟨_, rfl, [_, _, _], rfl, st⟩
  | true =>
    (repeat (first | (show W _ _ _ _ _ _ (.code (cond _ _ _) :: _) _ _; first | refine W.ct ?_ | refine W.cf ?_) | (show W _ _ _ _ _ _ (.ins (cond _ _ _ :: _) :: _) _ _; first | refine W.gt ?_ | refine W.gf ?_) | (show W _ _ _ _ _ _ [] _ _; refine W.of (.done ?_)) | (apply W.of; constructor <;> first | (show W _ _ _ _ _ _ _ _ _) | (intro (al : Nat) h st; show W _ _ _ _ _ _ _ _ _) | (intro _ h st; show W _ _ _ _ _ _ _ _ _) | exact Sd)))
    have st := St.pack (t := 23) (k := .ptr al 0) (P := NoFIs (.ptr al 0)) (cs := [_]) st (.inr ⟨al, rfl, rfl⟩)
    have st := St.pack (t := 23) (k := .nilptr) (P := NoFIs .nilptr) (cs := []) st (.inl ⟨rfl, rfl⟩)
    refine W.loop (fun i : Nat => noneE _ al i) (fun _ => NoF .nilptr :: NoF (.ptr al 0) :: .pt _ (.row 91 5 false false (.vals a.cells)) :: ByC a.v a.k a.c false :: F) (fun i => i ≤ 2) (fun i => 2 - i) 0 (small_rounds (by omega)) Sbs
      (st.sel Sels) (Nat.zero_le _) ?_
    clear st
    intro i h hi st
    rcases (by omega : i = 0 ∨ i = 1 ∨ i = 2) with rfl | rfl | rfl
    · exact none_round (p := .nilptr) (by decide) rfl go (st.sel Sels) fun h st s hs => ⟨1, by decide, by decide, hs, st.sel Sels⟩
    · exact none_round (p := .ptr al 0) (by decide) rfl go (st.sel Sels) fun h st s hs => ⟨2, by decide, by decide, hs, st.sel Sels⟩
    · (repeat (first | (show W _ _ _ _ _ _ (.code (cond _ _ _) :: _) _ _; first | refine W.ct ?_ | refine W.cf ?_) | (show W _ _ _ _ _ _ (.ins (cond _ _ _ :: _) :: _) _ _; first | refine W.gt ?_ | refine W.gf ?_) | (show W _ _ _ _ _ _ [] _ _; refine W.of (.done ?_)) | (apply W.of; constructor <;> first | (show W _ _ _ _ _ _ _ _ _) | (intro (al : Nat) h st; show W _ _ _ _ _ _ _ _ _) | (intro _ h st; show W _ _ _ _ _ _ _ _ _) | exact Sd))); refine W.call (hs := law10_lives) (w := ?_); rintro vv _ ⟨rfl, rfl⟩ h st; refine nj ?_; dsimp only [List.cons_append, List.nil_append] at st
      (repeat (first | (show W _ _ _ _ _ _ (.code (cond _ _ _) :: _) _ _; first | refine W.ct ?_ | refine W.cf ?_) | (show W _ _ _ _ _ _ (.ins (cond _ _ _ :: _) :: _) _ _; first | refine W.gt ?_ | refine W.gf ?_) | (show W _ _ _ _ _ _ [] _ _; refine W.of (.done ?_)) | (apply W.of; constructor <;> first | (show W _ _ _ _ _ _ _ _ _) | (intro (al : Nat) h st; show W _ _ _ _ _ _ _ _ _) | (intro _ h st; show W _ _ _ _ _ _ _ _ _) | exact Sd)))
      exact ⟨_, rfl, [_, _, _, _], rfl, st⟩
end Go.Proofs.Ytjdemlagmamlbaa
