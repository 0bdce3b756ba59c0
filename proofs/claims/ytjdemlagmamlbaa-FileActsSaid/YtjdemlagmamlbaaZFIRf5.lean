/- BY PROGRAM (wip/tool/shake.py): own texts, one behind the other, without what is not needed. -/
import Derived.Control
import Derived.Calls
import Derived.KernelRfl
import Derived.Laws.Sem
import Derived.Laws.Cells
import Derived.Laws.World
import GoSem.Dispatch
import Derived.Laws.StructEq
import Derived.IntWalk
import Derived.WideKeyRuns
import Derived.Laws.BytesArg
import Derived.Orders
import Derived.ChangeArms
import Derived.OpenShut
import Derived.ChangeShapes
import Derived.ProofKit
import Derived.Test.YtjdemlagmamlbaaProg
import Derived.Test.YtjdemlagmamlbaaRows
import Derived.Test.YtjdemlagmamlbaaZFIRf4

namespace Go.Proofs.Ytjdemlagmamlbaa
open Go.ChangeShapes Go.WideShapes Go.ChangeAt Go.RowKit
theorem ownKn : ownKnob Try.prog.godebug = none := by kernel_rfl
theorem laidOut : laidOutB Try.prog = true := by kernel_rfl
theorem enterOk : Try.prog.mayEnter = true := by kernel_rfl
theorem und4 : Try.prog.underlying 4 = some .bool := by kernel_rfl
theorem swapLives : trueD (progD tab 12 (.f n_law09_lives) [] ⟨0, .leaf⟩) = true := by kernel_rfl
theorem overSound : OSound Try.prog over := fun f F hf => by
  simp only [over] at hf
  cases hb : Nat.beq f n_law09_lives with
  | true =>
    rw [hb] at hf
    simp only [cond_true, Option.some.injEq] at hf
    subst hf
    rw [Nat.eq_of_beq_eq_true hb]
    exact ⟨FSound.lives tabSound swapLives, Try.call26⟩
  | false => rw [hb] at hf; cases hf
end Go.Proofs.Ytjdemlagmamlbaa

namespace Go.Proofs.Ytjdemlagmamlbaa
section
variable {h : AHeap} {L R R' : List Chunk} {s x v : AV} {e es b k m : Nat} {d : Dat} {w : Bool} {C : SemW}
theorem okSame_sl {k : Nat} (h : sliceLen v = some k) : okSame v = true := by
  cases v <;> first | rfl | (simp [sliceLen] at h)
/-- a slice of values -/
abbrev VsC (v : AV) (e : Nat) (l : List AV) (w : Bool) : Chunk := SlC v e 1 l.length (.vals l) w
theorem St.vs {l : List AV} (st : St h L) (t : Take L (VsC v e l w) R) : sliceLen v = some l.length ∧ v.notJunk = some v ∧ okSame v = true := by
  obtain ⟨h1, h2, _⟩ := st.slc t
  exact ⟨h1, h2, okSame_sl h1⟩
theorem d_vsIdx {i : Nat} {kk : IntKind} {l : List AV} (st : St h L) (t : Take L (VsC v e l w) R) (h1 : i < l.length) : Does (.indexs 1) [v, .int kk i] h (elemPtr 1 v i) h ∧ (elemPtr 1 v i).notJunk = some (elemPtr 1 v i) :=
  ⟨d_indexs (i := (i : Int)) st t (by omega) (by omega), elemPtr_nj (st.vs t).1 h1⟩
theorem d_vsLoad {i : Nat} {l : List AV} {x : AV} (st : St h L) (t : Take L (VsC v e l w) R) (hx : l[i]? = some x) : Does .load1 [elemPtr 1 v i] h x h :=
  d_loadE st t (List.getElem?_eq_some_iff.1 hx).1 hx
theorem vals_of_take {D : Dat} {off n : Nat} {l : List AV} (h : D.take off n = some (.vals l)) : ∃ c, D = .vals c ∧ off + n ≤ c.length ∧ (c.drop off).take n = l := by
  cases D with
  | vals c =>
    simp only [Dat.take] at h
    split at h
    · rename_i hl; cases h; exact ⟨c, rfl, hl, rfl⟩
    · cases h
  | bytes l n => simp only [Dat.take] at h; split at h <;> cases h
theorem set_in {c l : List AV} {off n i : Nat} {x : AV} (hl : off + n ≤ c.length) (h : (c.drop off).take n = l) (hi : i < n) : Dat.put (.vals c) (off + i) (.vals [x]) = some (.vals (c.set (off + i) x)) ∧ ((c.set (off + i) x).drop off).take n = l.set i x := by
  constructor
  · simp only [Dat.put, List.length_cons, List.length_nil]
    rw [if_pos (by omega), List.set_eq_take_append_cons_drop, if_pos (by omega)]
    simp
  · subst h
    rw [List.drop_set, if_neg (by omega), Nat.add_sub_cancel_left, List.take_set]
theorem e_vsStore {i : Nat} {l : List AV} {x : AV} (st : St h L) (t : Take L (VsC v e l true) R) (hi : i < l.length) (hx : x.dat = .vals [x]) :
    Eff C (.store 1) [elemPtr 1 v i, x] h fun q h' => q = .tuple [] ∧ St h' (VsC v e (l.set i x) true :: R) := .mk (by
  obtain ⟨cs, y, st'⟩ := (st.take t).unpack
  rcases y with ⟨rfl, h0, _⟩ | ⟨rfl, h0, _⟩ | ⟨id, off, cap, D, e', es', sf, rfl, rfl, h3, h4, h5⟩ | ⟨id, idx, D, rfl, rfl, h3, h4, h5⟩
  · omega
  · omega
  · rw [Nat.mul_one] at h3
    obtain ⟨c, rfl, p1, p2⟩ := vals_of_take h3
    obtain ⟨q1, q2⟩ := set_in (x := x) p1 p2 hi
    refine Does.do (v := .tuple []) (h1 := h.put id (.row e' es' sf false (.vals (c.set (off + i) x)))) ⟨rfl, ?_⟩ ⟨rfl, St.pack (cs := [.pt id (.row e' es' sf false (.vals (c.set (off + i) x)))]) (st'.put _) ?_⟩
    · simp only [aop, elemPtr, st'.get, Bool.not_true, Nat.mul_one, hx, q1, Option.map_some]; rfl
    · rw [List.length_set]
      refine .inr (.inr (.inl ⟨id, off, cap, _, e', es', sf, rfl, rfl, ?_, h4, fun _ => by have := h5 rfl; simpa [Dat.len] using this⟩))
      simp only [Dat.take, Nat.mul_one]
      rw [if_pos (by simpa using p1), q2]
  · rw [Nat.mul_one l.length] at h3
    obtain ⟨c, rfl, p1, p2⟩ := vals_of_take h3
    obtain ⟨q1, q2⟩ := set_in (x := x) p1 p2 hi
    refine Does.do (v := .tuple []) (h1 := h.put id (.row e 1 true false (.vals (c.set (idx * 1 + i) x)))) ⟨rfl, ?_⟩ ⟨rfl, St.pack (cs := [.pt id (.row e 1 true false (.vals (c.set (idx * 1 + i) x)))]) (st'.put _) ?_⟩
    · simp only [aop, elemPtr, st'.get, hx]
      rw [show (idx + i) * 1 = idx * 1 + i by omega, q1]; rfl
    · rw [List.length_set]
      refine .inr (.inr (.inr ⟨id, idx, _, rfl, rfl, ?_, rfl, by simpa [Dat.len] using h5⟩))
      simp only [Dat.take]
      rw [Nat.mul_one l.length, if_pos (by simpa using p1), q2])
/-- append one list of values to another -/
theorem e_vsAppend {z : Dat} {l l' : List AV} (st : St h L) (t : Take L (VsC s e l true) R) (t' : Take R (VsC x e l' w) R') (hb : (l.length + l'.length) * b ≤ 2 ^ 40) (hk : l.length + l'.length ≤ 2 ^ 40) :
    Eff C (.append e 1 b z) [s, x] h fun v h' => v.notJunk = some v ∧ sliceLen v = some (l ++ l').length ∧ St h' (VsC v e (l ++ l') true :: VsC x e l' w :: R') := by
  have := e_append (C := C) (z := z) (d'' := .vals (l ++ l')) st t t' rfl (.inl ⟨_, _, rfl, rfl⟩) (fun h0 => by rw [List.eq_nil_of_length_eq_zero h0, List.append_nil])
    (fun h0 => by rw [List.eq_nil_of_length_eq_zero h0, Nat.mul_one]; simp [Dat.take])
    (by rw [Nat.mul_one]; simp only [Dat.take, Nat.zero_add]; rw [if_pos (by simp), List.drop_zero, List.take_of_length_le (by simp)]) hb hk rfl
  rw [← List.length_append] at this
  exact this
/-- a new row of values, as a slice -/
theorem St.vsRow {id n e' es' : Nat} {sf : Bool} {l : List AV} (st : St h L) (t : Take L (.pt id (.row e' es' sf false (.vals l))) R) (hn : n = l.length) : St h (VsC (.sl id 0 n n) e l true :: R) := by
  subst hn
  refine St.pack (cs := [.pt id (.row e' es' sf false (.vals l))]) (st.take t) (.inr (.inr (.inl ⟨id, 0, _, _, e', es', sf, rfl, rfl, ?_, Nat.le_refl _, fun _ => by simp [Dat.len]⟩)))
  simp [Dat.take]
/-- no values -/
theorem St.vsNil (st : St h L) (e : Nat) (w : Bool) : St h (VsC .nilsl e [] w :: L) := St.nilslice st e 1 w
end
end Go.Proofs.Ytjdemlagmamlbaa

namespace Go.Proofs.Ytjdemlagmamlbaa
section
variable {α β : Type} [DecidableEq α]
abbrev encP (ke : α → AV) (ve : β → AV) (p : α × β × Nat) : AV × AV × Nat := (ke p.1, ve p.2.1, p.2.2)
abbrev kvP (p : α × β × Nat) : α × β := (p.1, p.2.1)
/-- a loop over a map: what the map has, the keys that were met, the one that was met last -/
def ItIs (I M : Nat) (ke : α → AV) (ve : β → AV) (l : List (α × β)) (dn : List α) (cur : Option (α × β)) (cs : List Chunk) : Prop :=
  ∃ (l' : List (α × β × Nat)) (clock : Nat) (seen : List Nat), cs = [.pt M (.map (l'.map (encP ke ve)) clock), .pt I (.iter (some M) clock seen clock)] ∧ l'.map kvP = l ∧ (keys l).Nodup ∧ Stamps (l'.map (encP ke ve)) clock ∧
    (∀ p, p ∈ l' → (p.2.2 ∈ seen ↔ p.1 ∈ dn)) ∧ (∀ a b, cur = some (a, b) → ∃ p, p ∈ l' ∧ p.1 = a ∧ p.2.1 = b ∧ seen.getLast? = some p.2.2) ∧ (seen = [] → dn = [])
abbrev ItC (I M : Nat) (ke : α → AV) (ve : β → AV) (l : List (α × β)) (dn : List α) (cur : Option (α × β)) : Chunk := pk 16 (.ptr I 0) (ItIs I M ke ve l dn cur)
omit [DecidableEq α] in
theorem ghost_of {ke : α → AV} {ve : β → AV} : ∀ {es : List (AV × AV × Nat)} {l : List (α × β)}, es.map (fun e => (e.1, e.2.1)) = l.map (fun p => (ke p.1, ve p.2)) → ∃ l' : List (α × β × Nat), l'.map (encP ke ve) = es ∧ l'.map kvP = l
  | [], [], _ => ⟨[], rfl, rfl⟩
  | [], _ :: _, h => by simp at h
  | _ :: _, [], h => by simp at h
  | (k, v, s) :: es, (a, b) :: l, h => by
    simp only [List.map_cons, List.cons.injEq, Prod.mk.injEq] at h
    obtain ⟨⟨rfl, rfl⟩, h⟩ := h
    obtain ⟨l', h1, h2⟩ := ghost_of h
    exact ⟨(a, b, s) :: l', by simp [h1], by simp [h2]⟩
omit [DecidableEq α] in
theorem ghost_map {ke : α → AV} {ve : β → AV} {l' : List (α × β × Nat)} : (l'.map (encP ke ve)).map (fun e => (e.1, e.2.1)) = (l'.map kvP).map (fun p => (ke p.1, ve p.2)) := by
  simp [List.map_map, Function.comp_def]
theorem erase_map {γ δ : Type} (f : γ → δ) : ∀ (l : List γ) (i : Nat), (l.map f).eraseIdx i = (l.eraseIdx i).map f
  | [], _ => rfl
  | _ :: _, 0 => rfl
  | x :: l, i + 1 => by rw [List.map_cons, List.eraseIdx_cons_succ, List.eraseIdx_cons_succ, List.map_cons, erase_map f l i]
theorem alook_mem {l : List (α × β)} (h : (keys l).Nodup) {a : α} {b : β} : alook l a = some b ↔ (a, b) ∈ l := by
  induction l with
  | nil => simp [alook]
  | cons p l ih =>
    obtain ⟨k, v⟩ := p
    simp only [keys, List.map_cons, List.nodup_cons] at h
    simp only [alook, List.mem_cons, Prod.mk.injEq]
    by_cases e : k = a
    · subst e
      rw [if_pos rfl]
      constructor
      · intro h1; cases h1; exact .inl ⟨rfl, rfl⟩
      · rintro (⟨_, rfl⟩ | h1)
        · rfl
        · exact absurd (List.mem_map.2 ⟨_, h1, rfl⟩) h.1
    · rw [if_neg e, ih h.2]
      constructor
      · exact .inr
      · rintro (⟨e1, _⟩ | h1)
        · exact absurd e1.symm e
        · exact h1
theorem adel_filter {l : List (α × β)} (h : (keys l).Nodup) (a : α) : adel l a = l.filter fun p => decide (p.1 ≠ a) := by
  induction l with
  | nil => rfl
  | cons p l ih =>
    obtain ⟨k, v⟩ := p
    simp only [keys, List.map_cons, List.nodup_cons] at h
    simp only [adel]
    by_cases e : k = a
    · subst e
      rw [if_pos rfl, List.filter_cons_of_neg (by simp)]
      symm
      rw [List.filter_eq_self]
      intro q hq
      simp only [ne_eq, decide_not, Bool.not_eq_eq_eq_not, Bool.not_true, decide_eq_false_iff_not]
      intro e
      exact h.1 (List.mem_map.2 ⟨q, hq, e⟩)
    · rw [if_neg e, List.filter_cons_of_pos (by simpa using e), ih h.2]
section ops
variable {h : AHeap} {L R : List Chunk} {ke : α → AV} {ve : β → AV} {kk : EqK} {I M : Nat} {l : List (α × β)} {dn : List α} {cur : Option (α × β)} {C : SemW}
omit [DecidableEq α] in
theorem e_range (st : St h L) (t : Take L (MpC M ke ve l) R) : Eff C .range [.map M] h fun x h' => ∃ I, x = .ptr I 0 ∧ St h' (ItC I M ke ve l [] none :: R) := .mk (by
  obtain ⟨cs, ⟨es, clock, rfl, h1, h2, h3⟩, st'⟩ := (st.take t).unpack
  obtain ⟨l', rfl, rfl⟩ := ghost_of h1
  refine Does.do (v := .ptr h.next 0) (h1 := h.new (.iter (some M) clock [] clock)) ⟨rfl, ?_⟩ ⟨h.next, rfl, ?_⟩
  · simp only [aop, st'.get]
  · exact St.pack (cs := [_, _]) ((st'.new _).perm (List.Perm.swap _ _ _)) ⟨l', clock, [], rfl, rfl, h2, h3, fun p hp => by simp, fun a b e => (by cases e), fun _ => rfl⟩)
omit [DecidableEq α] in
theorem stamps_inj : ∀ {l' : List (α × β × Nat)} {clock : Nat}, Stamps (l'.map (encP ke ve)) clock → ∀ p q, p ∈ l' → q ∈ l' → p.2.2 = q.2.2 → p = q
  | [], _, _, p, q, hp, _, _ => by cases hp
  | x :: l', clock, hs, p, q, hp, hq, e => by
    simp only [List.map_cons, Stamps] at hs
    obtain ⟨_, h2, h3⟩ := hs
    have key : ∀ r, r ∈ l' → x.2.2 < r.2.2 := fun r hr => h2 _ (List.mem_map.2 ⟨r, hr, rfl⟩)
    rcases List.mem_cons.1 hp with h | h
    · rcases List.mem_cons.1 hq with h' | h'
      · rw [h, h']
      · have := key q h'; rw [h] at e; omega
    · rcases List.mem_cons.1 hq with h' | h'
      · have := key p h; rw [h'] at e; omega
      · exact stamps_inj h3 p q h h' e
/-- the next step -/
theorem e_next (st : St h L) (t : Take L (ItC I M ke ve l dn cur) R) : Eff C .next [.ptr I 0] h fun x h' =>
    (∃ a b, alook l a = some b ∧ a ∉ dn ∧ x = .tuple [.bool true, ke a, ve b] ∧ St h' (ItC I M ke ve l (a :: dn) (some (a, b)) :: R)) ∨ ((∀ a, a ∈ keys l → a ∈ dn) ∧ x = .tuple [.bool false] ∧ St h' (ItC I M ke ve l dn cur :: R)) := .mk (by
  obtain ⟨cs, ⟨l', clock, seen, rfl, rfl, h2, h3, h4, h5, h6⟩, st'⟩ := (st.take t).unpack
  have gM := st'.get
  have gI := (st'.perm (List.Perm.swap _ _ _)).get
  simp only [doOpW, nextW, gI, gM]
  refine ⟨?_, fun e he hs => ?_, fun hall => ?_⟩
  · cases l' with
    | nil => exact .inr (.inl rfl)
    | cons p l' => exact .inr (.inr ⟨_, List.mem_cons_self, h3.lt _ List.mem_cons_self⟩)
  · obtain ⟨p, hp, rfl⟩ := List.mem_map.1 he
    refine .inl ⟨p.1, p.2.1, (alook_mem h2).2 (List.mem_map.2 ⟨p, hp, rfl⟩), fun hd => hs ((h4 p hp).2 hd), rfl, ?_⟩
    refine St.pack (cs := [_, _]) (((st'.perm (List.Perm.swap _ _ _)).put _).perm (List.Perm.swap _ _ _)) ⟨l', clock, seen ++ [p.2.2], rfl, rfl, h2, h3, fun q hq => ?_, fun a b e => ?_, fun e => by simp at e⟩
    · rw [List.mem_append, List.mem_singleton, List.mem_cons, h4 q hq]
      constructor
      · rintro (h | h)
        · exact .inr h
        · exact .inl (by rw [stamps_inj h3 q p hq hp h])
      · rintro (h | h)
        · refine .inr ?_
          have e1 := (alook_mem h2).2 (List.mem_map.2 ⟨p, hp, rfl⟩)
          have e2 := (alook_mem h2).2 (List.mem_map.2 ⟨q, hq, rfl⟩)
          have hk : p = q := by
            have hpq : ∀ {l' : List (α × β × Nat)}, (keys (l'.map kvP)).Nodup → p ∈ l' → q ∈ l' → q.1 = p.1 → p = q := by
              intro l'
              induction l' with
              | nil => intro _ hp; cases hp
              | cons x l' ih =>
                intro hn hp hq he
                simp only [keys, List.map_cons, List.nodup_cons] at hn
                rcases List.mem_cons.1 hp with h | h
                · rcases List.mem_cons.1 hq with h' | h'
                  · rw [h, h']
                  · rw [h] at he
                    exact absurd (List.mem_map.2 ⟨_, List.mem_map.2 ⟨q, h', rfl⟩, he⟩) hn.1
                · rcases List.mem_cons.1 hq with h' | h'
                  · rw [h'] at he
                    exact absurd (List.mem_map.2 ⟨_, List.mem_map.2 ⟨p, h, rfl⟩, he.symm⟩) hn.1
                  · exact ih hn.2 h h' he
            exact hpq h2 hp hq h
          rw [hk]
        · exact .inl h
    · cases e
      exact ⟨p, hp, rfl, rfl, by simp⟩
  · refine .inr ⟨fun a ha => ?_, trivial, St.pack (cs := [_, _]) st' ⟨l', clock, seen, rfl, rfl, h2, h3, h4, h5, h6⟩⟩
    simp only [keys, List.mem_map] at ha
    obtain ⟨_, ⟨p, hp, rfl⟩, rfl⟩ := ha
    exact (h4 p hp).1 (hall _ (List.mem_map.2 ⟨p, hp, rfl⟩) (h3.lt _ (List.mem_map.2 ⟨p, hp, rfl⟩))))
omit [DecidableEq α] in
theorem find_stamp : ∀ {l' : List (α × β × Nat)} {clock : Nat}, Stamps (l'.map (encP ke ve)) clock → ∀ p, p ∈ l' → (l'.map (encP ke ve)).find? (fun e => e.2.2 == p.2.2) = some (encP ke ve p)
  | [], _, _, p, hp => by cases hp
  | x :: l', clock, hs, p, hp => by
    simp only [List.map_cons, Stamps] at hs
    obtain ⟨_, h2, h3⟩ := hs
    rcases List.mem_cons.1 hp with rfl | hp
    · simp
    · have : x.2.2 < p.2.2 := h2 _ (List.mem_map.2 ⟨p, hp, rfl⟩)
      rw [List.map_cons, List.find?_cons_of_neg (by simp; omega)]
      exact find_stamp h3 p hp
omit [DecidableEq α] in
theorem d_entry {a : α} {b : β} (st : St h L) (t : Take L (ItC I M ke ve l dn (some (a, b))) R) : Does .entry [.ptr I 0] h (.tuple [ke a, ve b]) h := by
  obtain ⟨cs, ⟨l', clock, seen, rfl, rfl, h2, h3, h4, h5, h6⟩, st'⟩ := (st.take t).unpack
  obtain ⟨p, hp, rfl, rfl, hs⟩ := h5 a b rfl
  have gM := st'.get
  have gI := (st'.perm (List.Perm.swap _ _ _)).get
  refine ⟨rfl, ?_⟩
  simp only [aop, gI, gM, hs, if_true, find_stamp h3 p hp, Option.map_some]
theorem e_itDelete (st : St h L) (t : Take L (ItC I M ke ve l dn cur) R) (hk : KeyOk kk ke) (a : α) : Eff C (.delete kk) [.map M, ke a] h fun x h' => x = .tuple [] ∧ St h' (ItC I M ke ve (adel l a) dn none :: R) := .mk (by
  obtain ⟨cs, ⟨l', clock, seen, rfl, rfl, h2, h3, h4, h5, h6⟩, st'⟩ := (st.take t).unpack
  rcases findE_is hk a (ghost_map (ke := ke) (ve := ve) (l' := l')) with ⟨g1, g2⟩ | ⟨i, b', s, g1, g2, g3⟩
  · refine Does.do (v := .tuple []) (h1 := h) ⟨rfl, ?_⟩ ⟨rfl, ?_⟩
    · simp only [aop, hk a a, Option.isSome_some, Bool.true_eq_false, if_false, st'.get, g2]
    · rw [adel_none g1]
      exact St.pack (cs := [_, _]) st' ⟨l', clock, seen, rfl, rfl, h2, h3, h4, fun _ _ e => (by cases e), h6⟩
  · refine Does.do (v := .tuple []) (h1 := h.put M (.map ((l'.map (encP ke ve)).eraseIdx i) clock)) ⟨rfl, ?_⟩ ⟨rfl, ?_⟩
    · simp only [aop, hk a a, Option.isSome_some, Bool.true_eq_false, if_false, st'.get, g2]
    · have e1 : (l'.map (encP ke ve)).eraseIdx i = (l'.eraseIdx i).map (encP ke ve) := erase_map _ _ _
      have e2 : (l'.eraseIdx i).map kvP = adel (l'.map kvP) a := by
        have key : ∀ {l' : List (α × β × Nat)} {i : Nat}, findE kk (ke a) (l'.map (encP ke ve)) = some (some i) → (l'.eraseIdx i).map kvP = adel (l'.map kvP) a := by
          intro l'
          induction l' with
          | nil => intro i h; simp [findE] at h
          | cons x l' ih =>
            intro i h
            simp only [List.map_cons, findE, hk a x.1] at h
            simp only [List.map_cons, adel]
            by_cases e : x.1 = a
            · rw [decide_eq_true e.symm] at h
              simp at h; subst h
              rw [if_pos e]; rfl
            · rw [decide_eq_false (fun y => e y.symm)] at h
              simp only [Option.map_eq_some_iff] at h
              obtain ⟨y, hy, hyi⟩ := h
              rw [if_neg e]
              cases y with
              | none => simp at hyi
              | some j =>
                simp at hyi; subst hyi
                rw [List.eraseIdx_cons_succ, List.map_cons, ih hy]
        exact key g2
      have st2 := st'.put (.map ((l'.map (encP ke ve)).eraseIdx i) clock)
      rw [e1] at st2 ⊢
      refine St.pack (cs := [_, _]) st2 ⟨l'.eraseIdx i, clock, seen, rfl, e2, (nodup_adel h2).1, by rw [← e1]; exact h3.erase i, fun p hp => h4 p (List.mem_of_mem_eraseIdx hp), fun _ _ e => (by cases e), h6⟩)
omit [DecidableEq α] in
/-- the loop's end -/
theorem St.itEnd (st : St h L) (t : Take L (ItC I M ke ve l dn cur) R) : St h (MpC M ke ve l :: R) := by
  obtain ⟨cs, ⟨l', clock, seen, rfl, rfl, h2, h3, h4, h5, h6⟩, st'⟩ := (st.take t).unpack
  exact St.pack (cs := [_]) (st'.sel (.cons .here (.skip .nil))) ⟨_, clock, rfl, ghost_map, h2, h3⟩
end ops
end
end Go.Proofs.Ytjdemlagmamlbaa

namespace Go.Proofs.Ytjdemlagmamlbaa
abbrev Pl := Int × Int
abbrev pkey (p : Pl) : AV := .agg [.int .i64 p.1, .int .i64 p.2]
theorem keyPl : KeyOk (.flat [.int, .int]) pkey := fun a b => by
  obtain ⟨a1, a2⟩ := a
  obtain ⟨b1, b2⟩ := b
  simp only [avEq, eqFlat, scEq, if_true, Prod.mk.injEq]
  by_cases h1 : a1 = b1
  · by_cases h2 : a2 = b2
    · simp [h1, h2]
    · simp [h1, h2]
  · have : (a1 == b1) = false := by simpa using h1
    rw [this]; simp [h1]
/-- files -/
structure FiS where
  sizes : List Int
  pg : List (Pl × Nat)
  left : Int
def PlOk (l : List (Pl × Nat)) : Prop := ∀ p, p ∈ l → p.2 < 2 ^ (8 * 4096)
abbrev FiS.row (s : FiS) (lv : AV) (M : Nat) : AObj := .row ty_file_Store 4 false false (.vals [.bool true, lv, .map M, .int .i64 s.left])
def FiIs (D : Nat) (s : FiS) (cs : List Chunk) : Prop := ∃ lv M, cs = [.pt D (s.row lv M), VsC lv 3 (s.sizes.map ikey) true, MpC M pkey pageV s.pg] ∧ PlOk s.pg ∧ s.sizes.length ≤ 16
abbrev FiC (D : Nat) (s : FiS) : Chunk := pk 22 (.ptr D 0) (FiIs D s)
variable {D : Nat} {s : FiS}
/-- the walk's facts on what is unpacked -/
theorem FiS.slice {h : AHeap} {L R : List Chunk} {lv : AV} (st : St h L) (t : Take L (VsC lv 3 (s.sizes.map ikey) true) R) : sliceLen lv = some s.sizes.length ∧ lv.notJunk = some lv ∧ okSame lv = true := by
  obtain ⟨a, b, c⟩ := st.vs t
  rw [List.length_map] at a
  exact ⟨a, b, c⟩
theorem file_New : Spec R (.f n_file_New) [] [] fun v Rs => ∃ D, v = .ptr D 0 ∧ Rs = [FiC D ⟨[], [], 0⟩] := by
  refine spec_w (fun _ _ _ x => progI_call rfl rfl x) Njs rfl (fun h F st => ?_); dsimp only [List.cons_append, List.nil_append] at st
  (repeat (first | (show W _ _ _ _ _ _ (.code (cond _ _ _) :: _) _ _; first | refine W.ct ?_ | refine W.cf ?_) | (show W _ _ _ _ _ _ (.ins (cond _ _ _ :: _) :: _) _ _; first | refine W.gt ?_ | refine W.gf ?_) | (show W _ _ _ _ _ _ [] _ _; refine W.of (.done ?_)) | (apply W.of; constructor <;> first | (show W _ _ _ _ _ _ _ _ _) | (intro (al : Nat) h st; show W _ _ _ _ _ _ _ _ _) | (intro _ h st; show W _ _ _ _ _ _ _ _ _) | exact Sd))); refine W.ef (ho := (e_newmap st pkey pageV)) (w := ?_); rintro vv h ⟨M, rfl, st⟩; refine nj ?_
  (repeat (first | (show W _ _ _ _ _ _ (.code (cond _ _ _) :: _) _ _; first | refine W.ct ?_ | refine W.cf ?_) | (show W _ _ _ _ _ _ (.ins (cond _ _ _ :: _) :: _) _ _; first | refine W.gt ?_ | refine W.gf ?_) | (show W _ _ _ _ _ _ [] _ _; refine W.of (.done ?_)) | (apply W.of; constructor <;> first | (show W _ _ _ _ _ _ _ _ _) | (intro (al : Nat) h st; show W _ _ _ _ _ _ _ _ _) | (intro _ h st; show W _ _ _ _ _ _ _ _ _) | exact Sd)))
  have st := st.vsNil 3 true
  exact ⟨_, rfl, _, ⟨_, rfl, rfl⟩, St.packP (cs := [_, _, _]) st ⟨_, M, rfl, fun p hp => absurd hp (by simp), by simp⟩ Pks⟩
theorem file_made : Spec R (.f n_file_Store_made) [.ptr D 0] [FiC D s] fun v Rs => v = .bool true ∧ Rs = [FiC D s] := by
  refine spec_w (fun _ _ _ x => progI_call rfl rfl x) Njs rfl (fun h F st => ?_); dsimp only [List.cons_append, List.nil_append] at st
  obtain ⟨_, ⟨lv, M, rfl, hok⟩, st⟩ := St.unpack st; dsimp only [List.cons_append, List.nil_append] at st
  (repeat (first | (show W _ _ _ _ _ _ (.code (cond _ _ _) :: _) _ _; first | refine W.ct ?_ | refine W.cf ?_) | (show W _ _ _ _ _ _ (.ins (cond _ _ _ :: _) :: _) _ _; first | refine W.gt ?_ | refine W.gf ?_) | (show W _ _ _ _ _ _ [] _ _; refine W.of (.done ?_)) | (apply W.of; constructor <;> first | (show W _ _ _ _ _ _ _ _ _) | (intro (al : Nat) h st; show W _ _ _ _ _ _ _ _ _) | (intro _ h st; show W _ _ _ _ _ _ _ _ _) | exact Sd)))
  exact ⟨_, rfl, _, ⟨rfl, rfl⟩, St.packP (cs := [_, _, _]) st ⟨lv, M, rfl, hok⟩ Pks⟩
/-- a file's size -/
def FiS.size (s : FiS) (id : Int) : Option Int := if 1 ≤ id ∧ id ≤ s.sizes.length then s.sizes[(id - 1).toNat]? else none
theorem size_some {id n : Int} (h : s.size id = some n) : 1 ≤ id ∧ id ≤ s.sizes.length ∧ s.sizes[(id - 1).toNat]? = some n := by
  unfold FiS.size at h
  split at h
  · rename_i g; exact ⟨g.1, g.2, h⟩
  · cases h
theorem size_none {id : Int} (h : s.size id = none) : ¬ (1 ≤ id ∧ id ≤ s.sizes.length) := by
  unfold FiS.size at h
  intro g
  rw [if_pos g] at h
  rw [List.getElem?_eq_none_iff] at h
  omega
theorem file_Size {id : Int} : Spec R (.f n_file_Store_Size) [.ptr D 0, .int .i64 id] [FiC D s] fun v Rs => v = .tuple [.int .i64 ((s.size id).getD 0), .bool (s.size id).isSome] ∧ Rs = [FiC D s] := by
  refine spec_w (fun _ _ _ x => progI_call rfl rfl x) Njs rfl (fun h F st => ?_); dsimp only [List.cons_append, List.nil_append] at st
  (repeat (first | (show W _ _ _ _ _ _ (.code (cond _ _ _) :: _) _ _; first | refine W.ct ?_ | refine W.cf ?_) | (show W _ _ _ _ _ _ (.ins (cond _ _ _ :: _) :: _) _ _; first | refine W.gt ?_ | refine W.gf ?_) | (show W _ _ _ _ _ _ [] _ _; refine W.of (.done ?_)) | (apply W.of; constructor <;> first | (show W _ _ _ _ _ _ _ _ _) | (intro (al : Nat) h st; show W _ _ _ _ _ _ _ _ _) | (intro _ h st; show W _ _ _ _ _ _ _ _ _) | exact Sd))); refine W.call (hs := file_made) (w := ?_); rintro vv _ ⟨rfl, rfl⟩ h st; refine nj ?_; dsimp only [List.cons_append, List.nil_append] at st
  obtain ⟨_, ⟨lv, M, rfl, hok⟩, st⟩ := St.unpack st; dsimp only [List.cons_append, List.nil_append] at st
  obtain ⟨hl, hj, _⟩ := FiS.slice st Tk
  (repeat (first | (show W _ _ _ _ _ _ (.code (cond _ _ _) :: _) _ _; first | refine W.ct ?_ | refine W.cf ?_) | (show W _ _ _ _ _ _ (.ins (cond _ _ _ :: _) :: _) _ _; first | refine W.gt ?_ | refine W.gf ?_) | (show W _ _ _ _ _ _ [] _ _; refine W.of (.done ?_)) | (apply W.of; constructor <;> first | (show W _ _ _ _ _ _ _ _ _) | (intro (al : Nat) h st; show W _ _ _ _ _ _ _ _ _) | (intro _ h st; show W _ _ _ _ _ _ _ _ _) | exact Sd)))
  cases hs : s.size id with
  | none =>
    have hn := size_none hs
    by_cases h1 : id < 1
    · (repeat (first | (show W _ _ _ _ _ _ (.code (cond _ _ _) :: _) _ _; first | refine W.ct ?_ | refine W.cf ?_) | (show W _ _ _ _ _ _ (.ins (cond _ _ _ :: _) :: _) _ _; first | refine W.gt ?_ | refine W.gf ?_) | (show W _ _ _ _ _ _ [] _ _; refine W.of (.done ?_)) | (apply W.of; constructor <;> first | (show W _ _ _ _ _ _ _ _ _) | (intro (al : Nat) h st; show W _ _ _ _ _ _ _ _ _) | (intro _ h st; show W _ _ _ _ _ _ _ _ _) | exact Sd)))
      exact ⟨_, rfl, _, ⟨rfl, rfl⟩, St.packP (cs := [_, _, _]) st ⟨lv, M, rfl, hok⟩ Pks⟩
    · (repeat (first | (show W _ _ _ _ _ _ (.code (cond _ _ _) :: _) _ _; first | refine W.ct ?_ | refine W.cf ?_) | (show W _ _ _ _ _ _ (.ins (cond _ _ _ :: _) :: _) _ _; first | refine W.gt ?_ | refine W.gf ?_) | (show W _ _ _ _ _ _ [] _ _; refine W.of (.done ?_)) | (apply W.of; constructor <;> first | (show W _ _ _ _ _ _ _ _ _) | (intro (al : Nat) h st; show W _ _ _ _ _ _ _ _ _) | (intro _ h st; show W _ _ _ _ _ _ _ _ _) | exact Sd)))
      exact ⟨_, rfl, _, ⟨rfl, rfl⟩, St.packP (cs := [_, _, _]) st ⟨lv, M, rfl, hok⟩ Pks⟩
  | some n =>
    obtain ⟨h1, h2, h3⟩ := size_some hs
    have hb := hok.2
    (repeat (first | (show W _ _ _ _ _ _ (.code (cond _ _ _) :: _) _ _; first | refine W.ct ?_ | refine W.cf ?_) | (show W _ _ _ _ _ _ (.ins (cond _ _ _ :: _) :: _) _ _; first | refine W.gt ?_ | refine W.gf ?_) | (show W _ _ _ _ _ _ [] _ _; refine W.of (.done ?_)) | (apply W.of; constructor <;> first | (show W _ _ _ _ _ _ _ _ _) | (intro (al : Nat) h st; show W _ _ _ _ _ _ _ _ _) | (intro _ h st; show W _ _ _ _ _ _ _ _ _) | exact Sd)))
    obtain ⟨gp, gq⟩ := d_vsIdx (l := s.sizes.map ikey) (i := (id - 1).toNat) (kk := .i64) st Tk (by rw [List.length_map]; omega)
    rw [show (((id - 1).toNat : Nat) : Int) = id - 1 by omega] at gp
    (repeat (first | (show W _ _ _ _ _ _ (.code (cond _ _ _) :: _) _ _; first | refine W.ct ?_ | refine W.cf ?_) | (show W _ _ _ _ _ _ (.ins (cond _ _ _ :: _) :: _) _ _; first | refine W.gt ?_ | refine W.gf ?_) | (show W _ _ _ _ _ _ [] _ _; refine W.of (.done ?_)) | (apply W.of; constructor <;> first | (show W _ _ _ _ _ _ _ _ _) | (intro (al : Nat) h st; show W _ _ _ _ _ _ _ _ _) | (intro _ h st; show W _ _ _ _ _ _ _ _ _) | exact Sd))); refine W.do (ho := gp) (w := ?_)
    (repeat (first | (show W _ _ _ _ _ _ (.code (cond _ _ _) :: _) _ _; first | refine W.ct ?_ | refine W.cf ?_) | (show W _ _ _ _ _ _ (.ins (cond _ _ _ :: _) :: _) _ _; first | refine W.gt ?_ | refine W.gf ?_) | (show W _ _ _ _ _ _ [] _ _; refine W.of (.done ?_)) | (apply W.of; constructor <;> first | (show W _ _ _ _ _ _ _ _ _) | (intro (al : Nat) h st; show W _ _ _ _ _ _ _ _ _) | (intro _ h st; show W _ _ _ _ _ _ _ _ _) | exact Sd))); refine W.do (ho := (d_vsLoad (l := s.sizes.map ikey) st Tk (by rw [List.getElem?_map, h3]; rfl))) (w := ?_)
    (repeat (first | (show W _ _ _ _ _ _ (.code (cond _ _ _) :: _) _ _; first | refine W.ct ?_ | refine W.cf ?_) | (show W _ _ _ _ _ _ (.ins (cond _ _ _ :: _) :: _) _ _; first | refine W.gt ?_ | refine W.gf ?_) | (show W _ _ _ _ _ _ [] _ _; refine W.of (.done ?_)) | (apply W.of; constructor <;> first | (show W _ _ _ _ _ _ _ _ _) | (intro (al : Nat) h st; show W _ _ _ _ _ _ _ _ _) | (intro _ h st; show W _ _ _ _ _ _ _ _ _) | exact Sd)))
    exact ⟨_, rfl, _, ⟨rfl, rfl⟩, St.packP (cs := [_, _, _]) st ⟨lv, M, rfl, hok⟩ Pks⟩
theorem file_Size_n {id : Int} (hs : s.size id = none) : Spec R (.f n_file_Store_Size) [.ptr D 0, .int .i64 id] [FiC D s] fun v Rs => v = .tuple [.int .i64 0, .bool false] ∧ Rs = [FiC D s] := by
  have := file_Size (D := D) (s := s) (id := id); rw [hs] at this; exact this
theorem file_Size_s {id z : Int} (hs : s.size id = some z) : Spec R (.f n_file_Store_Size) [.ptr D 0, .int .i64 id] [FiC D s] fun v Rs => v = .tuple [.int .i64 z, .bool true] ∧ Rs = [FiC D s] := by
  have := file_Size (D := D) (s := s) (id := id); rw [hs] at this; exact this
theorem file_known {id : Int} : Spec R (.f n_file_Store_known) [.ptr D 0, .int .i64 id] [FiC D s] fun v Rs => v = .tuple [.int .i64 ((s.size id).getD 0), .int .i64 (if (s.size id).isSome then 0 else 7)] ∧ Rs = [FiC D s] := by
  refine spec_w (fun _ _ _ x => progI_call rfl rfl x) Njs rfl (fun h F st => ?_); dsimp only [List.cons_append, List.nil_append] at st
  (repeat (first | (show W _ _ _ _ _ _ (.code (cond _ _ _) :: _) _ _; first | refine W.ct ?_ | refine W.cf ?_) | (show W _ _ _ _ _ _ (.ins (cond _ _ _ :: _) :: _) _ _; first | refine W.gt ?_ | refine W.gf ?_) | (show W _ _ _ _ _ _ [] _ _; refine W.of (.done ?_)) | (apply W.of; constructor <;> first | (show W _ _ _ _ _ _ _ _ _) | (intro (al : Nat) h st; show W _ _ _ _ _ _ _ _ _) | (intro _ h st; show W _ _ _ _ _ _ _ _ _) | exact Sd))); refine W.call (hs := file_made) (w := ?_); rintro vv _ ⟨rfl, rfl⟩ h st; refine nj ?_; dsimp only [List.cons_append, List.nil_append] at st
  (repeat (first | (show W _ _ _ _ _ _ (.code (cond _ _ _) :: _) _ _; first | refine W.ct ?_ | refine W.cf ?_) | (show W _ _ _ _ _ _ (.ins (cond _ _ _ :: _) :: _) _ _; first | refine W.gt ?_ | refine W.gf ?_) | (show W _ _ _ _ _ _ [] _ _; refine W.of (.done ?_)) | (apply W.of; constructor <;> first | (show W _ _ _ _ _ _ _ _ _) | (intro (al : Nat) h st; show W _ _ _ _ _ _ _ _ _) | (intro _ h st; show W _ _ _ _ _ _ _ _ _) | exact Sd))); refine W.call (hs := file_Size) (w := ?_); rintro vv _ ⟨rfl, rfl⟩ h st; refine nj ?_; dsimp only [List.cons_append, List.nil_append] at st
  (repeat (first | (show W _ _ _ _ _ _ (.code (cond _ _ _) :: _) _ _; first | refine W.ct ?_ | refine W.cf ?_) | (show W _ _ _ _ _ _ (.ins (cond _ _ _ :: _) :: _) _ _; first | refine W.gt ?_ | refine W.gf ?_) | (show W _ _ _ _ _ _ [] _ _; refine W.of (.done ?_)) | (apply W.of; constructor <;> first | (show W _ _ _ _ _ _ _ _ _) | (intro (al : Nat) h st; show W _ _ _ _ _ _ _ _ _) | (intro _ h st; show W _ _ _ _ _ _ _ _ _) | exact Sd)))
  cases hs : s.size id with
  | none =>
    (repeat (first | (show W _ _ _ _ _ _ (.code (cond _ _ _) :: _) _ _; first | refine W.ct ?_ | refine W.cf ?_) | (show W _ _ _ _ _ _ (.ins (cond _ _ _ :: _) :: _) _ _; first | refine W.gt ?_ | refine W.gf ?_) | (show W _ _ _ _ _ _ [] _ _; refine W.of (.done ?_)) | (apply W.of; constructor <;> first | (show W _ _ _ _ _ _ _ _ _) | (intro (al : Nat) h st; show W _ _ _ _ _ _ _ _ _) | (intro _ h st; show W _ _ _ _ _ _ _ _ _) | exact Sd)))
    exact ⟨_, rfl, _, ⟨rfl, rfl⟩, st⟩
  | some n =>
    (repeat (first | (show W _ _ _ _ _ _ (.code (cond _ _ _) :: _) _ _; first | refine W.ct ?_ | refine W.cf ?_) | (show W _ _ _ _ _ _ (.ins (cond _ _ _ :: _) :: _) _ _; first | refine W.gt ?_ | refine W.gf ?_) | (show W _ _ _ _ _ _ [] _ _; refine W.of (.done ?_)) | (apply W.of; constructor <;> first | (show W _ _ _ _ _ _ _ _ _) | (intro (al : Nat) h st; show W _ _ _ _ _ _ _ _ _) | (intro _ h st; show W _ _ _ _ _ _ _ _ _) | exact Sd)))
    exact ⟨_, rfl, _, ⟨rfl, rfl⟩, st⟩
theorem file_known_n {id : Int} (hs : s.size id = none) : Spec R (.f n_file_Store_known) [.ptr D 0, .int .i64 id] [FiC D s] fun v Rs => v = .tuple [.int .i64 0, .int .i64 7] ∧ Rs = [FiC D s] := by
  have := file_known (D := D) (s := s) (id := id); rw [hs] at this; exact this
theorem file_known_s {id z : Int} (hs : s.size id = some z) : Spec R (.f n_file_Store_known) [.ptr D 0, .int .i64 id] [FiC D s] fun v Rs => v = .tuple [.int .i64 z, .int .i64 0] ∧ Rs = [FiC D s] := by
  have := file_known (D := D) (s := s) (id := id); rw [hs] at this; exact this
/-- what Make does -/
def FiS.make (s : FiS) (n : Int) : FiS × Int × Int :=
  if n < 0 ∨ n > 4096 then (s, 0, 2) else if s.sizes.length ≥ 16 then (s, 0, 5) else ({ s with sizes := s.sizes ++ [n] }, s.sizes.length + 1, 0)
theorem file_Make {n : Int} : Spec R (.f n_file_Store_Make) [.ptr D 0, .int .i64 n] [FiC D s] fun v Rs => v = .tuple [.int .i64 (s.make n).2.1, .int .i64 (s.make n).2.2] ∧ Rs = [FiC D (s.make n).1] := by
  refine spec_w (fun _ _ _ x => progI_call rfl rfl x) Njs rfl (fun h F st => ?_); dsimp only [List.cons_append, List.nil_append] at st
  (repeat (first | (show W _ _ _ _ _ _ (.code (cond _ _ _) :: _) _ _; first | refine W.ct ?_ | refine W.cf ?_) | (show W _ _ _ _ _ _ (.ins (cond _ _ _ :: _) :: _) _ _; first | refine W.gt ?_ | refine W.gf ?_) | (show W _ _ _ _ _ _ [] _ _; refine W.of (.done ?_)) | (apply W.of; constructor <;> first | (show W _ _ _ _ _ _ _ _ _) | (intro (al : Nat) h st; show W _ _ _ _ _ _ _ _ _) | (intro _ h st; show W _ _ _ _ _ _ _ _ _) | exact Sd))); refine W.call (hs := file_made) (w := ?_); rintro vv _ ⟨rfl, rfl⟩ h st; refine nj ?_; dsimp only [List.cons_append, List.nil_append] at st
  unfold FiS.make
  by_cases h1 : n < 0
  · rw [if_pos (.inl h1)]
    (repeat (first | (show W _ _ _ _ _ _ (.code (cond _ _ _) :: _) _ _; first | refine W.ct ?_ | refine W.cf ?_) | (show W _ _ _ _ _ _ (.ins (cond _ _ _ :: _) :: _) _ _; first | refine W.gt ?_ | refine W.gf ?_) | (show W _ _ _ _ _ _ [] _ _; refine W.of (.done ?_)) | (apply W.of; constructor <;> first | (show W _ _ _ _ _ _ _ _ _) | (intro (al : Nat) h st; show W _ _ _ _ _ _ _ _ _) | (intro _ h st; show W _ _ _ _ _ _ _ _ _) | exact Sd)))
    exact ⟨_, rfl, _, ⟨rfl, rfl⟩, st⟩
  · by_cases h2 : n > 4096
    · rw [if_pos (.inr h2)]
      (repeat (first | (show W _ _ _ _ _ _ (.code (cond _ _ _) :: _) _ _; first | refine W.ct ?_ | refine W.cf ?_) | (show W _ _ _ _ _ _ (.ins (cond _ _ _ :: _) :: _) _ _; first | refine W.gt ?_ | refine W.gf ?_) | (show W _ _ _ _ _ _ [] _ _; refine W.of (.done ?_)) | (apply W.of; constructor <;> first | (show W _ _ _ _ _ _ _ _ _) | (intro (al : Nat) h st; show W _ _ _ _ _ _ _ _ _) | (intro _ h st; show W _ _ _ _ _ _ _ _ _) | exact Sd)))
      exact ⟨_, rfl, _, ⟨rfl, rfl⟩, st⟩
    · rw [if_neg (by omega)]
      obtain ⟨_, ⟨lv, M, rfl, hok⟩, st⟩ := St.unpack st; dsimp only [List.cons_append, List.nil_append] at st
      obtain ⟨hl, hj, _⟩ := FiS.slice st Tk
      have hb := hok.2
      by_cases h3 : s.sizes.length ≥ 16
      · rw [if_pos h3]
        (repeat (first | (show W _ _ _ _ _ _ (.code (cond _ _ _) :: _) _ _; first | refine W.ct ?_ | refine W.cf ?_) | (show W _ _ _ _ _ _ (.ins (cond _ _ _ :: _) :: _) _ _; first | refine W.gt ?_ | refine W.gf ?_) | (show W _ _ _ _ _ _ [] _ _; refine W.of (.done ?_)) | (apply W.of; constructor <;> first | (show W _ _ _ _ _ _ _ _ _) | (intro (al : Nat) h st; show W _ _ _ _ _ _ _ _ _) | (intro _ h st; show W _ _ _ _ _ _ _ _ _) | exact Sd)))
        exact ⟨_, rfl, _, ⟨rfl, rfl⟩, St.packP (cs := [_, _, _]) st ⟨lv, M, rfl, hok⟩ Pks⟩
      · rw [if_neg h3]
        (repeat (first | (show W _ _ _ _ _ _ (.code (cond _ _ _) :: _) _ _; first | refine W.ct ?_ | refine W.cf ?_) | (show W _ _ _ _ _ _ (.ins (cond _ _ _ :: _) :: _) _ _; first | refine W.gt ?_ | refine W.gf ?_) | (show W _ _ _ _ _ _ [] _ _; refine W.of (.done ?_)) | (apply W.of; constructor <;> first | (show W _ _ _ _ _ _ _ _ _) | (intro (al : Nat) h st; show W _ _ _ _ _ _ _ _ _) | (intro _ h st; show W _ _ _ _ _ _ _ _ _) | exact Sd)))
        have st := St.vsRow (l := [.int .i64 n]) (e := 3) st Tk rfl
        (repeat (first | (show W _ _ _ _ _ _ (.code (cond _ _ _) :: _) _ _; first | refine W.ct ?_ | refine W.cf ?_) | (show W _ _ _ _ _ _ (.ins (cond _ _ _ :: _) :: _) _ _; first | refine W.gt ?_ | refine W.gf ?_) | (show W _ _ _ _ _ _ [] _ _; refine W.of (.done ?_)) | (apply W.of; constructor <;> first | (show W _ _ _ _ _ _ _ _ _) | (intro (al : Nat) h st; show W _ _ _ _ _ _ _ _ _) | (intro _ h st; show W _ _ _ _ _ _ _ _ _) | exact Sd))); refine W.ef (ho := (e_vsAppend (l := s.sizes.map ikey) (l' := [.int .i64 n]) st Tk Tk (by simp; omega) (by simp; omega))) (w := ?_); rintro vv h ⟨bj, bl, st⟩; refine nj ?_
        obtain ⟨l2, rfl⟩ : ∃ y, y = vv := ⟨_, rfl⟩
        have bl' : sliceLen l2 = some (s.sizes.length + 1) := by rw [bl]; simp
        (repeat (first | (show W _ _ _ _ _ _ (.code (cond _ _ _) :: _) _ _; first | refine W.ct ?_ | refine W.cf ?_) | (show W _ _ _ _ _ _ (.ins (cond _ _ _ :: _) :: _) _ _; first | refine W.gt ?_ | refine W.gf ?_) | (show W _ _ _ _ _ _ [] _ _; refine W.of (.done ?_)) | (apply W.of; constructor <;> first | (show W _ _ _ _ _ _ _ _ _) | (intro (al : Nat) h st; show W _ _ _ _ _ _ _ _ _) | (intro _ h st; show W _ _ _ _ _ _ _ _ _) | exact Sd))); refine W.ef0 (ho := (e_storeV (i := 1) st Tk rfl (by simp) (sl_dat bl))) (w := ?_); rintro _ h ⟨_, st⟩
        (repeat (first | (show W _ _ _ _ _ _ (.code (cond _ _ _) :: _) _ _; first | refine W.ct ?_ | refine W.cf ?_) | (show W _ _ _ _ _ _ (.ins (cond _ _ _ :: _) :: _) _ _; first | refine W.gt ?_ | refine W.gf ?_) | (show W _ _ _ _ _ _ [] _ _; refine W.of (.done ?_)) | (apply W.of; constructor <;> first | (show W _ _ _ _ _ _ _ _ _) | (intro (al : Nat) h st; show W _ _ _ _ _ _ _ _ _) | (intro _ h st; show W _ _ _ _ _ _ _ _ _) | exact Sd)))
        rw [show (s.sizes.map ikey ++ [.int .i64 n]) = (s.sizes ++ [n]).map ikey by rw [List.map_append]; rfl] at st
        have st := St.packP (t := 22) (k := .ptr D 0) (P := FiIs D { s with sizes := s.sizes ++ [n] }) st ⟨l2, M, rfl, hok.1, by simp; omega⟩ Pks
        exact ⟨_, rfl, _, ⟨rfl, rfl⟩, st.sel Sels⟩
theorem file_Plan {n : Int} : Spec R (.f n_file_Store_Plan) [.ptr D 0, .int .i64 n] [FiC D s] fun v Rs => v = .int .i64 (if n < 0 then 2 else 0) ∧ Rs = [FiC D (if n < 0 then s else { s with left := n })] := by
  refine spec_w (fun _ _ _ x => progI_call rfl rfl x) Njs rfl (fun h F st => ?_); dsimp only [List.cons_append, List.nil_append] at st
  (repeat (first | (show W _ _ _ _ _ _ (.code (cond _ _ _) :: _) _ _; first | refine W.ct ?_ | refine W.cf ?_) | (show W _ _ _ _ _ _ (.ins (cond _ _ _ :: _) :: _) _ _; first | refine W.gt ?_ | refine W.gf ?_) | (show W _ _ _ _ _ _ [] _ _; refine W.of (.done ?_)) | (apply W.of; constructor <;> first | (show W _ _ _ _ _ _ _ _ _) | (intro (al : Nat) h st; show W _ _ _ _ _ _ _ _ _) | (intro _ h st; show W _ _ _ _ _ _ _ _ _) | exact Sd))); refine W.call (hs := file_made) (w := ?_); rintro vv _ ⟨rfl, rfl⟩ h st; refine nj ?_; dsimp only [List.cons_append, List.nil_append] at st
  (repeat (first | (show W _ _ _ _ _ _ (.code (cond _ _ _) :: _) _ _; first | refine W.ct ?_ | refine W.cf ?_) | (show W _ _ _ _ _ _ (.ins (cond _ _ _ :: _) :: _) _ _; first | refine W.gt ?_ | refine W.gf ?_) | (show W _ _ _ _ _ _ [] _ _; refine W.of (.done ?_)) | (apply W.of; constructor <;> first | (show W _ _ _ _ _ _ _ _ _) | (intro (al : Nat) h st; show W _ _ _ _ _ _ _ _ _) | (intro _ h st; show W _ _ _ _ _ _ _ _ _) | exact Sd)))
  by_cases h1 : n < 0
  · rw [if_pos h1, if_pos h1]
    (repeat (first | (show W _ _ _ _ _ _ (.code (cond _ _ _) :: _) _ _; first | refine W.ct ?_ | refine W.cf ?_) | (show W _ _ _ _ _ _ (.ins (cond _ _ _ :: _) :: _) _ _; first | refine W.gt ?_ | refine W.gf ?_) | (show W _ _ _ _ _ _ [] _ _; refine W.of (.done ?_)) | (apply W.of; constructor <;> first | (show W _ _ _ _ _ _ _ _ _) | (intro (al : Nat) h st; show W _ _ _ _ _ _ _ _ _) | (intro _ h st; show W _ _ _ _ _ _ _ _ _) | exact Sd)))
    exact ⟨_, rfl, _, ⟨rfl, rfl⟩, st⟩
  · rw [if_neg h1, if_neg h1]
    obtain ⟨_, ⟨lv, M, rfl, hok⟩, st⟩ := St.unpack st; dsimp only [List.cons_append, List.nil_append] at st
    (repeat (first | (show W _ _ _ _ _ _ (.code (cond _ _ _) :: _) _ _; first | refine W.ct ?_ | refine W.cf ?_) | (show W _ _ _ _ _ _ (.ins (cond _ _ _ :: _) :: _) _ _; first | refine W.gt ?_ | refine W.gf ?_) | (show W _ _ _ _ _ _ [] _ _; refine W.of (.done ?_)) | (apply W.of; constructor <;> first | (show W _ _ _ _ _ _ _ _ _) | (intro (al : Nat) h st; show W _ _ _ _ _ _ _ _ _) | (intro _ h st; show W _ _ _ _ _ _ _ _ _) | exact Sd)))
    exact ⟨_, rfl, _, ⟨rfl, rfl⟩, St.packP (cs := [_, _, _]) st ⟨lv, M, rfl, hok⟩ Pks⟩
/-- a page's content -/
def FiS.cell (s : FiS) (p : Pl) : Nat := (alook s.pg p).getD 0
theorem plOk_at {l : List (Pl × Nat)} (h : PlOk l) (p : Pl) : (alook l p).getD 0 < 2 ^ (8 * 4096) := by
  induction l with
  | nil => exact page_pos
  | cons a l ih =>
    obtain ⟨k, v⟩ := a
    simp only [alook]
    split
    · exact h _ List.mem_cons_self
    · exact ih fun q hq => h q (List.mem_cons_of_mem _ hq)
theorem d_lookPl {h : AHeap} {L R : List Chunk} {M : Nat} {l : List (Pl × Nat)} (st : St h L) (t : Take L (MpC M pkey pageV l) R) (p : Pl) :
    Does (.lookup (.flat [.int, .int]) (.bytes 4096 0) false) [.map M, .agg [.int .i64 p.1, .int .i64 p.2]] h (.bytes 4096 ((alook l p).getD 0)) h := by
  have e := d_lookup st t keyPl (.bytes 4096 0) p
  have e2 : (alook l p).elim (.bytes 4096 0) pageV = .bytes 4096 ((alook l p).getD 0) := by cases alook l p <;> rfl
  rw [← e2]; exact e
/-- is it a page of a file? -/
def FiS.ok (s : FiS) (id n : Int) : Bool := match s.size id with
  | none => false
  | some z => decide (0 ≤ n ∧ n < z)
theorem ok_none {id n : Int} (h : s.size id = none) : s.ok id n = false := by unfold FiS.ok; rw [h]
theorem ok_some {id n z : Int} (h : s.size id = some z) : s.ok id n = decide (0 ≤ n ∧ n < z) := by unfold FiS.ok; rw [h]
/-- what Peek tells -/
def FiS.pk (s : FiS) (id n : Int) : Nat × Nat := if s.ok id n = true then (4096, s.cell (id, n)) else (0, 0)
theorem file_Peek {id n : Int} : Spec R (.f n_file_Store_Peek) [.ptr D 0, .int .i64 id, .int .i64 n] [FiC D s] fun x Rs => x.notJunk = some x ∧ sliceLen x = some (s.pk id n).1 ∧ Rs = [ByC x (s.pk id n).1 (s.pk id n).2 true, FiC D s] := by
  refine spec_w (fun _ _ _ x => progI_call rfl rfl x) Njs rfl (fun h F st => ?_); dsimp only [List.cons_append, List.nil_append] at st
  unfold FiS.pk
  cases hs : s.size id with
  | none =>
    rw [ok_none hs]
    (repeat (first | (show W _ _ _ _ _ _ (.code (cond _ _ _) :: _) _ _; first | refine W.ct ?_ | refine W.cf ?_) | (show W _ _ _ _ _ _ (.ins (cond _ _ _ :: _) :: _) _ _; first | refine W.gt ?_ | refine W.gf ?_) | (show W _ _ _ _ _ _ [] _ _; refine W.of (.done ?_)) | (apply W.of; constructor <;> first | (show W _ _ _ _ _ _ _ _ _) | (intro (al : Nat) h st; show W _ _ _ _ _ _ _ _ _) | (intro _ h st; show W _ _ _ _ _ _ _ _ _) | exact Sd))); refine W.call (hs := (file_Size_n hs)) (w := ?_); rintro vv _ ⟨rfl, rfl⟩ h st; refine nj ?_; dsimp only [List.cons_append, List.nil_append] at st
    (repeat (first | (show W _ _ _ _ _ _ (.code (cond _ _ _) :: _) _ _; first | refine W.ct ?_ | refine W.cf ?_) | (show W _ _ _ _ _ _ (.ins (cond _ _ _ :: _) :: _) _ _; first | refine W.gt ?_ | refine W.gf ?_) | (show W _ _ _ _ _ _ [] _ _; refine W.of (.done ?_)) | (apply W.of; constructor <;> first | (show W _ _ _ _ _ _ _ _ _) | (intro (al : Nat) h st; show W _ _ _ _ _ _ _ _ _) | (intro _ h st; show W _ _ _ _ _ _ _ _ _) | exact Sd)))
    exact ⟨_, rfl, _, ⟨rfl, rfl, rfl⟩, st.byNil true⟩
  | some z =>
    rw [ok_some hs]
    (repeat (first | (show W _ _ _ _ _ _ (.code (cond _ _ _) :: _) _ _; first | refine W.ct ?_ | refine W.cf ?_) | (show W _ _ _ _ _ _ (.ins (cond _ _ _ :: _) :: _) _ _; first | refine W.gt ?_ | refine W.gf ?_) | (show W _ _ _ _ _ _ [] _ _; refine W.of (.done ?_)) | (apply W.of; constructor <;> first | (show W _ _ _ _ _ _ _ _ _) | (intro (al : Nat) h st; show W _ _ _ _ _ _ _ _ _) | (intro _ h st; show W _ _ _ _ _ _ _ _ _) | exact Sd))); refine W.call (hs := (file_Size_s hs)) (w := ?_); rintro vv _ ⟨rfl, rfl⟩ h st; refine nj ?_; dsimp only [List.cons_append, List.nil_append] at st
    by_cases h1 : n < 0
    · rw [decide_eq_false (by omega)]
      (repeat (first | (show W _ _ _ _ _ _ (.code (cond _ _ _) :: _) _ _; first | refine W.ct ?_ | refine W.cf ?_) | (show W _ _ _ _ _ _ (.ins (cond _ _ _ :: _) :: _) _ _; first | refine W.gt ?_ | refine W.gf ?_) | (show W _ _ _ _ _ _ [] _ _; refine W.of (.done ?_)) | (apply W.of; constructor <;> first | (show W _ _ _ _ _ _ _ _ _) | (intro (al : Nat) h st; show W _ _ _ _ _ _ _ _ _) | (intro _ h st; show W _ _ _ _ _ _ _ _ _) | exact Sd)))
      exact ⟨_, rfl, _, ⟨rfl, rfl, rfl⟩, st.byNil true⟩
    · by_cases h2 : n < z
      · rw [decide_eq_true (show 0 ≤ n ∧ n < z by omega)]
        (repeat (first | (show W _ _ _ _ _ _ (.code (cond _ _ _) :: _) _ _; first | refine W.ct ?_ | refine W.cf ?_) | (show W _ _ _ _ _ _ (.ins (cond _ _ _ :: _) :: _) _ _; first | refine W.gt ?_ | refine W.gf ?_) | (show W _ _ _ _ _ _ [] _ _; refine W.of (.done ?_)) | (apply W.of; constructor <;> first | (show W _ _ _ _ _ _ _ _ _) | (intro (al : Nat) h st; show W _ _ _ _ _ _ _ _ _) | (intro _ h st; show W _ _ _ _ _ _ _ _ _) | exact Sd)))
        obtain ⟨_, ⟨lv, M, rfl, hok⟩, st⟩ := St.unpack st; dsimp only [List.cons_append, List.nil_append] at st
        (repeat (first | (show W _ _ _ _ _ _ (.code (cond _ _ _) :: _) _ _; first | refine W.ct ?_ | refine W.cf ?_) | (show W _ _ _ _ _ _ (.ins (cond _ _ _ :: _) :: _) _ _; first | refine W.gt ?_ | refine W.gf ?_) | (show W _ _ _ _ _ _ [] _ _; refine W.of (.done ?_)) | (apply W.of; constructor <;> first | (show W _ _ _ _ _ _ _ _ _) | (intro (al : Nat) h st; show W _ _ _ _ _ _ _ _ _) | (intro _ h st; show W _ _ _ _ _ _ _ _ _) | exact Sd))); refine W.do (ho := (d_lookPl st Tk (id, n))) (w := ?_)
        (repeat (first | (show W _ _ _ _ _ _ (.code (cond _ _ _) :: _) _ _; first | refine W.ct ?_ | refine W.cf ?_) | (show W _ _ _ _ _ _ (.ins (cond _ _ _ :: _) :: _) _ _; first | refine W.gt ?_ | refine W.gf ?_) | (show W _ _ _ _ _ _ [] _ _; refine W.of (.done ?_)) | (apply W.of; constructor <;> first | (show W _ _ _ _ _ _ _ _ _) | (intro (al : Nat) h st; show W _ _ _ _ _ _ _ _ _) | (intro _ h st; show W _ _ _ _ _ _ _ _ _) | exact Sd)))
        rw [bput_new (plOk_at hok.1 (id, n))] at st
        have st := St.packP (t := 22) (k := .ptr D 0) (P := FiIs D s) st ⟨lv, M, rfl, hok⟩ Pks
        have st := St.byRow' (k := 4096) st Tk (plOk_at hok.1 (id, n))
        exact ⟨_, rfl, _, ⟨rfl, rfl, rfl⟩, st⟩
      · rw [decide_eq_false (by omega)]
        (repeat (first | (show W _ _ _ _ _ _ (.code (cond _ _ _) :: _) _ _; first | refine W.ct ?_ | refine W.cf ?_) | (show W _ _ _ _ _ _ (.ins (cond _ _ _ :: _) :: _) _ _; first | refine W.gt ?_ | refine W.gf ?_) | (show W _ _ _ _ _ _ [] _ _; refine W.of (.done ?_)) | (apply W.of; constructor <;> first | (show W _ _ _ _ _ _ _ _ _) | (intro (al : Nat) h st; show W _ _ _ _ _ _ _ _ _) | (intro _ h st; show W _ _ _ _ _ _ _ _ _) | exact Sd)))
        exact ⟨_, rfl, _, ⟨rfl, rfl, rfl⟩, st.byNil true⟩
/-- a call more; does it fail? -/
def FiS.tick (s : FiS) : FiS := if s.left > 0 then { s with left := s.left - 1 } else s
def FiS.bad (s : FiS) : Bool := decide (s.left = 1)
structure AtV where
  s : FiS
  e : Int
def FiS.at' (s : FiS) (id n : Int) (g : Bool) : AtV := if (s.size id).isNone = true then ⟨s, 7⟩ else if s.ok id n = true ∧ g = true then ⟨s.tick, if s.bad then 6 else 0⟩ else ⟨s, 2⟩
theorem file_at {id n : Int} {g : Bool} (hlo : s.left ≤ 9223372036854775807) : Spec R (.f n_file_Store_at) [.ptr D 0, .int .i64 id, .int .i64 n, .bool g] [FiC D s] fun v Rs =>
    ∃ p : Pl, ((s.at' id n g).e = 0 → p = (id, n)) ∧ v = .tuple [pkey p, .int .i64 (s.at' id n g).e] ∧ Rs = [FiC D (s.at' id n g).s] := by
  refine spec_w (fun _ _ _ x => progI_call rfl rfl x) Njs rfl (fun h F st => ?_); dsimp only [List.cons_append, List.nil_append] at st
  unfold FiS.at'
  cases hs : s.size id with
  | none =>
    (repeat (first | (show W _ _ _ _ _ _ (.code (cond _ _ _) :: _) _ _; first | refine W.ct ?_ | refine W.cf ?_) | (show W _ _ _ _ _ _ (.ins (cond _ _ _ :: _) :: _) _ _; first | refine W.gt ?_ | refine W.gf ?_) | (show W _ _ _ _ _ _ [] _ _; refine W.of (.done ?_)) | (apply W.of; constructor <;> first | (show W _ _ _ _ _ _ _ _ _) | (intro (al : Nat) h st; show W _ _ _ _ _ _ _ _ _) | (intro _ h st; show W _ _ _ _ _ _ _ _ _) | exact Sd))); refine W.call (hs := (file_known_n hs)) (w := ?_); rintro vv _ ⟨rfl, rfl⟩ h st; refine nj ?_; dsimp only [List.cons_append, List.nil_append] at st
    (repeat (first | (show W _ _ _ _ _ _ (.code (cond _ _ _) :: _) _ _; first | refine W.ct ?_ | refine W.cf ?_) | (show W _ _ _ _ _ _ (.ins (cond _ _ _ :: _) :: _) _ _; first | refine W.gt ?_ | refine W.gf ?_) | (show W _ _ _ _ _ _ [] _ _; refine W.of (.done ?_)) | (apply W.of; constructor <;> first | (show W _ _ _ _ _ _ _ _ _) | (intro (al : Nat) h st; show W _ _ _ _ _ _ _ _ _) | (intro _ h st; show W _ _ _ _ _ _ _ _ _) | exact Sd)))
    exact ⟨_, res_cell rfl (d_loadn (n := 2) (off := 0) (st.get' Tk) rfl) rfl, _, ⟨(0, 0), fun h => absurd h (by simp), rfl, rfl⟩, st.sel Sels⟩
  | some z =>
    rw [ok_some hs, if_neg (by simp)]
    (repeat (first | (show W _ _ _ _ _ _ (.code (cond _ _ _) :: _) _ _; first | refine W.ct ?_ | refine W.cf ?_) | (show W _ _ _ _ _ _ (.ins (cond _ _ _ :: _) :: _) _ _; first | refine W.gt ?_ | refine W.gf ?_) | (show W _ _ _ _ _ _ [] _ _; refine W.of (.done ?_)) | (apply W.of; constructor <;> first | (show W _ _ _ _ _ _ _ _ _) | (intro (al : Nat) h st; show W _ _ _ _ _ _ _ _ _) | (intro _ h st; show W _ _ _ _ _ _ _ _ _) | exact Sd))); refine W.call (hs := (file_known_s hs)) (w := ?_); rintro vv _ ⟨rfl, rfl⟩ h st; refine nj ?_; dsimp only [List.cons_append, List.nil_append] at st
    by_cases h1 : n < 0
    · rw [if_neg (by simp; omega)]
      (repeat (first | (show W _ _ _ _ _ _ (.code (cond _ _ _) :: _) _ _; first | refine W.ct ?_ | refine W.cf ?_) | (show W _ _ _ _ _ _ (.ins (cond _ _ _ :: _) :: _) _ _; first | refine W.gt ?_ | refine W.gf ?_) | (show W _ _ _ _ _ _ [] _ _; refine W.of (.done ?_)) | (apply W.of; constructor <;> first | (show W _ _ _ _ _ _ _ _ _) | (intro (al : Nat) h st; show W _ _ _ _ _ _ _ _ _) | (intro _ h st; show W _ _ _ _ _ _ _ _ _) | exact Sd)))
      exact ⟨_, res_cell rfl (d_loadn (n := 2) (off := 0) (st.get' Tk) rfl) rfl, _, ⟨(0, 0), fun h => absurd h (by simp), rfl, rfl⟩, st.sel Sels⟩
    · by_cases h2 : n < z
      · cases g with
        | false =>
          rw [if_neg (by simp)]
          (repeat (first | (show W _ _ _ _ _ _ (.code (cond _ _ _) :: _) _ _; first | refine W.ct ?_ | refine W.cf ?_) | (show W _ _ _ _ _ _ (.ins (cond _ _ _ :: _) :: _) _ _; first | refine W.gt ?_ | refine W.gf ?_) | (show W _ _ _ _ _ _ [] _ _; refine W.of (.done ?_)) | (apply W.of; constructor <;> first | (show W _ _ _ _ _ _ _ _ _) | (intro (al : Nat) h st; show W _ _ _ _ _ _ _ _ _) | (intro _ h st; show W _ _ _ _ _ _ _ _ _) | exact Sd)))
          exact ⟨_, res_cell rfl (d_loadn (n := 2) (off := 0) (st.get' Tk) rfl) rfl, _, ⟨(0, 0), fun h => absurd h (by simp), rfl, rfl⟩, st.sel Sels⟩
        | true =>
          rw [if_pos ⟨decide_eq_true ⟨by omega, h2⟩, rfl⟩]
          (repeat (first | (show W _ _ _ _ _ _ (.code (cond _ _ _) :: _) _ _; first | refine W.ct ?_ | refine W.cf ?_) | (show W _ _ _ _ _ _ (.ins (cond _ _ _ :: _) :: _) _ _; first | refine W.gt ?_ | refine W.gf ?_) | (show W _ _ _ _ _ _ [] _ _; refine W.of (.done ?_)) | (apply W.of; constructor <;> first | (show W _ _ _ _ _ _ _ _ _) | (intro (al : Nat) h st; show W _ _ _ _ _ _ _ _ _) | (intro _ h st; show W _ _ _ _ _ _ _ _ _) | exact Sd)))
          obtain ⟨_, ⟨lv, M, rfl, hok⟩, st⟩ := St.unpack st; dsimp only [List.cons_append, List.nil_append] at st
          unfold FiS.tick FiS.bad
          by_cases h3 : s.left > 0
          · rw [if_pos h3]
            (repeat (first | (show W _ _ _ _ _ _ (.code (cond _ _ _) :: _) _ _; first | refine W.ct ?_ | refine W.cf ?_) | (show W _ _ _ _ _ _ (.ins (cond _ _ _ :: _) :: _) _ _; first | refine W.gt ?_ | refine W.gf ?_) | (show W _ _ _ _ _ _ [] _ _; refine W.of (.done ?_)) | (apply W.of; constructor <;> first | (show W _ _ _ _ _ _ _ _ _) | (intro (al : Nat) h st; show W _ _ _ _ _ _ _ _ _) | (intro _ h st; show W _ _ _ _ _ _ _ _ _) | exact Sd)))
            by_cases h4 : s.left = 1
            · rw [decide_eq_true h4]
              (repeat (first | (show W _ _ _ _ _ _ (.code (cond _ _ _) :: _) _ _; first | refine W.ct ?_ | refine W.cf ?_) | (show W _ _ _ _ _ _ (.ins (cond _ _ _ :: _) :: _) _ _; first | refine W.gt ?_ | refine W.gf ?_) | (show W _ _ _ _ _ _ [] _ _; refine W.of (.done ?_)) | (apply W.of; constructor <;> first | (show W _ _ _ _ _ _ _ _ _) | (intro (al : Nat) h st; show W _ _ _ _ _ _ _ _ _) | (intro _ h st; show W _ _ _ _ _ _ _ _ _) | exact Sd)))
              have st := St.packP (t := 22) (k := .ptr D 0) (P := FiIs D { s with left := s.left - 1 }) st ⟨lv, M, rfl, hok⟩ Pks
              exact ⟨_, res_cell rfl (d_loadn (n := 2) (off := 0) (st.get' Tk) rfl) rfl, _, ⟨(0, 0), fun h => absurd h (by simp), rfl, rfl⟩, st.sel Sels⟩
            · rw [decide_eq_false h4]
              (repeat (first | (show W _ _ _ _ _ _ (.code (cond _ _ _) :: _) _ _; first | refine W.ct ?_ | refine W.cf ?_) | (show W _ _ _ _ _ _ (.ins (cond _ _ _ :: _) :: _) _ _; first | refine W.gt ?_ | refine W.gf ?_) | (show W _ _ _ _ _ _ [] _ _; refine W.of (.done ?_)) | (apply W.of; constructor <;> first | (show W _ _ _ _ _ _ _ _ _) | (intro (al : Nat) h st; show W _ _ _ _ _ _ _ _ _) | (intro _ h st; show W _ _ _ _ _ _ _ _ _) | exact Sd)))
              have st := St.packP (t := 22) (k := .ptr D 0) (P := FiIs D { s with left := s.left - 1 }) st ⟨lv, M, rfl, hok⟩ Pks
              exact ⟨_, res_cell rfl (d_loadn (n := 2) (off := 0) (st.get' Tk) rfl) rfl, _, ⟨(id, n), fun _ => rfl, rfl, rfl⟩, st.sel Sels⟩
          · rw [if_neg h3]
            (repeat (first | (show W _ _ _ _ _ _ (.code (cond _ _ _) :: _) _ _; first | refine W.ct ?_ | refine W.cf ?_) | (show W _ _ _ _ _ _ (.ins (cond _ _ _ :: _) :: _) _ _; first | refine W.gt ?_ | refine W.gf ?_) | (show W _ _ _ _ _ _ [] _ _; refine W.of (.done ?_)) | (apply W.of; constructor <;> first | (show W _ _ _ _ _ _ _ _ _) | (intro (al : Nat) h st; show W _ _ _ _ _ _ _ _ _) | (intro _ h st; show W _ _ _ _ _ _ _ _ _) | exact Sd)))
            have st := St.packP (t := 22) (k := .ptr D 0) (P := FiIs D s) st ⟨lv, M, rfl, hok⟩ Pks
            rw [decide_eq_false (show ¬ s.left = 1 by omega)]
            exact ⟨_, res_cell rfl (d_loadn (n := 2) (off := 0) (st.get' Tk) rfl) rfl, _, ⟨(id, n), fun _ => rfl, rfl, rfl⟩, st.sel Sels⟩
      · rw [if_neg (by simp; omega)]
        (repeat (first | (show W _ _ _ _ _ _ (.code (cond _ _ _) :: _) _ _; first | refine W.ct ?_ | refine W.cf ?_) | (show W _ _ _ _ _ _ (.ins (cond _ _ _ :: _) :: _) _ _; first | refine W.gt ?_ | refine W.gf ?_) | (show W _ _ _ _ _ _ [] _ _; refine W.of (.done ?_)) | (apply W.of; constructor <;> first | (show W _ _ _ _ _ _ _ _ _) | (intro (al : Nat) h st; show W _ _ _ _ _ _ _ _ _) | (intro _ h st; show W _ _ _ _ _ _ _ _ _) | exact Sd)))
        exact ⟨_, res_cell rfl (d_loadn (n := 2) (off := 0) (st.get' Tk) rfl) rfl, _, ⟨(0, 0), fun h => absurd h (by simp), rfl, rfl⟩, st.sel Sels⟩
theorem at_pg {id n : Int} {g : Bool} : (s.at' id n g).s.pg = s.pg ∧ (s.at' id n g).s.sizes = s.sizes ∧ ((s.at' id n g).e = 0 → s.ok id n = true ∧ g = true) := by
  unfold FiS.at' FiS.tick
  split
  · exact ⟨rfl, rfl, fun h => absurd h (by simp)⟩
  · split
    · rename_i h
      exact ⟨by split <;> rfl, by split <;> rfl, fun _ => h⟩
    · exact ⟨rfl, rfl, fun h => absurd h (by simp)⟩
/-- what Read tells -/
def FiS.rk (s : FiS) (id n : Int) : Nat × Nat := if (s.at' id n true).e = 0 then (4096, s.cell (id, n)) else (0, 0)
theorem file_Read {id n : Int} (hlo : s.left ≤ 9223372036854775807) : Spec R (.f n_file_Store_Read) [.ptr D 0, .int .i64 id, .int .i64 n] [FiC D s] fun r Rs =>
    ∃ x, r = .tuple [x, .int .i64 (s.at' id n true).e] ∧ x.notJunk = some x ∧ sliceLen x = some (s.rk id n).1 ∧ Rs = [ByC x (s.rk id n).1 (s.rk id n).2 true, FiC D (s.at' id n true).s] := by
  refine spec_w (fun _ _ _ x => progI_call rfl rfl x) Njs rfl (fun h F st => ?_); dsimp only [List.cons_append, List.nil_append] at st
  (repeat (first | (show W _ _ _ _ _ _ (.code (cond _ _ _) :: _) _ _; first | refine W.ct ?_ | refine W.cf ?_) | (show W _ _ _ _ _ _ (.ins (cond _ _ _ :: _) :: _) _ _; first | refine W.gt ?_ | refine W.gf ?_) | (show W _ _ _ _ _ _ [] _ _; refine W.of (.done ?_)) | (apply W.of; constructor <;> first | (show W _ _ _ _ _ _ _ _ _) | (intro (al : Nat) h st; show W _ _ _ _ _ _ _ _ _) | (intro _ h st; show W _ _ _ _ _ _ _ _ _) | exact Sd))); refine W.call (hs := (file_at hlo)) (w := ?_); rintro vv _ ⟨p, hp, rfl, rfl⟩ h st; refine nj ?_; dsimp only [List.cons_append, List.nil_append] at st
  obtain ⟨q1, q2, q3⟩ := at_pg (s := s) (id := id) (n := n) (g := true)
  unfold FiS.rk
  by_cases h0 : (s.at' id n true).e = 0
  · rw [if_pos h0]
    have e := hp h0
    subst e
    (repeat (first | (show W _ _ _ _ _ _ (.code (cond _ _ _) :: _) _ _; first | refine W.ct ?_ | refine W.cf ?_) | (show W _ _ _ _ _ _ (.ins (cond _ _ _ :: _) :: _) _ _; first | refine W.gt ?_ | refine W.gf ?_) | (show W _ _ _ _ _ _ [] _ _; refine W.of (.done ?_)) | (apply W.of; constructor <;> first | (show W _ _ _ _ _ _ _ _ _) | (intro (al : Nat) h st; show W _ _ _ _ _ _ _ _ _) | (intro _ h st; show W _ _ _ _ _ _ _ _ _) | exact Sd)))
    have st := st.take (c := FiC D (s.at' id n true).s) Tk
    obtain ⟨_, ⟨lv, M, rfl, hok⟩, st⟩ := St.unpack st; dsimp only [List.cons_append, List.nil_append] at st
    have hok1 : PlOk s.pg := q1 ▸ hok.1
    rw [q1] at st
    (repeat (first | (show W _ _ _ _ _ _ (.code (cond _ _ _) :: _) _ _; first | refine W.ct ?_ | refine W.cf ?_) | (show W _ _ _ _ _ _ (.ins (cond _ _ _ :: _) :: _) _ _; first | refine W.gt ?_ | refine W.gf ?_) | (show W _ _ _ _ _ _ [] _ _; refine W.of (.done ?_)) | (apply W.of; constructor <;> first | (show W _ _ _ _ _ _ _ _ _) | (intro (al : Nat) h st; show W _ _ _ _ _ _ _ _ _) | (intro _ h st; show W _ _ _ _ _ _ _ _ _) | exact Sd))); refine W.do (ho := (d_lookPl st Tk (id, n))) (w := ?_)
    (repeat (first | (show W _ _ _ _ _ _ (.code (cond _ _ _) :: _) _ _; first | refine W.ct ?_ | refine W.cf ?_) | (show W _ _ _ _ _ _ (.ins (cond _ _ _ :: _) :: _) _ _; first | refine W.gt ?_ | refine W.gf ?_) | (show W _ _ _ _ _ _ [] _ _; refine W.of (.done ?_)) | (apply W.of; constructor <;> first | (show W _ _ _ _ _ _ _ _ _) | (intro (al : Nat) h st; show W _ _ _ _ _ _ _ _ _) | (intro _ h st; show W _ _ _ _ _ _ _ _ _) | exact Sd))); refine W.of (.ag ((.ld rfl rfl st Tk rfl rfl (.ldn rfl rfl st Tk rfl rfl (.dz rfl rfl (d_lookPl st Tk (id, n)) rfl .nil)))) ?_)
    (repeat (first | (show W _ _ _ _ _ _ (.code (cond _ _ _) :: _) _ _; first | refine W.ct ?_ | refine W.cf ?_) | (show W _ _ _ _ _ _ (.ins (cond _ _ _ :: _) :: _) _ _; first | refine W.gt ?_ | refine W.gf ?_) | (show W _ _ _ _ _ _ [] _ _; refine W.of (.done ?_)) | (apply W.of; constructor <;> first | (show W _ _ _ _ _ _ _ _ _) | (intro (al : Nat) h st; show W _ _ _ _ _ _ _ _ _) | (intro _ h st; show W _ _ _ _ _ _ _ _ _) | exact Sd)))
    rw [bput_new (plOk_at hok1 (id, n))] at st
    have st := St.packP (t := 22) (k := .ptr D 0) (P := FiIs D (s.at' id n true).s) st ⟨lv, M, by rw [q1], hok⟩ Pks
    have st := St.byRow' (k := 4096) (n := (alook s.pg (id, n)).getD 0) st Tk (plOk_at hok1 (id, n))
    exact ⟨_, rfl, _, ⟨_, by rw [h0]; rfl, rfl, rfl, rfl⟩, st.sel Sels⟩
  · rw [if_neg h0]
    (repeat (first | (show W _ _ _ _ _ _ (.code (cond _ _ _) :: _) _ _; first | refine W.ct ?_ | refine W.cf ?_) | (show W _ _ _ _ _ _ (.ins (cond _ _ _ :: _) :: _) _ _; first | refine W.gt ?_ | refine W.gf ?_) | (show W _ _ _ _ _ _ [] _ _; refine W.of (.done ?_)) | (apply W.of; constructor <;> first | (show W _ _ _ _ _ _ _ _ _) | (intro (al : Nat) h st; show W _ _ _ _ _ _ _ _ _) | (intro _ h st; show W _ _ _ _ _ _ _ _ _) | exact Sd)))
    have st : St h (FiC D (s.at' id n true).s :: F) := st.sel Sels
    exact ⟨_, rfl, _, ⟨_, rfl, rfl, rfl, rfl⟩, st.byNil true⟩
end Go.Proofs.Ytjdemlagmamlbaa

namespace Go.Proofs.Ytjdemlagmamlbaa
variable {D : Nat} {s : FiS}
theorem d_eqPage {h : AHeap} {a : Nat} (ha : a < 2 ^ (8 * 4096)) : Does (.eqv false (.bytes 4096)) [.bytes 4096 a, .bytes 4096 0] h (.bool (decide (a = 0))) h := ⟨rfl, by
  simp only [aop, avEq, and_self, if_true, Option.map_some, Bool.false_eq_true, if_false, Nat.mod_eq_of_lt ha, Nat.zero_mod]
  congr 3⟩
/-- a page is written -/
def FiS.put (s : FiS) (p : Pl) (n : Nat) : FiS := { s with pg := if n = 0 then adel s.pg p else aput s.pg p n }
def FiS.write (s : FiS) (id n : Int) (k N : Nat) : AtV :=
  let a := s.at' id n ((k : Int) == 4096)
  ⟨if a.e = 0 then a.s.put (id, n) N else a.s, a.e⟩
theorem plOk_put {l : List (Pl × Nat)} {p : Pl} {n : Nat} (h : PlOk l) (hn : n < 2 ^ (8 * 4096)) : PlOk (aput l p n) := by
  intro q hq
  induction l with
  | nil => simp [aput] at hq; subst hq; exact hn
  | cons a l ih =>
    obtain ⟨k, v⟩ := a
    simp only [aput] at hq
    split at hq
    · rcases List.mem_cons.1 hq with rfl | hq
      · exact hn
      · exact h q (List.mem_cons_of_mem _ hq)
    · rcases List.mem_cons.1 hq with rfl | hq
      · exact h _ List.mem_cons_self
      · exact ih (fun q hq => h q (List.mem_cons_of_mem _ hq)) hq
theorem adel_sub {l : List (Pl × Nat)} {p : Pl} : ∀ q, q ∈ adel l p → q ∈ l := by
  induction l with
  | nil => exact fun q h => h
  | cons a l ih =>
    obtain ⟨k, v⟩ := a
    intro q hq
    simp only [adel] at hq
    split at hq
    · exact List.mem_cons_of_mem _ hq
    · rcases List.mem_cons.1 hq with rfl | hq
      · exact List.mem_cons_self
      · exact List.mem_cons_of_mem _ (ih q hq)
theorem file_Write {id n : Int} {v : AV} {k N : Nat} {w : Bool} (hlo : s.left ≤ 9223372036854775807) : Spec R (.f n_file_Store_Write) [.ptr D 0, .int .i64 id, .int .i64 n, v] [FiC D s, ByC v k N w] fun r Rs =>
    r = .int .i64 (s.write id n k N).e ∧ Rs = [FiC D (s.write id n k N).s, ByC v k N w] := by
  refine spec_in fun h F st => ?_
  obtain ⟨vl, vj⟩ := st.by2 Tk
  have hN : k = 4096 → N < 2 ^ (8 * 4096) := fun e => e ▸ (st.by Tk).2.2
  clear st h F; refine spec_w (fun _ _ _ x => progI_call rfl rfl x) Njs rfl (fun h F st => ?_); dsimp only [List.cons_append, List.nil_append] at st
  (repeat (first | (show W _ _ _ _ _ _ (.code (cond _ _ _) :: _) _ _; first | refine W.ct ?_ | refine W.cf ?_) | (show W _ _ _ _ _ _ (.ins (cond _ _ _ :: _) :: _) _ _; first | refine W.gt ?_ | refine W.gf ?_) | (show W _ _ _ _ _ _ [] _ _; refine W.of (.done ?_)) | (apply W.of; constructor <;> first | (show W _ _ _ _ _ _ _ _ _) | (intro (al : Nat) h st; show W _ _ _ _ _ _ _ _ _) | (intro _ h st; show W _ _ _ _ _ _ _ _ _) | exact Sd))); refine W.call (hs := (file_at hlo)) (w := ?_); rintro vv _ ⟨p, hp, rfl, rfl⟩ h st; refine nj ?_; dsimp only [List.cons_append, List.nil_append] at st
  obtain ⟨q1, q2, q3⟩ := at_pg (s := s) (id := id) (n := n) (g := (k : Int) == 4096)
  unfold FiS.write
  dsimp only
  by_cases h0 : (s.at' id n ((k : Int) == 4096)).e = 0
  · rw [if_pos h0]
    have e := hp h0
    subst e
    have hk : k = 4096 := by have := eq_of_beq (q3 h0).2; omega
    subst hk
    (repeat (first | (show W _ _ _ _ _ _ (.code (cond _ _ _) :: _) _ _; first | refine W.ct ?_ | refine W.cf ?_) | (show W _ _ _ _ _ _ (.ins (cond _ _ _ :: _) :: _) _ _; first | refine W.gt ?_ | refine W.gf ?_) | (show W _ _ _ _ _ _ [] _ _; refine W.of (.done ?_)) | (apply W.of; constructor <;> first | (show W _ _ _ _ _ _ _ _ _) | (intro (al : Nat) h st; show W _ _ _ _ _ _ _ _ _) | (intro _ h st; show W _ _ _ _ _ _ _ _ _) | exact Sd)))
    obtain ⟨q, hq1, hq2, hq3⟩ := d_page (v := v) (m := 4096) st Tk (Nat.le_refl _) (by decide)
    (repeat (first | (show W _ _ _ _ _ _ (.code (cond _ _ _) :: _) _ _; first | refine W.ct ?_ | refine W.cf ?_) | (show W _ _ _ _ _ _ (.ins (cond _ _ _ :: _) :: _) _ _; first | refine W.gt ?_ | refine W.gf ?_) | (show W _ _ _ _ _ _ [] _ _; refine W.of (.done ?_)) | (apply W.of; constructor <;> first | (show W _ _ _ _ _ _ _ _ _) | (intro (al : Nat) h st; show W _ _ _ _ _ _ _ _ _) | (intro _ h st; show W _ _ _ _ _ _ _ _ _) | exact Sd))); refine W.do (ho := hq1) (w := ?_)
    (repeat (first | (show W _ _ _ _ _ _ (.code (cond _ _ _) :: _) _ _; first | refine W.ct ?_ | refine W.cf ?_) | (show W _ _ _ _ _ _ (.ins (cond _ _ _ :: _) :: _) _ _; first | refine W.gt ?_ | refine W.gf ?_) | (show W _ _ _ _ _ _ [] _ _; refine W.of (.done ?_)) | (apply W.of; constructor <;> first | (show W _ _ _ _ _ _ _ _ _) | (intro (al : Nat) h st; show W _ _ _ _ _ _ _ _ _) | (intro _ h st; show W _ _ _ _ _ _ _ _ _) | exact Sd))); refine W.do (ho := hq3) (w := ?_)
    have hn := hN rfl
    rw [bsub_whole hn]
    (repeat (first | (show W _ _ _ _ _ _ (.code (cond _ _ _) :: _) _ _; first | refine W.ct ?_ | refine W.cf ?_) | (show W _ _ _ _ _ _ (.ins (cond _ _ _ :: _) :: _) _ _; first | refine W.gt ?_ | refine W.gf ?_) | (show W _ _ _ _ _ _ [] _ _; refine W.of (.done ?_)) | (apply W.of; constructor <;> first | (show W _ _ _ _ _ _ _ _ _) | (intro (al : Nat) h st; show W _ _ _ _ _ _ _ _ _) | (intro _ h st; show W _ _ _ _ _ _ _ _ _) | exact Sd)))
    rw [bput_new hn] at st
    rw [bput_new hn, bsub_whole hn]
    (repeat (first | (show W _ _ _ _ _ _ (.code (cond _ _ _) :: _) _ _; first | refine W.ct ?_ | refine W.cf ?_) | (show W _ _ _ _ _ _ (.ins (cond _ _ _ :: _) :: _) _ _; first | refine W.gt ?_ | refine W.gf ?_) | (show W _ _ _ _ _ _ [] _ _; refine W.of (.done ?_)) | (apply W.of; constructor <;> first | (show W _ _ _ _ _ _ _ _ _) | (intro (al : Nat) h st; show W _ _ _ _ _ _ _ _ _) | (intro _ h st; show W _ _ _ _ _ _ _ _ _) | exact Sd))); refine W.do (ho := (d_eqPage hn)) (w := ?_)
    have st := st.take (c := FiC D (s.at' id n (((4096 : Nat) : Int) == 4096)).s) Tk
    obtain ⟨_, ⟨lv, M, rfl, hok⟩, st⟩ := St.unpack st; dsimp only [List.cons_append, List.nil_append] at st
    by_cases hz : N = 0
    · subst hz
      (repeat (first | (show W _ _ _ _ _ _ (.code (cond _ _ _) :: _) _ _; first | refine W.ct ?_ | refine W.cf ?_) | (show W _ _ _ _ _ _ (.ins (cond _ _ _ :: _) :: _) _ _; first | refine W.gt ?_ | refine W.gf ?_) | (show W _ _ _ _ _ _ [] _ _; refine W.of (.done ?_)) | (apply W.of; constructor <;> first | (show W _ _ _ _ _ _ _ _ _) | (intro (al : Nat) h st; show W _ _ _ _ _ _ _ _ _) | (intro _ h st; show W _ _ _ _ _ _ _ _ _) | exact Sd)))
      (repeat (first | (show W _ _ _ _ _ _ (.code (cond _ _ _) :: _) _ _; first | refine W.ct ?_ | refine W.cf ?_) | (show W _ _ _ _ _ _ (.ins (cond _ _ _ :: _) :: _) _ _; first | refine W.gt ?_ | refine W.gf ?_) | (show W _ _ _ _ _ _ [] _ _; refine W.of (.done ?_)) | (apply W.of; constructor <;> first | (show W _ _ _ _ _ _ _ _ _) | (intro (al : Nat) h st; show W _ _ _ _ _ _ _ _ _) | (intro _ h st; show W _ _ _ _ _ _ _ _ _) | exact Sd))); refine W.ef0 (ho := (e_delete st Tk keyPl (id, n))) (w := ?_); rintro _ h ⟨_, st⟩
      (repeat (first | (show W _ _ _ _ _ _ (.code (cond _ _ _) :: _) _ _; first | refine W.ct ?_ | refine W.cf ?_) | (show W _ _ _ _ _ _ (.ins (cond _ _ _ :: _) :: _) _ _; first | refine W.gt ?_ | refine W.gf ?_) | (show W _ _ _ _ _ _ [] _ _; refine W.of (.done ?_)) | (apply W.of; constructor <;> first | (show W _ _ _ _ _ _ _ _ _) | (intro (al : Nat) h st; show W _ _ _ _ _ _ _ _ _) | (intro _ h st; show W _ _ _ _ _ _ _ _ _) | exact Sd)))
      have st := St.packP (t := 22) (k := .ptr D 0) (P := FiIs D ((s.at' id n (((4096 : Nat) : Int) == 4096)).s.put (id, n) 0)) st ⟨lv, M, rfl, fun q hq => hok.1 q (adel_sub q hq), hok.2⟩ Pks
      exact ⟨_, rfl, _, ⟨by rw [h0]; rfl, rfl⟩, st.sel Sels⟩
    · (repeat (first | (show W _ _ _ _ _ _ (.code (cond _ _ _) :: _) _ _; first | refine W.ct ?_ | refine W.cf ?_) | (show W _ _ _ _ _ _ (.ins (cond _ _ _ :: _) :: _) _ _; first | refine W.gt ?_ | refine W.gf ?_) | (show W _ _ _ _ _ _ [] _ _; refine W.of (.done ?_)) | (apply W.of; constructor <;> first | (show W _ _ _ _ _ _ _ _ _) | (intro (al : Nat) h st; show W _ _ _ _ _ _ _ _ _) | (intro _ h st; show W _ _ _ _ _ _ _ _ _) | exact Sd)))
      rw [bsub_whole hn]
      (repeat (first | (show W _ _ _ _ _ _ (.code (cond _ _ _) :: _) _ _; first | refine W.ct ?_ | refine W.cf ?_) | (show W _ _ _ _ _ _ (.ins (cond _ _ _ :: _) :: _) _ _; first | refine W.gt ?_ | refine W.gf ?_) | (show W _ _ _ _ _ _ [] _ _; refine W.of (.done ?_)) | (apply W.of; constructor <;> first | (show W _ _ _ _ _ _ _ _ _) | (intro (al : Nat) h st; show W _ _ _ _ _ _ _ _ _) | (intro _ h st; show W _ _ _ _ _ _ _ _ _) | exact Sd))); refine W.ef0 (ho := (e_mapput st Tk keyPl (id, n) N)) (w := ?_); rintro _ h ⟨_, st⟩
      (repeat (first | (show W _ _ _ _ _ _ (.code (cond _ _ _) :: _) _ _; first | refine W.ct ?_ | refine W.cf ?_) | (show W _ _ _ _ _ _ (.ins (cond _ _ _ :: _) :: _) _ _; first | refine W.gt ?_ | refine W.gf ?_) | (show W _ _ _ _ _ _ [] _ _; refine W.of (.done ?_)) | (apply W.of; constructor <;> first | (show W _ _ _ _ _ _ _ _ _) | (intro (al : Nat) h st; show W _ _ _ _ _ _ _ _ _) | (intro _ h st; show W _ _ _ _ _ _ _ _ _) | exact Sd)))
      have e2 : (s.at' id n (((4096 : Nat) : Int) == 4096)).s.put (id, n) N = { (s.at' id n (((4096 : Nat) : Int) == 4096)).s with pg := aput (s.at' id n (((4096 : Nat) : Int) == 4096)).s.pg (id, n) N } := by unfold FiS.put; rw [if_neg hz]
      have st := St.packP (t := 22) (k := .ptr D 0) (P := FiIs D ((s.at' id n (((4096 : Nat) : Int) == 4096)).s.put (id, n) N)) st ⟨lv, M, by rw [e2], by rw [e2]; exact plOk_put hok.1 hn, by rw [e2]; exact hok.2⟩ Pks
      exact ⟨_, rfl, _, ⟨by rw [h0]; rfl, rfl⟩, st.sel Sels⟩
  · rw [if_neg h0]
    (repeat (first | (show W _ _ _ _ _ _ (.code (cond _ _ _) :: _) _ _; first | refine W.ct ?_ | refine W.cf ?_) | (show W _ _ _ _ _ _ (.ins (cond _ _ _ :: _) :: _) _ _; first | refine W.gt ?_ | refine W.gf ?_) | (show W _ _ _ _ _ _ [] _ _; refine W.of (.done ?_)) | (apply W.of; constructor <;> first | (show W _ _ _ _ _ _ _ _ _) | (intro (al : Nat) h st; show W _ _ _ _ _ _ _ _ _) | (intro _ h st; show W _ _ _ _ _ _ _ _ _) | exact Sd)))
    exact ⟨_, rfl, _, ⟨rfl, rfl⟩, st.sel Sels⟩
end Go.Proofs.Ytjdemlagmamlbaa

namespace Go.Proofs.Ytjdemlagmamlbaa
variable {D : Nat} {s : FiS}
abbrev ibox (n : Int) : AObj := .row 3 1 false false (.vals [.int .i64 n])
abbrev n_DelFunc : Nat := n_maps_DeleteFunc_map_file_place_4096_byte_file_place_4096_byte
/-- is it cut off? -/
def cutQ (id z : Int) (p : Pl) : Bool := decide (p.1 = id ∧ z ≤ p.2)
theorem file_cb {p : Pl} {N B1 B2 : Nat} {id z : Int} : Spec R (.f n_file_Store_Resize_1) [pkey p, pageV N, .ptr B1 0, .ptr B2 0] [.pt B1 (ibox id), .pt B2 (ibox z)] fun v Rs => v = .bool (cutQ id z p) ∧ Rs = [.pt B1 (ibox id), .pt B2 (ibox z)] := by
  refine spec_w (fun _ _ _ x => progI_call rfl rfl x) Njs rfl (fun h F st => ?_); dsimp only [List.cons_append, List.nil_append] at st
  unfold cutQ
  by_cases h1 : p.1 = id
  · have e1 : (p.1 == id) = true := by simp [h1]
    (repeat (first | (show W _ _ _ _ _ _ (.code (cond _ _ _) :: _) _ _; first | refine W.ct ?_ | refine W.cf ?_) | (show W _ _ _ _ _ _ (.ins (cond _ _ _ :: _) :: _) _ _; first | refine W.gt ?_ | refine W.gf ?_) | (show W _ _ _ _ _ _ [] _ _; refine W.of (.done ?_)) | (apply W.of; constructor <;> first | (show W _ _ _ _ _ _ _ _ _) | (intro (al : Nat) h st; show W _ _ _ _ _ _ _ _ _) | (intro _ h st; show W _ _ _ _ _ _ _ _ _) | exact Sd)))
    exact ⟨_, rfl, _, ⟨by simp [retA, h1], rfl⟩, st.sel Sels⟩
  · (repeat (first | (show W _ _ _ _ _ _ (.code (cond _ _ _) :: _) _ _; first | refine W.ct ?_ | refine W.cf ?_) | (show W _ _ _ _ _ _ (.ins (cond _ _ _ :: _) :: _) _ _; first | refine W.gt ?_ | refine W.gf ?_) | (show W _ _ _ _ _ _ [] _ _; refine W.of (.done ?_)) | (apply W.of; constructor <;> first | (show W _ _ _ _ _ _ _ _ _) | (intro (al : Nat) h st; show W _ _ _ _ _ _ _ _ _) | (intro _ h st; show W _ _ _ _ _ _ _ _ _) | exact Sd)))
    exact ⟨_, rfl, _, ⟨by simp [retA, h1], rfl⟩, st.sel Sels⟩
structure DelS where
  l : List (Pl × Nat)
  dn : List Pl
  cur : Option (Pl × Nat)
theorem filter_step {l : List (Pl × Nat)} (hn : (keys l).Nodup) {dn : List Pl} {c : Pl → Bool} {a : Pl} (hc : c a = true) :
    adel (l.filter fun q => !(decide (q.1 ∈ dn) && c q.1)) a = l.filter fun q => !(decide (q.1 ∈ a :: dn) && c q.1) := by
  have hn' : (keys (l.filter fun q => !(decide (q.1 ∈ dn) && c q.1))).Nodup := by
    unfold keys at *
    exact hn.sublist (List.filter_sublist.map _)
  rw [adel_filter hn', List.filter_filter]
  congr 1
  funext q
  by_cases e : q.1 = a
  · simp [e, hc]
  · simp [e]
theorem filter_keep {l : List (Pl × Nat)} {dn : List Pl} {c : Pl → Bool} {a : Pl} (hc : c a = false) :
    (l.filter fun q => !(decide (q.1 ∈ dn) && c q.1)) = l.filter fun q => !(decide (q.1 ∈ a :: dn) && c q.1) := by
  congr 1
  funext q
  by_cases e : q.1 = a
  · simp [e, hc]
  · simp [e]
theorem count_less {l : List (Pl × Nat)} {dn : List Pl} {a : Pl} {b : Nat} (h : alook l a = some b) (hd : a ∉ dn) (l2 : List (Pl × Nat)) (hs : l2.Sublist l) :
    (l2.filter fun q => decide (q.1 ∉ a :: dn)).length < (l.filter fun q => decide (q.1 ∉ dn)).length := by
  have h3 : (l2.filter fun q => decide (q.1 ∉ a :: dn)).length ≤ (l.filter fun q => decide (q.1 ∉ a :: dn)).length := (hs.filter _).length_le
  refine Nat.lt_of_le_of_lt h3 ?_
  clear h3 hs
  induction l with
  | nil => simp [alook] at h
  | cons x l ih =>
    obtain ⟨k, v⟩ := x
    simp only [alook] at h
    have mono : ∀ l : List (Pl × Nat), (l.filter fun q => decide (q.1 ∉ a :: dn)).length ≤ (l.filter fun q => decide (q.1 ∉ dn)).length := fun l => by
      induction l with
      | nil => simp
      | cons y l ih => simp only [List.filter_cons, List.mem_cons, not_or]; split <;> split <;> simp_all <;> omega
    by_cases e : k = a
    · subst e
      rw [List.filter_cons_of_neg (by simp), List.filter_cons_of_pos (by simpa using hd)]
      have := mono l
      simp only [List.length_cons]; omega
    · rw [if_neg e] at h
      have := ih h
      simp only [List.filter_cons, List.mem_cons, not_or]
      split <;> split <;> simp_all <;> omega
theorem del_func {M B1 B2 : Nat} {id z : Int} {l : List (Pl × Nat)} (hn : (keys l).Nodup) (hlen : l.length < 100000) : Spec R (.f n_DelFunc) [.map M, .func n_file_Store_Resize_1 [] [.ptr B1 0, .ptr B2 0]] [MpC M pkey pageV l, .pt B1 (ibox id), .pt B2 (ibox z)]
    fun v Rs => v = .tuple [] ∧ Rs = [MpC M pkey pageV (l.filter fun q => !cutQ id z q.1), .pt B1 (ibox id), .pt B2 (ibox z)] := by
  refine spec_w (fun _ _ _ x => progI_call rfl rfl x) Njs rfl (fun h F st => ?_); dsimp only [List.cons_append, List.nil_append] at st
  (repeat (first | (show W _ _ _ _ _ _ (.code (cond _ _ _) :: _) _ _; first | refine W.ct ?_ | refine W.cf ?_) | (show W _ _ _ _ _ _ (.ins (cond _ _ _ :: _) :: _) _ _; first | refine W.gt ?_ | refine W.gf ?_) | (show W _ _ _ _ _ _ [] _ _; refine W.of (.done ?_)) | (apply W.of; constructor <;> first | (show W _ _ _ _ _ _ _ _ _) | (intro (al : Nat) h st; show W _ _ _ _ _ _ _ _ _) | (intro _ h st; show W _ _ _ _ _ _ _ _ _) | exact Sd))); refine W.ef (ho := (e_range st Tk)) (w := ?_); rintro vv h ⟨I, rfl, st⟩; refine nj ?_
  (repeat (first | (show W _ _ _ _ _ _ (.code (cond _ _ _) :: _) _ _; first | refine W.ct ?_ | refine W.cf ?_) | (show W _ _ _ _ _ _ (.ins (cond _ _ _ :: _) :: _) _ _; first | refine W.gt ?_ | refine W.gf ?_) | (show W _ _ _ _ _ _ [] _ _; refine W.of (.done ?_)) | (apply W.of; constructor <;> first | (show W _ _ _ _ _ _ _ _ _) | (intro (al : Nat) h st; show W _ _ _ _ _ _ _ _ _) | (intro _ h st; show W _ _ _ _ _ _ _ _ _) | exact Sd)))
  refine W.loop (fun _ : DelS => [(0, .map M), (1, .func n_file_Store_Resize_1 [] [.ptr B1 0, .ptr B2 0]), (7, .ptr I 0)]) (fun y => ItC I M pkey pageV y.l y.dn y.cur :: .pt B1 (ibox id) :: .pt B2 (ibox z) :: F)
    (fun y => y.l = l.filter fun q => !(decide (q.1 ∈ y.dn) && cutQ id z q.1)) (fun y => (y.l.filter fun q => decide (q.1 ∉ y.dn)).length) ⟨l, [], none⟩ ?_ Sbs st (List.filter_eq_self.2 (fun _ _ => by simp)).symm ?_
  · refine small_rounds (Nat.lt_of_le_of_lt (List.length_filter_le _ _) ?_)
    simp only; omega
  clear st
  intro ⟨l', dn, cur⟩ h hl st
  dsimp only at hl st ⊢
  (repeat (first | (show W _ _ _ _ _ _ (.code (cond _ _ _) :: _) _ _; first | refine W.ct ?_ | refine W.cf ?_) | (show W _ _ _ _ _ _ (.ins (cond _ _ _ :: _) :: _) _ _; first | refine W.gt ?_ | refine W.gf ?_) | (show W _ _ _ _ _ _ [] _ _; refine W.of (.done ?_)) | (apply W.of; constructor <;> first | (show W _ _ _ _ _ _ _ _ _) | (intro (al : Nat) h st; show W _ _ _ _ _ _ _ _ _) | (intro _ h st; show W _ _ _ _ _ _ _ _ _) | exact Sd)))
  refine W.ef (ho := e_next st Tk) (w := ?_)
  rintro vv h (⟨a, b, g1, g2, rfl, st⟩ | ⟨g, rfl, st⟩)
  · refine nj ?_
    (repeat (first | (show W _ _ _ _ _ _ (.code (cond _ _ _) :: _) _ _; first | refine W.ct ?_ | refine W.cf ?_) | (show W _ _ _ _ _ _ (.ins (cond _ _ _ :: _) :: _) _ _; first | refine W.gt ?_ | refine W.gf ?_) | (show W _ _ _ _ _ _ [] _ _; refine W.of (.done ?_)) | (apply W.of; constructor <;> first | (show W _ _ _ _ _ _ _ _ _) | (intro (al : Nat) h st; show W _ _ _ _ _ _ _ _ _) | (intro _ h st; show W _ _ _ _ _ _ _ _ _) | exact Sd)))
    (repeat (first | (show W _ _ _ _ _ _ (.code (cond _ _ _) :: _) _ _; first | refine W.ct ?_ | refine W.cf ?_) | (show W _ _ _ _ _ _ (.ins (cond _ _ _ :: _) :: _) _ _; first | refine W.gt ?_ | refine W.gf ?_) | (show W _ _ _ _ _ _ [] _ _; refine W.of (.done ?_)) | (apply W.of; constructor <;> first | (show W _ _ _ _ _ _ _ _ _) | (intro (al : Nat) h st; show W _ _ _ _ _ _ _ _ _) | (intro _ h st; show W _ _ _ _ _ _ _ _ _) | exact Sd))); refine W.do (ho := (d_entry st Tk)) (w := ?_)
    (repeat (first | (show W _ _ _ _ _ _ (.code (cond _ _ _) :: _) _ _; first | refine W.ct ?_ | refine W.cf ?_) | (show W _ _ _ _ _ _ (.ins (cond _ _ _ :: _) :: _) _ _; first | refine W.gt ?_ | refine W.gf ?_) | (show W _ _ _ _ _ _ [] _ _; refine W.of (.done ?_)) | (apply W.of; constructor <;> first | (show W _ _ _ _ _ _ _ _ _) | (intro (al : Nat) h st; show W _ _ _ _ _ _ _ _ _) | (intro _ h st; show W _ _ _ _ _ _ _ _ _) | exact Sd))); refine W.call (hs := (file_cb (p := a))) (w := ?_); rintro vv _ ⟨rfl, rfl⟩ h st; refine nj ?_; dsimp only [List.cons_append, List.nil_append] at st
    cases hc : cutQ id z a with
    | true =>
      (repeat (first | (show W _ _ _ _ _ _ (.code (cond _ _ _) :: _) _ _; first | refine W.ct ?_ | refine W.cf ?_) | (show W _ _ _ _ _ _ (.ins (cond _ _ _ :: _) :: _) _ _; first | refine W.gt ?_ | refine W.gf ?_) | (show W _ _ _ _ _ _ [] _ _; refine W.of (.done ?_)) | (apply W.of; constructor <;> first | (show W _ _ _ _ _ _ _ _ _) | (intro (al : Nat) h st; show W _ _ _ _ _ _ _ _ _) | (intro _ h st; show W _ _ _ _ _ _ _ _ _) | exact Sd)))
      (repeat (first | (show W _ _ _ _ _ _ (.code (cond _ _ _) :: _) _ _; first | refine W.ct ?_ | refine W.cf ?_) | (show W _ _ _ _ _ _ (.ins (cond _ _ _ :: _) :: _) _ _; first | refine W.gt ?_ | refine W.gf ?_) | (show W _ _ _ _ _ _ [] _ _; refine W.of (.done ?_)) | (apply W.of; constructor <;> first | (show W _ _ _ _ _ _ _ _ _) | (intro (al : Nat) h st; show W _ _ _ _ _ _ _ _ _) | (intro _ h st; show W _ _ _ _ _ _ _ _ _) | exact Sd))); refine W.ef0 (ho := (e_itDelete st Tk keyPl a)) (w := ?_); rintro _ h ⟨_, st⟩
      (repeat (first | (show W _ _ _ _ _ _ (.code (cond _ _ _) :: _) _ _; first | refine W.ct ?_ | refine W.cf ?_) | (show W _ _ _ _ _ _ (.ins (cond _ _ _ :: _) :: _) _ _; first | refine W.gt ?_ | refine W.gf ?_) | (show W _ _ _ _ _ _ [] _ _; refine W.of (.done ?_)) | (apply W.of; constructor <;> first | (show W _ _ _ _ _ _ _ _ _) | (intro (al : Nat) h st; show W _ _ _ _ _ _ _ _ _) | (intro _ h st; show W _ _ _ _ _ _ _ _ _) | exact Sd)))
      refine W.of (.lp ?_)
      have hsub : (adel l' a).Sublist l' := by
        have hn' : (keys l').Nodup := by rw [hl]; unfold keys at *; exact hn.sublist (List.filter_sublist.map _)
        rw [adel_filter hn']; exact List.filter_sublist
      exact ⟨⟨adel l' a, a :: dn, none⟩, count_less g1 g2 _ hsub, by show adel l' a = _; rw [hl]; exact filter_step hn hc, Sbs, st.sel Sels⟩
    | false =>
      (repeat (first | (show W _ _ _ _ _ _ (.code (cond _ _ _) :: _) _ _; first | refine W.ct ?_ | refine W.cf ?_) | (show W _ _ _ _ _ _ (.ins (cond _ _ _ :: _) :: _) _ _; first | refine W.gt ?_ | refine W.gf ?_) | (show W _ _ _ _ _ _ [] _ _; refine W.of (.done ?_)) | (apply W.of; constructor <;> first | (show W _ _ _ _ _ _ _ _ _) | (intro (al : Nat) h st; show W _ _ _ _ _ _ _ _ _) | (intro _ h st; show W _ _ _ _ _ _ _ _ _) | exact Sd)))
      refine W.of (.lp ?_)
      exact ⟨⟨l', a :: dn, some (a, b)⟩, count_less g1 g2 _ (List.Sublist.refl _), by show l' = _; rw [hl]; exact filter_keep hc, Sbs, st.sel Sels⟩
  · refine nj ?_
    (repeat (first | (show W _ _ _ _ _ _ (.code (cond _ _ _) :: _) _ _; first | refine W.ct ?_ | refine W.cf ?_) | (show W _ _ _ _ _ _ (.ins (cond _ _ _ :: _) :: _) _ _; first | refine W.gt ?_ | refine W.gf ?_) | (show W _ _ _ _ _ _ [] _ _; refine W.of (.done ?_)) | (apply W.of; constructor <;> first | (show W _ _ _ _ _ _ _ _ _) | (intro (al : Nat) h st; show W _ _ _ _ _ _ _ _ _) | (intro _ h st; show W _ _ _ _ _ _ _ _ _) | exact Sd)))
    have st := st.itEnd Tk
    have e : l' = l.filter fun q => !cutQ id z q.1 := by
      rw [hl]
      refine List.filter_congr fun q hq => ?_
      cases hc : cutQ id z q.1 with
      | false => simp
      | true =>
        have : q.1 ∈ dn := by
          by_cases hd : q.1 ∈ dn
          · exact hd
          · exact g q.1 (List.mem_map.2 ⟨q, by rw [hl]; exact List.mem_filter.2 ⟨hq, by simp [hd]⟩, rfl⟩)
        simp [this]
    rw [e] at st
    exact ⟨_, rfl, _, ⟨rfl, rfl⟩, st⟩
theorem St.mpNodup {α β : Type} {h : AHeap} {L R : List Chunk} {ke : α → AV} {ve : β → AV} {M : Nat} {l : List (α × β)} (st : St h L) (t : Take L (MpC M ke ve l) R) : (keys l).Nodup := by
  obtain ⟨cs, ⟨es, clock, rfl, h1, h2, h3⟩, _⟩ := (st.take t).unpack
  exact h2
/-- what Resize does -/
def FiS.resize (s : FiS) (id z : Int) : AtV :=
  if (s.size id).isNone = true then ⟨s, 7⟩ else if z < 0 ∨ z > 4096 then ⟨s, 2⟩ else ⟨{ s with sizes := s.sizes.set (id - 1).toNat z, pg := s.pg.filter fun q => !cutQ id z q.1 }, 0⟩
theorem file_Resize {id z : Int} (hlen : s.pg.length < 100000) : Spec R (.f n_file_Store_Resize) [.ptr D 0, .int .i64 id, .int .i64 z] [FiC D s] fun r Rs => r = .int .i64 (s.resize id z).e ∧ Rs = [FiC D (s.resize id z).s] := by
  refine spec_w (fun _ _ _ x => progI_call rfl rfl x) Njs rfl (fun h F st => ?_); dsimp only [List.cons_append, List.nil_append] at st
  unfold FiS.resize
  cases hs : s.size id with
  | none =>
    (repeat (first | (show W _ _ _ _ _ _ (.code (cond _ _ _) :: _) _ _; first | refine W.ct ?_ | refine W.cf ?_) | (show W _ _ _ _ _ _ (.ins (cond _ _ _ :: _) :: _) _ _; first | refine W.gt ?_ | refine W.gf ?_) | (show W _ _ _ _ _ _ [] _ _; refine W.of (.done ?_)) | (apply W.of; constructor <;> first | (show W _ _ _ _ _ _ _ _ _) | (intro (al : Nat) h st; show W _ _ _ _ _ _ _ _ _) | (intro _ h st; show W _ _ _ _ _ _ _ _ _) | exact Sd))); refine W.call (hs := (file_known_n hs)) (w := ?_); rintro vv _ ⟨rfl, rfl⟩ h st; refine nj ?_; dsimp only [List.cons_append, List.nil_append] at st
    (repeat (first | (show W _ _ _ _ _ _ (.code (cond _ _ _) :: _) _ _; first | refine W.ct ?_ | refine W.cf ?_) | (show W _ _ _ _ _ _ (.ins (cond _ _ _ :: _) :: _) _ _; first | refine W.gt ?_ | refine W.gf ?_) | (show W _ _ _ _ _ _ [] _ _; refine W.of (.done ?_)) | (apply W.of; constructor <;> first | (show W _ _ _ _ _ _ _ _ _) | (intro (al : Nat) h st; show W _ _ _ _ _ _ _ _ _) | (intro _ h st; show W _ _ _ _ _ _ _ _ _) | exact Sd)))
    exact ⟨_, rfl, _, ⟨rfl, rfl⟩, st.sel Sels⟩
  | some y =>
    rw [if_neg (by simp)]
    (repeat (first | (show W _ _ _ _ _ _ (.code (cond _ _ _) :: _) _ _; first | refine W.ct ?_ | refine W.cf ?_) | (show W _ _ _ _ _ _ (.ins (cond _ _ _ :: _) :: _) _ _; first | refine W.gt ?_ | refine W.gf ?_) | (show W _ _ _ _ _ _ [] _ _; refine W.of (.done ?_)) | (apply W.of; constructor <;> first | (show W _ _ _ _ _ _ _ _ _) | (intro (al : Nat) h st; show W _ _ _ _ _ _ _ _ _) | (intro _ h st; show W _ _ _ _ _ _ _ _ _) | exact Sd))); refine W.call (hs := (file_known_s hs)) (w := ?_); rintro vv _ ⟨rfl, rfl⟩ h st; refine nj ?_; dsimp only [List.cons_append, List.nil_append] at st
    by_cases h1 : z < 0
    · rw [if_pos (.inl h1)]
      (repeat (first | (show W _ _ _ _ _ _ (.code (cond _ _ _) :: _) _ _; first | refine W.ct ?_ | refine W.cf ?_) | (show W _ _ _ _ _ _ (.ins (cond _ _ _ :: _) :: _) _ _; first | refine W.gt ?_ | refine W.gf ?_) | (show W _ _ _ _ _ _ [] _ _; refine W.of (.done ?_)) | (apply W.of; constructor <;> first | (show W _ _ _ _ _ _ _ _ _) | (intro (al : Nat) h st; show W _ _ _ _ _ _ _ _ _) | (intro _ h st; show W _ _ _ _ _ _ _ _ _) | exact Sd)))
      exact ⟨_, rfl, _, ⟨rfl, rfl⟩, st.sel Sels⟩
    · by_cases h2 : z > 4096
      · rw [if_pos (.inr h2)]
        (repeat (first | (show W _ _ _ _ _ _ (.code (cond _ _ _) :: _) _ _; first | refine W.ct ?_ | refine W.cf ?_) | (show W _ _ _ _ _ _ (.ins (cond _ _ _ :: _) :: _) _ _; first | refine W.gt ?_ | refine W.gf ?_) | (show W _ _ _ _ _ _ [] _ _; refine W.of (.done ?_)) | (apply W.of; constructor <;> first | (show W _ _ _ _ _ _ _ _ _) | (intro (al : Nat) h st; show W _ _ _ _ _ _ _ _ _) | (intro _ h st; show W _ _ _ _ _ _ _ _ _) | exact Sd)))
        exact ⟨_, rfl, _, ⟨rfl, rfl⟩, st.sel Sels⟩
      · rw [if_neg (by omega)]
        obtain ⟨_, ⟨lv, M, rfl, hok⟩, st⟩ := St.unpack st; dsimp only [List.cons_append, List.nil_append] at st
        obtain ⟨hl, hj, _⟩ := FiS.slice st Tk
        obtain ⟨g1, g2, g3⟩ := size_some hs
        have hb := hok.2
        have hi : (id - 1).toNat < s.sizes.length := by omega
        (repeat (first | (show W _ _ _ _ _ _ (.code (cond _ _ _) :: _) _ _; first | refine W.ct ?_ | refine W.cf ?_) | (show W _ _ _ _ _ _ (.ins (cond _ _ _ :: _) :: _) _ _; first | refine W.gt ?_ | refine W.gf ?_) | (show W _ _ _ _ _ _ [] _ _; refine W.of (.done ?_)) | (apply W.of; constructor <;> first | (show W _ _ _ _ _ _ _ _ _) | (intro (al : Nat) h st; show W _ _ _ _ _ _ _ _ _) | (intro _ h st; show W _ _ _ _ _ _ _ _ _) | exact Sd)))
        obtain ⟨gp, gq⟩ := d_vsIdx (l := s.sizes.map ikey) (i := (id - 1).toNat) (kk := .i64) st Tk (by rw [List.length_map]; exact hi)
        rw [show (((id - 1).toNat : Nat) : Int) = id - 1 by omega] at gp
        (repeat (first | (show W _ _ _ _ _ _ (.code (cond _ _ _) :: _) _ _; first | refine W.ct ?_ | refine W.cf ?_) | (show W _ _ _ _ _ _ (.ins (cond _ _ _ :: _) :: _) _ _; first | refine W.gt ?_ | refine W.gf ?_) | (show W _ _ _ _ _ _ [] _ _; refine W.of (.done ?_)) | (apply W.of; constructor <;> first | (show W _ _ _ _ _ _ _ _ _) | (intro (al : Nat) h st; show W _ _ _ _ _ _ _ _ _) | (intro _ h st; show W _ _ _ _ _ _ _ _ _) | exact Sd))); refine W.do (ho := gp) (w := ?_)
        (repeat (first | (show W _ _ _ _ _ _ (.code (cond _ _ _) :: _) _ _; first | refine W.ct ?_ | refine W.cf ?_) | (show W _ _ _ _ _ _ (.ins (cond _ _ _ :: _) :: _) _ _; first | refine W.gt ?_ | refine W.gf ?_) | (show W _ _ _ _ _ _ [] _ _; refine W.of (.done ?_)) | (apply W.of; constructor <;> first | (show W _ _ _ _ _ _ _ _ _) | (intro (al : Nat) h st; show W _ _ _ _ _ _ _ _ _) | (intro _ h st; show W _ _ _ _ _ _ _ _ _) | exact Sd))); refine W.ef0 (ho := (e_vsStore (l := s.sizes.map ikey) (i := (id - 1).toNat) st Tk (by rw [List.length_map]; exact hi) rfl)) (w := ?_); rintro _ h ⟨_, st⟩
        (repeat (first | (show W _ _ _ _ _ _ (.code (cond _ _ _) :: _) _ _; first | refine W.ct ?_ | refine W.cf ?_) | (show W _ _ _ _ _ _ (.ins (cond _ _ _ :: _) :: _) _ _; first | refine W.gt ?_ | refine W.gf ?_) | (show W _ _ _ _ _ _ [] _ _; refine W.of (.done ?_)) | (apply W.of; constructor <;> first | (show W _ _ _ _ _ _ _ _ _) | (intro (al : Nat) h st; show W _ _ _ _ _ _ _ _ _) | (intro _ h st; show W _ _ _ _ _ _ _ _ _) | exact Sd))); refine W.call (hs := (del_func (id := id) (z := z) (St.mpNodup (ke := pkey) (ve := pageV) (l := s.pg) (M := M) st Tk) hlen)) (w := ?_); rintro vv _ ⟨rfl, rfl⟩ h st; refine nj ?_; dsimp only [List.cons_append, List.nil_append] at st
        (repeat (first | (show W _ _ _ _ _ _ (.code (cond _ _ _) :: _) _ _; first | refine W.ct ?_ | refine W.cf ?_) | (show W _ _ _ _ _ _ (.ins (cond _ _ _ :: _) :: _) _ _; first | refine W.gt ?_ | refine W.gf ?_) | (show W _ _ _ _ _ _ [] _ _; refine W.of (.done ?_)) | (apply W.of; constructor <;> first | (show W _ _ _ _ _ _ _ _ _) | (intro (al : Nat) h st; show W _ _ _ _ _ _ _ _ _) | (intro _ h st; show W _ _ _ _ _ _ _ _ _) | exact Sd)))
        rw [show (s.sizes.map ikey).set (id - 1).toNat (.int .i64 z) = (s.sizes.set (id - 1).toNat z).map ikey by rw [List.map_set]] at st
        have st := St.packP (t := 22) (k := .ptr D 0) (P := FiIs D { s with sizes := s.sizes.set (id - 1).toNat z, pg := s.pg.filter fun q => !cutQ id z q.1 }) st ⟨lv, M, rfl, fun q hq => hok.1 q (List.mem_filter.1 hq).1, by simpa using hb⟩ Pks
        exact ⟨_, rfl, _, ⟨rfl, rfl⟩, st.sel Sels⟩
abbrev idV (i : Nat) : AV := .int .i64 ((i : Int) + 1)
/-- all files -/
theorem file_Ids : Spec R (.f n_file_Store_Ids) [.ptr D 0] [FiC D s] fun v Rs => v.notJunk = some v ∧ sliceLen v = some s.sizes.length ∧ Rs = [VsC v 3 ((List.range s.sizes.length).map idV) true, FiC D s] := by
  refine spec_w (fun _ _ _ x => progI_call rfl rfl x) Njs rfl (fun h F st => ?_); dsimp only [List.cons_append, List.nil_append] at st
  (repeat (first | (show W _ _ _ _ _ _ (.code (cond _ _ _) :: _) _ _; first | refine W.ct ?_ | refine W.cf ?_) | (show W _ _ _ _ _ _ (.ins (cond _ _ _ :: _) :: _) _ _; first | refine W.gt ?_ | refine W.gf ?_) | (show W _ _ _ _ _ _ [] _ _; refine W.of (.done ?_)) | (apply W.of; constructor <;> first | (show W _ _ _ _ _ _ _ _ _) | (intro (al : Nat) h st; show W _ _ _ _ _ _ _ _ _) | (intro _ h st; show W _ _ _ _ _ _ _ _ _) | exact Sd))); refine W.call (hs := file_made) (w := ?_); rintro vv _ ⟨rfl, rfl⟩ h st; refine nj ?_; dsimp only [List.cons_append, List.nil_append] at st
  obtain ⟨_, ⟨lv, M, rfl, hok⟩, st⟩ := St.unpack st; dsimp only [List.cons_append, List.nil_append] at st
  obtain ⟨hl, hj, _⟩ := FiS.slice st Tk
  have hb := hok.2
  (repeat (first | (show W _ _ _ _ _ _ (.code (cond _ _ _) :: _) _ _; first | refine W.ct ?_ | refine W.cf ?_) | (show W _ _ _ _ _ _ (.ins (cond _ _ _ :: _) :: _) _ _; first | refine W.gt ?_ | refine W.gf ?_) | (show W _ _ _ _ _ _ [] _ _; refine W.of (.done ?_)) | (apply W.of; constructor <;> first | (show W _ _ _ _ _ _ _ _ _) | (intro (al : Nat) h st; show W _ _ _ _ _ _ _ _ _) | (intro _ h st; show W _ _ _ _ _ _ _ _ _) | exact Sd)))
  have st := St.packP (t := 22) (k := .ptr D 0) (P := FiIs D s) st ⟨lv, M, rfl, hok⟩ Pks
  have st := st.vsNil 3 true
  refine W.loop (fun y : AV × Nat => [(3, y.1), (12, .int .i64 s.sizes.length), (13, .int .i64 y.2)]) (fun y => VsC y.1 3 ((List.range y.2).map idV) true :: FiC D s :: F) (fun y => y.2 ≤ s.sizes.length) (fun y => s.sizes.length - y.2) (.nilsl, 0)
    (small_rounds (by simp only; omega)) Sbs (st.sel Sels) (Nat.zero_le _) ?_
  clear st
  intro ⟨v, i⟩ h hi st
  dsimp only at hi st ⊢
  obtain ⟨vl, vj, _⟩ := St.vs (v := v) st Tk
  by_cases hlt : i < s.sizes.length
  · (repeat (first | (show W _ _ _ _ _ _ (.code (cond _ _ _) :: _) _ _; first | refine W.ct ?_ | refine W.cf ?_) | (show W _ _ _ _ _ _ (.ins (cond _ _ _ :: _) :: _) _ _; first | refine W.gt ?_ | refine W.gf ?_) | (show W _ _ _ _ _ _ [] _ _; refine W.of (.done ?_)) | (apply W.of; constructor <;> first | (show W _ _ _ _ _ _ _ _ _) | (intro (al : Nat) h st; show W _ _ _ _ _ _ _ _ _) | (intro _ h st; show W _ _ _ _ _ _ _ _ _) | exact Sd)))
    have st := St.vsRow (l := [idV i]) (e := 3) st Tk rfl
    (repeat (first | (show W _ _ _ _ _ _ (.code (cond _ _ _) :: _) _ _; first | refine W.ct ?_ | refine W.cf ?_) | (show W _ _ _ _ _ _ (.ins (cond _ _ _ :: _) :: _) _ _; first | refine W.gt ?_ | refine W.gf ?_) | (show W _ _ _ _ _ _ [] _ _; refine W.of (.done ?_)) | (apply W.of; constructor <;> first | (show W _ _ _ _ _ _ _ _ _) | (intro (al : Nat) h st; show W _ _ _ _ _ _ _ _ _) | (intro _ h st; show W _ _ _ _ _ _ _ _ _) | exact Sd))); refine W.ef (ho := (e_vsAppend (l' := [idV i]) st Tk Tk (by simp; omega) (by simp; omega))) (w := ?_); rintro vv h ⟨bj, bl, st⟩; refine nj ?_
    (repeat (first | (show W _ _ _ _ _ _ (.code (cond _ _ _) :: _) _ _; first | refine W.ct ?_ | refine W.cf ?_) | (show W _ _ _ _ _ _ (.ins (cond _ _ _ :: _) :: _) _ _; first | refine W.gt ?_ | refine W.gf ?_) | (show W _ _ _ _ _ _ [] _ _; refine W.of (.done ?_)) | (apply W.of; constructor <;> first | (show W _ _ _ _ _ _ _ _ _) | (intro (al : Nat) h st; show W _ _ _ _ _ _ _ _ _) | (intro _ h st; show W _ _ _ _ _ _ _ _ _) | exact Sd)))
    rw [show ((List.range i).map idV) ++ [idV i] = (List.range (i + 1)).map idV by rw [List.range_succ, List.map_append]; rfl] at st
    refine W.of (.lp ?_)
    exact ⟨(vv, i + 1), by simp only; omega, hlt, Sbs, st.sel Sels⟩
  · have e : i = s.sizes.length := by omega
    subst e
    (repeat (first | (show W _ _ _ _ _ _ (.code (cond _ _ _) :: _) _ _; first | refine W.ct ?_ | refine W.cf ?_) | (show W _ _ _ _ _ _ (.ins (cond _ _ _ :: _) :: _) _ _; first | refine W.gt ?_ | refine W.gf ?_) | (show W _ _ _ _ _ _ [] _ _; refine W.of (.done ?_)) | (apply W.of; constructor <;> first | (show W _ _ _ _ _ _ _ _ _) | (intro (al : Nat) h st; show W _ _ _ _ _ _ _ _ _) | (intro _ h st; show W _ _ _ _ _ _ _ _ _) | exact Sd)))
    rw [List.length_map, List.length_range] at vl
    exact ⟨_, rfl, _, ⟨vj, vl, rfl⟩, st⟩
end Go.Proofs.Ytjdemlagmamlbaa

namespace Go.Proofs.Ytjdemlagmamlbaa
variable {D : Nat} {s : FiS}
theorem law10_page {v : AV} {k n : Nat} {w : Bool} : Spec R (.f n_law10_page) [v] [ByC v k n w] fun x Rs => (∃ id, x = .sl id 0 4096 4096) ∧ Rs = [ByC x 4096 (pageN k n) true, ByC v k n w] := by
  refine spec_in fun h F st => ?_
  obtain ⟨hl, hj, hn⟩ := st.by Tk
  clear st h F; refine spec_w (fun _ _ _ x => progI_call rfl rfl x) Njs rfl (fun h F st => ?_); dsimp only [List.cons_append, List.nil_append] at st
  (repeat (first | (show W _ _ _ _ _ _ (.code (cond _ _ _) :: _) _ _; first | refine W.ct ?_ | refine W.cf ?_) | (show W _ _ _ _ _ _ (.ins (cond _ _ _ :: _) :: _) _ _; first | refine W.gt ?_ | refine W.gf ?_) | (show W _ _ _ _ _ _ [] _ _; refine W.of (.done ?_)) | (apply W.of; constructor <;> first | (show W _ _ _ _ _ _ _ _ _) | (intro (al : Nat) h st; show W _ _ _ _ _ _ _ _ _) | (intro _ h st; show W _ _ _ _ _ _ _ _ _) | exact Sd))); refine W.ef (ho := (e_mkbytes (k := 4096) st (by decide))) (w := ?_); rintro vv h ⟨id, rfl, st⟩; refine nj ?_
  (repeat (first | (show W _ _ _ _ _ _ (.code (cond _ _ _) :: _) _ _; first | refine W.ct ?_ | refine W.cf ?_) | (show W _ _ _ _ _ _ (.ins (cond _ _ _ :: _) :: _) _ _; first | refine W.gt ?_ | refine W.gf ?_) | (show W _ _ _ _ _ _ [] _ _; refine W.of (.done ?_)) | (apply W.of; constructor <;> first | (show W _ _ _ _ _ _ _ _ _) | (intro (al : Nat) h st; show W _ _ _ _ _ _ _ _ _) | (intro _ h st; show W _ _ _ _ _ _ _ _ _) | exact Sd)))
  (repeat (first | (show W _ _ _ _ _ _ (.code (cond _ _ _) :: _) _ _; first | refine W.ct ?_ | refine W.cf ?_) | (show W _ _ _ _ _ _ (.ins (cond _ _ _ :: _) :: _) _ _; first | refine W.gt ?_ | refine W.gf ?_) | (show W _ _ _ _ _ _ [] _ _; refine W.of (.done ?_)) | (apply W.of; constructor <;> first | (show W _ _ _ _ _ _ _ _ _) | (intro (al : Nat) h st; show W _ _ _ _ _ _ _ _ _) | (intro _ h st; show W _ _ _ _ _ _ _ _ _) | exact Sd))); refine W.ef (ho := (e_copyb st Tk Tk)) (w := ?_); rintro vv h ⟨rfl, st⟩; refine nj ?_
  (repeat (first | (show W _ _ _ _ _ _ (.code (cond _ _ _) :: _) _ _; first | refine W.ct ?_ | refine W.cf ?_) | (show W _ _ _ _ _ _ (.ins (cond _ _ _ :: _) :: _) _ _; first | refine W.gt ?_ | refine W.gf ?_) | (show W _ _ _ _ _ _ [] _ _; refine W.of (.done ?_)) | (apply W.of; constructor <;> first | (show W _ _ _ _ _ _ _ _ _) | (intro (al : Nat) h st; show W _ _ _ _ _ _ _ _ _) | (intro _ h st; show W _ _ _ _ _ _ _ _ _) | exact Sd)))
  exact ⟨_, rfl, _, ⟨⟨_, rfl⟩, rfl⟩, st⟩
theorem make_ok {n : Int} (h0 : 0 ≤ n) (h1 : n ≤ 4096) (h2 : s.sizes.length < 16) : s.make n = ({ s with sizes := s.sizes ++ [n] }, (s.sizes.length : Int) + 1, 0) := by
  unfold FiS.make; rw [if_neg (by omega), if_neg (by omega)]
theorem file_Make_ok {n : Int} (h0 : 0 ≤ n) (h1 : n ≤ 4096) (h2 : s.sizes.length < 16) : Spec R (.f n_file_Store_Make) [.ptr D 0, .int .i64 n] [FiC D s] fun v Rs => v = .tuple [.int .i64 ((s.sizes.length : Int) + 1), .int .i64 0] ∧ Rs = [FiC D { s with sizes := s.sizes ++ [n] }] :=
  file_Make.mono progI_mono fun v Rs ⟨e1, e2⟩ => by rw [make_ok h0 h1 h2] at e1 e2; exact ⟨e1, e2⟩
theorem St.fiNodup {h : AHeap} {L R : List Chunk} (st : St h L) (t : Take L (FiC D s) R) : (keys s.pg).Nodup := by
  obtain ⟨cs, ⟨lv, M, rfl, _⟩, st'⟩ := (st.take t).unpack
  exact St.mpNodup (ke := pkey) (ve := pageV) (M := M) (l := s.pg) st' (.there (.there .here))
theorem cell_put (hn : (keys s.pg).Nodup) (p q : Pl) (N : Nat) : (s.put p N).cell q = if p = q then N else s.cell q := by
  unfold FiS.put FiS.cell
  by_cases hz : N = 0
  · subst hz
    simp only [if_true, alook_adel hn]
    split <;> rfl
  · simp only [if_neg hz, alook_aput]
    split <;> rfl
theorem at_ok {id n : Int} (h : s.ok id n = true) (hb : s.left ≠ 1) : s.at' id n true = ⟨s.tick, 0⟩ := by
  unfold FiS.at' FiS.bad
  cases hs : s.size id with
  | none => rw [ok_none hs] at h; cases h
  | some z => rw [if_neg (by simp), if_pos ⟨h, rfl⟩, decide_eq_false hb]; rfl
theorem at_bad {id n : Int} (h : s.ok id n = true) (hb : s.left = 1) : s.at' id n true = ⟨s.tick, 6⟩ := by
  unfold FiS.at' FiS.bad
  cases hs : s.size id with
  | none => rw [ok_none hs] at h; cases h
  | some z => rw [if_neg (by simp), if_pos ⟨h, rfl⟩, decide_eq_true hb]; rfl
/-- a Read that does not fail -/
theorem file_Read_ok {id n : Int} (hlo : s.left ≤ 9223372036854775807) (h : s.ok id n = true) (hb : s.left ≠ 1) : Spec R (.f n_file_Store_Read) [.ptr D 0, .int .i64 id, .int .i64 n] [FiC D s] fun r Rs =>
    ∃ x, r = .tuple [x, .int .i64 0] ∧ x.notJunk = some x ∧ sliceLen x = some 4096 ∧ Rs = [ByC x 4096 (s.cell (id, n)) true, FiC D s.tick] :=
  (file_Read hlo).mono progI_mono fun r Rs ⟨x, e1, e2, e3, e4⟩ => by
    rw [at_ok h hb] at e1 e4
    unfold FiS.rk at e3 e4
    rw [at_ok h hb, if_pos rfl] at e3 e4
    exact ⟨x, e1, e2, e3, e4⟩
theorem file_Write_ok {id n : Int} {v : AV} {N : Nat} {w : Bool} (hlo : s.left ≤ 9223372036854775807) (h : s.ok id n = true) (hb : s.left ≠ 1) : Spec R (.f n_file_Store_Write) [.ptr D 0, .int .i64 id, .int .i64 n, v] [FiC D s, ByC v 4096 N w] fun r Rs =>
    r = .int .i64 0 ∧ Rs = [FiC D (s.tick.put (id, n) N), ByC v 4096 N w] :=
  (file_Write hlo).mono progI_mono fun r Rs ⟨e1, e2⟩ => by
    have e : s.write id n 4096 N = ⟨s.tick.put (id, n) N, 0⟩ := by
      unfold FiS.write; dsimp only
      rw [show (((4096 : Nat) : Int) == 4096) = true from rfl, at_ok h hb, if_pos rfl]
    rw [e] at e1 e2
    exact ⟨e1, e2⟩
theorem alook_filter {l : List (Pl × Nat)} (hn : (keys l).Nodup) (g : Pl → Bool) (p : Pl) : alook (l.filter fun q => g q.1) p = if g p = true then alook l p else none := by
  have hn' : (keys (l.filter fun q => g q.1)).Nodup := by unfold keys at *; exact hn.sublist (List.filter_sublist.map _)
  cases h : alook (l.filter fun q => g q.1) p with
  | some b =>
    have hm := (alook_mem hn').1 h
    obtain ⟨h1, h2⟩ := List.mem_filter.1 hm
    rw [if_pos h2]; exact ((alook_mem hn).2 h1).symm
  | none =>
    split
    · rename_i hg
      cases h2 : alook l p with
      | none => rfl
      | some b =>
        have := (alook_mem hn').2 (List.mem_filter.2 ⟨(alook_mem hn).1 h2, hg⟩)
        rw [h] at this; cases this
    · rfl
theorem resize_ok {id z y : Int} (hs : s.size id = some y) (h0 : 0 ≤ z) (h1 : z ≤ 4096) : s.resize id z = ⟨{ s with sizes := s.sizes.set (id - 1).toNat z, pg := s.pg.filter fun q => !cutQ id z q.1 }, 0⟩ := by
  unfold FiS.resize; rw [hs, if_neg (by simp), if_neg (by omega)]
theorem file_Resize_ok {id z y : Int} (hlen : s.pg.length < 100000) (hs : s.size id = some y) (h0 : 0 ≤ z) (h1 : z ≤ 4096) : Spec R (.f n_file_Store_Resize) [.ptr D 0, .int .i64 id, .int .i64 z] [FiC D s] fun r Rs =>
    r = .int .i64 0 ∧ Rs = [FiC D { s with sizes := s.sizes.set (id - 1).toNat z, pg := s.pg.filter fun q => !cutQ id z q.1 }] :=
  (file_Resize hlen).mono progI_mono fun r Rs ⟨e1, e2⟩ => by rw [resize_ok hs h0 h1] at e1 e2; exact ⟨e1, e2⟩
theorem put_len (p : Pl) (N : Nat) : (s.put p N).pg.length ≤ s.pg.length + 1 := by
  unfold FiS.put
  simp only
  split
  · have : ∀ l : List (Pl × Nat), (adel l p).length ≤ l.length := fun l => by
      induction l with
      | nil => simp [adel]
      | cons a l ih =>
        obtain ⟨k, v⟩ := a
        simp only [adel]; split <;> simp <;> omega
    have := this s.pg; omega
  · have : ∀ l : List (Pl × Nat), (aput l p N).length ≤ l.length + 1 := fun l => by
      induction l with
      | nil => simp [aput]
      | cons a l ih =>
        obtain ⟨k, v⟩ := a
        simp only [aput]; split <;> simp <;> omega
    exact this s.pg
/-- two files of one size -/
abbrev cS (z z' : Int) (pg : List (Pl × Nat)) : FiS := ⟨[z, z'], pg, 0⟩
theorem neSelf (n : Int) : (n != n) = false := by simp
theorem fiNew_size : (⟨[2], [], 0⟩ : FiS).size 1 = some 2 := rfl
set_option maxRecDepth 8000 in
/-- the document's examples are as it says -/
theorem law10_lives : Spec R (.f n_law10_lives) [] [] fun v Rs => v = .bool true ∧ Rs = [] := by
  refine spec_w (fun _ _ _ x => progI_call rfl rfl x) Njs rfl (fun h F st => ?_); dsimp only [List.cons_append, List.nil_append] at st
  (repeat (first | (show W _ _ _ _ _ _ (.code (cond _ _ _) :: _) _ _; first | refine W.ct ?_ | refine W.cf ?_) | (show W _ _ _ _ _ _ (.ins (cond _ _ _ :: _) :: _) _ _; first | refine W.gt ?_ | refine W.gf ?_) | (show W _ _ _ _ _ _ [] _ _; refine W.of (.done ?_)) | (apply W.of; constructor <;> first | (show W _ _ _ _ _ _ _ _ _) | (intro (al : Nat) h st; show W _ _ _ _ _ _ _ _ _) | (intro _ h st; show W _ _ _ _ _ _ _ _ _) | exact Sd))); refine W.call (hs := file_New) (w := ?_); rintro vv _ ⟨D, rfl, rfl⟩ h st; refine nj ?_; dsimp only [List.cons_append, List.nil_append] at st
  (repeat (first | (show W _ _ _ _ _ _ (.code (cond _ _ _) :: _) _ _; first | refine W.ct ?_ | refine W.cf ?_) | (show W _ _ _ _ _ _ (.ins (cond _ _ _ :: _) :: _) _ _; first | refine W.gt ?_ | refine W.gf ?_) | (show W _ _ _ _ _ _ [] _ _; refine W.of (.done ?_)) | (apply W.of; constructor <;> first | (show W _ _ _ _ _ _ _ _ _) | (intro (al : Nat) h st; show W _ _ _ _ _ _ _ _ _) | (intro _ h st; show W _ _ _ _ _ _ _ _ _) | exact Sd))); refine W.call (hs := (file_Make_ok (s := ⟨[], [], 0⟩) (n := 2) (by decide) (by decide) (by decide))) (w := ?_); rintro vv _ ⟨rfl, rfl⟩ h st; refine nj ?_; dsimp only [List.cons_append, List.nil_append] at st
  (repeat (first | (show W _ _ _ _ _ _ (.code (cond _ _ _) :: _) _ _; first | refine W.ct ?_ | refine W.cf ?_) | (show W _ _ _ _ _ _ (.ins (cond _ _ _ :: _) :: _) _ _; first | refine W.gt ?_ | refine W.gf ?_) | (show W _ _ _ _ _ _ [] _ _; refine W.of (.done ?_)) | (apply W.of; constructor <;> first | (show W _ _ _ _ _ _ _ _ _) | (intro (al : Nat) h st; show W _ _ _ _ _ _ _ _ _) | (intro _ h st; show W _ _ _ _ _ _ _ _ _) | exact Sd)))
  have st := St.byRow' (k := 1) (n := 7) st Tk (by decide)
  (repeat (first | (show W _ _ _ _ _ _ (.code (cond _ _ _) :: _) _ _; first | refine W.ct ?_ | refine W.cf ?_) | (show W _ _ _ _ _ _ (.ins (cond _ _ _ :: _) :: _) _ _; first | refine W.gt ?_ | refine W.gf ?_) | (show W _ _ _ _ _ _ [] _ _; refine W.of (.done ?_)) | (apply W.of; constructor <;> first | (show W _ _ _ _ _ _ _ _ _) | (intro (al : Nat) h st; show W _ _ _ _ _ _ _ _ _) | (intro _ h st; show W _ _ _ _ _ _ _ _ _) | exact Sd))); refine W.call (hs := law10_page) (w := ?_); rintro vv _ ⟨⟨id1, rfl⟩, rfl⟩ h st; refine nj ?_; dsimp only [List.cons_append, List.nil_append] at st
  (repeat (first | (show W _ _ _ _ _ _ (.code (cond _ _ _) :: _) _ _; first | refine W.ct ?_ | refine W.cf ?_) | (show W _ _ _ _ _ _ (.ins (cond _ _ _ :: _) :: _) _ _; first | refine W.gt ?_ | refine W.gf ?_) | (show W _ _ _ _ _ _ [] _ _; refine W.of (.done ?_)) | (apply W.of; constructor <;> first | (show W _ _ _ _ _ _ _ _ _) | (intro (al : Nat) h st; show W _ _ _ _ _ _ _ _ _) | (intro _ h st; show W _ _ _ _ _ _ _ _ _) | exact Sd))); refine W.call (hs := (file_Write_ok (D := D) (s := ⟨[2], [], 0⟩) (id := 1) (n := 1) (v := .sl id1 0 4096 4096) (by decide) (by rw [ok_some fiNew_size]; decide) (by decide))) (w := ?_); rintro vv _ ⟨rfl, rfl⟩ h st; refine nj ?_; dsimp only [List.cons_append, List.nil_append] at st
  have hlen := put_len (s := ⟨[2], [], 0⟩) (1, 1) (pageN 1 7)
  have st : St h (FiC D ⟨[2], ((⟨[2], [], 0⟩ : FiS).put (1, 1) (pageN 1 7)).pg, 0⟩ :: ByC (.sl id1 0 4096 4096) 4096 (pageN 1 7) true :: ByC (.sl al 0 1 1) 1 7 true :: F) := st
  have hn := st.fiNodup Tk
  simp only at hn
  generalize ((⟨[2], [], 0⟩ : FiS).put (1, 1) (pageN 1 7)).pg = pg at *
  (repeat (first | (show W _ _ _ _ _ _ (.code (cond _ _ _) :: _) _ _; first | refine W.ct ?_ | refine W.cf ?_) | (show W _ _ _ _ _ _ (.ins (cond _ _ _ :: _) :: _) _ _; first | refine W.gt ?_ | refine W.gf ?_) | (show W _ _ _ _ _ _ [] _ _; refine W.of (.done ?_)) | (apply W.of; constructor <;> first | (show W _ _ _ _ _ _ _ _ _) | (intro (al : Nat) h st; show W _ _ _ _ _ _ _ _ _) | (intro _ h st; show W _ _ _ _ _ _ _ _ _) | exact Sd))); refine W.call (hs := (file_Resize_ok (s := ⟨[2], pg, 0⟩) (id := 1) (z := 1) (y := 2) (by show pg.length < 100000; simp only [List.length_nil] at hlen; omega) rfl (by decide) (by decide))) (w := ?_); rintro vv _ ⟨rfl, rfl⟩ h st; refine nj ?_; dsimp only [List.cons_append, List.nil_append] at st
  have hl2 : (pg.filter fun q => !cutQ 1 1 q.1).length ≤ pg.length := List.length_filter_le _ _
  have st : St h (FiC D ⟨[1], pg.filter fun q => !cutQ 1 1 q.1, 0⟩ :: ByC (.sl id1 0 4096 4096) 4096 (pageN 1 7) true :: ByC (.sl al 0 1 1) 1 7 true :: F) := st
  (repeat (first | (show W _ _ _ _ _ _ (.code (cond _ _ _) :: _) _ _; first | refine W.ct ?_ | refine W.cf ?_) | (show W _ _ _ _ _ _ (.ins (cond _ _ _ :: _) :: _) _ _; first | refine W.gt ?_ | refine W.gf ?_) | (show W _ _ _ _ _ _ [] _ _; refine W.of (.done ?_)) | (apply W.of; constructor <;> first | (show W _ _ _ _ _ _ _ _ _) | (intro (al : Nat) h st; show W _ _ _ _ _ _ _ _ _) | (intro _ h st; show W _ _ _ _ _ _ _ _ _) | exact Sd))); refine W.call (hs := (file_Resize_ok (s := ⟨[1], pg.filter fun q => !cutQ 1 1 q.1, 0⟩) (id := 1) (z := 2) (y := 1) (by show (pg.filter fun q => !cutQ 1 1 q.1).length < 100000; simp only [List.length_nil] at hlen; omega) rfl (by decide) (by decide))) (w := ?_); rintro vv _ ⟨rfl, rfl⟩ h st; refine nj ?_; dsimp only [List.cons_append, List.nil_append] at st
  have st : St h (FiC D ⟨[2], (pg.filter fun q => !cutQ 1 1 q.1).filter fun q => !cutQ 1 2 q.1, 0⟩ :: F) := st.sel Sels
  have hn' : (keys (pg.filter fun q => !cutQ 1 1 q.1)).Nodup := by unfold keys at *; exact hn.sublist (List.filter_sublist.map _)
  have hc : (alook ((pg.filter fun q => !cutQ 1 1 q.1).filter fun q => !cutQ 1 2 q.1) (1, 1)).getD 0 = 0 := by
    rw [alook_filter hn' (fun p => !cutQ 1 2 p), alook_filter hn (fun p => !cutQ 1 1 p)]
    rw [if_pos (by decide), if_neg (by decide)]; rfl
  generalize ((pg.filter fun q => !cutQ 1 1 q.1).filter fun q => !cutQ 1 2 q.1) = pg2 at *
  (repeat (first | (show W _ _ _ _ _ _ (.code (cond _ _ _) :: _) _ _; first | refine W.ct ?_ | refine W.cf ?_) | (show W _ _ _ _ _ _ (.ins (cond _ _ _ :: _) :: _) _ _; first | refine W.gt ?_ | refine W.gf ?_) | (show W _ _ _ _ _ _ [] _ _; refine W.of (.done ?_)) | (apply W.of; constructor <;> first | (show W _ _ _ _ _ _ _ _ _) | (intro (al : Nat) h st; show W _ _ _ _ _ _ _ _ _) | (intro _ h st; show W _ _ _ _ _ _ _ _ _) | exact Sd))); refine W.call (hs := (file_Read_ok (s := ⟨[2], pg2, 0⟩) (id := 1) (n := 1) (by show (0 : Int) ≤ 9223372036854775807; decide) (by rw [ok_some (z := 2) rfl]; decide) (by show ¬ (0 : Int) = 1; decide))) (w := ?_); rintro vv _ ⟨x, rfl, gx, gl, rfl⟩ h st; refine nj ?_; dsimp only [List.cons_append, List.nil_append] at st
  rw [show (⟨[2], pg2, 0⟩ : FiS).cell (1, 1) = 0 from hc] at st
  (repeat (first | (show W _ _ _ _ _ _ (.code (cond _ _ _) :: _) _ _; first | refine W.ct ?_ | refine W.cf ?_) | (show W _ _ _ _ _ _ (.ins (cond _ _ _ :: _) :: _) _ _; first | refine W.gt ?_ | refine W.gf ?_) | (show W _ _ _ _ _ _ [] _ _; refine W.of (.done ?_)) | (apply W.of; constructor <;> first | (show W _ _ _ _ _ _ _ _ _) | (intro (al : Nat) h st; show W _ _ _ _ _ _ _ _ _) | (intro _ h st; show W _ _ _ _ _ _ _ _ _) | exact Sd)))
  have st := st.byNil false
  (repeat (first | (show W _ _ _ _ _ _ (.code (cond _ _ _) :: _) _ _; first | refine W.ct ?_ | refine W.cf ?_) | (show W _ _ _ _ _ _ (.ins (cond _ _ _ :: _) :: _) _ _; first | refine W.gt ?_ | refine W.gf ?_) | (show W _ _ _ _ _ _ [] _ _; refine W.of (.done ?_)) | (apply W.of; constructor <;> first | (show W _ _ _ _ _ _ _ _ _) | (intro (al : Nat) h st; show W _ _ _ _ _ _ _ _ _) | (intro _ h st; show W _ _ _ _ _ _ _ _ _) | exact Sd))); refine W.call (hs := (law10_page (v := .nilsl) (k := 0) (n := 0) (w := false))) (w := ?_); rintro vv _ ⟨⟨id2, rfl⟩, rfl⟩ h st; refine nj ?_; dsimp only [List.cons_append, List.nil_append] at st
  rw [show pageN 0 0 = 0 by decide] at st
  (repeat (first | (show W _ _ _ _ _ _ (.code (cond _ _ _) :: _) _ _; first | refine W.ct ?_ | refine W.cf ?_) | (show W _ _ _ _ _ _ (.ins (cond _ _ _ :: _) :: _) _ _; first | refine W.gt ?_ | refine W.gf ?_) | (show W _ _ _ _ _ _ [] _ _; refine W.of (.done ?_)) | (apply W.of; constructor <;> first | (show W _ _ _ _ _ _ _ _ _) | (intro (al : Nat) h st; show W _ _ _ _ _ _ _ _ _) | (intro _ h st; show W _ _ _ _ _ _ _ _ _) | exact Sd))); refine W.call (hs := (Bytes_t (a := x))) (w := ?_); rintro vv _ ⟨rfl, rfl⟩ h st; refine nj ?_; dsimp only [List.cons_append, List.nil_append] at st
  (repeat (first | (show W _ _ _ _ _ _ (.code (cond _ _ _) :: _) _ _; first | refine W.ct ?_ | refine W.cf ?_) | (show W _ _ _ _ _ _ (.ins (cond _ _ _ :: _) :: _) _ _; first | refine W.gt ?_ | refine W.gf ?_) | (show W _ _ _ _ _ _ [] _ _; refine W.of (.done ?_)) | (apply W.of; constructor <;> first | (show W _ _ _ _ _ _ _ _ _) | (intro (al : Nat) h st; show W _ _ _ _ _ _ _ _ _) | (intro _ h st; show W _ _ _ _ _ _ _ _ _) | exact Sd)))
  exact ⟨_, rfl, _, ⟨rfl, rfl⟩, st.sel Sels⟩
end Go.Proofs.Ytjdemlagmamlbaa

namespace Go.Proofs.Ytjdemlagmamlbaa
variable {D : Nat} {s : FiS}
/-- all pages up to one are written -/
def CutOk (P i : Nat) (pg : List (Pl × Nat)) : Prop := pg.length ≤ 2 * i ∧ ∀ f : Int, (f = 1 ∨ f = 2) → ∀ j : Nat, j < i → (alook pg (f, (j : Int))).getD 0 = P
theorem CutOk.step {P i : Nat} {pg : List (Pl × Nat)} {z z' : Int} (h : CutOk P i pg) (hn : (keys pg).Nodup) (hn2 : (keys ((cS z z' pg).put (1, (i : Int)) P).pg).Nodup) :
    CutOk P (i + 1) ((cS z z' ((cS z z' pg).put (1, (i : Int)) P).pg).put (2, (i : Int)) P).pg := by
  refine ⟨?_, fun f hf j hj => ?_⟩
  · have a := put_len (s := cS z z' pg) (1, (i : Int)) P
    have b := put_len (s := cS z z' ((cS z z' pg).put (1, (i : Int)) P).pg) (2, (i : Int)) P
    have := h.1
    simp only at a b ⊢; omega
  · have a := cell_put (s := cS z z' pg) hn (1, (i : Int)) (f, (j : Int)) P
    have b := cell_put (s := cS z z' ((cS z z' pg).put (1, (i : Int)) P).pg) hn2 (2, (i : Int)) (f, (j : Int)) P
    have e : (alook ((cS z z' ((cS z z' pg).put (1, (i : Int)) P).pg).put (2, (i : Int)) P).pg (f, (j : Int))).getD 0 = if (2, (i : Int)) = (f, (j : Int)) then P else if (1, (i : Int)) = (f, (j : Int)) then P else (cS z z' pg).cell (f, (j : Int)) := by
      have a' : (cS z z' ((cS z z' pg).put (1, (i : Int)) P).pg).cell (f, (j : Int)) = if (1, (i : Int)) = (f, (j : Int)) then P else (cS z z' pg).cell (f, (j : Int)) := a
      rw [← a']; exact b
    rw [e]
    by_cases hij : j = i
    · subst hij
      rcases hf with rfl | rfl <;> simp
    · rw [if_neg (by simp; omega), if_neg (by simp; omega)]
      exact h.2 f hf j (by omega)
/-- behind the cut and the growth -/
theorem CutOk.cut {P z : Nat} {pg : List (Pl × Nat)} (h : CutOk P z pg) (hn : (keys pg).Nodup) (k i : Nat) (hi : i < z) :
    (alook ((pg.filter fun q => !cutQ 1 (k : Int) q.1).filter fun q => !cutQ 1 (z : Int) q.1) (1, (i : Int))).getD 0 = (if k ≤ i then 0 else P) ∧ (alook ((pg.filter fun q => !cutQ 1 (k : Int) q.1).filter fun q => !cutQ 1 (z : Int) q.1) (2, (i : Int))).getD 0 = P := by
  have hn' : (keys (pg.filter fun q => !cutQ 1 (k : Int) q.1)).Nodup := by unfold keys at *; exact hn.sublist (List.filter_sublist.map _)
  rw [alook_filter hn' (fun p => !cutQ 1 (z : Int) p), alook_filter hn' (fun p => !cutQ 1 (z : Int) p), alook_filter hn (fun p => !cutQ 1 (k : Int) p), alook_filter hn (fun p => !cutQ 1 (k : Int) p)]
  have e1 := h.2 1 (.inl rfl) i hi
  have e2 := h.2 2 (.inr rfl) i hi
  constructor
  · rw [if_pos (by simp [cutQ]; omega)]
    by_cases hki : k ≤ i
    · rw [if_neg (by simp [cutQ]; omega), if_pos hki]; rfl
    · rw [if_pos (by simp [cutQ]; omega), if_neg hki]; exact e1
  · rw [if_pos (by simp [cutQ]), if_pos (by simp [cutQ])]; exact e2
end Go.Proofs.Ytjdemlagmamlbaa

namespace Go.Proofs.Ytjdemlagmamlbaa
section
variable {h : AHeap} {L R R' : List Chunk} {s x v : AV} {e es b k m : Nat} {d : Dat} {w : Bool} {C : SemW} {α : Type} {cells : α → List AV} {l : List α} {a : α}
/-- a slice of structs of es cells -/
abbrev RwC (v : AV) (e es : Nat) (cells : α → List AV) (l : List α) (w : Bool) : Chunk := SlC v e es l.length (.vals (l.flatMap cells)) w
/-- the cells of each are so many -/
structure CL (cells : α → List AV) (es : Nat) : Prop where
  len : ∀ a, (cells a).length = es
theorem CL.flat (hc : CL cells es) : ∀ l : List α, (l.flatMap cells).length = l.length * es
  | [] => by simp
  | a :: l => by rw [List.flatMap_cons, List.length_append, hc.len, hc.flat l, List.length_cons, Nat.add_mul]; omega
theorem CL.at (hc : CL cells es) {i : Nat} (hi : l[i]? = some a) : ((l.flatMap cells).drop (i * es)).take es = cells a ∧ i * es + es ≤ (l.flatMap cells).length := flat_at (fun a _ => hc.len a) hi
theorem St.rw (st : St h L) (t : Take L (RwC v e es cells l w) R) : sliceLen v = some l.length ∧ v.notJunk = some v ∧ okSame v = true := by
  obtain ⟨h1, h2, _⟩ := st.slc t
  exact ⟨h1, h2, okSame_sl h1⟩
theorem d_rwIdx {i : Nat} {kk : IntKind} (st : St h L) (t : Take L (RwC v e es cells l w) R) (h1 : i < l.length) : Does (.indexs es) [v, .int kk i] h (elemPtr es v i) h ∧ (elemPtr es v i).notJunk = some (elemPtr es v i) :=
  ⟨d_indexs (i := (i : Int)) st t (by omega) (by omega), elemPtr_nj (st.slc t).1 h1⟩
theorem d_rwLoad {i : Nat} (hc : CL cells es) (st : St h L) (t : Take L (RwC v e es cells l w) R) (hi : l[i]? = some a) : Does (.loadn es) [elemPtr es v i] h (.agg (cells a)) h := by
  obtain ⟨f1, f2⟩ := hc.at hi
  exact d_loadEn st t rfl (List.getElem?_eq_some_iff.1 hi).1 (by simp only [Dat.sub]; rw [if_pos f2, f1])
theorem CL.get (hc : CL cells es) {i o : Nat} (hi : l[i]? = some a) (ho : o < es) : (l.flatMap cells)[i * es + o]? = (cells a)[o]? := by
  obtain ⟨f1, f2⟩ := hc.at hi
  rw [← f1, List.getElem?_take, if_pos ho, List.getElem?_drop]
theorem CL.set (hc : CL cells es) {i o : Nat} {a' : α} {y : List AV} (hi : l[i]? = some a) (hy : cells a' = (cells a).take o ++ y ++ (cells a).drop (o + y.length)) (ho : o + y.length ≤ es) :
    (l.flatMap cells).take (i * es + o) ++ y ++ (l.flatMap cells).drop (i * es + o + y.length) = (l.set i a').flatMap cells := by
  induction l generalizing i with
  | nil => simp at hi
  | cons b l ih =>
    cases i with
    | zero =>
      simp only [List.getElem?_cons_zero, Option.some.injEq] at hi
      subst hi
      have hb := hc.len b
      rw [List.set_cons_zero, List.flatMap_cons, List.flatMap_cons, hy, Nat.zero_mul, Nat.zero_add]
      rw [List.take_append_of_le_length (by omega), List.drop_append_of_le_length (by omega)]
      simp only [List.append_assoc]
    | succ i =>
      simp only [List.getElem?_cons_succ] at hi
      have hb := hc.len b
      rw [List.set_cons_succ, List.flatMap_cons, List.flatMap_cons, ← ih hi]
      have e1 : (i + 1) * es + o = (cells b).length + (i * es + o) := by rw [Nat.add_mul]; omega
      rw [e1, List.take_length_add_append, show (cells b).length + (i * es + o) + y.length = (cells b).length + (i * es + o + y.length) by omega, List.drop_length_add_append]
      simp only [List.append_assoc]
/-- append one list of structs to another -/
theorem e_rwAppend {z : Dat} {l l' : List α} (hc : CL cells es) (h0 : Nat.blt 0 es = true) (st : St h L) (t : Take L (RwC s e es cells l true) R) (t' : Take R (RwC x e es cells l' w) R') (hb : (l.length + l'.length) * b ≤ 2 ^ 40) (hk : l.length + l'.length ≤ 2 ^ 40) :
    Eff C (.append e es b z) [s, x] h fun v h' => v.notJunk = some v ∧ sliceLen v = some (l ++ l').length ∧ St h' (RwC v e es cells (l ++ l') true :: RwC x e es cells l' w :: R') := by
  have f1 := hc.flat l
  have f2 := hc.flat l'
  have := e_append (C := C) (z := z) (d'' := .vals (l.flatMap cells ++ l'.flatMap cells)) st t t' rfl (.inl ⟨_, _, rfl, rfl⟩) (fun h0 => by rw [List.eq_nil_of_length_eq_zero h0]; simp)
    (fun h0 => by rw [List.eq_nil_of_length_eq_zero h0, ← f2]; show Dat.take (.vals (l'.flatMap cells)) 0 (l'.flatMap cells).length = some (.vals ([] ++ l'.flatMap cells)); simp only [Dat.take, Nat.zero_add]; rw [if_pos (Nat.le_refl _), List.drop_zero, List.take_length, List.nil_append])
    (by rw [Nat.add_mul, ← f1, ← f2]; simp only [Dat.take, Nat.zero_add]; rw [if_pos (by simp), List.drop_zero, List.take_of_length_le (by simp)]) hb hk h0
  rw [← List.length_append, ← List.flatMap_append] at this
  exact this
/-- a new row of structs, as a slice -/
theorem St.rwRow {id n e' es' : Nat} {sf : Bool} {c : List AV} (hc : CL cells es) (l : List α) (st : St h L) (t : Take L (.pt id (.row e' es' sf false (.vals c))) R) (hl : c = l.flatMap cells) (hn : n = l.length) : St h (RwC (.sl id 0 n n) e es cells l true :: R) := by
  subst hn hl
  have f := hc.flat l
  refine St.pack (cs := [.pt id (.row e' es' sf false (.vals (l.flatMap cells)))]) (st.take t) (.inr (.inr (.inl ⟨id, 0, _, _, e', es', sf, rfl, rfl, ?_, Nat.le_refl _, fun _ => by simp only [Dat.len]; omega⟩)))
  rw [← f]; simp only [Dat.take, Nat.zero_add]; rw [if_pos (Nat.le_refl _), List.drop_zero, List.take_length]
/-- no structs -/
theorem St.rwNil (st : St h L) (e es : Nat) (cells : α → List AV) (w : Bool) : St h (RwC .nilsl e es cells [] w :: L) := St.nilslice st e es w
theorem sel_same : ∀ L : List Chunk, Sel L L
  | [] => .nil
  | _ :: L => .cons .here (sel_same L)
theorem sel_drop (X : List Chunk) {Y Z : List Chunk} (h : Sel Y Z) : Sel (X ++ Y) Z := by
  induction X with
  | nil => exact h
  | cons c X ih => exact .skip ih
theorem sel_keep (X : List Chunk) {Y Z : List Chunk} (h : Sel Y Z) : Sel (X ++ Y) (X ++ Z) := by
  induction X with
  | nil => exact h
  | cons c X ih => exact .cons .here ih
theorem sel_filter (G : α → List Chunk) (f : α → Bool) (X : List Chunk) : ∀ l : List α, Sel (l.flatMap G ++ X) ((l.filter f).flatMap G ++ X)
  | [] => sel_same X
  | a :: l => by
    have ih := sel_filter G f X l
    rw [List.flatMap_cons, List.append_assoc]
    by_cases h : f a = true
    · rw [List.filter_cons_of_pos h, List.flatMap_cons, List.append_assoc]
      exact sel_keep _ ih
    · rw [List.filter_cons_of_neg h]
      exact sel_drop _ ih
/-- some of the parts are forgotten -/
theorem St.sepFilter {key : AV} {G : α → List Chunk} (f : α → Bool) (st : St h L) (t : Take L (SepC key G l) R) : St h (SepC key G (l.filter f) :: R) := by
  obtain ⟨cs, rfl, st'⟩ := (st.take t).unpack
  exact St.pack (st'.sel (sel_filter G f R l)) rfl
end
def sL : ACode → ACode
  | .seq a _ => a
  | c => c
def sR : ACode → ACode
  | .seq _ b => b
  | c => c
def bB : ACode → ACode
  | .block _ b => b
  | c => c
def rg : ACode → List AIn
  | .region l => l
  | _ => []
end Go.Proofs.Ytjdemlagmamlbaa

namespace Go.Proofs.Ytjdemlagmamlbaa
variable {D : Nat} {s : FiS} {m : Nat}
/-- a page of the document's -/
structure PgF where
  id : Int
  n : Int
  v : AV
  c : Nat
abbrev PgF.cells (p : PgF) : List AV := [.int .i64 p.id, .int .i64 p.n, p.v]
abbrev PgF.G (p : PgF) : List Chunk := [ByC p.v 4096 p.c true]
theorem pgfCL : CL PgF.cells 3 := ⟨fun _ => rfl⟩
abbrev PgsC (v : AV) (l : List PgF) : Chunk := RwC v 171 3 PgF.cells l true
/-- the first page of a place -/
def pfind : List PgF → Pl → Nat
  | [], _ => 0
  | p :: l, q => if p.id = q.1 ∧ p.n = q.2 then p.c else pfind l q
abbrev refRowF (sv lv : AV) (left : Int) : AObj := .row ty_ref10_Store 3 false false (.vals [sv, lv, .int .i64 left])
def RefFIs (D : Nat) (s : FiS) (m : Nat) (cs : List Chunk) : Prop :=
  ∃ sv lv ps, cs = [.pt D (refRowF sv lv s.left), VsC sv 3 (s.sizes.map ikey) true, PgsC lv ps, SepC (.ptr D 0) PgF.G ps] ∧ ps.length ≤ m ∧ s.sizes.length ≤ 16 ∧ (keys s.pg).Nodup ∧ ∀ q, pfind ps q = s.cell q
abbrev RefFC (D : Nat) (s : FiS) (m : Nat) : Chunk := pk 24 (.ptr D 0) (RefFIs D s m)
theorem pfind_filter {g : Pl → Bool} : ∀ (l : List PgF) (q : Pl), pfind (l.filter fun p => g (p.id, p.n)) q = if g q = true then pfind l q else 0
  | [], q => by simp [pfind]
  | p :: l, q => by
    have ih := pfind_filter (g := g) l q
    by_cases h : p.id = q.1 ∧ p.n = q.2
    · have e : (p.id, p.n) = q := by rw [h.1, h.2]
      by_cases hg : g q = true
      · rw [List.filter_cons_of_pos (p := fun p : PgF => g (p.id, p.n)) (by simp only [e]; exact hg)]
        simp only [pfind]; rw [if_pos h, if_pos h, if_pos hg]
      · rw [List.filter_cons_of_neg (p := fun p : PgF => g (p.id, p.n)) (by simp only [e]; exact hg), ih, if_neg hg, if_neg hg]
    · by_cases hg : g (p.id, p.n) = true
      · rw [List.filter_cons_of_pos (p := fun p : PgF => g (p.id, p.n)) hg]
        simp only [pfind]; rw [if_neg h, if_neg h]; exact ih
      · rw [List.filter_cons_of_neg (p := fun p : PgF => g (p.id, p.n)) hg, ih]
        simp only [pfind]; rw [if_neg h]
theorem pfind_snoc {p : PgF} : ∀ (l : List PgF) (q : Pl), pfind l (p.id, p.n) = 0 → (∀ x, x ∈ l → ¬ (x.id = p.id ∧ x.n = p.n)) → pfind (l ++ [p]) q = if (p.id, p.n) = q then p.c else pfind l q
  | [], q, _, _ => by
    simp only [List.nil_append, pfind]
    by_cases h : p.id = q.1 ∧ p.n = q.2
    · rw [if_pos h, if_pos (by rw [h.1, h.2])]
    · rw [if_neg h, if_neg (fun e => h (by rw [← e]; exact ⟨rfl, rfl⟩))]
  | x :: l, q, h0, hx => by
    have hn := hx x List.mem_cons_self
    simp only [pfind] at h0
    rw [if_neg hn] at h0
    have ih := pfind_snoc l q h0 fun y hy => hx y (List.mem_cons_of_mem _ hy)
    simp only [List.cons_append, pfind]
    by_cases h : x.id = q.1 ∧ x.n = q.2
    · rw [if_pos h, if_pos h, if_neg (fun e => hn (by rw [← e] at h; exact h))]
    · rw [if_neg h, if_neg h]; exact ih
theorem ref10_Size {id : Int} : Spec R (.f n_ref10_Store_Size) [.ptr D 0, .int .i64 id] [RefFC D s m] fun v Rs => v = .tuple [.int .i64 ((s.size id).getD 0), .bool (s.size id).isSome] ∧ Rs = [RefFC D s m] := by
  refine spec_w (fun _ _ _ x => progI_call rfl rfl x) Njs rfl (fun h F st => ?_); dsimp only [List.cons_append, List.nil_append] at st
  obtain ⟨_, ⟨sv, lv, ps, rfl, hm, h16, hnd, hok⟩, st⟩ := St.unpack st; dsimp only [List.cons_append, List.nil_append] at st
  obtain ⟨hl, hj, _⟩ := FiS.slice st Tk
  cases hs : s.size id with
  | none =>
    have hn := size_none hs
    by_cases h1 : id < 1
    · (repeat (first | (show W _ _ _ _ _ _ (.code (cond _ _ _) :: _) _ _; first | refine W.ct ?_ | refine W.cf ?_) | (show W _ _ _ _ _ _ (.ins (cond _ _ _ :: _) :: _) _ _; first | refine W.gt ?_ | refine W.gf ?_) | (show W _ _ _ _ _ _ [] _ _; refine W.of (.done ?_)) | (apply W.of; constructor <;> first | (show W _ _ _ _ _ _ _ _ _) | (intro (al : Nat) h st; show W _ _ _ _ _ _ _ _ _) | (intro _ h st; show W _ _ _ _ _ _ _ _ _) | exact Sd)))
      exact ⟨_, rfl, _, ⟨rfl, rfl⟩, St.packP (cs := [_, _, _, _]) st ⟨sv, lv, ps, rfl, hm, h16, hnd, hok⟩ Pks⟩
    · (repeat (first | (show W _ _ _ _ _ _ (.code (cond _ _ _) :: _) _ _; first | refine W.ct ?_ | refine W.cf ?_) | (show W _ _ _ _ _ _ (.ins (cond _ _ _ :: _) :: _) _ _; first | refine W.gt ?_ | refine W.gf ?_) | (show W _ _ _ _ _ _ [] _ _; refine W.of (.done ?_)) | (apply W.of; constructor <;> first | (show W _ _ _ _ _ _ _ _ _) | (intro (al : Nat) h st; show W _ _ _ _ _ _ _ _ _) | (intro _ h st; show W _ _ _ _ _ _ _ _ _) | exact Sd)))
      exact ⟨_, rfl, _, ⟨rfl, rfl⟩, St.packP (cs := [_, _, _, _]) st ⟨sv, lv, ps, rfl, hm, h16, hnd, hok⟩ Pks⟩
  | some n =>
    obtain ⟨h1, h2, h3⟩ := size_some hs
    (repeat (first | (show W _ _ _ _ _ _ (.code (cond _ _ _) :: _) _ _; first | refine W.ct ?_ | refine W.cf ?_) | (show W _ _ _ _ _ _ (.ins (cond _ _ _ :: _) :: _) _ _; first | refine W.gt ?_ | refine W.gf ?_) | (show W _ _ _ _ _ _ [] _ _; refine W.of (.done ?_)) | (apply W.of; constructor <;> first | (show W _ _ _ _ _ _ _ _ _) | (intro (al : Nat) h st; show W _ _ _ _ _ _ _ _ _) | (intro _ h st; show W _ _ _ _ _ _ _ _ _) | exact Sd)))
    obtain ⟨gp, gq⟩ := d_vsIdx (l := s.sizes.map ikey) (i := (id - 1).toNat) (kk := .i64) st Tk (by rw [List.length_map]; omega)
    rw [show (((id - 1).toNat : Nat) : Int) = id - 1 by omega] at gp
    (repeat (first | (show W _ _ _ _ _ _ (.code (cond _ _ _) :: _) _ _; first | refine W.ct ?_ | refine W.cf ?_) | (show W _ _ _ _ _ _ (.ins (cond _ _ _ :: _) :: _) _ _; first | refine W.gt ?_ | refine W.gf ?_) | (show W _ _ _ _ _ _ [] _ _; refine W.of (.done ?_)) | (apply W.of; constructor <;> first | (show W _ _ _ _ _ _ _ _ _) | (intro (al : Nat) h st; show W _ _ _ _ _ _ _ _ _) | (intro _ h st; show W _ _ _ _ _ _ _ _ _) | exact Sd))); refine W.do (ho := gp) (w := ?_)
    (repeat (first | (show W _ _ _ _ _ _ (.code (cond _ _ _) :: _) _ _; first | refine W.ct ?_ | refine W.cf ?_) | (show W _ _ _ _ _ _ (.ins (cond _ _ _ :: _) :: _) _ _; first | refine W.gt ?_ | refine W.gf ?_) | (show W _ _ _ _ _ _ [] _ _; refine W.of (.done ?_)) | (apply W.of; constructor <;> first | (show W _ _ _ _ _ _ _ _ _) | (intro (al : Nat) h st; show W _ _ _ _ _ _ _ _ _) | (intro _ h st; show W _ _ _ _ _ _ _ _ _) | exact Sd))); refine W.do (ho := (d_vsLoad (l := s.sizes.map ikey) st Tk (by rw [List.getElem?_map, h3]; rfl))) (w := ?_)
    (repeat (first | (show W _ _ _ _ _ _ (.code (cond _ _ _) :: _) _ _; first | refine W.ct ?_ | refine W.cf ?_) | (show W _ _ _ _ _ _ (.ins (cond _ _ _ :: _) :: _) _ _; first | refine W.gt ?_ | refine W.gf ?_) | (show W _ _ _ _ _ _ [] _ _; refine W.of (.done ?_)) | (apply W.of; constructor <;> first | (show W _ _ _ _ _ _ _ _ _) | (intro (al : Nat) h st; show W _ _ _ _ _ _ _ _ _) | (intro _ h st; show W _ _ _ _ _ _ _ _ _) | exact Sd)))
    exact ⟨_, rfl, _, ⟨rfl, rfl⟩, St.packP (cs := [_, _, _, _]) st ⟨sv, lv, ps, rfl, hm, h16, hnd, hok⟩ Pks⟩
theorem ref10_Size_n {id : Int} (hs : s.size id = none) : Spec R (.f n_ref10_Store_Size) [.ptr D 0, .int .i64 id] [RefFC D s m] fun v Rs => v = .tuple [.int .i64 0, .bool false] ∧ Rs = [RefFC D s m] := by
  have := ref10_Size (D := D) (s := s) (m := m) (id := id); rw [hs] at this; exact this
theorem ref10_Size_s {id z : Int} (hs : s.size id = some z) : Spec R (.f n_ref10_Store_Size) [.ptr D 0, .int .i64 id] [RefFC D s m] fun v Rs => v = .tuple [.int .i64 z, .bool true] ∧ Rs = [RefFC D s m] := by
  have := ref10_Size (D := D) (s := s) (m := m) (id := id); rw [hs] at this; exact this
theorem ref10_Make {n : Int} : Spec R (.f n_ref10_Store_Make) [.ptr D 0, .int .i64 n] [RefFC D s m] fun v Rs => v = .tuple [.int .i64 (s.make n).2.1, .int .i64 (s.make n).2.2] ∧ Rs = [RefFC D (s.make n).1 m] := by
  refine spec_w (fun _ _ _ x => progI_call rfl rfl x) Njs rfl (fun h F st => ?_); dsimp only [List.cons_append, List.nil_append] at st
  unfold FiS.make
  by_cases h1 : n < 0
  · rw [if_pos (.inl h1)]
    (repeat (first | (show W _ _ _ _ _ _ (.code (cond _ _ _) :: _) _ _; first | refine W.ct ?_ | refine W.cf ?_) | (show W _ _ _ _ _ _ (.ins (cond _ _ _ :: _) :: _) _ _; first | refine W.gt ?_ | refine W.gf ?_) | (show W _ _ _ _ _ _ [] _ _; refine W.of (.done ?_)) | (apply W.of; constructor <;> first | (show W _ _ _ _ _ _ _ _ _) | (intro (al : Nat) h st; show W _ _ _ _ _ _ _ _ _) | (intro _ h st; show W _ _ _ _ _ _ _ _ _) | exact Sd)))
    exact ⟨_, rfl, _, ⟨rfl, rfl⟩, st⟩
  · by_cases h2 : n > 4096
    · rw [if_pos (.inr h2)]
      (repeat (first | (show W _ _ _ _ _ _ (.code (cond _ _ _) :: _) _ _; first | refine W.ct ?_ | refine W.cf ?_) | (show W _ _ _ _ _ _ (.ins (cond _ _ _ :: _) :: _) _ _; first | refine W.gt ?_ | refine W.gf ?_) | (show W _ _ _ _ _ _ [] _ _; refine W.of (.done ?_)) | (apply W.of; constructor <;> first | (show W _ _ _ _ _ _ _ _ _) | (intro (al : Nat) h st; show W _ _ _ _ _ _ _ _ _) | (intro _ h st; show W _ _ _ _ _ _ _ _ _) | exact Sd)))
      exact ⟨_, rfl, _, ⟨rfl, rfl⟩, st⟩
    · rw [if_neg (by omega)]
      obtain ⟨_, ⟨sv, lv, ps, rfl, hm, h16, hnd, hok⟩, st⟩ := St.unpack st; dsimp only [List.cons_append, List.nil_append] at st
      obtain ⟨hl, hj, hos⟩ := FiS.slice st Tk
      by_cases h3 : s.sizes.length ≥ 16
      · rw [if_pos h3]
        (repeat (first | (show W _ _ _ _ _ _ (.code (cond _ _ _) :: _) _ _; first | refine W.ct ?_ | refine W.cf ?_) | (show W _ _ _ _ _ _ (.ins (cond _ _ _ :: _) :: _) _ _; first | refine W.gt ?_ | refine W.gf ?_) | (show W _ _ _ _ _ _ [] _ _; refine W.of (.done ?_)) | (apply W.of; constructor <;> first | (show W _ _ _ _ _ _ _ _ _) | (intro (al : Nat) h st; show W _ _ _ _ _ _ _ _ _) | (intro _ h st; show W _ _ _ _ _ _ _ _ _) | exact Sd)))
        exact ⟨_, rfl, _, ⟨rfl, rfl⟩, St.packP (cs := [_, _, _, _]) st ⟨sv, lv, ps, rfl, hm, h16, hnd, hok⟩ Pks⟩
      · rw [if_neg h3]
        (repeat (first | (show W _ _ _ _ _ _ (.code (cond _ _ _) :: _) _ _; first | refine W.ct ?_ | refine W.cf ?_) | (show W _ _ _ _ _ _ (.ins (cond _ _ _ :: _) :: _) _ _; first | refine W.gt ?_ | refine W.gf ?_) | (show W _ _ _ _ _ _ [] _ _; refine W.of (.done ?_)) | (apply W.of; constructor <;> first | (show W _ _ _ _ _ _ _ _ _) | (intro (al : Nat) h st; show W _ _ _ _ _ _ _ _ _) | (intro _ h st; show W _ _ _ _ _ _ _ _ _) | exact Sd)))
        have st := St.vsRow (l := []) (e := 3) st Tk rfl
        (repeat (first | (show W _ _ _ _ _ _ (.code (cond _ _ _) :: _) _ _; first | refine W.ct ?_ | refine W.cf ?_) | (show W _ _ _ _ _ _ (.ins (cond _ _ _ :: _) :: _) _ _; first | refine W.gt ?_ | refine W.gf ?_) | (show W _ _ _ _ _ _ [] _ _; refine W.of (.done ?_)) | (apply W.of; constructor <;> first | (show W _ _ _ _ _ _ _ _ _) | (intro (al : Nat) h st; show W _ _ _ _ _ _ _ _ _) | (intro _ h st; show W _ _ _ _ _ _ _ _ _) | exact Sd))); refine W.ef (ho := (e_vsAppend (l := []) (l' := s.sizes.map ikey) st Tk Tk (by simp; omega) (by simp; omega))) (w := ?_); rintro vv h ⟨bj, bl, st⟩; refine nj ?_
        have bs := okSame_sl bl
        obtain ⟨l1, rfl⟩ : ∃ y, y = vv := ⟨_, rfl⟩
        (repeat (first | (show W _ _ _ _ _ _ (.code (cond _ _ _) :: _) _ _; first | refine W.ct ?_ | refine W.cf ?_) | (show W _ _ _ _ _ _ (.ins (cond _ _ _ :: _) :: _) _ _; first | refine W.gt ?_ | refine W.gf ?_) | (show W _ _ _ _ _ _ [] _ _; refine W.of (.done ?_)) | (apply W.of; constructor <;> first | (show W _ _ _ _ _ _ _ _ _) | (intro (al : Nat) h st; show W _ _ _ _ _ _ _ _ _) | (intro _ h st; show W _ _ _ _ _ _ _ _ _) | exact Sd)))
        have st := St.vsRow (l := [.int .i64 n]) (e := 3) st Tk rfl
        (repeat (first | (show W _ _ _ _ _ _ (.code (cond _ _ _) :: _) _ _; first | refine W.ct ?_ | refine W.cf ?_) | (show W _ _ _ _ _ _ (.ins (cond _ _ _ :: _) :: _) _ _; first | refine W.gt ?_ | refine W.gf ?_) | (show W _ _ _ _ _ _ [] _ _; refine W.of (.done ?_)) | (apply W.of; constructor <;> first | (show W _ _ _ _ _ _ _ _ _) | (intro (al : Nat) h st; show W _ _ _ _ _ _ _ _ _) | (intro _ h st; show W _ _ _ _ _ _ _ _ _) | exact Sd))); refine W.ef (ho := (e_vsAppend (s := l1) (l' := [.int .i64 n]) st Tk Tk (by simp; omega) (by simp; omega))) (w := ?_); rintro vv h ⟨cj, cl, st⟩; refine nj ?_
        have cs := okSame_sl cl
        obtain ⟨l2, rfl⟩ : ∃ y, y = vv := ⟨_, rfl⟩
        have cl' : sliceLen l2 = some (s.sizes.length + 1) := by rw [cl]; simp
        (repeat (first | (show W _ _ _ _ _ _ (.code (cond _ _ _) :: _) _ _; first | refine W.ct ?_ | refine W.cf ?_) | (show W _ _ _ _ _ _ (.ins (cond _ _ _ :: _) :: _) _ _; first | refine W.gt ?_ | refine W.gf ?_) | (show W _ _ _ _ _ _ [] _ _; refine W.of (.done ?_)) | (apply W.of; constructor <;> first | (show W _ _ _ _ _ _ _ _ _) | (intro (al : Nat) h st; show W _ _ _ _ _ _ _ _ _) | (intro _ h st; show W _ _ _ _ _ _ _ _ _) | exact Sd))); refine W.ef0 (ho := (e_storeV (i := 0) st Tk rfl (by simp) (sl_dat cl))) (w := ?_); rintro _ h ⟨_, st⟩
        (repeat (first | (show W _ _ _ _ _ _ (.code (cond _ _ _) :: _) _ _; first | refine W.ct ?_ | refine W.cf ?_) | (show W _ _ _ _ _ _ (.ins (cond _ _ _ :: _) :: _) _ _; first | refine W.gt ?_ | refine W.gf ?_) | (show W _ _ _ _ _ _ [] _ _; refine W.of (.done ?_)) | (apply W.of; constructor <;> first | (show W _ _ _ _ _ _ _ _ _) | (intro (al : Nat) h st; show W _ _ _ _ _ _ _ _ _) | (intro _ h st; show W _ _ _ _ _ _ _ _ _) | exact Sd)))
        rw [show ([] ++ s.sizes.map ikey ++ [.int .i64 n]) = (s.sizes ++ [n]).map ikey by rw [List.map_append]; rfl] at st
        have st := St.packP (t := 24) (k := .ptr D 0) (P := RefFIs D { s with sizes := s.sizes ++ [n] } m) st ⟨l2, lv, ps, rfl, hm, by simp; omega, hnd, hok⟩ Pks
        exact ⟨_, rfl, _, ⟨rfl, rfl⟩, st.sel Sels⟩
theorem ref10_Plan {n : Int} : Spec R (.f n_ref10_Store_Plan) [.ptr D 0, .int .i64 n] [RefFC D s m] fun v Rs => v = .int .i64 (if n < 0 then 2 else 0) ∧ Rs = [RefFC D (if n < 0 then s else { s with left := n }) m] := by
  refine spec_w (fun _ _ _ x => progI_call rfl rfl x) Njs rfl (fun h F st => ?_); dsimp only [List.cons_append, List.nil_append] at st
  by_cases h1 : n < 0
  · rw [if_pos h1, if_pos h1]
    (repeat (first | (show W _ _ _ _ _ _ (.code (cond _ _ _) :: _) _ _; first | refine W.ct ?_ | refine W.cf ?_) | (show W _ _ _ _ _ _ (.ins (cond _ _ _ :: _) :: _) _ _; first | refine W.gt ?_ | refine W.gf ?_) | (show W _ _ _ _ _ _ [] _ _; refine W.of (.done ?_)) | (apply W.of; constructor <;> first | (show W _ _ _ _ _ _ _ _ _) | (intro (al : Nat) h st; show W _ _ _ _ _ _ _ _ _) | (intro _ h st; show W _ _ _ _ _ _ _ _ _) | exact Sd)))
    exact ⟨_, rfl, _, ⟨rfl, rfl⟩, st⟩
  · rw [if_neg h1, if_neg h1]
    obtain ⟨_, ⟨sv, lv, ps, rfl, hm, h16, hnd, hok⟩, st⟩ := St.unpack st; dsimp only [List.cons_append, List.nil_append] at st
    (repeat (first | (show W _ _ _ _ _ _ (.code (cond _ _ _) :: _) _ _; first | refine W.ct ?_ | refine W.cf ?_) | (show W _ _ _ _ _ _ (.ins (cond _ _ _ :: _) :: _) _ _; first | refine W.gt ?_ | refine W.gf ?_) | (show W _ _ _ _ _ _ [] _ _; refine W.of (.done ?_)) | (apply W.of; constructor <;> first | (show W _ _ _ _ _ _ _ _ _) | (intro (al : Nat) h st; show W _ _ _ _ _ _ _ _ _) | (intro _ h st; show W _ _ _ _ _ _ _ _ _) | exact Sd)))
    exact ⟨_, rfl, _, ⟨rfl, rfl⟩, St.packP (cs := [_, _, _, _]) st ⟨sv, lv, ps, rfl, hm, h16, hnd, hok⟩ Pks⟩
theorem ref10_fails {sv lv : AV} (h0 : 0 ≤ s.left) (h1 : s.left ≤ 9223372036854775807) : Spec R (.f n_ref10_Store_fails) [.ptr D 0] [.pt D (refRowF sv lv s.left)] fun v Rs => v = .bool s.bad ∧ Rs = [.pt D (refRowF sv lv s.tick.left)] := by
  refine spec_w (fun _ _ _ x => progI_call rfl rfl x) Njs rfl (fun h F st => ?_); dsimp only [List.cons_append, List.nil_append] at st
  unfold FiS.tick FiS.bad
  by_cases h : s.left = 0
  · rw [decide_eq_false (by omega), if_neg (by omega)]
    (repeat (first | (show W _ _ _ _ _ _ (.code (cond _ _ _) :: _) _ _; first | refine W.ct ?_ | refine W.cf ?_) | (show W _ _ _ _ _ _ (.ins (cond _ _ _ :: _) :: _) _ _; first | refine W.gt ?_ | refine W.gf ?_) | (show W _ _ _ _ _ _ [] _ _; refine W.of (.done ?_)) | (apply W.of; constructor <;> first | (show W _ _ _ _ _ _ _ _ _) | (intro (al : Nat) h st; show W _ _ _ _ _ _ _ _ _) | (intro _ h st; show W _ _ _ _ _ _ _ _ _) | exact Sd)))
    exact ⟨_, rfl, _, ⟨rfl, rfl⟩, st⟩
  · rw [if_pos (by omega)]
    (repeat (first | (show W _ _ _ _ _ _ (.code (cond _ _ _) :: _) _ _; first | refine W.ct ?_ | refine W.cf ?_) | (show W _ _ _ _ _ _ (.ins (cond _ _ _ :: _) :: _) _ _; first | refine W.gt ?_ | refine W.gf ?_) | (show W _ _ _ _ _ _ [] _ _; refine W.of (.done ?_)) | (apply W.of; constructor <;> first | (show W _ _ _ _ _ _ _ _ _) | (intro (al : Nat) h st; show W _ _ _ _ _ _ _ _ _) | (intro _ h st; show W _ _ _ _ _ _ _ _ _) | exact Sd)))
    refine ⟨_, rfl, _, ⟨?_, rfl⟩, st⟩
    by_cases h2 : s.left = 1
    · simp [retA, h2]
    · have e1 : (s.left - 1 == 0) = false := by rw [beq_eq_false_iff_ne]; omega
      have e2 : decide (s.left = 1) = false := decide_eq_false h2
      simp only [retA, e2]
      rw [e1]
theorem beqSelf (n : Int) : (n == n) = true := beq_self_eq_true n
/-- is a page left out? -/
def outQ (id n : Int) (all : Bool) (q : Pl) : Bool := decide (q.1 = id) && (decide (q.2 = n) || all && decide (q.2 ≥ n))
def keepF (id n : Int) (all : Bool) (l : List PgF) : List PgF := l.filter fun p => !outQ id n all (p.id, p.n)
theorem keepF_len (id n : Int) (all : Bool) (l : List PgF) : (keepF id n all l).length ≤ l.length := List.length_filter_le _ _
theorem keepF_snoc {id n : Int} {all : Bool} {l : List PgF} {p : PgF} : keepF id n all (l ++ [p]) = if outQ id n all (p.id, p.n) = true then keepF id n all l else keepF id n all l ++ [p] := by
  unfold keepF
  rw [List.filter_append]
  by_cases h : outQ id n all (p.id, p.n) = true
  · rw [if_pos h, List.filter_cons_of_neg (by simp [h]), List.filter_nil, List.append_nil]
  · rw [if_neg h, List.filter_cons_of_pos (by simp [h]), List.filter_nil]
theorem take_snoc {α : Type} {l : List α} {i : Nat} {a : α} (h : l[i]? = some a) : l.take (i + 1) = l.take i ++ [a] := by
  have := (List.getElem?_eq_some_iff.1 h)
  obtain ⟨h1, h2⟩ := this
  rw [List.take_add_one, h]; rfl
structure WoS where
  i : Nat
  out : AV
set_option maxRecDepth 4000 in
theorem ref10_without {sv lv : AV} {id n left : Int} {all : Bool} {ps : List PgF} (hps : ps.length ≤ 1000) : Spec R (.f n_ref10_Store_without) [.ptr D 0, .int .i64 id, .int .i64 n, .bool all] [.pt D (refRowF sv lv left), PgsC lv ps] fun v Rs =>
    v.notJunk = some v ∧ sliceLen v = some (keepF id n all ps).length ∧ Rs = [PgsC v (keepF id n all ps), .pt D (refRowF sv lv left), PgsC lv ps] := by
  refine spec_w (fun _ _ _ x => progI_call rfl rfl x) Njs rfl (fun h F st => ?_); dsimp only [List.cons_append, List.nil_append] at st
  obtain ⟨hl, hj, hos⟩ := St.rw (v := lv) (l := ps) st Tk
  (repeat (first | (show W _ _ _ _ _ _ (.code (cond _ _ _) :: _) _ _; first | refine W.ct ?_ | refine W.cf ?_) | (show W _ _ _ _ _ _ (.ins (cond _ _ _ :: _) :: _) _ _; first | refine W.gt ?_ | refine W.gf ?_) | (show W _ _ _ _ _ _ [] _ _; refine W.of (.done ?_)) | (apply W.of; constructor <;> first | (show W _ _ _ _ _ _ _ _ _) | (intro (al : Nat) h st; show W _ _ _ _ _ _ _ _ _) | (intro _ h st; show W _ _ _ _ _ _ _ _ _) | exact Sd)))
  have st := st.rwNil 171 3 PgF.cells true
  refine W.loop (fun y : WoS => [(1, .int .i64 id), (2, .int .i64 n), (3, .bool all), (9, y.out), (15, lv), (16, .int .i64 ps.length), (17, .int .i64 y.i)]) (fun y => PgsC y.out (keepF id n all (ps.take y.i)) :: .pt D (refRowF sv lv left) :: PgsC lv ps :: F)
    (fun y => y.i ≤ ps.length) (fun y => ps.length - y.i) ⟨0, .nilsl⟩ (small_rounds (by simp only; omega)) Sbs (st.sel Sels) (Nat.zero_le _) ?_
  clear st
  intro ⟨i, out⟩ h hi st
  dsimp only at hi st ⊢
  obtain ⟨ol, oj, oos⟩ := St.rw (v := out) st Tk
  have hk := keepF_len id n all (ps.take i)
  rw [List.length_take] at hk
  by_cases hlt : i < ps.length
  · obtain ⟨a, ha⟩ : ∃ a, ps[i]? = some a := ⟨ps[i], by simp [hlt]⟩
    obtain ⟨gp, gq⟩ := d_rwIdx (v := lv) (l := ps) (kk := .i64) st Tk hlt
    (repeat (first | (show W _ _ _ _ _ _ (.code (cond _ _ _) :: _) _ _; first | refine W.ct ?_ | refine W.cf ?_) | (show W _ _ _ _ _ _ (.ins (cond _ _ _ :: _) :: _) _ _; first | refine W.gt ?_ | refine W.gf ?_) | (show W _ _ _ _ _ _ [] _ _; refine W.of (.done ?_)) | (apply W.of; constructor <;> first | (show W _ _ _ _ _ _ _ _ _) | (intro (al : Nat) h st; show W _ _ _ _ _ _ _ _ _) | (intro _ h st; show W _ _ _ _ _ _ _ _ _) | exact Sd))); refine W.do (ho := gp) (w := ?_)
    (repeat (first | (show W _ _ _ _ _ _ (.code (cond _ _ _) :: _) _ _; first | refine W.ct ?_ | refine W.cf ?_) | (show W _ _ _ _ _ _ (.ins (cond _ _ _ :: _) :: _) _ _; first | refine W.gt ?_ | refine W.gf ?_) | (show W _ _ _ _ _ _ [] _ _; refine W.of (.done ?_)) | (apply W.of; constructor <;> first | (show W _ _ _ _ _ _ _ _ _) | (intro (al : Nat) h st; show W _ _ _ _ _ _ _ _ _) | (intro _ h st; show W _ _ _ _ _ _ _ _ _) | exact Sd))); refine W.do (ho := (d_rwLoad pgfCL st Tk ha)) (w := ?_)
    (repeat (first | (show W _ _ _ _ _ _ (.code (cond _ _ _) :: _) _ _; first | refine W.ct ?_ | refine W.cf ?_) | (show W _ _ _ _ _ _ (.ins (cond _ _ _ :: _) :: _) _ _; first | refine W.gt ?_ | refine W.gf ?_) | (show W _ _ _ _ _ _ [] _ _; refine W.of (.done ?_)) | (apply W.of; constructor <;> first | (show W _ _ _ _ _ _ _ _ _) | (intro (al : Nat) h st; show W _ _ _ _ _ _ _ _ _) | (intro _ h st; show W _ _ _ _ _ _ _ _ _) | exact Sd)))
    have et := take_snoc ha
    by_cases hq : outQ id n all (a.id, a.n) = true
    · have ek : keepF id n all (ps.take (i + 1)) = keepF id n all (ps.take i) := by rw [et, keepF_snoc, if_pos hq]
      simp only [outQ, Bool.and_eq_true, Bool.or_eq_true, decide_eq_true_eq] at hq
      obtain ⟨e1, e2⟩ := hq
      by_cases e3 : a.n = n
      · (repeat (first | (show W _ _ _ _ _ _ (.code (cond _ _ _) :: _) _ _; first | refine W.ct ?_ | refine W.cf ?_) | (show W _ _ _ _ _ _ (.ins (cond _ _ _ :: _) :: _) _ _; first | refine W.gt ?_ | refine W.gf ?_) | (show W _ _ _ _ _ _ [] _ _; refine W.of (.done ?_)) | (apply W.of; constructor <;> first | (show W _ _ _ _ _ _ _ _ _) | (intro (al : Nat) h st; show W _ _ _ _ _ _ _ _ _) | (intro _ h st; show W _ _ _ _ _ _ _ _ _) | exact Sd)))
        refine W.of (.lp ?_)
        exact ⟨⟨i + 1, out⟩, by simp only; omega, hlt, Sbs, by dsimp only; rw [ek]; exact st.sel Sels⟩
      · obtain ⟨rfl, e4⟩ := e2.resolve_left e3
        (repeat (first | (show W _ _ _ _ _ _ (.code (cond _ _ _) :: _) _ _; first | refine W.ct ?_ | refine W.cf ?_) | (show W _ _ _ _ _ _ (.ins (cond _ _ _ :: _) :: _) _ _; first | refine W.gt ?_ | refine W.gf ?_) | (show W _ _ _ _ _ _ [] _ _; refine W.of (.done ?_)) | (apply W.of; constructor <;> first | (show W _ _ _ _ _ _ _ _ _) | (intro (al : Nat) h st; show W _ _ _ _ _ _ _ _ _) | (intro _ h st; show W _ _ _ _ _ _ _ _ _) | exact Sd)))
        refine W.of (.lp ?_)
        exact ⟨⟨i + 1, out⟩, by simp only; omega, hlt, Sbs, by dsimp only; rw [ek]; exact st.sel Sels⟩
    · have ek : keepF id n all (ps.take (i + 1)) = keepF id n all (ps.take i) ++ [a] := by rw [et, keepF_snoc, if_neg hq]
      have hk2 : a.id ≠ id ∨ (a.id = id ∧ a.n ≠ n ∧ all = false) ∨ (a.id = id ∧ a.n ≠ n ∧ all = true ∧ ¬ a.n ≥ n) := by
        simp only [outQ, Bool.and_eq_true, Bool.or_eq_true, decide_eq_true_eq, not_and, not_or] at hq
        by_cases e1 : a.id = id
        · obtain ⟨e2, e3⟩ := hq e1
          cases all with
          | false => exact .inr (.inl ⟨e1, e2, rfl⟩)
          | true => exact .inr (.inr ⟨e1, e2, rfl, e3 rfl⟩)
        · exact .inl e1
      rcases hk2 with e1 | ⟨e1, e2, rfl⟩ | ⟨e1, e2, rfl, e3⟩
      all_goals (
        (repeat (first | (show W _ _ _ _ _ _ (.code (cond _ _ _) :: _) _ _; first | refine W.ct ?_ | refine W.cf ?_) | (show W _ _ _ _ _ _ (.ins (cond _ _ _ :: _) :: _) _ _; first | refine W.gt ?_ | refine W.gf ?_) | (show W _ _ _ _ _ _ [] _ _; refine W.of (.done ?_)) | (apply W.of; constructor <;> first | (show W _ _ _ _ _ _ _ _ _) | (intro (al : Nat) h st; show W _ _ _ _ _ _ _ _ _) | (intro _ h st; show W _ _ _ _ _ _ _ _ _) | exact Sd)))
        have st := St.rwRow (e := 171) pgfCL [a] st Tk rfl rfl
        (repeat (first | (show W _ _ _ _ _ _ (.code (cond _ _ _) :: _) _ _; first | refine W.ct ?_ | refine W.cf ?_) | (show W _ _ _ _ _ _ (.ins (cond _ _ _ :: _) :: _) _ _; first | refine W.gt ?_ | refine W.gf ?_) | (show W _ _ _ _ _ _ [] _ _; refine W.of (.done ?_)) | (apply W.of; constructor <;> first | (show W _ _ _ _ _ _ _ _ _) | (intro (al : Nat) h st; show W _ _ _ _ _ _ _ _ _) | (intro _ h st; show W _ _ _ _ _ _ _ _ _) | exact Sd))); refine W.ef (ho := (e_rwAppend (s := out) (l' := [a]) pgfCL rfl st Tk Tk (by simp; omega) (by simp; omega))) (w := ?_); rintro vv h ⟨bj, bl, st⟩; refine nj ?_
        (repeat (first | (show W _ _ _ _ _ _ (.code (cond _ _ _) :: _) _ _; first | refine W.ct ?_ | refine W.cf ?_) | (show W _ _ _ _ _ _ (.ins (cond _ _ _ :: _) :: _) _ _; first | refine W.gt ?_ | refine W.gf ?_) | (show W _ _ _ _ _ _ [] _ _; refine W.of (.done ?_)) | (apply W.of; constructor <;> first | (show W _ _ _ _ _ _ _ _ _) | (intro (al : Nat) h st; show W _ _ _ _ _ _ _ _ _) | (intro _ h st; show W _ _ _ _ _ _ _ _ _) | exact Sd)))
        rw [← ek] at st
        refine W.of (.lp ?_)
        exact ⟨⟨i + 1, vv⟩, by simp only; omega, hlt, Sbs, st.sel Sels⟩)
  · have e : i = ps.length := by omega
    subst e
    rw [List.take_length] at st ol
    (repeat (first | (show W _ _ _ _ _ _ (.code (cond _ _ _) :: _) _ _; first | refine W.ct ?_ | refine W.cf ?_) | (show W _ _ _ _ _ _ (.ins (cond _ _ _ :: _) :: _) _ _; first | refine W.gt ?_ | refine W.gf ?_) | (show W _ _ _ _ _ _ [] _ _; refine W.of (.done ?_)) | (apply W.of; constructor <;> first | (show W _ _ _ _ _ _ _ _ _) | (intro (al : Nat) h st; show W _ _ _ _ _ _ _ _ _) | (intro _ h st; show W _ _ _ _ _ _ _ _ _) | exact Sd)))
    exact ⟨_, rfl, _, ⟨oj, ol, rfl⟩, st⟩
theorem pfind_at {a : PgF} {q : Pl} : ∀ {l : List PgF} {i : Nat}, (∀ (j : Nat) (b : PgF), j < i → l[j]? = some b → ¬ (b.id = q.1 ∧ b.n = q.2)) → l[i]? = some a → a.id = q.1 ∧ a.n = q.2 → pfind l q = a.c
  | [], i, _, h, _ => by simp at h
  | b :: l, 0, _, h, hq => by
    simp only [List.getElem?_cons_zero, Option.some.injEq] at h
    subst h
    simp only [pfind]; rw [if_pos hq]
  | b :: l, i + 1, hn, h, hq => by
    simp only [pfind]; rw [if_neg (hn 0 b (by omega) rfl)]
    exact pfind_at (i := i) (fun j c hj hc => hn (j + 1) c (by omega) (by simpa using hc)) (by simpa using h) hq
theorem pfind_none {q : Pl} : ∀ {l : List PgF}, (∀ (j : Nat) (b : PgF), l[j]? = some b → ¬ (b.id = q.1 ∧ b.n = q.2)) → pfind l q = 0
  | [], _ => rfl
  | b :: l, hn => by
    simp only [pfind]; rw [if_neg (hn 0 b rfl)]
    exact pfind_none fun j c hc => hn (j + 1) c (by simpa using hc)
theorem at_n {id n : Int} (hs : s.size id = none) : s.at' id n true = ⟨s, 7⟩ ∧ s.rk id n = (0, 0) := by
  have e : s.at' id n true = ⟨s, 7⟩ := by unfold FiS.at'; rw [hs, if_pos (show (none : Option Int).isNone = true from rfl)]
  exact ⟨e, by unfold FiS.rk; rw [e, if_neg (by simp)]⟩
theorem at_2 {id n z : Int} {g : Bool} (hs : s.size id = some z) (h : ¬ (0 ≤ n ∧ n < z ∧ g = true)) : s.at' id n g = ⟨s, 2⟩ := by
  unfold FiS.at'; rw [hs, if_neg (by simp), if_neg (by rw [ok_some hs, decide_eq_true_eq]; exact fun x => h ⟨x.1.1, x.1.2, x.2⟩)]
theorem at_2r {id n z : Int} (hs : s.size id = some z) (h : ¬ (0 ≤ n ∧ n < z)) : s.at' id n true = ⟨s, 2⟩ ∧ s.rk id n = (0, 0) := by
  have e := at_2 (g := true) hs (fun x => h ⟨x.1, x.2.1⟩)
  exact ⟨e, by unfold FiS.rk; rw [e, if_neg (by simp)]⟩
theorem at_6r {id n z : Int} (hs : s.size id = some z) (h : 0 ≤ n ∧ n < z) (hb : s.bad = true) : s.at' id n true = ⟨s.tick, 6⟩ ∧ s.rk id n = (0, 0) := by
  have e := at_bad (s := s) (id := id) (n := n) (by rw [ok_some hs]; exact decide_eq_true h) (of_decide_eq_true hb)
  exact ⟨e, by unfold FiS.rk; rw [e, if_neg (by simp)]⟩
theorem at_0r {id n z : Int} (hs : s.size id = some z) (h : 0 ≤ n ∧ n < z) (hb : s.bad = false) : s.at' id n true = ⟨s.tick, 0⟩ ∧ s.rk id n = (4096, s.cell (id, n)) := by
  have e := at_ok (s := s) (id := id) (n := n) (by rw [ok_some hs]; exact decide_eq_true h) (of_decide_eq_false hb)
  exact ⟨e, by unfold FiS.rk; rw [e, if_pos rfl]⟩
theorem tick_same : s.tick.sizes = s.sizes ∧ s.tick.pg = s.pg := by unfold FiS.tick; split <;> exact ⟨rfl, rfl⟩
set_option maxRecDepth 4000 in
theorem ref10_Read {id n : Int} (h0 : 0 ≤ s.left) (h1 : s.left ≤ 9223372036854775807) (hm : m ≤ 1000) : Spec R (.f n_ref10_Store_Read) [.ptr D 0, .int .i64 id, .int .i64 n] [RefFC D s m] fun r Rs =>
    ∃ x, r = .tuple [x, .int .i64 (s.at' id n true).e] ∧ x.notJunk = some x ∧ sliceLen x = some (s.rk id n).1 ∧ Rs = [ByC x (s.rk id n).1 (s.rk id n).2 true, RefFC D (s.at' id n true).s m] := by
  refine spec_w (fun _ _ _ x => progI_call rfl rfl x) Njs rfl (fun h F st => ?_); dsimp only [List.cons_append, List.nil_append] at st
  cases hs : s.size id with
  | none =>
    obtain ⟨e1, e2⟩ := at_n (n := n) hs
    rw [e1, e2]
    (repeat (first | (show W _ _ _ _ _ _ (.code (cond _ _ _) :: _) _ _; first | refine W.ct ?_ | refine W.cf ?_) | (show W _ _ _ _ _ _ (.ins (cond _ _ _ :: _) :: _) _ _; first | refine W.gt ?_ | refine W.gf ?_) | (show W _ _ _ _ _ _ [] _ _; refine W.of (.done ?_)) | (apply W.of; constructor <;> first | (show W _ _ _ _ _ _ _ _ _) | (intro (al : Nat) h st; show W _ _ _ _ _ _ _ _ _) | (intro _ h st; show W _ _ _ _ _ _ _ _ _) | exact Sd))); refine W.call (hs := (ref10_Size_n hs)) (w := ?_); rintro vv _ ⟨rfl, rfl⟩ h st; refine nj ?_; dsimp only [List.cons_append, List.nil_append] at st
    (repeat (first | (show W _ _ _ _ _ _ (.code (cond _ _ _) :: _) _ _; first | refine W.ct ?_ | refine W.cf ?_) | (show W _ _ _ _ _ _ (.ins (cond _ _ _ :: _) :: _) _ _; first | refine W.gt ?_ | refine W.gf ?_) | (show W _ _ _ _ _ _ [] _ _; refine W.of (.done ?_)) | (apply W.of; constructor <;> first | (show W _ _ _ _ _ _ _ _ _) | (intro (al : Nat) h st; show W _ _ _ _ _ _ _ _ _) | (intro _ h st; show W _ _ _ _ _ _ _ _ _) | exact Sd)))
    exact ⟨_, rfl, _, ⟨_, rfl, rfl, rfl, rfl⟩, st.byNil true⟩
  | some z =>
    (repeat (first | (show W _ _ _ _ _ _ (.code (cond _ _ _) :: _) _ _; first | refine W.ct ?_ | refine W.cf ?_) | (show W _ _ _ _ _ _ (.ins (cond _ _ _ :: _) :: _) _ _; first | refine W.gt ?_ | refine W.gf ?_) | (show W _ _ _ _ _ _ [] _ _; refine W.of (.done ?_)) | (apply W.of; constructor <;> first | (show W _ _ _ _ _ _ _ _ _) | (intro (al : Nat) h st; show W _ _ _ _ _ _ _ _ _) | (intro _ h st; show W _ _ _ _ _ _ _ _ _) | exact Sd))); refine W.call (hs := (ref10_Size_s hs)) (w := ?_); rintro vv _ ⟨rfl, rfl⟩ h st; refine nj ?_; dsimp only [List.cons_append, List.nil_append] at st
    by_cases c1 : n < 0
    · obtain ⟨e1, e2⟩ := at_2r (n := n) hs (by omega)
      rw [e1, e2]
      (repeat (first | (show W _ _ _ _ _ _ (.code (cond _ _ _) :: _) _ _; first | refine W.ct ?_ | refine W.cf ?_) | (show W _ _ _ _ _ _ (.ins (cond _ _ _ :: _) :: _) _ _; first | refine W.gt ?_ | refine W.gf ?_) | (show W _ _ _ _ _ _ [] _ _; refine W.of (.done ?_)) | (apply W.of; constructor <;> first | (show W _ _ _ _ _ _ _ _ _) | (intro (al : Nat) h st; show W _ _ _ _ _ _ _ _ _) | (intro _ h st; show W _ _ _ _ _ _ _ _ _) | exact Sd)))
      exact ⟨_, rfl, _, ⟨_, rfl, rfl, rfl, rfl⟩, st.byNil true⟩
    · by_cases c2 : n ≥ z
      · obtain ⟨e1, e2⟩ := at_2r (n := n) hs (by omega)
        rw [e1, e2]
        (repeat (first | (show W _ _ _ _ _ _ (.code (cond _ _ _) :: _) _ _; first | refine W.ct ?_ | refine W.cf ?_) | (show W _ _ _ _ _ _ (.ins (cond _ _ _ :: _) :: _) _ _; first | refine W.gt ?_ | refine W.gf ?_) | (show W _ _ _ _ _ _ [] _ _; refine W.of (.done ?_)) | (apply W.of; constructor <;> first | (show W _ _ _ _ _ _ _ _ _) | (intro (al : Nat) h st; show W _ _ _ _ _ _ _ _ _) | (intro _ h st; show W _ _ _ _ _ _ _ _ _) | exact Sd)))
        exact ⟨_, rfl, _, ⟨_, rfl, rfl, rfl, rfl⟩, st.byNil true⟩
      · obtain ⟨_, ⟨sv, lv, ps, rfl, hmm, h16, hnd, hok⟩, st⟩ := St.unpack st; dsimp only [List.cons_append, List.nil_append] at st
        (repeat (first | (show W _ _ _ _ _ _ (.code (cond _ _ _) :: _) _ _; first | refine W.ct ?_ | refine W.cf ?_) | (show W _ _ _ _ _ _ (.ins (cond _ _ _ :: _) :: _) _ _; first | refine W.gt ?_ | refine W.gf ?_) | (show W _ _ _ _ _ _ [] _ _; refine W.of (.done ?_)) | (apply W.of; constructor <;> first | (show W _ _ _ _ _ _ _ _ _) | (intro (al : Nat) h st; show W _ _ _ _ _ _ _ _ _) | (intro _ h st; show W _ _ _ _ _ _ _ _ _) | exact Sd))); refine W.call (hs := (ref10_fails h0 h1)) (w := ?_); rintro vv _ ⟨rfl, rfl⟩ h st; refine nj ?_; dsimp only [List.cons_append, List.nil_append] at st
        obtain ⟨t1, t2⟩ := tick_same (s := s)
        cases hb : s.bad with
        | true =>
          obtain ⟨e1, e2⟩ := at_6r (n := n) hs (by omega) hb
          rw [e1, e2]
          (repeat (first | (show W _ _ _ _ _ _ (.code (cond _ _ _) :: _) _ _; first | refine W.ct ?_ | refine W.cf ?_) | (show W _ _ _ _ _ _ (.ins (cond _ _ _ :: _) :: _) _ _; first | refine W.gt ?_ | refine W.gf ?_) | (show W _ _ _ _ _ _ [] _ _; refine W.of (.done ?_)) | (apply W.of; constructor <;> first | (show W _ _ _ _ _ _ _ _ _) | (intro (al : Nat) h st; show W _ _ _ _ _ _ _ _ _) | (intro _ h st; show W _ _ _ _ _ _ _ _ _) | exact Sd)))
          have st := St.packP (t := 24) (k := .ptr D 0) (P := RefFIs D s.tick m) (cs := [.pt D (refRowF sv lv s.tick.left), VsC sv 3 (s.sizes.map ikey) true, PgsC lv ps, SepC (.ptr D 0) PgF.G ps]) st ⟨sv, lv, ps, by rw [t1], hmm, by rw [t1]; exact h16, by rw [t2]; exact hnd, fun q => by rw [hok q]; unfold FiS.cell; rw [t2]⟩ Pks
          exact ⟨_, rfl, _, ⟨_, rfl, rfl, rfl, rfl⟩, st.byNil true⟩
        | false =>
          obtain ⟨e1, e2⟩ := at_0r (n := n) hs (by omega) hb
          rw [e1, e2]
          obtain ⟨hl, hj, hos⟩ := St.rw (v := lv) (l := ps) st Tk
          (repeat (first | (show W _ _ _ _ _ _ (.code (cond _ _ _) :: _) _ _; first | refine W.ct ?_ | refine W.cf ?_) | (show W _ _ _ _ _ _ (.ins (cond _ _ _ :: _) :: _) _ _; first | refine W.gt ?_ | refine W.gf ?_) | (show W _ _ _ _ _ _ [] _ _; refine W.of (.done ?_)) | (apply W.of; constructor <;> first | (show W _ _ _ _ _ _ _ _ _) | (intro (al : Nat) h st; show W _ _ _ _ _ _ _ _ _) | (intro _ h st; show W _ _ _ _ _ _ _ _ _) | exact Sd)))
          refine W.loop (fun i : Nat => [(1, .int .i64 id), (2, .int .i64 n), (35, lv), (36, .int .i64 ps.length), (37, .int .i64 i)]) (fun _ => .pt D (refRowF sv lv s.tick.left) :: VsC sv 3 (s.sizes.map ikey) true :: PgsC lv ps :: SepC (.ptr D 0) PgF.G ps :: F)
            (fun i => i ≤ ps.length ∧ ∀ j b, j < i → ps[j]? = some b → ¬ (b.id = id ∧ b.n = n)) (fun i => ps.length - i) 0 (small_rounds (by omega)) Sbs (st.sel Sels) ⟨Nat.zero_le _, fun j b h => by omega⟩ ?_
          clear st
          intro i h ⟨hi, hnn⟩ st
          have back : ∀ {h : AHeap} {L R : List Chunk}, St h L → Pick L [.pt D (refRowF sv lv s.tick.left), VsC sv 3 (s.sizes.map ikey) true, PgsC lv ps, SepC (.ptr D 0) PgF.G ps] R → St h (RefFC D s.tick m :: R) := fun st pk =>
            St.packP (t := 24) (k := .ptr D 0) (P := RefFIs D s.tick m) st ⟨sv, lv, ps, by rw [t1], hmm, by rw [t1]; exact h16, by rw [t2]; exact hnd, fun q => by rw [hok q]; unfold FiS.cell; rw [t2]⟩ pk
          by_cases hlt : i < ps.length
          · obtain ⟨a, ha⟩ : ∃ a, ps[i]? = some a := ⟨ps[i], by simp [hlt]⟩
            obtain ⟨gp, gq⟩ := d_rwIdx (v := lv) (l := ps) (kk := .i64) st Tk hlt
            (repeat (first | (show W _ _ _ _ _ _ (.code (cond _ _ _) :: _) _ _; first | refine W.ct ?_ | refine W.cf ?_) | (show W _ _ _ _ _ _ (.ins (cond _ _ _ :: _) :: _) _ _; first | refine W.gt ?_ | refine W.gf ?_) | (show W _ _ _ _ _ _ [] _ _; refine W.of (.done ?_)) | (apply W.of; constructor <;> first | (show W _ _ _ _ _ _ _ _ _) | (intro (al : Nat) h st; show W _ _ _ _ _ _ _ _ _) | (intro _ h st; show W _ _ _ _ _ _ _ _ _) | exact Sd))); refine W.do (ho := gp) (w := ?_)
            (repeat (first | (show W _ _ _ _ _ _ (.code (cond _ _ _) :: _) _ _; first | refine W.ct ?_ | refine W.cf ?_) | (show W _ _ _ _ _ _ (.ins (cond _ _ _ :: _) :: _) _ _; first | refine W.gt ?_ | refine W.gf ?_) | (show W _ _ _ _ _ _ [] _ _; refine W.of (.done ?_)) | (apply W.of; constructor <;> first | (show W _ _ _ _ _ _ _ _ _) | (intro (al : Nat) h st; show W _ _ _ _ _ _ _ _ _) | (intro _ h st; show W _ _ _ _ _ _ _ _ _) | exact Sd))); refine W.do (ho := (d_rwLoad pgfCL st Tk ha)) (w := ?_)
            (repeat (first | (show W _ _ _ _ _ _ (.code (cond _ _ _) :: _) _ _; first | refine W.ct ?_ | refine W.cf ?_) | (show W _ _ _ _ _ _ (.ins (cond _ _ _ :: _) :: _) _ _; first | refine W.gt ?_ | refine W.gf ?_) | (show W _ _ _ _ _ _ [] _ _; refine W.of (.done ?_)) | (apply W.of; constructor <;> first | (show W _ _ _ _ _ _ _ _ _) | (intro (al : Nat) h st; show W _ _ _ _ _ _ _ _ _) | (intro _ h st; show W _ _ _ _ _ _ _ _ _) | exact Sd)))
            by_cases g1 : a.id = id ∧ a.n = n
            · obtain ⟨rfl, rfl⟩ := g1
              rw [beqSelf a.id]
              (repeat (first | (show W _ _ _ _ _ _ (.code (cond _ _ _) :: _) _ _; first | refine W.ct ?_ | refine W.cf ?_) | (show W _ _ _ _ _ _ (.ins (cond _ _ _ :: _) :: _) _ _; first | refine W.gt ?_ | refine W.gf ?_) | (show W _ _ _ _ _ _ [] _ _; refine W.of (.done ?_)) | (apply W.of; constructor <;> first | (show W _ _ _ _ _ _ _ _ _) | (intro (al : Nat) h st; show W _ _ _ _ _ _ _ _ _) | (intro _ h st; show W _ _ _ _ _ _ _ _ _) | exact Sd)))
              rw [beqSelf a.n]
              (repeat (first | (show W _ _ _ _ _ _ (.code (cond _ _ _) :: _) _ _; first | refine W.ct ?_ | refine W.cf ?_) | (show W _ _ _ _ _ _ (.ins (cond _ _ _ :: _) :: _) _ _; first | refine W.gt ?_ | refine W.gf ?_) | (show W _ _ _ _ _ _ [] _ _; refine W.of (.done ?_)) | (apply W.of; constructor <;> first | (show W _ _ _ _ _ _ _ _ _) | (intro (al : Nat) h st; show W _ _ _ _ _ _ _ _ _) | (intro _ h st; show W _ _ _ _ _ _ _ _ _) | exact Sd)))
              have ec : a.c = s.cell (a.id, a.n) := by rw [← hok]; exact (pfind_at (q := (a.id, a.n)) hnn ha ⟨rfl, rfl⟩).symm
              have st := st.sepOut Tk ha
              dsimp only [List.cons_append, List.nil_append] at st
              obtain ⟨al', aj⟩ := st.by2 Tk
              have st := St.byRow' (k := 0) (n := 0) st Tk (by decide)
              (repeat (first | (show W _ _ _ _ _ _ (.code (cond _ _ _) :: _) _ _; first | refine W.ct ?_ | refine W.cf ?_) | (show W _ _ _ _ _ _ (.ins (cond _ _ _ :: _) :: _) _ _; first | refine W.gt ?_ | refine W.gf ?_) | (show W _ _ _ _ _ _ [] _ _; refine W.of (.done ?_)) | (apply W.of; constructor <;> first | (show W _ _ _ _ _ _ _ _ _) | (intro (al : Nat) h st; show W _ _ _ _ _ _ _ _ _) | (intro _ h st; show W _ _ _ _ _ _ _ _ _) | exact Sd))); refine W.ef (ho := (e_appb0 st Tk Tk (by decide))) (w := ?_); rintro vv h ⟨bj, bl, st⟩; refine nj ?_
              (repeat (first | (show W _ _ _ _ _ _ (.code (cond _ _ _) :: _) _ _; first | refine W.ct ?_ | refine W.cf ?_) | (show W _ _ _ _ _ _ (.ins (cond _ _ _ :: _) :: _) _ _; first | refine W.gt ?_ | refine W.gf ?_) | (show W _ _ _ _ _ _ [] _ _; refine W.of (.done ?_)) | (apply W.of; constructor <;> first | (show W _ _ _ _ _ _ _ _ _) | (intro (al : Nat) h st; show W _ _ _ _ _ _ _ _ _) | (intro _ h st; show W _ _ _ _ _ _ _ _ _) | exact Sd)))
              have st := St.sepBack (key := .ptr D 0) (G := PgF.G) (l := ps) (a := a) (i := i) (st.pick (Ps := [ByC a.v 4096 a.c true, SepC (.ptr D 0) PgF.G (ps.eraseIdx i)]) Pks) ha
              rw [ec] at st
              exact ⟨_, rfl, _, ⟨_, rfl, bj, bl, rfl⟩, (back st Pks).sel Sels⟩
            · have hnn' : ∀ j b, j < i + 1 → ps[j]? = some b → ¬ (b.id = id ∧ b.n = n) := fun j b hj hb => by
                by_cases e : j = i
                · subst e; rw [ha] at hb; cases hb; exact g1
                · exact hnn j b (by omega) hb
              by_cases g2 : a.id = id
              · have g3 : a.n ≠ n := fun e => g1 ⟨g2, e⟩
                (repeat (first | (show W _ _ _ _ _ _ (.code (cond _ _ _) :: _) _ _; first | refine W.ct ?_ | refine W.cf ?_) | (show W _ _ _ _ _ _ (.ins (cond _ _ _ :: _) :: _) _ _; first | refine W.gt ?_ | refine W.gf ?_) | (show W _ _ _ _ _ _ [] _ _; refine W.of (.done ?_)) | (apply W.of; constructor <;> first | (show W _ _ _ _ _ _ _ _ _) | (intro (al : Nat) h st; show W _ _ _ _ _ _ _ _ _) | (intro _ h st; show W _ _ _ _ _ _ _ _ _) | exact Sd)))
                refine W.of (.lp ?_)
                exact ⟨i + 1, by omega, ⟨hlt, hnn'⟩, Sbs, st.sel Sels⟩
              · (repeat (first | (show W _ _ _ _ _ _ (.code (cond _ _ _) :: _) _ _; first | refine W.ct ?_ | refine W.cf ?_) | (show W _ _ _ _ _ _ (.ins (cond _ _ _ :: _) :: _) _ _; first | refine W.gt ?_ | refine W.gf ?_) | (show W _ _ _ _ _ _ [] _ _; refine W.of (.done ?_)) | (apply W.of; constructor <;> first | (show W _ _ _ _ _ _ _ _ _) | (intro (al : Nat) h st; show W _ _ _ _ _ _ _ _ _) | (intro _ h st; show W _ _ _ _ _ _ _ _ _) | exact Sd)))
                refine W.of (.lp ?_)
                exact ⟨i + 1, by omega, ⟨hlt, hnn'⟩, Sbs, st.sel Sels⟩
          · have ec : s.cell (id, n) = 0 := by rw [← hok]; exact pfind_none fun j b hb => hnn j b (by have := (List.getElem?_eq_some_iff.1 hb).1; omega) hb
            (repeat (first | (show W _ _ _ _ _ _ (.code (cond _ _ _) :: _) _ _; first | refine W.ct ?_ | refine W.cf ?_) | (show W _ _ _ _ _ _ (.ins (cond _ _ _ :: _) :: _) _ _; first | refine W.gt ?_ | refine W.gf ?_) | (show W _ _ _ _ _ _ [] _ _; refine W.of (.done ?_)) | (apply W.of; constructor <;> first | (show W _ _ _ _ _ _ _ _ _) | (intro (al : Nat) h st; show W _ _ _ _ _ _ _ _ _) | (intro _ h st; show W _ _ _ _ _ _ _ _ _) | exact Sd))); refine W.ef (ho := (e_mkbytes (k := 4096) st (by decide))) (w := ?_); rintro vv h ⟨id', rfl, st⟩; refine nj ?_
            (repeat (first | (show W _ _ _ _ _ _ (.code (cond _ _ _) :: _) _ _; first | refine W.ct ?_ | refine W.cf ?_) | (show W _ _ _ _ _ _ (.ins (cond _ _ _ :: _) :: _) _ _; first | refine W.gt ?_ | refine W.gf ?_) | (show W _ _ _ _ _ _ [] _ _; refine W.of (.done ?_)) | (apply W.of; constructor <;> first | (show W _ _ _ _ _ _ _ _ _) | (intro (al : Nat) h st; show W _ _ _ _ _ _ _ _ _) | (intro _ h st; show W _ _ _ _ _ _ _ _ _) | exact Sd)))
            rw [ec]
            exact ⟨_, rfl, _, ⟨_, rfl, rfl, rfl, rfl⟩, (back st Pks).sel Sels⟩
set_option maxRecDepth 4000 in
theorem ref10_Peek {id n : Int} (hm : m ≤ 1000) : Spec R (.f n_ref10_Store_Peek) [.ptr D 0, .int .i64 id, .int .i64 n] [RefFC D s m] fun x Rs =>
    x.notJunk = some x ∧ sliceLen x = some (s.pk id n).1 ∧ Rs = [ByC x (s.pk id n).1 (s.pk id n).2 true, RefFC D s m] := by
  refine spec_w (fun _ _ _ x => progI_call rfl rfl x) Njs rfl (fun h F st => ?_); dsimp only [List.cons_append, List.nil_append] at st
  unfold FiS.pk
  cases hs : s.size id with
  | none =>
    rw [ok_none hs]
    (repeat (first | (show W _ _ _ _ _ _ (.code (cond _ _ _) :: _) _ _; first | refine W.ct ?_ | refine W.cf ?_) | (show W _ _ _ _ _ _ (.ins (cond _ _ _ :: _) :: _) _ _; first | refine W.gt ?_ | refine W.gf ?_) | (show W _ _ _ _ _ _ [] _ _; refine W.of (.done ?_)) | (apply W.of; constructor <;> first | (show W _ _ _ _ _ _ _ _ _) | (intro (al : Nat) h st; show W _ _ _ _ _ _ _ _ _) | (intro _ h st; show W _ _ _ _ _ _ _ _ _) | exact Sd))); refine W.call (hs := (ref10_Size_n hs)) (w := ?_); rintro vv _ ⟨rfl, rfl⟩ h st; refine nj ?_; dsimp only [List.cons_append, List.nil_append] at st
    (repeat (first | (show W _ _ _ _ _ _ (.code (cond _ _ _) :: _) _ _; first | refine W.ct ?_ | refine W.cf ?_) | (show W _ _ _ _ _ _ (.ins (cond _ _ _ :: _) :: _) _ _; first | refine W.gt ?_ | refine W.gf ?_) | (show W _ _ _ _ _ _ [] _ _; refine W.of (.done ?_)) | (apply W.of; constructor <;> first | (show W _ _ _ _ _ _ _ _ _) | (intro (al : Nat) h st; show W _ _ _ _ _ _ _ _ _) | (intro _ h st; show W _ _ _ _ _ _ _ _ _) | exact Sd)))
    exact ⟨_, rfl, _, ⟨rfl, rfl, rfl⟩, st.byNil true⟩
  | some z =>
    rw [ok_some hs]
    (repeat (first | (show W _ _ _ _ _ _ (.code (cond _ _ _) :: _) _ _; first | refine W.ct ?_ | refine W.cf ?_) | (show W _ _ _ _ _ _ (.ins (cond _ _ _ :: _) :: _) _ _; first | refine W.gt ?_ | refine W.gf ?_) | (show W _ _ _ _ _ _ [] _ _; refine W.of (.done ?_)) | (apply W.of; constructor <;> first | (show W _ _ _ _ _ _ _ _ _) | (intro (al : Nat) h st; show W _ _ _ _ _ _ _ _ _) | (intro _ h st; show W _ _ _ _ _ _ _ _ _) | exact Sd))); refine W.call (hs := (ref10_Size_s hs)) (w := ?_); rintro vv _ ⟨rfl, rfl⟩ h st; refine nj ?_; dsimp only [List.cons_append, List.nil_append] at st
    by_cases c1 : n < 0
    · rw [decide_eq_false (by omega)]
      (repeat (first | (show W _ _ _ _ _ _ (.code (cond _ _ _) :: _) _ _; first | refine W.ct ?_ | refine W.cf ?_) | (show W _ _ _ _ _ _ (.ins (cond _ _ _ :: _) :: _) _ _; first | refine W.gt ?_ | refine W.gf ?_) | (show W _ _ _ _ _ _ [] _ _; refine W.of (.done ?_)) | (apply W.of; constructor <;> first | (show W _ _ _ _ _ _ _ _ _) | (intro (al : Nat) h st; show W _ _ _ _ _ _ _ _ _) | (intro _ h st; show W _ _ _ _ _ _ _ _ _) | exact Sd)))
      exact ⟨_, rfl, _, ⟨rfl, rfl, rfl⟩, st.byNil true⟩
    · by_cases c2 : n ≥ z
      · rw [decide_eq_false (by omega)]
        (repeat (first | (show W _ _ _ _ _ _ (.code (cond _ _ _) :: _) _ _; first | refine W.ct ?_ | refine W.cf ?_) | (show W _ _ _ _ _ _ (.ins (cond _ _ _ :: _) :: _) _ _; first | refine W.gt ?_ | refine W.gf ?_) | (show W _ _ _ _ _ _ [] _ _; refine W.of (.done ?_)) | (apply W.of; constructor <;> first | (show W _ _ _ _ _ _ _ _ _) | (intro (al : Nat) h st; show W _ _ _ _ _ _ _ _ _) | (intro _ h st; show W _ _ _ _ _ _ _ _ _) | exact Sd)))
        exact ⟨_, rfl, _, ⟨rfl, rfl, rfl⟩, st.byNil true⟩
      · rw [decide_eq_true (show 0 ≤ n ∧ n < z by omega)]
        obtain ⟨_, ⟨sv, lv, ps, rfl, hmm, h16, hnd, hok⟩, st⟩ := St.unpack st; dsimp only [List.cons_append, List.nil_append] at st
        obtain ⟨hl, hj, hos⟩ := St.rw (v := lv) (l := ps) st Tk
        (repeat (first | (show W _ _ _ _ _ _ (.code (cond _ _ _) :: _) _ _; first | refine W.ct ?_ | refine W.cf ?_) | (show W _ _ _ _ _ _ (.ins (cond _ _ _ :: _) :: _) _ _; first | refine W.gt ?_ | refine W.gf ?_) | (show W _ _ _ _ _ _ [] _ _; refine W.of (.done ?_)) | (apply W.of; constructor <;> first | (show W _ _ _ _ _ _ _ _ _) | (intro (al : Nat) h st; show W _ _ _ _ _ _ _ _ _) | (intro _ h st; show W _ _ _ _ _ _ _ _ _) | exact Sd)))
        refine W.loop (fun i : Nat => [(1, .int .i64 id), (2, .int .i64 n), (31, lv), (32, .int .i64 ps.length), (33, .int .i64 i)]) (fun _ => .pt D (refRowF sv lv s.left) :: VsC sv 3 (s.sizes.map ikey) true :: PgsC lv ps :: SepC (.ptr D 0) PgF.G ps :: F)
          (fun i => i ≤ ps.length ∧ ∀ j b, j < i → ps[j]? = some b → ¬ (b.id = id ∧ b.n = n)) (fun i => ps.length - i) 0 (small_rounds (by omega)) Sbs (st.sel Sels) ⟨Nat.zero_le _, fun j b h => by omega⟩ ?_
        clear st
        intro i h ⟨hi, hnn⟩ st
        have back : ∀ {h : AHeap} {L R : List Chunk}, St h L → Pick L [.pt D (refRowF sv lv s.left), VsC sv 3 (s.sizes.map ikey) true, PgsC lv ps, SepC (.ptr D 0) PgF.G ps] R → St h (RefFC D s m :: R) := fun st pk =>
          St.packP (t := 24) (k := .ptr D 0) (P := RefFIs D s m) st ⟨sv, lv, ps, rfl, hmm, h16, hnd, hok⟩ pk
        by_cases hlt : i < ps.length
        · obtain ⟨a, ha⟩ : ∃ a, ps[i]? = some a := ⟨ps[i], by simp [hlt]⟩
          obtain ⟨gp, gq⟩ := d_rwIdx (v := lv) (l := ps) (kk := .i64) st Tk hlt
          (repeat (first | (show W _ _ _ _ _ _ (.code (cond _ _ _) :: _) _ _; first | refine W.ct ?_ | refine W.cf ?_) | (show W _ _ _ _ _ _ (.ins (cond _ _ _ :: _) :: _) _ _; first | refine W.gt ?_ | refine W.gf ?_) | (show W _ _ _ _ _ _ [] _ _; refine W.of (.done ?_)) | (apply W.of; constructor <;> first | (show W _ _ _ _ _ _ _ _ _) | (intro (al : Nat) h st; show W _ _ _ _ _ _ _ _ _) | (intro _ h st; show W _ _ _ _ _ _ _ _ _) | exact Sd))); refine W.do (ho := gp) (w := ?_)
          (repeat (first | (show W _ _ _ _ _ _ (.code (cond _ _ _) :: _) _ _; first | refine W.ct ?_ | refine W.cf ?_) | (show W _ _ _ _ _ _ (.ins (cond _ _ _ :: _) :: _) _ _; first | refine W.gt ?_ | refine W.gf ?_) | (show W _ _ _ _ _ _ [] _ _; refine W.of (.done ?_)) | (apply W.of; constructor <;> first | (show W _ _ _ _ _ _ _ _ _) | (intro (al : Nat) h st; show W _ _ _ _ _ _ _ _ _) | (intro _ h st; show W _ _ _ _ _ _ _ _ _) | exact Sd))); refine W.do (ho := (d_rwLoad pgfCL st Tk ha)) (w := ?_)
          (repeat (first | (show W _ _ _ _ _ _ (.code (cond _ _ _) :: _) _ _; first | refine W.ct ?_ | refine W.cf ?_) | (show W _ _ _ _ _ _ (.ins (cond _ _ _ :: _) :: _) _ _; first | refine W.gt ?_ | refine W.gf ?_) | (show W _ _ _ _ _ _ [] _ _; refine W.of (.done ?_)) | (apply W.of; constructor <;> first | (show W _ _ _ _ _ _ _ _ _) | (intro (al : Nat) h st; show W _ _ _ _ _ _ _ _ _) | (intro _ h st; show W _ _ _ _ _ _ _ _ _) | exact Sd)))
          by_cases g1 : a.id = id ∧ a.n = n
          · obtain ⟨rfl, rfl⟩ := g1
            rw [beqSelf a.id]
            (repeat (first | (show W _ _ _ _ _ _ (.code (cond _ _ _) :: _) _ _; first | refine W.ct ?_ | refine W.cf ?_) | (show W _ _ _ _ _ _ (.ins (cond _ _ _ :: _) :: _) _ _; first | refine W.gt ?_ | refine W.gf ?_) | (show W _ _ _ _ _ _ [] _ _; refine W.of (.done ?_)) | (apply W.of; constructor <;> first | (show W _ _ _ _ _ _ _ _ _) | (intro (al : Nat) h st; show W _ _ _ _ _ _ _ _ _) | (intro _ h st; show W _ _ _ _ _ _ _ _ _) | exact Sd)))
            rw [beqSelf a.n]
            (repeat (first | (show W _ _ _ _ _ _ (.code (cond _ _ _) :: _) _ _; first | refine W.ct ?_ | refine W.cf ?_) | (show W _ _ _ _ _ _ (.ins (cond _ _ _ :: _) :: _) _ _; first | refine W.gt ?_ | refine W.gf ?_) | (show W _ _ _ _ _ _ [] _ _; refine W.of (.done ?_)) | (apply W.of; constructor <;> first | (show W _ _ _ _ _ _ _ _ _) | (intro (al : Nat) h st; show W _ _ _ _ _ _ _ _ _) | (intro _ h st; show W _ _ _ _ _ _ _ _ _) | exact Sd)))
            have ec : a.c = s.cell (a.id, a.n) := by rw [← hok]; exact (pfind_at (q := (a.id, a.n)) hnn ha ⟨rfl, rfl⟩).symm
            have st := st.sepOut Tk ha
            dsimp only [List.cons_append, List.nil_append] at st
            obtain ⟨al', aj⟩ := st.by2 Tk
            have st := St.byRow' (k := 0) (n := 0) st Tk (by decide)
            (repeat (first | (show W _ _ _ _ _ _ (.code (cond _ _ _) :: _) _ _; first | refine W.ct ?_ | refine W.cf ?_) | (show W _ _ _ _ _ _ (.ins (cond _ _ _ :: _) :: _) _ _; first | refine W.gt ?_ | refine W.gf ?_) | (show W _ _ _ _ _ _ [] _ _; refine W.of (.done ?_)) | (apply W.of; constructor <;> first | (show W _ _ _ _ _ _ _ _ _) | (intro (al : Nat) h st; show W _ _ _ _ _ _ _ _ _) | (intro _ h st; show W _ _ _ _ _ _ _ _ _) | exact Sd))); refine W.ef (ho := (e_appb0 st Tk Tk (by decide))) (w := ?_); rintro vv h ⟨bj, bl, st⟩; refine nj ?_
            (repeat (first | (show W _ _ _ _ _ _ (.code (cond _ _ _) :: _) _ _; first | refine W.ct ?_ | refine W.cf ?_) | (show W _ _ _ _ _ _ (.ins (cond _ _ _ :: _) :: _) _ _; first | refine W.gt ?_ | refine W.gf ?_) | (show W _ _ _ _ _ _ [] _ _; refine W.of (.done ?_)) | (apply W.of; constructor <;> first | (show W _ _ _ _ _ _ _ _ _) | (intro (al : Nat) h st; show W _ _ _ _ _ _ _ _ _) | (intro _ h st; show W _ _ _ _ _ _ _ _ _) | exact Sd)))
            have st := St.sepBack (key := .ptr D 0) (G := PgF.G) (l := ps) (a := a) (i := i) (st.pick (Ps := [ByC a.v 4096 a.c true, SepC (.ptr D 0) PgF.G (ps.eraseIdx i)]) Pks) ha
            rw [ec] at st
            exact ⟨_, rfl, _, ⟨bj, bl, rfl⟩, (back st Pks).sel Sels⟩
          · have hnn' : ∀ j b, j < i + 1 → ps[j]? = some b → ¬ (b.id = id ∧ b.n = n) := fun j b hj hb => by
              by_cases e : j = i
              · subst e; rw [ha] at hb; cases hb; exact g1
              · exact hnn j b (by omega) hb
            by_cases g2 : a.id = id
            · have g3 : a.n ≠ n := fun e => g1 ⟨g2, e⟩
              (repeat (first | (show W _ _ _ _ _ _ (.code (cond _ _ _) :: _) _ _; first | refine W.ct ?_ | refine W.cf ?_) | (show W _ _ _ _ _ _ (.ins (cond _ _ _ :: _) :: _) _ _; first | refine W.gt ?_ | refine W.gf ?_) | (show W _ _ _ _ _ _ [] _ _; refine W.of (.done ?_)) | (apply W.of; constructor <;> first | (show W _ _ _ _ _ _ _ _ _) | (intro (al : Nat) h st; show W _ _ _ _ _ _ _ _ _) | (intro _ h st; show W _ _ _ _ _ _ _ _ _) | exact Sd)))
              refine W.of (.lp ?_)
              exact ⟨i + 1, by omega, ⟨hlt, hnn'⟩, Sbs, st.sel Sels⟩
            · (repeat (first | (show W _ _ _ _ _ _ (.code (cond _ _ _) :: _) _ _; first | refine W.ct ?_ | refine W.cf ?_) | (show W _ _ _ _ _ _ (.ins (cond _ _ _ :: _) :: _) _ _; first | refine W.gt ?_ | refine W.gf ?_) | (show W _ _ _ _ _ _ [] _ _; refine W.of (.done ?_)) | (apply W.of; constructor <;> first | (show W _ _ _ _ _ _ _ _ _) | (intro (al : Nat) h st; show W _ _ _ _ _ _ _ _ _) | (intro _ h st; show W _ _ _ _ _ _ _ _ _) | exact Sd)))
              refine W.of (.lp ?_)
              exact ⟨i + 1, by omega, ⟨hlt, hnn'⟩, Sbs, st.sel Sels⟩
        · have ec : s.cell (id, n) = 0 := by rw [← hok]; exact pfind_none fun j b hb => hnn j b (by have := (List.getElem?_eq_some_iff.1 hb).1; omega) hb
          (repeat (first | (show W _ _ _ _ _ _ (.code (cond _ _ _) :: _) _ _; first | refine W.ct ?_ | refine W.cf ?_) | (show W _ _ _ _ _ _ (.ins (cond _ _ _ :: _) :: _) _ _; first | refine W.gt ?_ | refine W.gf ?_) | (show W _ _ _ _ _ _ [] _ _; refine W.of (.done ?_)) | (apply W.of; constructor <;> first | (show W _ _ _ _ _ _ _ _ _) | (intro (al : Nat) h st; show W _ _ _ _ _ _ _ _ _) | (intro _ h st; show W _ _ _ _ _ _ _ _ _) | exact Sd))); refine W.ef (ho := (e_mkbytes (k := 4096) st (by decide))) (w := ?_); rintro vv h ⟨id', rfl, st⟩; refine nj ?_
          (repeat (first | (show W _ _ _ _ _ _ (.code (cond _ _ _) :: _) _ _; first | refine W.ct ?_ | refine W.cf ?_) | (show W _ _ _ _ _ _ (.ins (cond _ _ _ :: _) :: _) _ _; first | refine W.gt ?_ | refine W.gf ?_) | (show W _ _ _ _ _ _ [] _ _; refine W.of (.done ?_)) | (apply W.of; constructor <;> first | (show W _ _ _ _ _ _ _ _ _) | (intro (al : Nat) h st; show W _ _ _ _ _ _ _ _ _) | (intro _ h st; show W _ _ _ _ _ _ _ _ _) | exact Sd)))
          rw [ec]
          exact ⟨_, rfl, _, ⟨rfl, rfl, rfl⟩, (back st Pks).sel Sels⟩
theorem outQ_one {id n : Int} {q : Pl} : outQ id n false q = decide ((id, n) = q) := by
  obtain ⟨a, b⟩ := q
  simp only [outQ, Bool.false_and, Bool.or_false, Prod.mk.injEq, Bool.decide_and]
  congr 1
  · exact decide_eq_decide.2 eq_comm
  · exact decide_eq_decide.2 eq_comm
theorem outQ_cut {id z : Int} {q : Pl} : outQ id z true q = cutQ id z q := by
  obtain ⟨a, b⟩ := q
  simp only [outQ, cutQ, Bool.true_and]
  by_cases h1 : a = id
  · by_cases h2 : z ≤ b
    · simp [h1, h2]
    · have : ¬ b = z := by omega
      simp [h1, h2, this]
  · simp [h1]
theorem put_nodup (hn : (keys s.pg).Nodup) (p : Pl) (N : Nat) : (keys (s.put p N).pg).Nodup := by
  unfold FiS.put
  simp only
  split
  · exact (nodup_adel hn).1
  · exact nodup_aput hn
theorem pfind_put {ps : List PgF} {p : PgF} (hn : (keys s.pg).Nodup) (hok : ∀ q, pfind ps q = s.cell q) (q : Pl) : pfind (keepF p.id p.n false ps ++ [p]) q = (s.put (p.id, p.n) p.c).cell q := by
  have h0 : ∀ q, pfind (keepF p.id p.n false ps) q = if (p.id, p.n) = q then 0 else pfind ps q := fun q => by
    unfold keepF
    rw [pfind_filter (g := fun q => !outQ p.id p.n false q) ps q, outQ_one]
    by_cases e : (p.id, p.n) = q <;> simp [e]
  rw [pfind_snoc _ _ (by rw [h0, if_pos rfl]) (fun x hx => ?_), h0, cell_put hn]
  · split
    · rfl
    · exact hok q
  · have := (List.mem_filter.1 hx).2
    rw [outQ_one] at this
    intro ⟨e1, e2⟩
    rw [e1, e2] at this; simp at this
set_option maxRecDepth 4000 in
theorem ref10_Write {id n : Int} {v : AV} {k N : Nat} {w : Bool} (h0 : 0 ≤ s.left) (h1 : s.left ≤ 9223372036854775807) (hm : m ≤ 1000) : Spec R (.f n_ref10_Store_Write) [.ptr D 0, .int .i64 id, .int .i64 n, v] [RefFC D s m, ByC v k N w] fun r Rs =>
    r = .int .i64 (s.write id n k N).e ∧ Rs = [RefFC D (s.write id n k N).s (m + 1), ByC v k N w] := by
  refine spec_in fun h F st => ?_
  obtain ⟨vl, vj⟩ := st.by2 Tk
  clear st h F; refine spec_w (fun _ _ _ x => progI_call rfl rfl x) Njs rfl (fun h F st => ?_); dsimp only [List.cons_append, List.nil_append] at st
  have grow : ∀ {h : AHeap} {L : List Chunk} {s : FiS}, St h (RefFC D s m :: L) → St h (RefFC D s (m + 1) :: L) := fun st => st.mono fun cs ⟨sv, lv, ps, e, h2, h3⟩ => ⟨sv, lv, ps, e, by omega, h3⟩
  unfold FiS.write
  dsimp only
  cases hs : s.size id with
  | none =>
    have e1 : s.at' id n ((k : Int) == 4096) = ⟨s, 7⟩ := by unfold FiS.at'; rw [hs, if_pos (show (none : Option Int).isNone = true from rfl)]
    rw [e1]
    (repeat (first | (show W _ _ _ _ _ _ (.code (cond _ _ _) :: _) _ _; first | refine W.ct ?_ | refine W.cf ?_) | (show W _ _ _ _ _ _ (.ins (cond _ _ _ :: _) :: _) _ _; first | refine W.gt ?_ | refine W.gf ?_) | (show W _ _ _ _ _ _ [] _ _; refine W.of (.done ?_)) | (apply W.of; constructor <;> first | (show W _ _ _ _ _ _ _ _ _) | (intro (al : Nat) h st; show W _ _ _ _ _ _ _ _ _) | (intro _ h st; show W _ _ _ _ _ _ _ _ _) | exact Sd))); refine W.call (hs := (ref10_Size_n hs)) (w := ?_); rintro vv _ ⟨rfl, rfl⟩ h st; refine nj ?_; dsimp only [List.cons_append, List.nil_append] at st
    (repeat (first | (show W _ _ _ _ _ _ (.code (cond _ _ _) :: _) _ _; first | refine W.ct ?_ | refine W.cf ?_) | (show W _ _ _ _ _ _ (.ins (cond _ _ _ :: _) :: _) _ _; first | refine W.gt ?_ | refine W.gf ?_) | (show W _ _ _ _ _ _ [] _ _; refine W.of (.done ?_)) | (apply W.of; constructor <;> first | (show W _ _ _ _ _ _ _ _ _) | (intro (al : Nat) h st; show W _ _ _ _ _ _ _ _ _) | (intro _ h st; show W _ _ _ _ _ _ _ _ _) | exact Sd)))
    exact ⟨_, rfl, _, ⟨rfl, rfl⟩, grow st⟩
  | some z =>
    (repeat (first | (show W _ _ _ _ _ _ (.code (cond _ _ _) :: _) _ _; first | refine W.ct ?_ | refine W.cf ?_) | (show W _ _ _ _ _ _ (.ins (cond _ _ _ :: _) :: _) _ _; first | refine W.gt ?_ | refine W.gf ?_) | (show W _ _ _ _ _ _ [] _ _; refine W.of (.done ?_)) | (apply W.of; constructor <;> first | (show W _ _ _ _ _ _ _ _ _) | (intro (al : Nat) h st; show W _ _ _ _ _ _ _ _ _) | (intro _ h st; show W _ _ _ _ _ _ _ _ _) | exact Sd))); refine W.call (hs := (ref10_Size_s hs)) (w := ?_); rintro vv _ ⟨rfl, rfl⟩ h st; refine nj ?_; dsimp only [List.cons_append, List.nil_append] at st
    by_cases c1 : n < 0
    · rw [at_2 hs (by omega)]
      (repeat (first | (show W _ _ _ _ _ _ (.code (cond _ _ _) :: _) _ _; first | refine W.ct ?_ | refine W.cf ?_) | (show W _ _ _ _ _ _ (.ins (cond _ _ _ :: _) :: _) _ _; first | refine W.gt ?_ | refine W.gf ?_) | (show W _ _ _ _ _ _ [] _ _; refine W.of (.done ?_)) | (apply W.of; constructor <;> first | (show W _ _ _ _ _ _ _ _ _) | (intro (al : Nat) h st; show W _ _ _ _ _ _ _ _ _) | (intro _ h st; show W _ _ _ _ _ _ _ _ _) | exact Sd)))
      exact ⟨_, rfl, _, ⟨rfl, rfl⟩, grow st⟩
    · by_cases c2 : n ≥ z
      · rw [at_2 hs (by omega)]
        (repeat (first | (show W _ _ _ _ _ _ (.code (cond _ _ _) :: _) _ _; first | refine W.ct ?_ | refine W.cf ?_) | (show W _ _ _ _ _ _ (.ins (cond _ _ _ :: _) :: _) _ _; first | refine W.gt ?_ | refine W.gf ?_) | (show W _ _ _ _ _ _ [] _ _; refine W.of (.done ?_)) | (apply W.of; constructor <;> first | (show W _ _ _ _ _ _ _ _ _) | (intro (al : Nat) h st; show W _ _ _ _ _ _ _ _ _) | (intro _ h st; show W _ _ _ _ _ _ _ _ _) | exact Sd)))
        exact ⟨_, rfl, _, ⟨rfl, rfl⟩, grow st⟩
      · by_cases c3 : k = 4096
        · subst c3
          rw [show (((4096 : Nat) : Int) == 4096) = true from rfl]
          obtain ⟨_, ⟨sv, lv, ps, rfl, hmm, h16, hnd, hok⟩, st⟩ := St.unpack st; dsimp only [List.cons_append, List.nil_append] at st
          (repeat (first | (show W _ _ _ _ _ _ (.code (cond _ _ _) :: _) _ _; first | refine W.ct ?_ | refine W.cf ?_) | (show W _ _ _ _ _ _ (.ins (cond _ _ _ :: _) :: _) _ _; first | refine W.gt ?_ | refine W.gf ?_) | (show W _ _ _ _ _ _ [] _ _; refine W.of (.done ?_)) | (apply W.of; constructor <;> first | (show W _ _ _ _ _ _ _ _ _) | (intro (al : Nat) h st; show W _ _ _ _ _ _ _ _ _) | (intro _ h st; show W _ _ _ _ _ _ _ _ _) | exact Sd))); refine W.call (hs := (ref10_fails h0 h1)) (w := ?_); rintro vv _ ⟨rfl, rfl⟩ h st; refine nj ?_; dsimp only [List.cons_append, List.nil_append] at st
          obtain ⟨t1, t2⟩ := tick_same (s := s)
          cases hb : s.bad with
          | true =>
            obtain ⟨e1, e2⟩ := at_6r (n := n) hs (by omega) hb
            rw [e1]
            (repeat (first | (show W _ _ _ _ _ _ (.code (cond _ _ _) :: _) _ _; first | refine W.ct ?_ | refine W.cf ?_) | (show W _ _ _ _ _ _ (.ins (cond _ _ _ :: _) :: _) _ _; first | refine W.gt ?_ | refine W.gf ?_) | (show W _ _ _ _ _ _ [] _ _; refine W.of (.done ?_)) | (apply W.of; constructor <;> first | (show W _ _ _ _ _ _ _ _ _) | (intro (al : Nat) h st; show W _ _ _ _ _ _ _ _ _) | (intro _ h st; show W _ _ _ _ _ _ _ _ _) | exact Sd)))
            have st := St.packP (t := 24) (k := .ptr D 0) (P := RefFIs D s.tick (m + 1)) (cs := [.pt D (refRowF sv lv s.tick.left), VsC sv 3 (s.sizes.map ikey) true, PgsC lv ps, SepC (.ptr D 0) PgF.G ps]) st ⟨sv, lv, ps, by rw [t1], by omega, by rw [t1]; exact h16, by rw [t2]; exact hnd, fun q => by rw [hok q]; unfold FiS.cell; rw [t2]⟩ Pks
            exact ⟨_, rfl, _, ⟨rfl, rfl⟩, st.sel Sels⟩
          | false =>
            obtain ⟨e1, e2⟩ := at_0r (n := n) hs (by omega) hb
            rw [e1]
            (repeat (first | (show W _ _ _ _ _ _ (.code (cond _ _ _) :: _) _ _; first | refine W.ct ?_ | refine W.cf ?_) | (show W _ _ _ _ _ _ (.ins (cond _ _ _ :: _) :: _) _ _; first | refine W.gt ?_ | refine W.gf ?_) | (show W _ _ _ _ _ _ [] _ _; refine W.of (.done ?_)) | (apply W.of; constructor <;> first | (show W _ _ _ _ _ _ _ _ _) | (intro (al : Nat) h st; show W _ _ _ _ _ _ _ _ _) | (intro _ h st; show W _ _ _ _ _ _ _ _ _) | exact Sd))); refine W.call (hs := (ref10_without (ps := ps) (by omega))) (w := ?_); rintro vv _ ⟨gj, gl, rfl⟩ h st; refine nj ?_; dsimp only [List.cons_append, List.nil_append] at st
            obtain ⟨kv, rfl⟩ : ∃ y, y = vv := ⟨_, rfl⟩
            have hk := keepF_len id n false ps
            (repeat (first | (show W _ _ _ _ _ _ (.code (cond _ _ _) :: _) _ _; first | refine W.ct ?_ | refine W.cf ?_) | (show W _ _ _ _ _ _ (.ins (cond _ _ _ :: _) :: _) _ _; first | refine W.gt ?_ | refine W.gf ?_) | (show W _ _ _ _ _ _ [] _ _; refine W.of (.done ?_)) | (apply W.of; constructor <;> first | (show W _ _ _ _ _ _ _ _ _) | (intro (al : Nat) h st; show W _ _ _ _ _ _ _ _ _) | (intro _ h st; show W _ _ _ _ _ _ _ _ _) | exact Sd)))
            have st := St.byRow' (k := 0) (n := 0) st Tk (by decide)
            (repeat (first | (show W _ _ _ _ _ _ (.code (cond _ _ _) :: _) _ _; first | refine W.ct ?_ | refine W.cf ?_) | (show W _ _ _ _ _ _ (.ins (cond _ _ _ :: _) :: _) _ _; first | refine W.gt ?_ | refine W.gf ?_) | (show W _ _ _ _ _ _ [] _ _; refine W.of (.done ?_)) | (apply W.of; constructor <;> first | (show W _ _ _ _ _ _ _ _ _) | (intro (al : Nat) h st; show W _ _ _ _ _ _ _ _ _) | (intro _ h st; show W _ _ _ _ _ _ _ _ _) | exact Sd))); refine W.ef (ho := (e_appb0 (v := v) st Tk Tk (by decide))) (w := ?_); rintro vv h ⟨cj, cl, st⟩; refine nj ?_
            obtain ⟨q, rfl⟩ : ∃ y, y = vv := ⟨_, rfl⟩
            have hf : fills [(0, 1), (1, 1), (2, 1)] [.int .i64 id, .int .i64 n, q] (.vals [.int .i64 0, .int .i64 0, .nilsl]) = some (.vals [.int .i64 id, .int .i64 n, q]) := by
              have := sl_dat cl
              simp only [fills, this, Dat.len]
              rfl
            (repeat (first | (show W _ _ _ _ _ _ (.code (cond _ _ _) :: _) _ _; first | refine W.ct ?_ | refine W.cf ?_) | (show W _ _ _ _ _ _ (.ins (cond _ _ _ :: _) :: _) _ _; first | refine W.gt ?_ | refine W.gf ?_) | (show W _ _ _ _ _ _ [] _ _; refine W.of (.done ?_)) | (apply W.of; constructor <;> first | (show W _ _ _ _ _ _ _ _ _) | (intro (al : Nat) h st; show W _ _ _ _ _ _ _ _ _) | (intro _ h st; show W _ _ _ _ _ _ _ _ _) | exact Sd))); refine W.do (ho := (⟨rfl, by simp only [aop]; rw [show (AV.agg [.int .i64 0, .int .i64 0, .nilsl]).dat = .vals [.int .i64 0, .int .i64 0, .nilsl] from rfl, hf]; rfl⟩ : Does (.build (.agg [.int .i64 0, .int .i64 0, .nilsl]) [(0, 1), (1, 1), (2, 1)]) [.int .i64 id, .int .i64 n, q] h (.agg [.int .i64 id, .int .i64 n, q]) h)) (w := ?_)
            (repeat (first | (show W _ _ _ _ _ _ (.code (cond _ _ _) :: _) _ _; first | refine W.ct ?_ | refine W.cf ?_) | (show W _ _ _ _ _ _ (.ins (cond _ _ _ :: _) :: _) _ _; first | refine W.gt ?_ | refine W.gf ?_) | (show W _ _ _ _ _ _ [] _ _; refine W.of (.done ?_)) | (apply W.of; constructor <;> first | (show W _ _ _ _ _ _ _ _ _) | (intro (al : Nat) h st; show W _ _ _ _ _ _ _ _ _) | (intro _ h st; show W _ _ _ _ _ _ _ _ _) | exact Sd)))
            have st := St.rwRow (e := 171) pgfCL [(⟨id, n, q, N⟩ : PgF)] st Tk rfl rfl
            (repeat (first | (show W _ _ _ _ _ _ (.code (cond _ _ _) :: _) _ _; first | refine W.ct ?_ | refine W.cf ?_) | (show W _ _ _ _ _ _ (.ins (cond _ _ _ :: _) :: _) _ _; first | refine W.gt ?_ | refine W.gf ?_) | (show W _ _ _ _ _ _ [] _ _; refine W.of (.done ?_)) | (apply W.of; constructor <;> first | (show W _ _ _ _ _ _ _ _ _) | (intro (al : Nat) h st; show W _ _ _ _ _ _ _ _ _) | (intro _ h st; show W _ _ _ _ _ _ _ _ _) | exact Sd))); refine W.ef (ho := (e_rwAppend (s := kv) (l := keepF id n false ps) (l' := [(⟨id, n, q, N⟩ : PgF)]) pgfCL rfl st Tk Tk (by simp; omega) (by simp; omega))) (w := ?_); rintro vv h ⟨bj, bl, st⟩; refine nj ?_
            have bs := okSame_sl bl
            obtain ⟨l2, rfl⟩ : ∃ y, y = vv := ⟨_, rfl⟩
            (repeat (first | (show W _ _ _ _ _ _ (.code (cond _ _ _) :: _) _ _; first | refine W.ct ?_ | refine W.cf ?_) | (show W _ _ _ _ _ _ (.ins (cond _ _ _ :: _) :: _) _ _; first | refine W.gt ?_ | refine W.gf ?_) | (show W _ _ _ _ _ _ [] _ _; refine W.of (.done ?_)) | (apply W.of; constructor <;> first | (show W _ _ _ _ _ _ _ _ _) | (intro (al : Nat) h st; show W _ _ _ _ _ _ _ _ _) | (intro _ h st; show W _ _ _ _ _ _ _ _ _) | exact Sd))); refine W.ef0 (ho := (e_storeV (i := 1) st Tk rfl (by simp) (sl_dat bl))) (w := ?_); rintro _ h ⟨_, st⟩
            (repeat (first | (show W _ _ _ _ _ _ (.code (cond _ _ _) :: _) _ _; first | refine W.ct ?_ | refine W.cf ?_) | (show W _ _ _ _ _ _ (.ins (cond _ _ _ :: _) :: _) _ _; first | refine W.gt ?_ | refine W.gf ?_) | (show W _ _ _ _ _ _ [] _ _; refine W.of (.done ?_)) | (apply W.of; constructor <;> first | (show W _ _ _ _ _ _ _ _ _) | (intro (al : Nat) h st; show W _ _ _ _ _ _ _ _ _) | (intro _ h st; show W _ _ _ _ _ _ _ _ _) | exact Sd)))
            have st := st.sepFilter (fun p : PgF => !outQ id n false (p.id, p.n)) Tk
            have st := St.sepSnoc (G := PgF.G) (a := (⟨id, n, q, N⟩ : PgF)) st Tk Pks
            have st := St.packP (t := 24) (k := .ptr D 0) (P := RefFIs D (s.tick.put (id, n) N) (m + 1)) (cs := [.pt D (refRowF sv l2 s.tick.left), VsC sv 3 (s.sizes.map ikey) true, PgsC l2 (keepF id n false ps ++ [(⟨id, n, q, N⟩ : PgF)]), SepC (.ptr D 0) PgF.G (keepF id n false ps ++ [(⟨id, n, q, N⟩ : PgF)])]) st
              ⟨sv, l2, _, by rw [← t1]; rfl, by simp; omega, by rw [← t1] at h16; exact h16, put_nodup (by rw [t2]; exact hnd) _ _, fun r => pfind_put (s := s.tick) (p := ⟨id, n, q, N⟩) (by rw [t2]; exact hnd) (fun r => by rw [hok r]; unfold FiS.cell; rw [t2]) r⟩ Pks
            exact ⟨_, rfl, _, ⟨rfl, rfl⟩, st.sel Sels⟩
        · rw [at_2 hs (by simp; omega)]
          (repeat (first | (show W _ _ _ _ _ _ (.code (cond _ _ _) :: _) _ _; first | refine W.ct ?_ | refine W.cf ?_) | (show W _ _ _ _ _ _ (.ins (cond _ _ _ :: _) :: _) _ _; first | refine W.gt ?_ | refine W.gf ?_) | (show W _ _ _ _ _ _ [] _ _; refine W.of (.done ?_)) | (apply W.of; constructor <;> first | (show W _ _ _ _ _ _ _ _ _) | (intro (al : Nat) h st; show W _ _ _ _ _ _ _ _ _) | (intro _ h st; show W _ _ _ _ _ _ _ _ _) | exact Sd)))
          exact ⟨_, rfl, _, ⟨rfl, rfl⟩, grow st⟩
end Go.Proofs.Ytjdemlagmamlbaa

namespace Go.Proofs.Ytjdemlagmamlbaa
variable {D : Nat} {s : FiS}
/-- two numbers of an argument -/
abbrev U2 := Nat × Nat
abbrev U2.cells (p : U2) : List AV := [.int .u64 (p.1 : Nat), .int .u64 (p.2 : Nat)]
abbrev U2.G (_ : U2) : List Chunk := []
/-- all six pages begin as is told -/
def PgH (pg : List (Pl × Nat)) (has : Nat) : Prop := ∀ i : Nat, i < 6 → byteAt ((alook pg (1, (i : Int))).getD 0) 0 = byteAt has i
abbrev pS (pg : List (Pl × Nat)) (l : Int) : FiS := ⟨[6], pg, l⟩
theorem PgH.put {pg : List (Pl × Nat)} {has n a N : Nat} (h : PgH pg has) (hn : (keys pg).Nodup) (ha : a < 256) (hN : byteAt N 0 = a) : PgH ((pS pg 0).put (1, (n : Int)) N).pg (bput has n 1 a) := by
  intro i hi
  have e := cell_put (s := pS pg 0) hn (1, (n : Int)) (1, (i : Int)) N
  unfold FiS.cell at e
  rw [e, byteAt_bput]
  by_cases h1 : n = i
  · subst h1
    rw [if_pos rfl, if_pos (by omega), Nat.sub_self, byteAt_small _ ha]; exact hN
  · rw [if_neg (by simp; omega), if_neg (by omega)]
    exact h i hi
end Go.Proofs.Ytjdemlagmamlbaa

namespace Go.Proofs.Ytjdemlagmamlbaa
variable {D : Nat} {s : FiS}
/-- an act -/
structure ActF where
  kind : Int
  id : Int
  n : Int
  v : AV
  k : Nat
  c : Nat
  raw : Bool
  hn : n ≤ 9223372036854775807
def ActF.cells (a : ActF) : List AV := [.int .i64 a.kind, .int .i64 a.id, .int .i64 a.n, a.v, .bool a.raw]
def ActF.G (a : ActF) : List Chunk := [ByC a.v a.k a.c false]
abbrev ActFC (v : AV) (l : List ActF) : Chunk := ArC v 5 ActF.cells ActF.G l
/-- the acts' bytes are what is told -/
def LenF (l : List ActF) : Prop := ∀ a, a ∈ l → sliceLen a.v = some a.k ∧ a.v.notJunk = some a.v
theorem cellsF_len (a : ActF) : a.cells.length = 5 := rfl
theorem law10_light {v : AV} {e : Nat} {w : Bool} {l : List ActF} (hl : LenF l) : Spec R (.f n_law10_light) [v] [SlC v e 5 l.length (.vals (l.flatMap ActF.cells)) w] fun r Rs =>
    (∃ b, r = .bool b ∧ (b = true → l.length ≤ 60 ∧ ∀ a, a ∈ l → a.k ≤ 5000)) ∧ Rs = [SlC v e 5 l.length (.vals (l.flatMap ActF.cells)) w] := by
  refine spec_in fun h F st => ?_
  obtain ⟨hv, hj, _⟩ := st.slc Tk
  clear st h F; refine spec_w (fun _ _ _ x => progI_call rfl rfl x) Njs rfl (fun h F st => ?_); dsimp only [List.cons_append, List.nil_append] at st
  (repeat (first | (show W _ _ _ _ _ _ (.code (cond _ _ _) :: _) _ _; first | refine W.ct ?_ | refine W.cf ?_) | (show W _ _ _ _ _ _ (.ins (cond _ _ _ :: _) :: _) _ _; first | refine W.gt ?_ | refine W.gf ?_) | (show W _ _ _ _ _ _ [] _ _; refine W.of (.done ?_)) | (apply W.of; constructor <;> first | (show W _ _ _ _ _ _ _ _ _) | (intro (al : Nat) h st; show W _ _ _ _ _ _ _ _ _) | (intro _ h st; show W _ _ _ _ _ _ _ _ _) | exact Sd)))
  by_cases h60 : l.length ≤ 60
  · (repeat (first | (show W _ _ _ _ _ _ (.code (cond _ _ _) :: _) _ _; first | refine W.ct ?_ | refine W.cf ?_) | (show W _ _ _ _ _ _ (.ins (cond _ _ _ :: _) :: _) _ _; first | refine W.gt ?_ | refine W.gf ?_) | (show W _ _ _ _ _ _ [] _ _; refine W.of (.done ?_)) | (apply W.of; constructor <;> first | (show W _ _ _ _ _ _ _ _ _) | (intro (al : Nat) h st; show W _ _ _ _ _ _ _ _ _) | (intro _ h st; show W _ _ _ _ _ _ _ _ _) | exact Sd)))
    refine W.loop (fun i : Nat => [(8, v), (9, .int .i64 l.length), (10, .int .i64 i)]) (fun _ => SlC v e 5 l.length (.vals (l.flatMap ActF.cells)) w :: F) (fun i => i ≤ l.length ∧ ∀ j a, j < i → l[j]? = some a → a.k ≤ 5000) (fun i => l.length - i) 0 (small_rounds (by omega)) Sbs st ⟨by omega, fun j a h => by omega⟩ ?_
    clear st
    intro i h ⟨hi, hall⟩ st
    by_cases hlt : i < l.length
    · obtain ⟨a, ha⟩ : ∃ a, l[i]? = some a := ⟨l[i], by simp [hlt]⟩
      obtain ⟨gl, gj⟩ := hl a (List.mem_of_getElem? ha)
      have gp := d_indexs (i := (i : Int)) (kk := .i64) st Tk (by omega) (by omega)
      have gq := elemPtr_nj (es := 5) hv hlt
      rw [Int.toNat_natCast] at gp
      obtain ⟨f1, f2⟩ := flat_at (fun a _ => cellsF_len a) ha
      (repeat (first | (show W _ _ _ _ _ _ (.code (cond _ _ _) :: _) _ _; first | refine W.ct ?_ | refine W.cf ?_) | (show W _ _ _ _ _ _ (.ins (cond _ _ _ :: _) :: _) _ _; first | refine W.gt ?_ | refine W.gf ?_) | (show W _ _ _ _ _ _ [] _ _; refine W.of (.done ?_)) | (apply W.of; constructor <;> first | (show W _ _ _ _ _ _ _ _ _) | (intro (al : Nat) h st; show W _ _ _ _ _ _ _ _ _) | (intro _ h st; show W _ _ _ _ _ _ _ _ _) | exact Sd)))
      (repeat (first | (show W _ _ _ _ _ _ (.code (cond _ _ _) :: _) _ _; first | refine W.ct ?_ | refine W.cf ?_) | (show W _ _ _ _ _ _ (.ins (cond _ _ _ :: _) :: _) _ _; first | refine W.gt ?_ | refine W.gf ?_) | (show W _ _ _ _ _ _ [] _ _; refine W.of (.done ?_)) | (apply W.of; constructor <;> first | (show W _ _ _ _ _ _ _ _ _) | (intro (al : Nat) h st; show W _ _ _ _ _ _ _ _ _) | (intro _ h st; show W _ _ _ _ _ _ _ _ _) | exact Sd))); refine W.do (ho := gp) (w := ?_)
      (repeat (first | (show W _ _ _ _ _ _ (.code (cond _ _ _) :: _) _ _; first | refine W.ct ?_ | refine W.cf ?_) | (show W _ _ _ _ _ _ (.ins (cond _ _ _ :: _) :: _) _ _; first | refine W.gt ?_ | refine W.gf ?_) | (show W _ _ _ _ _ _ [] _ _; refine W.of (.done ?_)) | (apply W.of; constructor <;> first | (show W _ _ _ _ _ _ _ _ _) | (intro (al : Nat) h st; show W _ _ _ _ _ _ _ _ _) | (intro _ h st; show W _ _ _ _ _ _ _ _ _) | exact Sd))); refine W.do (ho := (d_loadEn (x := .agg a.cells) st Tk rfl hlt (by simp only [Dat.sub]; rw [if_pos f2, f1]))) (w := ?_)
      (repeat (first | (show W _ _ _ _ _ _ (.code (cond _ _ _) :: _) _ _; first | refine W.ct ?_ | refine W.cf ?_) | (show W _ _ _ _ _ _ (.ins (cond _ _ _ :: _) :: _) _ _; first | refine W.gt ?_ | refine W.gf ?_) | (show W _ _ _ _ _ _ [] _ _; refine W.of (.done ?_)) | (apply W.of; constructor <;> first | (show W _ _ _ _ _ _ _ _ _) | (intro (al : Nat) h st; show W _ _ _ _ _ _ _ _ _) | (intro _ h st; show W _ _ _ _ _ _ _ _ _) | exact Sd)))
      by_cases h5 : a.k ≤ 5000
      · (repeat (first | (show W _ _ _ _ _ _ (.code (cond _ _ _) :: _) _ _; first | refine W.ct ?_ | refine W.cf ?_) | (show W _ _ _ _ _ _ (.ins (cond _ _ _ :: _) :: _) _ _; first | refine W.gt ?_ | refine W.gf ?_) | (show W _ _ _ _ _ _ [] _ _; refine W.of (.done ?_)) | (apply W.of; constructor <;> first | (show W _ _ _ _ _ _ _ _ _) | (intro (al : Nat) h st; show W _ _ _ _ _ _ _ _ _) | (intro _ h st; show W _ _ _ _ _ _ _ _ _) | exact Sd)))
        have hall' : ∀ j a, j < i + 1 → l[j]? = some a → a.k ≤ 5000 := fun j b hj hb => by
          by_cases e : j = i
          · subst e; rw [ha] at hb; cases hb; exact h5
          · exact hall j b (by omega) hb
        refine W.of (.lp ?_); exact ⟨i + 1, by omega, ⟨by omega, hall'⟩, Sbs, st.sel Sels⟩
      · (repeat (first | (show W _ _ _ _ _ _ (.code (cond _ _ _) :: _) _ _; first | refine W.ct ?_ | refine W.cf ?_) | (show W _ _ _ _ _ _ (.ins (cond _ _ _ :: _) :: _) _ _; first | refine W.gt ?_ | refine W.gf ?_) | (show W _ _ _ _ _ _ [] _ _; refine W.of (.done ?_)) | (apply W.of; constructor <;> first | (show W _ _ _ _ _ _ _ _ _) | (intro (al : Nat) h st; show W _ _ _ _ _ _ _ _ _) | (intro _ h st; show W _ _ _ _ _ _ _ _ _) | exact Sd)))
        exact ⟨_, rfl, _, ⟨⟨_, rfl, fun h => by cases h⟩, rfl⟩, st.sel Sels⟩
    · (repeat (first | (show W _ _ _ _ _ _ (.code (cond _ _ _) :: _) _ _; first | refine W.ct ?_ | refine W.cf ?_) | (show W _ _ _ _ _ _ (.ins (cond _ _ _ :: _) :: _) _ _; first | refine W.gt ?_ | refine W.gf ?_) | (show W _ _ _ _ _ _ [] _ _; refine W.of (.done ?_)) | (apply W.of; constructor <;> first | (show W _ _ _ _ _ _ _ _ _) | (intro (al : Nat) h st; show W _ _ _ _ _ _ _ _ _) | (intro _ h st; show W _ _ _ _ _ _ _ _ _) | exact Sd)))
      refine ⟨_, rfl, _, ⟨⟨_, rfl, fun _ => ⟨h60, fun a ha => ?_⟩⟩, rfl⟩, st⟩
      obtain ⟨j, hj, e⟩ := List.getElem_of_mem ha
      exact hall j a (by omega) (by simp [hj, e])
  · (repeat (first | (show W _ _ _ _ _ _ (.code (cond _ _ _) :: _) _ _; first | refine W.ct ?_ | refine W.cf ?_) | (show W _ _ _ _ _ _ (.ins (cond _ _ _ :: _) :: _) _ _; first | refine W.gt ?_ | refine W.gf ?_) | (show W _ _ _ _ _ _ [] _ _; refine W.of (.done ?_)) | (apply W.of; constructor <;> first | (show W _ _ _ _ _ _ _ _ _) | (intro (al : Nat) h st; show W _ _ _ _ _ _ _ _ _) | (intro _ h st; show W _ _ _ _ _ _ _ _ _) | exact Sd)))
    exact ⟨_, rfl, _, ⟨⟨_, rfl, fun h => by cases h⟩, rfl⟩, st⟩
/-- an act's bytes -/
def ActF.bk (a : ActF) : Nat := if a.raw then a.k else 4096
def ActF.bn (a : ActF) : Nat := if a.raw then a.c else pageN a.k a.c
theorem bytesF_w {a : ActF} : Spec R (.f n_law10_Act_bytes) [.agg a.cells] [ByC a.v a.k a.c false] fun x Rs => x.notJunk = some x ∧ sliceLen x = some a.bk ∧ ∃ w, Rs = [ByC x a.bk a.bn w, ByC a.v a.k a.c false] := by
  refine spec_in fun h F st => ?_
  obtain ⟨gl, gj, gn⟩ := st.by Tk
  clear st h F; refine spec_w (fun _ _ _ x => progI_call rfl rfl x) Njs rfl (fun h F st => ?_); dsimp only [List.cons_append, List.nil_append] at st
  unfold ActF.bk ActF.bn
  (repeat (first | (show W _ _ _ _ _ _ (.code (cond _ _ _) :: _) _ _; first | refine W.ct ?_ | refine W.cf ?_) | (show W _ _ _ _ _ _ (.ins (cond _ _ _ :: _) :: _) _ _; first | refine W.gt ?_ | refine W.gf ?_) | (show W _ _ _ _ _ _ [] _ _; refine W.of (.done ?_)) | (apply W.of; constructor <;> first | (show W _ _ _ _ _ _ _ _ _) | (intro (al : Nat) h st; show W _ _ _ _ _ _ _ _ _) | (intro _ h st; show W _ _ _ _ _ _ _ _ _) | exact Sd)))
  cases hr : a.raw with
  | true =>
    (repeat (first | (show W _ _ _ _ _ _ (.code (cond _ _ _) :: _) _ _; first | refine W.ct ?_ | refine W.cf ?_) | (show W _ _ _ _ _ _ (.ins (cond _ _ _ :: _) :: _) _ _; first | refine W.gt ?_ | refine W.gf ?_) | (show W _ _ _ _ _ _ [] _ _; refine W.of (.done ?_)) | (apply W.of; constructor <;> first | (show W _ _ _ _ _ _ _ _ _) | (intro (al : Nat) h st; show W _ _ _ _ _ _ _ _ _) | (intro _ h st; show W _ _ _ _ _ _ _ _ _) | exact Sd)))
    exact ⟨_, rfl, _, ⟨gj, gl, false, rfl⟩, (st.copyB Tk).sel Sels⟩
  | false =>
    (repeat (first | (show W _ _ _ _ _ _ (.code (cond _ _ _) :: _) _ _; first | refine W.ct ?_ | refine W.cf ?_) | (show W _ _ _ _ _ _ (.ins (cond _ _ _ :: _) :: _) _ _; first | refine W.gt ?_ | refine W.gf ?_) | (show W _ _ _ _ _ _ [] _ _; refine W.of (.done ?_)) | (apply W.of; constructor <;> first | (show W _ _ _ _ _ _ _ _ _) | (intro (al : Nat) h st; show W _ _ _ _ _ _ _ _ _) | (intro _ h st; show W _ _ _ _ _ _ _ _ _) | exact Sd))); refine W.call (hs := law10_page) (w := ?_); rintro vv _ ⟨⟨id, rfl⟩, rfl⟩ h st; refine nj ?_; dsimp only [List.cons_append, List.nil_append] at st
    (repeat (first | (show W _ _ _ _ _ _ (.code (cond _ _ _) :: _) _ _; first | refine W.ct ?_ | refine W.cf ?_) | (show W _ _ _ _ _ _ (.ins (cond _ _ _ :: _) :: _) _ _; first | refine W.gt ?_ | refine W.gf ?_) | (show W _ _ _ _ _ _ [] _ _; refine W.of (.done ?_)) | (apply W.of; constructor <;> first | (show W _ _ _ _ _ _ _ _ _) | (intro (al : Nat) h st; show W _ _ _ _ _ _ _ _ _) | (intro _ h st; show W _ _ _ _ _ _ _ _ _) | exact Sd)))
    exact ⟨_, rfl, _, ⟨rfl, rfl, true, rfl⟩, st.sel Sels⟩
abbrev zFile : AObj := .row ty_file_Store 4 false false (.vals [.bool false, .nilsl, .nilmap, .int .i64 0])
def NoFIs (p : AV) (cs : List Chunk) : Prop := (p = .nilptr ∧ cs = []) ∨ ∃ Z, p = .ptr Z 0 ∧ cs = [.pt Z zFile]
variable {p : AV}
theorem NoFIs.nj {cs : List Chunk} (h : NoFIs p cs) : p.notJunk = some p := by
  rcases h with ⟨rfl, _⟩ | ⟨Z, rfl, _⟩ <;> rfl
end Go.Proofs.Ytjdemlagmamlbaa

namespace Go.Proofs.Ytjdemlagmamlbaa
variable {D : Nat} {s : FiS} {m : Nat}
theorem pfind_cut {ps : List PgF} {id z : Int} (hn : (keys s.pg).Nodup) (hok : ∀ q, pfind ps q = s.cell q) (q : Pl) : pfind (keepF id z true ps) q = (alook (s.pg.filter fun q => !cutQ id z q.1) q).getD 0 := by
  unfold keepF
  rw [pfind_filter (g := fun q => !outQ id z true q) ps q, alook_filter hn (fun p => !cutQ id z p), outQ_cut, hok]
  cases cutQ id z q <;> rfl
set_option maxRecDepth 4000 in
theorem ref10_Resize {id z : Int} (hm : m ≤ 1000) : Spec R (.f n_ref10_Store_Resize) [.ptr D 0, .int .i64 id, .int .i64 z] [RefFC D s m] fun r Rs => r = .int .i64 (s.resize id z).e ∧ Rs = [RefFC D (s.resize id z).s m] := by
  refine spec_w (fun _ _ _ x => progI_call rfl rfl x) Njs rfl (fun h F st => ?_); dsimp only [List.cons_append, List.nil_append] at st
  unfold FiS.resize
  cases hs : s.size id with
  | none =>
    rw [if_pos (show (none : Option Int).isNone = true from rfl)]
    (repeat (first | (show W _ _ _ _ _ _ (.code (cond _ _ _) :: _) _ _; first | refine W.ct ?_ | refine W.cf ?_) | (show W _ _ _ _ _ _ (.ins (cond _ _ _ :: _) :: _) _ _; first | refine W.gt ?_ | refine W.gf ?_) | (show W _ _ _ _ _ _ [] _ _; refine W.of (.done ?_)) | (apply W.of; constructor <;> first | (show W _ _ _ _ _ _ _ _ _) | (intro (al : Nat) h st; show W _ _ _ _ _ _ _ _ _) | (intro _ h st; show W _ _ _ _ _ _ _ _ _) | exact Sd))); refine W.call (hs := (ref10_Size_n hs)) (w := ?_); rintro vv _ ⟨rfl, rfl⟩ h st; refine nj ?_; dsimp only [List.cons_append, List.nil_append] at st
    (repeat (first | (show W _ _ _ _ _ _ (.code (cond _ _ _) :: _) _ _; first | refine W.ct ?_ | refine W.cf ?_) | (show W _ _ _ _ _ _ (.ins (cond _ _ _ :: _) :: _) _ _; first | refine W.gt ?_ | refine W.gf ?_) | (show W _ _ _ _ _ _ [] _ _; refine W.of (.done ?_)) | (apply W.of; constructor <;> first | (show W _ _ _ _ _ _ _ _ _) | (intro (al : Nat) h st; show W _ _ _ _ _ _ _ _ _) | (intro _ h st; show W _ _ _ _ _ _ _ _ _) | exact Sd)))
    exact ⟨_, rfl, _, ⟨rfl, rfl⟩, st.sel Sels⟩
  | some y =>
    rw [if_neg (by simp)]
    (repeat (first | (show W _ _ _ _ _ _ (.code (cond _ _ _) :: _) _ _; first | refine W.ct ?_ | refine W.cf ?_) | (show W _ _ _ _ _ _ (.ins (cond _ _ _ :: _) :: _) _ _; first | refine W.gt ?_ | refine W.gf ?_) | (show W _ _ _ _ _ _ [] _ _; refine W.of (.done ?_)) | (apply W.of; constructor <;> first | (show W _ _ _ _ _ _ _ _ _) | (intro (al : Nat) h st; show W _ _ _ _ _ _ _ _ _) | (intro _ h st; show W _ _ _ _ _ _ _ _ _) | exact Sd))); refine W.call (hs := (ref10_Size_s hs)) (w := ?_); rintro vv _ ⟨rfl, rfl⟩ h st; refine nj ?_; dsimp only [List.cons_append, List.nil_append] at st
    by_cases h1 : z < 0
    · rw [if_pos (.inl h1)]
      (repeat (first | (show W _ _ _ _ _ _ (.code (cond _ _ _) :: _) _ _; first | refine W.ct ?_ | refine W.cf ?_) | (show W _ _ _ _ _ _ (.ins (cond _ _ _ :: _) :: _) _ _; first | refine W.gt ?_ | refine W.gf ?_) | (show W _ _ _ _ _ _ [] _ _; refine W.of (.done ?_)) | (apply W.of; constructor <;> first | (show W _ _ _ _ _ _ _ _ _) | (intro (al : Nat) h st; show W _ _ _ _ _ _ _ _ _) | (intro _ h st; show W _ _ _ _ _ _ _ _ _) | exact Sd)))
      exact ⟨_, rfl, _, ⟨rfl, rfl⟩, st.sel Sels⟩
    · by_cases h2 : z > 4096
      · rw [if_pos (.inr h2)]
        (repeat (first | (show W _ _ _ _ _ _ (.code (cond _ _ _) :: _) _ _; first | refine W.ct ?_ | refine W.cf ?_) | (show W _ _ _ _ _ _ (.ins (cond _ _ _ :: _) :: _) _ _; first | refine W.gt ?_ | refine W.gf ?_) | (show W _ _ _ _ _ _ [] _ _; refine W.of (.done ?_)) | (apply W.of; constructor <;> first | (show W _ _ _ _ _ _ _ _ _) | (intro (al : Nat) h st; show W _ _ _ _ _ _ _ _ _) | (intro _ h st; show W _ _ _ _ _ _ _ _ _) | exact Sd)))
        exact ⟨_, rfl, _, ⟨rfl, rfl⟩, st.sel Sels⟩
      · rw [if_neg (by omega)]
        obtain ⟨g1, g2, g3⟩ := size_some hs
        have hi : (id - 1).toNat < s.sizes.length := by omega
        obtain ⟨_, ⟨sv, lv, ps, rfl, hmm, h16, hnd, hok⟩, st⟩ := St.unpack st; dsimp only [List.cons_append, List.nil_append] at st
        (repeat (first | (show W _ _ _ _ _ _ (.code (cond _ _ _) :: _) _ _; first | refine W.ct ?_ | refine W.cf ?_) | (show W _ _ _ _ _ _ (.ins (cond _ _ _ :: _) :: _) _ _; first | refine W.gt ?_ | refine W.gf ?_) | (show W _ _ _ _ _ _ [] _ _; refine W.of (.done ?_)) | (apply W.of; constructor <;> first | (show W _ _ _ _ _ _ _ _ _) | (intro (al : Nat) h st; show W _ _ _ _ _ _ _ _ _) | (intro _ h st; show W _ _ _ _ _ _ _ _ _) | exact Sd))); refine W.call (hs := (ref10_without (ps := ps) (by omega))) (w := ?_); rintro vv _ ⟨gj, gl, rfl⟩ h st; refine nj ?_; dsimp only [List.cons_append, List.nil_append] at st
        have hk := keepF_len id z true ps
        have gs := okSame_sl gl
        obtain ⟨l2, rfl⟩ : ∃ y, y = vv := ⟨_, rfl⟩
        (repeat (first | (show W _ _ _ _ _ _ (.code (cond _ _ _) :: _) _ _; first | refine W.ct ?_ | refine W.cf ?_) | (show W _ _ _ _ _ _ (.ins (cond _ _ _ :: _) :: _) _ _; first | refine W.gt ?_ | refine W.gf ?_) | (show W _ _ _ _ _ _ [] _ _; refine W.of (.done ?_)) | (apply W.of; constructor <;> first | (show W _ _ _ _ _ _ _ _ _) | (intro (al : Nat) h st; show W _ _ _ _ _ _ _ _ _) | (intro _ h st; show W _ _ _ _ _ _ _ _ _) | exact Sd)))
        (repeat (first | (show W _ _ _ _ _ _ (.code (cond _ _ _) :: _) _ _; first | refine W.ct ?_ | refine W.cf ?_) | (show W _ _ _ _ _ _ (.ins (cond _ _ _ :: _) :: _) _ _; first | refine W.gt ?_ | refine W.gf ?_) | (show W _ _ _ _ _ _ [] _ _; refine W.of (.done ?_)) | (apply W.of; constructor <;> first | (show W _ _ _ _ _ _ _ _ _) | (intro (al : Nat) h st; show W _ _ _ _ _ _ _ _ _) | (intro _ h st; show W _ _ _ _ _ _ _ _ _) | exact Sd))); refine W.ef0 (ho := (e_storeV (i := 1) st Tk rfl (by simp) (sl_dat gl))) (w := ?_); rintro _ h ⟨_, st⟩
        obtain ⟨hl, hj, hos⟩ := FiS.slice st Tk
        (repeat (first | (show W _ _ _ _ _ _ (.code (cond _ _ _) :: _) _ _; first | refine W.ct ?_ | refine W.cf ?_) | (show W _ _ _ _ _ _ (.ins (cond _ _ _ :: _) :: _) _ _; first | refine W.gt ?_ | refine W.gf ?_) | (show W _ _ _ _ _ _ [] _ _; refine W.of (.done ?_)) | (apply W.of; constructor <;> first | (show W _ _ _ _ _ _ _ _ _) | (intro (al : Nat) h st; show W _ _ _ _ _ _ _ _ _) | (intro _ h st; show W _ _ _ _ _ _ _ _ _) | exact Sd)))
        have st := St.vsRow (l := []) (e := 3) st Tk rfl
        (repeat (first | (show W _ _ _ _ _ _ (.code (cond _ _ _) :: _) _ _; first | refine W.ct ?_ | refine W.cf ?_) | (show W _ _ _ _ _ _ (.ins (cond _ _ _ :: _) :: _) _ _; first | refine W.gt ?_ | refine W.gf ?_) | (show W _ _ _ _ _ _ [] _ _; refine W.of (.done ?_)) | (apply W.of; constructor <;> first | (show W _ _ _ _ _ _ _ _ _) | (intro (al : Nat) h st; show W _ _ _ _ _ _ _ _ _) | (intro _ h st; show W _ _ _ _ _ _ _ _ _) | exact Sd))); refine W.ef (ho := (e_vsAppend (l := []) (l' := s.sizes.map ikey) st Tk Tk (by simp; omega) (by simp; omega))) (w := ?_); rintro vv h ⟨bj, bl, st⟩; refine nj ?_
        obtain ⟨l1, rfl⟩ : ∃ y, y = vv := ⟨_, rfl⟩
        have bs := okSame_sl bl
        (repeat (first | (show W _ _ _ _ _ _ (.code (cond _ _ _) :: _) _ _; first | refine W.ct ?_ | refine W.cf ?_) | (show W _ _ _ _ _ _ (.ins (cond _ _ _ :: _) :: _) _ _; first | refine W.gt ?_ | refine W.gf ?_) | (show W _ _ _ _ _ _ [] _ _; refine W.of (.done ?_)) | (apply W.of; constructor <;> first | (show W _ _ _ _ _ _ _ _ _) | (intro (al : Nat) h st; show W _ _ _ _ _ _ _ _ _) | (intro _ h st; show W _ _ _ _ _ _ _ _ _) | exact Sd))); refine W.ef0 (ho := (e_storeV (i := 0) st Tk rfl (by simp) (sl_dat bl))) (w := ?_); rintro _ h ⟨_, st⟩
        (repeat (first | (show W _ _ _ _ _ _ (.code (cond _ _ _) :: _) _ _; first | refine W.ct ?_ | refine W.cf ?_) | (show W _ _ _ _ _ _ (.ins (cond _ _ _ :: _) :: _) _ _; first | refine W.gt ?_ | refine W.gf ?_) | (show W _ _ _ _ _ _ [] _ _; refine W.of (.done ?_)) | (apply W.of; constructor <;> first | (show W _ _ _ _ _ _ _ _ _) | (intro (al : Nat) h st; show W _ _ _ _ _ _ _ _ _) | (intro _ h st; show W _ _ _ _ _ _ _ _ _) | exact Sd)))
        rw [List.nil_append] at st
        obtain ⟨gp, gq⟩ := d_vsIdx (v := l1) (l := s.sizes.map ikey) (i := (id - 1).toNat) (kk := .i64) st Tk (by rw [List.length_map]; exact hi)
        rw [show (((id - 1).toNat : Nat) : Int) = id - 1 by omega] at gp
        (repeat (first | (show W _ _ _ _ _ _ (.code (cond _ _ _) :: _) _ _; first | refine W.ct ?_ | refine W.cf ?_) | (show W _ _ _ _ _ _ (.ins (cond _ _ _ :: _) :: _) _ _; first | refine W.gt ?_ | refine W.gf ?_) | (show W _ _ _ _ _ _ [] _ _; refine W.of (.done ?_)) | (apply W.of; constructor <;> first | (show W _ _ _ _ _ _ _ _ _) | (intro (al : Nat) h st; show W _ _ _ _ _ _ _ _ _) | (intro _ h st; show W _ _ _ _ _ _ _ _ _) | exact Sd))); refine W.do (ho := gp) (w := ?_)
        (repeat (first | (show W _ _ _ _ _ _ (.code (cond _ _ _) :: _) _ _; first | refine W.ct ?_ | refine W.cf ?_) | (show W _ _ _ _ _ _ (.ins (cond _ _ _ :: _) :: _) _ _; first | refine W.gt ?_ | refine W.gf ?_) | (show W _ _ _ _ _ _ [] _ _; refine W.of (.done ?_)) | (apply W.of; constructor <;> first | (show W _ _ _ _ _ _ _ _ _) | (intro (al : Nat) h st; show W _ _ _ _ _ _ _ _ _) | (intro _ h st; show W _ _ _ _ _ _ _ _ _) | exact Sd))); refine W.ef0 (ho := (e_vsStore (v := l1) (l := s.sizes.map ikey) (i := (id - 1).toNat) st Tk (by rw [List.length_map]; exact hi) rfl)) (w := ?_); rintro _ h ⟨_, st⟩
        (repeat (first | (show W _ _ _ _ _ _ (.code (cond _ _ _) :: _) _ _; first | refine W.ct ?_ | refine W.cf ?_) | (show W _ _ _ _ _ _ (.ins (cond _ _ _ :: _) :: _) _ _; first | refine W.gt ?_ | refine W.gf ?_) | (show W _ _ _ _ _ _ [] _ _; refine W.of (.done ?_)) | (apply W.of; constructor <;> first | (show W _ _ _ _ _ _ _ _ _) | (intro (al : Nat) h st; show W _ _ _ _ _ _ _ _ _) | (intro _ h st; show W _ _ _ _ _ _ _ _ _) | exact Sd)))
        rw [show (s.sizes.map ikey).set (id - 1).toNat (.int .i64 z) = (s.sizes.set (id - 1).toNat z).map ikey by rw [List.map_set]] at st
        have st := st.sepFilter (fun p : PgF => !outQ id z true (p.id, p.n)) Tk
        have st := St.packP (t := 24) (k := .ptr D 0) (P := RefFIs D { s with sizes := s.sizes.set (id - 1).toNat z, pg := s.pg.filter fun q => !cutQ id z q.1 } m) (cs := [.pt D (refRowF l1 l2 s.left), VsC l1 3 ((s.sizes.set (id - 1).toNat z).map ikey) true, PgsC l2 (keepF id z true ps), SepC (.ptr D 0) PgF.G (keepF id z true ps)]) (st.sel Sels)
          ⟨l1, l2, _, rfl, by omega, by simpa using h16, by unfold keys at *; exact hnd.sublist (List.filter_sublist.map _), fun q => pfind_cut hnd hok q⟩ Pks
        exact ⟨_, rfl, _, ⟨rfl, rfl⟩, st.sel Sels⟩
structure ActSF where
  i : Nat
  s : FiS
abbrev factE (D E : Nat) (v : AV) (l : List ActF) (i : Nat) : Env := [(3, .ptr D 0), (4, .ptr E 0), (29, v), (30, .int .i64 l.length), (31, .int .i64 i)]
abbrev factG (D E : Nat) (v : AV) (l : List ActF) (F : List Chunk) (y : ActSF) : List Chunk := FiC D y.s :: RefFC E y.s y.i :: ActFC v l :: F
structure FOk (s : FiS) (i : Nat) : Prop where
  pg : s.pg.length ≤ i
  l0 : 0 ≤ s.left
  l1 : s.left ≤ 9223372036854775807
abbrev factJ (D E : Nat) (v : AV) (l : List ActF) (F : List Chunk) (i : Nat) : Env → AHeap → Prop := fun s' h' => ∃ z : ActSF, l.length - z.i < l.length - i ∧ (z.i ≤ l.length ∧ FOk z.s z.i) ∧ Sub (factE D E v l z.i) s' ∧ St h' (factG D E v l F z)
def factTail : ACode := sR (sR (sR (bB (sL (sR (sR c_law10_FileActs_L0))))))
theorem St.refGrow {h : AHeap} {L : List Chunk} {i j : Nat} (st : St h (RefFC D s i :: L)) (hij : i ≤ j) : St h (RefFC D s j :: L) := st.mono fun cs ⟨sv, lv, ps, e, h2, h3⟩ => ⟨sv, lv, ps, e, by omega, h3⟩
set_option maxRecDepth 8000 in
theorem fact_tail {D E V i : Nat} {v : AV} {l : List ActF} {F : List Chunk} {Q : AExit → Env → AHeap → Prop} {k : List KI} {h : AHeap} {s : FiS} {a : ActF} {q : Bool} (hq : q = true) (hlt : i < l.length) (h60 : l.length ≤ 60) (hok : FOk s (i + 1))
    (st : St h (FiC D s :: RefFC E s (i + 1) :: .pt V (.row 91 5 false false (.vals a.cells)) :: ActFC v l :: F)) :
    W over tab none c_law10_FileActs.ntmps Q .normal (.ins (List.drop 3 (rg (sL factTail))) :: .code (sR factTail) :: .blk 1 :: .code (.region [I 187 (.bin .add) [T 31, N 1], I 31 (.mv) [T 187]]) :: .lp (factJ D E v l F i) :: k)
      [(3, .ptr D 0), (4, .ptr E 0), (6, .ptr V 0), (7, .bool q), (29, v), (30, .int .i64 l.length), (31, .int .i64 i), (135, .ptr D 0), (137, .int .i64 a.id)] h := by
  subst hq
  (repeat (first | (show W _ _ _ _ _ _ (.code (cond _ _ _) :: _) _ _; first | refine W.ct ?_ | refine W.cf ?_) | (show W _ _ _ _ _ _ (.ins (cond _ _ _ :: _) :: _) _ _; first | refine W.gt ?_ | refine W.gf ?_) | (show W _ _ _ _ _ _ [] _ _; refine W.of (.done ?_)) | (apply W.of; constructor <;> first | (show W _ _ _ _ _ _ _ _ _) | (intro (al : Nat) h st; show W _ _ _ _ _ _ _ _ _) | (intro _ h st; show W _ _ _ _ _ _ _ _ _) | exact Sd))); refine W.call (hs := file_Size) (w := ?_); rintro vv _ ⟨rfl, rfl⟩ h st; refine nj ?_; dsimp only [List.cons_append, List.nil_append] at st
  (repeat (first | (show W _ _ _ _ _ _ (.code (cond _ _ _) :: _) _ _; first | refine W.ct ?_ | refine W.cf ?_) | (show W _ _ _ _ _ _ (.ins (cond _ _ _ :: _) :: _) _ _; first | refine W.gt ?_ | refine W.gf ?_) | (show W _ _ _ _ _ _ [] _ _; refine W.of (.done ?_)) | (apply W.of; constructor <;> first | (show W _ _ _ _ _ _ _ _ _) | (intro (al : Nat) h st; show W _ _ _ _ _ _ _ _ _) | (intro _ h st; show W _ _ _ _ _ _ _ _ _) | exact Sd))); refine W.call (hs := ref10_Size) (w := ?_); rintro vv _ ⟨rfl, rfl⟩ h st; refine nj ?_; dsimp only [List.cons_append, List.nil_append] at st
  (repeat (first | (show W _ _ _ _ _ _ (.code (cond _ _ _) :: _) _ _; first | refine W.ct ?_ | refine W.cf ?_) | (show W _ _ _ _ _ _ (.ins (cond _ _ _ :: _) :: _) _ _; first | refine W.gt ?_ | refine W.gf ?_) | (show W _ _ _ _ _ _ [] _ _; refine W.of (.done ?_)) | (apply W.of; constructor <;> first | (show W _ _ _ _ _ _ _ _ _) | (intro (al : Nat) h st; show W _ _ _ _ _ _ _ _ _) | (intro _ h st; show W _ _ _ _ _ _ _ _ _) | exact Sd))); refine W.call (hs := file_Peek) (w := ?_); rintro vv _ ⟨gx, gk, rfl⟩ h st; refine nj ?_; dsimp only [List.cons_append, List.nil_append] at st
  (repeat (first | (show W _ _ _ _ _ _ (.code (cond _ _ _) :: _) _ _; first | refine W.ct ?_ | refine W.cf ?_) | (show W _ _ _ _ _ _ (.ins (cond _ _ _ :: _) :: _) _ _; first | refine W.gt ?_ | refine W.gf ?_) | (show W _ _ _ _ _ _ [] _ _; refine W.of (.done ?_)) | (apply W.of; constructor <;> first | (show W _ _ _ _ _ _ _ _ _) | (intro (al : Nat) h st; show W _ _ _ _ _ _ _ _ _) | (intro _ h st; show W _ _ _ _ _ _ _ _ _) | exact Sd))); refine W.call (hs := (ref10_Peek (m := i + 1) (by omega))) (w := ?_); rintro vv _ ⟨gx2, gk2, rfl⟩ h st; refine nj ?_; dsimp only [List.cons_append, List.nil_append] at st
  (repeat (first | (show W _ _ _ _ _ _ (.code (cond _ _ _) :: _) _ _; first | refine W.ct ?_ | refine W.cf ?_) | (show W _ _ _ _ _ _ (.ins (cond _ _ _ :: _) :: _) _ _; first | refine W.gt ?_ | refine W.gf ?_) | (show W _ _ _ _ _ _ [] _ _; refine W.of (.done ?_)) | (apply W.of; constructor <;> first | (show W _ _ _ _ _ _ _ _ _) | (intro (al : Nat) h st; show W _ _ _ _ _ _ _ _ _) | (intro _ h st; show W _ _ _ _ _ _ _ _ _) | exact Sd))); refine W.call (hs := Bytes_t) (w := ?_); rintro vv _ ⟨rfl, rfl⟩ h st; refine nj ?_; dsimp only [List.cons_append, List.nil_append] at st
  have st := st.take (c := RefFC E s (i + 1)) Tk
  obtain ⟨_, ⟨sv, lv, ps, rfl, hmm, h16, hnd, hoo⟩, st⟩ := St.unpack st; dsimp only [List.cons_append, List.nil_append] at st
  obtain ⟨hl, hj, hos⟩ := FiS.slice st Tk
  (repeat (first | (show W _ _ _ _ _ _ (.code (cond _ _ _) :: _) _ _; first | refine W.ct ?_ | refine W.cf ?_) | (show W _ _ _ _ _ _ (.ins (cond _ _ _ :: _) :: _) _ _; first | refine W.gt ?_ | refine W.gf ?_) | (show W _ _ _ _ _ _ [] _ _; refine W.of (.done ?_)) | (apply W.of; constructor <;> first | (show W _ _ _ _ _ _ _ _ _) | (intro (al : Nat) h st; show W _ _ _ _ _ _ _ _ _) | (intro _ h st; show W _ _ _ _ _ _ _ _ _) | exact Sd)))
  rw [neSelf]
  (repeat (first | (show W _ _ _ _ _ _ (.code (cond _ _ _) :: _) _ _; first | refine W.ct ?_ | refine W.cf ?_) | (show W _ _ _ _ _ _ (.ins (cond _ _ _ :: _) :: _) _ _; first | refine W.gt ?_ | refine W.gf ?_) | (show W _ _ _ _ _ _ [] _ _; refine W.of (.done ?_)) | (apply W.of; constructor <;> first | (show W _ _ _ _ _ _ _ _ _) | (intro (al : Nat) h st; show W _ _ _ _ _ _ _ _ _) | (intro _ h st; show W _ _ _ _ _ _ _ _ _) | exact Sd)))
  rw [beq_self_eq_true]
  (repeat (first | (show W _ _ _ _ _ _ (.code (cond _ _ _) :: _) _ _; first | refine W.ct ?_ | refine W.cf ?_) | (show W _ _ _ _ _ _ (.ins (cond _ _ _ :: _) :: _) _ _; first | refine W.gt ?_ | refine W.gf ?_) | (show W _ _ _ _ _ _ [] _ _; refine W.of (.done ?_)) | (apply W.of; constructor <;> first | (show W _ _ _ _ _ _ _ _ _) | (intro (al : Nat) h st; show W _ _ _ _ _ _ _ _ _) | (intro _ h st; show W _ _ _ _ _ _ _ _ _) | exact Sd))); refine W.call (hs := file_Ids) (w := ?_); rintro vv _ ⟨ix, ik, rfl⟩ h st; refine nj ?_; dsimp only [List.cons_append, List.nil_append] at st
  (repeat (first | (show W _ _ _ _ _ _ (.code (cond _ _ _) :: _) _ _; first | refine W.ct ?_ | refine W.cf ?_) | (show W _ _ _ _ _ _ (.ins (cond _ _ _ :: _) :: _) _ _; first | refine W.gt ?_ | refine W.gf ?_) | (show W _ _ _ _ _ _ [] _ _; refine W.of (.done ?_)) | (apply W.of; constructor <;> first | (show W _ _ _ _ _ _ _ _ _) | (intro (al : Nat) h st; show W _ _ _ _ _ _ _ _ _) | (intro _ h st; show W _ _ _ _ _ _ _ _ _) | exact Sd)))
  rw [neSelf]
  (repeat (first | (show W _ _ _ _ _ _ (.code (cond _ _ _) :: _) _ _; first | refine W.ct ?_ | refine W.cf ?_) | (show W _ _ _ _ _ _ (.ins (cond _ _ _ :: _) :: _) _ _; first | refine W.gt ?_ | refine W.gf ?_) | (show W _ _ _ _ _ _ [] _ _; refine W.of (.done ?_)) | (apply W.of; constructor <;> first | (show W _ _ _ _ _ _ _ _ _) | (intro (al : Nat) h st; show W _ _ _ _ _ _ _ _ _) | (intro _ h st; show W _ _ _ _ _ _ _ _ _) | exact Sd)))
  have st := St.packP (t := 24) (k := .ptr E 0) (P := RefFIs E s (i + 1)) st ⟨sv, lv, ps, rfl, hmm, h16, hnd, hoo⟩ Pks
  refine W.of (.lp ?_)
  exact ⟨⟨i + 1, s⟩, by simp only; omega, ⟨hlt, hok⟩, Sbs, st.sel Sels⟩
theorem tick_ok {i : Nat} (h : FOk s i) : FOk s.tick i := by
  obtain ⟨h1, h2, h3⟩ := h
  refine ⟨by rw [tick_same.2]; exact h1, ?_, ?_⟩ <;> (unfold FiS.tick; split <;> (try simp only) <;> omega)
theorem at_okF {i : Nat} {id n : Int} {g : Bool} (h : FOk s i) : FOk (s.at' id n g).s i := by
  unfold FiS.at'
  split
  · exact h
  · split
    · exact tick_ok h
    · exact h
theorem write_okF {i : Nat} {id n : Int} {k N : Nat} (h : FOk s i) : FOk (s.write id n k N).s (i + 1) := by
  unfold FiS.write
  dsimp only
  split
  · have h2 := at_okF (id := id) (n := n) (g := (k : Int) == 4096) h
    have := put_len (s := (s.at' id n ((k : Int) == 4096)).s) (id, n) N
    exact ⟨by have := h2.pg; omega, h2.l0, h2.l1⟩
  · have h2 := at_okF (id := id) (n := n) (g := (k : Int) == 4096) h
    exact ⟨by have := h2.pg; omega, h2.l0, h2.l1⟩
theorem resize_okF {i : Nat} {id z : Int} (h : FOk s i) : FOk (s.resize id z).s i := by
  unfold FiS.resize
  split
  · exact h
  · split
    · exact h
    · exact ⟨Nat.le_trans (List.length_filter_le _ _) h.pg, h.l0, h.l1⟩
theorem make_okF {i : Nat} {n : Int} (h : FOk s i) : FOk (s.make n).1 i := by
  unfold FiS.make
  split
  · exact h
  · split
    · exact h
    · exact ⟨h.pg, h.l0, h.l1⟩
theorem FOk.up {i : Nat} (h : FOk s i) : FOk s (i + 1) := ⟨by have := h.pg; omega, h.l0, h.l1⟩
set_option maxRecDepth 8000 in
theorem fact_L0 {D E : Nat} {v : AV} {l : List ActF} {F : List Chunk} {Q : AExit → Env → AHeap → Prop} {k : List KI} {h : AHeap} (y : ActSF) (st : St h (factG D E v l F y)) (hlt : y.i < l.length) (h60 : l.length ≤ 60) (hok : FOk y.s y.i) :
    W over tab none c_law10_FileActs.ntmps Q .normal (.code c_law10_FileActs_L0 :: .lp (factJ D E v l F y.i) :: k) (factE D E v l y.i) h := by
  obtain ⟨i, s⟩ := y
  dsimp only [factE, factG] at hlt st hok ⊢
  obtain ⟨a, ha⟩ : ∃ a, l[i]? = some a := ⟨l[i], by simp [hlt]⟩
  have st := st.arAt Tk ha
  dsimp only [ActF.G, List.cons_append, List.nil_append] at st
  obtain ⟨gl, gj⟩ := st.by2 Tk
  have go := okSame_sl gl
  have gs : okSame (.agg a.cells) = true := by simp only [okSame, ActF.cells, okSameL, go, Bool.and_self]
  obtain ⟨gp, gq⟩ := d_arIdx (kk := .i64) st Tk hlt
  (repeat (first | (show W _ _ _ _ _ _ (.code (cond _ _ _) :: _) _ _; first | refine W.ct ?_ | refine W.cf ?_) | (show W _ _ _ _ _ _ (.ins (cond _ _ _ :: _) :: _) _ _; first | refine W.gt ?_ | refine W.gf ?_) | (show W _ _ _ _ _ _ [] _ _; refine W.of (.done ?_)) | (apply W.of; constructor <;> first | (show W _ _ _ _ _ _ _ _ _) | (intro (al : Nat) h st; show W _ _ _ _ _ _ _ _ _) | (intro _ h st; show W _ _ _ _ _ _ _ _ _) | exact Sd))); refine W.do (ho := gp) (w := ?_)
  (repeat (first | (show W _ _ _ _ _ _ (.code (cond _ _ _) :: _) _ _; first | refine W.ct ?_ | refine W.cf ?_) | (show W _ _ _ _ _ _ (.ins (cond _ _ _ :: _) :: _) _ _; first | refine W.gt ?_ | refine W.gf ?_) | (show W _ _ _ _ _ _ [] _ _; refine W.of (.done ?_)) | (apply W.of; constructor <;> first | (show W _ _ _ _ _ _ _ _ _) | (intro (al : Nat) h st; show W _ _ _ _ _ _ _ _ _) | (intro _ h st; show W _ _ _ _ _ _ _ _ _) | exact Sd))); refine W.do (ho := (d_loadar st Tk ha)) (w := ?_)
  (repeat (first | (show W _ _ _ _ _ _ (.code (cond _ _ _) :: _) _ _; first | refine W.ct ?_ | refine W.cf ?_) | (show W _ _ _ _ _ _ (.ins (cond _ _ _ :: _) :: _) _ _; first | refine W.gt ?_ | refine W.gf ?_) | (show W _ _ _ _ _ _ [] _ _; refine W.of (.done ?_)) | (apply W.of; constructor <;> first | (show W _ _ _ _ _ _ _ _ _) | (intro (al : Nat) h st; show W _ _ _ _ _ _ _ _ _) | (intro _ h st; show W _ _ _ _ _ _ _ _ _) | exact Sd)))
  obtain ⟨ho1, ho2, ho3⟩ := hok
  by_cases h0 : a.kind = 0
  · (repeat (first | (show W _ _ _ _ _ _ (.code (cond _ _ _) :: _) _ _; first | refine W.ct ?_ | refine W.cf ?_) | (show W _ _ _ _ _ _ (.ins (cond _ _ _ :: _) :: _) _ _; first | refine W.gt ?_ | refine W.gf ?_) | (show W _ _ _ _ _ _ [] _ _; refine W.of (.done ?_)) | (apply W.of; constructor <;> first | (show W _ _ _ _ _ _ _ _ _) | (intro (al : Nat) h st; show W _ _ _ _ _ _ _ _ _) | (intro _ h st; show W _ _ _ _ _ _ _ _ _) | exact Sd))); refine W.call (hs := file_Make) (w := ?_); rintro vv _ ⟨rfl, rfl⟩ h st; refine nj ?_; dsimp only [List.cons_append, List.nil_append] at st
    (repeat (first | (show W _ _ _ _ _ _ (.code (cond _ _ _) :: _) _ _; first | refine W.ct ?_ | refine W.cf ?_) | (show W _ _ _ _ _ _ (.ins (cond _ _ _ :: _) :: _) _ _; first | refine W.gt ?_ | refine W.gf ?_) | (show W _ _ _ _ _ _ [] _ _; refine W.of (.done ?_)) | (apply W.of; constructor <;> first | (show W _ _ _ _ _ _ _ _ _) | (intro (al : Nat) h st; show W _ _ _ _ _ _ _ _ _) | (intro _ h st; show W _ _ _ _ _ _ _ _ _) | exact Sd))); refine W.call (hs := ref10_Make) (w := ?_); rintro vv _ ⟨rfl, rfl⟩ h st; refine nj ?_; dsimp only [List.cons_append, List.nil_append] at st
    (repeat (first | (show W _ _ _ _ _ _ (.code (cond _ _ _) :: _) _ _; first | refine W.ct ?_ | refine W.cf ?_) | (show W _ _ _ _ _ _ (.ins (cond _ _ _ :: _) :: _) _ _; first | refine W.gt ?_ | refine W.gf ?_) | (show W _ _ _ _ _ _ [] _ _; refine W.of (.done ?_)) | (apply W.of; constructor <;> first | (show W _ _ _ _ _ _ _ _ _) | (intro (al : Nat) h st; show W _ _ _ _ _ _ _ _ _) | (intro _ h st; show W _ _ _ _ _ _ _ _ _) | exact Sd)))
    rw [beqSelf]
    (repeat (first | (show W _ _ _ _ _ _ (.code (cond _ _ _) :: _) _ _; first | refine W.ct ?_ | refine W.cf ?_) | (show W _ _ _ _ _ _ (.ins (cond _ _ _ :: _) :: _) _ _; first | refine W.gt ?_ | refine W.gf ?_) | (show W _ _ _ _ _ _ [] _ _; refine W.of (.done ?_)) | (apply W.of; constructor <;> first | (show W _ _ _ _ _ _ _ _ _) | (intro (al : Nat) h st; show W _ _ _ _ _ _ _ _ _) | (intro _ h st; show W _ _ _ _ _ _ _ _ _) | exact Sd)))
    have st := st.take (c := RefFC E (s.make a.n).1 i) Tk
    have st := st.refGrow (j := i + 1) (by omega)
    exact W.sub Sbs (fact_tail (a := a) (V := al) (q := true) rfl hlt h60 (make_okF ⟨ho1, ho2, ho3⟩).up (st.sel Sels))
  · by_cases h1 : a.kind = 1
    · (repeat (first | (show W _ _ _ _ _ _ (.code (cond _ _ _) :: _) _ _; first | refine W.ct ?_ | refine W.cf ?_) | (show W _ _ _ _ _ _ (.ins (cond _ _ _ :: _) :: _) _ _; first | refine W.gt ?_ | refine W.gf ?_) | (show W _ _ _ _ _ _ [] _ _; refine W.of (.done ?_)) | (apply W.of; constructor <;> first | (show W _ _ _ _ _ _ _ _ _) | (intro (al : Nat) h st; show W _ _ _ _ _ _ _ _ _) | (intro _ h st; show W _ _ _ _ _ _ _ _ _) | exact Sd))); refine W.call (hs := (file_Resize (s := s) (by omega))) (w := ?_); rintro vv _ ⟨rfl, rfl⟩ h st; refine nj ?_; dsimp only [List.cons_append, List.nil_append] at st
      (repeat (first | (show W _ _ _ _ _ _ (.code (cond _ _ _) :: _) _ _; first | refine W.ct ?_ | refine W.cf ?_) | (show W _ _ _ _ _ _ (.ins (cond _ _ _ :: _) :: _) _ _; first | refine W.gt ?_ | refine W.gf ?_) | (show W _ _ _ _ _ _ [] _ _; refine W.of (.done ?_)) | (apply W.of; constructor <;> first | (show W _ _ _ _ _ _ _ _ _) | (intro (al : Nat) h st; show W _ _ _ _ _ _ _ _ _) | (intro _ h st; show W _ _ _ _ _ _ _ _ _) | exact Sd))); refine W.call (hs := (ref10_Resize (m := i) (by omega))) (w := ?_); rintro vv _ ⟨rfl, rfl⟩ h st; refine nj ?_; dsimp only [List.cons_append, List.nil_append] at st
      (repeat (first | (show W _ _ _ _ _ _ (.code (cond _ _ _) :: _) _ _; first | refine W.ct ?_ | refine W.cf ?_) | (show W _ _ _ _ _ _ (.ins (cond _ _ _ :: _) :: _) _ _; first | refine W.gt ?_ | refine W.gf ?_) | (show W _ _ _ _ _ _ [] _ _; refine W.of (.done ?_)) | (apply W.of; constructor <;> first | (show W _ _ _ _ _ _ _ _ _) | (intro (al : Nat) h st; show W _ _ _ _ _ _ _ _ _) | (intro _ h st; show W _ _ _ _ _ _ _ _ _) | exact Sd)))
      have st := st.take (c := RefFC E (s.resize a.id a.n).s i) Tk
      have st := st.refGrow (j := i + 1) (by omega)
      exact W.sub Sbs (fact_tail (a := a) (V := al) (beqSelf (s.resize a.id a.n).e) hlt h60 (resize_okF ⟨ho1, ho2, ho3⟩).up (st.sel Sels))
    · by_cases h2 : a.kind = 2
      · (repeat (first | (show W _ _ _ _ _ _ (.code (cond _ _ _) :: _) _ _; first | refine W.ct ?_ | refine W.cf ?_) | (show W _ _ _ _ _ _ (.ins (cond _ _ _ :: _) :: _) _ _; first | refine W.gt ?_ | refine W.gf ?_) | (show W _ _ _ _ _ _ [] _ _; refine W.of (.done ?_)) | (apply W.of; constructor <;> first | (show W _ _ _ _ _ _ _ _ _) | (intro (al : Nat) h st; show W _ _ _ _ _ _ _ _ _) | (intro _ h st; show W _ _ _ _ _ _ _ _ _) | exact Sd))); refine W.call (hs := (file_Read ho3)) (w := ?_); rintro vv _ ⟨x, rfl, gx, gk, rfl⟩ h st; refine nj ?_; dsimp only [List.cons_append, List.nil_append] at st
        (repeat (first | (show W _ _ _ _ _ _ (.code (cond _ _ _) :: _) _ _; first | refine W.ct ?_ | refine W.cf ?_) | (show W _ _ _ _ _ _ (.ins (cond _ _ _ :: _) :: _) _ _; first | refine W.gt ?_ | refine W.gf ?_) | (show W _ _ _ _ _ _ [] _ _; refine W.of (.done ?_)) | (apply W.of; constructor <;> first | (show W _ _ _ _ _ _ _ _ _) | (intro (al : Nat) h st; show W _ _ _ _ _ _ _ _ _) | (intro _ h st; show W _ _ _ _ _ _ _ _ _) | exact Sd))); refine W.call (hs := (ref10_Read (m := i) ho2 ho3 (by omega))) (w := ?_); rintro vv _ ⟨x2, rfl, gx2, gk2, rfl⟩ h st; refine nj ?_; dsimp only [List.cons_append, List.nil_append] at st
        (repeat (first | (show W _ _ _ _ _ _ (.code (cond _ _ _) :: _) _ _; first | refine W.ct ?_ | refine W.cf ?_) | (show W _ _ _ _ _ _ (.ins (cond _ _ _ :: _) :: _) _ _; first | refine W.gt ?_ | refine W.gf ?_) | (show W _ _ _ _ _ _ [] _ _; refine W.of (.done ?_)) | (apply W.of; constructor <;> first | (show W _ _ _ _ _ _ _ _ _) | (intro (al : Nat) h st; show W _ _ _ _ _ _ _ _ _) | (intro _ h st; show W _ _ _ _ _ _ _ _ _) | exact Sd))); refine W.call (hs := Bytes_t) (w := ?_); rintro vv _ ⟨rfl, rfl⟩ h st; refine nj ?_; dsimp only [List.cons_append, List.nil_append] at st
        (repeat (first | (show W _ _ _ _ _ _ (.code (cond _ _ _) :: _) _ _; first | refine W.ct ?_ | refine W.cf ?_) | (show W _ _ _ _ _ _ (.ins (cond _ _ _ :: _) :: _) _ _; first | refine W.gt ?_ | refine W.gf ?_) | (show W _ _ _ _ _ _ [] _ _; refine W.of (.done ?_)) | (apply W.of; constructor <;> first | (show W _ _ _ _ _ _ _ _ _) | (intro (al : Nat) h st; show W _ _ _ _ _ _ _ _ _) | (intro _ h st; show W _ _ _ _ _ _ _ _ _) | exact Sd)))
        have st := st.take (c := RefFC E (s.at' a.id a.n true).s i) Tk
        have st := st.refGrow (j := i + 1) (by omega)
        exact W.sub Sbs (fact_tail (a := a) (V := al) (beqSelf (s.at' a.id a.n true).e) hlt h60 (at_okF ⟨ho1, ho2, ho3⟩).up (st.sel Sels))
      · by_cases h3 : a.kind = 3
        · (repeat (first | (show W _ _ _ _ _ _ (.code (cond _ _ _) :: _) _ _; first | refine W.ct ?_ | refine W.cf ?_) | (show W _ _ _ _ _ _ (.ins (cond _ _ _ :: _) :: _) _ _; first | refine W.gt ?_ | refine W.gf ?_) | (show W _ _ _ _ _ _ [] _ _; refine W.of (.done ?_)) | (apply W.of; constructor <;> first | (show W _ _ _ _ _ _ _ _ _) | (intro (al : Nat) h st; show W _ _ _ _ _ _ _ _ _) | (intro _ h st; show W _ _ _ _ _ _ _ _ _) | exact Sd))); refine W.call (hs := bytesF_w) (w := ?_); rintro vv _ ⟨gx, gk, w, rfl⟩ h st; refine nj ?_; dsimp only [List.cons_append, List.nil_append] at st
          (repeat (first | (show W _ _ _ _ _ _ (.code (cond _ _ _) :: _) _ _; first | refine W.ct ?_ | refine W.cf ?_) | (show W _ _ _ _ _ _ (.ins (cond _ _ _ :: _) :: _) _ _; first | refine W.gt ?_ | refine W.gf ?_) | (show W _ _ _ _ _ _ [] _ _; refine W.of (.done ?_)) | (apply W.of; constructor <;> first | (show W _ _ _ _ _ _ _ _ _) | (intro (al : Nat) h st; show W _ _ _ _ _ _ _ _ _) | (intro _ h st; show W _ _ _ _ _ _ _ _ _) | exact Sd))); refine W.call (hs := (file_Write (v := vv) (k := a.bk) (N := a.bn) ho3)) (w := ?_); rintro vv _ ⟨rfl, rfl⟩ h st; refine nj ?_; dsimp only [List.cons_append, List.nil_append] at st
          (repeat (first | (show W _ _ _ _ _ _ (.code (cond _ _ _) :: _) _ _; first | refine W.ct ?_ | refine W.cf ?_) | (show W _ _ _ _ _ _ (.ins (cond _ _ _ :: _) :: _) _ _; first | refine W.gt ?_ | refine W.gf ?_) | (show W _ _ _ _ _ _ [] _ _; refine W.of (.done ?_)) | (apply W.of; constructor <;> first | (show W _ _ _ _ _ _ _ _ _) | (intro (al : Nat) h st; show W _ _ _ _ _ _ _ _ _) | (intro _ h st; show W _ _ _ _ _ _ _ _ _) | exact Sd))); refine W.call (hs := bytesF_w) (w := ?_); rintro vv _ ⟨gx2, gk2, w2, rfl⟩ h st; refine nj ?_; dsimp only [List.cons_append, List.nil_append] at st
          (repeat (first | (show W _ _ _ _ _ _ (.code (cond _ _ _) :: _) _ _; first | refine W.ct ?_ | refine W.cf ?_) | (show W _ _ _ _ _ _ (.ins (cond _ _ _ :: _) :: _) _ _; first | refine W.gt ?_ | refine W.gf ?_) | (show W _ _ _ _ _ _ [] _ _; refine W.of (.done ?_)) | (apply W.of; constructor <;> first | (show W _ _ _ _ _ _ _ _ _) | (intro (al : Nat) h st; show W _ _ _ _ _ _ _ _ _) | (intro _ h st; show W _ _ _ _ _ _ _ _ _) | exact Sd))); refine W.call (hs := (ref10_Write (s := s) (m := i) (v := vv) (k := a.bk) (N := a.bn) ho2 ho3 (by omega))) (w := ?_); rintro vv _ ⟨rfl, rfl⟩ h st; refine nj ?_; dsimp only [List.cons_append, List.nil_append] at st
          (repeat (first | (show W _ _ _ _ _ _ (.code (cond _ _ _) :: _) _ _; first | refine W.ct ?_ | refine W.cf ?_) | (show W _ _ _ _ _ _ (.ins (cond _ _ _ :: _) :: _) _ _; first | refine W.gt ?_ | refine W.gf ?_) | (show W _ _ _ _ _ _ [] _ _; refine W.of (.done ?_)) | (apply W.of; constructor <;> first | (show W _ _ _ _ _ _ _ _ _) | (intro (al : Nat) h st; show W _ _ _ _ _ _ _ _ _) | (intro _ h st; show W _ _ _ _ _ _ _ _ _) | exact Sd)))
          exact W.sub Sbs (fact_tail (a := a) (V := al) (beqSelf (s.write a.id a.n a.bk a.bn).e) hlt h60 (write_okF ⟨ho1, ho2, ho3⟩) (st.sel Sels))
        · by_cases h4 : a.kind = 4
          · (repeat (first | (show W _ _ _ _ _ _ (.code (cond _ _ _) :: _) _ _; first | refine W.ct ?_ | refine W.cf ?_) | (show W _ _ _ _ _ _ (.ins (cond _ _ _ :: _) :: _) _ _; first | refine W.gt ?_ | refine W.gf ?_) | (show W _ _ _ _ _ _ [] _ _; refine W.of (.done ?_)) | (apply W.of; constructor <;> first | (show W _ _ _ _ _ _ _ _ _) | (intro (al : Nat) h st; show W _ _ _ _ _ _ _ _ _) | (intro _ h st; show W _ _ _ _ _ _ _ _ _) | exact Sd))); refine W.call (hs := file_Plan) (w := ?_); rintro vv _ ⟨rfl, rfl⟩ h st; refine nj ?_; dsimp only [List.cons_append, List.nil_append] at st
            (repeat (first | (show W _ _ _ _ _ _ (.code (cond _ _ _) :: _) _ _; first | refine W.ct ?_ | refine W.cf ?_) | (show W _ _ _ _ _ _ (.ins (cond _ _ _ :: _) :: _) _ _; first | refine W.gt ?_ | refine W.gf ?_) | (show W _ _ _ _ _ _ [] _ _; refine W.of (.done ?_)) | (apply W.of; constructor <;> first | (show W _ _ _ _ _ _ _ _ _) | (intro (al : Nat) h st; show W _ _ _ _ _ _ _ _ _) | (intro _ h st; show W _ _ _ _ _ _ _ _ _) | exact Sd))); refine W.call (hs := ref10_Plan) (w := ?_); rintro vv _ ⟨rfl, rfl⟩ h st; refine nj ?_; dsimp only [List.cons_append, List.nil_append] at st
            (repeat (first | (show W _ _ _ _ _ _ (.code (cond _ _ _) :: _) _ _; first | refine W.ct ?_ | refine W.cf ?_) | (show W _ _ _ _ _ _ (.ins (cond _ _ _ :: _) :: _) _ _; first | refine W.gt ?_ | refine W.gf ?_) | (show W _ _ _ _ _ _ [] _ _; refine W.of (.done ?_)) | (apply W.of; constructor <;> first | (show W _ _ _ _ _ _ _ _ _) | (intro (al : Nat) h st; show W _ _ _ _ _ _ _ _ _) | (intro _ h st; show W _ _ _ _ _ _ _ _ _) | exact Sd)))
            have hn := a.hn
            have st := st.take (c := RefFC E (if a.n < 0 then s else { s with left := a.n }) i) Tk
            have st := st.refGrow (j := i + 1) (by omega)
            exact W.sub Sbs (fact_tail (s := if a.n < 0 then s else { s with left := a.n }) (a := a) (V := al) (beqSelf (if a.n < 0 then 2 else 0)) hlt h60 (by split <;> exact ⟨by (try simp only); omega, by (try simp only); omega, by (try simp only); omega⟩) (st.sel Sels))
          · (repeat (first | (show W _ _ _ _ _ _ (.code (cond _ _ _) :: _) _ _; first | refine W.ct ?_ | refine W.cf ?_) | (show W _ _ _ _ _ _ (.ins (cond _ _ _ :: _) :: _) _ _; first | refine W.gt ?_ | refine W.gf ?_) | (show W _ _ _ _ _ _ [] _ _; refine W.of (.done ?_)) | (apply W.of; constructor <;> first | (show W _ _ _ _ _ _ _ _ _) | (intro (al : Nat) h st; show W _ _ _ _ _ _ _ _ _) | (intro _ h st; show W _ _ _ _ _ _ _ _ _) | exact Sd)))
            have st := st.take (c := RefFC E s i) Tk
            have st := st.refGrow (j := i + 1) (by omega)
            exact W.sub Sbs (fact_tail (a := a) (V := al) (q := true) rfl hlt h60 (FOk.up ⟨ho1, ho2, ho3⟩) (st.sel Sels))
set_option maxRecDepth 4000 in
theorem facts_w {v : AV} {l : List ActF} : Spec R (.f n_law10_FileActs) [v] [ActFC v l] fun r _ => r = .bool true := by
  refine spec_in fun h F st => ?_
  obtain ⟨hl, hj⟩ := st.ar Tk
  clear st h F; refine spec_w (fun _ _ _ x => progI_call rfl rfl x) Njs rfl (fun h F st => ?_); dsimp only [List.cons_append, List.nil_append] at st
  have hlen : LenF l := fun a ha => by
    obtain ⟨i, hi, e⟩ := List.getElem_of_mem ha
    have st := st.arAt (a := a) (i := i) Tk (by simp [hi, e])
    dsimp only [ActF.G, List.cons_append, List.nil_append] at st
    exact st.by2 Tk
  obtain ⟨_, ⟨rfl, hr⟩, st⟩ := St.unpack st
  dsimp only [List.cons_append, List.nil_append] at st
  (repeat (first | (show W _ _ _ _ _ _ (.code (cond _ _ _) :: _) _ _; first | refine W.ct ?_ | refine W.cf ?_) | (show W _ _ _ _ _ _ (.ins (cond _ _ _ :: _) :: _) _ _; first | refine W.gt ?_ | refine W.gf ?_) | (show W _ _ _ _ _ _ [] _ _; refine W.of (.done ?_)) | (apply W.of; constructor <;> first | (show W _ _ _ _ _ _ _ _ _) | (intro (al : Nat) h st; show W _ _ _ _ _ _ _ _ _) | (intro _ h st; show W _ _ _ _ _ _ _ _ _) | exact Sd))); refine W.call (hs := (law10_light (l := l) (e := 0) (w := false) hlen)) (w := ?_); rintro vv _ ⟨⟨b, rfl, hb⟩, rfl⟩ h st; refine nj ?_; dsimp only [List.cons_append, List.nil_append] at st
  have st : St h (ActFC v l :: F) := St.pack (cs := SlC v 0 5 l.length (.vals (l.flatMap ActF.cells)) false :: l.flatMap ActF.G) st ⟨rfl, hr⟩
  cases b with
  | false =>
    (repeat (first | (show W _ _ _ _ _ _ (.code (cond _ _ _) :: _) _ _; first | refine W.ct ?_ | refine W.cf ?_) | (show W _ _ _ _ _ _ (.ins (cond _ _ _ :: _) :: _) _ _; first | refine W.gt ?_ | refine W.gf ?_) | (show W _ _ _ _ _ _ [] _ _; refine W.of (.done ?_)) | (apply W.of; constructor <;> first | (show W _ _ _ _ _ _ _ _ _) | (intro (al : Nat) h st; show W _ _ _ _ _ _ _ _ _) | (intro _ h st; show W _ _ _ _ _ _ _ _ _) | exact Sd))); refine W.call (hs := law10_lives) (w := ?_); rintro vv _ ⟨rfl, rfl⟩ h st; refine nj ?_; dsimp only [List.cons_append, List.nil_append] at st
    (repeat (first | (show W _ _ _ _ _ _ (.code (cond _ _ _) :: _) _ _; first | refine W.ct ?_ | refine W.cf ?_) | (show W _ _ _ _ _ _ (.ins (cond _ _ _ :: _) :: _) _ _; first | refine W.gt ?_ | refine W.gf ?_) | (show W _ _ _ _ _ _ [] _ _; refine W.of (.done ?_)) | (apply W.of; constructor <;> first | (show W _ _ _ _ _ _ _ _ _) | (intro (al : Nat) h st; show W _ _ _ _ _ _ _ _ _) | (intro _ h st; show W _ _ _ _ _ _ _ _ _) | exact Sd)))
    exact ⟨_, rfl, [_], rfl, st⟩
  | true =>
    obtain ⟨h60, _⟩ := hb rfl
    (repeat (first | (show W _ _ _ _ _ _ (.code (cond _ _ _) :: _) _ _; first | refine W.ct ?_ | refine W.cf ?_) | (show W _ _ _ _ _ _ (.ins (cond _ _ _ :: _) :: _) _ _; first | refine W.gt ?_ | refine W.gf ?_) | (show W _ _ _ _ _ _ [] _ _; refine W.of (.done ?_)) | (apply W.of; constructor <;> first | (show W _ _ _ _ _ _ _ _ _) | (intro (al : Nat) h st; show W _ _ _ _ _ _ _ _ _) | (intro _ h st; show W _ _ _ _ _ _ _ _ _) | exact Sd))); refine W.call (hs := file_New) (w := ?_); rintro vv _ ⟨D, rfl, rfl⟩ h st; refine nj ?_; dsimp only [List.cons_append, List.nil_append] at st
    (repeat (first | (show W _ _ _ _ _ _ (.code (cond _ _ _) :: _) _ _; first | refine W.ct ?_ | refine W.cf ?_) | (show W _ _ _ _ _ _ (.ins (cond _ _ _ :: _) :: _) _ _; first | refine W.gt ?_ | refine W.gf ?_) | (show W _ _ _ _ _ _ [] _ _; refine W.of (.done ?_)) | (apply W.of; constructor <;> first | (show W _ _ _ _ _ _ _ _ _) | (intro (al : Nat) h st; show W _ _ _ _ _ _ _ _ _) | (intro _ h st; show W _ _ _ _ _ _ _ _ _) | exact Sd)))
    obtain ⟨E, rfl⟩ : ∃ y, y = al := ⟨_, rfl⟩
    have st := (st.vsNil 3 true).rwNil 171 3 PgF.cells true
    have st := st.sepNil (.ptr E 0) PgF.G
    have st := St.packP (t := 24) (k := .ptr E 0) (P := RefFIs E ⟨[], [], 0⟩ 0) (cs := [.pt E (refRowF .nilsl .nilsl 0), VsC .nilsl 3 (([] : List Int).map ikey) true, PgsC .nilsl [], SepC (.ptr E 0) PgF.G []]) st ⟨.nilsl, .nilsl, [], rfl, by simp, by simp, by simp [keys], fun q => rfl⟩ Pks
    refine W.loop (fun y : ActSF => factE D E v l y.i) (factG D E v l F) (fun y => y.i ≤ l.length ∧ FOk y.s y.i) (fun y => l.length - y.i) ⟨0, ⟨[], [], 0⟩⟩ (small_rounds (by simp only; omega)) Sbs (st.sel Sels) ⟨Nat.zero_le _, by simp, by simp, by simp⟩ ?_
    clear st
    intro y h ⟨hy, hok⟩ st
    by_cases hlt : y.i < l.length
    · exact fact_L0 y st hlt h60 hok
    · obtain ⟨i, s⟩ := y
      dsimp only [factE, factG] at hlt st ⊢
      (repeat (first | (show W _ _ _ _ _ _ (.code (cond _ _ _) :: _) _ _; first | refine W.ct ?_ | refine W.cf ?_) | (show W _ _ _ _ _ _ (.ins (cond _ _ _ :: _) :: _) _ _; first | refine W.gt ?_ | refine W.gf ?_) | (show W _ _ _ _ _ _ [] _ _; refine W.of (.done ?_)) | (apply W.of; constructor <;> first | (show W _ _ _ _ _ _ _ _ _) | (intro (al : Nat) h st; show W _ _ _ _ _ _ _ _ _) | (intro _ h st; show W _ _ _ _ _ _ _ _ _) | exact Sd))); refine W.call (hs := file_Ids) (w := ?_); rintro vv _ ⟨ix, ik, rfl⟩ h st; refine nj ?_; dsimp only [List.cons_append, List.nil_append] at st
      obtain ⟨ids, rfl⟩ : ∃ y, y = vv := ⟨_, rfl⟩
      have st : St h (VsC ids 3 ((List.range s.sizes.length).map idV) true :: FiC D s :: RefFC E s i :: ActFC v l :: F) := st
      have hb : s.sizes.length ≤ 16 := by
        obtain ⟨cs, ⟨lv, M, rfl, _, hb⟩, _⟩ := (st.take (c := FiC D s) Tk).unpack
        exact hb
      (repeat (first | (show W _ _ _ _ _ _ (.code (cond _ _ _) :: _) _ _; first | refine W.ct ?_ | refine W.cf ?_) | (show W _ _ _ _ _ _ (.ins (cond _ _ _ :: _) :: _) _ _; first | refine W.gt ?_ | refine W.gf ?_) | (show W _ _ _ _ _ _ [] _ _; refine W.of (.done ?_)) | (apply W.of; constructor <;> first | (show W _ _ _ _ _ _ _ _ _) | (intro (al : Nat) h st; show W _ _ _ _ _ _ _ _ _) | (intro _ h st; show W _ _ _ _ _ _ _ _ _) | exact Sd)))
      refine W.loop (fun j : Nat => [(189, ids), (190, .int .i64 s.sizes.length), (191, .int .i64 j)]) (fun _ => VsC ids 3 ((List.range s.sizes.length).map idV) true :: F) (fun j => j ≤ s.sizes.length) (fun j => s.sizes.length - j) 0 (small_rounds (by omega)) Sbs (st.sel Sels) (Nat.zero_le _) ?_
      clear st
      intro j h hj2 st
      by_cases hlt : j < s.sizes.length
      · obtain ⟨gp, gq⟩ := d_vsIdx (i := j) (kk := .i64) st Tk (by simpa using hlt)
        (repeat (first | (show W _ _ _ _ _ _ (.code (cond _ _ _) :: _) _ _; first | refine W.ct ?_ | refine W.cf ?_) | (show W _ _ _ _ _ _ (.ins (cond _ _ _ :: _) :: _) _ _; first | refine W.gt ?_ | refine W.gf ?_) | (show W _ _ _ _ _ _ [] _ _; refine W.of (.done ?_)) | (apply W.of; constructor <;> first | (show W _ _ _ _ _ _ _ _ _) | (intro (al : Nat) h st; show W _ _ _ _ _ _ _ _ _) | (intro _ h st; show W _ _ _ _ _ _ _ _ _) | exact Sd))); refine W.do (ho := gp) (w := ?_)
        (repeat (first | (show W _ _ _ _ _ _ (.code (cond _ _ _) :: _) _ _; first | refine W.ct ?_ | refine W.cf ?_) | (show W _ _ _ _ _ _ (.ins (cond _ _ _ :: _) :: _) _ _; first | refine W.gt ?_ | refine W.gf ?_) | (show W _ _ _ _ _ _ [] _ _; refine W.of (.done ?_)) | (apply W.of; constructor <;> first | (show W _ _ _ _ _ _ _ _ _) | (intro (al : Nat) h st; show W _ _ _ _ _ _ _ _ _) | (intro _ h st; show W _ _ _ _ _ _ _ _ _) | exact Sd))); refine W.do (ho := (d_vsLoad (x := idV j) st Tk (by simp [hlt]))) (w := ?_)
        (repeat (first | (show W _ _ _ _ _ _ (.code (cond _ _ _) :: _) _ _; first | refine W.ct ?_ | refine W.cf ?_) | (show W _ _ _ _ _ _ (.ins (cond _ _ _ :: _) :: _) _ _; first | refine W.gt ?_ | refine W.gf ?_) | (show W _ _ _ _ _ _ [] _ _; refine W.of (.done ?_)) | (apply W.of; constructor <;> first | (show W _ _ _ _ _ _ _ _ _) | (intro (al : Nat) h st; show W _ _ _ _ _ _ _ _ _) | (intro _ h st; show W _ _ _ _ _ _ _ _ _) | exact Sd)))
        rw [neSelf]
        (repeat (first | (show W _ _ _ _ _ _ (.code (cond _ _ _) :: _) _ _; first | refine W.ct ?_ | refine W.cf ?_) | (show W _ _ _ _ _ _ (.ins (cond _ _ _ :: _) :: _) _ _; first | refine W.gt ?_ | refine W.gf ?_) | (show W _ _ _ _ _ _ [] _ _; refine W.of (.done ?_)) | (apply W.of; constructor <;> first | (show W _ _ _ _ _ _ _ _ _) | (intro (al : Nat) h st; show W _ _ _ _ _ _ _ _ _) | (intro _ h st; show W _ _ _ _ _ _ _ _ _) | exact Sd)))
        refine W.of (.lp ?_)
        exact ⟨j + 1, by omega, hlt, Sbs, st.sel Sels⟩
      · (repeat (first | (show W _ _ _ _ _ _ (.code (cond _ _ _) :: _) _ _; first | refine W.ct ?_ | refine W.cf ?_) | (show W _ _ _ _ _ _ (.ins (cond _ _ _ :: _) :: _) _ _; first | refine W.gt ?_ | refine W.gf ?_) | (show W _ _ _ _ _ _ [] _ _; refine W.of (.done ?_)) | (apply W.of; constructor <;> first | (show W _ _ _ _ _ _ _ _ _) | (intro (al : Nat) h st; show W _ _ _ _ _ _ _ _ _) | (intro _ h st; show W _ _ _ _ _ _ _ _ _) | exact Sd))); refine W.call (hs := law10_lives) (w := ?_); rintro vv _ ⟨rfl, rfl⟩ h st; refine nj ?_; dsimp only [List.cons_append, List.nil_append] at st
        (repeat (first | (show W _ _ _ _ _ _ (.code (cond _ _ _) :: _) _ _; first | refine W.ct ?_ | refine W.cf ?_) | (show W _ _ _ _ _ _ (.ins (cond _ _ _ :: _) :: _) _ _; first | refine W.gt ?_ | refine W.gf ?_) | (show W _ _ _ _ _ _ [] _ _; refine W.of (.done ?_)) | (apply W.of; constructor <;> first | (show W _ _ _ _ _ _ _ _ _) | (intro (al : Nat) h st; show W _ _ _ _ _ _ _ _ _) | (intro _ h st; show W _ _ _ _ _ _ _ _ _) | exact Sd)))
        exact ⟨_, rfl, [_], rfl, st⟩
end Go.Proofs.Ytjdemlagmamlbaa
