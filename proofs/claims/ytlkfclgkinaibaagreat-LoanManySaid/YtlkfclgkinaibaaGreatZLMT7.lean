/- BY PROGRAM (wip/tool/shake.py): own texts, one behind the other, without what is not needed. -/
import Derived.Control
import Derived.Calls
import Derived.KernelRfl
import Derived.Laws.Sem
import Derived.Laws.Cells
import Derived.Laws.World
import GoSem.Dispatch
import Derived.Laws.StructEq
import Derived.IntWalk
import Derived.WideKeyRuns
import Derived.Laws.BytesArg
import Derived.Orders
import Derived.ChangeArms
import Derived.OpenShut
import Derived.ChangeShapes
import Derived.ProofKit
import Derived.Test.YtlkfclgkinaibaaGreatProg
import Derived.Test.YtlkfclgkinaibaaGreatZLMT6
import Derived.Test.YtlkfclgkinaibaaGreatALMM

namespace Go.Proofs.YtlkfclgkinaibaaGreat
def KeysAre : List (AV × AV × Nat) → List Int → Prop
  | [], ks => ks = []
  | (k, _, _) :: es, ks => ∃ n ns, k = .int .i64 n ∧ ks = n :: ns ∧ KeysAre es ns
def sortedF (gs : List Nat) (ty : Nat) : FSpec := fun args h Q => ∃ g X e M es clock ks, g ∈ gs ∧ args = [.func g [] [.ptr X 0]] ∧ h.get X = some (.row e 1 false false (.vals [.map M])) ∧ h.get M = some (.map es clock) ∧ KeysAre es ks ∧
  (∀ k, k ∈ ks → IntKind.i64.min ≤ k ∧ k ≤ IntKind.i64.max) ∧ ks.Nodup ∧ (∀ x, x ∈ es → x.2.2 < clock) ∧ (es.map (·.2.2)).Nodup ∧ ks.length ≤ 1000000 ∧ ks ≠ [] ∧
  Q (.ssl h.next 0 1 ks.length) (h.new (.row ty 1 true false (.vals ((ks.mergeSort fun x y => decide (x ≤ y)).map (.int .i64)))))
theorem sortedF_mono {gs : List Nat} {ty : Nat} {args : List AV} {h : AHeap} {Q Q' : AV → AHeap → Prop} (hq : ∀ v h, Q v h → Q' v h) (x : sortedF gs ty args h Q) : sortedF gs ty args h Q' := by
  obtain ⟨g, X, e, M, es, clock, ks, a1, a2, a3, a4, a5, a6, a7, a8, a9, a10, a11, q⟩ := x
  exact ⟨g, X, e, M, es, clock, ks, a1, a2, a3, a4, a5, a6, a7, a8, a9, a10, a11, hq _ _ q⟩
def orF2 (F G : FSpec) : FSpec := fun args h Q => F args h Q ∨ G args h Q
theorem FSound.or {P : Program} {Λ : Lam} {f : FuncId} {F G : FSpec} (hF : FSound P Λ f F) (hG : FSound P Λ f G) : FSound P Λ f (orF2 F G) := fun args h Q μ w cargs x hr hv cs => by
  rcases x with x | x
  · exact hF args h Q μ w cargs x hr hv cs
  · exact hG args h Q μ w cargs x hr hv cs
end Go.Proofs.YtlkfclgkinaibaaGreat

namespace Go.Proofs.YtlkfclgkinaibaaGreat
noncomputable def insI (x : Int) : List Int → List Int
  | [] => [x]
  | y :: r => bif leK x y then x :: y :: r else y :: insI x r
noncomputable def isort : List Int → List Int
  | [] => []
  | x :: r => insI x (isort r)
theorem insI_perm (x : Int) : ∀ l : List Int, (insI x l).Perm (x :: l)
  | [] => List.Perm.refl _
  | y :: r => by
    simp only [insI]
    cases leK x y with
    | true => exact List.Perm.refl _
    | false => exact ((insI_perm x r).cons y).trans (List.Perm.swap x y r)
theorem isort_perm : ∀ l : List Int, (isort l).Perm l
  | [] => List.Perm.refl _
  | x :: r => (insI_perm x _).trans ((isort_perm r).cons x)
theorem insI_sorted (x : Int) : ∀ l : List Int, l.Pairwise (· ≤ ·) → (insI x l).Pairwise (· ≤ ·)
  | [], _ => by simp [insI]
  | y :: r, h => by
    obtain ⟨h1, h2⟩ := List.pairwise_cons.1 h
    simp only [insI]
    cases e : leK x y with
    | true =>
      have e : x ≤ y := by rw [leK_eq] at e; exact of_decide_eq_true e
      refine List.pairwise_cons.2 ⟨fun z hz => ?_, h⟩
      rcases List.mem_cons.1 hz with rfl | hz
      · exact e
      · exact Int.le_trans e (h1 z hz)
    | false =>
      have e : ¬ x ≤ y := by rw [leK_eq] at e; exact of_decide_eq_false e
      refine List.pairwise_cons.2 ⟨fun z hz => ?_, insI_sorted x r h2⟩
      rcases List.mem_cons.1 ((insI_perm x r).mem_iff.1 hz) with rfl | hz
      · omega
      · exact h1 z hz
theorem isort_sorted : ∀ l : List Int, (isort l).Pairwise (· ≤ ·)
  | [] => by simp [isort]
  | x :: r => insI_sorted x _ (isort_sorted r)
theorem isort_eq (l : List Int) : l.mergeSort (fun x y => decide (x ≤ y)) = isort l := by
  refine List.Perm.eq_of_pairwise (le := fun a b => decide (a ≤ b) = true) (fun a b _ _ h1 h2 => ?_) (List.pairwise_mergeSort (fun a b c h1 h2 => ?_) (fun a b => ?_) l) ((isort_sorted l).imp fun h => decide_eq_true h) ((List.mergeSort_perm l _).trans (isort_perm l).symm)
  · exact Int.le_antisymm (of_decide_eq_true h1) (of_decide_eq_true h2)
  · exact decide_eq_true (Int.le_trans (of_decide_eq_true h1) (of_decide_eq_true h2))
  · rcases Int.le_total a b with h | h <;> simp [h]
def keyK : AV → Option Int
  | .int .i64 n => some n
  | _ => none
def keysK : List (AV × AV × Nat) → Option (List Int)
  | [] => some []
  | (k, _, _) :: es => (keyK k).bind fun n => (keysK es).map fun ns => n :: ns
theorem keysK_ok : ∀ {es : List (AV × AV × Nat)} {ks : List Int}, keysK es = some ks → KeysAre es ks
  | [], ks, h => by cases h; rfl
  | (k, v, b) :: es, ks, h => by
    simp only [keysK, Option.bind_eq_some_iff, Option.map_eq_some_iff] at h
    obtain ⟨n, hk, ns, hn, rfl⟩ := h
    refine ⟨n, ns, ?_, rfl, keysK_ok hn⟩
    unfold keyK at hk
    split at hk
    · cases hk; rfl
    · cases hk
noncomputable def freshI (x : Int) : List Int → Bool
  | [] => true
  | y :: r => bif eqK x y then false else freshI x r
noncomputable def nodupI : List Int → Bool
  | [] => true
  | x :: r => bif freshI x r then nodupI r else false
noncomputable def boundI : List Int → Bool
  | [] => true
  | x :: r => bif leK (-9223372036854775808) x then (bif leK x 9223372036854775807 then boundI r else false) else false
def stampB (clock : Nat) : List (AV × AV × Nat) → Bool
  | [] => true
  | (_, _, b) :: es => bif Nat.blt b clock then stampB clock es else false
def bornI : List (AV × AV × Nat) → List Int
  | [] => []
  | (_, _, b) :: es => Int.ofNat b :: bornI es
theorem freshI_ok {x : Int} : ∀ {l : List Int}, freshI x l = true → ∀ y, y ∈ l → x ≠ y
  | [], _, y, hy => by cases hy
  | z :: r, h, y, hy => by
    simp only [freshI] at h
    cases e : eqK x z with
    | true => rw [e] at h; cases h
    | false =>
      rw [e] at h
      rcases List.mem_cons.1 hy with rfl | hy
      · intro q
        rw [eqK_eq] at e
        exact of_decide_eq_false e q
      · exact freshI_ok h y hy
theorem nodupI_ok : ∀ {l : List Int}, nodupI l = true → l.Nodup
  | [], _ => List.nodup_nil
  | x :: r, h => by
    simp only [nodupI] at h
    cases e : freshI x r with
    | false => rw [e] at h; cases h
    | true =>
      rw [e] at h
      exact List.nodup_cons.2 ⟨fun hm => freshI_ok e x hm rfl, nodupI_ok h⟩
theorem boundI_ok : ∀ {l : List Int}, boundI l = true → ∀ k, k ∈ l → IntKind.i64.min ≤ k ∧ k ≤ IntKind.i64.max
  | [], _, k, hk => by cases hk
  | x :: r, h, k, hk => by
    simp only [boundI] at h
    cases e1 : leK (-9223372036854775808) x with
    | false => rw [e1] at h; cases h
    | true =>
      cases e2 : leK x 9223372036854775807 with
      | false => rw [e1, e2] at h; cases h
      | true =>
        rw [e1, e2] at h
        rcases List.mem_cons.1 hk with rfl | hk
        · rw [leK_eq] at e1 e2
          exact ⟨of_decide_eq_true e1, of_decide_eq_true e2⟩
        · exact boundI_ok h k hk
theorem stampB_ok {clock : Nat} : ∀ {es : List (AV × AV × Nat)}, stampB clock es = true → ∀ x, x ∈ es → x.2.2 < clock
  | [], _, x, hx => by cases hx
  | (k, v, b) :: es, h, x, hx => by
    simp only [stampB] at h
    cases e : Nat.blt b clock with
    | false => rw [e] at h; cases h
    | true =>
      rw [e] at h
      rcases List.mem_cons.1 hx with rfl | hx
      · exact blt_of e
      · exact stampB_ok h x hx
theorem bornI_eq : ∀ es : List (AV × AV × Nat), bornI es = (es.map (·.2.2)).map Int.ofNat
  | [] => rfl
  | (k, v, b) :: es => by simp only [bornI, List.map_cons, bornI_eq es]
theorem born_nodup {es : List (AV × AV × Nat)} (h : nodupI (bornI es) = true) : (es.map (·.2.2)).Nodup := by
  have := nodupI_ok h
  rw [bornI_eq] at this
  exact (List.pairwise_map.1 this).imp fun hne e => hne (congrArg Int.ofNat e)
def twoI : List Int → Bool
  | _ :: _ :: _ => true
  | _ => false
def lenI : List Int → Nat
  | [] => 0
  | _ :: r => Nat.succ (lenI r)
theorem lenI_eq : ∀ l, lenI l = l.length
  | [] => rfl
  | _ :: r => congrArg Nat.succ (lenI_eq r)
def inN (g : Nat) : List Nat → Bool
  | [] => false
  | x :: r => bif Nat.beq g x then true else inN g r
theorem inN_ok {g : Nat} : ∀ {l : List Nat}, inN g l = true → g ∈ l
  | [], h => by cases h
  | x :: r, h => by
    simp only [inN] at h
    cases e : Nat.beq g x with
    | true => rw [Nat.eq_of_beq_eq_true e]; exact List.mem_cons_self
    | false => rw [e] at h; exact List.mem_cons_of_mem _ (inN_ok h)
def toVals : List Int → List AV
  | [] => []
  | x :: r => .int .i64 x :: toVals r
theorem toVals_eq : ∀ l, toVals l = l.map (.int .i64)
  | [] => rfl
  | x :: r => by simp only [toVals, List.map_cons, toVals_eq r]
noncomputable def kSorted (gs : List Nat) (ty : Nat) (args : List AV) (h : AHeap) : Option (AV × AHeap) := match args with
  | [.func g [] [.ptr X 0]] => match h.get X with
    | some (.row _ 1 false false (.vals [.map M])) => match h.get M with
      | some (.map es clock) => match keysK es with
        | some ks => bif inN g gs then (bif twoI ks then (bif boundI ks then (bif nodupI ks then (bif stampB clock es then (bif nodupI (bornI es) then (bif Nat.ble (lenI ks) 1000000 then some (.ssl h.next 0 1 (lenI ks), h.new (.row ty 1 true false (.vals (toVals (isort ks))))) else none) else none) else none) else none) else none) else none) else none
        | none => none
      | _ => none
    | _ => none
  | _ => none
theorem bifN {α : Type} {b : Bool} {x : Option α} {r : α} (h : (bif b then x else none) = some r) : b = true ∧ x = some r := by
  cases b with
  | true => exact ⟨rfl, h⟩
  | false => cases h
theorem kSorted_ok {gs : List Nat} {ty : Nat} {args : List AV} {h h' : AHeap} {v : AV} {Q : AV → AHeap → Prop} (x : kSorted gs ty args h = some (v, h')) (q : Q v h') : sortedF gs ty args h Q := by
  unfold kSorted at x
  split at x
  · rename_i g X
    split at x
    · rename_i e M hX
      split at x
      · rename_i es clock hM
        split at x
        · rename_i ks hks
          obtain ⟨c1, x⟩ := bifN x
          obtain ⟨c2, x⟩ := bifN x
          obtain ⟨c3, x⟩ := bifN x
          obtain ⟨c4, x⟩ := bifN x
          obtain ⟨c5, x⟩ := bifN x
          obtain ⟨c6, x⟩ := bifN x
          obtain ⟨c7, x⟩ := bifN x
          cases x
          rw [lenI_eq] at c7 q
          rw [toVals_eq, ← isort_eq] at q
          exact ⟨g, X, e, M, es, clock, ks, inN_ok c1, rfl, hX, hM, keysK_ok hks, boundI_ok c3, nodupI_ok c4, stampB_ok c5, born_nodup c6, Nat.le_of_ble_eq_true c7, fun e0 => (by rw [e0] at c2; cases c2), q⟩
        · cases x
      · cases x
    · cases x
  · cases x
noncomputable def kSrt (gs : List Nat) (ty : Nat) (args : List AV) (h : AHeap) : Option (AV × AHeap) := orF (kSorted gs ty args h) (progS hints kTabY tab.getK 60 (.f n_slices_Sorted_int) args h)
def srtF (gs : List Nat) (ty : Nat) : FSpec := orF2 (sortedF gs ty) (progI (fun _ => none) tab (.f n_slices_Sorted_int))
theorem kSrt_ok {gs : List Nat} {ty : Nat} {args : List AV} {h h' : AHeap} {v : AV} {Q : AV → AHeap → Prop} (x : kSrt gs ty args h = some (v, h')) (q : Q v h') : srtF gs ty args h Q := by
  unfold kSrt at x
  cases e : kSorted gs ty args h with
  | none =>
    rw [e] at x
    exact .inr (noGood _ _ _ _ _ _ x q)
  | some p =>
    rw [e] at x
    cases x
    exact .inl (kSorted_ok e q)
theorem srtF_mono {gs : List Nat} {ty : Nat} {args : List AV} {h : AHeap} {Q Q' : AV → AHeap → Prop} (hq : ∀ v h, Q v h → Q' v h) (x : srtF gs ty args h Q) : srtF gs ty args h Q' := by
  rcases x with x | x
  · exact .inl (sortedF_mono hq x)
  · exact .inr (progI_mono _ _ _ _ _ hq x)
end Go.Proofs.YtlkfclgkinaibaaGreat

namespace Go.Proofs.YtlkfclgkinaibaaGreat
def nums : List AV → Bool
  | [] => true
  | .int _ _ :: l => nums l
  | _ => false
theorem vrl_nums {μ μ' : Mu} : ∀ {us : List AV} {xs : List Value}, nums us = true → VRL μ us xs → VRL μ' us xs
  | [], xs, _, h => by simp only [VRL] at h ⊢; exact h
  | .int k n :: us, xs, hn, h => by
    simp only [VRL, VR] at h ⊢
    obtain ⟨c, cs, rfl, rfl, h⟩ := h
    exact ⟨_, _, rfl, rfl, vrl_nums hn h⟩
def flatF (F : FSpec) (v : AV) : FSpec := fun args h Q => nums args = true ∧ F args ⟨0, .leaf⟩ (fun w _ => w = v) ∧ Q v h
theorem FSound.flat {P : Program} {Λ : Lam} {f : FuncId} {F : FSpec} (hs : FSound P Λ f F) (b : Bool) : FSound P Λ f (flatF F (.bool b)) := by
  intro args h Q μ w cargs hF hr hargs cs
  obtain ⟨hn, hc, hq⟩ := hF
  obtain ⟨r, h', fr, w', μ', cv, rfl, s, hf, hl, hv, _, hst⟩ := hs args ⟨0, .leaf⟩ _ _ w cargs hc (rel_empty w) (vrl_nums hn hargs) cs
  have hb := hst.below ro_empty
  simp only [VR] at hv
  subst hv
  refine ⟨.bool b, h, fr, w', μ, .bool b, hq, s, hf, hl, by simp [VR], ⟨fun id o hg => ?_, hr.inj, fun id l hl => ?_⟩, ⟨Ext.refl μ, Nat.le_refl _, fun _ _ => rfl, hb.os, hb.tape, hb.output, hb.size, fun b hb' _ => hb.block b hb', fun id o l h1 h2 h3 => .inr ⟨id, o, l, h1, h2, h3, rfl⟩, fun id o l h1 h3 => .inr ⟨id, o, l, h1, h3, rfl⟩⟩⟩
  · obtain ⟨l, hl, hobj⟩ := hr.obj id o hg
    exact ⟨l, hl, hobj.same (hb.block _ (hr.dom _ _ hl).2)⟩
  · have := hr.dom id l hl
    exact ⟨this.1, Nat.lt_of_lt_of_le this.2 hb.size⟩
end Go.Proofs.YtlkfclgkinaibaaGreat

namespace Go.Proofs.YtlkfclgkinaibaaGreat
variable {O : Nat → Option FSpec} {T : BT} {N : Nat} {Q : AExit → Env → AHeap → Prop} {k k2 : List KI} {s s1 : Env} {h h1 : AHeap} {D : DSem} {E1 : ET} {x y : AExit}
theorem stackX_pre (hD : DGood O T D) {Q : AExit → List AV → AHeap → Prop} {k2 : List KI} (hQ : ∀ e1, Rl N false E1 e1 → postK (progI O T) none N k2 Q y e1 h1) : ∀ (k : List KI) (x : AExit) (E : ET) (e : List AV) (h : AHeap), Rl N false E e → stackX D N k x E h = some (y, E1, h1) → postK (progI O T) none N (k ++ k2) Q x e h
  | [], x, E, e, h, g, r => by
    simp only [stackX] at r
    cases r
    exact hQ e g
  | .code c :: k, .normal, E, e, h, g, r => by
    simp only [stackX] at r
    obtain ⟨z, E2, h2, e2, r⟩ := bindX_some r
    obtain ⟨z', E3, e3, h3, g3, p3, q⟩ := codeB_ok c D E e h normX _ g e2
    show execW (progI O T) none c e h _
    refine execD_ok hD p3 ?_
    cases z' <;> (cases q; exact stackX_pre hD hQ k _ _ _ _ g3 r)
  | .ins is :: k, .normal, E, e, h, g, r => by
    simp only [stackX] at r
    obtain ⟨E2, e2, h2, g2, p2, r⟩ := insB_ok g r
    show runInsW (progI O T) is e h _
    exact runInsD_ok hD p2 (stackX_pre hD hQ k _ _ _ _ g2 r)
  | .blk id :: k, .exit i, E, e, h, g, r => by
    simp only [stackX] at r
    rw [sel_eq, beqD] at r
    show (if i = id then _ else _)
    split at r
    · rename_i hi; rw [if_pos (of_decide_eq_true hi)]; exact stackX_pre hD hQ k _ _ _ _ g r
    · rename_i hi; rw [if_neg (fun q => hi (decide_eq_true q))]; exact stackX_pre hD hQ k _ _ _ _ g r
  | .code _ :: k, .exit i, E, e, h, g, r => stackX_pre hD hQ k _ _ _ _ g (by simpa only [stackX] using r)
  | .ins _ :: k, .exit i, E, e, h, g, r => stackX_pre hD hQ k _ _ _ _ g (by simpa only [stackX] using r)
  | .code _ :: k, .ret, E, e, h, g, r => stackX_pre hD hQ k _ _ _ _ g (by simpa only [stackX] using r)
  | .ins _ :: k, .ret, E, e, h, g, r => stackX_pre hD hQ k _ _ _ _ g (by simpa only [stackX] using r)
  | .blk _ :: k, .ret, E, e, h, g, r => stackX_pre hD hQ k _ _ _ _ g (by simpa only [stackX] using r)
  | .blk _ :: k, .normal, E, e, h, g, r => stackX_pre hD hQ k _ _ _ _ g (by simpa only [stackX] using r)
  | .dis _ :: _, .normal, _, _, _, _, r => by simp only [stackX] at r; cases r
  | .dis _ :: _, .exit _, _, _, _, _, r => by simp only [stackX] at r; cases r
  | .dis _ :: _, .ret, _, _, _, _, r => by simp only [stackX] at r; cases r
  | .ag _ :: _, .normal, _, _, _, _, r => by simp only [stackX] at r; cases r
  | .ag _ :: _, .exit _, _, _, _, _, r => by simp only [stackX] at r; cases r
  | .ag _ :: _, .ret, _, _, _, _, r => by simp only [stackX] at r; cases r
  | .lp _ :: _, .normal, _, _, _, _, r => by simp only [stackX] at r; cases r
  | .lp _ :: _, .exit _, _, _, _, _, r => by simp only [stackX] at r; cases r
  | .lp _ :: _, .ret, _, _, _, _, r => by simp only [stackX] at r; cases r
theorem W.pre (hD : DGood O T D) (k : List KI) (hs : slotsLt N s = true) (run : stackX D N k x (envE N s) h = some (y, E1, h1)) (ha : AllGet E1 s1) (w : W O T none N Q y k2 s1 h1) : W O T none N Q x (k ++ k2) s h := ⟨fun e hl hc =>
  stackX_pre hD (fun _ g => w.run _ g.len (g.to ha)) k x (envE N s) e h (envE_rl hs hl hc) run⟩
theorem exec_assoc {a b c : ACode} {ro : Option Nat} {e : List AV} {R : AExit → List AV → AHeap → Prop} (x : execW (progI O T) ro (.seq (.seq a b) c) e h R) : execW (progI O T) ro (.seq a (.seq b c)) e h R := by
  simp only [execW] at x ⊢
  refine execW_mono (fun _ _ _ _ x => x) progI_mono (fun y e' h' q => ?_) x
  cases y with
  | normal =>
    simp only at q ⊢
    refine execW_mono (fun _ _ _ _ x => x) progI_mono (fun y e' h' q => ?_) q
    cases y <;> exact q
  | exit i => exact q
  | ret => exact q
theorem W.assoc {a b c : ACode} {ro : Option Nat} (w : W O T ro N Q .normal (.code (.seq (.seq a b) c) :: k) s h) : W O T ro N Q .normal (.code (.seq a (.seq b c)) :: k) s h := ⟨fun e hl hc => exec_assoc (w.run e hl hc)⟩
end Go.Proofs.YtlkfclgkinaibaaGreat

namespace Go.Proofs.YtlkfclgkinaibaaGreat
noncomputable def idN (n : Nat) : Nat := n
noncomputable def eqE (a : List (AV × AV × Nat)) : List (AV × AV × Nat) → Bool := List.rec (motive := fun _ => List (AV × AV × Nat) → Bool) (fun b => List.rec (motive := fun _ => Bool) true (fun _ _ _ => false) b) (fun x _ ih b => List.rec (motive := fun _ => Bool) false (fun y r _ => sel (eqV idN x.1 y.1) (sel (eqV idN x.2.1 y.2.1) (sel (Nat.beq x.2.2 y.2.2) (ih r) false) false) false) b) a
theorem eqE_eq : ∀ {a b : List (AV × AV × Nat)}, eqE a b = true → a = b
  | [], [], _ => rfl
  | [], _ :: _, h => by cases h
  | _ :: _, [], h => by cases h
  | x :: a, y :: b, h => by
    have h : sel (eqV idN x.1 y.1) (sel (eqV idN x.2.1 y.2.1) (sel (Nat.beq x.2.2 y.2.2) (eqE a b) false) false) false = true := h
    obtain ⟨h1, q1⟩ := selB h
    obtain ⟨h2, q2⟩ := selB q1
    obtain ⟨h3, q3⟩ := selB q2
    have e1 := eqV_eq _ _ h1
    have e2 := eqV_eq _ _ h2
    rw [show idN = fun i => i from rfl, AV.ren_id] at e1 e2
    obtain ⟨x1, x2, x3⟩ := x
    obtain ⟨y1, y2, y3⟩ := y
    simp only at e1 e2 h3
    rw [e1, e2, nbeq h3, eqE_eq q3]
theorem eqD_id {d d' : Dat} (h : eqD idN d d' = true) : d = d' := by
  have e := eqD_eq h
  have e2 : (AObj.row 0 0 false false d).ren idN = AObj.row 0 0 false false d' := by rw [AObj.ren, e]
  rw [show idN = fun i => i from rfl, AObj.ren_id] at e2
  cases e2
  rfl
noncomputable def eqB (a b : AObj) : Bool := match a, b with
  | .row e es s ro d, .row e' es' s' ro' d' => sel (Nat.beq e e') (sel (Nat.beq es es') (sel (s == s') (sel (ro == ro') (eqD idN d d') false) false) false) false
  | .map es c, .map es' c' => sel (Nat.beq c c') (eqE es es') false
  | _, _ => false
theorem eqB_eq {a b : AObj} (h : eqB a b = true) : a = b := by
  unfold eqB at h
  split at h
  · obtain ⟨h1, q1⟩ := selB h
    obtain ⟨h2, q2⟩ := selB q1
    obtain ⟨h3, q3⟩ := selB q2
    obtain ⟨h4, q4⟩ := selB q3
    rw [nbeq h1, nbeq h2, eq_of_beq h3, eq_of_beq h4, eqD_id q4]
  · obtain ⟨h1, q1⟩ := selB h
    rw [nbeq h1, eqE_eq q1]
  · cases h
noncomputable def leT (a : Tr) : Tr → Bool := Tr.rec (motive := fun _ => Tr → Bool) (fun _ => true) (fun _ o _ il ir b => Tr.rec (motive := fun _ => Bool) false (fun l' o' r' _ _ => sel (Option.rec (motive := fun _ => Bool) true (fun x => Option.rec (motive := fun _ => Bool) false (fun y => eqB x y) o') o) (sel (il l') (ir r') false) false) b) a
theorem leT_get : ∀ {a b : Tr}, leT a b = true → ∀ (id : Nat) (o : AObj), a.get id = some o → b.get id = some o
  | .leaf, b, _, id, o, h => by simp [Tr.get] at h
  | .node l x r, .leaf, h, id, o, _ => by cases h
  | .node l x r, .node l' x' r', h, id, o, g => by
    have h : sel (Option.rec (motive := fun _ => Bool) true (fun x => Option.rec (motive := fun _ => Bool) false (fun y => eqB x y) x') x) (sel (leT l l') (leT r r') false) false = true := h
    obtain ⟨h0, h⟩ := selB h
    obtain ⟨h1, h2⟩ := selB h
    simp only [Tr.get] at g ⊢
    by_cases e0 : id = 0
    · rw [if_pos e0] at g ⊢
      subst g
      cases x' with
      | none => cases h0
      | some y => rw [eqB_eq h0]
    · rw [if_neg e0] at g ⊢
      by_cases e1 : id % 2 = 1
      · rw [if_pos e1] at g ⊢
        exact leT_get h1 _ o g
      · rw [if_neg e1] at g ⊢
        exact leT_get h2 _ o g
end Go.Proofs.YtlkfclgkinaibaaGreat

namespace Go.Proofs.YtlkfclgkinaibaaGreat
def over : Nat → Option FSpec := fun n => bif Nat.beq n n_law19_lives then some (constF (.bool true)) else bif Nat.beq n n_slices_Sorted_int then some (srtF [n_maps_Keys_map_int_kern_proc_int_kern_proc_1, n_maps_Keys_map_int_int_int_int_1] 3) else none
noncomputable def kLv (args : List AV) (h : AHeap) : Option (AV × AHeap) := match args with | [] => some (.bool true, h) | _ => none
noncomputable def kT2 : Nat → Option KF := fun n => sel (Nat.beq n n_law19_lives) (some (kNoD kLv)) (sel (Nat.beq n n_slices_Sorted_int) (some (kNoD (kSrt [n_maps_Keys_map_int_kern_proc_int_kern_proc_1, n_maps_Keys_map_int_int_int_int_1] 3))) (kTabY n))
noncomputable def gT : Nat → Option AFn := fun n => sel (Nat.beq n n_law19_lives) none (sel (Nat.beq n n_slices_Sorted_int) none (tab.getK n))
noncomputable def dsD : DSem := progS hints kT2 gT 60
theorem over_no {n : Nat} (h : Nat.beq n n_law19_lives = false) (h2 : Nat.beq n n_slices_Sorted_int = false) : over n = none := by
  unfold over
  rw [h, h2]
  rfl
theorem dsFree : OFree over := by
  refine ⟨fun n h => ?_, fun n F e args h Q Q' hq x => ?_⟩
  · cases hb : Nat.beq n n_law19_lives with
    | true =>
      rw [Nat.eq_of_beq_eq_true hb] at h
      cases h
    | false =>
      cases hc : Nat.beq n n_slices_Sorted_int with
      | true =>
        rw [Nat.eq_of_beq_eq_true hc] at h
        cases h
      | false => exact over_no hb hc
  · unfold over at e
    cases hb : Nat.beq n n_law19_lives with
    | true => rw [hb] at e; cases e; exact ⟨x.1, hq _ _ x.2⟩
    | false =>
      cases hc : Nat.beq n n_slices_Sorted_int with
      | true => rw [hb, hc] at e; cases e; exact srtF_mono hq x
      | false => rw [hb, hc] at e; cases e
theorem kT2_ok : KOk over tab kT2 := by
  intro n k e D hD args h v h' Q x q
  rcases selK e with ⟨rfl, e⟩ | e
  · cases e
    cases args with
    | nil => cases x; exact progI_known (F := constF (.bool true)) rfl ⟨rfl, q⟩
    | cons a l => cases x
  rcases selK e with ⟨rfl, e⟩ | e
  · cases e
    exact progI_known (F := srtF [n_maps_Keys_map_int_kern_proc_int_kern_proc_1, n_maps_Keys_map_int_int_int_int_1] 3) rfl (kSrt_ok x q)
  exact kTabY_ok dsFree n k e D hD args h v h' Q x q
theorem dsGood : DGood over tab dsD := progS_ok (fun n f e => by
  unfold gT at e
  cases hb : Nat.beq n n_law19_lives with
  | true => rw [hb] at e; cases e
  | false =>
    cases hc : Nat.beq n n_slices_Sorted_int with
    | true => rw [hb, hc] at e; cases e
    | false =>
      rw [hb, hc] at e
      exact ⟨over_no hb hc, by rw [← BT.getK_eq]; exact e⟩) kT2_ok 60
def seqL : ACode → ACode
  | .seq a _ => a
  | c => c
def seqR : ACode → ACode
  | .seq _ b => b
  | c => c
def dsR : ACode := seqR (seqR c_law19_LoanMany.body)
def dsA : ACode := (.seq (.seq (seqL dsR) (seqL (seqR dsR))) (seqL (seqR (seqR dsR))))
def dsL : ACode := seqR (seqR (seqR dsR))
def dsP : ACode := seqR dsL
def dsF : ACode := (.seq (.seq (seqL dsP) (seqL (seqR dsP))) (seqL (seqR (seqR dsP))))
def dsT : ACode := seqR (seqR (seqR dsP))
noncomputable def outE (r : XF) : ET := match r with | some (_, E, _) => E | _ => .leaf
noncomputable def outH (r : XF) : AHeap := match r with | some (_, _, h) => h | _ => ⟨0, .leaf⟩
noncomputable def isN (r : XF) : Bool := match r with | some (.normal, _, _) => true | _ => false
theorem isN_eq {r : XF} (h : isN r = true) : r = some (.normal, outE r, outH r) := by
  unfold isN at h
  split at h
  · rfl
  · cases h
abbrev e0 : Tr := .leaf
abbrev n0 (l r : Tr) : Tr := .node l none r
abbrev n1 (l : Tr) (o : AObj) (r : Tr) : Tr := .node l (some o) r
abbrev l0 (o : AObj) : Tr := .node .leaf (some o) .leaf
abbrev i (n : Int) : AV := .int .i64 n
abbrev p (a b : Nat) : AV := .ptr a b
abbrev w (e es : Nat) (l : List AV) : AObj := .row e es false false (.vals l)
abbrev a (r : Tr) : Tr := .node .leaf none r
abbrev b (l : Tr) : Tr := .node l none .leaf
abbrev c (o : AObj) (r : Tr) : Tr := .node .leaf (some o) r
abbrev ff : AV := .bool false
abbrev tt : AV := .bool true
abbrev s (a b c d : Nat) : AV := .ssl a b c d
abbrev x (e es : Nat) (l : List AV) : AObj := .row e es true false (.vals l)
noncomputable def ents (n : Nat) : List (AV × AV × Nat) := Nat.rec (motive := fun _ => Nat → List (AV × AV × Nat)) (fun _ => []) (fun _ ih k => (.int .i64 (Int.ofNat k), .int .i64 (Int.ofNat (Nat.sub 2 (Nat.mod k 2))), Nat.pred k) :: ih (Nat.succ k)) n 1
noncomputable def fr (n : Nat) : AObj := w 80 5 ([i 1, i 1, i 0, i 0, i 0, i 2, i 1, i 0, i 0, .int .i64 (Int.ofNat (Nat.div (Nat.succ n) 2)), i 2, i 2, i 0, i 0, .int .i64 (Int.ofNat (Nat.div n 2)), i 0, i 0, i 0, i 0, i 0, i 0, i 0, i 0, i 0, i 0, i 0, i 0, i 0, i 0, i 0, i 0, i 0, i 0, i 0, i 0, i 0, i 0, i 0, i 0, i 0, i 0, i 0, i 0, i 0, i 0, i 0, i 0, i 0, i 0, i 0, i 0, i 0, i 0, i 0, i 0, i 0, i 0, i 0, i 0, i 0, i 0, i 0, i 0, i 0, i 0, i 0, i 0, i 0, i 0, i 0, i 0, i 0, i 0, i 0, i 0, i 0, i 0, i 0, i 0, i 0, i 0, i 0, i 0, i 0, i 0, i 0, i 0, i 0, i 0, i 0, i 0, i 0, i 0, i 0, i 0, i 0, i 0, i 0, i 0, i 0])
noncomputable def T1 : Tr := (n0 (n0 (n1 (n1 (n1 (b (b (l0 (x 246 1 [p 105 0])))) (w 141 4 [i 4096, tt, s 127 0 1 1, i 1]) (l0 (.map [(i 1, i 1, 0)] 1))) (w 128 7 [i 4, tt, .map 6, i 0, i 0, i 0, i 0]) e0) (w 120 1 [.sl 2 0 20 20]) (n1 (l0 (w 148 3 [i 0, .nilsl, .map 18])) (.map [] 0) e0)) (n1 (n1 (l0 (w 144 3 [i 4096, tt, .map 16])) (w 300 1 [.int .u64 0]) (b (a (l0 (w 250 2 [p 98 0, .sl 104 0 2 2]))))) (w 123 2 [.sl 4 0 20 20, i 0]) (n1 (l0 (w 69 11 [p 3 0, p 5 0, p 7 0, p 10 0, p 12 0, p 14 0, p 15 0, p 17 0, p 19 0, .map 20, i 1000])) (.map [(i 1, .agg [i 1, i 1, i (-1)], 0)] 1) (n0 (l0 (w 190 2 [s 62 0 10 1, tt])) (a (l0 (x 323 3 [i 0, i 2, i 1]))))))) (n1 (n1 (n1 (l0 (.map [] 0)) (w 300 1 [.int .u64 0]) (b (a (l0 (w 3 1 [i 0, i 1]))))) (w 80 5 [i 1, i 1, i 0, i 0, i 0, i 2, i 1, i 0, i 0, i 1, i 0, i 0, i 0, i 0, i 0, i 0, i 0, i 0, i 0, i 0, i 0, i 0, i 0, i 0, i 0, i 0, i 0, i 0, i 0, i 0, i 0, i 0, i 0, i 0, i 0, i 0, i 0, i 0, i 0, i 0, i 0, i 0, i 0, i 0, i 0, i 0, i 0, i 0, i 0, i 0, i 0, i 0, i 0, i 0, i 0, i 0, i 0, i 0, i 0, i 0, i 0, i 0, i 0, i 0, i 0, i 0, i 0, i 0, i 0, i 0, i 0, i 0, i 0, i 0, i 0, i 0, i 0, i 0, i 0, i 0, i 0, i 0, i 0, i 0, i 0, i 0, i 0, i 0, i 0, i 0, i 0, i 0, i 0, i 0, i 0, i 0, i 0, i 0, i 0, i 0]) (n1 (l0 (.map [(i 1, p 46 0, 0)] 1)) (w 134 4 [tt, .nilsl, .map 11, i 0]) (b (l0 (w 210 5 [p 3 0, p 5 0, i 1, i 0, i 1]))))) (.row 302 4096 false false (.bytes 81920 0)) (n1 (n1 (n1 (n0 (b (l0 (x 168 6 [i 0, i 2, i 1, i 0, ff, ff]))) (l0 (w 330 3 [s 125 0 3 1, i 2, tt]))) (.map [] 1) e0) (w 131 3 [i 4, .sl 8 0 1 1, .sl 9 0 1 1]) e0) (.map [] 0) (c (w 138 5 [i 4096, tt, .map 13, .nilsl, i 1]) (n0 (l0 (w 100 4 [i 1, p 45 0, p 44 0, s 130 0 6 1])) (l0 (x 94 10 [i 0, i 2, i 0, i 0, ff, i 1, i 7, i 0, i 0, ff])))))))
noncomputable def T2 (n : Nat) : Tr := (n0 (n0 (n1 (n1 (n1 (b (b (l0 (x 246 1 [p 105 0])))) (w 141 4 [i 4096, tt, s 127 0 1 1, i 1]) (l0 (.map (ents n) n))) (w 128 7 [i 4, tt, .map 6, i 0, i 0, i 0, i 0]) e0) (w 120 1 [.sl 2 0 20 20]) (n1 (l0 (w 148 3 [i 0, .nilsl, .map 18])) (.map [] 0) e0)) (n1 (n1 (l0 (w 144 3 [i 4096, tt, .map 16])) (w 300 1 [.int .u64 0]) (b (a (l0 (w 250 2 [p 98 0, .sl 104 0 2 2]))))) (w 123 2 [.sl 4 0 20 20, i 0]) (n1 (l0 (w 69 11 [p 3 0, p 5 0, p 7 0, p 10 0, p 12 0, p 14 0, p 15 0, p 17 0, p 19 0, .map 20, i 1000])) (.map [(i 1, .agg [i 1, i 1, i (-1)], 0), (i 2, .agg [i 1, i 2, i (-1)], 1)] 2) (n0 (l0 (w 190 2 [s 62 0 10 1, tt])) (a (l0 (x 323 3 [i 0, i 2, i 1]))))))) (n1 (n1 (n1 (l0 (.map [] 0)) (w 300 1 [.int .u64 0]) (b (a (l0 (w 3 1 [i 2, i 1]))))) (fr n) (n1 (l0 (.map [(i 1, p 46 0, 0)] 1)) (w 134 4 [tt, .nilsl, .map 11, i 0]) (b (l0 (w 210 5 [p 3 0, p 5 0, i 1, i 0, i 1]))))) (.row 302 4096 false false (.bytes 81920 0)) (n1 (n1 (n1 (n0 (b (l0 (x 168 6 [i 0, i 2, i 1, i 0, ff, ff]))) (l0 (w 330 3 [s 125 0 3 1, i 2, tt]))) (.map [] n) e0) (w 131 3 [i 4, .sl 8 0 1 1, .sl 9 0 1 1]) e0) (.map [] 0) (c (w 138 5 [i 4096, tt, .map 13, .nilsl, i 2]) (n0 (l0 (w 100 4 [i 1, p 45 0, p 44 0, s 130 0 6 1])) (l0 (x 94 10 [i 0, i 2, i 0, i 0, ff, i 1, i 7, i 0, i 0, ff])))))))
noncomputable def HX (n : Nat) : AHeap := ⟨Nat.add 90 (Nat.mul 6400 n), sel (Nat.beq n 1) T1 (T2 n)⟩
noncomputable def desk (n : Nat) : AObj := .row 85 3 false false (.vals [p 21 0, .int .i64 (n : Nat), .map 47])
noncomputable def HL (n i : Nat) : AHeap := AHeap.putK (HX i) 48 (desk n)
theorem less_HL {n i : Nat} {h : AHeap} (h1 : leT (HX i).objs h.objs = true) (h2 : h.get 48 = some (desk n)) (h3 : Nat.ble h.next (HX i).next = true) : Less (HL n i) h := ⟨fun id o e => by
  by_cases e0 : id = 48
  · subst e0
    rw [HL, AHeap.putK_eq, AHeap.get_put_same] at e
    cases e
    exact h2
  · rw [HL, AHeap.putK_eq, AHeap.get_put_ne _ _ (Ne.symm e0)] at e
    exact leT_get h1 id o e, Nat.le_of_ble_eq_true h3⟩
noncomputable def runA (n keep : Nat) : XF := stackX dsD 124 [.code dsA] .normal (envE 124 [(5, .int .i64 (n : Nat)), (1, .int .u64 (keep : Nat))]) ⟨0, .leaf⟩
noncomputable def runD (h : AHeap) (i n keep : Nat) : XF := stackX dsD 124 [.code c_law19_LoanMany_L0] .normal (envE 124 [(9, .int .i64 (i : Nat)), (1, .int .u64 (keep : Nat)), (5, .int .i64 (n : Nat)), (8, p 48 0)]) h
noncomputable def runF (n keep : Nat) : XF := stackX dsD 124 [.code dsF] .normal (envE 124 [(1, .int .u64 (keep : Nat)), (5, .int .i64 (n : Nat)), (8, p 48 0)]) (HL n n)
noncomputable def runB (n q keep : Nat) : Bool := retTrue 4 (stackX dsD 124 [.code (seqR dsT)] .normal (envE 124 [(18, .int .i64 ((q + 1 : Nat) : Nat)), (5, .int .i64 (n : Nat)), (8, p 48 0), (13, i 5), (15, i 4), (17, i 7)]) (outH (runF n keep)))
def Round (r : XF) (i n keep : Nat) : Prop := (isN r, (outE r).get 9, (outE r).get 1, (outE r).get 5, (outE r).get 8, leT (HX i).objs (outH r).objs, (outH r).get 48, Nat.ble (outH r).next (HX i).next) = (true, .int .i64 ((i + 1 : Nat) : Nat), .int .u64 (keep : Nat), .int .i64 (n : Nat), p 48 0, true, some (desk n), true)
def GoodA (n keep : Nat) : Prop := (isN (runA n keep), (outE (runA n keep)).get 1, (outE (runA n keep)).get 5, (outE (runA n keep)).get 8) = (true, .int .u64 (keep : Nat), .int .i64 (n : Nat), p 48 0)
def GoodF (n keep : Nat) : Prop := (isN (runF n keep), (outE (runF n keep)).get 1, (outE (runF n keep)).get 5, (outE (runF n keep)).get 8, (outE (runF n keep)).get 13, (outE (runF n keep)).get 15, (outE (runF n keep)).get 17) = (true, .int .u64 (keep : Nat), .int .i64 (n : Nat), p 48 0, i 5, i 4, i 7)
noncomputable def okB (n lo c keep : Nat) : Bool := Nat.rec (motive := fun _ => Bool) true (fun i ih => sel (runB n (Nat.add lo i) keep) ih false) c
theorem okB_of {n lo keep : Nat} : ∀ {c q : Nat}, okB n lo c keep = true → lo ≤ q → q < lo + c → runB n q keep = true
  | 0, q, _, h1, h2 => by omega
  | c + 1, q, h, h1, h2 => by
    obtain ⟨a, b⟩ := selB (show sel (runB n (lo + c) keep) (okB n lo c keep) false = true from h)
    by_cases e : q = lo + c
    · rw [e]; exact a
    · exact okB_of b h1 (by omega)
end Go.Proofs.YtlkfclgkinaibaaGreat

namespace Go.Proofs.YtlkfclgkinaibaaGreat
theorem call_w {n : Nat} {f : AFn} {args : List AV} {h : AHeap} {Q : AV → AHeap → Prop} (hO : over n = none) (hT : tab.get n = some f) (hj : NoJunk args) (hl : Nat.ble args.length f.ntmps = true)
    (w : W over tab none f.ntmps (fnQ f.res Q) .normal [.code f.body] (argS 0 args) h) : progI over tab (.f n) args h Q :=
  progI_call hO hT (call_walk progI_mono hj hl ⟨fun e hl hc => execW_mono (fun _ _ _ _ x => x) progI_mono (fun y e h q => by cases y <;> exact q) (w.run e hl hc)⟩)
theorem wrapU {m : Nat} (h : m < 2 ^ 64) : IntKind.u64.wrap (m : Int) = (m : Int) := by
  have e : IntKind.u64.wrap (m : Int) = (m : Int) % (2 ^ 64 : Int) := rfl
  rw [e]
  omega
theorem d_remN {k : IntKind} {a b : Nat} {h : AHeap} (hb : 0 < b) : Does (.bin .rem) [.int k (a : Int), .int k (b : Int)] h (.int k ((a % b : Nat) : Int)) h := ⟨rfl, by
  have hb' : ¬ (b : Int) = 0 := by omega
  simp only [aop, binInt, ne_eq, not_true, if_false, if_neg hb', Option.map_some, Int.ofNat_tmod]⟩
theorem ds_tail {m keep : Nat} (hm : 1 ≤ m) (hm2 : m < 31) {h : AHeap}
    (hb : ∀ q, q < m → retTrue 4 (stackX dsD 124 [.code (seqR dsT)] .normal (envE 124 [(18, .int .i64 ((q + 1 : Nat) : Nat)), (5, .int .i64 (m : Nat)), (8, p 48 0), (13, i 5), (15, i 4), (17, i 7)]) h) = true) :
    W over tab none 124 (fnQ [.tmp 4] fun v _ => v = .bool true) .normal [.code dsT] [(1, .int .u64 (keep : Nat)), (5, .int .i64 (m : Nat)), (8, p 48 0), (13, i 5), (15, i 4), (17, i 7)] h := by
  refine W.of (.seq ?_)
  (repeat (first | (show W _ _ _ _ _ _ (.code (cond _ _ _) :: _) _ _; first | refine W.ct ?_ | refine W.cf ?_) | (show W _ _ _ _ _ _ (.ins (cond _ _ _ :: _) :: _) _ _; first | refine W.gt ?_ | refine W.gf ?_) | (show W _ _ _ _ _ _ [] _ _; refine W.of (.done ?_)) | (apply W.of; constructor <;> first | (show W _ _ _ _ _ _ _ _ _) | (intro (al : Nat) h st; show W _ _ _ _ _ _ _ _ _) | (intro _ h st; show W _ _ _ _ _ _ _ _ _) | exact Sd)))
  rw [wrapU (by omega)]
  (repeat (first | (show W _ _ _ _ _ _ (.code (cond _ _ _) :: _) _ _; first | refine W.ct ?_ | refine W.cf ?_) | (show W _ _ _ _ _ _ (.ins (cond _ _ _ :: _) :: _) _ _; first | refine W.gt ?_ | refine W.gf ?_) | (show W _ _ _ _ _ _ [] _ _; refine W.of (.done ?_)) | (apply W.of; constructor <;> first | (show W _ _ _ _ _ _ _ _ _) | (intro (al : Nat) h st; show W _ _ _ _ _ _ _ _ _) | (intro _ h st; show W _ _ _ _ _ _ _ _ _) | exact Sd))); refine W.do (ho := (d_remN (a := keep) (b := m) (by omega))) (w := ?_)
  obtain ⟨q, hq⟩ : ∃ q : Nat, q = keep % m := ⟨_, rfl⟩
  have hqm : q < m := by rw [hq]; exact Nat.mod_lt _ (by omega)
  rw [← hq]
  (iterate 1 (apply W.of; constructor <;> first | (show W _ _ _ _ _ _ _ _ _) | (intro (al : Nat) h st; show W _ _ _ _ _ _ _ _ _) | (intro _ h st; show W _ _ _ _ _ _ _ _ _) | exact Sd))
  rw [wrap64 (n := (q : Int)) (by omega) (by omega)]
  (iterate 3 (apply W.of; constructor <;> first | (show W _ _ _ _ _ _ _ _ _) | (intro (al : Nat) h st; show W _ _ _ _ _ _ _ _ _) | (intro _ h st; show W _ _ _ _ _ _ _ _ _) | exact Sd))
  rw [show (1 : Int) + (q : Int) = ((q + 1 : Nat) : Int) by omega]
  refine W.finT dsGood (E := envE 124 [(18, .int .i64 ((q + 1 : Nat) : Nat)), (5, .int .i64 (m : Nat)), (8, p 48 0), (13, i 5), (15, i 4), (17, i 7)]) (fun e hl hc => envE_rl rfl hl (hc.sub ?_)) (hb q hqm)
  exact ⟨rfl, rfl, rfl, rfl, rfl, rfl, trivial⟩
theorem ds_rest {m keep : Nat} (hm : 1 ≤ m) (hm2 : m < 31) (hf : GoodF m keep) (hb : ∀ q, q < m → runB m q keep = true) :
    W over tab none 124 (fnQ [.tmp 4] fun v _ => v = .bool true) .normal [.code dsP] [(1, .int .u64 (keep : Nat)), (5, .int .i64 (m : Nat)), (8, p 48 0)] (HL m m) := by
  refine W.assoc (W.assoc (W.of (.seq ?_)))
  unfold GoodF at hf
  simp only [Prod.mk.injEq] at hf
  obtain ⟨a1, a2, a3, a4, a5, a6, a7⟩ := hf
  refine W.pre dsGood [.code dsF] rfl (isN_eq a1) (s1 := [(1, .int .u64 (keep : Nat)), (5, .int .i64 (m : Nat)), (8, p 48 0), (13, i 5), (15, i 4), (17, i 7)]) ⟨a2, rfl, a3, rfl, a4, rfl, a5, rfl, a6, rfl, a7, rfl, trivial⟩ ?_
  exact ds_tail hm hm2 hb
noncomputable def hAt (m keep y : Nat) : AHeap := bif Nat.beq y 1 then outH (runA m keep) else HL m (y - 1)
theorem hAt_one {m keep : Nat} : hAt m keep 1 = outH (runA m keep) := rfl
theorem hAt_succ {m keep y : Nat} (h : 1 ≤ y) : hAt m keep (y + 1) = HL m y := by
  have e : Nat.beq (y + 1) 1 = false := by
    cases hb : Nat.beq (y + 1) 1 with
    | false => rfl
    | true =>
      have := Nat.eq_of_beq_eq_true hb
      omega
  rw [hAt, e]
  rfl
theorem ds_loop {m keep : Nat} (hm : 1 ≤ m) (hm2 : m < 31) (h1 : Round (runD (outH (runA m keep)) 1 m keep) 1 m keep) (hr : ∀ i n, 1 ≤ i → i < n → n < 31 → Round (runD (HL n i) (i + 1) n keep) (i + 1) n keep) (hf : GoodF m keep) (hb : ∀ q, q < m → runB m q keep = true) :
    W over tab none 124 (fnQ [.tmp 4] fun v _ => v = .bool true) .normal [.code dsL] [(1, .int .u64 (keep : Nat)), (5, .int .i64 (m : Nat)), (8, p 48 0)] (outH (runA m keep)) := by
  refine W.of (.seq ?_)
  refine W.of (.seq ?_)
  (iterate 4 (apply W.of; constructor <;> first | (show W _ _ _ _ _ _ _ _ _) | (intro (al : Nat) h st; show W _ _ _ _ _ _ _ _ _) | (intro _ h st; show W _ _ _ _ _ _ _ _ _) | exact Sd))
  refine W.loopd (σ := Nat) (E := fun y => [(9, .int .i64 (y : Nat)), (1, .int .u64 (keep : Nat)), (5, .int .i64 (m : Nat)), (8, p 48 0)]) (H := hAt m keep) (φ := fun y => 1 ≤ y ∧ y ≤ m + 1) (m := fun y => m + 1 - y) (x0 := 1) (Nat.lt_of_le_of_lt (show m + 1 - 1 ≤ 31 by omega) (by decide)) ⟨rfl, rfl, rfl, rfl, trivial⟩ hAt_one.symm ⟨by omega, by omega⟩ ?_
  intro y ⟨hy1, hy2⟩
  by_cases hy : y = m + 1
  · subst hy
    rw [hAt_succ hm]
    (iterate 8 (apply W.of; constructor <;> first | (show W _ _ _ _ _ _ _ _ _) | (intro (al : Nat) h st; show W _ _ _ _ _ _ _ _ _) | (intro _ h st; show W _ _ _ _ _ _ _ _ _) | exact Sd))
    refine W.cf ?_
    (iterate 4 (apply W.of; constructor <;> first | (show W _ _ _ _ _ _ _ _ _) | (intro (al : Nat) h st; show W _ _ _ _ _ _ _ _ _) | (intro _ h st; show W _ _ _ _ _ _ _ _ _) | exact Sd))
    exact W.sub (s' := [(1, .int .u64 (keep : Nat)), (5, .int .i64 (m : Nat)), (8, p 48 0)]) ⟨rfl, rfl, rfl, trivial⟩ (ds_rest hm hm2 hf hb)
  · have hR : Round (runD (hAt m keep y) y m keep) y m keep := by
      by_cases e1 : y = 1
      · subst e1; exact h1
      · obtain ⟨i, rfl⟩ : ∃ i, y = i + 1 := ⟨y - 1, by omega⟩
        rw [hAt_succ (by omega)]
        exact hr i m (by omega) (by omega) hm2
    unfold Round at hR
    simp only [Prod.mk.injEq] at hR
    obtain ⟨a1, a2, a3, a4, a5, a6, a7, a8⟩ := hR
    refine W.pre dsGood [.code c_law19_LoanMany_L0] rfl (isN_eq a1) (s1 := [(9, .int .i64 ((y + 1 : Nat) : Nat)), (1, .int .u64 (keep : Nat)), (5, .int .i64 (m : Nat)), (8, p 48 0)]) ⟨a2, rfl, a3, rfl, a4, rfl, a5, rfl, trivial⟩ ?_
    refine W.of (.lp ?_)
    exact ⟨y + 1, by omega, ⟨by omega, by omega⟩, ⟨rfl, rfl, rfl, rfl, trivial⟩, fun _ => by rw [hAt_succ hy1]; exact less_HL a6 a7 a8⟩
theorem ds_m {m keep : Nat} (hm : 1 ≤ m) (hm2 : m < 31) (ha : GoodA m keep) (h1 : Round (runD (outH (runA m keep)) 1 m keep) 1 m keep) (hr : ∀ i n, 1 ≤ i → i < n → n < 31 → Round (runD (HL n i) (i + 1) n keep) (i + 1) n keep) (hf : GoodF m keep) (hb : ∀ q, q < m → runB m q keep = true) :
    W over tab none 124 (fnQ [.tmp 4] fun v _ => v = .bool true) .normal [.code dsR] [(5, .int .i64 (m : Nat)), (1, .int .u64 (keep : Nat))] ⟨0, .leaf⟩ := by
  refine W.assoc (W.assoc (W.of (.seq ?_)))
  unfold GoodA at ha
  simp only [Prod.mk.injEq] at ha
  obtain ⟨a1, a2, a3, a4⟩ := ha
  refine W.pre dsGood [.code dsA] rfl (isN_eq a1) (s1 := [(1, .int .u64 (keep : Nat)), (5, .int .i64 (m : Nat)), (8, p 48 0)]) ⟨a2, rfl, a3, rfl, a4, rfl, trivial⟩ ?_
  exact ds_loop hm hm2 h1 hr hf hb
theorem loanMany_w {n keep : Nat} (hr : ∀ i n, 1 ≤ i → i < n → n < 31 → Round (runD (HL n i) (i + 1) n keep) (i + 1) n keep) (ha : ∀ m, 1 ≤ m → m < 31 → GoodA m keep ∧ Round (runD (outH (runA m keep)) 1 m keep) 1 m keep ∧ GoodF m keep ∧ ∀ q, q < m → runB m q keep = true) :
    progI over tab (.f n_law19_LoanMany) [.int .u64 (n : Nat), .int .u64 (keep : Nat)] ⟨0, .leaf⟩ fun v _ => v = .bool true := by
  refine call_w rfl rfl ⟨rfl, rfl, trivial⟩ rfl ?_
  (repeat (first | (show W _ _ _ _ _ _ (.code (cond _ _ _) :: _) _ _; first | refine W.ct ?_ | refine W.cf ?_) | (show W _ _ _ _ _ _ (.ins (cond _ _ _ :: _) :: _) _ _; first | refine W.gt ?_ | refine W.gf ?_) | (show W _ _ _ _ _ _ [] _ _; refine W.of (.done ?_)) | (apply W.of; constructor <;> first | (show W _ _ _ _ _ _ _ _ _) | (intro (al : Nat) h st; show W _ _ _ _ _ _ _ _ _) | (intro _ h st; show W _ _ _ _ _ _ _ _ _) | exact Sd)))
  obtain ⟨r, hr'⟩ : ∃ r : Nat, r = n % 30 := ⟨_, rfl⟩
  have hr10 : r < 30 := by omega
  have e1 : IntKind.i64.wrap ((n : Int).tmod 30) = (r : Int) := by
    rw [show (n : Int).tmod 30 = ((n % 30 : Nat) : Int) from rfl, ← hr', wrap64 (by omega) (by omega)]
  rw [e1]
  clear e1 hr'
  refine W.sub (s' := [(23, .int .i64 (r : Nat)), (1, .int .u64 (keep : Nat))]) ⟨rfl, rfl, trivial⟩ ?_
  (iterate 3 (apply W.of; constructor <;> first | (show W _ _ _ _ _ _ _ _ _) | (intro (al : Nat) h st; show W _ _ _ _ _ _ _ _ _) | (intro _ h st; show W _ _ _ _ _ _ _ _ _) | exact Sd))
  rw [show (1 : Int) + (r : Int) = ((r + 1 : Nat) : Int) by omega]
  refine W.sub (s' := [(5, .int .i64 ((r + 1 : Nat) : Nat)), (1, .int .u64 (keep : Nat))]) ⟨rfl, rfl, trivial⟩ ?_
  obtain ⟨a1, a2, a3, a4⟩ := ha (r + 1) (by omega) (by omega)
  exact ds_m (by omega) (by omega) a1 a2 hr a3 a4
end Go.Proofs.YtlkfclgkinaibaaGreat
