/- BY PROGRAM (wip/tool/shake.py): own texts, one behind the other, without what is not needed. -/
import Derived.Control
import Derived.Calls
import Derived.KernelRfl
import Derived.Laws.Sem
import Derived.Laws.Cells
import Derived.Laws.World
import GoSem.Dispatch
import Derived.Laws.StructEq
import Derived.IntWalk
import Derived.WideKeyRuns
import Derived.Laws.BytesArg
import Derived.Orders
import Derived.ChangeArms
import Derived.OpenShut
import Derived.ChangeShapes
import Derived.ProofKit
import Derived.Test.YtlkfclgkinaibaaGreatProg
import Derived.Test.YtlkfclgkinaibaaGreatZLST6
import Derived.Test.YtlkfclgkinaibaaGreatALMM

namespace Go.Proofs.YtlkfclgkinaibaaGreat
def KeysAre : List (AV × AV × Nat) → List Int → Prop
  | [], ks => ks = []
  | (k, _, _) :: es, ks => ∃ n ns, k = .int .i64 n ∧ ks = n :: ns ∧ KeysAre es ns
def sortedF (gs : List Nat) (ty : Nat) : FSpec := fun args h Q => ∃ g X e M es clock ks, g ∈ gs ∧ args = [.func g [] [.ptr X 0]] ∧ h.get X = some (.row e 1 false false (.vals [.map M])) ∧ h.get M = some (.map es clock) ∧ KeysAre es ks ∧
  (∀ k, k ∈ ks → IntKind.i64.min ≤ k ∧ k ≤ IntKind.i64.max) ∧ ks.Nodup ∧ (∀ x, x ∈ es → x.2.2 < clock) ∧ (es.map (·.2.2)).Nodup ∧ ks.length ≤ 1000000 ∧ ks ≠ [] ∧
  Q (.ssl h.next 0 1 ks.length) (h.new (.row ty 1 true false (.vals ((ks.mergeSort fun x y => decide (x ≤ y)).map (.int .i64)))))
theorem sortedF_mono {gs : List Nat} {ty : Nat} {args : List AV} {h : AHeap} {Q Q' : AV → AHeap → Prop} (hq : ∀ v h, Q v h → Q' v h) (x : sortedF gs ty args h Q) : sortedF gs ty args h Q' := by
  obtain ⟨g, X, e, M, es, clock, ks, a1, a2, a3, a4, a5, a6, a7, a8, a9, a10, a11, q⟩ := x
  exact ⟨g, X, e, M, es, clock, ks, a1, a2, a3, a4, a5, a6, a7, a8, a9, a10, a11, hq _ _ q⟩
def orF2 (F G : FSpec) : FSpec := fun args h Q => F args h Q ∨ G args h Q
theorem FSound.or {P : Program} {Λ : Lam} {f : FuncId} {F G : FSpec} (hF : FSound P Λ f F) (hG : FSound P Λ f G) : FSound P Λ f (orF2 F G) := fun args h Q μ w cargs x hr hv cs => by
  rcases x with x | x
  · exact hF args h Q μ w cargs x hr hv cs
  · exact hG args h Q μ w cargs x hr hv cs
end Go.Proofs.YtlkfclgkinaibaaGreat

namespace Go.Proofs.YtlkfclgkinaibaaGreat
noncomputable def insI (x : Int) : List Int → List Int
  | [] => [x]
  | y :: r => bif leK x y then x :: y :: r else y :: insI x r
noncomputable def isort : List Int → List Int
  | [] => []
  | x :: r => insI x (isort r)
theorem insI_perm (x : Int) : ∀ l : List Int, (insI x l).Perm (x :: l)
  | [] => List.Perm.refl _
  | y :: r => by
    simp only [insI]
    cases leK x y with
    | true => exact List.Perm.refl _
    | false => exact ((insI_perm x r).cons y).trans (List.Perm.swap x y r)
theorem isort_perm : ∀ l : List Int, (isort l).Perm l
  | [] => List.Perm.refl _
  | x :: r => (insI_perm x _).trans ((isort_perm r).cons x)
theorem insI_sorted (x : Int) : ∀ l : List Int, l.Pairwise (· ≤ ·) → (insI x l).Pairwise (· ≤ ·)
  | [], _ => by simp [insI]
  | y :: r, h => by
    obtain ⟨h1, h2⟩ := List.pairwise_cons.1 h
    simp only [insI]
    cases e : leK x y with
    | true =>
      have e : x ≤ y := by rw [leK_eq] at e; exact of_decide_eq_true e
      refine List.pairwise_cons.2 ⟨fun z hz => ?_, h⟩
      rcases List.mem_cons.1 hz with rfl | hz
      · exact e
      · exact Int.le_trans e (h1 z hz)
    | false =>
      have e : ¬ x ≤ y := by rw [leK_eq] at e; exact of_decide_eq_false e
      refine List.pairwise_cons.2 ⟨fun z hz => ?_, insI_sorted x r h2⟩
      rcases List.mem_cons.1 ((insI_perm x r).mem_iff.1 hz) with rfl | hz
      · omega
      · exact h1 z hz
theorem isort_sorted : ∀ l : List Int, (isort l).Pairwise (· ≤ ·)
  | [] => by simp [isort]
  | x :: r => insI_sorted x _ (isort_sorted r)
theorem isort_eq (l : List Int) : l.mergeSort (fun x y => decide (x ≤ y)) = isort l := by
  refine List.Perm.eq_of_pairwise (le := fun a b => decide (a ≤ b) = true) (fun a b _ _ h1 h2 => ?_) (List.pairwise_mergeSort (fun a b c h1 h2 => ?_) (fun a b => ?_) l) ((isort_sorted l).imp fun h => decide_eq_true h) ((List.mergeSort_perm l _).trans (isort_perm l).symm)
  · exact Int.le_antisymm (of_decide_eq_true h1) (of_decide_eq_true h2)
  · exact decide_eq_true (Int.le_trans (of_decide_eq_true h1) (of_decide_eq_true h2))
  · rcases Int.le_total a b with h | h <;> simp [h]
def keyK : AV → Option Int
  | .int .i64 n => some n
  | _ => none
def keysK : List (AV × AV × Nat) → Option (List Int)
  | [] => some []
  | (k, _, _) :: es => (keyK k).bind fun n => (keysK es).map fun ns => n :: ns
theorem keysK_ok : ∀ {es : List (AV × AV × Nat)} {ks : List Int}, keysK es = some ks → KeysAre es ks
  | [], ks, h => by cases h; rfl
  | (k, v, b) :: es, ks, h => by
    simp only [keysK, Option.bind_eq_some_iff, Option.map_eq_some_iff] at h
    obtain ⟨n, hk, ns, hn, rfl⟩ := h
    refine ⟨n, ns, ?_, rfl, keysK_ok hn⟩
    unfold keyK at hk
    split at hk
    · cases hk; rfl
    · cases hk
noncomputable def freshI (x : Int) : List Int → Bool
  | [] => true
  | y :: r => bif eqK x y then false else freshI x r
noncomputable def nodupI : List Int → Bool
  | [] => true
  | x :: r => bif freshI x r then nodupI r else false
noncomputable def boundI : List Int → Bool
  | [] => true
  | x :: r => bif leK (-9223372036854775808) x then (bif leK x 9223372036854775807 then boundI r else false) else false
def stampB (clock : Nat) : List (AV × AV × Nat) → Bool
  | [] => true
  | (_, _, b) :: es => bif Nat.blt b clock then stampB clock es else false
def bornI : List (AV × AV × Nat) → List Int
  | [] => []
  | (_, _, b) :: es => Int.ofNat b :: bornI es
theorem freshI_ok {x : Int} : ∀ {l : List Int}, freshI x l = true → ∀ y, y ∈ l → x ≠ y
  | [], _, y, hy => by cases hy
  | z :: r, h, y, hy => by
    simp only [freshI] at h
    cases e : eqK x z with
    | true => rw [e] at h; cases h
    | false =>
      rw [e] at h
      rcases List.mem_cons.1 hy with rfl | hy
      · intro q
        rw [eqK_eq] at e
        exact of_decide_eq_false e q
      · exact freshI_ok h y hy
theorem nodupI_ok : ∀ {l : List Int}, nodupI l = true → l.Nodup
  | [], _ => List.nodup_nil
  | x :: r, h => by
    simp only [nodupI] at h
    cases e : freshI x r with
    | false => rw [e] at h; cases h
    | true =>
      rw [e] at h
      exact List.nodup_cons.2 ⟨fun hm => freshI_ok e x hm rfl, nodupI_ok h⟩
theorem boundI_ok : ∀ {l : List Int}, boundI l = true → ∀ k, k ∈ l → IntKind.i64.min ≤ k ∧ k ≤ IntKind.i64.max
  | [], _, k, hk => by cases hk
  | x :: r, h, k, hk => by
    simp only [boundI] at h
    cases e1 : leK (-9223372036854775808) x with
    | false => rw [e1] at h; cases h
    | true =>
      cases e2 : leK x 9223372036854775807 with
      | false => rw [e1, e2] at h; cases h
      | true =>
        rw [e1, e2] at h
        rcases List.mem_cons.1 hk with rfl | hk
        · rw [leK_eq] at e1 e2
          exact ⟨of_decide_eq_true e1, of_decide_eq_true e2⟩
        · exact boundI_ok h k hk
theorem stampB_ok {clock : Nat} : ∀ {es : List (AV × AV × Nat)}, stampB clock es = true → ∀ x, x ∈ es → x.2.2 < clock
  | [], _, x, hx => by cases hx
  | (k, v, b) :: es, h, x, hx => by
    simp only [stampB] at h
    cases e : Nat.blt b clock with
    | false => rw [e] at h; cases h
    | true =>
      rw [e] at h
      rcases List.mem_cons.1 hx with rfl | hx
      · exact blt_of e
      · exact stampB_ok h x hx
theorem bornI_eq : ∀ es : List (AV × AV × Nat), bornI es = (es.map (·.2.2)).map Int.ofNat
  | [] => rfl
  | (k, v, b) :: es => by simp only [bornI, List.map_cons, bornI_eq es]
theorem born_nodup {es : List (AV × AV × Nat)} (h : nodupI (bornI es) = true) : (es.map (·.2.2)).Nodup := by
  have := nodupI_ok h
  rw [bornI_eq] at this
  exact (List.pairwise_map.1 this).imp fun hne e => hne (congrArg Int.ofNat e)
def twoI : List Int → Bool
  | _ :: _ :: _ => true
  | _ => false
def lenI : List Int → Nat
  | [] => 0
  | _ :: r => Nat.succ (lenI r)
theorem lenI_eq : ∀ l, lenI l = l.length
  | [] => rfl
  | _ :: r => congrArg Nat.succ (lenI_eq r)
def inN (g : Nat) : List Nat → Bool
  | [] => false
  | x :: r => bif Nat.beq g x then true else inN g r
theorem inN_ok {g : Nat} : ∀ {l : List Nat}, inN g l = true → g ∈ l
  | [], h => by cases h
  | x :: r, h => by
    simp only [inN] at h
    cases e : Nat.beq g x with
    | true => rw [Nat.eq_of_beq_eq_true e]; exact List.mem_cons_self
    | false => rw [e] at h; exact List.mem_cons_of_mem _ (inN_ok h)
def toVals : List Int → List AV
  | [] => []
  | x :: r => .int .i64 x :: toVals r
theorem toVals_eq : ∀ l, toVals l = l.map (.int .i64)
  | [] => rfl
  | x :: r => by simp only [toVals, List.map_cons, toVals_eq r]
noncomputable def kSorted (gs : List Nat) (ty : Nat) (args : List AV) (h : AHeap) : Option (AV × AHeap) := match args with
  | [.func g [] [.ptr X 0]] => match h.get X with
    | some (.row _ 1 false false (.vals [.map M])) => match h.get M with
      | some (.map es clock) => match keysK es with
        | some ks => bif inN g gs then (bif twoI ks then (bif boundI ks then (bif nodupI ks then (bif stampB clock es then (bif nodupI (bornI es) then (bif Nat.ble (lenI ks) 1000000 then some (.ssl h.next 0 1 (lenI ks), h.new (.row ty 1 true false (.vals (toVals (isort ks))))) else none) else none) else none) else none) else none) else none) else none
        | none => none
      | _ => none
    | _ => none
  | _ => none
theorem bifN {α : Type} {b : Bool} {x : Option α} {r : α} (h : (bif b then x else none) = some r) : b = true ∧ x = some r := by
  cases b with
  | true => exact ⟨rfl, h⟩
  | false => cases h
theorem kSorted_ok {gs : List Nat} {ty : Nat} {args : List AV} {h h' : AHeap} {v : AV} {Q : AV → AHeap → Prop} (x : kSorted gs ty args h = some (v, h')) (q : Q v h') : sortedF gs ty args h Q := by
  unfold kSorted at x
  split at x
  · rename_i g X
    split at x
    · rename_i e M hX
      split at x
      · rename_i es clock hM
        split at x
        · rename_i ks hks
          obtain ⟨c1, x⟩ := bifN x
          obtain ⟨c2, x⟩ := bifN x
          obtain ⟨c3, x⟩ := bifN x
          obtain ⟨c4, x⟩ := bifN x
          obtain ⟨c5, x⟩ := bifN x
          obtain ⟨c6, x⟩ := bifN x
          obtain ⟨c7, x⟩ := bifN x
          cases x
          rw [lenI_eq] at c7 q
          rw [toVals_eq, ← isort_eq] at q
          exact ⟨g, X, e, M, es, clock, ks, inN_ok c1, rfl, hX, hM, keysK_ok hks, boundI_ok c3, nodupI_ok c4, stampB_ok c5, born_nodup c6, Nat.le_of_ble_eq_true c7, fun e0 => (by rw [e0] at c2; cases c2), q⟩
        · cases x
      · cases x
    · cases x
  · cases x
noncomputable def kSrt (gs : List Nat) (ty : Nat) (args : List AV) (h : AHeap) : Option (AV × AHeap) := orF (kSorted gs ty args h) (progS hints kTabY tab.getK 60 (.f n_slices_Sorted_int) args h)
def srtF (gs : List Nat) (ty : Nat) : FSpec := orF2 (sortedF gs ty) (progI (fun _ => none) tab (.f n_slices_Sorted_int))
theorem kSrt_ok {gs : List Nat} {ty : Nat} {args : List AV} {h h' : AHeap} {v : AV} {Q : AV → AHeap → Prop} (x : kSrt gs ty args h = some (v, h')) (q : Q v h') : srtF gs ty args h Q := by
  unfold kSrt at x
  cases e : kSorted gs ty args h with
  | none =>
    rw [e] at x
    exact .inr (noGood _ _ _ _ _ _ x q)
  | some p =>
    rw [e] at x
    cases x
    exact .inl (kSorted_ok e q)
theorem srtF_mono {gs : List Nat} {ty : Nat} {args : List AV} {h : AHeap} {Q Q' : AV → AHeap → Prop} (hq : ∀ v h, Q v h → Q' v h) (x : srtF gs ty args h Q) : srtF gs ty args h Q' := by
  rcases x with x | x
  · exact .inl (sortedF_mono hq x)
  · exact .inr (progI_mono _ _ _ _ _ hq x)
end Go.Proofs.YtlkfclgkinaibaaGreat

namespace Go.Proofs.YtlkfclgkinaibaaGreat
def nums : List AV → Bool
  | [] => true
  | .int _ _ :: l => nums l
  | _ => false
theorem vrl_nums {μ μ' : Mu} : ∀ {us : List AV} {xs : List Value}, nums us = true → VRL μ us xs → VRL μ' us xs
  | [], xs, _, h => by simp only [VRL] at h ⊢; exact h
  | .int k n :: us, xs, hn, h => by
    simp only [VRL, VR] at h ⊢
    obtain ⟨c, cs, rfl, rfl, h⟩ := h
    exact ⟨_, _, rfl, rfl, vrl_nums hn h⟩
def flatF (F : FSpec) (v : AV) : FSpec := fun args h Q => nums args = true ∧ F args ⟨0, .leaf⟩ (fun w _ => w = v) ∧ Q v h
theorem FSound.flat {P : Program} {Λ : Lam} {f : FuncId} {F : FSpec} (hs : FSound P Λ f F) (b : Bool) : FSound P Λ f (flatF F (.bool b)) := by
  intro args h Q μ w cargs hF hr hargs cs
  obtain ⟨hn, hc, hq⟩ := hF
  obtain ⟨r, h', fr, w', μ', cv, rfl, s, hf, hl, hv, _, hst⟩ := hs args ⟨0, .leaf⟩ _ _ w cargs hc (rel_empty w) (vrl_nums hn hargs) cs
  have hb := hst.below ro_empty
  simp only [VR] at hv
  subst hv
  refine ⟨.bool b, h, fr, w', μ, .bool b, hq, s, hf, hl, by simp [VR], ⟨fun id o hg => ?_, hr.inj, fun id l hl => ?_⟩, ⟨Ext.refl μ, Nat.le_refl _, fun _ _ => rfl, hb.os, hb.tape, hb.output, hb.size, fun b hb' _ => hb.block b hb', fun id o l h1 h2 h3 => .inr ⟨id, o, l, h1, h2, h3, rfl⟩, fun id o l h1 h3 => .inr ⟨id, o, l, h1, h3, rfl⟩⟩⟩
  · obtain ⟨l, hl, hobj⟩ := hr.obj id o hg
    exact ⟨l, hl, hobj.same (hb.block _ (hr.dom _ _ hl).2)⟩
  · have := hr.dom id l hl
    exact ⟨this.1, Nat.lt_of_lt_of_le this.2 hb.size⟩
end Go.Proofs.YtlkfclgkinaibaaGreat

namespace Go.Proofs.YtlkfclgkinaibaaGreat
variable {O : Nat → Option FSpec} {T : BT} {N : Nat} {Q : AExit → Env → AHeap → Prop} {k k2 : List KI} {s s1 : Env} {h h1 : AHeap} {D : DSem} {E1 : ET} {x y : AExit}
theorem stackX_pre (hD : DGood O T D) {Q : AExit → List AV → AHeap → Prop} {k2 : List KI} (hQ : ∀ e1, Rl N false E1 e1 → postK (progI O T) none N k2 Q y e1 h1) : ∀ (k : List KI) (x : AExit) (E : ET) (e : List AV) (h : AHeap), Rl N false E e → stackX D N k x E h = some (y, E1, h1) → postK (progI O T) none N (k ++ k2) Q x e h
  | [], x, E, e, h, g, r => by
    simp only [stackX] at r
    cases r
    exact hQ e g
  | .code c :: k, .normal, E, e, h, g, r => by
    simp only [stackX] at r
    obtain ⟨z, E2, h2, e2, r⟩ := bindX_some r
    obtain ⟨z', E3, e3, h3, g3, p3, q⟩ := codeB_ok c D E e h normX _ g e2
    show execW (progI O T) none c e h _
    refine execD_ok hD p3 ?_
    cases z' <;> (cases q; exact stackX_pre hD hQ k _ _ _ _ g3 r)
  | .ins is :: k, .normal, E, e, h, g, r => by
    simp only [stackX] at r
    obtain ⟨E2, e2, h2, g2, p2, r⟩ := insB_ok g r
    show runInsW (progI O T) is e h _
    exact runInsD_ok hD p2 (stackX_pre hD hQ k _ _ _ _ g2 r)
  | .blk id :: k, .exit i, E, e, h, g, r => by
    simp only [stackX] at r
    rw [sel_eq, beqD] at r
    show (if i = id then _ else _)
    split at r
    · rename_i hi; rw [if_pos (of_decide_eq_true hi)]; exact stackX_pre hD hQ k _ _ _ _ g r
    · rename_i hi; rw [if_neg (fun q => hi (decide_eq_true q))]; exact stackX_pre hD hQ k _ _ _ _ g r
  | .code _ :: k, .exit i, E, e, h, g, r => stackX_pre hD hQ k _ _ _ _ g (by simpa only [stackX] using r)
  | .ins _ :: k, .exit i, E, e, h, g, r => stackX_pre hD hQ k _ _ _ _ g (by simpa only [stackX] using r)
  | .code _ :: k, .ret, E, e, h, g, r => stackX_pre hD hQ k _ _ _ _ g (by simpa only [stackX] using r)
  | .ins _ :: k, .ret, E, e, h, g, r => stackX_pre hD hQ k _ _ _ _ g (by simpa only [stackX] using r)
  | .blk _ :: k, .ret, E, e, h, g, r => stackX_pre hD hQ k _ _ _ _ g (by simpa only [stackX] using r)
  | .blk _ :: k, .normal, E, e, h, g, r => stackX_pre hD hQ k _ _ _ _ g (by simpa only [stackX] using r)
  | .dis _ :: _, .normal, _, _, _, _, r => by simp only [stackX] at r; cases r
  | .dis _ :: _, .exit _, _, _, _, _, r => by simp only [stackX] at r; cases r
  | .dis _ :: _, .ret, _, _, _, _, r => by simp only [stackX] at r; cases r
  | .ag _ :: _, .normal, _, _, _, _, r => by simp only [stackX] at r; cases r
  | .ag _ :: _, .exit _, _, _, _, _, r => by simp only [stackX] at r; cases r
  | .ag _ :: _, .ret, _, _, _, _, r => by simp only [stackX] at r; cases r
  | .lp _ :: _, .normal, _, _, _, _, r => by simp only [stackX] at r; cases r
  | .lp _ :: _, .exit _, _, _, _, _, r => by simp only [stackX] at r; cases r
  | .lp _ :: _, .ret, _, _, _, _, r => by simp only [stackX] at r; cases r
theorem W.pre (hD : DGood O T D) (k : List KI) (hs : slotsLt N s = true) (run : stackX D N k x (envE N s) h = some (y, E1, h1)) (ha : AllGet E1 s1) (w : W O T none N Q y k2 s1 h1) : W O T none N Q x (k ++ k2) s h := ⟨fun e hl hc =>
  stackX_pre hD (fun _ g => w.run _ g.len (g.to ha)) k x (envE N s) e h (envE_rl hs hl hc) run⟩
theorem exec_assoc {a b c : ACode} {ro : Option Nat} {e : List AV} {R : AExit → List AV → AHeap → Prop} (x : execW (progI O T) ro (.seq (.seq a b) c) e h R) : execW (progI O T) ro (.seq a (.seq b c)) e h R := by
  simp only [execW] at x ⊢
  refine execW_mono (fun _ _ _ _ x => x) progI_mono (fun y e' h' q => ?_) x
  cases y with
  | normal =>
    simp only at q ⊢
    refine execW_mono (fun _ _ _ _ x => x) progI_mono (fun y e' h' q => ?_) q
    cases y <;> exact q
  | exit i => exact q
  | ret => exact q
theorem W.assoc {a b c : ACode} {ro : Option Nat} (w : W O T ro N Q .normal (.code (.seq (.seq a b) c) :: k) s h) : W O T ro N Q .normal (.code (.seq a (.seq b c)) :: k) s h := ⟨fun e hl hc => exec_assoc (w.run e hl hc)⟩
end Go.Proofs.YtlkfclgkinaibaaGreat

namespace Go.Proofs.YtlkfclgkinaibaaGreat
noncomputable def idN (n : Nat) : Nat := n
noncomputable def eqE (a : List (AV × AV × Nat)) : List (AV × AV × Nat) → Bool := List.rec (motive := fun _ => List (AV × AV × Nat) → Bool) (fun b => List.rec (motive := fun _ => Bool) true (fun _ _ _ => false) b) (fun x _ ih b => List.rec (motive := fun _ => Bool) false (fun y r _ => sel (eqV idN x.1 y.1) (sel (eqV idN x.2.1 y.2.1) (sel (Nat.beq x.2.2 y.2.2) (ih r) false) false) false) b) a
theorem eqE_eq : ∀ {a b : List (AV × AV × Nat)}, eqE a b = true → a = b
  | [], [], _ => rfl
  | [], _ :: _, h => by cases h
  | _ :: _, [], h => by cases h
  | x :: a, y :: b, h => by
    have h : sel (eqV idN x.1 y.1) (sel (eqV idN x.2.1 y.2.1) (sel (Nat.beq x.2.2 y.2.2) (eqE a b) false) false) false = true := h
    obtain ⟨h1, q1⟩ := selB h
    obtain ⟨h2, q2⟩ := selB q1
    obtain ⟨h3, q3⟩ := selB q2
    have e1 := eqV_eq _ _ h1
    have e2 := eqV_eq _ _ h2
    rw [show idN = fun i => i from rfl, AV.ren_id] at e1 e2
    obtain ⟨x1, x2, x3⟩ := x
    obtain ⟨y1, y2, y3⟩ := y
    simp only at e1 e2 h3
    rw [e1, e2, nbeq h3, eqE_eq q3]
theorem eqD_id {d d' : Dat} (h : eqD idN d d' = true) : d = d' := by
  have e := eqD_eq h
  have e2 : (AObj.row 0 0 false false d).ren idN = AObj.row 0 0 false false d' := by rw [AObj.ren, e]
  rw [show idN = fun i => i from rfl, AObj.ren_id] at e2
  cases e2
  rfl
noncomputable def eqB (a b : AObj) : Bool := match a, b with
  | .row e es s ro d, .row e' es' s' ro' d' => sel (Nat.beq e e') (sel (Nat.beq es es') (sel (s == s') (sel (ro == ro') (eqD idN d d') false) false) false) false
  | .map es c, .map es' c' => sel (Nat.beq c c') (eqE es es') false
  | _, _ => false
theorem eqB_eq {a b : AObj} (h : eqB a b = true) : a = b := by
  unfold eqB at h
  split at h
  · obtain ⟨h1, q1⟩ := selB h
    obtain ⟨h2, q2⟩ := selB q1
    obtain ⟨h3, q3⟩ := selB q2
    obtain ⟨h4, q4⟩ := selB q3
    rw [nbeq h1, nbeq h2, eq_of_beq h3, eq_of_beq h4, eqD_id q4]
  · obtain ⟨h1, q1⟩ := selB h
    rw [nbeq h1, eqE_eq q1]
  · cases h
noncomputable def leT (a : Tr) : Tr → Bool := Tr.rec (motive := fun _ => Tr → Bool) (fun _ => true) (fun _ o _ il ir b => Tr.rec (motive := fun _ => Bool) false (fun l' o' r' _ _ => sel (Option.rec (motive := fun _ => Bool) true (fun x => Option.rec (motive := fun _ => Bool) false (fun y => eqB x y) o') o) (sel (il l') (ir r') false) false) b) a
theorem leT_get : ∀ {a b : Tr}, leT a b = true → ∀ (id : Nat) (o : AObj), a.get id = some o → b.get id = some o
  | .leaf, b, _, id, o, h => by simp [Tr.get] at h
  | .node l x r, .leaf, h, id, o, _ => by cases h
  | .node l x r, .node l' x' r', h, id, o, g => by
    have h : sel (Option.rec (motive := fun _ => Bool) true (fun x => Option.rec (motive := fun _ => Bool) false (fun y => eqB x y) x') x) (sel (leT l l') (leT r r') false) false = true := h
    obtain ⟨h0, h⟩ := selB h
    obtain ⟨h1, h2⟩ := selB h
    simp only [Tr.get] at g ⊢
    by_cases e0 : id = 0
    · rw [if_pos e0] at g ⊢
      subst g
      cases x' with
      | none => cases h0
      | some y => rw [eqB_eq h0]
    · rw [if_neg e0] at g ⊢
      by_cases e1 : id % 2 = 1
      · rw [if_pos e1] at g ⊢
        exact leT_get h1 _ o g
      · rw [if_neg e1] at g ⊢
        exact leT_get h2 _ o g
theorem less_leT {a b : AHeap} (h : leT a.objs b.objs = true) (hn : Nat.ble b.next a.next = true) : Less a b := ⟨fun id o e => leT_get h id o e, Nat.le_of_ble_eq_true hn⟩
section
variable {O : Nat → Option FSpec} {T : BT} {D : DSem}
noncomputable def valR (r : Option (AV × AHeap)) : AV := match r with | some (v, _) => v | _ => .junk
noncomputable def heapR (r : Option (AV × AHeap)) : AHeap := match r with | some (_, h) => h | _ => ⟨0, .leaf⟩
noncomputable def isR (r : Option (AV × AHeap)) : Bool := match r with | some _ => true | _ => false
theorem isR_eq {r : Option (AV × AHeap)} (h : isR r = true) : r = some (valR r, heapR r) := by
  unfold isR at h
  split at h
  · rfl
  · cases h
noncomputable def cutR (v : AV) (H : AHeap) (r : Option (AV × AHeap)) : Bool := Option.rec (motive := fun _ => Bool) false (fun p => sel (eqV idN v p.1) (sel (leT H.objs p.2.objs) (Nat.ble p.2.next H.next) false) false) r
theorem runs_cut (hO : OFree O) (hD : DGood O T D) {n : Nat} {af : AFn} {args : List AV} {h h2 : AHeap} {v : AV} (hn : O n = none) (hT : T.get n = some af) (h1 : cutR v h2 (D (.f n) args h) = true) : Runs O T n args h v h2 := by
  cases e : D (.f n) args h with
  | none => rw [e] at h1; cases h1
  | some p =>
    obtain ⟨v', h'⟩ := p
    rw [e] at h1
    have h1 : sel (eqV idN v v') (sel (leT h2.objs h'.objs) (Nat.ble h'.next h2.next) false) false = true := h1
    obtain ⟨a1, a2⟩ := selB h1
    obtain ⟨a3, a4⟩ := selB a2
    have e1 := eqV_eq _ _ a1
    rw [show idN = fun i => i from rfl, AV.ren_id] at e1
    subst e1
    exact Runs.drop hO hn hT (h1 := h') (fun Q q => hD (.f n) args h v _ Q e q) fun _ => less_leT a3 a4
end
end Go.Proofs.YtlkfclgkinaibaaGreat

namespace Go.Proofs.YtlkfclgkinaibaaGreat
def over : Nat → Option FSpec := fun n => bif Nat.beq n n_law19_lives then some (constF (.bool true)) else bif Nat.beq n n_slices_Sorted_int then some (srtF [n_maps_Keys_map_int_kern_proc_int_kern_proc_1, n_maps_Keys_map_int_int_int_int_1] 3) else none
noncomputable def kLv (args : List AV) (h : AHeap) : Option (AV × AHeap) := match args with | [] => some (.bool true, h) | _ => none
noncomputable def kT2 : Nat → Option KF := fun n => sel (Nat.beq n n_law19_lives) (some (kNoD kLv)) (sel (Nat.beq n n_slices_Sorted_int) (some (kNoD (kSrt [n_maps_Keys_map_int_kern_proc_int_kern_proc_1, n_maps_Keys_map_int_int_int_int_1] 3))) (kTabY n))
noncomputable def gT : Nat → Option AFn := fun n => sel (Nat.beq n n_law19_lives) none (sel (Nat.beq n n_slices_Sorted_int) none (tab.getK n))
noncomputable def dsD : DSem := progS hints kT2 gT 60
theorem over_no {n : Nat} (h : Nat.beq n n_law19_lives = false) (h2 : Nat.beq n n_slices_Sorted_int = false) : over n = none := by
  unfold over
  rw [h, h2]
  rfl
theorem dsFree : OFree over := by
  refine ⟨fun n h => ?_, fun n F e args h Q Q' hq x => ?_⟩
  · cases hb : Nat.beq n n_law19_lives with
    | true =>
      rw [Nat.eq_of_beq_eq_true hb] at h
      cases h
    | false =>
      cases hc : Nat.beq n n_slices_Sorted_int with
      | true =>
        rw [Nat.eq_of_beq_eq_true hc] at h
        cases h
      | false => exact over_no hb hc
  · unfold over at e
    cases hb : Nat.beq n n_law19_lives with
    | true => rw [hb] at e; cases e; exact ⟨x.1, hq _ _ x.2⟩
    | false =>
      cases hc : Nat.beq n n_slices_Sorted_int with
      | true => rw [hb, hc] at e; cases e; exact srtF_mono hq x
      | false => rw [hb, hc] at e; cases e
theorem kT2_ok : KOk over tab kT2 := by
  intro n k e D hD args h v h' Q x q
  rcases selK e with ⟨rfl, e⟩ | e
  · cases e
    cases args with
    | nil => cases x; exact progI_known (F := constF (.bool true)) rfl ⟨rfl, q⟩
    | cons a l => cases x
  rcases selK e with ⟨rfl, e⟩ | e
  · cases e
    exact progI_known (F := srtF [n_maps_Keys_map_int_kern_proc_int_kern_proc_1, n_maps_Keys_map_int_int_int_int_1] 3) rfl (kSrt_ok x q)
  exact kTabY_ok dsFree n k e D hD args h v h' Q x q
theorem dsGood : DGood over tab dsD := progS_ok (fun n f e => by
  unfold gT at e
  cases hb : Nat.beq n n_law19_lives with
  | true => rw [hb] at e; cases e
  | false =>
    cases hc : Nat.beq n n_slices_Sorted_int with
    | true => rw [hb, hc] at e; cases e
    | false =>
      rw [hb, hc] at e
      exact ⟨over_no hb hc, by rw [← BT.getK_eq]; exact e⟩) kT2_ok 60
def seqL : ACode → ACode
  | .seq a _ => a
  | c => c
def seqR : ACode → ACode
  | .seq _ b => b
  | c => c
def dsB : ACode := seqR c_law19_LoanShares.body
def dsA : ACode := .seq (seqL dsB) (seqL (seqR dsB))
def dsM : ACode := seqR (seqR dsB)
def dsI : ACode := seqR dsM
def dsC : ACode := .seq (.seq (seqL dsI) (seqL (seqR dsI))) (seqL (seqR (seqR dsI)))
def dsL : ACode := seqR (seqR (seqR dsI))
def dsP : ACode := seqR dsL
def dsU : ACode := seqR dsP
def dsT : ACode := .seq (.seq (.seq (seqL dsU) (seqL (seqR dsU))) (seqL (seqR (seqR dsU)))) (seqL (seqR (seqR (seqR dsU))))
noncomputable def outE (r : XF) : ET := match r with | some (_, E, _) => E | _ => .leaf
noncomputable def outH (r : XF) : AHeap := match r with | some (_, _, h) => h | _ => ⟨0, .leaf⟩
noncomputable def isN (r : XF) : Bool := match r with | some (.normal, _, _) => true | _ => false
theorem isN_eq {r : XF} (h : isN r = true) : r = some (.normal, outE r, outH r) := by
  unfold isN at h
  split at h
  · rfl
  · cases h
abbrev e0 : Tr := .leaf
abbrev n0 (l r : Tr) : Tr := .node l none r
abbrev n1 (l : Tr) (o : AObj) (r : Tr) : Tr := .node l (some o) r
abbrev l0 (o : AObj) : Tr := .node .leaf (some o) .leaf
noncomputable def mN (l : List (Nat × Nat)) : Nat := List.rec (motive := fun _ => Nat) 0 (fun p _ ih => Nat.lor ih (Nat.shiftLeft p.2 (Nat.mul 64 p.1))) l
abbrev i (n : Int) : AV := .int .i64 n
abbrev p (a b : Nat) : AV := .ptr a b
abbrev w (e es : Nat) (l : List AV) : AObj := .row e es false false (.vals l)
abbrev a (r : Tr) : Tr := .node .leaf none r
abbrev b (l : Tr) : Tr := .node l none .leaf
abbrev c (o : AObj) (r : Tr) : Tr := .node .leaf (some o) r
abbrev ff : AV := .bool false
abbrev tt : AV := .bool true
abbrev s (a b c d : Nat) : AV := .ssl a b c d
abbrev x (e es : Nat) (l : List AV) : AObj := .row e es true false (.vals l)
noncomputable def ents (n : Nat) : List (AV × AV × Nat) := Nat.rec (motive := fun _ => Nat → List (AV × AV × Nat)) (fun _ => []) (fun _ ih k => (.int .i64 (Int.ofNat k), i 1, Nat.pred k) :: ih (Nat.succ k)) n 1
noncomputable def fr (n : Nat) : AObj := w 80 5 [i 1, i 1, i 0, i 0, i 0, i 2, i 1, i 0, i 0, .int .i64 (Int.ofNat n), i 0, i 0, i 0, i 0, i 0, i 0, i 0, i 0, i 0, i 0, i 0, i 0, i 0, i 0, i 0, i 0, i 0, i 0, i 0, i 0, i 0, i 0, i 0, i 0, i 0, i 0, i 0, i 0, i 0, i 0, i 0, i 0, i 0, i 0, i 0, i 0, i 0, i 0, i 0, i 0, i 0, i 0, i 0, i 0, i 0, i 0, i 0, i 0, i 0, i 0, i 0, i 0, i 0, i 0, i 0, i 0, i 0, i 0, i 0, i 0, i 0, i 0, i 0, i 0, i 0, i 0, i 0, i 0, i 0, i 0, i 0, i 0, i 0, i 0, i 0, i 0, i 0, i 0, i 0, i 0, i 0, i 0, i 0, i 0, i 0, i 0, i 0, i 0, i 0, i 0, i 0, i 0, i 0, i 0, i 0, i 0, i 0, i 0, i 0, i 0, i 0, i 0, i 0, i 0, i 0, i 0, i 0, i 0, i 0, i 0, i 0, i 0, i 0, i 0, i 0, i 0, i 0, i 0, i 0, i 0, i 0, i 0, i 0, i 0, i 0, i 0, i 0, i 0, i 0, i 0, i 0, i 0, i 0, i 0, i 0, i 0, i 0, i 0, i 0, i 0]
noncomputable def T1 (n : Nat) : Tr := (n0 (n0 (n1 (n1 (l0 (w 141 4 [i 4096, tt, s 144 0 1 1, i 1])) (w 128 7 [i 4, tt, .map 6, i 0, i 0, i 0, i 0]) (a (l0 (w 190 2 [s 75 0 10 1, tt])))) (w 120 1 [.sl 2 0 30 30]) (n1 (c (w 148 3 [i 0, .nilsl, .map 18]) (n0 (b (l0 (x 168 6 [i 0, i 1, i 1, i 0, ff, ff]))) (l0 (w 330 3 [s 142 0 3 1, i 1, tt])))) (.map [] 0) (b (b (l0 (x 94 10 [i 0, i 1, i 0, i 0, ff, i 3, i 7, i 0, i 0, ff])))))) (n1 (n1 (l0 (w 144 3 [i 4096, tt, .map 16])) (w 300 1 [.int .u64 0]) (a (c (.map (ents n) n) (l0 (w 3 1 [i 1]))))) (w 123 2 [.sl 4 0 30 30, i 0]) (n1 (l0 (w 69 11 [p 3 0, p 5 0, p 7 0, p 10 0, p 12 0, p 14 0, p 15 0, p 17 0, p 19 0, .map 20, i 1000])) (.map [(i 1, .agg [i 1, i 1, i (-1)], 0)] 1) e0))) (n1 (n1 (n1 (c (.map [] 0) (b (b (l0 (x 246 1 [p 122 0]))))) (w 300 1 [.int .u64 0]) (a (l0 (w 100 4 [i 1, p 55 0, p 54 0, s 147 0 6 1])))) (fr n) (n1 (l0 (.map [(i 1, p 56 0, 0)] 1)) (w 134 4 [tt, .nilsl, .map 11, i 0]) e0)) (.row 302 4096 false false (.bytes 122880 (mN [(512, 5)]))) (n1 (n1 (l0 (.map [] (Nat.succ n))) (w 131 3 [i 4, .sl 8 0 1 1, .sl 9 0 1 1]) (a (c (w 85 3 [p 21 0, i 64, .map 57]) (l0 (w 250 2 [p 115 0, .sl 121 0 1 1]))))) (.map [] 0) (n1 (a (l0 (w 210 5 [p 3 0, p 5 0, i 1, i 0, i 1]))) (w 138 5 [i 4096, tt, .map 13, .nilsl, i 1]) (b (b (b (l0 (x 323 3 [i 0, i 1, i 1])))))))))
noncomputable def HL (n : Nat) : AHeap := ⟨Nat.add 205 (Nat.mul 6400 n), T1 n⟩
noncomputable def HF (n : Nat) : AHeap := ⟨300000, T1 n⟩
noncomputable def fr2 (n : Nat) : AObj := w 80 5 [i 1, i 1, i 0, i 0, i 0, i 4, i 0, i 0, i 0, .int .i64 (Int.ofNat n), i 2, i 1, i 0, i 0, i 0, i 1, i 1, i 1, i 0, i 0, i 1, i 1, i 2, i 0, i 0, i 0, i 0, i 0, i 0, i 0, i 0, i 0, i 0, i 0, i 0, i 0, i 0, i 0, i 0, i 0, i 0, i 0, i 0, i 0, i 0, i 0, i 0, i 0, i 0, i 0, i 0, i 0, i 0, i 0, i 0, i 0, i 0, i 0, i 0, i 0, i 0, i 0, i 0, i 0, i 0, i 0, i 0, i 0, i 0, i 0, i 0, i 0, i 0, i 0, i 0, i 0, i 0, i 0, i 0, i 0, i 0, i 0, i 0, i 0, i 0, i 0, i 0, i 0, i 0, i 0, i 0, i 0, i 0, i 0, i 0, i 0, i 0, i 0, i 0, i 0, i 0, i 0, i 0, i 0, i 0, i 0, i 0, i 0, i 0, i 0, i 0, i 0, i 0, i 0, i 0, i 0, i 0, i 0, i 0, i 0, i 0, i 0, i 0, i 0, i 0, i 0, i 0, i 0, i 0, i 0, i 0, i 0, i 0, i 0, i 0, i 0, i 0, i 0, i 0, i 0, i 0, i 0, i 0, i 0, i 0, i 0, i 0, i 0, i 0, i 0]
noncomputable def T2 : Tr := (n0 (n0 (n1 (n1 (l0 (w 141 4 [i 4096, tt, s 144 0 1 1, i 1])) (w 128 7 [i 4, tt, .map 6, i 0, i 0, i 0, i 0]) (a (l0 (w 190 2 [s 75 0 10 1, tt])))) (w 120 1 [.sl 2 0 30 30]) (n1 (c (w 148 3 [i 0, .nilsl, .map 18]) (n0 (b (l0 (x 168 6 [i 0, i 1, i 1, i 0, ff, ff]))) (l0 (w 330 3 [s 142 0 3 1, i 1, tt])))) (.map [] 0) (b (b (l0 (x 94 10 [i 0, i 1, i 0, i 0, ff, i 3, i 7, i 0, i 0, ff])))))) (n1 (n1 (l0 (w 144 3 [i 4096, tt, .map 16])) (w 300 1 [.int .u64 0]) (a (a (l0 (w 3 1 [i 1]))))) (w 123 2 [.sl 4 0 30 30, i 0]) (n1 (l0 (w 69 11 [p 3 0, p 5 0, p 7 0, p 10 0, p 12 0, p 14 0, p 15 0, p 17 0, p 19 0, .map 20, i 1000])) (.map [(i 1, .agg [i 1, i 2, i (-1)], 0)] 1) e0))) (n0 (n0 (n1 (c (.map [] 0) (b (b (l0 (x 246 1 [p 122 0]))))) (w 300 1 [.int .u64 0]) (a (l0 (w 100 4 [i 1, p 55 0, p 54 0, s 147 0 6 1])))) (n1 (l0 (.map [(i 1, p 56 0, 0)] 1)) (w 134 4 [tt, .nilsl, .map 11, i 0]) e0)) (n1 (c (w 131 3 [i 4, .sl 8 0 1 1, .sl 9 0 1 1]) (a (c (w 85 3 [p 21 0, i 64, .map 57]) (l0 (w 250 2 [p 115 0, .sl 121 0 1 1]))))) (.map [] 0) (n1 (a (l0 (w 210 5 [p 3 0, p 5 0, i 1, i 0, i 3]))) (w 138 5 [i 4096, tt, .map 13, .nilsl, i 1]) (b (b (b (l0 (x 323 3 [i 0, i 1, i 1])))))))))
noncomputable def H0 : AHeap := ⟨310000, T2⟩
noncomputable def mem (N : Nat) : AObj := .row 302 4096 false false (.bytes 122880 N)
noncomputable def DX (x : Nat) : Nat := mN [(0, 3073), (512, 5), (1024, x), (1536, 4097), (2048, 2263)]
noncomputable def HS (n N : Nat) : AHeap := AHeap.putK (AHeap.putK (AHeap.putK (AHeap.putK H0 2 (mem N)) 4 (fr2 n)) 18 (.map [] (Nat.succ (Nat.succ n)))) 57 (.map (ents n) n)
theorem less_HS {n N : Nat} {h : AHeap} (h1 : leT T2 h.objs = true) (g2 : h.get 2 = some (mem N)) (g4 : h.get 4 = some (fr2 n)) (g18 : h.get 18 = some (.map [] (Nat.succ (Nat.succ n)))) (g57 : h.get 57 = some (.map (ents n) n)) (h3 : Nat.ble h.next 310000 = true) : Less (HS n N) h := ⟨fun id o e => by
  simp only [HS, AHeap.putK_eq, AHeap.get_put] at e
  split at e
  · rename_i q; subst q; cases e; exact g57
  split at e
  · rename_i q; subst q; cases e; exact g18
  split at e
  · rename_i q; subst q; cases e; exact g4
  split at e
  · rename_i q; subst q; cases e; exact g2
  · exact leT_get h1 id o e, Nat.le_of_ble_eq_true h3⟩
noncomputable def runA (n v : Nat) : XF := stackX dsD 151 [.code dsA] .normal (envE 151 [(0, .int .u64 (n : Nat)), (1, .int .u64 (v : Nat))]) ⟨0, .leaf⟩
def GoodA (n v : Nat) : Prop := (isN (runA n v), (outE (runA n v)).get 0, (outE (runA n v)).get 1, (outE (runA n v)).get 5, (outE (runA n v)).get 6, (outE (runA n v)).get 7) = (true, .int .u64 (n : Nat), .int .u64 (v : Nat), p 21 0, i 0, p 58 0)
noncomputable def runC (n v m : Nat) : XF := stackX dsD 151 [.code dsC] .normal (envE 151 [(1, .int .u64 (v : Nat)), (5, p 21 0), (6, i 0), (7, p 58 0), (8, .int .i64 (m : Nat))]) (outH (runA n v))
def GoodC (n v m : Nat) : Prop := (isN (runC n v m), (outE (runC n v m)).get 1, (outE (runC n v m)).get 5, (outE (runC n v m)).get 7, (outE (runC n v m)).get 8, (outE (runC n v m)).get 9, (outE (runC n v m)).get 10) = (true, .int .u64 (v : Nat), p 21 0, p 58 0, .int .i64 (m : Nat), i 26, i (-1))
def fv (y : Nat) : AV := bif Nat.beq y 1 then .int .i64 (-1) else .int .i64 1
noncomputable def runD (h : AHeap) (y m v : Nat) : XF := stackX dsD 151 [.code c_law19_LoanShares_L0] .normal (envE 151 [(11, .int .i64 (y : Nat)), (10, fv y), (1, .int .u64 (v : Nat)), (5, p 21 0), (7, p 58 0), (8, .int .i64 (m : Nat)), (9, i 26)]) h
def Round (r : XF) (y m v : Nat) : Prop := (isN r, (outE r).get 11, (outE r).get 10, (outE r).get 1, (outE r).get 5, (outE r).get 7, (outE r).get 8, (outE r).get 9, leT (T1 y) (outH r).objs, Nat.ble (outH r).next (HL y).next) = (true, .int .i64 ((y + 1 : Nat) : Nat), i 1, .int .u64 (v : Nat), p 21 0, p 58 0, .int .i64 (m : Nat), i 26, true, true)
noncomputable def okFree (lo c : Nat) : Bool := Nat.rec (motive := fun _ => Bool) true (fun k ih => sel (cutR (i 28) (HF (Nat.add lo k)) (dsD (.f n_kern_Kernel_Free) [p 21 0] (HL (Nat.add lo k)))) ih false) c
theorem okFree_of {lo : Nat} : ∀ {c m : Nat}, okFree lo c = true → lo ≤ m → m < lo + c → cutR (i 28) (HF m) (dsD (.f n_kern_Kernel_Free) [p 21 0] (HL m)) = true
  | 0, m, _, h1, h2 => by omega
  | c + 1, m, h, h1, h2 => by
    obtain ⟨a, b⟩ := selB (show sel (cutR (i 28) (HF (lo + c)) (dsD (.f n_kern_Kernel_Free) [p 21 0] (HL (lo + c)))) (okFree lo c) false = true from h)
    by_cases e : m = lo + c
    · rw [e]; exact a
    · exact okFree_of b h1 (by omega)
noncomputable def opS (x : Nat) : AV := .agg [i 9, i 1, i 0, i 0, i 0, ff, i 0, i 0, ff, i 0, i 0, .int .i64 (x : Nat), i 0, i 0]
noncomputable def runS (x c : Nat) : Option (AV × AHeap) := dsD (.f n_kern_Kernel_Do) [p 21 0, opS x] (HF (Nat.succ c))
abbrev Seen := Bool × AV × Bool × Option AObj × Option AObj × Option AObj × Option AObj × Nat
noncomputable def seenS (x c : Nat) : Seen := (isR (runS x c), valR (runS x c), leT T2 (heapR (runS x c)).objs, (heapR (runS x c)).get 2, (heapR (runS x c)).get 4, (heapR (runS x c)).get 18, (heapR (runS x c)).get 57, (heapR (runS x c)).next)
noncomputable def willS (x c : Nat) : Seen := (true, .agg [i 0, i 0], true, some (mem (DX x)), some (fr2 (Nat.succ c)), some (.map [] (Nat.succ (Nat.succ (Nat.succ c)))), some (.map (ents (Nat.succ c)) (Nat.succ c)), 302280)
noncomputable def seenL (lo n c : Nat) : List Seen := Nat.rec (motive := fun _ => List Seen) [] (fun k ih => seenS (Nat.add lo k) c :: ih) n
noncomputable def willL (lo n c : Nat) : List Seen := Nat.rec (motive := fun _ => List Seen) [] (fun k ih => willS (Nat.add lo k) c :: ih) n
theorem seenL_of {lo c : Nat} : ∀ {n x : Nat}, seenL lo n c = willL lo n c → lo ≤ x → x < lo + n → seenS x c = willS x c
  | 0, x, _, h1, h2 => by omega
  | n + 1, x, h, h1, h0 => by
    have h2 : seenS (lo + n) c :: seenL lo n c = willS (lo + n) c :: willL lo n c := h
    have a : seenS (lo + n) c = willS (lo + n) c := (List.cons.inj h2).1
    have b : seenL lo n c = willL lo n c := (List.cons.inj h2).2
    by_cases e : x = lo + n
    · rw [e]; exact a
    · exact seenL_of b h1 (by omega)
noncomputable def runT (m N v : Nat) : XF := stackX dsD 151 [.code dsT] .normal (envE 151 [(1, .int .u64 (v : Nat)), (5, p 21 0), (7, p 58 0), (8, .int .i64 (m : Nat)), (9, i 26)]) (HS m N)
noncomputable def byteX (N a : Nat) : Int := wrapK .i64 (Int.ofNat (byteAt N a))
noncomputable def byteY (N a : Nat) : Int := wrapK .i64 (Int.ofNat (byteAt (bsub N a 4096) 0))
noncomputable def runG (m N v : Nat) : Option (AV × AHeap) := dsD (.f n_kern_Kernel_Free) [p 21 0] (outH (runT m N v))
def GoodT (m N v : Nat) : Prop := (isN (runT m N v), (outE (runT m N v)).get 1, (outE (runT m N v)).get 5, (outE (runT m N v)).get 9, (outE (runT m N v)).get 14, (outE (runT m N v)).get 16, (outE (runT m N v)).get 19, (outE (runT m N v)).get 20, isR (runG m N v), valR (runG m N v)) = (true, .int .u64 (v : Nat), p 21 0, i 26, .int .i64 (byteX N 4096), i 1, .int .i64 (byteY N 8192), i 0, true, i 26)
end Go.Proofs.YtlkfclgkinaibaaGreat

namespace Go.Proofs.YtlkfclgkinaibaaGreat
theorem call_w {n : Nat} {f : AFn} {args : List AV} {h : AHeap} {Q : AV → AHeap → Prop} (hO : over n = none) (hT : tab.get n = some f) (hj : NoJunk args) (hl : Nat.ble args.length f.ntmps = true)
    (w : W over tab none f.ntmps (fnQ f.res Q) .normal [.code f.body] (argS 0 args) h) : progI over tab (.f n) args h Q :=
  progI_call hO hT (call_walk progI_mono hj hl ⟨fun e hl hc => execW_mono (fun _ _ _ _ x => x) progI_mono (fun y e h q => by cases y <;> exact q) (w.run e hl hc)⟩)
theorem lives_runs {h : AHeap} : Runs over tab n_law19_lives [] h (.bool true) h := fun _ q => progI_known (F := constF (.bool true)) rfl ⟨rfl, q⟩
theorem runs_ex {n : Nat} {args : List AV} {h : AHeap} {v : AV} (h1 : isR (dsD (.f n) args h) = true) (hv : valR (dsD (.f n) args h) = v) : Runs over tab n args h v (heapR (dsD (.f n) args h)) := fun Q q => by
  have e := isR_eq h1
  rw [hv] at e
  exact dsGood (.f n) args h v _ Q e q
theorem runs_store {x c : Nat} (h : seenS x c = willS x c) : Runs over tab n_kern_Kernel_Do [p 21 0, opS x] (HF (c + 1)) (.agg [i 0, i 0]) (HS (c + 1) (DX x)) := by
  unfold seenS willS at h
  simp only [Prod.mk.injEq] at h
  obtain ⟨a1, a2, a3, a4, a5, a6, a7, a8⟩ := h
  exact Runs.drop dsFree (af := c_kern_Kernel_Do) rfl rfl (runs_ex a1 a2) fun _ => less_HS a3 a4 a5 a6 a7 (by show Nat.ble (heapR (runS x c)).next 310000 = true; rw [a8]; rfl)
theorem rem256 (v : Nat) : IntKind.i64.wrap ((v : Int).tmod 256) = ((v % 256 : Nat) : Int) := by
  rw [show (v : Int).tmod 256 = ((v % 256 : Nat) : Int) from rfl, wrap64 (by omega) (by omega)]
theorem ds_end {m v x : Nat} (hx : x = v % 256) (ht : GoodT m (DX x) v) (hbx : byteX (DX x) 4096 = 5) (hby : byteY (DX x) 8192 = (x : Nat)) :
    W over tab none 151 (fnQ [.tmp 4] fun v _ => v = .bool true) .normal [.code dsU] [(1, .int .u64 (v : Nat)), (5, p 21 0), (7, p 58 0), (8, .int .i64 (m : Nat)), (9, i 26)] (HS m (DX x)) := by
  refine W.assoc (W.assoc (W.assoc (W.of (.seq ?_))))
  unfold GoodT at ht
  simp only [Prod.mk.injEq] at ht
  obtain ⟨a1, a2, a3, a4, a5, a6, a7, a8, a9, a10⟩ := ht
  rw [hbx] at a5
  rw [hby] at a7
  refine W.pre dsGood [.code dsT] rfl (isN_eq a1) (s1 := [(1, .int .u64 (v : Nat)), (5, p 21 0), (9, i 26), (14, i 5), (16, i 1), (19, .int .i64 (x : Nat)), (20, i 0)]) ⟨a2, rfl, a3, rfl, a4, rfl, a5, rfl, a6, rfl, a7, rfl, a8, rfl, trivial⟩ ?_
  (repeat (first | (show W _ _ _ _ _ _ (.code (cond _ _ _) :: _) _ _; first | refine W.ct ?_ | refine W.cf ?_) | (show W _ _ _ _ _ _ (.ins (cond _ _ _ :: _) :: _) _ _; first | refine W.gt ?_ | refine W.gf ?_) | (show W _ _ _ _ _ _ [] _ _; refine W.of (.done ?_)) | (apply W.of; constructor <;> first | (show W _ _ _ _ _ _ _ _ _) | (intro (al : Nat) h st; show W _ _ _ _ _ _ _ _ _) | (intro _ h st; show W _ _ _ _ _ _ _ _ _) | exact Sd)))
  rw [rem256, ← hx, beq_self_eq_true]
  (repeat (first | (show W _ _ _ _ _ _ (.code (cond _ _ _) :: _) _ _; first | refine W.ct ?_ | refine W.cf ?_) | (show W _ _ _ _ _ _ (.ins (cond _ _ _ :: _) :: _) _ _; first | refine W.gt ?_ | refine W.gf ?_) | (show W _ _ _ _ _ _ [] _ _; refine W.of (.done ?_)) | (apply W.of; constructor <;> first | (show W _ _ _ _ _ _ _ _ _) | (intro (al : Nat) h st; show W _ _ _ _ _ _ _ _ _) | (intro _ h st; show W _ _ _ _ _ _ _ _ _) | exact Sd)))
  refine W.cx (hr := runs_ex a9 a10) (w := ?_)
  (repeat (first | (show W _ _ _ _ _ _ (.code (cond _ _ _) :: _) _ _; first | refine W.ct ?_ | refine W.cf ?_) | (show W _ _ _ _ _ _ (.ins (cond _ _ _ :: _) :: _) _ _; first | refine W.gt ?_ | refine W.gf ?_) | (show W _ _ _ _ _ _ [] _ _; refine W.of (.done ?_)) | (apply W.of; constructor <;> first | (show W _ _ _ _ _ _ _ _ _) | (intro (al : Nat) h st; show W _ _ _ _ _ _ _ _ _) | (intro _ h st; show W _ _ _ _ _ _ _ _ _) | exact Sd)))
  refine W.cx (hr := lives_runs) (w := ?_)
  (repeat (first | (show W _ _ _ _ _ _ (.code (cond _ _ _) :: _) _ _; first | refine W.ct ?_ | refine W.cf ?_) | (show W _ _ _ _ _ _ (.ins (cond _ _ _ :: _) :: _) _ _; first | refine W.gt ?_ | refine W.gf ?_) | (show W _ _ _ _ _ _ [] _ _; refine W.of (.done ?_)) | (apply W.of; constructor <;> first | (show W _ _ _ _ _ _ _ _ _) | (intro (al : Nat) h st; show W _ _ _ _ _ _ _ _ _) | (intro _ h st; show W _ _ _ _ _ _ _ _ _) | exact Sd)))
  exact ⟨[.bool true], rfl, rfl⟩
theorem ds_st {m v : Nat} {U : ACode} {Q : AExit → Env → AHeap → Prop} (hm : 1 ≤ m) (hF : cutR (i 28) (HF m) (dsD (.f n_kern_Kernel_Free) [p 21 0] (HL m)) = true) (hS : ∀ x c, x < 256 → seenS x c = willS x c)
    (w : ∀ x, x = v % 256 → W over tab none 151 Q .normal [.code U] [(1, .int .u64 (v : Nat)), (5, p 21 0), (7, p 58 0), (8, .int .i64 (m : Nat)), (9, i 26)] (HS m (DX x))) :
    W over tab none 151 Q .normal [.code (seqL dsP), .code U] [(1, .int .u64 (v : Nat)), (5, p 21 0), (7, p 58 0), (8, .int .i64 (m : Nat)), (9, i 26)] (HL m) := by
  refine W.of (.seq ?_)
  (repeat (first | (show W _ _ _ _ _ _ (.code (cond _ _ _) :: _) _ _; first | refine W.ct ?_ | refine W.cf ?_) | (show W _ _ _ _ _ _ (.ins (cond _ _ _ :: _) :: _) _ _; first | refine W.gt ?_ | refine W.gf ?_) | (show W _ _ _ _ _ _ [] _ _; refine W.of (.done ?_)) | (apply W.of; constructor <;> first | (show W _ _ _ _ _ _ _ _ _) | (intro (al : Nat) h st; show W _ _ _ _ _ _ _ _ _) | (intro _ h st; show W _ _ _ _ _ _ _ _ _) | exact Sd)))
  refine W.cx (hr := runs_cut dsFree dsGood (af := c_kern_Kernel_Free) rfl rfl hF) (w := ?_)
  (repeat (first | (show W _ _ _ _ _ _ (.code (cond _ _ _) :: _) _ _; first | refine W.ct ?_ | refine W.cf ?_) | (show W _ _ _ _ _ _ (.ins (cond _ _ _ :: _) :: _) _ _; first | refine W.gt ?_ | refine W.gf ?_) | (show W _ _ _ _ _ _ [] _ _; refine W.of (.done ?_)) | (apply W.of; constructor <;> first | (show W _ _ _ _ _ _ _ _ _) | (intro (al : Nat) h st; show W _ _ _ _ _ _ _ _ _) | (intro _ h st; show W _ _ _ _ _ _ _ _ _) | exact Sd)))
  rw [rem256]
  obtain ⟨x, hx⟩ : ∃ x, x = v % 256 := ⟨_, rfl⟩
  rw [← hx]
  obtain ⟨c, rfl⟩ : ∃ c, m = c + 1 := ⟨m - 1, by omega⟩
  refine W.cx (hr := runs_store (hS x c (by omega))) (w := ?_)
  (repeat (first | (show W _ _ _ _ _ _ (.code (cond _ _ _) :: _) _ _; first | refine W.ct ?_ | refine W.cf ?_) | (show W _ _ _ _ _ _ (.ins (cond _ _ _ :: _) :: _) _ _; first | refine W.gt ?_ | refine W.gf ?_) | (show W _ _ _ _ _ _ [] _ _; refine W.of (.done ?_)) | (apply W.of; constructor <;> first | (show W _ _ _ _ _ _ _ _ _) | (intro (al : Nat) h st; show W _ _ _ _ _ _ _ _ _) | (intro _ h st; show W _ _ _ _ _ _ _ _ _) | exact Sd)))
  exact W.sub (s' := [(1, .int .u64 (v : Nat)), (5, p 21 0), (7, p 58 0), (8, .int .i64 ((c + 1 : Nat) : Nat)), (9, i 26)]) ⟨rfl, rfl, rfl, rfl, rfl, trivial⟩ (w x hx)
theorem ds_store {m v : Nat} (hm : 1 ≤ m) (hF : cutR (i 28) (HF m) (dsD (.f n_kern_Kernel_Free) [p 21 0] (HL m)) = true) (hS : ∀ x c, x < 256 → seenS x c = willS x c)
    (hT : ∀ x, x < 256 → GoodT m (DX x) v ∧ byteX (DX x) 4096 = 5 ∧ byteY (DX x) 8192 = (x : Nat)) :
    W over tab none 151 (fnQ [.tmp 4] fun v _ => v = .bool true) .normal [.code dsP] [(1, .int .u64 (v : Nat)), (5, p 21 0), (7, p 58 0), (8, .int .i64 (m : Nat)), (9, i 26)] (HL m) := by
  refine W.of (.seq ?_)
  refine ds_st hm hF hS fun x hx => ?_
  obtain ⟨t1, t2, t3⟩ := hT x (by omega)
  exact ds_end hx t1 t2 t3
theorem ds_loop {m v : Nat} {h0 : AHeap} (hm : 1 ≤ m) (hm2 : m < 41) (h1 : Round (runD h0 1 m v) 1 m v) (hr : ∀ y, 1 ≤ y → y < m → Round (runD (HL y) (y + 1) m v) (y + 1) m v)
    (hF : cutR (i 28) (HF m) (dsD (.f n_kern_Kernel_Free) [p 21 0] (HL m)) = true) (hS : ∀ x c, x < 256 → seenS x c = willS x c) (hT : ∀ x, x < 256 → GoodT m (DX x) v ∧ byteX (DX x) 4096 = 5 ∧ byteY (DX x) 8192 = (x : Nat)) :
    W over tab none 151 (fnQ [.tmp 4] fun v _ => v = .bool true) .normal [.code dsL] [(1, .int .u64 (v : Nat)), (5, p 21 0), (7, p 58 0), (8, .int .i64 (m : Nat)), (9, i 26), (10, i (-1))] h0 := by
  refine W.of (.seq ?_)
  refine W.of (.seq ?_)
  (iterate 4 (apply W.of; constructor <;> first | (show W _ _ _ _ _ _ _ _ _) | (intro (al : Nat) h st; show W _ _ _ _ _ _ _ _ _) | (intro _ h st; show W _ _ _ _ _ _ _ _ _) | exact Sd))
  refine W.loopd (σ := Nat) (E := fun y => [(11, .int .i64 (y : Nat)), (10, fv y), (1, .int .u64 (v : Nat)), (5, p 21 0), (7, p 58 0), (8, .int .i64 (m : Nat)), (9, i 26)]) (H := fun y => bif Nat.beq y 1 then h0 else HL (y - 1)) (φ := fun y => 1 ≤ y ∧ y ≤ m + 1) (m := fun y => m + 1 - y) (x0 := 1) (Nat.lt_of_le_of_lt (show m + 1 - 1 ≤ 41 by omega) (by decide)) ⟨rfl, rfl, rfl, rfl, rfl, rfl, rfl, trivial⟩ rfl ⟨by omega, by omega⟩ ?_
  intro y ⟨hy1, hy2⟩
  have hb : ∀ y, 1 ≤ y → Nat.beq (y + 1) 1 = false := fun y hy => by
    cases hb : Nat.beq (y + 1) 1 with
    | false => rfl
    | true =>
      have := Nat.eq_of_beq_eq_true hb
      omega
  by_cases hy : y = m + 1
  · subst hy
    simp only [hb m hm, cond_false]
    (iterate 8 (apply W.of; constructor <;> first | (show W _ _ _ _ _ _ _ _ _) | (intro (al : Nat) h st; show W _ _ _ _ _ _ _ _ _) | (intro _ h st; show W _ _ _ _ _ _ _ _ _) | exact Sd))
    refine W.cf ?_
    (iterate 4 (apply W.of; constructor <;> first | (show W _ _ _ _ _ _ _ _ _) | (intro (al : Nat) h st; show W _ _ _ _ _ _ _ _ _) | (intro _ h st; show W _ _ _ _ _ _ _ _ _) | exact Sd))
    exact W.sub (s' := [(1, .int .u64 (v : Nat)), (5, p 21 0), (7, p 58 0), (8, .int .i64 (m : Nat)), (9, i 26)]) ⟨rfl, rfl, rfl, rfl, rfl, trivial⟩ (ds_store hm hF hS hT)
  · have hR : Round (runD (bif Nat.beq y 1 then h0 else HL (y - 1)) y m v) y m v := by
      by_cases e1 : y = 1
      · subst e1; exact h1
      · obtain ⟨k, rfl⟩ : ∃ k, y = k + 1 := ⟨y - 1, by omega⟩
        rw [hb k (by omega)]
        exact hr k (by omega) (by omega)
    unfold Round at hR
    simp only [Prod.mk.injEq] at hR
    obtain ⟨a1, a2, a3, a4, a5, a6, a7, a8, a9, a10⟩ := hR
    have e10 : fv (y + 1) = i 1 := by rw [fv, hb y hy1]; rfl
    refine W.pre dsGood [.code c_law19_LoanShares_L0] rfl (isN_eq a1) (s1 := [(11, .int .i64 ((y + 1 : Nat) : Nat)), (10, i 1), (1, .int .u64 (v : Nat)), (5, p 21 0), (7, p 58 0), (8, .int .i64 (m : Nat)), (9, i 26)]) ⟨a2, rfl, a3, rfl, a4, rfl, a5, rfl, a6, rfl, a7, rfl, a8, rfl, trivial⟩ ?_
    refine W.of (.lp ?_)
    exact ⟨y + 1, by omega, ⟨by omega, by omega⟩, ⟨rfl, by rw [e10]; rfl, rfl, rfl, rfl, rfl, rfl, trivial⟩, fun _ => by simp only [hb y hy1, cond_false, Nat.add_sub_cancel]; exact less_leT a9 a10⟩
theorem loanShares_w {n v : Nat} (hA : GoodA n v) (hC : ∀ m, GoodC n v m) (h1 : ∀ d, Round (runD (outH (runC n v (d + 1))) 1 (d + 1) v) 1 (d + 1) v) (hr : ∀ y m, 1 ≤ y → y < m → m < 41 → Round (runD (HL y) (y + 1) m v) (y + 1) m v)
    (hF : ∀ m, 1 ≤ m → m < 41 → cutR (i 28) (HF m) (dsD (.f n_kern_Kernel_Free) [p 21 0] (HL m)) = true) (hS : ∀ x c, x < 256 → seenS x c = willS x c) (hT : ∀ m N, 1 ≤ m → m < 41 → GoodT m N v) (hB : ∀ x, x < 256 → byteX (DX x) 4096 = 5 ∧ byteY (DX x) 8192 = (x : Nat)) :
    progI over tab (.f n_law19_LoanShares) [.int .u64 (n : Nat), .int .u64 (v : Nat)] ⟨0, .leaf⟩ fun v _ => v = .bool true := by
  refine call_w rfl rfl ⟨rfl, rfl, trivial⟩ rfl ?_
  refine W.of (.seq ?_)
  (iterate 3 (apply W.of; constructor <;> first | (show W _ _ _ _ _ _ _ _ _) | (intro (al : Nat) h st; show W _ _ _ _ _ _ _ _ _) | (intro _ h st; show W _ _ _ _ _ _ _ _ _) | exact Sd))
  refine W.assoc (W.of (.seq ?_))
  refine W.sub (s' := [(0, .int .u64 (n : Nat)), (1, .int .u64 (v : Nat))]) ⟨rfl, rfl, trivial⟩ ?_
  unfold GoodA at hA
  simp only [Prod.mk.injEq] at hA
  obtain ⟨a1, a2, a3, a4, a5, a6⟩ := hA
  refine W.pre dsGood [.code dsA] rfl (isN_eq a1) (s1 := [(0, .int .u64 (n : Nat)), (1, .int .u64 (v : Nat)), (5, p 21 0), (6, i 0), (7, p 58 0)]) ⟨a2, rfl, a3, rfl, a4, rfl, a5, rfl, a6, rfl, trivial⟩ ?_
  refine W.of (.seq ?_)
  (repeat (first | (show W _ _ _ _ _ _ (.code (cond _ _ _) :: _) _ _; first | refine W.ct ?_ | refine W.cf ?_) | (show W _ _ _ _ _ _ (.ins (cond _ _ _ :: _) :: _) _ _; first | refine W.gt ?_ | refine W.gf ?_) | (show W _ _ _ _ _ _ [] _ _; refine W.of (.done ?_)) | (apply W.of; constructor <;> first | (show W _ _ _ _ _ _ _ _ _) | (intro (al : Nat) h st; show W _ _ _ _ _ _ _ _ _) | (intro _ h st; show W _ _ _ _ _ _ _ _ _) | exact Sd)))
  obtain ⟨r, hr'⟩ : ∃ r : Nat, r = n % 40 := ⟨_, rfl⟩
  have hr10 : r < 40 := by omega
  have e1 : IntKind.i64.wrap ((n : Int).tmod 40) = (r : Int) := by
    rw [show (n : Int).tmod 40 = ((n % 40 : Nat) : Int) from rfl, ← hr', wrap64 (by omega) (by omega)]
  rw [e1]
  clear e1 hr'
  refine W.sub (s' := [(30, .int .i64 (r : Nat)), (1, .int .u64 (v : Nat)), (5, p 21 0), (6, i 0), (7, p 58 0)]) ⟨rfl, rfl, rfl, rfl, rfl, trivial⟩ ?_
  (iterate 3 (apply W.of; constructor <;> first | (show W _ _ _ _ _ _ _ _ _) | (intro (al : Nat) h st; show W _ _ _ _ _ _ _ _ _) | (intro _ h st; show W _ _ _ _ _ _ _ _ _) | exact Sd))
  rw [show (1 : Int) + (r : Int) = ((r + 1 : Nat) : Int) by omega]
  refine W.sub (s' := [(1, .int .u64 (v : Nat)), (5, p 21 0), (6, i 0), (7, p 58 0), (8, .int .i64 ((r + 1 : Nat) : Nat))]) ⟨rfl, rfl, rfl, rfl, rfl, trivial⟩ ?_
  refine W.assoc (W.assoc (W.of (.seq ?_)))
  have hc := hC (r + 1)
  unfold GoodC at hc
  simp only [Prod.mk.injEq] at hc
  obtain ⟨c1, c2, c3, c4, c5, c6, c7⟩ := hc
  refine W.pre dsGood [.code dsC] rfl (isN_eq c1) (s1 := [(1, .int .u64 (v : Nat)), (5, p 21 0), (7, p 58 0), (8, .int .i64 ((r + 1 : Nat) : Nat)), (9, i 26), (10, i (-1))]) ⟨c2, rfl, c3, rfl, c4, rfl, c5, rfl, c6, rfl, c7, rfl, trivial⟩ ?_
  exact ds_loop (by omega) (by omega) (h1 r) (fun y hy1 hy2 => hr y (r + 1) hy1 hy2 (by omega)) (hF (r + 1) (by omega) (by omega)) hS fun x hx => ⟨hT (r + 1) (DX x) (by omega) (by omega), hB x hx⟩
end Go.Proofs.YtlkfclgkinaibaaGreat
