/- BY PROGRAM (wip/tool/shake.py): own texts, one behind the other, without what is not needed. -/
import Derived.Control
import Derived.Calls
import Derived.KernelRfl
import Derived.Laws.Sem
import Derived.Laws.Cells
import Derived.Laws.World
import GoSem.Dispatch
import Derived.Laws.StructEq
import Derived.IntWalk
import Derived.WideKeyRuns
import Derived.Laws.BytesArg
import Derived.Orders
import Derived.ChangeArms
import Derived.OpenShut
import Derived.ChangeShapes
import Derived.ProofKit
import Derived.Test.YtlkfclgkinaibaaGreatProg
import Derived.Test.YtlkfclgkinaibaaGreatZLST5

namespace Go.Proofs.YtlkfclgkinaibaaGreat
abbrev KX := ET → AHeap → XF
noncomputable def natI (i : Int) (K : Nat → XF) : XF := Int.rec (motive := fun _ => (Nat → XF) → XF) (fun m K => K m) (fun _ _ => none) i K
noncomputable def isJ (v : AV) : Bool := AV.rec (motive_1 := fun _ => Bool) (motive_2 := fun _ => Unit) (fun _ => false) (fun _ _ => false) (fun _ => false) (fun _ _ => false) (false) (fun _ _ _ _ => false) (fun _ _ _ _ => false) (false) (false) (fun _ => false) (false) (fun _ _ _ _ _ => false) (fun _ => false) (false) (fun _ _ => false) (fun _ _ => false) (fun _ _ => false) (true) () (fun _ _ _ _ => ()) v
noncomputable def avPtr (v : AV) (K : Nat → Nat → XF) : XF := AV.rec (motive_1 := fun _ => (Nat → Nat → XF) → XF) (motive_2 := fun _ => Unit) (fun _ _ => none) (fun _ _ _ => none) (fun _ _ => none) (fun a0 a1 K => K a0 a1) (fun _ => none) (fun _ _ _ _ _ => none) (fun _ _ _ _ _ => none) (fun _ => none) (fun _ => none) (fun _ _ => none) (fun _ => none) (fun _ _ _ _ _ _ => none) (fun _ _ => none) (fun _ => none) (fun _ _ _ => none) (fun _ _ _ => none) (fun _ _ _ => none) (fun _ => none) () (fun _ _ _ _ => ()) v K
noncomputable def avInt (v : AV) (K : IntKind → Int → XF) : XF := AV.rec (motive_1 := fun _ => (IntKind → Int → XF) → XF) (motive_2 := fun _ => Unit) (fun _ _ => none) (fun a0 a1 K => K a0 a1) (fun _ _ => none) (fun _ _ _ => none) (fun _ => none) (fun _ _ _ _ _ => none) (fun _ _ _ _ _ => none) (fun _ => none) (fun _ => none) (fun _ _ => none) (fun _ => none) (fun _ _ _ _ _ _ => none) (fun _ _ => none) (fun _ => none) (fun _ _ _ => none) (fun _ _ _ => none) (fun _ _ _ => none) (fun _ => none) () (fun _ _ _ _ => ()) v K
noncomputable def avBool (v : AV) (K : Bool → XF) : XF := AV.rec (motive_1 := fun _ => (Bool → XF) → XF) (motive_2 := fun _ => Unit) (fun a0 K => K a0) (fun _ _ _ => none) (fun _ _ => none) (fun _ _ _ => none) (fun _ => none) (fun _ _ _ _ _ => none) (fun _ _ _ _ _ => none) (fun _ => none) (fun _ => none) (fun _ _ => none) (fun _ => none) (fun _ _ _ _ _ _ => none) (fun _ _ => none) (fun _ => none) (fun _ _ _ => none) (fun _ _ _ => none) (fun _ _ _ => none) (fun _ => none) () (fun _ _ _ _ => ()) v K
noncomputable def avTuple (v : AV) (K : List AV → XF) : XF := AV.rec (motive_1 := fun _ => (List AV → XF) → XF) (motive_2 := fun _ => Unit) (fun _ _ => none) (fun _ _ _ => none) (fun _ _ => none) (fun _ _ _ => none) (fun _ => none) (fun _ _ _ _ _ => none) (fun _ _ _ _ _ => none) (fun _ => none) (fun _ => none) (fun _ _ => none) (fun _ => none) (fun _ _ _ _ _ _ => none) (fun _ _ => none) (fun _ => none) (fun _ _ _ => none) (fun _ _ _ => none) (fun a0 _ K => K a0) (fun _ => none) () (fun _ _ _ _ => ()) v K
noncomputable def avLen (v : AV) (K : Nat → XF) : XF := AV.rec (motive_1 := fun _ => (Nat → XF) → XF) (motive_2 := fun _ => Unit) (fun _ _ => none) (fun _ _ _ => none) (fun _ _ => none) (fun _ _ _ => none) (fun _ => none) (fun _ _ a2 _ K => K a2) (fun _ _ _ a3 K => K a3) (fun K => K 0) (fun K => K 0) (fun _ _ => none) (fun _ => none) (fun _ _ _ _ _ _ => none) (fun _ _ => none) (fun _ => none) (fun _ _ _ => none) (fun _ _ _ => none) (fun _ _ _ => none) (fun _ => none) () (fun _ _ _ _ => ()) v K
noncomputable def avNN (v : AV) : Bool := AV.rec (motive_1 := fun _ => Bool) (motive_2 := fun _ => Unit) (fun _ => false) (fun _ _ => false) (fun _ => false) (fun _ _ => true) (false) (fun _ _ _ _ => false) (fun _ _ _ _ => false) (false) (false) (fun _ => false) (false) (fun _ _ _ _ _ => true) (fun _ => false) (false) (fun _ _ => false) (fun _ _ => false) (fun _ _ => false) (false) () (fun _ _ _ _ => ()) v
noncomputable def avWant (v : AV) (b : Bool) (x : XF) (y : XF) : XF := AV.rec (motive_1 := fun _ => Bool → XF → XF → XF) (motive_2 := fun _ => Unit) (fun a0 b x y => sel b (sel a0 x y) (sel a0 y x)) (fun _ _ _ _ _ => none) (fun _ _ _ _ => none) (fun _ _ _ _ _ => none) (fun _ _ _ => none) (fun _ _ _ _ _ _ _ => none) (fun _ _ _ _ _ _ _ => none) (fun _ _ _ => none) (fun _ _ _ => none) (fun _ _ _ _ => none) (fun _ _ _ => none) (fun _ _ _ _ _ _ _ _ => none) (fun _ _ _ _ => none) (fun _ _ _ => none) (fun _ _ _ _ _ => none) (fun _ _ _ _ _ => none) (fun _ _ _ _ y => y) (fun _ _ _ => none) () (fun _ _ _ _ => ()) v b x y
noncomputable def avDat (v : AV) : Dat := AV.rec (motive_1 := fun _ => Dat) (motive_2 := fun _ => Unit) (fun a0 => .vals [.bool a0]) (fun a0 a1 => .vals [.int a0 a1]) (fun a0 => .vals [.str a0]) (fun a0 a1 => .vals [.ptr a0 a1]) (.vals [.nilptr]) (fun a0 a1 a2 a3 => .vals [.sl a0 a1 a2 a3]) (fun a0 a1 a2 a3 => .vals [.ssl a0 a1 a2 a3]) (.vals [.nilsl]) (.vals [.esl]) (fun a0 => .vals [.map a0]) (.vals [.nilmap]) (fun a0 a1 a2 _ _ => .vals [.func a0 a1 a2]) (fun a0 => .vals [.yield a0]) (.vals [.nilfunc]) (fun a0 _ => .vals a0) (fun a0 a1 => .bytes a0 a1) (fun _ _ => .vals []) (.vals []) () (fun _ _ _ _ => ()) v
noncomputable def avIdx (v : AV) (es : Nat) (i : Int) (K : Nat → Nat → XF) : XF := AV.rec (motive_1 := fun _ => Nat → Int → (Nat → Nat → XF) → XF) (motive_2 := fun _ => Unit) (fun _ _ _ _ => none) (fun _ _ _ _ _ => none) (fun _ _ _ _ => none) (fun _ _ _ _ _ => none) (fun _ _ _ => none) (fun a0 a1 a2 _ es i K => natI i fun i => sel (Nat.blt i a2) (K a0 (Nat.add a1 (Nat.mul i es))) none) (fun a0 a1 a2 a3 es i K => natI i fun i => sel (Nat.blt i a3) (sel (Nat.beq a2 es) (K a0 (Nat.mul (Nat.add a1 i) es)) none) none) (fun _ _ _ => none) (fun _ _ _ => none) (fun _ _ _ _ => none) (fun _ _ _ => none) (fun _ _ _ _ _ _ _ _ => none) (fun _ _ _ _ => none) (fun _ _ _ => none) (fun _ _ _ _ _ => none) (fun _ _ _ _ _ => none) (fun _ _ _ _ _ => none) (fun _ _ _ => none) () (fun _ _ _ _ => ()) v es i K
noncomputable def dBool (v : AV) (K : Bool → Bool) : Bool := AV.rec (motive_1 := fun _ => (Bool → Bool) → Bool) (motive_2 := fun _ => Unit) (fun a0 K => K a0) (fun _ _ _ => false) (fun _ _ => false) (fun _ _ _ => false) (fun _ => false) (fun _ _ _ _ _ => false) (fun _ _ _ _ _ => false) (fun _ => false) (fun _ => false) (fun _ _ => false) (fun _ => false) (fun _ _ _ _ _ _ => false) (fun _ _ => false) (fun _ => false) (fun _ _ _ => false) (fun _ _ _ => false) (fun _ _ _ => false) (fun _ => false) () (fun _ _ _ _ => ()) v K
noncomputable def dInt (v : AV) (K : IntKind → Int → Bool) : Bool := AV.rec (motive_1 := fun _ => (IntKind → Int → Bool) → Bool) (motive_2 := fun _ => Unit) (fun _ _ => false) (fun a0 a1 K => K a0 a1) (fun _ _ => false) (fun _ _ _ => false) (fun _ => false) (fun _ _ _ _ _ => false) (fun _ _ _ _ _ => false) (fun _ => false) (fun _ => false) (fun _ _ => false) (fun _ => false) (fun _ _ _ _ _ _ => false) (fun _ _ => false) (fun _ => false) (fun _ _ _ => false) (fun _ _ _ => false) (fun _ _ _ => false) (fun _ => false) () (fun _ _ _ _ => ()) v K
noncomputable def dPtr (v : AV) (K : Nat → Nat → Bool) : Bool := AV.rec (motive_1 := fun _ => (Nat → Nat → Bool) → Bool) (motive_2 := fun _ => Unit) (fun _ _ => false) (fun _ _ _ => false) (fun _ _ => false) (fun a0 a1 K => K a0 a1) (fun _ => false) (fun _ _ _ _ _ => false) (fun _ _ _ _ _ => false) (fun _ => false) (fun _ => false) (fun _ _ => false) (fun _ => false) (fun _ _ _ _ _ _ => false) (fun _ _ => false) (fun _ => false) (fun _ _ _ => false) (fun _ _ _ => false) (fun _ _ _ => false) (fun _ => false) () (fun _ _ _ _ => ()) v K
noncomputable def dSl (v : AV) (K : Nat → Nat → Nat → Nat → Bool) : Bool := AV.rec (motive_1 := fun _ => (Nat → Nat → Nat → Nat → Bool) → Bool) (motive_2 := fun _ => Unit) (fun _ _ => false) (fun _ _ _ => false) (fun _ _ => false) (fun _ _ _ => false) (fun _ => false) (fun a0 a1 a2 a3 K => K a0 a1 a2 a3) (fun _ _ _ _ _ => false) (fun _ => false) (fun _ => false) (fun _ _ => false) (fun _ => false) (fun _ _ _ _ _ _ => false) (fun _ _ => false) (fun _ => false) (fun _ _ _ => false) (fun _ _ _ => false) (fun _ _ _ => false) (fun _ => false) () (fun _ _ _ _ => ()) v K
noncomputable def dSsl (v : AV) (K : Nat → Nat → Nat → Nat → Bool) : Bool := AV.rec (motive_1 := fun _ => (Nat → Nat → Nat → Nat → Bool) → Bool) (motive_2 := fun _ => Unit) (fun _ _ => false) (fun _ _ _ => false) (fun _ _ => false) (fun _ _ _ => false) (fun _ => false) (fun _ _ _ _ _ => false) (fun a0 a1 a2 a3 K => K a0 a1 a2 a3) (fun _ => false) (fun _ => false) (fun _ _ => false) (fun _ => false) (fun _ _ _ _ _ _ => false) (fun _ _ => false) (fun _ => false) (fun _ _ _ => false) (fun _ _ _ => false) (fun _ _ _ => false) (fun _ => false) () (fun _ _ _ _ => ()) v K
noncomputable def dMap (v : AV) (K : Nat → Bool) : Bool := AV.rec (motive_1 := fun _ => (Nat → Bool) → Bool) (motive_2 := fun _ => Unit) (fun _ _ => false) (fun _ _ _ => false) (fun _ _ => false) (fun _ _ _ => false) (fun _ => false) (fun _ _ _ _ _ => false) (fun _ _ _ _ _ => false) (fun _ => false) (fun _ => false) (fun a0 K => K a0) (fun _ => false) (fun _ _ _ _ _ _ => false) (fun _ _ => false) (fun _ => false) (fun _ _ _ => false) (fun _ _ _ => false) (fun _ _ _ => false) (fun _ => false) () (fun _ _ _ _ => ()) v K
noncomputable def dYield (v : AV) (K : Nat → Bool) : Bool := AV.rec (motive_1 := fun _ => (Nat → Bool) → Bool) (motive_2 := fun _ => Unit) (fun _ _ => false) (fun _ _ _ => false) (fun _ _ => false) (fun _ _ _ => false) (fun _ => false) (fun _ _ _ _ _ => false) (fun _ _ _ _ _ => false) (fun _ => false) (fun _ => false) (fun _ _ => false) (fun _ => false) (fun _ _ _ _ _ _ => false) (fun a0 K => K a0) (fun _ => false) (fun _ _ _ => false) (fun _ _ _ => false) (fun _ _ _ => false) (fun _ => false) () (fun _ _ _ _ => ()) v K
noncomputable def dAgg (v : AV) (K : List AV → Bool) : Bool := AV.rec (motive_1 := fun _ => (List AV → Bool) → Bool) (motive_2 := fun _ => Unit) (fun _ _ => false) (fun _ _ _ => false) (fun _ _ => false) (fun _ _ _ => false) (fun _ => false) (fun _ _ _ _ _ => false) (fun _ _ _ _ _ => false) (fun _ => false) (fun _ => false) (fun _ _ => false) (fun _ => false) (fun _ _ _ _ _ _ => false) (fun _ _ => false) (fun _ => false) (fun a0 _ K => K a0) (fun _ _ _ => false) (fun _ _ _ => false) (fun _ => false) () (fun _ _ _ _ => ()) v K
noncomputable def dTuple (v : AV) (K : List AV → Bool) : Bool := AV.rec (motive_1 := fun _ => (List AV → Bool) → Bool) (motive_2 := fun _ => Unit) (fun _ _ => false) (fun _ _ _ => false) (fun _ _ => false) (fun _ _ _ => false) (fun _ => false) (fun _ _ _ _ _ => false) (fun _ _ _ _ _ => false) (fun _ => false) (fun _ => false) (fun _ _ => false) (fun _ => false) (fun _ _ _ _ _ _ => false) (fun _ _ => false) (fun _ => false) (fun _ _ _ => false) (fun _ _ _ => false) (fun a0 _ K => K a0) (fun _ => false) () (fun _ _ _ _ => ()) v K
noncomputable def d_nilptr (v : AV) : Bool := AV.rec (motive_1 := fun _ => Bool) (motive_2 := fun _ => Unit) (fun _ => false) (fun _ _ => false) (fun _ => false) (fun _ _ => false) (true) (fun _ _ _ _ => false) (fun _ _ _ _ => false) (false) (false) (fun _ => false) (false) (fun _ _ _ _ _ => false) (fun _ => false) (false) (fun _ _ => false) (fun _ _ => false) (fun _ _ => false) (false) () (fun _ _ _ _ => ()) v
noncomputable def d_nilsl (v : AV) : Bool := AV.rec (motive_1 := fun _ => Bool) (motive_2 := fun _ => Unit) (fun _ => false) (fun _ _ => false) (fun _ => false) (fun _ _ => false) (false) (fun _ _ _ _ => false) (fun _ _ _ _ => false) (true) (false) (fun _ => false) (false) (fun _ _ _ _ _ => false) (fun _ => false) (false) (fun _ _ => false) (fun _ _ => false) (fun _ _ => false) (false) () (fun _ _ _ _ => ()) v
noncomputable def d_esl (v : AV) : Bool := AV.rec (motive_1 := fun _ => Bool) (motive_2 := fun _ => Unit) (fun _ => false) (fun _ _ => false) (fun _ => false) (fun _ _ => false) (false) (fun _ _ _ _ => false) (fun _ _ _ _ => false) (false) (true) (fun _ => false) (false) (fun _ _ _ _ _ => false) (fun _ => false) (false) (fun _ _ => false) (fun _ _ => false) (fun _ _ => false) (false) () (fun _ _ _ _ => ()) v
noncomputable def d_nilmap (v : AV) : Bool := AV.rec (motive_1 := fun _ => Bool) (motive_2 := fun _ => Unit) (fun _ => false) (fun _ _ => false) (fun _ => false) (fun _ _ => false) (false) (fun _ _ _ _ => false) (fun _ _ _ _ => false) (false) (false) (fun _ => false) (true) (fun _ _ _ _ _ => false) (fun _ => false) (false) (fun _ _ => false) (fun _ _ => false) (fun _ _ => false) (false) () (fun _ _ _ _ => ()) v
noncomputable def d_nilfunc (v : AV) : Bool := AV.rec (motive_1 := fun _ => Bool) (motive_2 := fun _ => Unit) (fun _ => false) (fun _ _ => false) (fun _ => false) (fun _ _ => false) (false) (fun _ _ _ _ => false) (fun _ _ _ _ => false) (false) (false) (fun _ => false) (false) (fun _ _ _ _ _ => false) (fun _ => false) (true) (fun _ _ => false) (fun _ _ => false) (fun _ _ => false) (false) () (fun _ _ _ _ => ()) v
noncomputable def sameK (v : AV) : AV → Bool := AV.rec (motive_1 := fun _ => AV → Bool) (motive_2 := fun _ => List AV → Bool) (fun a w => dBool w fun b => sel a b (Bool.not b)) (fun k a w => dInt w fun k' b => sel (Nat.beq (kindNo k) (kindNo k')) (eqK a b) false) (fun _ _ => false) (fun a b w => dPtr w fun c d => sel (Nat.beq a c) (Nat.beq b d) false) d_nilptr (fun a b c d w => dSl w fun a' b' c' d' => sel (Nat.beq a a') (sel (Nat.beq b b') (sel (Nat.beq c c') (Nat.beq d d') false) false) false) (fun a b c d w => dSsl w fun a' b' c' d' => sel (Nat.beq a a') (sel (Nat.beq b b') (sel (Nat.beq c c') (Nat.beq d d') false) false) false) d_nilsl d_esl (fun a w => dMap w fun b => Nat.beq a b) d_nilmap (fun _ _ _ _ _ _ => false) (fun a w => dYield w fun b => Nat.beq a b) d_nilfunc (fun _ ih w => dAgg w ih) (fun _ _ _ => false) (fun _ ih w => dTuple w ih) (fun _ => false) (fun l => List.rec (motive := fun _ => Bool) true (fun _ _ _ => false) l) (fun _ _ i1 i2 l => List.rec (motive := fun _ => Bool) false (fun b bs _ => sel (i1 b) (i2 bs) false) l) v
noncomputable def sameLK (l : List AV) : List AV → Bool := AV.rec_1 (motive_1 := fun _ => AV → Bool) (motive_2 := fun _ => List AV → Bool) (fun a w => dBool w fun b => sel a b (Bool.not b)) (fun k a w => dInt w fun k' b => sel (Nat.beq (kindNo k) (kindNo k')) (eqK a b) false) (fun _ _ => false) (fun a b w => dPtr w fun c d => sel (Nat.beq a c) (Nat.beq b d) false) d_nilptr (fun a b c d w => dSl w fun a' b' c' d' => sel (Nat.beq a a') (sel (Nat.beq b b') (sel (Nat.beq c c') (Nat.beq d d') false) false) false) (fun a b c d w => dSsl w fun a' b' c' d' => sel (Nat.beq a a') (sel (Nat.beq b b') (sel (Nat.beq c c') (Nat.beq d d') false) false) false) d_nilsl d_esl (fun a w => dMap w fun b => Nat.beq a b) d_nilmap (fun _ _ _ _ _ _ => false) (fun a w => dYield w fun b => Nat.beq a b) d_nilfunc (fun _ ih w => dAgg w ih) (fun _ _ _ => false) (fun _ ih w => dTuple w ih) (fun _ => false) (fun l => List.rec (motive := fun _ => Bool) true (fun _ _ _ => false) l) (fun _ _ i1 i2 l => List.rec (motive := fun _ => Bool) false (fun b bs _ => sel (i1 b) (i2 bs) false) l) l
theorem noneX {α : Type} {r : α} {p : Prop} (h : (none : Option α) = some r) : p := nomatch h
theorem natI_ok {i : Int} {K : Nat → XF} {r : AExit × ET × AHeap} (h : natI i K = some r) : ∃ m : Nat, i = (m : Int) ∧ K m = some r := by
  cases i with
  | ofNat m => exact ⟨m, rfl, h⟩
  | negSucc m => exact noneX h
theorem selB {b x : Bool} (h : sel b x false = true) : b = true ∧ x = true := by
  cases b with
  | true => exact ⟨rfl, h⟩
  | false => cases h
theorem natB {a b : Nat} (h : Nat.beq a b = true) : (a == b) = true := by simpa using Nat.eq_of_beq_eq_true h
theorem falseB {p : Prop} (h : false = true) : p := nomatch h
mutual
theorem sameK_ok : ∀ (a b : AV), sameK a b = true → AV.same a b = true
  | .bool a, w, h => by
    cases w with
    | bool b => revert h; cases a <;> cases b <;> exact fun h => h
    | _ => exact falseB h
  | .int k a, w, h => by
    cases w with
    | int k' b =>
      obtain ⟨h1, h2⟩ := selB (show sel (Nat.beq (kindNo k) (kindNo k')) (eqK a b) false = true from h)
      rw [kindNo_eq] at h1
      rw [eqK_eq] at h2
      simp only [AV.same, h1, h2, Bool.and_self]
    | _ => exact falseB h
  | .ptr a b, w, h => by
    cases w with
    | ptr c d =>
      obtain ⟨h1, h2⟩ := selB (show sel (Nat.beq a c) (Nat.beq b d) false = true from h)
      simp only [AV.same, natB h1, natB h2, Bool.and_self]
    | _ => exact falseB h
  | .nilptr, w, h => by
    cases w with
    | nilptr => rfl
    | _ => exact falseB h
  | .sl a b c d, w, h => by
    cases w with
    | sl a' b' c' d' =>
      obtain ⟨h1, h2⟩ := selB (show sel (Nat.beq a a') (sel (Nat.beq b b') (sel (Nat.beq c c') (Nat.beq d d') false) false) false = true from h)
      obtain ⟨h2, h3⟩ := selB h2
      obtain ⟨h3, h4⟩ := selB h3
      simp only [AV.same, natB h1, natB h2, natB h3, natB h4, Bool.and_self]
    | _ => exact falseB h
  | .ssl a b c d, w, h => by
    cases w with
    | ssl a' b' c' d' =>
      obtain ⟨h1, h2⟩ := selB (show sel (Nat.beq a a') (sel (Nat.beq b b') (sel (Nat.beq c c') (Nat.beq d d') false) false) false = true from h)
      obtain ⟨h2, h3⟩ := selB h2
      obtain ⟨h3, h4⟩ := selB h3
      simp only [AV.same, natB h1, natB h2, natB h3, natB h4, Bool.and_self]
    | _ => exact falseB h
  | .nilsl, w, h => by
    cases w with
    | nilsl => rfl
    | _ => exact falseB h
  | .esl, w, h => by
    cases w with
    | esl => rfl
    | _ => exact falseB h
  | .map a, w, h => by
    cases w with
    | map b => simp only [AV.same, natB (show Nat.beq a b = true from h)]
    | _ => exact falseB h
  | .nilmap, w, h => by
    cases w with
    | nilmap => rfl
    | _ => exact falseB h
  | .yield a, w, h => by
    cases w with
    | yield b => simp only [AV.same, natB (show Nat.beq a b = true from h)]
    | _ => exact falseB h
  | .nilfunc, w, h => by
    cases w with
    | nilfunc => rfl
    | _ => exact falseB h
  | .agg a, w, h => by
    cases w with
    | agg b => simp only [AV.same, sameLK_ok a b h]
    | _ => exact falseB h
  | .tuple a, w, h => by
    cases w with
    | tuple b => simp only [AV.same, sameLK_ok a b h]
    | _ => exact falseB h
  | .str _, w, h => falseB h
  | .func _ _ _, w, h => falseB h
  | .bytes _ _, w, h => falseB h
  | .junk, w, h => falseB h
theorem sameLK_ok : ∀ (a b : List AV), sameLK a b = true → AV.sameL a b = true
  | [], l, h => by
    cases l with
    | nil => rfl
    | cons => exact falseB h
  | a :: us, l, h => by
    cases l with
    | nil => exact falseB h
    | cons b bs =>
      obtain ⟨h1, h2⟩ := selB (show sel (sameK a b) (sameLK us bs) false = true from h)
      simp only [AV.sameL, sameK_ok a b h1, sameLK_ok us bs h2, Bool.and_self]
end
section
variable {v : AV} {r : AExit × ET × AHeap}
theorem isJ_ok (h : isJ v = false) : v.notJunk = some v := by
  cases v with
  | junk => cases h
  | _ => rfl
theorem avPtr_ok {K : Nat → Nat → XF} (h : avPtr v K = some r) : ∃ a b, v = .ptr a b ∧ K a b = some r := by
  cases v with
  | ptr a b => exact ⟨a, b, rfl, h⟩
  | _ => exact noneX h
theorem avInt_ok {K : IntKind → Int → XF} (h : avInt v K = some r) : ∃ a b, v = .int a b ∧ K a b = some r := by
  cases v with
  | int a b => exact ⟨a, b, rfl, h⟩
  | _ => exact noneX h
theorem avBool_ok {K : Bool → XF} (h : avBool v K = some r) : ∃ a, v = .bool a ∧ K a = some r := by
  cases v with
  | bool a => exact ⟨a, rfl, h⟩
  | _ => exact noneX h
theorem avTuple_ok {K : List AV → XF} (h : avTuple v K = some r) : ∃ a, v = .tuple a ∧ K a = some r := by
  cases v with
  | tuple a => exact ⟨a, rfl, h⟩
  | _ => exact noneX h
theorem avLen_ok {K : Nat → XF} (h : avLen v K = some r) : ∃ n, sliceLen v = some n ∧ K n = some r := by
  cases v with
  | nilsl => exact ⟨0, rfl, h⟩
  | esl => exact ⟨0, rfl, h⟩
  | sl a b c d => exact ⟨c, rfl, h⟩
  | ssl a b c d => exact ⟨d, rfl, h⟩
  | _ => exact noneX h
theorem avNN_ok (h : avNN v = true) : (∃ a b, v = .ptr a b) ∨ ∃ a b c, v = .func a b c := by
  cases v with
  | ptr a b => exact .inl ⟨a, b, rfl⟩
  | func a b c => exact .inr ⟨a, b, c, rfl⟩
  | _ => cases h
theorem avDat_eq : ∀ v : AV, avDat v = v.dat := by
  intro v
  cases v <;> rfl
theorem avIdx_ok {es : Nat} {i : Int} {K : Nat → Nat → XF} (h : avIdx v es i K = some r) : ∃ a b, (∀ h : AHeap, ∀ k, aop (.indexs es) [v, .int k i] h = some (.ptr a b, h)) ∧ K a b = some r := by
  cases v with
  | sl id off len cap =>
    obtain ⟨m, e, h2⟩ := natI_ok (K := fun i => sel (Nat.blt i len) (K id (Nat.add off (Nat.mul i es))) none) h
    subst e
    rw [sel_eq, bltD] at h2
    split at h2
    · rename_i hm
      have hm := of_decide_eq_true hm
      refine ⟨_, _, fun h k => ?_, h2⟩
      simp only [aop]
      rw [if_pos ⟨by omega, by omega⟩]
      rfl
    · exact noneX h2
  | ssl id idx es' len =>
    obtain ⟨m, e, h2⟩ := natI_ok (K := fun i => sel (Nat.blt i len) (sel (Nat.beq es' es) (K id (Nat.mul (Nat.add idx i) es)) none) none) h
    subst e
    rw [sel_eq, bltD] at h2
    split at h2
    · rename_i hm
      have hm := of_decide_eq_true hm
      rw [sel_eq, beqD] at h2
      split at h2
      · rename_i he
        have he := of_decide_eq_true he
        refine ⟨_, _, fun h k => ?_, h2⟩
        simp only [aop]
        rw [if_pos ⟨by omega, by omega, he⟩]
        rfl
      · exact noneX h2
    · exact noneX h2
  | _ => exact noneX h
end
abbrev Rdr := ET → (AV → XF) → XF
noncomputable def rdT (p : Pth) (E : ET) (K : AV → XF) : XF := sel (isJ (getP p E)) none (K (getP p E))
def rdL (v : AV) (_ : ET) (K : AV → XF) : XF := K v
structure IsRd (o : Opd) (ra : Rdr) : Prop where
  ok : ∀ {E : ET} {K : AV → XF} {r : AExit × ET × AHeap}, ra E K = some r → ∃ v, opdF E o = some v ∧ K v = some r
theorem rdT_ok {t : Nat} : IsRd (.tmp t) (rdT (pth t)) := ⟨fun {E K r} h => by
  unfold rdT at h
  rw [sel_eq] at h
  split at h
  · exact noneX h
  · rename_i hj
    exact ⟨E.get t, isJ_ok (Bool.eq_false_iff.2 hj), h⟩⟩
theorem rdL_ok {v : AV} : IsRd (.lit v) (rdL v) := ⟨fun h => ⟨v, rfl, h⟩⟩
inductive CB where
  | mk (f : DSem → ET → AHeap → KX → XF)
noncomputable def CB.run (b : CB) : DSem → ET → AHeap → KX → XF := CB.rec (motive := fun _ => DSem → ET → AHeap → KX → XF) (fun f => f) b
noncomputable def optX {α : Type} (o : Option α) (K : α → XF) : XF := Option.rec (motive := fun _ => (α → XF) → XF) (fun _ => none) (fun a K => K a) o K
theorem optX_ok {α : Type} {o : Option α} {K : α → XF} {r : AExit × ET × AHeap} (h : optX o K = some r) : ∃ a, o = some a ∧ K a = some r := by
  cases o with
  | none => exact noneX h
  | some a => exact ⟨a, rfl, h⟩
noncomputable def prX (o : Option (AV × AHeap)) (K : AHeap → AV → XF) : XF := Option.rec (motive := fun _ => (AHeap → AV → XF) → XF) (fun _ => none) (fun a => Prod.rec (motive := fun _ => (AHeap → AV → XF) → XF) (fun v h K => K h v) a) o K
theorem prX_ok {o : Option (AV × AHeap)} {K : AHeap → AV → XF} {r : AExit × ET × AHeap} (h : prX o K = some r) : ∃ v h1, o = some (v, h1) ∧ K h1 v = some r := by
  cases o with
  | none => exact noneX h
  | some a => exact ⟨a.1, a.2, rfl, h⟩
noncomputable def obRow (o : AObj) (K : Dat → XF) : XF := AObj.rec (motive := fun _ => (Dat → XF) → XF) (fun _ _ _ _ d K => K d) (fun _ _ _ => none) (fun _ _ _ _ _ => none) (fun _ _ _ _ _ _ _ => none) o K
theorem obRow_ok {o : AObj} {K : Dat → XF} {r : AExit × ET × AHeap} (h : obRow o K = some r) : ∃ e es s ro d, o = .row e es s ro d ∧ K d = some r := by
  cases o with
  | row e es s ro d => exact ⟨e, es, s, ro, d, rfl, h⟩
  | _ => exact noneX h
noncomputable def obRowW (o : AObj) (K : Nat → Nat → Bool → Dat → XF) : XF := AObj.rec (motive := fun _ => (Nat → Nat → Bool → Dat → XF) → XF) (fun e es s ro d K => sel ro none (K e es s d)) (fun _ _ _ => none) (fun _ _ _ _ _ => none) (fun _ _ _ _ _ _ _ => none) o K
theorem obRowW_ok {o : AObj} {K : Nat → Nat → Bool → Dat → XF} {r : AExit × ET × AHeap} (h : obRowW o K = some r) : ∃ e es s d, o = .row e es s false d ∧ K e es s d = some r := by
  cases o with
  | row e es s ro d =>
    cases ro with
    | true => exact noneX h
    | false => exact ⟨e, es, s, d, rfl, h⟩
  | _ => exact noneX h
noncomputable def goS (pd : Pth) (nxt : CB) (D : DSem) (E : ET) (k : KX) (h : AHeap) (v : AV) : XF := nxt.run D (putP pd v E) h k
noncomputable def lenK (l : List AV) : Nat := List.rec (motive := fun _ => Nat) 0 (fun _ _ n => Nat.succ n) l
theorem lenK_eq : ∀ l : List AV, lenK l = l.length
  | [] => rfl
  | _ :: l => congrArg Nat.succ (lenK_eq l)
noncomputable def Dat.lenK (d : Dat) : Nat := Dat.rec (motive := fun _ => Nat) Go.Proofs.YtlkfclgkinaibaaGreat.lenK (fun l _ => l) d
theorem Dat.lenK_eq {d : Dat} : d.lenK = d.len := by
  cases d with
  | vals l => exact Go.Proofs.YtlkfclgkinaibaaGreat.lenK_eq l
  | bytes l n => rfl
noncomputable def addK (a b : Int) : Int := Int.rec (motive := fun _ => Int → Int) (fun m b => Int.rec (motive := fun _ => Nat → Int) (fun n m => Int.ofNat (Nat.add m n)) (fun n m => Int.add (Int.ofNat m) (Int.negSucc n)) b m) (fun m b => Int.add (Int.negSucc m) b) a b
theorem addK_eq {a b : Int} : addK a b = Int.add a b := by
  cases a <;> cases b <;> rfl
noncomputable def subK (a b : Int) : Int := Int.rec (motive := fun _ => Int → Int) (fun m b => Int.rec (motive := fun _ => Nat → Int) (fun n m => sel (Nat.ble n m) (Int.ofNat (Nat.sub m n)) (Int.sub (Int.ofNat m) (Int.ofNat n))) (fun n m => Int.sub (Int.ofNat m) (Int.negSucc n)) b m) (fun m b => Int.sub (Int.negSucc m) b) a b
theorem subK_eq {a b : Int} : subK a b = Int.sub a b := by
  cases a with
  | negSucc m => cases b <;> rfl
  | ofNat m =>
    cases b with
    | negSucc n => rfl
    | ofNat n =>
      show sel (Nat.ble n m) (Int.ofNat (m - n)) (Int.sub (Int.ofNat m) (Int.ofNat n)) = _
      rw [sel_eq, bleD]
      split
      · rename_i h
        have h := of_decide_eq_true h
        show ((m - n : Nat) : Int) = (m : Int) - (n : Int)
        omega
      · rfl
abbrev BF := IntKind → Int → IntKind → Int → (AV → XF) → XF
noncomputable def kEq (k k' : IntKind) (x : XF) : XF := sel (Nat.beq (kindNo k) (kindNo k')) x none
noncomputable def bAdd : BF := fun k a k' b K => kEq k k' (K (.int k (wrapK k (addK a b))))
noncomputable def bSub : BF := fun k a k' b K => kEq k k' (K (.int k (wrapK k (subK a b))))
noncomputable def bEql : BF := fun k a k' b K => kEq k k' (K (.bool (eqK a b)))
noncomputable def bNeq : BF := fun k a k' b K => kEq k k' (K (.bool (Bool.not (eqK a b))))
noncomputable def bLss : BF := fun k a k' b K => kEq k k' (K (.bool (ltK a b)))
noncomputable def bLeq : BF := fun k a k' b K => kEq k k' (K (.bool (leK a b)))
noncomputable def bGtr : BF := fun k a k' b K => kEq k k' (K (.bool (ltK b a)))
noncomputable def bGeq : BF := fun k a k' b K => kEq k k' (K (.bool (leK b a)))
noncomputable def bGen (op : BinOp) : BF := fun k a k' b K => optX (binInt op k a k' b) K
structure IsB (op : BinOp) (f : BF) : Prop where
  ok : ∀ {k a k' b K} {r : AExit × ET × AHeap}, f k a k' b K = some r → ∃ v, binInt op k a k' b = some v ∧ K v = some r
theorem kEq_ok {k k' : IntKind} {x : XF} {r : AExit × ET × AHeap} (h : kEq k k' x = some r) : k = k' ∧ x = some r := by
  unfold kEq at h
  rw [sel_eq, kindNo_eq] at h
  split at h
  · rename_i e; exact ⟨of_decide_eq_true e, h⟩
  · exact noneX h
theorem bAdd_ok : IsB .add bAdd := ⟨fun h => by obtain ⟨rfl, h2⟩ := kEq_ok h; exact ⟨_, by simp only [binInt, ne_eq, not_true_eq_false, if_false, ← wrapK_eq]; rw [show (_ + _ : Int) = _ from addK_eq.symm], h2⟩⟩
theorem bSub_ok : IsB .sub bSub := ⟨fun h => by obtain ⟨rfl, h2⟩ := kEq_ok h; exact ⟨_, by simp only [binInt, ne_eq, not_true_eq_false, if_false, ← wrapK_eq]; rw [show (_ - _ : Int) = _ from subK_eq.symm], h2⟩⟩
theorem bEql_ok : IsB .eql bEql := ⟨fun h => by obtain ⟨rfl, h2⟩ := kEq_ok h; exact ⟨_, by simp only [binInt, ne_eq, not_true_eq_false, if_false, eqK_eq], h2⟩⟩
theorem bNeq_ok : IsB .neq bNeq := ⟨fun h => by obtain ⟨rfl, h2⟩ := kEq_ok h; exact ⟨_, by simp only [binInt, ne_eq, not_true_eq_false, if_false, eqK_eq]; rfl, h2⟩⟩
theorem bLss_ok : IsB .lss bLss := ⟨fun h => by obtain ⟨rfl, h2⟩ := kEq_ok h; exact ⟨_, by simp only [binInt, ne_eq, not_true_eq_false, if_false, ltK_eq], h2⟩⟩
theorem bLeq_ok : IsB .leq bLeq := ⟨fun h => by obtain ⟨rfl, h2⟩ := kEq_ok h; exact ⟨_, by simp only [binInt, ne_eq, not_true_eq_false, if_false, leK_eq], h2⟩⟩
theorem bGtr_ok : IsB .gtr bGtr := ⟨fun h => by obtain ⟨rfl, h2⟩ := kEq_ok h; exact ⟨_, by simp only [binInt, ne_eq, not_true_eq_false, if_false, ltK_eq], h2⟩⟩
theorem bGeq_ok : IsB .geq bGeq := ⟨fun h => by obtain ⟨rfl, h2⟩ := kEq_ok h; exact ⟨_, by simp only [binInt, ne_eq, not_true_eq_false, if_false, leK_eq], h2⟩⟩
theorem bGen_ok {op : BinOp} : IsB op (bGen op) := ⟨fun h => optX_ok h⟩
structure Rl (N : Nat) (ex : Bool) (E : ET) (e : List AV) : Prop where
  good : Good N E
  len : e.length = N
  cov : ∀ t v, (E.get t).notJunk = some v → e[t]? = some v
  eq : ex = true → e = toL E N
theorem notJunk_of {v w : AV} (h : v.notJunk = some w) : v = w ∧ w.notJunk = some w := by
  cases v with
  | junk => cases h
  | _ => cases h; exact ⟨rfl, rfl⟩
section
variable {N : Nat} {ex : Bool}
theorem Rl.exact {E : ET} (g : Good N E) : Rl N ex E (toL E N) := by
  refine ⟨g, toL_length, fun t v h => ?_, fun _ => rfl⟩
  rw [toL_get]
  split
  · rw [(notJunk_of h).1]
  · rename_i ht
    rw [g.out t (by omega)] at h
    cases h
theorem Rl.put {E : ET} {e : List AV} {d : Nat} {v : AV} (g : Rl N ex E e) (hd : d < N) : Rl N ex (E.put d v) (e.set d v) := by
  obtain ⟨D, h1, h2⟩ := g.good.full
  obtain ⟨g1, g2⟩ := g.good.put (v := v) hd
  refine ⟨g1, by rw [List.length_set]; exact g.len, fun t w h => ?_, fun e => by rw [g2, ← g.eq e]⟩
  rw [ET.get_put h1 (by omega)] at h
  rw [List.getElem?_set]
  split at h
  · rename_i ht
    subst ht
    obtain ⟨rfl, _⟩ := notJunk_of h
    rw [if_pos rfl, if_pos (by rw [g.len]; exact hd)]
  · rename_i ht
    rw [if_neg (fun q => ht q.symm)]
    exact g.cov t w h
theorem Rl.opd {E : ET} {e : List AV} (g : Rl N ex E e) {o : Opd} {v : AV} (h : opdF E o = some v) : o.eval e = some v := by
  cases o with
  | tmp t =>
    have h : (E.get t).notJunk = some v := h
    show (e[t]?).bind AV.notJunk = some v
    rw [g.cov t v h]
    exact (notJunk_of h).2
  | lit v => exact h
theorem Rl.opds {E : ET} {e : List AV} (g : Rl N ex E e) : ∀ {l : List Opd} {vs : List AV}, evalLF E l = some vs → evalL e l = some vs
  | [], _, h => h
  | o :: l, vs, h => by
    have h : consV (opdF E o) (evalLF E l) = some vs := h
    cases h1 : opdF E o with
    | none => rw [h1] at h; cases h
    | some v =>
      cases h2 : evalLF E l with
      | none => rw [h1, h2] at h; cases h
      | some w =>
        rw [h1, h2] at h
        cases h
        simp only [evalL, g.opd h1, g.opds h2]
theorem Rl.want {E : ET} {e : List AV} (g : Rl N ex E e) {w : Option (Nat × Bool)} {b : Bool} (h : wantF E w = some b) : wantedA e w = some b := by
  cases w with
  | none => exact h
  | some p =>
    obtain ⟨s, q⟩ := p
    have h : boolV (E.get s) (fun b => some (b == q)) = some b := h
    simp only [wantedA]
    cases hv : E.get s with
    | bool c => rw [g.cov s (.bool c) (by rw [hv]; rfl)]; rw [hv] at h; exact h
    | tuple l => rw [g.cov s (.tuple l) (by rw [hv]; rfl)]; rw [hv] at h; exact h
    | _ => rw [hv] at h; cases h
def StepOk (N : Nat) (ex : Bool) (b : CB) (i : AIn) (nxt : CB) : Prop := ∀ (D : DSem) (E : ET) (e : List AV) (h : AHeap) (k : KX) (r : AExit × ET × AHeap), Rl N ex E e → b.run D E h k = some r →
  ∃ E1 e1 h1, Rl N ex E1 e1 ∧ runInD D i e h = some (e1, h1) ∧ nxt.run D E1 h1 k = some r
theorem ev1 {E : ET} {a : Opd} {v : AV} (h : opdF E a = some v) : evalLF E [a] = some [v] := by
  show consV (opdF E a) (some []) = _
  rw [h]; rfl
theorem ev2 {E : ET} {a b : Opd} {v w : AV} (h : opdF E a = some v) (h' : opdF E b = some w) : evalLF E [a, b] = some [v, w] := by
  show consV (opdF E a) (consV (opdF E b) (some [])) = _
  rw [h, h']; rfl
theorem ev3 {E : ET} {a b c : Opd} {v w x : AV} (h : opdF E a = some v) (h' : opdF E b = some w) (h'' : opdF E c = some x) : evalLF E [a, b, c] = some [v, w, x] := by
  show consV (opdF E a) (consV (opdF E b) (consV (opdF E c) (some []))) = _
  rw [h, h', h'']; rfl
theorem step_of {D : DSem} {E : ET} {e : List AV} {h h1 : AHeap} {k : KX} {r : AExit × ET × AHeap} {nxt : CB} {d : Nat} {op : AOp} {args : List Opd} {vs : List AV} {v : AV} (g : Rl N ex E e) (hd : d < N) (he : evalLF E args = some vs) (ho : doOpD D op vs h = some (v, h1)) (x : goS (pth d) nxt D E k h1 v = some r) :
    ∃ E1 e1 h1, Rl N ex E1 e1 ∧ runInD D ⟨some d, op, args, none⟩ e h = some (e1, h1) ∧ nxt.run D E1 h1 k = some r := by
  refine ⟨E.put d v, e.set d v, h1, g.put hd, ?_, x⟩
  simp only [runInD, wantedA, g.opds he, ho, setDst]
theorem step_of0 {D : DSem} {E : ET} {e : List AV} {h h1 : AHeap} {k : KX} {r : AExit × ET × AHeap} {nxt : CB} {op : AOp} {args : List Opd} {vs : List AV} {v : AV} (g : Rl N ex E e) (he : evalLF E args = some vs) (ho : doOpD D op vs h = some (v, h1)) (x : nxt.run D E h1 k = some r) :
    ∃ E1 e1 h1, Rl N ex E1 e1 ∧ runInD D ⟨none, op, args, none⟩ e h = some (e1, h1) ∧ nxt.run D E1 h1 k = some r := by
  refine ⟨E, e, h1, g, ?_, x⟩
  simp only [runInD, wantedA, g.opds he, ho, setDst]
theorem hget {h : AHeap} {id : Nat} {o : AObj} (x : AHeap.getK h id = some o) : h.get id = some o := by rw [AHeap.getK_eq] at x; exact x
section ops
variable {d : Nat} {a b c : Opd} {ra rb rc : Rdr} {nxt : CB}
noncomputable def sMv (pd : Pth) (ra : Rdr) (nxt : CB) (D : DSem) (E : ET) (h : AHeap) (k : KX) : XF := ra E (goS pd nxt D E k h)
theorem sMv_ok (hd : d < N) (ha : IsRd a ra) : StepOk N ex (.mk (sMv (pth d) ra nxt)) ⟨some d, .mv, [a], none⟩ nxt := fun D E e h k r g x => by
  obtain ⟨v, hv, x⟩ := ha.ok (show ra E (goS (pth d) nxt D E k h) = some r from x)
  exact step_of g hd (ev1 hv) rfl x
noncomputable def sPick (pd : Pth) (rc ra rb : Rdr) (nxt : CB) (D : DSem) (E : ET) (h : AHeap) (k : KX) : XF := rc E fun c => avBool c fun q => ra E fun x => rb E fun y => goS pd nxt D E k h (sel q x y)
theorem sPick_ok (hd : d < N) (hc : IsRd c rc) (ha : IsRd a ra) (hb : IsRd b rb) : StepOk N ex (.mk (sPick (pth d) rc ra rb nxt)) ⟨some d, .pick, [c, a, b], none⟩ nxt := fun D E e h k r g x => by
  obtain ⟨v, hv, x⟩ := hc.ok (show rc E _ = some r from x)
  obtain ⟨q, rfl, x⟩ := avBool_ok x
  obtain ⟨v, hv1, x⟩ := ha.ok x
  obtain ⟨w, hv2, x⟩ := hb.ok x
  rw [sel_eq] at x
  exact step_of g hd (ev3 hv hv1 hv2) rfl x
noncomputable def sAlloc (elem es : Nat) (z : Dat) (pd : Pth) (nxt : CB) (D : DSem) (E : ET) (h : AHeap) (k : KX) : XF := goS pd nxt D E k (AHeap.newK h (.row elem es false false z)) (.ptr (AHeap.next h) 0)
theorem sAlloc_ok {elem es : Nat} {z : Dat} (hd : d < N) (hz : z.len = es) (h0 : 0 < es) : StepOk N ex (.mk (sAlloc elem es z (pth d) nxt)) ⟨some d, .alloc elem es z, [], none⟩ nxt := fun D E e h k r g x => by
  have x : goS (pth d) nxt D E k (AHeap.newK h (.row elem es false false z)) (.ptr h.next 0) = some r := x
  rw [AHeap.newK_eq] at x
  refine step_of g hd (vs := []) rfl ?_ x
  simp only [doOpD, aop, newRow']
  rw [if_pos hz, if_pos h0]; rfl
noncomputable def sBox (elem es : Nat) (pd : Pth) (ra : Rdr) (nxt : CB) (D : DSem) (E : ET) (h : AHeap) (k : KX) : XF := ra E fun v => sel (Nat.beq (Dat.lenK (avDat v)) es) (goS pd nxt D E k (AHeap.newK h (.row elem es false false (avDat v))) (.ptr (AHeap.next h) 0)) none
theorem sBox_ok {elem es : Nat} (hd : d < N) (ha : IsRd a ra) (h0 : 0 < es) : StepOk N ex (.mk (sBox elem es (pth d) ra nxt)) ⟨some d, .box elem es, [a], none⟩ nxt := fun D E e h k r g x => by
  obtain ⟨v, hv, x⟩ := ha.ok (show ra E _ = some r from x)
  rw [sel_eq, beqD] at x
  split at x
  · rename_i hl
    have hl := of_decide_eq_true hl
    rw [Dat.lenK_eq, avDat_eq] at hl
    rw [AHeap.newK_eq, avDat_eq] at x
    refine step_of g hd (ev1 hv) ?_ x
    simp only [doOpD, aop, newRow']
    rw [if_pos ⟨hl, h0⟩, if_pos h0]; rfl
  · exact noneX x
noncomputable def sLoad1 (pd : Pth) (ra : Rdr) (nxt : CB) (D : DSem) (E : ET) (h : AHeap) (k : KX) : XF := ra E fun v => avPtr v fun id off => optX (AHeap.getK h id) fun o => obRow o fun t => optX (Dat.getK t off) (goS pd nxt D E k h)
theorem sLoad1_ok (hd : d < N) (ha : IsRd a ra) : StepOk N ex (.mk (sLoad1 (pth d) ra nxt)) ⟨some d, .load1, [a], none⟩ nxt := fun D E e h k r g x => by
  obtain ⟨v, hv, x⟩ := ha.ok (show ra E _ = some r from x)
  obtain ⟨id, off, rfl, x⟩ := avPtr_ok x
  obtain ⟨o, ho, x⟩ := optX_ok x
  obtain ⟨e, es, s, ro, t, rfl, x⟩ := obRow_ok x
  obtain ⟨y, hy, x⟩ := optX_ok x
  rw [Dat.getK_eq] at hy
  refine step_of g hd (ev1 hv) ?_ x
  simp only [doOpD, aop, hget ho, hy]; rfl
noncomputable def sLoadn (n : Nat) (pd : Pth) (ra : Rdr) (nxt : CB) (D : DSem) (E : ET) (h : AHeap) (k : KX) : XF := ra E fun v => avPtr v fun id off => optX (AHeap.getK h id) fun o => obRow o fun t => optX (Dat.subK t off n) (goS pd nxt D E k h)
theorem sLoadn_ok {n : Nat} (hd : d < N) (ha : IsRd a ra) : StepOk N ex (.mk (sLoadn n (pth d) ra nxt)) ⟨some d, .loadn n, [a], none⟩ nxt := fun D E e h k r g x => by
  obtain ⟨v, hv, x⟩ := ha.ok (show ra E _ = some r from x)
  obtain ⟨id, off, rfl, x⟩ := avPtr_ok x
  obtain ⟨o, ho, x⟩ := optX_ok x
  obtain ⟨e, es, s, ro, t, rfl, x⟩ := obRow_ok x
  obtain ⟨y, hy, x⟩ := optX_ok x
  rw [Dat.subK_eq] at hy
  refine step_of g hd (ev1 hv) ?_ x
  simp only [doOpD, aop, hget ho, hy]; rfl
noncomputable def sStore (n : Nat) (ra rb : Rdr) (nxt : CB) (D : DSem) (E : ET) (h : AHeap) (k : KX) : XF := ra E fun v => avPtr v fun id off => rb E fun w => optX (AHeap.getK h id) fun o => obRowW o fun e es s t => sel (Nat.beq (Dat.lenK (avDat w)) n) (optX (Dat.putK t off (avDat w)) fun t' => nxt.run D E (AHeap.putK h id (.row e es s false t')) k) none
theorem sStore_ok {n : Nat} (ha : IsRd a ra) (hb : IsRd b rb) (h0 : 0 < n) : StepOk N ex (.mk (sStore n ra rb nxt)) ⟨none, .store n, [a, b], none⟩ nxt := fun D E e h k r g x => by
  obtain ⟨v, hv, x⟩ := ha.ok (show ra E _ = some r from x)
  obtain ⟨id, off, rfl, x⟩ := avPtr_ok x
  obtain ⟨w, hw, x⟩ := hb.ok x
  obtain ⟨o, ho, x3⟩ := optX_ok x
  obtain ⟨e0, es0, s0, t, eo, x4⟩ := obRowW_ok x3
  subst eo
  rw [sel_eq, beqD] at x4
  split at x4
  · rename_i hl
    have hl := of_decide_eq_true hl
    rw [Dat.lenK_eq, avDat_eq] at hl
    obtain ⟨t', ht, x5⟩ := optX_ok x4
    rw [Dat.putK_eq, avDat_eq] at ht
    rw [AHeap.putK_eq] at x5
    refine step_of0 g (ev2 hv hw) (v := .tuple []) ?_ x5
    simp only [doOpD, aop, hget ho]
    rw [if_pos ⟨hl, h0⟩, ht]; rfl
  · exact noneX x4
noncomputable def sNil (pd : Pth) (ra : Rdr) (nxt : CB) (D : DSem) (E : ET) (h : AHeap) (k : KX) : XF := ra E fun v => sel (avNN v) (goS pd nxt D E k h v) none
theorem sNil_ok (hd : d < N) (ha : IsRd a ra) : StepOk N ex (.mk (sNil (pth d) ra nxt)) ⟨some d, .nilCheck, [a], none⟩ nxt := fun D E e h k r g x => by
  obtain ⟨v, hv, x⟩ := ha.ok (show ra E _ = some r from x)
  rw [sel_eq] at x
  split at x
  · rename_i hn
    rcases avNN_ok hn with ⟨p, q, rfl⟩ | ⟨p, q, s, rfl⟩
    · exact step_of g hd (ev1 hv) rfl x
    · exact step_of g hd (ev1 hv) rfl x
  · exact noneX x
noncomputable def sNil0 (ra : Rdr) (nxt : CB) (D : DSem) (E : ET) (h : AHeap) (k : KX) : XF := ra E fun v => sel (avNN v) (nxt.run D E h k) none
theorem sNil0_ok (ha : IsRd a ra) : StepOk N ex (.mk (sNil0 ra nxt)) ⟨none, .nilCheck, [a], none⟩ nxt := fun D E e h k r g x => by
  obtain ⟨v, hv, x⟩ := ha.ok (show ra E _ = some r from x)
  rw [sel_eq] at x
  split at x
  · rename_i hn
    rcases avNN_ok hn with ⟨p, q, rfl⟩ | ⟨p, q, s, rfl⟩
    · exact step_of0 g (ev1 hv) rfl x
    · exact step_of0 g (ev1 hv) rfl x
  · exact noneX x
noncomputable def sBin (f : BF) (pd : Pth) (ra rb : Rdr) (nxt : CB) (D : DSem) (E : ET) (h : AHeap) (k : KX) : XF := ra E fun v => avInt v fun ka x => rb E fun w => avInt w fun kb y => f ka x kb y (goS pd nxt D E k h)
theorem sBin_ok {op : BinOp} {f : BF} (hd : d < N) (hf : IsB op f) (ha : IsRd a ra) (hb : IsRd b rb) : StepOk N ex (.mk (sBin f (pth d) ra rb nxt)) ⟨some d, .bin op, [a, b], none⟩ nxt := fun D E e h k r g x => by
  obtain ⟨v, hv, x⟩ := ha.ok (show ra E _ = some r from x)
  obtain ⟨ka, p, rfl, x⟩ := avInt_ok x
  obtain ⟨w, hw, x⟩ := hb.ok x
  obtain ⟨kb, q, rfl, x⟩ := avInt_ok x
  obtain ⟨y, hy, x⟩ := hf.ok x
  refine step_of g hd (ev2 hv hw) ?_ x
  simp only [doOpD, aop, hy]; rfl
noncomputable def sEqv (neg : Bool) (q : EqK) (pd : Pth) (ra rb : Rdr) (nxt : CB) (D : DSem) (E : ET) (h : AHeap) (k : KX) : XF := ra E fun v => rb E fun w => optX (avEq q v w) fun y => goS pd nxt D E k h (.bool (sel neg (Bool.not y) y))
theorem sEqv_ok {neg : Bool} {q : EqK} (hd : d < N) (ha : IsRd a ra) (hb : IsRd b rb) : StepOk N ex (.mk (sEqv neg q (pth d) ra rb nxt)) ⟨some d, .eqv neg q, [a, b], none⟩ nxt := fun D E e h k r g x => by
  obtain ⟨v, hv, x⟩ := ha.ok (show ra E _ = some r from x)
  obtain ⟨w, hw, x⟩ := hb.ok x
  obtain ⟨y, hy, x⟩ := optX_ok x
  rw [sel_eq] at x
  refine step_of g hd (ev2 hv hw) ?_ x
  simp only [doOpD, aop, hy]; rfl
noncomputable def sNot (pd : Pth) (ra : Rdr) (nxt : CB) (D : DSem) (E : ET) (h : AHeap) (k : KX) : XF := ra E fun v => avBool v fun q => goS pd nxt D E k h (.bool (Bool.not q))
theorem sNot_ok (hd : d < N) (ha : IsRd a ra) : StepOk N ex (.mk (sNot (pth d) ra nxt)) ⟨some d, .un .not, [a], none⟩ nxt := fun D E e h k r g x => by
  obtain ⟨v, hv, x⟩ := ha.ok (show ra E _ = some r from x)
  obtain ⟨q, rfl, x⟩ := avBool_ok x
  exact step_of g hd (ev1 hv) rfl x
noncomputable def sConv (ki : IntKind) (pd : Pth) (ra : Rdr) (nxt : CB) (D : DSem) (E : ET) (h : AHeap) (k : KX) : XF := ra E fun v => avInt v fun _ n => goS pd nxt D E k h (.int ki (wrapK ki n))
theorem sConv_ok {ki : IntKind} (hd : d < N) (ha : IsRd a ra) : StepOk N ex (.mk (sConv ki (pth d) ra nxt)) ⟨some d, .conv ki, [a], none⟩ nxt := fun D E e h k r g x => by
  obtain ⟨v, hv, x⟩ := ha.ok (show ra E _ = some r from x)
  obtain ⟨ka, p, rfl, x⟩ := avInt_ok x
  rw [wrapK_eq] at x
  exact step_of g hd (ev1 hv) rfl x
noncomputable def sFieldAddr (o : Nat) (pd : Pth) (ra : Rdr) (nxt : CB) (D : DSem) (E : ET) (h : AHeap) (k : KX) : XF := ra E fun v => avPtr v fun id off => goS pd nxt D E k h (.ptr id (Nat.add off o))
theorem sFieldAddr_ok {o : Nat} (hd : d < N) (ha : IsRd a ra) : StepOk N ex (.mk (sFieldAddr o (pth d) ra nxt)) ⟨some d, .fieldAddr o, [a], none⟩ nxt := fun D E e h k r g x => by
  obtain ⟨v, hv, x⟩ := ha.ok (show ra E _ = some r from x)
  obtain ⟨id, off, rfl, x⟩ := avPtr_ok x
  exact step_of g hd (ev1 hv) rfl x
noncomputable def sIndexs (es : Nat) (pd : Pth) (ra rb : Rdr) (nxt : CB) (D : DSem) (E : ET) (h : AHeap) (k : KX) : XF := ra E fun v => rb E fun w => avInt w fun _ i => avIdx v es i fun id off => goS pd nxt D E k h (.ptr id off)
theorem sIndexs_ok {es : Nat} (hd : d < N) (ha : IsRd a ra) (hb : IsRd b rb) : StepOk N ex (.mk (sIndexs es (pth d) ra rb nxt)) ⟨some d, .indexs es, [a, b], none⟩ nxt := fun D E e h k r g x => by
  obtain ⟨v, hv, x⟩ := ha.ok (show ra E _ = some r from x)
  obtain ⟨w, hw, x⟩ := hb.ok x
  obtain ⟨kb, i, rfl, x⟩ := avInt_ok x
  obtain ⟨id, off, hx, x⟩ := avIdx_ok x
  exact step_of g hd (ev2 hv hw) (hx h kb) x
noncomputable def sExtract (i : Nat) (pd : Pth) (ra : Rdr) (nxt : CB) (D : DSem) (E : ET) (h : AHeap) (k : KX) : XF := ra E fun v => avTuple v fun vs => optX (nthK vs i) (goS pd nxt D E k h)
theorem sExtract_ok {i : Nat} (hd : d < N) (ha : IsRd a ra) : StepOk N ex (.mk (sExtract i (pth d) ra nxt)) ⟨some d, .extract i, [a], none⟩ nxt := fun D E e h k r g x => by
  obtain ⟨v, hv, x⟩ := ha.ok (show ra E _ = some r from x)
  obtain ⟨vs, rfl, x⟩ := avTuple_ok x
  obtain ⟨y, hy, x⟩ := optX_ok x
  rw [nthK_eq] at hy
  refine step_of g hd (ev1 hv) ?_ x
  simp only [doOpD, aop, hy]; rfl
noncomputable def sLens (pd : Pth) (ra : Rdr) (nxt : CB) (D : DSem) (E : ET) (h : AHeap) (k : KX) : XF := ra E fun v => avLen v fun n => goS pd nxt D E k h (.int .i64 (Int.ofNat n))
theorem sLens_ok (hd : d < N) (ha : IsRd a ra) : StepOk N ex (.mk (sLens (pth d) ra nxt)) ⟨some d, .lens, [a], none⟩ nxt := fun D E e h k r g x => by
  obtain ⟨v, hv, x⟩ := ha.ok (show ra E _ = some r from x)
  obtain ⟨n, hn, x⟩ := avLen_ok x
  refine step_of g hd (ev1 hv) ?_ x
  simp only [doOpD, aop, hn]; rfl
noncomputable def rdsX (l : List Rdr) : ET → (List AV → XF) → XF := List.rec (motive := fun _ => ET → (List AV → XF) → XF) (fun _ K => K []) (fun ra _ ih E K => ra E fun v => ih E fun vs => K (v :: vs)) l
inductive AreRd : List Opd → List Rdr → Prop where
  | nil : AreRd [] []
  | cons {o : Opd} {ra : Rdr} {os : List Opd} {rs : List Rdr} : IsRd o ra → AreRd os rs → AreRd (o :: os) (ra :: rs)
theorem rdsX_ok {os : List Opd} {rs : List Rdr} (hr : AreRd os rs) : ∀ {E : ET} {K : List AV → XF} {r : AExit × ET × AHeap}, rdsX rs E K = some r → ∃ vs, evalLF E os = some vs ∧ K vs = some r := by
  induction hr with
  | nil => exact fun h => ⟨[], rfl, h⟩
  | cons ha _ ih =>
    intro E K r h
    obtain ⟨v, hv, h⟩ := ha.ok (show _ = some r from h)
    obtain ⟨vs, hvs, h⟩ := ih h
    refine ⟨v :: vs, ?_, h⟩
    show consV _ (evalLF E _) = _
    rw [hv, hvs]; rfl
noncomputable def sCall (f : Nat) (pd : Pth) (rs : List Rdr) (nxt : CB) (D : DSem) (E : ET) (h : AHeap) (k : KX) : XF := rdsX rs E fun vs => prX (D (.f f) vs h) (goS pd nxt D E k)
theorem sCall_ok {f : Nat} {os : List Opd} {rs : List Rdr} (hd : d < N) (hr : AreRd os rs) : StepOk N ex (.mk (sCall f (pth d) rs nxt)) ⟨some d, .callv, .lit (.func f [] []) :: os, none⟩ nxt := fun D E e h k r g x => by
  obtain ⟨vs, hvs, x⟩ := rdsX_ok hr (show rdsX rs E _ = some r from x)
  obtain ⟨v, h1, hc, x⟩ := prX_ok x
  refine step_of g hd (vs := .func f [] [] :: vs) (by show consV (some _) (evalLF E os) = _; rw [hvs]; rfl) ?_ x
  simp only [doOpD, List.nil_append, List.append_nil, hc]
noncomputable def sCall0 (f : Nat) (rs : List Rdr) (nxt : CB) (D : DSem) (E : ET) (h : AHeap) (k : KX) : XF := rdsX rs E fun vs => prX (D (.f f) vs h) fun h1 _ => nxt.run D E h1 k
theorem sCall0_ok {f : Nat} {os : List Opd} {rs : List Rdr} (hr : AreRd os rs) : StepOk N ex (.mk (sCall0 f rs nxt)) ⟨none, .callv, .lit (.func f [] []) :: os, none⟩ nxt := fun D E e h k r g x => by
  obtain ⟨vs, hvs, x⟩ := rdsX_ok hr (show rdsX rs E _ = some r from x)
  obtain ⟨v, h1, hc, x⟩ := prX_ok x
  refine step_of0 g (vs := .func f [] [] :: vs) (v := v) (by show consV (some _) (evalLF E os) = _; rw [hvs]; rfl) ?_ x
  simp only [doOpD, List.nil_append, List.append_nil, hc]
theorem setF_rl {dst : Option Nat} {E E1 : ET} {e : List AV} {v : AV} {h h1 : AHeap} (g : Rl N ex E e) (x : setF N dst E v h = some (E1, h1)) : Rl N ex E1 (setDst e dst v) ∧ h1 = h := by
  cases dst with
  | none => cases x; exact ⟨g, rfl⟩
  | some d =>
    change sel (Nat.blt d N) (some (E.put d v, h)) none = _ at x
    rw [sel_eq] at x
    split at x
    · rename_i hd
      cases x
      exact ⟨g.put (blt_of hd), rfl⟩
    · cases x
theorem runOpF_rl {D : DSem} {dst : Option Nat} {op : AOp} {args : List Opd} {E E1 : ET} {e : List AV} {h h1 : AHeap} (g : Rl N ex E e) (x : runOpF D N dst op args E h = some (E1, h1)) : ∃ e1, Rl N ex E1 e1 ∧ runInD D ⟨dst, op, args, none⟩ e h = some (e1, h1) := by
  unfold runOpF at x
  cases he : evalLF E args with
  | none => rw [he] at x; cases x
  | some vs =>
    rw [he] at x
    change finF N dst E (doOpF D op vs h) = _ at x
    rw [doOpF_eq] at x
    cases hd : doOpD D op vs h with
    | none => rw [hd] at x; cases x
    | some p =>
      obtain ⟨v, h2⟩ := p
      rw [hd] at x
      obtain ⟨g1, rfl⟩ := setF_rl g (show setF N dst E v h2 = _ from x)
      refine ⟨_, g1, ?_⟩
      simp only [runInD, wantedA, g.opds he, hd]
theorem runInF_rl {D : DSem} {i : AIn} {E E1 : ET} {e : List AV} {h h1 : AHeap} (g : Rl N ex E e) (x : runInF D N i E h = some (E1, h1)) : ∃ e1, Rl N ex E1 e1 ∧ runInD D i e h = some (e1, h1) := by
  obtain ⟨dst, op, args, w⟩ := i
  cases w with
  | none => exact runOpF_rl g x
  | some p =>
    change guardF D N dst op args E h (wantF E (some p)) = _ at x
    cases hw : wantF E (some p) with
    | none => rw [hw] at x; cases x
    | some b =>
      rw [hw] at x
      have hw := g.want hw
      cases b with
      | true =>
        obtain ⟨e1, g1, g2⟩ := runOpF_rl g x
        refine ⟨e1, g1, ?_⟩
        simp only [runInD, hw]
        simpa only [runInD, wantedA] using g2
      | false =>
        obtain ⟨g1, rfl⟩ := setF_rl g x
        exact ⟨_, g1, by simp only [runInD, hw]⟩
noncomputable def sGen (N : Nat) (i : AIn) (nxt : CB) (D : DSem) (E : ET) (h : AHeap) (k : KX) : XF := bindEH (runInF D N i E h) fun E h => nxt.run D E h k
theorem sGen_ok {i : AIn} : StepOk N ex (.mk (sGen N i nxt)) i nxt := fun D E e h k r g x => by
  have x : bindEH (runInF D N i E h) (fun E h => nxt.run D E h k) = some r := x
  cases hi : runInF D N i E h with
  | none => rw [hi] at x; exact noneX x
  | some p =>
    obtain ⟨E1, h1⟩ := p
    rw [hi] at x
    obtain ⟨e1, g1, g2⟩ := runInF_rl g hi
    exact ⟨E1, e1, h1, g1, g2, x⟩
noncomputable def sGuard (ps : Pth) (w : Bool) (t e : CB) (D : DSem) (E : ET) (h : AHeap) (k : KX) : XF := avWant (getP ps E) w (t.run D E h k) (e.run D E h k)
noncomputable def sSkip (pd : Pth) (nxt : CB) (D : DSem) (E : ET) (h : AHeap) (k : KX) : XF := goS pd nxt D E k h (.tuple [])
theorem sGuard_ok {dst : Option Nat} {op : AOp} {args : List Opd} {s : Nat} {w : Bool} {t e : CB} (ht : StepOk N ex t ⟨dst, op, args, none⟩ nxt)
    (he : ∀ (D : DSem) (E : ET) (l : List AV) (h : AHeap) (k : KX) (r : AExit × ET × AHeap), Rl N ex E l → e.run D E h k = some r → ∃ E1, Rl N ex E1 (setDst l dst (.tuple [])) ∧ nxt.run D E1 h k = some r) :
    StepOk N ex (.mk (sGuard (pth s) w t e)) ⟨dst, op, args, some (s, w)⟩ nxt := fun D E l h k r g x => by
  have x : avWant (E.get s) w (t.run D E h k) (e.run D E h k) = some r := x
  have yes : wantF E (some (s, w)) = some true → t.run D E h k = some r → ∃ E1 e1 h1, Rl N ex E1 e1 ∧ runInD D ⟨dst, op, args, some (s, w)⟩ l h = some (e1, h1) ∧ nxt.run D E1 h1 k = some r := fun a y => by
    obtain ⟨E1, e1, h1, g1, g2, g3⟩ := ht D E l h k r g y
    refine ⟨E1, e1, h1, g1, ?_, g3⟩
    have hw := g.want a
    unfold runInD at g2 ⊢
    rw [hw]
    simpa only [wantedA] using g2
  have no : wantF E (some (s, w)) = some false → e.run D E h k = some r → ∃ E1 e1 h1, Rl N ex E1 e1 ∧ runInD D ⟨dst, op, args, some (s, w)⟩ l h = some (e1, h1) ∧ nxt.run D E1 h1 k = some r := fun a y => by
    obtain ⟨E1, g1, g3⟩ := he D E l h k r g y
    refine ⟨E1, _, h, g1, ?_, g3⟩
    simp only [runInD, g.want a]
  cases hv : E.get s with
  | bool q =>
    rw [hv] at x
    have e1 : wantF E (some (s, w)) = some (q == w) := by
      show boolV (E.get s) _ = _
      rw [hv]; rfl
    rw [e1] at yes no
    cases q <;> cases w
    · exact yes rfl x
    · exact no rfl x
    · exact no rfl x
    · exact yes rfl x
  | tuple l =>
    rw [hv] at x
    have e1 : wantF E (some (s, w)) = some false := by
      show boolV (E.get s) _ = _
      rw [hv]; rfl
    rw [e1] at no
    exact no rfl x
  | _ => rw [hv] at x; exact noneX x
noncomputable def withRd (o : Opd) (f : Rdr → CB) : CB := Opd.rec (motive := fun _ => CB) (fun t => f (rdT (pth t))) (fun v => f (rdL v)) o
theorem withRd_ok {P : CB → Prop} {o : Opd} {f : Rdr → CB} (h : ∀ ra, IsRd o ra → P (f ra)) : P (withRd o f) := by
  cases o with
  | tmp t => exact h _ rdT_ok
  | lit v => exact h _ rdL_ok
noncomputable def rdOf (o : Opd) : Rdr := Opd.rec (motive := fun _ => Rdr) (fun t => rdT (pth t)) (fun v => rdL v) o
theorem rdOf_ok {o : Opd} : IsRd o (rdOf o) := by
  cases o with
  | tmp t => exact rdT_ok
  | lit v => exact rdL_ok
noncomputable def rdsOf (l : List Opd) : List Rdr := List.rec (motive := fun _ => List Rdr) [] (fun o _ ih => rdOf o :: ih) l
theorem rdsOf_ok : ∀ {l : List Opd}, AreRd l (rdsOf l)
  | [] => .nil
  | _ :: _ => .cons rdOf_ok rdsOf_ok
noncomputable def on1 (l : List Opd) (f : Rdr → CB) (g : CB) : CB := match l with
  | [a] => withRd a f
  | _ => g
noncomputable def on2 (l : List Opd) (f : Rdr → Rdr → CB) (g : CB) : CB := match l with
  | [a, b] => withRd a fun ra => withRd b fun rb => f ra rb
  | _ => g
noncomputable def on3 (l : List Opd) (f : Rdr → Rdr → Rdr → CB) (g : CB) : CB := match l with
  | [a, b, c] => withRd a fun ra => withRd b fun rb => withRd c fun rc => f ra rb rc
  | _ => g
noncomputable def binB (op : BinOp) (f : BF → CB) : CB := match op with
  | .add => f bAdd
  | .sub => f bSub
  | .eql => f bEql
  | .neq => f bNeq
  | .lss => f bLss
  | .leq => f bLeq
  | .gtr => f bGtr
  | .geq => f bGeq
  | op => f (bGen op)
theorem binB_ok {P : CB → Prop} {op : BinOp} {f : BF → CB} (h : ∀ g, IsB op g → P (f g)) : P (binB op f) := by
  unfold binB
  split
  · exact h _ bAdd_ok
  · exact h _ bSub_ok
  · exact h _ bEql_ok
  · exact h _ bNeq_ok
  · exact h _ bLss_ok
  · exact h _ bLeq_ok
  · exact h _ bGtr_ok
  · exact h _ bGeq_ok
  · exact h _ bGen_ok
noncomputable def opB (pd : Pth) (op : AOp) (l : List Opd) (nxt gen : CB) : CB := match op with
  | .mv => on1 l (fun a => .mk (sMv pd a nxt)) gen
  | .pick => on3 l (fun c a b => .mk (sPick pd c a b nxt)) gen
  | .alloc e es z => match l with
    | [] => sel (Nat.beq z.len es) (sel (Nat.blt 0 es) (.mk (sAlloc e es z pd nxt)) gen) gen
    | _ => gen
  | .box e es => on1 l (fun a => sel (Nat.blt 0 es) (.mk (sBox e es pd a nxt)) gen) gen
  | .load1 => on1 l (fun a => .mk (sLoad1 pd a nxt)) gen
  | .loadn n => on1 l (fun a => .mk (sLoadn n pd a nxt)) gen
  | .nilCheck => on1 l (fun a => .mk (sNil pd a nxt)) gen
  | .bin op => on2 l (fun a b => binB op fun f => .mk (sBin f pd a b nxt)) gen
  | .eqv neg q => on2 l (fun a b => .mk (sEqv neg q pd a b nxt)) gen
  | .un u => match u with
    | .not => on1 l (fun a => .mk (sNot pd a nxt)) gen
    | _ => gen
  | .conv k => on1 l (fun a => .mk (sConv k pd a nxt)) gen
  | .fieldAddr o => on1 l (fun a => .mk (sFieldAddr o pd a nxt)) gen
  | .indexs es => on2 l (fun a b => .mk (sIndexs es pd a b nxt)) gen
  | .extract i => on1 l (fun a => .mk (sExtract i pd a nxt)) gen
  | .lens => on1 l (fun a => .mk (sLens pd a nxt)) gen
  | .callv => match l with
    | .lit (.func f [] []) :: os => .mk (sCall f pd (rdsOf os) nxt)
    | _ => gen
  | _ => gen
theorem on1_ok {d : Option Nat} {op : AOp} {l : List Opd} {f : Rdr → CB} {gen : CB} (h : ∀ a ra, l = [a] → IsRd a ra → StepOk N ex (f ra) ⟨d, op, [a], none⟩ nxt) (hg : StepOk N ex gen ⟨d, op, l, none⟩ nxt) : StepOk N ex (on1 l f gen) ⟨d, op, l, none⟩ nxt := by
  unfold on1
  split
  · exact withRd_ok (P := fun c => StepOk N ex c _ _) fun ra hr => h _ ra rfl hr
  · exact hg
theorem on2_ok {d : Option Nat} {op : AOp} {l : List Opd} {f : Rdr → Rdr → CB} {gen : CB} (h : ∀ a ra b rb, l = [a, b] → IsRd a ra → IsRd b rb → StepOk N ex (f ra rb) ⟨d, op, [a, b], none⟩ nxt) (hg : StepOk N ex gen ⟨d, op, l, none⟩ nxt) : StepOk N ex (on2 l f gen) ⟨d, op, l, none⟩ nxt := by
  unfold on2
  split
  · exact withRd_ok (P := fun c => StepOk N ex c _ _) fun ra hr => withRd_ok (P := fun c => StepOk N ex c _ _) fun rb hr' => h _ ra _ rb rfl hr hr'
  · exact hg
theorem on3_ok {d : Option Nat} {op : AOp} {l : List Opd} {f : Rdr → Rdr → Rdr → CB} {gen : CB} (h : ∀ a ra b rb c rc, IsRd a ra → IsRd b rb → IsRd c rc → StepOk N ex (f ra rb rc) ⟨d, op, [a, b, c], none⟩ nxt) (hg : StepOk N ex gen ⟨d, op, l, none⟩ nxt) : StepOk N ex (on3 l f gen) ⟨d, op, l, none⟩ nxt := by
  unfold on3
  split
  · exact withRd_ok (P := fun c => StepOk N ex c _ _) fun ra hr => withRd_ok (P := fun c => StepOk N ex c _ _) fun rb hr' => withRd_ok (P := fun c => StepOk N ex c _ _) fun rc hr'' => h _ ra _ rb _ rc hr hr' hr''
  · exact hg
theorem sel_ok {P : CB → Prop} {q : Bool} {x y : CB} (h1 : q = true → P x) (h2 : P y) : P (sel q x y) := by
  cases q with
  | true => exact h1 rfl
  | false => exact h2
theorem opB_ok {op : AOp} {l : List Opd} {gen : CB} (hd : d < N) (hg : StepOk N ex gen ⟨some d, op, l, none⟩ nxt) : StepOk N ex (opB (pth d) op l nxt gen) ⟨some d, op, l, none⟩ nxt := by
  unfold opB
  split
  · exact on1_ok (fun _ _ _ ha => sMv_ok hd ha) hg
  · exact on3_ok (fun _ _ _ _ _ _ hc ha hb => sPick_ok hd hc ha hb) hg
  · split
    · exact sel_ok (P := fun c => StepOk N ex c _ _) (fun h1 => sel_ok (P := fun c => StepOk N ex c _ _) (fun h2 => sAlloc_ok hd (by rw [beqD] at h1; exact of_decide_eq_true h1) (blt_of h2)) hg) hg
    · exact hg
  · exact on1_ok (fun _ _ e ha => sel_ok (P := fun c => StepOk N ex c _ _) (fun h2 => sBox_ok hd ha (blt_of h2)) (e ▸ hg)) hg
  · exact on1_ok (fun _ _ _ ha => sLoad1_ok hd ha) hg
  · exact on1_ok (fun _ _ _ ha => sLoadn_ok hd ha) hg
  · exact on1_ok (fun _ _ _ ha => sNil_ok hd ha) hg
  · exact on2_ok (fun _ _ _ _ _ ha hb => binB_ok (P := fun c => StepOk N ex c _ _) fun f hf => sBin_ok hd hf ha hb) hg
  · exact on2_ok (fun _ _ _ _ _ ha hb => sEqv_ok hd ha hb) hg
  · split
    · exact on1_ok (fun _ _ _ ha => sNot_ok hd ha) hg
    · exact hg
  · exact on1_ok (fun _ _ _ ha => sConv_ok hd ha) hg
  · exact on1_ok (fun _ _ _ ha => sFieldAddr_ok hd ha) hg
  · exact on2_ok (fun _ _ _ _ _ ha hb => sIndexs_ok hd ha hb) hg
  · exact on1_ok (fun _ _ _ ha => sExtract_ok hd ha) hg
  · exact on1_ok (fun _ _ _ ha => sLens_ok hd ha) hg
  · split
    · exact sCall_ok hd rdsOf_ok
    · exact hg
  · exact hg
noncomputable def opB0 (op : AOp) (l : List Opd) (nxt gen : CB) : CB := match op with
  | .store n => on2 l (fun a b => sel (Nat.blt 0 n) (.mk (sStore n a b nxt)) gen) gen
  | .nilCheck => on1 l (fun a => .mk (sNil0 a nxt)) gen
  | .callv => match l with
    | .lit (.func f [] []) :: os => .mk (sCall0 f (rdsOf os) nxt)
    | _ => gen
  | _ => gen
theorem opB0_ok {op : AOp} {l : List Opd} {gen : CB} (hg : StepOk N ex gen ⟨none, op, l, none⟩ nxt) : StepOk N ex (opB0 op l nxt gen) ⟨none, op, l, none⟩ nxt := by
  unfold opB0
  split
  · exact on2_ok (fun _ _ _ _ e ha hb => sel_ok (P := fun c => StepOk N ex c _ _) (fun h2 => sStore_ok ha hb (blt_of h2)) (e ▸ hg)) hg
  · exact on1_ok (fun _ _ _ ha => sNil0_ok ha) hg
  · split
    · exact sCall0_ok rdsOf_ok
    · exact hg
  · exact hg
noncomputable def sThru (nxt : CB) (D : DSem) (E : ET) (h : AHeap) (k : KX) : XF := nxt.run D E h k
noncomputable def genB (N : Nat) (i : AIn) (nxt : CB) : CB := .mk (sGen N i nxt)
noncomputable def plainB (N : Nat) (dst : Option Nat) (op : AOp) (l : List Opd) (nxt : CB) : CB := match dst with
  | some d => sel (Nat.blt d N) (opB (pth d) op l nxt (genB N ⟨some d, op, l, none⟩ nxt)) (genB N ⟨some d, op, l, none⟩ nxt)
  | none => opB0 op l nxt (genB N ⟨none, op, l, none⟩ nxt)
theorem plainB_ok {dst : Option Nat} {op : AOp} {l : List Opd} : StepOk N ex (plainB N dst op l nxt) ⟨dst, op, l, none⟩ nxt := by
  unfold plainB
  split
  · exact sel_ok (P := fun c => StepOk N ex c _ _) (fun h => opB_ok (blt_of h) sGen_ok) sGen_ok
  · exact opB0_ok sGen_ok
noncomputable def inB (N : Nat) (i : AIn) (nxt : CB) : CB := match i with
  | ⟨dst, op, l, none⟩ => plainB N dst op l nxt
  | ⟨some d, op, l, some (s, w)⟩ => sel (Nat.blt d N) (.mk (sGuard (pth s) w (plainB N (some d) op l nxt) (.mk (sSkip (pth d) nxt)))) (genB N ⟨some d, op, l, some (s, w)⟩ nxt)
  | ⟨none, op, l, some (s, w)⟩ => .mk (sGuard (pth s) w (plainB N none op l nxt) (.mk (sThru nxt)))
theorem inB_ok {i : AIn} : StepOk N ex (inB N i nxt) i nxt := by
  unfold inB
  split
  · exact plainB_ok
  · refine sel_ok (P := fun c => StepOk N ex c _ _) (fun h => sGuard_ok plainB_ok fun D E e h' k r g x => ?_) sGen_ok
    exact ⟨_, g.put (blt_of h), x⟩
  · exact sGuard_ok plainB_ok fun D E e h' k r g x => ⟨E, g, x⟩
end ops
noncomputable def sEnd (_ : DSem) (E : ET) (h : AHeap) (k : KX) : XF := k E h
noncomputable def insB (N : Nat) (l : List AIn) : CB := List.rec (motive := fun _ => CB) (.mk sEnd) (fun i _ ih => inB N i ih) l
theorem insB_ok : ∀ {l : List AIn} {D : DSem} {E : ET} {e : List AV} {h : AHeap} {k : KX} {r : AExit × ET × AHeap}, Rl N ex E e → (insB N l).run D E h k = some r → ∃ E1 e1 h1, Rl N ex E1 e1 ∧ runInsD D l e h = some (e1, h1) ∧ k E1 h1 = some r
  | [], D, E, e, h, k, r, g, x => ⟨E, e, h, g, rfl, x⟩
  | i :: l, D, E, e, h, k, r, g, x => by
    obtain ⟨E1, e1, h1, g1, p1, x⟩ := inB_ok D E e h k r g (show (inB N i (insB N l)).run D E h k = some r from x)
    obtain ⟨E2, e2, h2, g2, p2, x⟩ := insB_ok g1 x
    refine ⟨E2, e2, h2, g2, ?_, x⟩
    simp only [runInsD, p1, p2]
noncomputable def endB : CB := .mk sEnd
def noD : DSem := fun _ _ _ => none
def isNextOp : AOp → Bool
  | .next => true
  | _ => false
theorem again_of {r : AIn} {e e1 : List AV} {h h1 : AHeap} {d : Nat} {x y : AV} (hn : isNextOp r.op = false) (hd : r.dst = some d) (hr : runInD noD r e h = some (e1, h1)) (h2 : e1[d]? = some x) (h3 : e[d]? = some y) (hs : AV.same x y = true) : again r e h = true := by
  unfold runInD at hr
  unfold again
  split at hr
  · rename_i hw
    rw [hw]
    dsimp only
    split at hr
    · rename_i args ha
      rw [ha]
      dsimp only
      split at hr
      · rename_i v h' ho
        cases hr
        have ha2 : aop r.op args h = some (v, h1) := by
          unfold doOpD at ho
          split at ho
          · split at ho <;> cases ho
          · rename_i e1; rw [e1] at hn; cases hn
          · exact ho
        rw [ha2, hd]
        dsimp only
        rw [h3]
        dsimp only
        rw [hd] at h2
        have hx := setDst_dst h2
        subst hx
        exact hs
      · cases hr
    · cases hr
  · rename_i hw
    rw [hw]
  · cases hr
noncomputable def sAgain (b : CB) (pd : Pth) (nxt : CB) (D : DSem) (E : ET) (h : AHeap) (k : KX) : XF := b.run noD E h fun E' _ => sel (sameK (getP pd E') (getP pd E)) (nxt.run D E h k) none
noncomputable def sNone (_ : DSem) (_ : ET) (_ : AHeap) (_ : KX) : XF := none
noncomputable def agB (N : Nat) (r : AIn) (nxt : CB) : CB := match r.dst with
  | some d => sel (isNextOp r.op) (.mk sNone) (.mk (sAgain (inB N r endB) (pth d) nxt))
  | none => .mk sNone
noncomputable def agsB (N : Nat) (l : List (Nat × AIn)) (nxt : CB) : CB := List.rec (motive := fun _ => CB) nxt (fun r _ ih => agB N r.2 ih) l
theorem sameK_nj {a b : AV} (h : sameK a b = true) : a.notJunk = some a ∧ b.notJunk = some b := by
  have := sameK_ok a b h
  constructor
  · cases a <;> first | rfl | exact falseB h
  · cases a <;> cases b <;> first | rfl | (simp [AV.same] at this)
theorem agB_ok {r : AIn} {nxt : CB} {D : DSem} {E : ET} {e : List AV} {h : AHeap} {k : KX} {p : AExit × ET × AHeap} (g : Rl N ex E e) (x : (agB N r nxt).run D E h k = some p) : again r e h = true ∧ nxt.run D E h k = some p := by
  unfold agB at x
  split at x
  · rename_i d hd
    cases hn : isNextOp r.op with
    | true => rw [hn] at x; exact noneX x
    | false =>
      rw [hn] at x
      have x : (inB N r endB).run noD E h (fun E' _ => sel (sameK (getP (pth d) E') (getP (pth d) E)) (nxt.run D E h k) none) = some p := x
      obtain ⟨E1, e1, h1, g1, p1, x⟩ := inB_ok noD E e h _ p g x
      have x : sel (sameK (E1.get d) (E.get d)) (nxt.run D E h k) none = some p := x
      rw [sel_eq] at x
      split at x
      · rename_i hs
        obtain ⟨j1, j2⟩ := sameK_nj hs
        exact ⟨again_of hn hd p1 (g1.cov d _ j1) (g.cov d _ j2) (sameK_ok _ _ hs), x⟩
      · exact noneX x
  · exact noneX x
theorem agsB_ok {nxt : CB} {D : DSem} {E : ET} {e : List AV} {h : AHeap} {k : KX} {p : AExit × ET × AHeap} (g : Rl N ex E e) : ∀ {l : List (Nat × AIn)}, (agsB N l nxt).run D E h k = some p → l.all (fun r => again r.2 e h) = true ∧ nxt.run D E h k = some p
  | [], x => ⟨rfl, x⟩
  | r :: l, x => by
    obtain ⟨h1, x⟩ := agB_ok g (show (agB N r.2 (agsB N l nxt)).run D E h k = some p from x)
    obtain ⟨h2, x⟩ := agsB_ok g x
    exact ⟨by rw [List.all_cons, h1, h2]; rfl, x⟩
noncomputable def disB (N : Nat) (l : List DI) : CB := List.rec (motive := fun _ => CB) endB (fun d _ ih => inB N d.i (agsB N d.rs ih)) l
theorem disB_ok : ∀ {l : List DI} {D : DSem} {E : ET} {e : List AV} {h : AHeap} {k : KX} {p : AExit × ET × AHeap}, Rl N ex E e → (disB N l).run D E h k = some p → ∃ E1 e1 h1 lg, Rl N ex E1 e1 ∧ runDrawT D l e h = some ((e1, h1), lg) ∧ k E1 h1 = some p
  | [], D, E, e, h, k, p, g, x => ⟨E, e, h, [], g, rfl, x⟩
  | d :: l, D, E, e, h, k, p, g, x => by
    obtain ⟨E1, e1, h1, g1, p1, x⟩ := inB_ok D E e h k p g (show (inB N d.i (agsB N d.rs (disB N l))).run D E h k = some p from x)
    obtain ⟨ha, x⟩ := agsB_ok g1 x
    obtain ⟨E2, e2, h2, lg, g2, p2, x⟩ := disB_ok g1 x
    refine ⟨E2, e2, h2, (d.j, h.next, h1.next) :: lg, g2, ?_, x⟩
    simp only [runDrawT, p1]
    rw [if_pos ha, p2]
abbrev LG := Option ((ET × AHeap) × List (Nat × Nat × Nat))
noncomputable def lgCons (j a b : Nat) (r : LG) : LG := Option.rec (motive := fun _ => LG) none (fun p => some (p.1, (j, a, b) :: p.2)) r
noncomputable def lgStep (r : XF) (K : ET → AHeap → LG) : LG := Option.rec (motive := fun _ => LG) none (fun p => K p.2.1 p.2.2) r
noncomputable def lgB (N : Nat) (D : DSem) (l : List DI) : ET → AHeap → LG := List.rec (motive := fun _ => ET → AHeap → LG) (fun E h => some ((E, h), []))
  (fun d _ ih E h => lgStep ((inB N d.i (agsB N d.rs endB)).run D E h normX) fun E' h' => lgCons d.j h.next h'.next (ih E' h')) l
theorem lgB_ok : ∀ {l : List DI} {D : DSem} {E E1 : ET} {e : List AV} {h h1 : AHeap} {lg : List (Nat × Nat × Nat)}, Rl N ex E e → lgB N D l E h = some ((E1, h1), lg) → ∃ e1, Rl N ex E1 e1 ∧ runDrawT D l e h = some ((e1, h1), lg)
  | [], D, E, E1, e, h, h1, lg, g, x => by cases x; exact ⟨e, g, rfl⟩
  | d :: l, D, E, E1, e, h, h1, lg, g, x => by
    have x : lgStep ((inB N d.i (agsB N d.rs endB)).run D E h normX) (fun E' h' => lgCons d.j h.next h'.next (lgB N D l E' h')) = some ((E1, h1), lg) := x
    cases hr : (inB N d.i (agsB N d.rs endB)).run D E h normX with
    | none => rw [hr] at x; cases x
    | some p =>
      rw [hr] at x
      obtain ⟨E2, e2, h2, g2, p2, y⟩ := inB_ok D E e h normX p g hr
      obtain ⟨ha, y⟩ := agsB_ok g2 y
      have y : normX E2 h2 = some p := y
      cases y
      have x : lgCons d.j h.next h2.next (lgB N D l E2 h2) = some ((E1, h1), lg) := x
      cases hl : lgB N D l E2 h2 with
      | none => rw [hl] at x; cases x
      | some q =>
        rw [hl] at x
        obtain ⟨⟨E3, h3⟩, l3⟩ := q
        cases x
        obtain ⟨e3, g3, p3⟩ := lgB_ok g2 hl
        refine ⟨e3, g3, ?_⟩
        simp only [runDrawT, p2]
        rw [if_pos ha, p3]
noncomputable def altB (N : Nat) (D : DSem) (E : ET) (h : AHeap) (E0 : ET) (h0 : AHeap) (l0 : List (Nat × Nat × Nat)) (l : List (List DI)) : Bool := List.rec (motive := fun _ => Bool) true
  (fun ds _ ih => sel (Option.rec (motive := fun _ => Bool) false (fun p => renOk h.next (shiftOf l0 p.2) (shiftOf p.2 l0) (toL E0 N) h0 (toL p.1.1 N) p.1.2) (lgB N D ds E h)) ih false) l
noncomputable def drawM (N : Nat) (D : DSem) (alts : List (List DI)) (E : ET) (h : AHeap) : XF := List.rec (motive := fun _ => XF) none
  (fun ds rest _ => Option.rec (motive := fun _ => XF) none (fun p => sel (altB N D E h p.1.1 p.1.2 p.2 rest) (normX p.1.1 p.1.2) none) (lgB N D ds E h)) alts
theorem altB_ok {D : DSem} {E E0 : ET} {h h0 : AHeap} {l0 : List (Nat × Nat × Nat)} (g : Rl N true E (toL E N)) : ∀ {l : List (List DI)}, altB N D E h E0 h0 l0 l = true → l.all (fun d1 => match runDrawT D d1 (toL E N) h with
      | some ((e1, h1), l1) => renOk h.next (shiftOf l0 l1) (shiftOf l1 l0) (toL E0 N) h0 e1 h1
      | none => false) = true
  | [], _ => rfl
  | ds :: l, x => by
    obtain ⟨h1, h2⟩ := selB (show sel (Option.rec (motive := fun _ => Bool) false (fun p => renOk h.next (shiftOf l0 p.2) (shiftOf p.2 l0) (toL E0 N) h0 (toL p.1.1 N) p.1.2) (lgB N D ds E h)) (altB N D E h E0 h0 l0 l) false = true from x)
    rw [List.all_cons, altB_ok g h2, Bool.and_true]
    cases hl : lgB N D ds E h with
    | none => rw [hl] at h1; cases h1
    | some p =>
      obtain ⟨⟨E1, hh1⟩, l1⟩ := p
      rw [hl] at h1
      obtain ⟨e1, g1, p1⟩ := lgB_ok g hl
      rw [p1, g1.eq rfl]
      exact h1
theorem drawM_ok {D : DSem} {alts : List (List DI)} {E E1 : ET} {h h1 : AHeap} {z : AExit} (g : Rl N true E (toL E N)) (x : drawM N D alts E h = some (z, E1, h1)) : Good N E1 ∧ execD D none (.draw alts) (toL E N) h = some (z, toL E1 N, h1) := by
  cases alts with
  | nil => exact noneX x
  | cons ds rest =>
    have x : Option.rec (motive := fun _ => XF) none (fun p => sel (altB N D E h p.1.1 p.1.2 p.2 rest) (normX p.1.1 p.1.2) none) (lgB N D ds E h) = some (z, E1, h1) := x
    cases hl : lgB N D ds E h with
    | none => rw [hl] at x; exact noneX x
    | some p =>
      obtain ⟨⟨E0, h0⟩, l0⟩ := p
      rw [hl] at x
      have x : sel (altB N D E h E0 h0 l0 rest) (normX E0 h0) none = some (z, E1, h1) := x
      rw [sel_eq] at x
      split at x
      · rename_i ha
        cases x
        obtain ⟨e1, g1, p1⟩ := lgB_ok g hl
        rw [g1.eq rfl] at p1
        refine ⟨g1.good, ?_⟩
        simp only [execD, p1]
        rw [if_pos]
        exact altB_ok g ha
      · exact noneX x
noncomputable def sSeq (a b : CB) (D : DSem) (E : ET) (h : AHeap) (k : KX) : XF := a.run D E h fun E h => b.run D E h k
noncomputable def sCond (p : Pth) (a b : CB) (D : DSem) (E : ET) (h : AHeap) (k : KX) : XF := avBool (getP p E) fun q => sel q (a.run D E h k) (b.run D E h k)
noncomputable def sCondG (c : Opd) (a b : CB) (D : DSem) (E : ET) (h : AHeap) (k : KX) : XF := condF (opdF E c) (a.run D E h k) (b.run D E h k)
noncomputable def blkX (id : Nat) (r : XF) (k : KX) : XF := bindX r k (fun i E h => sel (Nat.beq i id) (k E h) (exitX i E h)) retX
noncomputable def sBlock (id : Nat) (b : CB) (D : DSem) (E : ET) (h : AHeap) (k : KX) : XF := blkX id (b.run D E h normX) k
noncomputable def loopN (b : CB) (D : DSem) (n : Nat) : KX := Nat.rec (motive := fun _ => KX) (fun _ _ => none) (fun _ ih E h => b.run D E h ih) n
def loopFuel : Nat := 1000000
noncomputable def sLoop (b : CB) (D : DSem) (E : ET) (h : AHeap) (_ : KX) : XF := loopN b D loopFuel E h
theorem sLoop_eq {b : CB} {D : DSem} {E : ET} {h : AHeap} {k : KX} : (CB.mk (sLoop b)).run D E h k = loopN b D loopFuel E h := rfl
noncomputable def sRfun (N : Nat) (f : Opd) (ps : List Nat) (asg body : ACode) (D : DSem) (E : ET) (h : AHeap) (k : KX) : XF := bindX (execF.rfunF D N none f ps asg body E h) k exitX retX
noncomputable def sBad (_ : DSem) (_ : ET) (_ : AHeap) (_ : KX) : XF := none
noncomputable def sDraw (N : Nat) (alts : List (List DI)) (D : DSem) (E : ET) (h : AHeap) (k : KX) : XF := bindX (drawM N D alts E h) k exitX retX
noncomputable def drawB (N : Nat) (ex : Bool) (alts : List (List DI)) : CB := match alts with
  | [ds] => disB N ds
  | alts => sel ex (.mk (sDraw N alts)) (.mk sBad)
noncomputable def sExit (i : Nat) (_ : DSem) (E : ET) (h : AHeap) (_ : KX) : XF := exitX i E h
noncomputable def sRet (_ : DSem) (E : ET) (h : AHeap) (_ : KX) : XF := retX E h
noncomputable def condB (c : Opd) (a b : CB) : CB := match c with
  | .tmp t => .mk (sCond (pth t) a b)
  | c => .mk (sCondG c a b)
noncomputable def codeB (N : Nat) (ex : Bool) (c : ACode) : CB := ACode.rec (motive := fun _ => CB)
  (.mk sEnd) (fun ops => insB N ops) (fun _ _ a b => .mk (sSeq a b)) (fun c _ _ a b => condB c a b) (fun id _ b => .mk (sBlock id b)) (fun _ b => .mk (sLoop b))
  (fun f ps asg body _ _ => sel ex (.mk (sRfun N f ps asg body)) (.mk sBad)) (fun i => .mk (sExit i)) (.mk sRet) (fun alts => drawB N ex alts) (.mk sBad) c
def goesOn (k : KX) (r : AExit × ET × AHeap) (E : ET) (h : AHeap) : AExit → Prop
  | .normal => k E h = some r
  | .exit i => r = (.exit i, E, h)
  | .ret => r = (.ret, E, h)
def CodeOk (N : Nat) (ex : Bool) (b : CB) (c : ACode) : Prop := ∀ (D : DSem) (E : ET) (e : List AV) (h : AHeap) (k : KX) (r : AExit × ET × AHeap), Rl N ex E e → b.run D E h k = some r →
  ∃ x E1 e1 h1, Rl N ex E1 e1 ∧ execD D none c e h = some (x, e1, h1) ∧ goesOn k r E1 h1 x
theorem bindX_goes {r : XF} {k : KX} {y : AExit × ET × AHeap} (x : bindX r k exitX retX = some y) : ∃ z E h, r = some (z, E, h) ∧ goesOn k y E h z := by
  obtain ⟨z, E, h, e, x⟩ := bindX_some x
  refine ⟨z, E, h, e, ?_⟩
  cases z with
  | normal => exact x
  | exit i => cases x; exact rfl
  | ret => cases x; exact rfl
theorem loopN_ok {b : CB} {c : ACode} (hb : CodeOk N ex b c) {D : DSem} : ∀ (n : Nat) {E : ET} {e : List AV} {h : AHeap} {r : AExit × ET × AHeap}, Rl N ex E e → loopN b D n E h = some r →
    ∃ x E1 e1 h1, Rl N ex E1 e1 ∧ (∀ m, iterD (execD D none c) (n + m) e h = some (x, e1, h1)) ∧ x ≠ .normal ∧ r = (x, E1, h1)
  | 0, _, _, _, _, _, x => noneX x
  | n + 1, E, e, h, r, g, x => by
    obtain ⟨z, E1, e1, h1, g1, p1, q⟩ := hb D E e h (loopN b D n) r g x
    cases z with
    | normal =>
      obtain ⟨z2, E2, e2, h2, g2, p2, hne, e⟩ := loopN_ok hb n g1 q
      refine ⟨z2, E2, e2, h2, g2, fun m => ?_, hne, e⟩
      rw [show n + 1 + m = (n + m) + 1 by omega]
      simp only [iterD, p1]
      exact p2 m
    | exit i =>
      refine ⟨.exit i, E1, e1, h1, g1, fun m => ?_, fun e => (by cases e), q⟩
      rw [show n + 1 + m = (n + m) + 1 by omega]
      simp only [iterD, p1]
    | ret =>
      refine ⟨.ret, E1, e1, h1, g1, fun m => ?_, fun e => (by cases e), q⟩
      rw [show n + 1 + m = (n + m) + 1 by omega]
      simp only [iterD, p1]
theorem rounds_is : rounds = loopFuel + (rounds - loopFuel) := by decide
theorem codeB_ok : ∀ (c : ACode), CodeOk N ex (codeB N ex c) c
  | .skip => fun D E e h k r g x => ⟨.normal, E, e, h, g, rfl, x⟩
  | .region ops => fun D E e h k r g x => by
    obtain ⟨E1, e1, h1, g1, p1, x⟩ := insB_ok g (show (insB N ops).run D E h k = some r from x)
    exact ⟨.normal, E1, e1, h1, g1, by simp only [execD, p1], x⟩
  | .seq a b => fun D E e h k r g x => by
    obtain ⟨z, E1, e1, h1, g1, p1, q⟩ := codeB_ok a D E e h (fun E h => (codeB N ex b).run D E h k) r g x
    cases z with
    | normal =>
      obtain ⟨z2, E2, e2, h2, g2, p2, q2⟩ := codeB_ok b D E1 e1 h1 k r g1 q
      exact ⟨z2, E2, e2, h2, g2, by simp only [execD, p1, p2], q2⟩
    | exit i => exact ⟨.exit i, E1, e1, h1, g1, by simp only [execD, p1], q⟩
    | ret => exact ⟨.ret, E1, e1, h1, g1, by simp only [execD, p1], q⟩
  | .cond c a b => fun D E e h k r g x => by
    have key : ∀ q, c.eval e = some (.bool q) → sel q ((codeB N ex a).run D E h k) ((codeB N ex b).run D E h k) = some r → ∃ x E1 e1 h1, Rl N ex E1 e1 ∧ execD D none (.cond c a b) e h = some (x, e1, h1) ∧ goesOn k r E1 h1 x := fun q hq x => by
      cases q with
      | true =>
        obtain ⟨z, E1, e1, h1, g1, p1, q⟩ := codeB_ok a D E e h k r g x
        exact ⟨z, E1, e1, h1, g1, by simp only [execD, hq, p1], q⟩
      | false =>
        obtain ⟨z, E1, e1, h1, g1, p1, q⟩ := codeB_ok b D E e h k r g x
        exact ⟨z, E1, e1, h1, g1, by simp only [execD, hq, p1], q⟩
    cases c with
    | tmp t =>
      obtain ⟨q, hq, x⟩ := avBool_ok (show avBool (E.get t) _ = some r from x)
      exact key q (g.opd (o := .tmp t) (by show AV.notJunk (E.get t) = _; rw [hq]; rfl)) x
    | lit v =>
      have x : condF (some v) ((codeB N ex a).run D E h k) ((codeB N ex b).run D E h k) = some r := x
      cases v with
      | bool q => exact key q rfl x
      | _ => exact noneX x
  | .block id b => fun D E e h k r g x => by
    obtain ⟨z, E1, h1, e1, x2⟩ := bindX_some (show bindX ((codeB N ex b).run D E h normX) k (fun i E h => sel (Nat.beq i id) (k E h) (exitX i E h)) retX = some r from x)
    obtain ⟨z2, E2, e2, h2, g2, p2, q2⟩ := codeB_ok b D E e h normX _ g e1
    cases z2 with
    | normal =>
      cases q2
      exact ⟨.normal, E1, e2, h1, g2, by simp only [execD, p2], x2⟩
    | exit i =>
      cases q2
      have x3 : sel (Nat.beq i id) (k E1 h1) (exitX i E1 h1) = some r := x2
      rw [sel_eq, beqD] at x3
      split at x3
      · rename_i hi
        exact ⟨.normal, E1, e2, h1, g2, by simp only [execD, p2, if_pos (of_decide_eq_true hi)], x3⟩
      · rename_i hi
        cases x3
        exact ⟨.exit i, E1, e2, h1, g2, by simp only [execD, p2, if_neg (fun q => hi (decide_eq_true q))], rfl⟩
    | ret =>
      cases q2
      cases x2
      exact ⟨.ret, E1, e2, h1, g2, by simp only [execD, p2], rfl⟩
  | .loop b => fun D E e h k r g x => by
    have ec : codeB N ex (.loop b) = .mk (sLoop (codeB N ex b)) := rfl
    rw [ec, sLoop_eq] at x
    obtain ⟨z, E1, e1, h1, g1, p1, hne, q⟩ := loopN_ok (codeB_ok b) loopFuel g x
    refine ⟨z, E1, e1, h1, g1, ?_, ?_⟩
    · simp only [execD]
      rw [rounds_is]
      exact p1 _
    · cases z with
      | normal => exact absurd rfl hne
      | exit i => exact q
      | ret => exact q
  | .exit i => fun D E e h k r g x => by cases x; exact ⟨.exit i, E, e, h, g, rfl, rfl⟩
  | .ret => fun D E e h k r g x => by cases x; exact ⟨.ret, E, e, h, g, rfl, rfl⟩
  | .draw alts => fun D E e h k r g x => by
    have x : (drawB N ex alts).run D E h k = some r := x
    unfold drawB at x
    split at x
    · rename_i ds
      obtain ⟨E1, e1, h1, lg, g1, p1, q⟩ := disB_ok g x
      exact ⟨.normal, E1, e1, h1, g1, by simp only [execD, p1]; rfl, q⟩
    · cases ex with
      | false => exact noneX x
      | true =>
        obtain ⟨z, E1, h1, e1, q⟩ := bindX_goes (show bindX (drawM N D alts E h) k exitX retX = some r from x)
        obtain rfl := g.eq rfl
        obtain ⟨g1, p1⟩ := drawM_ok g e1
        exact ⟨z, E1, _, h1, Rl.exact g1, p1, q⟩
  | .rfun f ps asg body => fun D E e h k r g x => by
    have x : (sel ex (CB.mk (sRfun N f ps asg body)) (.mk sBad)).run D E h k = some r := x
    cases ex with
    | false => exact noneX x
    | true =>
      obtain ⟨z, E1, h1, e1, q⟩ := bindX_goes (show bindX (execF.rfunF D N none f ps asg body E h) k exitX retX = some r from x)
      obtain ⟨g1, p1⟩ := execF_ok (ro := none) g.good (show execF D N none (.rfun f ps asg body) E h = _ from e1)
      rw [← g.eq rfl] at p1
      exact ⟨z, E1, _, h1, Rl.exact g1, p1, q⟩
  | .bad => fun D E e h k r g x => noneX x
end
abbrev KF := DSem → List AV → AHeap → Option (AV × AHeap)
inductive FB where
  | mk (f : KF)
noncomputable def FB.run (b : FB) : KF := FB.rec (motive := fun _ => KF) (fun f => f) b
noncomputable def isLf (t : Tr) : Bool := Tr.rec (motive := fun _ => Bool) true (fun _ _ _ _ _ => false) t
noncomputable def mkN (l : Tr) (v : Option AObj) (r : Tr) : Tr := Option.rec (motive := fun _ => Tr) (sel (isLf l) (sel (isLf r) .leaf (.node l v r)) (.node l v r)) (fun _ => .node l v r) v
noncomputable def trDel (l : Tr) (v : Option AObj) (r : Tr) (dl dr : Nat → Tr) (n : Nat) : Tr := sel (Nat.beq n 0) (mkN l none r) (sel (Nat.beq (Nat.mod n 2) 1) (mkN (dl (Nat.div n 2)) v r) (mkN l v (dr (Nat.sub (Nat.div n 2) 1))))
noncomputable def Tr.delK (t : Tr) : Nat → Tr := Tr.rec (motive := fun _ => Nat → Tr) (fun _ => .leaf) (fun l v r dl dr => trDel l v r dl dr) t
theorem mkN_get {l r : Tr} {v : Option AObj} {n : Nat} {o : AObj} (h : (mkN l v r).get n = some o) : (Tr.node l v r).get n = some o := by
  unfold mkN at h
  cases v with
  | some w => exact h
  | none =>
    have h : (sel (isLf l) (sel (isLf r) .leaf (.node l none r)) (.node l none r) : Tr).get n = some o := h
    rw [sel_eq, sel_eq] at h
    split at h
    · split at h
      · cases h
      · exact h
    · exact h
theorem Tr.delK_get : ∀ {t : Tr} {n m : Nat} {o : AObj}, (t.delK n).get m = some o → t.get m = some o
  | .leaf, _, _, _, h => h
  | .node l v r, n, m, o, h => by
    have h : (trDel l v r l.delK r.delK n).get m = some o := h
    unfold trDel at h
    rw [sel_eq, sel_eq] at h
    have key : ∀ {l' r' : Tr} {v' : Option AObj}, (mkN l' v' r').get m = some o → (∀ k, l'.get k = some o → l.get k = some o) → (v' = some o → v = some o) → (∀ k, r'.get k = some o → r.get k = some o) → (Tr.node l v r).get m = some o := by
      intro l' r' v' h h1 h2 h3
      have h := mkN_get h
      simp only [Tr.get] at h ⊢
      by_cases c : m = 0
      · rw [if_pos c] at h ⊢; exact h2 h
      · rw [if_neg c] at h ⊢
        by_cases c2 : m % 2 = 1
        · rw [if_pos c2] at h ⊢; exact h1 _ h
        · rw [if_neg c2] at h ⊢; exact h3 _ h
    split at h
    · exact key h (fun _ x => x) (fun x => by cases x) (fun _ x => x)
    · split at h
      · exact key h (fun _ x => Tr.delK_get x) (fun x => x) (fun _ x => x)
      · exact key h (fun _ x => x) (fun x => x) (fun _ x => Tr.delK_get x)
noncomputable def delIf (base id : Nat) (h : AHeap) : AHeap := sel (Nat.ble base id) ⟨AHeap.next h, Tr.delK (AHeap.objs h) id⟩ h
theorem delIf_less {base id : Nat} {h : AHeap} : Less (delIf base id h) h := by
  unfold delIf
  rw [sel_eq]
  split
  · exact ⟨fun i o e => Tr.delK_get (show (Tr.delK h.objs id).get i = some o from e), Nat.le_refl _⟩
  · exact Less.refl h
noncomputable def killV (v : AV) (base : Nat) (h : AHeap) : AHeap := AV.rec (motive_1 := fun _ => Nat → AHeap → AHeap) (motive_2 := fun _ => Unit) (fun _ _ h => h) (fun _ _ _ h => h) (fun _ _ h => h) (fun a0 _ base h => delIf base a0 h) (fun _ h => h) (fun a0 _ _ _ base h => delIf base a0 h) (fun a0 _ _ _ base h => delIf base a0 h) (fun _ h => h) (fun _ h => h) (fun a0 base h => delIf base a0 h) (fun _ h => h) (fun _ _ _ _ _ _ h => h) (fun _ _ h => h) (fun _ h => h) (fun _ _ _ h => h) (fun _ _ _ h => h) (fun _ _ _ h => h) (fun _ h => h) () (fun _ _ _ _ => ()) v base h
theorem killV_less {base : Nat} {h : AHeap} : ∀ {v : AV}, Less (killV v base h) h := by
  intro v
  cases v <;> first | exact Less.refl h | exact delIf_less
noncomputable def killS (base : Nat) (E : ET) (ks : List Nat) (h : AHeap) : AHeap := List.rec (motive := fun _ => AHeap) h (fun t _ ih => killV (E.get t) base ih) ks
theorem killS_less {base : Nat} {E : ET} {h : AHeap} : ∀ {ks : List Nat}, Less (killS base E ks h) h
  | [] => Less.refl h
  | _ :: _ => killV_less.trans killS_less
noncomputable def leaveS (rs : List ARes) (ks : List Nat) (base : Nat) (r : XF) : Option (AV × AHeap) := Option.rec (motive := fun _ => Option (AV × AHeap)) none (fun p => Prod.rec (motive := fun _ => Option (AV × AHeap)) (fun x q => Prod.rec (motive := fun _ => Option (AV × AHeap)) (fun E h => AExit.rec (motive := fun _ => Option (AV × AHeap)) (retF (resF E h rs) (killS base E ks h)) (fun _ => none) (retF (resF E h rs) (killS base E ks h)) x) q) p) r
noncomputable def callS (n : Nat) (res : List ARes) (ks : List Nat) (b : CB) (D : DSem) (args : List AV) (h : AHeap) : Option (AV × AHeap) :=
  sel (Nat.ble (lenK args) n) (leaveS res ks (AHeap.next h) (b.run D (ET.putL args 0 (newE n)) h normX)) none
noncomputable def fnB (ks : List Nat) (f : AFn) : FB := .mk (callS f.ntmps f.res ks (codeB f.ntmps true f.body))
theorem fnB_ok {D : DSem} {f : AFn} {ks : List Nat} {args : List AV} {h h' : AHeap} {v : AV} (x : (fnB ks f).run D args h = some (v, h')) : ∃ h1, callD D f args h = some (v, h1) ∧ Less h' h1 := by
  have x : sel (Nat.ble (lenK args) f.ntmps) (leaveS f.res ks h.next ((codeB f.ntmps true f.body).run D (ET.putL args 0 (newE f.ntmps)) h normX)) none = some (v, h') := x
  rw [sel_eq, bleD, lenK_eq] at x
  split at x
  · rename_i hl
    have hl := of_decide_eq_true hl
    obtain ⟨g0, p0⟩ := newE_good f.ntmps
    obtain ⟨g1, p1⟩ := putL_good (l := args) (n := 0) g0 (by omega)
    have e0 : toL (ET.putL args 0 (newE f.ntmps)) f.ntmps = args ++ List.replicate (f.ntmps - args.length) .junk := by
      rw [p1, p0]; simp
    unfold callD
    rw [← e0]
    cases he : (codeB f.ntmps true f.body).run D (ET.putL args 0 (newE f.ntmps)) h normX with
    | none => rw [he] at x; exact noneX x
    | some p =>
      obtain ⟨y, E0, h0⟩ := p
      rw [he] at x
      obtain ⟨z, E, e1, h1, g2, p2, q⟩ := codeB_ok (ex := true) f.body D _ _ h normX _ (Rl.exact g1) he
      obtain rfl := g2.eq rfl
      have g2 := g2.good
      rw [p2]
      cases z with
      | normal =>
        cases q
        change retF (resF E0 h0 f.res) (killS h.next E0 ks h0) = _ at x
        rw [resF_eq g2] at x
        dsimp only
        cases hr : resA (toL E0 f.ntmps) h0 f.res with
        | none => rw [hr] at x; cases x
        | some vs => rw [hr] at x; cases x; exact ⟨h0, rfl, killS_less⟩
      | exit i => cases q; exact noneX x
      | ret =>
        cases q
        change retF (resF E0 h0 f.res) (killS h.next E0 ks h0) = _ at x
        rw [resF_eq g2] at x
        dsimp only
        cases hr : resA (toL E0 f.ntmps) h0 f.res with
        | none => rw [hr] at x; cases x
        | some vs => rw [hr] at x; cases x; exact ⟨h0, rfl, killS_less⟩
  · exact noneX x
noncomputable def failB : FB := .mk fun _ _ _ => none
noncomputable def codeFB (H : Nat → List Nat) (G : Nat → Option AFn) (n : Nat) : FB := Option.rec (motive := fun _ => FB) failB (fun f => fnB (H n) f) (G n)
noncomputable def orS (k : KF) (c : FB) (D : DSem) (args : List AV) (h : AHeap) : Option (AV × AHeap) := orF (k D args h) (c.run D args h)
noncomputable def tabB (H : Nat → List Nat) (K : Nat → Option KF) (G : Nat → Option AFn) (n : Nat) : FB := Option.rec (motive := fun _ => FB) (codeFB H G n) (fun k => .mk (orS k (codeFB H G n))) (K n)
noncomputable def progS (H : Nat → List Nat) (K : Nat → Option KF) (G : Nat → Option AFn) (d : Nat) : DSem := Nat.rec (motive := fun _ => DSem) (fun _ _ _ => none) (fun _ ih g args h => Fn.rec (motive := fun _ => Option (AV × AHeap)) (fun n => (tabB H K G n).run ih args h) (fun l => roundF ih l args h) g) d
def DGood (O : Nat → Option FSpec) (T : BT) (D : DSem) : Prop := ∀ (g : Fn) (args : List AV) (h : AHeap) (v : AV) (h' : AHeap) (Q : AV → AHeap → Prop), D g args h = some (v, h') → Q v h' → progI O T g args h Q
def KOk (O : Nat → Option FSpec) (T : BT) (K : Nat → Option KF) : Prop := ∀ n k, K n = some k → ∀ D, DGood O T D → ∀ args h v h' (Q : AV → AHeap → Prop), k D args h = some (v, h') → Q v h' → progI O T (.f n) args h Q
theorem progS_ok {H : Nat → List Nat} {K : Nat → Option KF} {T : BT} {G : Nat → Option AFn} {O : Nat → Option FSpec} (hO : ∀ n f, G n = some f → O n = none ∧ T.get n = some f) (hK : KOk O T K) : ∀ d : Nat, DGood O T (progS H K G d)
  | 0, _, _, _, _, _, _, x, _ => by cases x
  | d + 1, .f n, args, h, v, h', Q, x, q => by
    have code : (codeFB H G n).run (progS H K G d) args h = some (v, h') → progI O T (.f n) args h Q := fun x => by
      cases hf : G n with
      | none =>
        have e : codeFB H G n = failB := by unfold codeFB; rw [hf]
        rw [e] at x; exact noneX x
      | some af =>
        have e : codeFB H G n = fnB (H n) af := by unfold codeFB; rw [hf]
        rw [e] at x
        obtain ⟨hn, hf⟩ := hO n af hf
        obtain ⟨h1, x, hl⟩ := fnB_ok x
        exact progI_drop hn hf (callD_ok (D := progS H K G d) (fun g args h v h' Q x q => progS_ok hO hK d g args h v h' Q x q) x ⟨_, fun _ => hl, q⟩)
    have x : (tabB H K G n).run (progS H K G d) args h = some (v, h') := x
    cases hk : K n with
    | none =>
      have e : tabB H K G n = codeFB H G n := by unfold tabB; rw [hk]
      rw [e] at x
      exact code x
    | some k =>
      have e : tabB H K G n = .mk (orS k (codeFB H G n)) := by unfold tabB; rw [hk]
      rw [e] at x
      have x : orF (k (progS H K G d) args h) ((codeFB H G n).run (progS H K G d) args h) = some (v, h') := x
      cases hx : k (progS H K G d) args h with
      | none => rw [hx] at x; exact code x
      | some p =>
        rw [hx] at x
        cases x
        exact hK n k hk (progS H K G d) (progS_ok hO hK d) _ _ _ _ _ hx q
  | d + 1, .y l, args, h, v, h', Q, x, q => by
    have x : roundF (progS H K G d) l args h = some (v, h') := x
    exact progI_round (roundD_ok (D := progS H K G d) (fun g args h v h' Q x q => progS_ok hO hK d g args h v h' Q x q) (roundF_ok x) q)
end Go.Proofs.YtlkfclgkinaibaaGreat

namespace Go.Proofs.YtlkfclgkinaibaaGreat
variable {O : Nat → Option FSpec}
theorem eff_callK {D : DSem} (hD : DGood O tab D) {vs : List AV} {h h1 : AHeap} {v : AV} (x : callK D vs h = some (v, h1)) : Eff (progI O tab) .callv vs h fun v' h' => v' = v ∧ h' = h1 := .mk (by
  unfold callK at x
  unfold doOpW
  split at x
  · exact hD _ _ _ _ _ _ x ⟨rfl, rfl⟩
  · exact hD _ _ _ _ _ _ x ⟨rfl, rfl⟩
  · cases x)
noncomputable def rowVal (h : AHeap) (b : Nat) : Option AV := match h.getK b with
  | some (.row _ _ _ _ (.vals [v])) => some v
  | _ => none
theorem rowVal_load {h : AHeap} {b : Nat} {v : AV} (x : rowVal h b = some v) : Does .load1 [.ptr b 0] h v h := by
  unfold rowVal at x
  rw [AHeap.getK_eq] at x
  split at x
  · rename_i hg; cases x; exact d_load1 hg rfl
  · cases x
structure TabOk (h : AHeap) (bm fr N base len : Nat) : Prop where
  ex : ∃ M id off L, rowVal h bm = some (.ptr M 0) ∧ MemH h M id off len L N ∧ M < h.next ∧ id < h.next ∧ fr < len ∧ off + fr * 4096 + 4096 ≤ L ∧ base = off + fr * 4096
noncomputable def tabOf (h : AHeap) (bm fr : Nat) (k : Nat → Nat → Nat → Option (AV × AHeap)) : Option (AV × AHeap) := match rowVal h bm with
  | some (.ptr M 0) => match h.getK M with
    | some (.row _ _ _ _ (.vals [.sl id off len _])) => match h.getK id with
      | some (.row _ _ _ _ (.bytes L N)) => sel (Nat.blt M h.next) (sel (Nat.blt id h.next) (sel (Nat.blt fr len) (sel (Nat.ble (Nat.add (Nat.add off (Nat.mul fr 4096)) 4096) L) (k N (Nat.add off (Nat.mul fr 4096)) len) none) none) none) none
      | _ => none
    | _ => none
  | _ => none
theorem selN {α : Type} {b : Bool} {x : Option α} {p : α} (e : sel b x none = some p) : b = true ∧ x = some p := by
  cases b with
  | true => exact ⟨rfl, e⟩
  | false => cases e
theorem tabOf_ok {h : AHeap} {bm fr : Nat} {k : Nat → Nat → Nat → Option (AV × AHeap)} {p : AV × AHeap} (x : tabOf h bm fr k = some p) : ∃ N base len, TabOk h bm fr N base len ∧ k N base len = some p := by
  unfold tabOf at x
  rw [AHeap.getK_eq] at x
  split at x
  · rename_i M hr
    split at x
    · rename_i a b c d id off len' e hg
      split at x
      · rename_i a' b' c' d' L N hg2
        obtain ⟨c1, x⟩ := selN x
        obtain ⟨c2, x⟩ := selN x
        obtain ⟨c3, x⟩ := selN x
        obtain ⟨c4, x⟩ := selN x
        exact ⟨N, _, _, ⟨M, id, off, L, hr, ⟨⟨_, _, _, _, _, hg⟩, ⟨_, _, _, _, hg2⟩⟩, blt_of c1, blt_of c2, blt_of c3, Nat.le_of_ble_eq_true c4, rfl⟩, x⟩
      · cases x
    · cases x
  · cases x
theorem TabOk.bump {h : AHeap} {bm fr N base len : Nat} (t : TabOk h bm fr N base len) (c : Nat) : TabOk (h.bump c) bm fr N base len := by
  obtain ⟨M, id, off, L, a, b, h1, h2, h3, h4, h5⟩ := t.ex
  exact ⟨M, id, off, L, a, ⟨b.m, b.r⟩, Nat.lt_of_lt_of_le h1 (Nat.le_add_right _ _), Nat.lt_of_lt_of_le h2 (Nat.le_add_right _ _), h3, h4, h5⟩
noncomputable def nextNZ (X i : Nat) : Nat := sel (Nat.beq X 0) 512 (Nat.add i (Nat.div (Nat.log2 (Nat.xor X (Nat.land X (Nat.sub X 1)))) 64))
noncomputable def goOn (ih : AHeap → Option (AV × AHeap)) (r : Option (AV × AHeap)) : Option (AV × AHeap) := match r with
  | some (.bool true, h) => ih h
  | some (.bool false, h) => some (.bool false, h)
  | _ => none
noncomputable def yL (D : DSem) (b : Nat) (args : List AV) (again : AHeap → Option (AV × AHeap)) (h : AHeap) : Option (AV × AHeap) := match rowVal h b with
  | some y => goOn again (callK D (y :: args) h)
  | none => none
noncomputable def entL (D : DSem) (lv vpn by' bd : Nat) (w len : Nat) (again ih : AHeap → Option (AV × AHeap)) (h : AHeap) : Option (AV × AHeap) :=
  sel (Nat.beq lv 0)
    (sel (Nat.beq (kindM (flN w)) 2) (yL D by' [.int .i64 (Int.ofNat vpn), pteV (flN w) (ppN w)] again (AHeap.bump (AHeap.newK (AHeap.bump h 2) (pteRow (flN w) (ppN w))) 1)) (ih (AHeap.bump h 4)))
    (sel (sel (Nat.beq (kindM (flN w)) 1) (Nat.blt (ppN w) len) false) (yL D bd [.int .i64 (Int.ofNat (ppN w)), .int .i64 (Int.ofNat (Nat.sub lv 1)), .int .i64 (Int.ofNat vpn)] again (AHeap.bump h 4)) (ih (AHeap.bump h 4)))
noncomputable def kAt (D : DSem) (fr lv ah bm by' bd : Nat) (run : Nat → Nat → Nat → Nat → AHeap → Option (AV × AHeap)) (j N base len : Nat) (h : AHeap) : Option (AV × AHeap) :=
  sel (Nat.beq j 512) (some (.bool true, h))
    (entL D lv (Nat.add (Nat.mul ah 512) j) by' bd (wordN N (Nat.add base (Nat.mul 8 j))) len (fun h => tabOf h bm fr fun N base len => run (Nat.succ j) N base len h) (run (Nat.succ j) N base len) h)
noncomputable def kRun (D : DSem) (fr lv ah bm by' bd : Nat) (r : Nat) : Nat → Nat → Nat → Nat → AHeap → Option (AV × AHeap) := Nat.rec (motive := fun _ => Nat → Nat → Nat → Nat → AHeap → Option (AV × AHeap)) (fun _ _ _ _ _ => none)
  (fun _ ih i N base len h => (fun Y => (fun j => sel (Nat.ble i j) (sel (Nat.ble j 512) (sel (Nat.beq (Nat.mod Y (Nat.pow 2 (Nat.mul 64 (Nat.sub j i)))) 0) (kAt D fr lv ah bm by' bd ih j N base len (AHeap.bump h (Nat.mul 4 (Nat.sub j i)))) none) none) none)
    (nextNZ (Nat.mod Y (Nat.pow 2 (Nat.mul 64 (Nat.sub 512 i)))) i)) (Nat.shiftRight N (Nat.mul 8 (Nat.add base (Nat.mul 8 i))))) r
noncomputable def kDown (D : DSem) (args : List AV) (h : AHeap) : Option (AV × AHeap) := match args with
  | [.int .i64 (.ofNat fr), .int .i64 (.ofNat lv), .int .i64 (.ofNat ah), .ptr bm 0, .ptr by' 0, .ptr bd 0] => if ah < 2 ^ 40 ∧ lv < 3 then tabOf h bm fr fun N base len => kRun D fr lv ah bm by' bd 514 0 N base len h else none
  | _ => none
theorem callK_nj {D : DSem} {y : AV} {rest : List AV} {h : AHeap} {p : AV × AHeap} (x : callK D (y :: rest) h = some p) : y.notJunk = some y := by
  unfold callK at x
  split at x
  · rename_i e; cases e; rfl
  · rename_i e; cases e; rfl
  · cases x
theorem goOn_cases {ih : AHeap → Option (AV × AHeap)} {r : Option (AV × AHeap)} {p : AV × AHeap} (x : goOn ih r = some p) : (∃ h, r = some (.bool true, h) ∧ ih h = some p) ∨ (∃ h, r = some (.bool false, h) ∧ p = (.bool false, h)) := by
  unfold goOn at x
  split at x
  · exact .inl ⟨_, rfl, x⟩
  · cases x; exact .inr ⟨_, rfl, rfl⟩
  · cases x
theorem wordN_zero {N base i j t : Nat} (x : (N >>> (8 * (base + 8 * i))) % 2 ^ (64 * (j - i)) = 0) (h1 : i ≤ t) (h2 : t < j) : wordN N (base + 8 * t) = 0 := by
  obtain ⟨a, ha⟩ : ∃ a, t = i + a := ⟨t - i, by omega⟩
  obtain ⟨b, hb⟩ : ∃ b, j - i = a + 1 + b := ⟨j - i - a - 1, by omega⟩
  obtain ⟨Y, hY⟩ : ∃ Y, Y = N >>> (8 * (base + 8 * i)) := ⟨_, rfl⟩
  rw [← hY, hb] at x
  have e1 : N >>> (8 * (base + 8 * t)) = Y >>> (64 * a) := by
    rw [hY, ← Nat.shiftRight_add]
    congr 1
    omega
  show (N >>> (8 * (base + 8 * t))) % 2 ^ 64 = 0
  rw [e1, Nat.shiftRight_eq_div_pow]
  have hd : 2 ^ (64 * (a + 1 + b)) ∣ Y := Nat.dvd_of_mod_eq_zero x
  have hd2 : 2 ^ (64 * a) * 2 ^ 64 ∣ Y := by
    rw [← Nat.pow_add]
    exact Nat.dvd_trans (Nat.pow_dvd_pow 2 (by omega)) hd
  obtain ⟨c, hc⟩ := hd2
  rw [hc, Nat.mul_assoc, Nat.mul_div_cancel_left _ (Nat.two_pow_pos _)]
  exact Nat.mul_mod_right _ _
def KInv (D : DSem) (fr lv ah bm by' bd : Nat) (i : Nat) (h : AHeap) (p : AV × AHeap) : Prop :=
  ∃ j r N base len, TabOk h bm fr N base len ∧ i ≤ j ∧ j ≤ 512 ∧ (∀ t, i ≤ t → t < j → wordN N (base + 8 * t) = 0) ∧ kAt D fr lv ah bm by' bd (kRun D fr lv ah bm by' bd r) j N base len (h.bump (4 * (j - i))) = some p
theorem kRun_inv {D : DSem} {fr lv ah bm by' bd r i N base len : Nat} {h : AHeap} {p : AV × AHeap} (t : TabOk h bm fr N base len) (x : kRun D fr lv ah bm by' bd r i N base len h = some p) : i ≤ 512 ∧ KInv D fr lv ah bm by' bd i h p := by
  cases r with
  | zero => cases x
  | succ r =>
    obtain ⟨j, hj⟩ : ∃ j, j = nextNZ ((N >>> (8 * (base + 8 * i))) % 2 ^ (64 * (512 - i))) i := ⟨_, rfl⟩
    have x : sel (Nat.ble i j) (sel (Nat.ble j 512) (sel (Nat.beq ((N >>> (8 * (base + 8 * i))) % 2 ^ (64 * (j - i))) 0) (kAt D fr lv ah bm by' bd (kRun D fr lv ah bm by' bd r) j N base len (h.bump (4 * (j - i)))) none) none) none = some p := by rw [hj]; exact x
    obtain ⟨c1, x⟩ := selN x
    obtain ⟨c2, x⟩ := selN x
    obtain ⟨c3, x⟩ := selN x
    have c1 := Nat.le_of_ble_eq_true c1
    have c2 := Nat.le_of_ble_eq_true c2
    exact ⟨by omega, j, r, N, base, len, t, c1, c2, fun t h1 h2 => wordN_zero (Nat.eq_of_beq_eq_true c3) h1 h2, x⟩
theorem bump_bump {h : AHeap} {a b c : Nat} (e : a + b = c) : (h.bump a).bump b = h.bump c := by
  subst e
  show AHeap.mk _ _ = AHeap.mk _ _
  rw [show (h.bump a).next + b = h.next + (a + b) by show h.next + a + b = _; omega]
  rfl
structure LvS where
  i : Nat
  h : AHeap
set_option maxRecDepth 4000 in
theorem k_down (hO : OFree O) {D : DSem} (hD : DGood O tab D) {args : List AV} {h h' : AHeap} {v : AV} (x : kDown D args h = some (v, h')) : Runs O tab n_walk_Leaves_1_1 args h v h' := by
  unfold kDown at x
  split at x
  · rename_i fr lv ah bm by' bd
    split at x
    · rename_i hc
      obtain ⟨hah, hlv⟩ := hc
      obtain ⟨N0, base0, len0, t0, x⟩ := tabOf_ok x
      replace x := (kRun_inv t0 x).2
      clear t0
      refine runs_w (fun _ _ _ x => progI_call (hO.free _ rfl) rfl x) Njs rfl ?_
      (repeat (first | (show W _ _ _ _ _ _ (.code (cond _ _ _) :: _) _ _; first | refine W.ct ?_ | refine W.cf ?_) | (show W _ _ _ _ _ _ (.ins (cond _ _ _ :: _) :: _) _ _; first | refine W.gt ?_ | refine W.gf ?_) | (show W _ _ _ _ _ _ [] _ _; refine W.of (.done ?_)) | (apply W.of; constructor <;> first | (show W _ _ _ _ _ _ _ _ _) | (intro (al : Nat) h st; show W _ _ _ _ _ _ _ _ _) | (intro _ h st; show W _ _ _ _ _ _ _ _ _) | exact Sd)))
      refine W.loopd (fun y : LvS => [(0, .int .i64 (fr : Nat)), (1, .int .i64 (lv : Nat)), (2, .int .i64 (ah : Nat)), (3, .ptr bm 0), (4, .ptr by' 0), (5, .ptr bd 0), (15, .int .i64 (y.i : Nat))]) (fun y => y.h) (fun y => y.i ≤ 512 ∧ KInv D fr lv ah bm by' bd y.i y.h (v, h')) (fun y => 512 - y.i) ⟨0, h⟩ (by unfold rounds; show 512 < _; omega) Sbs rfl ⟨Nat.zero_le _, x⟩ ?_
      intro ⟨i, h⟩ ⟨hi, x⟩
      dsimp only at hi x ⊢
      obtain ⟨j, r, N, base, len, ht, hij, hj, hz, x⟩ := x
      by_cases hlt : i < 512
      · obtain ⟨M, id, off, L, hbm, hm, h1, h2, hn, hL, hbase⟩ := ht.ex
        obtain ⟨w, hw⟩ : ∃ w, w = wordN N (base + 8 * i) := ⟨_, rfl⟩
        have hwe : w = wordN N (off + fr * 4096 + 8 * i) := by rw [hw, hbase]
        obtain ⟨f, hf⟩ : ∃ f, f = flN w := ⟨_, rfl⟩
        obtain ⟨p, hp⟩ : ∃ p, p = ppN w := ⟨_, rfl⟩
        have hf63 : f < 2 ^ 63 := by rw [hf]; exact Nat.lt_of_lt_of_le (Nat.mod_lt _ (by decide)) (by decide)
        have hvpn : ((Nat.add (Nat.mul ah 512) i : Nat) : Int) = (ah : Int) * 512 + (i : Int) := by
          show ((ah * 512 + i : Nat) : Int) = _
          omega
        have g2 : (((h.bump 2).new (pteRow f p)).bump 1).get (h.next + 2) = some (pteRow f p) := AHeap.get_new_same (h.bump 2) _
        have hls : (∀ id o, h.get id = some o → id < h.next) → Less (h.bump 4) (((h.bump 2).new (pteRow f p)).bump 1) := fun hwf =>
          AHeap.bump_less hwf rfl fun a ha => AHeap.get_new_ne (h.bump 2) (pteRow f p) (by show h.next + 2 ≠ a; omega)
        -- an entry that leads on to nothing
        have next : (∀ t, i ≤ t → t < j → wordN N (base + 8 * t) = 0) → i < j → KInv D fr lv ah bm by' bd (i + 1) (h.bump 4) (v, h') := fun hz hlt2 =>
          ⟨j, r, N, base, len, ht.bump 4, hlt2, hj, fun t a b => hz t (by omega) b, by rw [bump_bump (show 4 + 4 * (j - (i + 1)) = 4 * (j - i) by omega)]; exact x⟩
        by_cases hl0 : lv = 0
        · (repeat (first | (show W _ _ _ _ _ _ (.code (cond _ _ _) :: _) _ _; first | refine W.ct ?_ | refine W.cf ?_) | (show W _ _ _ _ _ _ (.ins (cond _ _ _ :: _) :: _) _ _; first | refine W.gt ?_ | refine W.gf ?_) | (show W _ _ _ _ _ _ [] _ _; refine W.of (.done ?_)) | (apply W.of; constructor <;> first | (show W _ _ _ _ _ _ _ _ _) | (intro (al : Nat) h st; show W _ _ _ _ _ _ _ _ _) | (intro _ h st; show W _ _ _ _ _ _ _ _ _) | exact Sd)))
          rw [wrap64 (n := (ah : Int) * 512) (by omega) (by omega)]
          (repeat (first | (show W _ _ _ _ _ _ (.code (cond _ _ _) :: _) _ _; first | refine W.ct ?_ | refine W.cf ?_) | (show W _ _ _ _ _ _ (.ins (cond _ _ _ :: _) :: _) _ _; first | refine W.gt ?_ | refine W.gf ?_) | (show W _ _ _ _ _ _ [] _ _; refine W.of (.done ?_)) | (apply W.of; constructor <;> first | (show W _ _ _ _ _ _ _ _ _) | (intro (al : Nat) h st; show W _ _ _ _ _ _ _ _ _) | (intro _ h st; show W _ _ _ _ _ _ _ _ _) | exact Sd)))
          (repeat (first | (show W _ _ _ _ _ _ (.code (cond _ _ _) :: _) _ _; first | refine W.ct ?_ | refine W.cf ?_) | (show W _ _ _ _ _ _ (.ins (cond _ _ _ :: _) :: _) _ _; first | refine W.gt ?_ | refine W.gf ?_) | (show W _ _ _ _ _ _ [] _ _; refine W.of (.done ?_)) | (apply W.of; constructor <;> first | (show W _ _ _ _ _ _ _ _ _) | (intro (al : Nat) h st; show W _ _ _ _ _ _ _ _ _) | (intro _ h st; show W _ _ _ _ _ _ _ _ _) | exact Sd))); refine W.do (ho := (rowVal_load hbm)) (w := ?_)
          (repeat (first | (show W _ _ _ _ _ _ (.code (cond _ _ _) :: _) _ _; first | refine W.ct ?_ | refine W.cf ?_) | (show W _ _ _ _ _ _ (.ins (cond _ _ _ :: _) :: _) _ _; first | refine W.gt ?_ | refine W.gf ?_) | (show W _ _ _ _ _ _ [] _ _; refine W.of (.done ?_)) | (apply W.of; constructor <;> first | (show W _ _ _ _ _ _ _ _ _) | (intro (al : Nat) h st; show W _ _ _ _ _ _ _ _ _) | (intro _ h st; show W _ _ _ _ _ _ _ _ _) | exact Sd)))
          have hrd := b_read hO hm h1 h2 hn hlt hL hwe
          rw [← hf, ← hp] at hrd
          refine W.cx (hr := hrd) (w := ?_)
          refine W.dx (ho := x_alloc rfl rfl) (w := ?_)
          (repeat (first | (show W _ _ _ _ _ _ (.code (cond _ _ _) :: _) _ _; first | refine W.ct ?_ | refine W.cf ?_) | (show W _ _ _ _ _ _ (.ins (cond _ _ _ :: _) :: _) _ _; first | refine W.gt ?_ | refine W.gf ?_) | (show W _ _ _ _ _ _ [] _ _; refine W.of (.done ?_)) | (apply W.of; constructor <;> first | (show W _ _ _ _ _ _ _ _ _) | (intro (al : Nat) h st; show W _ _ _ _ _ _ _ _ _) | (intro _ h st; show W _ _ _ _ _ _ _ _ _) | exact Sd)))
          refine W.dx0 (ho := x_store (d := .vals [.int .i64 0, .int .i64 0]) (d' := .vals [.int .i64 (f : Nat), .int .i64 (p : Nat)]) (AHeap.get_new_same _ _) rfl rfl rfl) (w := ?_)
          rw [show ((h.bump 2).new (.row ty_api_PTE 2 false false (.vals [.int .i64 0, .int .i64 0]))).put (h.bump 2).next (.row ty_api_PTE 2 false false (.vals [.int .i64 (f : Nat), .int .i64 (p : Nat)])) = (h.bump 2).new (pteRow f p) from AHeap.new_put _ _ _, show (h.bump 2).next = h.next + 2 from rfl]
          (repeat (first | (show W _ _ _ _ _ _ (.code (cond _ _ _) :: _) _ _; first | refine W.ct ?_ | refine W.cf ?_) | (show W _ _ _ _ _ _ (.ins (cond _ _ _ :: _) :: _) _ _; first | refine W.gt ?_ | refine W.gf ?_) | (show W _ _ _ _ _ _ [] _ _; refine W.of (.done ?_)) | (apply W.of; constructor <;> first | (show W _ _ _ _ _ _ _ _ _) | (intro (al : Nat) h st; show W _ _ _ _ _ _ _ _ _) | (intro _ h st; show W _ _ _ _ _ _ _ _ _) | exact Sd))); refine W.do (ho := (d_loadn (v := pteV f p) (AHeap.get_new_same _ _) rfl)) (w := ?_)
          refine W.cx (hr := b_Kind hO hf63) (w := ?_)
          change W _ _ _ _ _ _ _ _ (((h.bump 2).new (pteRow f p)).bump 1)
          by_cases hlt2 : i < j
          · have hk : kindM f = 0 := by
              rw [hf, hw, hz i (Nat.le_refl _) hlt2]; rfl
            rw [hk]
            (repeat (first | (show W _ _ _ _ _ _ (.code (cond _ _ _) :: _) _ _; first | refine W.ct ?_ | refine W.cf ?_) | (show W _ _ _ _ _ _ (.ins (cond _ _ _ :: _) :: _) _ _; first | refine W.gt ?_ | refine W.gf ?_) | (show W _ _ _ _ _ _ [] _ _; refine W.of (.done ?_)) | (apply W.of; constructor <;> first | (show W _ _ _ _ _ _ _ _ _) | (intro (al : Nat) h st; show W _ _ _ _ _ _ _ _ _) | (intro _ h st; show W _ _ _ _ _ _ _ _ _) | exact Sd)))
            refine W.of (.lp ?_)
            exact ⟨⟨i + 1, h.bump 4⟩, by show 512 - (i + 1) < 512 - i; omega, ⟨hlt, next hz hlt2⟩, Sbs, hls⟩
          · obtain rfl : i = j := by omega
            unfold kAt at x
            rw [Nat.sub_self, Nat.mul_zero, show h.bump 0 = h from rfl, show wordN N (Nat.add base (Nat.mul 8 i)) = w from hw.symm] at x
            unfold entL at x
            rw [← hf, ← hp] at x
            rw [sel_eq, beqD, if_neg (by simp; omega), sel_eq, beqD, if_pos (by simpa using hl0), sel_eq, beqD] at x
            simp only [decide_eq_true_eq] at x
            by_cases hk : kindM f = 2
            · rw [if_pos hk] at x
              rw [hk]
              rw [AHeap.newK_eq] at x
              unfold yL at x
              split at x
              · rename_i y hy
                rcases goOn_cases x with ⟨h5, hcall, x⟩ | ⟨h5, hcall, x⟩
                · have hnj := callK_nj hcall
                  rw [show (Int.ofNat (Nat.add (Nat.mul ah 512) i)) = (ah : Int) * 512 + (i : Int) from hvpn] at hcall
                  obtain ⟨N5, base5, len5, t5, x⟩ := tabOf_ok x
                  obtain ⟨_, x⟩ := kRun_inv t5 x
                  (repeat (first | (show W _ _ _ _ _ _ (.code (cond _ _ _) :: _) _ _; first | refine W.ct ?_ | refine W.cf ?_) | (show W _ _ _ _ _ _ (.ins (cond _ _ _ :: _) :: _) _ _; first | refine W.gt ?_ | refine W.gf ?_) | (show W _ _ _ _ _ _ [] _ _; refine W.of (.done ?_)) | (apply W.of; constructor <;> first | (show W _ _ _ _ _ _ _ _ _) | (intro (al : Nat) h st; show W _ _ _ _ _ _ _ _ _) | (intro _ h st; show W _ _ _ _ _ _ _ _ _) | exact Sd))); refine W.do (ho := (rowVal_load hy)) (w := ?_)
                  (repeat (first | (show W _ _ _ _ _ _ (.code (cond _ _ _) :: _) _ _; first | refine W.ct ?_ | refine W.cf ?_) | (show W _ _ _ _ _ _ (.ins (cond _ _ _ :: _) :: _) _ _; first | refine W.gt ?_ | refine W.gf ?_) | (show W _ _ _ _ _ _ [] _ _; refine W.of (.done ?_)) | (apply W.of; constructor <;> first | (show W _ _ _ _ _ _ _ _ _) | (intro (al : Nat) h st; show W _ _ _ _ _ _ _ _ _) | (intro _ h st; show W _ _ _ _ _ _ _ _ _) | exact Sd)))
                  (repeat (first | (show W _ _ _ _ _ _ (.code (cond _ _ _) :: _) _ _; first | refine W.ct ?_ | refine W.cf ?_) | (show W _ _ _ _ _ _ (.ins (cond _ _ _ :: _) :: _) _ _; first | refine W.gt ?_ | refine W.gf ?_) | (show W _ _ _ _ _ _ [] _ _; refine W.of (.done ?_)) | (apply W.of; constructor <;> first | (show W _ _ _ _ _ _ _ _ _) | (intro (al : Nat) h st; show W _ _ _ _ _ _ _ _ _) | (intro _ h st; show W _ _ _ _ _ _ _ _ _) | exact Sd))); refine W.do (ho := (d_loadn g2 rfl)) (w := ?_)
                  (repeat (first | (show W _ _ _ _ _ _ (.code (cond _ _ _) :: _) _ _; first | refine W.ct ?_ | refine W.cf ?_) | (show W _ _ _ _ _ _ (.ins (cond _ _ _ :: _) :: _) _ _; first | refine W.gt ?_ | refine W.gf ?_) | (show W _ _ _ _ _ _ [] _ _; refine W.of (.done ?_)) | (apply W.of; constructor <;> first | (show W _ _ _ _ _ _ _ _ _) | (intro (al : Nat) h st; show W _ _ _ _ _ _ _ _ _) | (intro _ h st; show W _ _ _ _ _ _ _ _ _) | exact Sd)))
                  refine W.eff (eff_callK hD hcall) rfl rfl fun v' h'' ⟨e1, e2⟩ => ?_
                  subst e1; subst e2
                  refine nj ?_
                  (repeat (first | (show W _ _ _ _ _ _ (.code (cond _ _ _) :: _) _ _; first | refine W.ct ?_ | refine W.cf ?_) | (show W _ _ _ _ _ _ (.ins (cond _ _ _ :: _) :: _) _ _; first | refine W.gt ?_ | refine W.gf ?_) | (show W _ _ _ _ _ _ [] _ _; refine W.of (.done ?_)) | (apply W.of; constructor <;> first | (show W _ _ _ _ _ _ _ _ _) | (intro (al : Nat) h st; show W _ _ _ _ _ _ _ _ _) | (intro _ h st; show W _ _ _ _ _ _ _ _ _) | exact Sd)))
                  refine W.of (.lp ?_)
                  exact ⟨⟨i + 1, h''⟩, by show 512 - (i + 1) < 512 - i; omega, ⟨hlt, x⟩, Sbs, fun _ => Less.refl _⟩
                · have hnj := callK_nj hcall
                  rw [show (Int.ofNat (Nat.add (Nat.mul ah 512) i)) = (ah : Int) * 512 + (i : Int) from hvpn] at hcall
                  cases x
                  (repeat (first | (show W _ _ _ _ _ _ (.code (cond _ _ _) :: _) _ _; first | refine W.ct ?_ | refine W.cf ?_) | (show W _ _ _ _ _ _ (.ins (cond _ _ _ :: _) :: _) _ _; first | refine W.gt ?_ | refine W.gf ?_) | (show W _ _ _ _ _ _ [] _ _; refine W.of (.done ?_)) | (apply W.of; constructor <;> first | (show W _ _ _ _ _ _ _ _ _) | (intro (al : Nat) h st; show W _ _ _ _ _ _ _ _ _) | (intro _ h st; show W _ _ _ _ _ _ _ _ _) | exact Sd))); refine W.do (ho := (rowVal_load hy)) (w := ?_)
                  (repeat (first | (show W _ _ _ _ _ _ (.code (cond _ _ _) :: _) _ _; first | refine W.ct ?_ | refine W.cf ?_) | (show W _ _ _ _ _ _ (.ins (cond _ _ _ :: _) :: _) _ _; first | refine W.gt ?_ | refine W.gf ?_) | (show W _ _ _ _ _ _ [] _ _; refine W.of (.done ?_)) | (apply W.of; constructor <;> first | (show W _ _ _ _ _ _ _ _ _) | (intro (al : Nat) h st; show W _ _ _ _ _ _ _ _ _) | (intro _ h st; show W _ _ _ _ _ _ _ _ _) | exact Sd)))
                  (repeat (first | (show W _ _ _ _ _ _ (.code (cond _ _ _) :: _) _ _; first | refine W.ct ?_ | refine W.cf ?_) | (show W _ _ _ _ _ _ (.ins (cond _ _ _ :: _) :: _) _ _; first | refine W.gt ?_ | refine W.gf ?_) | (show W _ _ _ _ _ _ [] _ _; refine W.of (.done ?_)) | (apply W.of; constructor <;> first | (show W _ _ _ _ _ _ _ _ _) | (intro (al : Nat) h st; show W _ _ _ _ _ _ _ _ _) | (intro _ h st; show W _ _ _ _ _ _ _ _ _) | exact Sd))); refine W.do (ho := (d_loadn g2 rfl)) (w := ?_)
                  (repeat (first | (show W _ _ _ _ _ _ (.code (cond _ _ _) :: _) _ _; first | refine W.ct ?_ | refine W.cf ?_) | (show W _ _ _ _ _ _ (.ins (cond _ _ _ :: _) :: _) _ _; first | refine W.gt ?_ | refine W.gf ?_) | (show W _ _ _ _ _ _ [] _ _; refine W.of (.done ?_)) | (apply W.of; constructor <;> first | (show W _ _ _ _ _ _ _ _ _) | (intro (al : Nat) h st; show W _ _ _ _ _ _ _ _ _) | (intro _ h st; show W _ _ _ _ _ _ _ _ _) | exact Sd)))
                  refine W.eff (eff_callK hD hcall) rfl rfl fun v' h'' ⟨e1, e2⟩ => ?_
                  subst e1; subst e2
                  refine nj ?_
                  (repeat (first | (show W _ _ _ _ _ _ (.code (cond _ _ _) :: _) _ _; first | refine W.ct ?_ | refine W.cf ?_) | (show W _ _ _ _ _ _ (.ins (cond _ _ _ :: _) :: _) _ _; first | refine W.gt ?_ | refine W.gf ?_) | (show W _ _ _ _ _ _ [] _ _; refine W.of (.done ?_)) | (apply W.of; constructor <;> first | (show W _ _ _ _ _ _ _ _ _) | (intro (al : Nat) h st; show W _ _ _ _ _ _ _ _ _) | (intro _ h st; show W _ _ _ _ _ _ _ _ _) | exact Sd)))
                  exact ⟨_, rfl, rfl, rfl⟩
              · cases x
            · rw [if_neg hk] at x
              obtain ⟨_, x⟩ := kRun_inv (ht.bump 4) x
              obtain ⟨kd, hkd⟩ : ∃ kd, kd = kindM f := ⟨_, rfl⟩
              rw [← hkd]
              rw [← hkd] at hk
              (repeat (first | (show W _ _ _ _ _ _ (.code (cond _ _ _) :: _) _ _; first | refine W.ct ?_ | refine W.cf ?_) | (show W _ _ _ _ _ _ (.ins (cond _ _ _ :: _) :: _) _ _; first | refine W.gt ?_ | refine W.gf ?_) | (show W _ _ _ _ _ _ [] _ _; refine W.of (.done ?_)) | (apply W.of; constructor <;> first | (show W _ _ _ _ _ _ _ _ _) | (intro (al : Nat) h st; show W _ _ _ _ _ _ _ _ _) | (intro _ h st; show W _ _ _ _ _ _ _ _ _) | exact Sd)))
              refine W.of (.lp ?_)
              exact ⟨⟨i + 1, h.bump 4⟩, by show 512 - (i + 1) < 512 - i; omega, ⟨hlt, x⟩, Sbs, hls⟩
        · (repeat (first | (show W _ _ _ _ _ _ (.code (cond _ _ _) :: _) _ _; first | refine W.ct ?_ | refine W.cf ?_) | (show W _ _ _ _ _ _ (.ins (cond _ _ _ :: _) :: _) _ _; first | refine W.gt ?_ | refine W.gf ?_) | (show W _ _ _ _ _ _ [] _ _; refine W.of (.done ?_)) | (apply W.of; constructor <;> first | (show W _ _ _ _ _ _ _ _ _) | (intro (al : Nat) h st; show W _ _ _ _ _ _ _ _ _) | (intro _ h st; show W _ _ _ _ _ _ _ _ _) | exact Sd)))
          rw [wrap64 (n := (ah : Int) * 512) (by omega) (by omega)]
          (repeat (first | (show W _ _ _ _ _ _ (.code (cond _ _ _) :: _) _ _; first | refine W.ct ?_ | refine W.cf ?_) | (show W _ _ _ _ _ _ (.ins (cond _ _ _ :: _) :: _) _ _; first | refine W.gt ?_ | refine W.gf ?_) | (show W _ _ _ _ _ _ [] _ _; refine W.of (.done ?_)) | (apply W.of; constructor <;> first | (show W _ _ _ _ _ _ _ _ _) | (intro (al : Nat) h st; show W _ _ _ _ _ _ _ _ _) | (intro _ h st; show W _ _ _ _ _ _ _ _ _) | exact Sd)))
          (repeat (first | (show W _ _ _ _ _ _ (.code (cond _ _ _) :: _) _ _; first | refine W.ct ?_ | refine W.cf ?_) | (show W _ _ _ _ _ _ (.ins (cond _ _ _ :: _) :: _) _ _; first | refine W.gt ?_ | refine W.gf ?_) | (show W _ _ _ _ _ _ [] _ _; refine W.of (.done ?_)) | (apply W.of; constructor <;> first | (show W _ _ _ _ _ _ _ _ _) | (intro (al : Nat) h st; show W _ _ _ _ _ _ _ _ _) | (intro _ h st; show W _ _ _ _ _ _ _ _ _) | exact Sd))); refine W.do (ho := (rowVal_load hbm)) (w := ?_)
          (repeat (first | (show W _ _ _ _ _ _ (.code (cond _ _ _) :: _) _ _; first | refine W.ct ?_ | refine W.cf ?_) | (show W _ _ _ _ _ _ (.ins (cond _ _ _ :: _) :: _) _ _; first | refine W.gt ?_ | refine W.gf ?_) | (show W _ _ _ _ _ _ [] _ _; refine W.of (.done ?_)) | (apply W.of; constructor <;> first | (show W _ _ _ _ _ _ _ _ _) | (intro (al : Nat) h st; show W _ _ _ _ _ _ _ _ _) | (intro _ h st; show W _ _ _ _ _ _ _ _ _) | exact Sd)))
          have hbl := b_below hO hm h1 h2 hn hlt hL hwe
          rw [← hf, ← hp] at hbl
          refine W.cx (hr := hbl) (w := ?_)
          obtain ⟨ok, hok⟩ : ∃ ok, ok = sel (Nat.beq (kindM f) 1) (Nat.blt p len) false := ⟨_, rfl⟩
          rw [← hok]
          by_cases hlt2 : i < j
          · have hk : kindM f = 0 := by
              rw [hf, hw, hz i (Nat.le_refl _) hlt2]; rfl
            rw [hk] at hok
            obtain rfl : ok = false := hok
            (repeat (first | (show W _ _ _ _ _ _ (.code (cond _ _ _) :: _) _ _; first | refine W.ct ?_ | refine W.cf ?_) | (show W _ _ _ _ _ _ (.ins (cond _ _ _ :: _) :: _) _ _; first | refine W.gt ?_ | refine W.gf ?_) | (show W _ _ _ _ _ _ [] _ _; refine W.of (.done ?_)) | (apply W.of; constructor <;> first | (show W _ _ _ _ _ _ _ _ _) | (intro (al : Nat) h st; show W _ _ _ _ _ _ _ _ _) | (intro _ h st; show W _ _ _ _ _ _ _ _ _) | exact Sd)))
            refine W.of (.lp ?_)
            exact ⟨⟨i + 1, h.bump 4⟩, by show 512 - (i + 1) < 512 - i; omega, ⟨hlt, next hz hlt2⟩, Sbs, fun _ => Less.refl _⟩
          · obtain rfl : i = j := by omega
            unfold kAt at x
            rw [Nat.sub_self, Nat.mul_zero, show h.bump 0 = h from rfl, show wordN N (Nat.add base (Nat.mul 8 i)) = w from hw.symm] at x
            unfold entL at x
            rw [← hf, ← hp, ← hok] at x
            rw [sel_eq, beqD, if_neg (by simp; omega), sel_eq, beqD, if_neg (by simpa using hl0)] at x
            cases ok with
            | true =>
              rw [sel_true] at x
              unfold yL at x
              split at x
              · rename_i y hy
                rcases goOn_cases x with ⟨h5, hcall, x⟩ | ⟨h5, hcall, x⟩
                · have hnj := callK_nj hcall
                  rw [show (Int.ofNat (Nat.add (Nat.mul ah 512) i)) = (ah : Int) * 512 + (i : Int) from hvpn, show (Int.ofNat (Nat.sub lv 1)) = (lv : Int) - 1 by show ((lv - 1 : Nat) : Int) = _; omega] at hcall
                  obtain ⟨N5, base5, len5, t5, x⟩ := tabOf_ok x
                  obtain ⟨_, x⟩ := kRun_inv t5 x
                  (repeat (first | (show W _ _ _ _ _ _ (.code (cond _ _ _) :: _) _ _; first | refine W.ct ?_ | refine W.cf ?_) | (show W _ _ _ _ _ _ (.ins (cond _ _ _ :: _) :: _) _ _; first | refine W.gt ?_ | refine W.gf ?_) | (show W _ _ _ _ _ _ [] _ _; refine W.of (.done ?_)) | (apply W.of; constructor <;> first | (show W _ _ _ _ _ _ _ _ _) | (intro (al : Nat) h st; show W _ _ _ _ _ _ _ _ _) | (intro _ h st; show W _ _ _ _ _ _ _ _ _) | exact Sd))); refine W.do (ho := (rowVal_load hy)) (w := ?_)
                  (repeat (first | (show W _ _ _ _ _ _ (.code (cond _ _ _) :: _) _ _; first | refine W.ct ?_ | refine W.cf ?_) | (show W _ _ _ _ _ _ (.ins (cond _ _ _ :: _) :: _) _ _; first | refine W.gt ?_ | refine W.gf ?_) | (show W _ _ _ _ _ _ [] _ _; refine W.of (.done ?_)) | (apply W.of; constructor <;> first | (show W _ _ _ _ _ _ _ _ _) | (intro (al : Nat) h st; show W _ _ _ _ _ _ _ _ _) | (intro _ h st; show W _ _ _ _ _ _ _ _ _) | exact Sd)))
                  refine W.eff (eff_callK hD hcall) rfl rfl fun v' h'' ⟨e1, e2⟩ => ?_
                  subst e1; subst e2
                  refine nj ?_
                  (repeat (first | (show W _ _ _ _ _ _ (.code (cond _ _ _) :: _) _ _; first | refine W.ct ?_ | refine W.cf ?_) | (show W _ _ _ _ _ _ (.ins (cond _ _ _ :: _) :: _) _ _; first | refine W.gt ?_ | refine W.gf ?_) | (show W _ _ _ _ _ _ [] _ _; refine W.of (.done ?_)) | (apply W.of; constructor <;> first | (show W _ _ _ _ _ _ _ _ _) | (intro (al : Nat) h st; show W _ _ _ _ _ _ _ _ _) | (intro _ h st; show W _ _ _ _ _ _ _ _ _) | exact Sd)))
                  refine W.of (.lp ?_)
                  exact ⟨⟨i + 1, h''⟩, by show 512 - (i + 1) < 512 - i; omega, ⟨hlt, x⟩, Sbs, fun _ => Less.refl _⟩
                · have hnj := callK_nj hcall
                  rw [show (Int.ofNat (Nat.add (Nat.mul ah 512) i)) = (ah : Int) * 512 + (i : Int) from hvpn, show (Int.ofNat (Nat.sub lv 1)) = (lv : Int) - 1 by show ((lv - 1 : Nat) : Int) = _; omega] at hcall
                  cases x
                  (repeat (first | (show W _ _ _ _ _ _ (.code (cond _ _ _) :: _) _ _; first | refine W.ct ?_ | refine W.cf ?_) | (show W _ _ _ _ _ _ (.ins (cond _ _ _ :: _) :: _) _ _; first | refine W.gt ?_ | refine W.gf ?_) | (show W _ _ _ _ _ _ [] _ _; refine W.of (.done ?_)) | (apply W.of; constructor <;> first | (show W _ _ _ _ _ _ _ _ _) | (intro (al : Nat) h st; show W _ _ _ _ _ _ _ _ _) | (intro _ h st; show W _ _ _ _ _ _ _ _ _) | exact Sd))); refine W.do (ho := (rowVal_load hy)) (w := ?_)
                  (repeat (first | (show W _ _ _ _ _ _ (.code (cond _ _ _) :: _) _ _; first | refine W.ct ?_ | refine W.cf ?_) | (show W _ _ _ _ _ _ (.ins (cond _ _ _ :: _) :: _) _ _; first | refine W.gt ?_ | refine W.gf ?_) | (show W _ _ _ _ _ _ [] _ _; refine W.of (.done ?_)) | (apply W.of; constructor <;> first | (show W _ _ _ _ _ _ _ _ _) | (intro (al : Nat) h st; show W _ _ _ _ _ _ _ _ _) | (intro _ h st; show W _ _ _ _ _ _ _ _ _) | exact Sd)))
                  refine W.eff (eff_callK hD hcall) rfl rfl fun v' h'' ⟨e1, e2⟩ => ?_
                  subst e1; subst e2
                  refine nj ?_
                  (repeat (first | (show W _ _ _ _ _ _ (.code (cond _ _ _) :: _) _ _; first | refine W.ct ?_ | refine W.cf ?_) | (show W _ _ _ _ _ _ (.ins (cond _ _ _ :: _) :: _) _ _; first | refine W.gt ?_ | refine W.gf ?_) | (show W _ _ _ _ _ _ [] _ _; refine W.of (.done ?_)) | (apply W.of; constructor <;> first | (show W _ _ _ _ _ _ _ _ _) | (intro (al : Nat) h st; show W _ _ _ _ _ _ _ _ _) | (intro _ h st; show W _ _ _ _ _ _ _ _ _) | exact Sd)))
                  exact ⟨_, rfl, rfl, rfl⟩
              · cases x
            | false =>
              rw [sel_false] at x
              obtain ⟨_, x⟩ := kRun_inv (ht.bump 4) x
              (repeat (first | (show W _ _ _ _ _ _ (.code (cond _ _ _) :: _) _ _; first | refine W.ct ?_ | refine W.cf ?_) | (show W _ _ _ _ _ _ (.ins (cond _ _ _ :: _) :: _) _ _; first | refine W.gt ?_ | refine W.gf ?_) | (show W _ _ _ _ _ _ [] _ _; refine W.of (.done ?_)) | (apply W.of; constructor <;> first | (show W _ _ _ _ _ _ _ _ _) | (intro (al : Nat) h st; show W _ _ _ _ _ _ _ _ _) | (intro _ h st; show W _ _ _ _ _ _ _ _ _) | exact Sd)))
              refine W.of (.lp ?_)
              exact ⟨⟨i + 1, h.bump 4⟩, by show 512 - (i + 1) < 512 - i; omega, ⟨hlt, x⟩, Sbs, fun _ => Less.refl _⟩
      · obtain rfl : i = 512 := by omega
        obtain rfl : j = 512 := by omega
        cases x
        (repeat (first | (show W _ _ _ _ _ _ (.code (cond _ _ _) :: _) _ _; first | refine W.ct ?_ | refine W.cf ?_) | (show W _ _ _ _ _ _ (.ins (cond _ _ _ :: _) :: _) _ _; first | refine W.gt ?_ | refine W.gf ?_) | (show W _ _ _ _ _ _ [] _ _; refine W.of (.done ?_)) | (apply W.of; constructor <;> first | (show W _ _ _ _ _ _ _ _ _) | (intro (al : Nat) h st; show W _ _ _ _ _ _ _ _ _) | (intro _ h st; show W _ _ _ _ _ _ _ _ _) | exact Sd)))
        exact ⟨_, rfl, rfl, rfl⟩
    · cases x
  · cases x
end Go.Proofs.YtlkfclgkinaibaaGreat

namespace Go.Proofs.YtlkfclgkinaibaaGreat
variable {O : Nat → Option FSpec}
noncomputable def wordP (N o i : Nat) : Nat := Nat.mod (Nat.shiftRight (Nat.mod (Nat.shiftRight N (Nat.mul 8 o)) (Nat.pow 2 32768)) (Nat.mul 64 i)) (Nat.pow 2 64)
theorem wordQ {N o i p : Nat} (hp : 64 * i + 64 ≤ p) : Nat.mod (Nat.shiftRight (Nat.mod (Nat.shiftRight N (Nat.mul 8 o)) (Nat.pow 2 p)) (Nat.mul 64 i)) (Nat.pow 2 64) = wordN N (o + 8 * i) := by
  unfold wordN
  refine Nat.eq_of_testBit_eq fun j => ?_
  show ((((N >>> (8 * o)) % 2 ^ p) >>> (64 * i)) % 2 ^ 64).testBit j = ((N >>> (8 * (o + 8 * i))) % 2 ^ 64).testBit j
  simp only [Nat.testBit_mod_two_pow, Nat.testBit_shiftRight]
  by_cases hj : j < 64
  · have h1 : 64 * i + j < p := by omega
    have h2 : 8 * o + (64 * i + j) = 8 * (o + 8 * i) + j := by omega
    simp only [hj, h1, h2, decide_true, Bool.true_and]
  · simp only [hj, decide_false, Bool.false_and]
theorem wordP_eq {N o i : Nat} (hi : i < 512) : wordP N o i = wordN N (o + 8 * i) := by
  unfold wordP
  generalize hp : 32768 = p
  exact wordQ (by omega)
noncomputable def memWord (h : AHeap) (M fr i : Nat) : Option (Nat × Nat) := match h.getK M with
  | some (.row _ _ _ _ (.vals [.sl id off len _])) => match h.getK id with
    | some (.row _ _ _ _ (.bytes L N)) => if M < h.next ∧ id < h.next ∧ fr < len ∧ i < 512 ∧ off + fr * 4096 + 4096 ≤ L then some (wordP N (off + fr * 4096) i, len) else none
    | _ => none
  | _ => none
theorem memWord_ok {h : AHeap} {M fr i w len : Nat} (x : memWord h M fr i = some (w, len)) : ∃ id off L N, MemH h M id off len L N ∧ M < h.next ∧ id < h.next ∧ fr < len ∧ i < 512 ∧ off + fr * 4096 + 4096 ≤ L ∧ w = wordN N (off + fr * 4096 + 8 * i) := by
  unfold memWord at x
  rw [AHeap.getK_eq] at x
  split at x
  · rename_i a b c d id off len' e hg
    split at x
    · rename_i a' b' c' d' L N hg2
      split at x
      · rename_i hc
        cases x
        exact ⟨id, off, L, N, ⟨⟨_, _, _, _, _, hg⟩, ⟨_, _, _, _, hg2⟩⟩, hc.1, hc.2.1, hc.2.2.1, hc.2.2.2.1, hc.2.2.2.2, wordP_eq hc.2.2.2.1⟩
      · cases x
    · cases x
  · cases x
noncomputable def kBelow (args : List AV) (h : AHeap) : Option (AV × AHeap) := match args with
  | [.ptr M 0, .int .i64 (.ofNat n), .int .i64 (.ofNat i)] => match memWord h M n i with
    | some (w, len) => some (.tuple [.int .i64 (Int.ofNat (ppN w)), .bool (sel (Nat.beq (kindM (flN w)) 1) (Nat.blt (ppN w) len) false)], AHeap.bump h 4)
    | none => none
  | _ => none
theorem kBelow_ok (hO : OFree O) {args : List AV} {h h' : AHeap} {v : AV} (x : kBelow args h = some (v, h')) : Runs O tab n_walk_below args h v h' := by
  unfold kBelow at x
  split at x
  · split at x
    · rename_i w len hw
      obtain ⟨id, off, L, N, hm, h1, h2, hn, hi, hL, hwe⟩ := memWord_ok hw
      cases x
      exact b_below hO hm h1 h2 hn hi hL hwe
    · cases x
  · cases x
noncomputable def kRead (args : List AV) (h : AHeap) : Option (AV × AHeap) := match args with
  | [.ptr M 0, .int .i64 (.ofNat n), .int .i64 (.ofNat i)] => match memWord h M n i with
    | some (w, _) => some (pteV (flN w) (ppN w), AHeap.bump h 2)
    | none => none
  | _ => none
theorem kRead_ok (hO : OFree O) {args : List AV} {h h' : AHeap} {v : AV} (x : kRead args h = some (v, h')) : Runs O tab n_walk_read args h v h' := by
  unfold kRead at x
  split at x
  · split at x
    · rename_i w len hw
      obtain ⟨id, off, L, N, hm, h1, h2, hn, hi, hL, hwe⟩ := memWord_ok hw
      cases x
      exact b_read hO hm h1 h2 hn hi hL hwe
    · cases x
  · cases x
noncomputable def kWord (args : List AV) (h : AHeap) : Option (AV × AHeap) := match args with
  | [.ptr M 0, .int .i64 (.ofNat n), .int .i64 (.ofNat i)] => match memWord h M n i with
    | some (w, _) => some (.tuple [.int .u64 (Int.ofNat w), .bool true], h)
    | none => none
  | _ => none
theorem kWord_ok (hO : OFree O) {args : List AV} {h h' : AHeap} {v : AV} (x : kWord args h = some (v, h')) : Runs O tab n_phys_Memory_Word args h v h' := by
  unfold kWord at x
  split at x
  · split at x
    · rename_i w len hw
      obtain ⟨id, off, L, N, hm, h1, h2, hn, hi, hL, hwe⟩ := memWord_ok hw
      cases x
      rw [hwe]
      exact k_Word hO hm hn hi hL
    · cases x
  · cases x
noncomputable def kDecode (args : List AV) (h : AHeap) : Option (AV × AHeap) := match args with
  | [.int .u64 (.ofNat v)] => sel (Nat.blt v 18446744073709551616) (some (pteV (flN v) (ppN v), AHeap.bump h 1)) none
  | _ => none
theorem kDecode_ok (hO : OFree O) {args : List AV} {h h' : AHeap} {v : AV} (x : kDecode args h = some (v, h')) : Runs O tab n_pte_Decode args h v h' := by
  unfold kDecode at x
  split at x
  · rw [sel_eq, bltD] at x
    split at x
    · rename_i hv
      cases x
      exact b_Decode hO (of_decide_eq_true hv)
    · cases x
  · cases x
noncomputable def kKind (args : List AV) (h : AHeap) : Option (AV × AHeap) := match args with
  | [.agg [.int .i64 (.ofNat f), .int .i64 (.ofNat _)]] => sel (Nat.blt f 9223372036854775808) (some (.int .i64 (Int.ofNat (kindM f)), AHeap.bump h 1)) none
  | _ => none
theorem kKind_ok (hO : OFree O) {args : List AV} {h h' : AHeap} {v : AV} (x : kKind args h = some (v, h')) : Runs O tab n_pte_Kind args h v h' := by
  unfold kKind at x
  split at x
  · rw [sel_eq, bltD] at x
    split at x
    · rename_i hv
      cases x
      exact b_Kind hO (of_decide_eq_true hv)
    · cases x
  · cases x
noncomputable def bareF (N base : Nat) (r : Nat) : Nat → Bool := Nat.rec (motive := fun _ => Nat → Bool) (fun _ => true) (fun _ ih i => sel (Nat.beq (wordN N (base + 8 * i)) 0) (ih (Nat.succ i)) false) r
noncomputable def kBare (args : List AV) (h : AHeap) : Option (AV × AHeap) := match args with
  | [.ptr X 0, .int .i64 (.ofNat n)] => match h.getK X with
    | some (.row _ _ _ _ (.vals (.ptr M 0 :: _))) => match h.getK M with
      | some (.row _ _ _ _ (.vals [.sl id off len _])) => match h.getK id with
        | some (.row _ _ _ _ (.bytes L N)) => if n < len ∧ off + n * 4096 + 4096 ≤ L then some (.bool (bareF N (off + n * 4096) 512 0), h) else none
        | _ => none
      | _ => none
    | _ => none
  | _ => none
theorem bareF_steps (N base : Nat) : ∃ B : Nat → Bool, (∀ i, i < 512 → B i = if wordN N (base + 8 * i) = 0 then B (i + 1) else false) ∧ (B 512 = true ∧ True) ∧ bareF N base 512 0 = B 0 := by
  refine ⟨fun i => bareF N base (512 - i) i, fun i hi => ?_, ⟨(by show bareF N base (512 - 512) 512 = true; rw [Nat.sub_self]; rfl), trivial⟩, (by show bareF N base 512 0 = bareF N base (512 - 0) 0; rw [Nat.sub_zero])⟩
  have h : ∀ r, bareF N base (r + 1) i = if wordN N (base + 8 * i) = 0 then bareF N base r (i + 1) else false := by
    intro r
    show sel (Nat.beq (wordN N (base + 8 * i)) 0) (bareF N base r (i + 1)) false = _
    rw [sel_eq, beqD]
    simp only [decide_eq_true_eq]
  have e : 512 - i = (512 - (i + 1)) + 1 := by omega
  show bareF N base (512 - i) i = _
  rw [e]
  exact h _
set_option maxRecDepth 8000 in
theorem kBare_ok (hO : OFree O) {args : List AV} {h h' : AHeap} {v : AV} (x : kBare args h = some (v, h')) : Runs O tab n_pmap_Map_bare args h v h' := by
  unfold kBare at x
  rw [AHeap.getK_eq] at x
  split at x
  · rename_i X n
    split at x
    · rename_i e0 es0 s0 ro0 M rest hX
      split at x
      · rename_i a b c d id off len e hg
        split at x
        · rename_i a' b' c' d' L N hg2
          split at x
          · rename_i hc
            cases x
            obtain ⟨B, hB, hB1, hB0⟩ := bareF_steps N (off + n * 4096)
            rw [hB0]
            clear hB0
            have hm : MemH h M id off len L N := ⟨⟨_, _, _, _, _, hg⟩, ⟨_, _, _, _, hg2⟩⟩
            refine runs_w (fun _ _ _ x => progI_call (hO.free _ rfl) rfl x) Njs rfl ?_
            (repeat (first | (show W _ _ _ _ _ _ (.code (cond _ _ _) :: _) _ _; first | refine W.ct ?_ | refine W.cf ?_) | (show W _ _ _ _ _ _ (.ins (cond _ _ _ :: _) :: _) _ _; first | refine W.gt ?_ | refine W.gf ?_) | (show W _ _ _ _ _ _ [] _ _; refine W.of (.done ?_)) | (apply W.of; constructor <;> first | (show W _ _ _ _ _ _ _ _ _) | (intro (al : Nat) h st; show W _ _ _ _ _ _ _ _ _) | (intro _ h st; show W _ _ _ _ _ _ _ _ _) | exact Sd)))
            refine W.loopx (fun i : Nat => [(0, .ptr X 0), (1, .int .i64 (n : Nat)), (8, .int .i64 (i : Nat))]) (fun _ => h) (fun i => i ≤ 512 ∧ (B i = B 0 ∧ True)) (fun i => 512 - i) 0 (by unfold rounds; omega) Sbs rfl ⟨Nat.zero_le _, rfl, trivial⟩ ?_
            intro i ⟨hi, hb⟩
            by_cases hlt : i < 512
            · obtain ⟨w, hw⟩ : ∃ w, w = wordN N (off + n * 4096 + 8 * i) := ⟨_, rfl⟩
              have hbs : (B i = if w = 0 then B (i + 1) else false) ∧ True := ⟨hw ▸ hB i hlt, trivial⟩
              have hq1 : decide ((i : Int) < 512) = true := d_t (by omega)
              (repeat (first | (show W _ _ _ _ _ _ (.code (cond _ _ _) :: _) _ _; first | refine W.ct ?_ | refine W.cf ?_) | (show W _ _ _ _ _ _ (.ins (cond _ _ _ :: _) :: _) _ _; first | refine W.gt ?_ | refine W.gf ?_) | (show W _ _ _ _ _ _ [] _ _; refine W.of (.done ?_)) | (apply W.of; constructor <;> first | (show W _ _ _ _ _ _ _ _ _) | (intro (al : Nat) h st; show W _ _ _ _ _ _ _ _ _) | (intro _ h st; show W _ _ _ _ _ _ _ _ _) | exact Sd)))
              refine W.do (ho := d_load1 hX rfl) (w := ?_)
              (repeat (first | (show W _ _ _ _ _ _ (.code (cond _ _ _) :: _) _ _; first | refine W.ct ?_ | refine W.cf ?_) | (show W _ _ _ _ _ _ (.ins (cond _ _ _ :: _) :: _) _ _; first | refine W.gt ?_ | refine W.gf ?_) | (show W _ _ _ _ _ _ [] _ _; refine W.of (.done ?_)) | (apply W.of; constructor <;> first | (show W _ _ _ _ _ _ _ _ _) | (intro (al : Nat) h st; show W _ _ _ _ _ _ _ _ _) | (intro _ h st; show W _ _ _ _ _ _ _ _ _) | exact Sd)))
              have hwr := k_Word hO hm hc.1 hlt hc.2
              rw [← hw] at hwr
              refine W.cx (hr := hwr) (w := ?_)
              clear hwr
              by_cases h0 : w = 0
              · rw [if_pos h0] at hbs
                have hq2 : ((w : Int) != 0) = false := nq_f (by omega)
                (repeat (first | (show W _ _ _ _ _ _ (.code (cond _ _ _) :: _) _ _; first | refine W.ct ?_ | refine W.cf ?_) | (show W _ _ _ _ _ _ (.ins (cond _ _ _ :: _) :: _) _ _; first | refine W.gt ?_ | refine W.gf ?_) | (show W _ _ _ _ _ _ [] _ _; refine W.of (.done ?_)) | (apply W.of; constructor <;> first | (show W _ _ _ _ _ _ _ _ _) | (intro (al : Nat) h st; show W _ _ _ _ _ _ _ _ _) | (intro _ h st; show W _ _ _ _ _ _ _ _ _) | exact Sd)))
                refine W.of (.lp ?_)
                exact ⟨i + 1, by show 512 - (i + 1) < 512 - i; omega, ⟨hlt, hbs.1.symm.trans hb.1, trivial⟩, Sbs, rfl⟩
              · rw [if_neg h0] at hbs
                have hq2 : ((w : Int) != 0) = true := nq_t (by omega)
                rw [← hb.1, hbs.1]
                (repeat (first | (show W _ _ _ _ _ _ (.code (cond _ _ _) :: _) _ _; first | refine W.ct ?_ | refine W.cf ?_) | (show W _ _ _ _ _ _ (.ins (cond _ _ _ :: _) :: _) _ _; first | refine W.gt ?_ | refine W.gf ?_) | (show W _ _ _ _ _ _ [] _ _; refine W.of (.done ?_)) | (apply W.of; constructor <;> first | (show W _ _ _ _ _ _ _ _ _) | (intro (al : Nat) h st; show W _ _ _ _ _ _ _ _ _) | (intro _ h st; show W _ _ _ _ _ _ _ _ _) | exact Sd)))
                exact ⟨_, rfl, rfl, rfl⟩
            · obtain rfl : i = 512 := by omega
              rw [← hb.1, hB1.1]
              (repeat (first | (show W _ _ _ _ _ _ (.code (cond _ _ _) :: _) _ _; first | refine W.ct ?_ | refine W.cf ?_) | (show W _ _ _ _ _ _ (.ins (cond _ _ _ :: _) :: _) _ _; first | refine W.gt ?_ | refine W.gf ?_) | (show W _ _ _ _ _ _ [] _ _; refine W.of (.done ?_)) | (apply W.of; constructor <;> first | (show W _ _ _ _ _ _ _ _ _) | (intro (al : Nat) h st; show W _ _ _ _ _ _ _ _ _) | (intro _ h st; show W _ _ _ _ _ _ _ _ _) | exact Sd)))
              exact ⟨_, rfl, rfl, rfl⟩
          · cases x
        · cases x
      · cases x
    · cases x
  · cases x
end Go.Proofs.YtlkfclgkinaibaaGreat

namespace Go.Proofs.YtlkfclgkinaibaaGreat
noncomputable def envE (N : Nat) (s : Env) : ET := List.rec (motive := fun _ => ET) (newE N) (fun p _ t => ET.put t p.1 p.2) s
noncomputable def slotsLt (N : Nat) (s : Env) : Bool := List.rec (motive := fun _ => Bool) true (fun p _ b => sel (Nat.blt p.1 N) b false) s
theorem slotsLt_cons {N t : Nat} {v : AV} {s : Env} (h : slotsLt N ((t, v) :: s) = true) : t < N ∧ slotsLt N s = true := by
  have h : sel (Nat.blt t N) (slotsLt N s) false = true := h
  rw [sel_eq] at h
  split at h
  · rename_i ht; exact ⟨blt_of ht, h⟩
  · cases h
theorem envE_get {N : Nat} : ∀ {s : Env}, slotsLt N s = true → Good N (envE N s) ∧ ∀ t, (envE N s).get t = (look s t).getD .junk
  | [], _ => ⟨(newE_good N).1, fun t => (show (newE N).get t = .junk from ET.full_get _ _)⟩
  | (k, v) :: s, h => by
    obtain ⟨hk, h⟩ := slotsLt_cons h
    obtain ⟨g, p⟩ := envE_get h
    obtain ⟨D, h1, h2⟩ := g.full
    refine ⟨(g.put hk).1, fun t => ?_⟩
    show (ET.put (envE N s) k v).get t = _
    rw [ET.get_put h1 (by omega), look_cons]
    by_cases e : t = k
    · rw [if_pos e, if_pos e.symm]; rfl
    · rw [if_neg e, if_neg (fun q => e q.symm), p t]
theorem envE_rl {N : Nat} {s : Env} {e : List AV} (h : slotsLt N s = true) (hl : e.length = N) (hc : Cov s e) : Rl N false (envE N s) e := by
  obtain ⟨g, p⟩ := envE_get h
  refine ⟨g, hl, fun t v hv => ?_, fun q => by cases q⟩
  rw [p t] at hv
  cases hs : look s t with
  | none => rw [hs] at hv; cases hv
  | some w =>
    rw [hs] at hv
    obtain ⟨rfl, _⟩ := notJunk_of hv
    exact (hc t w hs).1
def AllGet (E : ET) : Env → Prop
  | [] => True
  | (t, v) :: s => E.get t = v ∧ v.notJunk = some v ∧ AllGet E s
theorem AllGet.look {E : ET} : ∀ {s : Env} {t : Nat} {v : AV}, AllGet E s → look s t = some v → E.get t = v ∧ v.notJunk = some v
  | [], t, v, _, h => by cases h
  | (k, w) :: s, t, v, ⟨h1, h2, h3⟩, h => by
    rw [look_cons] at h
    split at h
    · rename_i e; subst e; cases h; exact ⟨h1, h2⟩
    · exact h3.look h
theorem Rl.to {N : Nat} {ex : Bool} {E : ET} {e : List AV} {s : Env} (g : Rl N ex E e) (ha : AllGet E s) : Cov s e := fun t v h => by
  obtain ⟨h1, h2⟩ := ha.look h
  exact ⟨g.cov t v (by rw [h1]; exact h2), h2⟩
section
variable {O : Nat → Option FSpec} {T : BT} {N : Nat} {Q : AExit → Env → AHeap → Prop} {k : List KI} {s s1 : Env} {h h1 : AHeap} {D : DSem} {E1 : ET} {x y : AExit}
noncomputable def stackX (D : DSem) (N : Nat) : List KI → AExit → ET → AHeap → XF
  | [], x, E, h => some (x, E, h)
  | .code c :: k, .normal, E, h => bindX ((codeB N false c).run D E h normX) (fun E h => stackX D N k .normal E h) (fun i E h => stackX D N k (.exit i) E h) (fun E h => stackX D N k .ret E h)
  | .ins is :: k, .normal, E, h => (insB N is).run D E h fun E h => stackX D N k .normal E h
  | .blk id :: k, .exit i, E, h => sel (Nat.beq i id) (stackX D N k .normal E h) (stackX D N k (.exit i) E h)
  | .code _ :: k, .exit i, E, h => stackX D N k (.exit i) E h
  | .ins _ :: k, .exit i, E, h => stackX D N k (.exit i) E h
  | .code _ :: k, .ret, E, h => stackX D N k .ret E h
  | .ins _ :: k, .ret, E, h => stackX D N k .ret E h
  | .blk _ :: k, .ret, E, h => stackX D N k .ret E h
  | .blk _ :: k, .normal, E, h => stackX D N k .normal E h
  | _, _, _, _ => none
theorem stackX_ok (hD : DGood O T D) {Q : AExit → List AV → AHeap → Prop} (hQ : ∀ e1, Rl N false E1 e1 → Q y e1 h1) : ∀ (k : List KI) (x : AExit) (E : ET) (e : List AV) (h : AHeap), Rl N false E e → stackX D N k x E h = some (y, E1, h1) → postK (progI O T) none N k Q x e h
  | [], x, E, e, h, g, r => by
    simp only [stackX] at r
    cases r
    exact hQ e g
  | .code c :: k, .normal, E, e, h, g, r => by
    simp only [stackX] at r
    obtain ⟨z, E2, h2, e2, r⟩ := bindX_some r
    obtain ⟨z', E3, e3, h3, g3, p3, q⟩ := codeB_ok c D E e h normX _ g e2
    show execW (progI O T) none c e h _
    refine execD_ok hD p3 ?_
    cases z' <;> (cases q; exact stackX_ok hD hQ k _ _ _ _ g3 r)
  | .ins is :: k, .normal, E, e, h, g, r => by
    simp only [stackX] at r
    obtain ⟨E2, e2, h2, g2, p2, r⟩ := insB_ok g r
    show runInsW (progI O T) is e h _
    exact runInsD_ok hD p2 (stackX_ok hD hQ k _ _ _ _ g2 r)
  | .blk id :: k, .exit i, E, e, h, g, r => by
    simp only [stackX] at r
    rw [sel_eq, beqD] at r
    show (if i = id then _ else _)
    split at r
    · rename_i hi; rw [if_pos (of_decide_eq_true hi)]; exact stackX_ok hD hQ k _ _ _ _ g r
    · rename_i hi; rw [if_neg (fun q => hi (decide_eq_true q))]; exact stackX_ok hD hQ k _ _ _ _ g r
  | .code _ :: k, .exit i, E, e, h, g, r => stackX_ok hD hQ k _ _ _ _ g (by simpa only [stackX] using r)
  | .ins _ :: k, .exit i, E, e, h, g, r => stackX_ok hD hQ k _ _ _ _ g (by simpa only [stackX] using r)
  | .code _ :: k, .ret, E, e, h, g, r => stackX_ok hD hQ k _ _ _ _ g (by simpa only [stackX] using r)
  | .ins _ :: k, .ret, E, e, h, g, r => stackX_ok hD hQ k _ _ _ _ g (by simpa only [stackX] using r)
  | .blk _ :: k, .ret, E, e, h, g, r => stackX_ok hD hQ k _ _ _ _ g (by simpa only [stackX] using r)
  | .blk _ :: k, .normal, E, e, h, g, r => stackX_ok hD hQ k _ _ _ _ g (by simpa only [stackX] using r)
  | .dis _ :: _, .normal, _, _, _, _, r => by simp only [stackX] at r; cases r
  | .dis _ :: _, .exit _, _, _, _, _, r => by simp only [stackX] at r; cases r
  | .dis _ :: _, .ret, _, _, _, _, r => by simp only [stackX] at r; cases r
  | .ag _ :: _, .normal, _, _, _, _, r => by simp only [stackX] at r; cases r
  | .ag _ :: _, .exit _, _, _, _, _, r => by simp only [stackX] at r; cases r
  | .ag _ :: _, .ret, _, _, _, _, r => by simp only [stackX] at r; cases r
  | .lp _ :: _, .normal, _, _, _, _, r => by simp only [stackX] at r; cases r
  | .lp _ :: _, .exit _, _, _, _, _, r => by simp only [stackX] at r; cases r
  | .lp _ :: _, .ret, _, _, _, _, r => by simp only [stackX] at r; cases r
theorem W.fin (hD : DGood O T D) {E : ET} (he : ∀ e, e.length = N → Cov s e → Rl N false E e) (run : stackX D N k x E h = some (y, E1, h1)) (ha : AllGet E1 s1) (hq : Q y s1 h1) : W O T none N Q x k s h := ⟨fun e hl hc =>
  stackX_ok hD (fun _ g => ⟨s1, g.len, g.to ha, hq⟩) k x E e h (he e hl hc) run⟩
end
end Go.Proofs.YtlkfclgkinaibaaGreat

namespace Go.Proofs.YtlkfclgkinaibaaGreat
variable {O : Nat → Option FSpec}
structure PoolH (h : AHeap) (P id off len : Nat) (cs : List AV) : Prop where
  p : ∃ e es s ro cap tl, h.get P = some (.row e es s ro (.vals (.sl id off len cap :: tl)))
  r : ∃ e es s ro, h.get id = some (.row e es s ro (.vals cs))
noncomputable def poolOf {α : Type} (h : AHeap) (P : Nat) (k : Nat → Nat → Nat → List AV → Option α) : Option α := match h.getK P with
  | some (.row _ _ _ _ (.vals (.sl id off len _ :: _))) => match h.getK id with
    | some (.row _ _ _ _ (.vals cs)) => k id off len cs
    | _ => none
  | _ => none
theorem poolOf_ok {α : Type} {h : AHeap} {P : Nat} {k : Nat → Nat → Nat → List AV → Option α} {x : α} (e : poolOf h P k = some x) : ∃ id off len cs, PoolH h P id off len cs ∧ k id off len cs = some x := by
  unfold poolOf at e
  rw [AHeap.getK_eq] at e
  split at e
  · rename_i hg
    split at e
    · rename_i hg2
      exact ⟨_, _, _, _, ⟨⟨_, _, _, _, _, _, hg⟩, ⟨_, _, _, _, hg2⟩⟩, e⟩
    · cases e
  · cases e
theorem sub5 {cs : List AV} {o : Nat} {a b c d e : AV} {r : List AV} (h : cs.drop o = a :: b :: c :: d :: e :: r) : (Dat.vals cs).sub o 5 = some (.agg [a, b, c, d, e]) ∧ cs.drop (o + 5) = r := by
  have hl : (cs.drop o).length = r.length + 5 := by rw [h]; rfl
  rw [List.length_drop] at hl
  constructor
  · simp only [Dat.sub]
    rw [if_pos (by omega), h]
    rfl
  · rw [← List.drop_drop, h]; rfl
section
variable {h : AHeap} {P id off len : Nat} {cs : List AV}
theorem f_made (hO : OFree O) (hp : PoolH h P id off len cs) (h0 : 0 < len) (hl : len < 2 ^ 40) : Runs O tab n_frames_Pool_made [.ptr P 0] h (.bool true) h := by
  obtain ⟨e, es, s, ro, cap, tl, hP⟩ := hp.p
  refine runs_w (fun _ _ _ x => progI_call (hO.free _ rfl) rfl x) Njs rfl ?_
  (repeat (first | (show W _ _ _ _ _ _ (.code (cond _ _ _) :: _) _ _; first | refine W.ct ?_ | refine W.cf ?_) | (show W _ _ _ _ _ _ (.ins (cond _ _ _ :: _) :: _) _ _; first | refine W.gt ?_ | refine W.gf ?_) | (show W _ _ _ _ _ _ [] _ _; refine W.of (.done ?_)) | (apply W.of; constructor <;> first | (show W _ _ _ _ _ _ _ _ _) | (intro (al : Nat) h st; show W _ _ _ _ _ _ _ _ _) | (intro _ h st; show W _ _ _ _ _ _ _ _ _) | exact Sd)))
  (repeat (first | (show W _ _ _ _ _ _ (.code (cond _ _ _) :: _) _ _; first | refine W.ct ?_ | refine W.cf ?_) | (show W _ _ _ _ _ _ (.ins (cond _ _ _ :: _) :: _) _ _; first | refine W.gt ?_ | refine W.gf ?_) | (show W _ _ _ _ _ _ [] _ _; refine W.of (.done ?_)) | (apply W.of; constructor <;> first | (show W _ _ _ _ _ _ _ _ _) | (intro (al : Nat) h st; show W _ _ _ _ _ _ _ _ _) | (intro _ h st; show W _ _ _ _ _ _ _ _ _) | exact Sd))); refine W.do (ho := (d_load1 hP rfl)) (w := ?_)
  (repeat (first | (show W _ _ _ _ _ _ (.code (cond _ _ _) :: _) _ _; first | refine W.ct ?_ | refine W.cf ?_) | (show W _ _ _ _ _ _ (.ins (cond _ _ _ :: _) :: _) _ _; first | refine W.gt ?_ | refine W.gf ?_) | (show W _ _ _ _ _ _ [] _ _; refine W.of (.done ?_)) | (apply W.of; constructor <;> first | (show W _ _ _ _ _ _ _ _ _) | (intro (al : Nat) h st; show W _ _ _ _ _ _ _ _ _) | (intro _ h st; show W _ _ _ _ _ _ _ _ _) | exact Sd)))
  exact ⟨_, rfl, congrArg AV.bool (d_t (by omega)), rfl⟩
noncomputable def cntF (c : Nat) (n : Nat) : List AV → Nat → Option Nat := Nat.rec (motive := fun _ => List AV → Nat → Option Nat) (fun _ acc => some acc)
  (fun _ ih l acc => match l with
    | .int .i64 (.ofNat x) :: _ :: _ :: _ :: _ :: r => ih r (sel (Nat.beq x c) (Nat.succ acc) acc)
    | _ => none) n
structure CtS where
  i : Nat
  acc : Nat
  l : List AV
theorem f_Count (hO : OFree O) (hp : PoolH h P id off len cs) {c k : Nat} (h0 : 0 < len) (hl : len < 2 ^ 40) (hc : c < 2 ^ 40) (hk : cntF c len (cs.drop off) 0 = some k) : Runs O tab n_frames_Pool_Count [.ptr P 0, .int .i64 (c : Nat)] h (.int .i64 (k : Nat)) (h.bump len) := by
  obtain ⟨e, es, s, ro, cap, tl, hP⟩ := hp.p
  obtain ⟨e2, es2, s2, ro2, hA⟩ := hp.r
  refine runs_w (fun _ _ _ x => progI_call (hO.free _ rfl) rfl x) Njs rfl ?_
  (repeat (first | (show W _ _ _ _ _ _ (.code (cond _ _ _) :: _) _ _; first | refine W.ct ?_ | refine W.cf ?_) | (show W _ _ _ _ _ _ (.ins (cond _ _ _ :: _) :: _) _ _; first | refine W.gt ?_ | refine W.gf ?_) | (show W _ _ _ _ _ _ [] _ _; refine W.of (.done ?_)) | (apply W.of; constructor <;> first | (show W _ _ _ _ _ _ _ _ _) | (intro (al : Nat) h st; show W _ _ _ _ _ _ _ _ _) | (intro _ h st; show W _ _ _ _ _ _ _ _ _) | exact Sd)))
  refine W.cx (hr := f_made hO hp h0 hl) (w := ?_)
  (repeat (first | (show W _ _ _ _ _ _ (.code (cond _ _ _) :: _) _ _; first | refine W.ct ?_ | refine W.cf ?_) | (show W _ _ _ _ _ _ (.ins (cond _ _ _ :: _) :: _) _ _; first | refine W.gt ?_ | refine W.gf ?_) | (show W _ _ _ _ _ _ [] _ _; refine W.of (.done ?_)) | (apply W.of; constructor <;> first | (show W _ _ _ _ _ _ _ _ _) | (intro (al : Nat) h st; show W _ _ _ _ _ _ _ _ _) | (intro _ h st; show W _ _ _ _ _ _ _ _ _) | exact Sd)))
  (repeat (first | (show W _ _ _ _ _ _ (.code (cond _ _ _) :: _) _ _; first | refine W.ct ?_ | refine W.cf ?_) | (show W _ _ _ _ _ _ (.ins (cond _ _ _ :: _) :: _) _ _; first | refine W.gt ?_ | refine W.gf ?_) | (show W _ _ _ _ _ _ [] _ _; refine W.of (.done ?_)) | (apply W.of; constructor <;> first | (show W _ _ _ _ _ _ _ _ _) | (intro (al : Nat) h st; show W _ _ _ _ _ _ _ _ _) | (intro _ h st; show W _ _ _ _ _ _ _ _ _) | exact Sd))); refine W.do (ho := (d_load1 hP rfl)) (w := ?_)
  (repeat (first | (show W _ _ _ _ _ _ (.code (cond _ _ _) :: _) _ _; first | refine W.ct ?_ | refine W.cf ?_) | (show W _ _ _ _ _ _ (.ins (cond _ _ _ :: _) :: _) _ _; first | refine W.gt ?_ | refine W.gf ?_) | (show W _ _ _ _ _ _ [] _ _; refine W.of (.done ?_)) | (apply W.of; constructor <;> first | (show W _ _ _ _ _ _ _ _ _) | (intro (al : Nat) h st; show W _ _ _ _ _ _ _ _ _) | (intro _ h st; show W _ _ _ _ _ _ _ _ _) | exact Sd)))
  refine W.loopd (fun y : CtS => [(1, .int .i64 (c : Nat)), (5, .int .i64 (y.acc : Nat)), (14, .sl id off len cap), (15, .int .i64 (len : Nat)), (16, .int .i64 (y.i : Nat))]) (fun y => h.bump y.i) (fun y => y.i ≤ len ∧ y.acc ≤ y.i ∧ cs.drop (off + y.i * 5) = y.l ∧ cntF c (len - y.i) y.l y.acc = some k) (fun y => len - y.i) ⟨0, 0, cs.drop off⟩ (by unfold rounds; show len - 0 < _; omega) Sbs rfl ⟨Nat.zero_le _, Nat.zero_le _, by rw [Nat.zero_mul, Nat.add_zero], hk⟩ ?_
  intro ⟨i, acc, l⟩ ⟨hi, ha, hd, hx⟩
  dsimp only at hi ha hd hx ⊢
  by_cases hlt : i < len
  · obtain ⟨r, hr⟩ : ∃ r, len - i = r + 1 := ⟨len - i - 1, by omega⟩
    have hr2 : r = len - (i + 1) := by omega
    rw [hr] at hx
    change (match l with
      | .int .i64 (.ofNat x) :: _ :: _ :: _ :: _ :: t => cntF c r t (sel (Nat.beq x c) (Nat.succ acc) acc)
      | _ => none) = _ at hx
    split at hx
    · rename_i x a1 a2 a3 a4 t
      obtain ⟨hsub, hdrop⟩ := sub5 hd
      have hix : Does (.indexs 5) [.sl id off len cap, .int .i64 (i : Nat)] (h.bump i) (.ptr id (off + i * 5)) (h.bump i) := ⟨rfl, by
        simp only [aop]; rw [if_pos ⟨by omega, by omega⟩, Int.toNat_natCast]⟩
      have hA2 : (h.bump i).get id = some (.row e2 es2 s2 ro2 (.vals cs)) := hA
      (repeat (first | (show W _ _ _ _ _ _ (.code (cond _ _ _) :: _) _ _; first | refine W.ct ?_ | refine W.cf ?_) | (show W _ _ _ _ _ _ (.ins (cond _ _ _ :: _) :: _) _ _; first | refine W.gt ?_ | refine W.gf ?_) | (show W _ _ _ _ _ _ [] _ _; refine W.of (.done ?_)) | (apply W.of; constructor <;> first | (show W _ _ _ _ _ _ _ _ _) | (intro (al : Nat) h st; show W _ _ _ _ _ _ _ _ _) | (intro _ h st; show W _ _ _ _ _ _ _ _ _) | exact Sd)))
      (repeat (first | (show W _ _ _ _ _ _ (.code (cond _ _ _) :: _) _ _; first | refine W.ct ?_ | refine W.cf ?_) | (show W _ _ _ _ _ _ (.ins (cond _ _ _ :: _) :: _) _ _; first | refine W.gt ?_ | refine W.gf ?_) | (show W _ _ _ _ _ _ [] _ _; refine W.of (.done ?_)) | (apply W.of; constructor <;> first | (show W _ _ _ _ _ _ _ _ _) | (intro (al : Nat) h st; show W _ _ _ _ _ _ _ _ _) | (intro _ h st; show W _ _ _ _ _ _ _ _ _) | exact Sd))); refine W.do (ho := hix) (w := ?_)
      (repeat (first | (show W _ _ _ _ _ _ (.code (cond _ _ _) :: _) _ _; first | refine W.ct ?_ | refine W.cf ?_) | (show W _ _ _ _ _ _ (.ins (cond _ _ _ :: _) :: _) _ _; first | refine W.gt ?_ | refine W.gf ?_) | (show W _ _ _ _ _ _ [] _ _; refine W.of (.done ?_)) | (apply W.of; constructor <;> first | (show W _ _ _ _ _ _ _ _ _) | (intro (al : Nat) h st; show W _ _ _ _ _ _ _ _ _) | (intro _ h st; show W _ _ _ _ _ _ _ _ _) | exact Sd))); refine W.do (ho := (d_loadn hA2 hsub)) (w := ?_)
      refine W.dx (ho := x_alloc rfl rfl) (w := ?_)
      (repeat (first | (show W _ _ _ _ _ _ (.code (cond _ _ _) :: _) _ _; first | refine W.ct ?_ | refine W.cf ?_) | (show W _ _ _ _ _ _ (.ins (cond _ _ _ :: _) :: _) _ _; first | refine W.gt ?_ | refine W.gf ?_) | (show W _ _ _ _ _ _ [] _ _; refine W.of (.done ?_)) | (apply W.of; constructor <;> first | (show W _ _ _ _ _ _ _ _ _) | (intro (al : Nat) h st; show W _ _ _ _ _ _ _ _ _) | (intro _ h st; show W _ _ _ _ _ _ _ _ _) | exact Sd)))
      refine W.dx0 (ho := x_store (d := .vals [.int .i64 0, .int .i64 0, .int .i64 0, .int .i64 0, .int .i64 0]) (d' := .vals [.int .i64 (Int.ofNat x), a1, a2, a3, a4]) (AHeap.get_new_same _ _) rfl rfl rfl) (w := ?_)
      have hrow : ∀ o : AObj, (((h.bump i).new o).put (h.bump i).next (.row ty_frames_Frame 5 false false (.vals [.int .i64 (Int.ofNat x), a1, a2, a3, a4]))).get (h.bump i).next = some (.row ty_frames_Frame 5 false false (.vals [.int .i64 (Int.ofNat x), a1, a2, a3, a4])) := fun o => AHeap.get_put_same _ _ _
      have hls : ∀ o o' : AObj, (∀ id o, (h.bump i).get id = some o → id < (h.bump i).next) → Less (h.bump (i + 1)) (((h.bump i).new o).put (h.bump i).next o') := fun o o' hwf => by
        rw [← bump_bump (h := h) (show i + 1 = i + 1 from rfl)]
        exact AHeap.bump_less hwf rfl fun a ha => by
          rw [AHeap.get_put_ne _ _ (by omega), AHeap.get_new_ne _ _ (by omega)]
      (repeat (first | (show W _ _ _ _ _ _ (.code (cond _ _ _) :: _) _ _; first | refine W.ct ?_ | refine W.cf ?_) | (show W _ _ _ _ _ _ (.ins (cond _ _ _ :: _) :: _) _ _; first | refine W.gt ?_ | refine W.gf ?_) | (show W _ _ _ _ _ _ [] _ _; refine W.of (.done ?_)) | (apply W.of; constructor <;> first | (show W _ _ _ _ _ _ _ _ _) | (intro (al : Nat) h st; show W _ _ _ _ _ _ _ _ _) | (intro _ h st; show W _ _ _ _ _ _ _ _ _) | exact Sd))); refine W.do (ho := (d_load1 (hrow _) rfl)) (w := ?_)
      (repeat (first | (show W _ _ _ _ _ _ (.code (cond _ _ _) :: _) _ _; first | refine W.ct ?_ | refine W.cf ?_) | (show W _ _ _ _ _ _ (.ins (cond _ _ _ :: _) :: _) _ _; first | refine W.gt ?_ | refine W.gf ?_) | (show W _ _ _ _ _ _ [] _ _; refine W.of (.done ?_)) | (apply W.of; constructor <;> first | (show W _ _ _ _ _ _ _ _ _) | (intro (al : Nat) h st; show W _ _ _ _ _ _ _ _ _) | (intro _ h st; show W _ _ _ _ _ _ _ _ _) | exact Sd)))
      by_cases hq : x = c
      · have hx2 : cntF c r t (acc + 1) = some k := by
          rw [sel_eq, beqD, if_pos (by simpa using hq)] at hx; exact hx
        have hq2 : ((Int.ofNat x : Int) == (c : Int)) = true := q_t (by subst hq; rfl)
        (repeat (first | (show W _ _ _ _ _ _ (.code (cond _ _ _) :: _) _ _; first | refine W.ct ?_ | refine W.cf ?_) | (show W _ _ _ _ _ _ (.ins (cond _ _ _ :: _) :: _) _ _; first | refine W.gt ?_ | refine W.gf ?_) | (show W _ _ _ _ _ _ [] _ _; refine W.of (.done ?_)) | (apply W.of; constructor <;> first | (show W _ _ _ _ _ _ _ _ _) | (intro (al : Nat) h st; show W _ _ _ _ _ _ _ _ _) | (intro _ h st; show W _ _ _ _ _ _ _ _ _) | exact Sd)))
        refine W.of (.lp ?_)
        exact ⟨⟨i + 1, acc + 1, t⟩, by show len - (i + 1) < len - i; omega, ⟨hlt, by show acc + 1 ≤ i + 1; omega, by show cs.drop (off + (i + 1) * 5) = t; rw [show off + (i + 1) * 5 = off + i * 5 + 5 by omega]; exact hdrop, by show cntF c (len - (i + 1)) t (acc + 1) = some k; rw [← hr2]; exact hx2⟩, Sbs, hls _ _⟩
      · have hx2 : cntF c r t acc = some k := by
          rw [sel_eq, beqD, if_neg (by simpa using hq)] at hx; exact hx
        have hq2 : ((Int.ofNat x : Int) == (c : Int)) = false := q_f (fun e => hq (Int.ofNat.inj e))
        (repeat (first | (show W _ _ _ _ _ _ (.code (cond _ _ _) :: _) _ _; first | refine W.ct ?_ | refine W.cf ?_) | (show W _ _ _ _ _ _ (.ins (cond _ _ _ :: _) :: _) _ _; first | refine W.gt ?_ | refine W.gf ?_) | (show W _ _ _ _ _ _ [] _ _; refine W.of (.done ?_)) | (apply W.of; constructor <;> first | (show W _ _ _ _ _ _ _ _ _) | (intro (al : Nat) h st; show W _ _ _ _ _ _ _ _ _) | (intro _ h st; show W _ _ _ _ _ _ _ _ _) | exact Sd)))
        refine W.of (.lp ?_)
        exact ⟨⟨i + 1, acc, t⟩, by show len - (i + 1) < len - i; omega, ⟨hlt, by show acc ≤ i + 1; omega, by show cs.drop (off + (i + 1) * 5) = t; rw [show off + (i + 1) * 5 = off + i * 5 + 5 by omega]; exact hdrop, by show cntF c (len - (i + 1)) t acc = some k; rw [← hr2]; exact hx2⟩, Sbs, hls _ _⟩
    · cases hx
  · obtain rfl : i = len := by omega
    rw [Nat.sub_self] at hx
    cases hx
    (repeat (first | (show W _ _ _ _ _ _ (.code (cond _ _ _) :: _) _ _; first | refine W.ct ?_ | refine W.cf ?_) | (show W _ _ _ _ _ _ (.ins (cond _ _ _ :: _) :: _) _ _; first | refine W.gt ?_ | refine W.gf ?_) | (show W _ _ _ _ _ _ [] _ _; refine W.of (.done ?_)) | (apply W.of; constructor <;> first | (show W _ _ _ _ _ _ _ _ _) | (intro (al : Nat) h st; show W _ _ _ _ _ _ _ _ _) | (intro _ h st; show W _ _ _ _ _ _ _ _ _) | exact Sd)))
    exact ⟨_, rfl, rfl, rfl⟩
theorem PoolH.new (hp : PoolH h P id off len cs) (h1 : P < h.next) (h2 : id < h.next) (o : AObj) : PoolH (h.new o) P id off len cs := by
  obtain ⟨⟨e, es, s, ro, cap, tl, a⟩, ⟨e', es', s', ro', b⟩⟩ := hp
  exact ⟨⟨e, es, s, ro, cap, tl, by rw [AHeap.get_new_ne _ _ (by omega)]; exact a⟩, ⟨e', es', s', ro', by rw [AHeap.get_new_ne _ _ (by omega)]; exact b⟩⟩
theorem f_Get (hO : OFree O) (hp : PoolH h P id off len cs) (h1 : P < h.next) (h2 : id < h.next) {n : Nat} {a b c d e : AV} {r : List AV} (hn : n < len) (hl : len < 2 ^ 40) (hd : cs.drop (off + n * 5) = a :: b :: c :: d :: e :: r) : Runs O tab n_frames_Pool_Get [.ptr P 0, .int .i64 (n : Nat)] h (.tuple [.agg [a, b, c, d, e], .bool true]) (h.bump 1) := by
  obtain ⟨hsub, hdrop⟩ := sub5 hd
  refine runs_wl (hO.free _ rfl) rfl Njs rfl ?_
  (repeat (first | (show W _ _ _ _ _ _ (.code (cond _ _ _) :: _) _ _; first | refine W.ct ?_ | refine W.cf ?_) | (show W _ _ _ _ _ _ (.ins (cond _ _ _ :: _) :: _) _ _; first | refine W.gt ?_ | refine W.gf ?_) | (show W _ _ _ _ _ _ [] _ _; refine W.of (.done ?_)) | (apply W.of; constructor <;> first | (show W _ _ _ _ _ _ _ _ _) | (intro (al : Nat) h st; show W _ _ _ _ _ _ _ _ _) | (intro _ h st; show W _ _ _ _ _ _ _ _ _) | exact Sd)))
  refine W.dx (ho := x_alloc rfl rfl) (w := ?_)
  (repeat (first | (show W _ _ _ _ _ _ (.code (cond _ _ _) :: _) _ _; first | refine W.ct ?_ | refine W.cf ?_) | (show W _ _ _ _ _ _ (.ins (cond _ _ _ :: _) :: _) _ _; first | refine W.gt ?_ | refine W.gf ?_) | (show W _ _ _ _ _ _ [] _ _; refine W.of (.done ?_)) | (apply W.of; constructor <;> first | (show W _ _ _ _ _ _ _ _ _) | (intro (al : Nat) h st; show W _ _ _ _ _ _ _ _ _) | (intro _ h st; show W _ _ _ _ _ _ _ _ _) | exact Sd)))
  obtain ⟨g, hg⟩ : ∃ g, g = h.new (.row ty_frames_Frame 5 false false (.vals [.int .i64 0, .int .i64 0, .int .i64 0, .int .i64 0, .int .i64 0])) := ⟨_, rfl⟩
  have hpg : PoolH g P id off len cs := hg ▸ hp.new h1 h2 _
  have hgX : g.get h.next = some (.row ty_frames_Frame 5 false false (.vals [.int .i64 0, .int .i64 0, .int .i64 0, .int .i64 0, .int .i64 0])) := by rw [hg]; exact AHeap.get_new_same _ _
  rw [← hg]
  obtain ⟨e1, es, s, ro, cap, tl, hP⟩ := hpg.p
  obtain ⟨e2, es2, s2, ro2, hA⟩ := hpg.r
  refine W.cx (hr := f_made hO hpg (by omega) hl) (w := ?_)
  have hq1 : decide ((n : Int) < 0) = false := d_f (by omega)
  have hq2 : decide ((n : Int) ≥ (len : Int)) = false := d_f (by omega)
  (repeat (first | (show W _ _ _ _ _ _ (.code (cond _ _ _) :: _) _ _; first | refine W.ct ?_ | refine W.cf ?_) | (show W _ _ _ _ _ _ (.ins (cond _ _ _ :: _) :: _) _ _; first | refine W.gt ?_ | refine W.gf ?_) | (show W _ _ _ _ _ _ [] _ _; refine W.of (.done ?_)) | (apply W.of; constructor <;> first | (show W _ _ _ _ _ _ _ _ _) | (intro (al : Nat) h st; show W _ _ _ _ _ _ _ _ _) | (intro _ h st; show W _ _ _ _ _ _ _ _ _) | exact Sd)))
  (repeat (first | (show W _ _ _ _ _ _ (.code (cond _ _ _) :: _) _ _; first | refine W.ct ?_ | refine W.cf ?_) | (show W _ _ _ _ _ _ (.ins (cond _ _ _ :: _) :: _) _ _; first | refine W.gt ?_ | refine W.gf ?_) | (show W _ _ _ _ _ _ [] _ _; refine W.of (.done ?_)) | (apply W.of; constructor <;> first | (show W _ _ _ _ _ _ _ _ _) | (intro (al : Nat) h st; show W _ _ _ _ _ _ _ _ _) | (intro _ h st; show W _ _ _ _ _ _ _ _ _) | exact Sd))); refine W.do (ho := (d_load1 hP rfl)) (w := ?_)
  (repeat (first | (show W _ _ _ _ _ _ (.code (cond _ _ _) :: _) _ _; first | refine W.ct ?_ | refine W.cf ?_) | (show W _ _ _ _ _ _ (.ins (cond _ _ _ :: _) :: _) _ _; first | refine W.gt ?_ | refine W.gf ?_) | (show W _ _ _ _ _ _ [] _ _; refine W.of (.done ?_)) | (apply W.of; constructor <;> first | (show W _ _ _ _ _ _ _ _ _) | (intro (al : Nat) h st; show W _ _ _ _ _ _ _ _ _) | (intro _ h st; show W _ _ _ _ _ _ _ _ _) | exact Sd)))
  (repeat (first | (show W _ _ _ _ _ _ (.code (cond _ _ _) :: _) _ _; first | refine W.ct ?_ | refine W.cf ?_) | (show W _ _ _ _ _ _ (.ins (cond _ _ _ :: _) :: _) _ _; first | refine W.gt ?_ | refine W.gf ?_) | (show W _ _ _ _ _ _ [] _ _; refine W.of (.done ?_)) | (apply W.of; constructor <;> first | (show W _ _ _ _ _ _ _ _ _) | (intro (al : Nat) h st; show W _ _ _ _ _ _ _ _ _) | (intro _ h st; show W _ _ _ _ _ _ _ _ _) | exact Sd))); refine W.do (ho := (d_load1 hP rfl)) (w := ?_)
  have hix : Does (.indexs 5) [.sl id off len cap, .int .i64 (n : Nat)] g (.ptr id (off + n * 5)) g := ⟨rfl, by
    simp only [aop]; rw [if_pos ⟨by omega, by omega⟩, Int.toNat_natCast]⟩
  (repeat (first | (show W _ _ _ _ _ _ (.code (cond _ _ _) :: _) _ _; first | refine W.ct ?_ | refine W.cf ?_) | (show W _ _ _ _ _ _ (.ins (cond _ _ _ :: _) :: _) _ _; first | refine W.gt ?_ | refine W.gf ?_) | (show W _ _ _ _ _ _ [] _ _; refine W.of (.done ?_)) | (apply W.of; constructor <;> first | (show W _ _ _ _ _ _ _ _ _) | (intro (al : Nat) h st; show W _ _ _ _ _ _ _ _ _) | (intro _ h st; show W _ _ _ _ _ _ _ _ _) | exact Sd))); refine W.do (ho := hix) (w := ?_)
  (repeat (first | (show W _ _ _ _ _ _ (.code (cond _ _ _) :: _) _ _; first | refine W.ct ?_ | refine W.cf ?_) | (show W _ _ _ _ _ _ (.ins (cond _ _ _ :: _) :: _) _ _; first | refine W.gt ?_ | refine W.gf ?_) | (show W _ _ _ _ _ _ [] _ _; refine W.of (.done ?_)) | (apply W.of; constructor <;> first | (show W _ _ _ _ _ _ _ _ _) | (intro (al : Nat) h st; show W _ _ _ _ _ _ _ _ _) | (intro _ h st; show W _ _ _ _ _ _ _ _ _) | exact Sd))); refine W.do (ho := (d_loadn hA hsub)) (w := ?_)
  refine W.dx0 (ho := x_store (d := .vals [.int .i64 0, .int .i64 0, .int .i64 0, .int .i64 0, .int .i64 0]) (d' := .vals [a, b, c, d, e]) hgX rfl rfl rfl) (w := ?_)
  (repeat (first | (show W _ _ _ _ _ _ (.code (cond _ _ _) :: _) _ _; first | refine W.ct ?_ | refine W.cf ?_) | (show W _ _ _ _ _ _ (.ins (cond _ _ _ :: _) :: _) _ _; first | refine W.gt ?_ | refine W.gf ?_) | (show W _ _ _ _ _ _ [] _ _; refine W.of (.done ?_)) | (apply W.of; constructor <;> first | (show W _ _ _ _ _ _ _ _ _) | (intro (al : Nat) h st; show W _ _ _ _ _ _ _ _ _) | (intro _ h st; show W _ _ _ _ _ _ _ _ _) | exact Sd)))
  refine ⟨[.agg [a, b, c, d, e], .bool true], ?_, rfl, fun hwf => ?_⟩
  · show (match aop (.loadn 5) [.ptr h.next 0] (g.put h.next (.row ty_frames_Frame 5 false false (.vals [a, b, c, d, e]))), some [.bool true] with
      | some (v, _), some vs => some (v :: vs)
      | _, _ => none) = _
    rw [show aop (.loadn 5) [.ptr h.next 0] (g.put h.next (.row ty_frames_Frame 5 false false (.vals [a, b, c, d, e]))) = some (.agg [a, b, c, d, e], g.put h.next (.row ty_frames_Frame 5 false false (.vals [a, b, c, d, e]))) from (d_loadn (AHeap.get_put_same _ _ _) rfl).run]
  · exact AHeap.bump_less hwf (by rw [hg]; rfl) fun j hj => by
      rw [AHeap.get_put_ne _ _ (by omega), hg, AHeap.get_new_ne _ _ (by omega)]
end
noncomputable def kCount (args : List AV) (h : AHeap) : Option (AV × AHeap) := match args with
  | [.ptr P 0, .int .i64 (.ofNat c)] => poolOf h P fun _ off len cs => sel (Nat.blt 0 len) (sel (Nat.blt len 1000000) (sel (Nat.blt c 1000000) (Option.rec (motive := fun _ => Option (AV × AHeap)) none (fun k => some (.int .i64 (Int.ofNat k), AHeap.bump h len)) (Option.rec (motive := fun _ => Option Nat) none (fun l => cntF c len l 0) (dropK off cs))) none) none) none
  | _ => none
theorem recN {α β : Type} {x : Option α} {f : α → Option β} {p : β} (e : Option.rec (motive := fun _ => Option β) none f x = some p) : ∃ a, x = some a ∧ f a = some p := by
  cases x with
  | none => cases e
  | some a => exact ⟨a, rfl, e⟩
theorem dropK_some {n : Nat} {l r : List AV} (h : dropK n l = some r) : l.drop n = r := by
  rw [dropK_eq] at h
  split at h
  · exact Option.some.inj h
  · cases h
theorem kCount_ok (hO : OFree O) {args : List AV} {h h' : AHeap} {v : AV} (x : kCount args h = some (v, h')) : Runs O tab n_frames_Pool_Count args h v h' := by
  unfold kCount at x
  split at x
  · obtain ⟨id, off, len, cs, hp, x⟩ := poolOf_ok x
    obtain ⟨c1, x⟩ := selN x
    obtain ⟨c2, x⟩ := selN x
    obtain ⟨c3, x⟩ := selN x
    obtain ⟨k, hk, x⟩ := recN x
    obtain ⟨l, hl, hk⟩ := recN hk
    cases x
    have c2 := blt_of c2
    have c3 := blt_of c3
    exact f_Count hO hp (blt_of c1) (by omega) (by omega) (by rw [dropK_some hl]; exact hk)
  · cases x
noncomputable def kGet (args : List AV) (h : AHeap) : Option (AV × AHeap) := match args with
  | [.ptr P 0, .int .i64 (.ofNat n)] => poolOf h P fun id off len cs => sel (Nat.blt P h.next) (sel (Nat.blt id h.next) (sel (Nat.blt n len) (sel (Nat.blt len 1000000) (match dropK (Nat.add off (Nat.mul n 5)) cs with
    | some (a :: b :: c :: d :: e :: _) => some (.tuple [.agg [a, b, c, d, e], .bool true], AHeap.bump h 1)
    | _ => none) none) none) none) none
  | _ => none
theorem kGet_ok (hO : OFree O) {args : List AV} {h h' : AHeap} {v : AV} (x : kGet args h = some (v, h')) : Runs O tab n_frames_Pool_Get args h v h' := by
  unfold kGet at x
  split at x
  · obtain ⟨id, off, len, cs, hp, x⟩ := poolOf_ok x
    obtain ⟨c1, x⟩ := selN x
    obtain ⟨c2, x⟩ := selN x
    obtain ⟨c3, x⟩ := selN x
    obtain ⟨c4, x⟩ := selN x
    have c4 := blt_of c4
    split at x
    · rename_i hd
      cases x
      exact f_Get hO hp (blt_of c1) (blt_of c2) (blt_of c3) (by omega) (dropK_some hd)
    · cases x
  · cases x
end Go.Proofs.YtlkfclgkinaibaaGreat

namespace Go.Proofs.YtlkfclgkinaibaaGreat
variable {O : Nat → Option FSpec}
structure ResAt (h : AHeap) (K F i : Nat) (r : List AV) : Prop where
  ex : ∃ e es s ro M P f2 f3 f4 f5 f6 f7 f8 mm f10 id off len cs, h.get K = some (.row e es s ro (.vals [.ptr M 0, .ptr P 0, f2, f3, f4, f5, f6, f7, f8, .map mm, f10])) ∧ PoolH h P id off len cs ∧ P < h.next ∧ id < h.next ∧ F ≤ len ∧ len < 1000000 ∧ cs.drop (off + i * 5) = r
theorem ResAt.bump {h : AHeap} {K F i : Nat} {r : List AV} (x : ResAt h K F i r) (c : Nat) : ResAt (h.bump c) K F i r := by
  obtain ⟨e, es, s, ro, M, P, f2, f3, f4, f5, f6, f7, f8, mm, f10, id, off, len, cs, h1, h2, h3, h4, h5, h6, h7⟩ := x.ex
  exact ⟨e, es, s, ro, M, P, f2, f3, f4, f5, f6, f7, f8, mm, f10, id, off, len, cs, h1, ⟨h2.p, h2.r⟩, Nat.lt_of_lt_of_le h3 (Nat.le_add_right _ _), Nat.lt_of_lt_of_le h4 (Nat.le_add_right _ _), h5, h6, h7⟩
theorem ResAt.step {h : AHeap} {K F i : Nat} {a b c d e : AV} {r : List AV} (x : ResAt h K F i (a :: b :: c :: d :: e :: r)) : ResAt h K F (i + 1) r := by
  obtain ⟨e, es, s, ro, M, P, f2, f3, f4, f5, f6, f7, f8, mm, f10, id, off, len, cs, h1, h2, h3, h4, h5, h6, h7⟩ := x.ex
  exact ⟨e, es, s, ro, M, P, f2, f3, f4, f5, f6, f7, f8, mm, f10, id, off, len, cs, h1, h2, h3, h4, h5, h6, by rw [show off + (i + 1) * 5 = off + i * 5 + 5 by omega]; exact (sub5 h7).2⟩
noncomputable def resAt {α : Type} (h : AHeap) (K F i : Nat) (k : List AV → Option α) : Option α := match h.getK K with
  | some (.row _ _ _ _ (.vals [.ptr _ 0, .ptr P 0, _, _, _, _, _, _, _, .map _, _])) => poolOf h P fun id off len cs => sel (Nat.blt P h.next) (sel (Nat.blt id h.next) (sel (Nat.ble F len) (sel (Nat.blt len 1000000) (Option.rec (motive := fun _ => Option α) none k (dropK (Nat.add off (Nat.mul i 5)) cs)) none) none) none) none
  | _ => none
theorem resAt_ok {α : Type} {h : AHeap} {K F i : Nat} {k : List AV → Option α} {x : α} (e : resAt h K F i k = some x) : ∃ r, ResAt h K F i r ∧ k r = some x := by
  unfold resAt at e
  rw [AHeap.getK_eq] at e
  split at e
  · rename_i hg
    obtain ⟨id, off, len, cs, hp, e⟩ := poolOf_ok e
    obtain ⟨c1, e⟩ := selN e
    obtain ⟨c2, e⟩ := selN e
    obtain ⟨c3, e⟩ := selN e
    obtain ⟨c4, e⟩ := selN e
    obtain ⟨r, hr, e⟩ := recN e
    exact ⟨r, ⟨_, _, _, _, _, _, _, _, _, _, _, _, _, _, _, _, _, _, _, hg, hp, blt_of c1, blt_of c2, Nat.le_of_ble_eq_true c3, blt_of c4, dropK_some hr⟩, e⟩
  · cases e
noncomputable def resH (h : AHeap) (a b c d e : AV) : AHeap := AHeap.putK (AHeap.newK h (.row ty_frames_Frame 5 false false (.vals [.int .i64 0, .int .i64 0, .int .i64 0, .int .i64 0, .int .i64 0]))) h.next (.row ty_frames_Frame 5 false false (.vals [a, b, c, d, e]))
noncomputable def resStep (i : Nat) (l : AV) (x : Nat) (h1 : AHeap) (k : AV → AHeap → Option (AV × AHeap)) : Option (AV × AHeap) := match aop_bslice hoK ty_int 1 1 (.vals [.int .i64 0]) [0] [.int .i64 (Int.ofNat i)] h1 with
  | some (.sl a b c d, h2) => match aop_append hoK ty_int 1 8 (.vals [.int .i64 0]) [l, .sl a b c d] h2 with
    | some (.ssl p q r s, h3) => k (.ssl p q r s) (AHeap.killK (AHeap.killK h3 x) a)
    | _ => none
  | _ => none
noncomputable def resL (K F : Nat) (n : Nat) : Nat → List AV → AV → AHeap → Nat → Option (AV × AHeap) := Nat.rec (motive := fun _ => Nat → List AV → AV → AHeap → Nat → Option (AV × AHeap)) (fun _ _ l h c => some (l, AHeap.bump h c))
  (fun _ ih i r l h c => match r with
    | .int .i64 (.ofNat x) :: a1 :: a2 :: a3 :: a4 :: r => sel (Nat.beq (Nat.div x 2) 1)
        (resStep i l (Nat.add (Nat.add h.next c) 1) (resH (AHeap.bump (AHeap.bump h c) 1) (.int .i64 (.ofNat x)) a1 a2 a3 a4) fun l h => resAt h K F (Nat.succ i) fun r => ih (Nat.succ i) r l h 0)
        (ih (Nat.succ i) r l h (Nat.add c 2))
    | _ => none) n
structure ResS where
  i : Nat
  r : List AV
  l : AV
  h : AHeap
  c : Nat
theorem Less.kill (h : AHeap) (i : Nat) : Less (h.kill i) h := ⟨fun id o e => by
  by_cases hi : i = id
  · subst hi; rw [AHeap.get_kill_same] at e; cases e
  · rwa [AHeap.get_kill_ne h hi] at e, Nat.le_refl _⟩
theorem f_Frames (hO : OFree O) {h : AHeap} {M id off len cap e es : Nat} {s ro : Bool} (hM : h.get M = some (.row e es s ro (.vals [.sl id off len cap]))) : Runs O tab n_phys_Memory_Frames [.ptr M 0] h (.int .i64 len) h := by
  refine runs_w (fun _ _ _ x => progI_call (hO.free _ rfl) rfl x) Njs rfl ?_
  (repeat (first | (show W _ _ _ _ _ _ (.code (cond _ _ _) :: _) _ _; first | refine W.ct ?_ | refine W.cf ?_) | (show W _ _ _ _ _ _ (.ins (cond _ _ _ :: _) :: _) _ _; first | refine W.gt ?_ | refine W.gf ?_) | (show W _ _ _ _ _ _ [] _ _; refine W.of (.done ?_)) | (apply W.of; constructor <;> first | (show W _ _ _ _ _ _ _ _ _) | (intro (al : Nat) h st; show W _ _ _ _ _ _ _ _ _) | (intro _ h st; show W _ _ _ _ _ _ _ _ _) | exact Sd))); refine W.do (ho := (d_load1 hM rfl)) (w := ?_)
  (repeat (first | (show W _ _ _ _ _ _ (.code (cond _ _ _) :: _) _ _; first | refine W.ct ?_ | refine W.cf ?_) | (show W _ _ _ _ _ _ (.ins (cond _ _ _ :: _) :: _) _ _; first | refine W.gt ?_ | refine W.gf ?_) | (show W _ _ _ _ _ _ [] _ _; refine W.of (.done ?_)) | (apply W.of; constructor <;> first | (show W _ _ _ _ _ _ _ _ _) | (intro (al : Nat) h st; show W _ _ _ _ _ _ _ _ _) | (intro _ h st; show W _ _ _ _ _ _ _ _ _) | exact Sd)))
  exact ⟨_, rfl, rfl, rfl⟩
theorem f_kmade (hO : OFree O) {h : AHeap} {K e es mm : Nat} {s ro : Bool} {f0 f1 f2 f3 f4 f5 f6 f7 f8 f10 : AV} (hK : h.get K = some (.row e es s ro (.vals [f0, f1, f2, f3, f4, f5, f6, f7, f8, .map mm, f10]))) : Runs O tab n_kern_Kernel_made [.ptr K 0] h (.bool true) h := by
  refine runs_w (fun _ _ _ x => progI_call (hO.free _ rfl) rfl x) Njs rfl ?_
  (repeat (first | (show W _ _ _ _ _ _ (.code (cond _ _ _) :: _) _ _; first | refine W.ct ?_ | refine W.cf ?_) | (show W _ _ _ _ _ _ (.ins (cond _ _ _ :: _) :: _) _ _; first | refine W.gt ?_ | refine W.gf ?_) | (show W _ _ _ _ _ _ [] _ _; refine W.of (.done ?_)) | (apply W.of; constructor <;> first | (show W _ _ _ _ _ _ _ _ _) | (intro (al : Nat) h st; show W _ _ _ _ _ _ _ _ _) | (intro _ h st; show W _ _ _ _ _ _ _ _ _) | exact Sd)))
  (repeat (first | (show W _ _ _ _ _ _ (.code (cond _ _ _) :: _) _ _; first | refine W.ct ?_ | refine W.cf ?_) | (show W _ _ _ _ _ _ (.ins (cond _ _ _ :: _) :: _) _ _; first | refine W.gt ?_ | refine W.gf ?_) | (show W _ _ _ _ _ _ [] _ _; refine W.of (.done ?_)) | (apply W.of; constructor <;> first | (show W _ _ _ _ _ _ _ _ _) | (intro (al : Nat) h st; show W _ _ _ _ _ _ _ _ _) | (intro _ h st; show W _ _ _ _ _ _ _ _ _) | exact Sd))); refine W.do (ho := (d_load1 hK rfl)) (w := ?_)
  (repeat (first | (show W _ _ _ _ _ _ (.code (cond _ _ _) :: _) _ _; first | refine W.ct ?_ | refine W.cf ?_) | (show W _ _ _ _ _ _ (.ins (cond _ _ _ :: _) :: _) _ _; first | refine W.gt ?_ | refine W.gf ?_) | (show W _ _ _ _ _ _ [] _ _; refine W.of (.done ?_)) | (apply W.of; constructor <;> first | (show W _ _ _ _ _ _ _ _ _) | (intro (al : Nat) h st; show W _ _ _ _ _ _ _ _ _) | (intro _ h st; show W _ _ _ _ _ _ _ _ _) | exact Sd)))
  exact ⟨_, rfl, rfl, rfl⟩
theorem f_Resident (hO : OFree O) {h h' : AHeap} {K F M id off cap e es : Nat} {s ro : Bool} {r : List AV} {v : AV} (hA : ResAt h K F 0 r) (hM : ∃ e es s ro f1 f2 f3 f4 f5 f6 f7 f8 mm f10, h.get K = some (.row e es s ro (.vals [.ptr M 0, f1, f2, f3, f4, f5, f6, f7, f8, .map mm, f10]))) (hF : h.get M = some (.row e es s ro (.vals [.sl id off F cap]))) (hL : resL K F F 0 r .nilsl h 0 = some (v, h')) (hF2 : F < 1000000) : Runs O tab n_kern_Kernel_Resident [.ptr K 0] h v h' := by
  obtain ⟨_, _, _, _, f1, f2, f3, f4, f5, f6, f7, f8, mm, f10, hK⟩ := hM
  refine runs_wl (hO.free _ rfl) rfl Njs rfl ?_
  (repeat (first | (show W _ _ _ _ _ _ (.code (cond _ _ _) :: _) _ _; first | refine W.ct ?_ | refine W.cf ?_) | (show W _ _ _ _ _ _ (.ins (cond _ _ _ :: _) :: _) _ _; first | refine W.gt ?_ | refine W.gf ?_) | (show W _ _ _ _ _ _ [] _ _; refine W.of (.done ?_)) | (apply W.of; constructor <;> first | (show W _ _ _ _ _ _ _ _ _) | (intro (al : Nat) h st; show W _ _ _ _ _ _ _ _ _) | (intro _ h st; show W _ _ _ _ _ _ _ _ _) | exact Sd)))
  refine W.cx (hr := f_kmade hO hK) (w := ?_)
  (repeat (first | (show W _ _ _ _ _ _ (.code (cond _ _ _) :: _) _ _; first | refine W.ct ?_ | refine W.cf ?_) | (show W _ _ _ _ _ _ (.ins (cond _ _ _ :: _) :: _) _ _; first | refine W.gt ?_ | refine W.gf ?_) | (show W _ _ _ _ _ _ [] _ _; refine W.of (.done ?_)) | (apply W.of; constructor <;> first | (show W _ _ _ _ _ _ _ _ _) | (intro (al : Nat) h st; show W _ _ _ _ _ _ _ _ _) | (intro _ h st; show W _ _ _ _ _ _ _ _ _) | exact Sd)))
  (repeat (first | (show W _ _ _ _ _ _ (.code (cond _ _ _) :: _) _ _; first | refine W.ct ?_ | refine W.cf ?_) | (show W _ _ _ _ _ _ (.ins (cond _ _ _ :: _) :: _) _ _; first | refine W.gt ?_ | refine W.gf ?_) | (show W _ _ _ _ _ _ [] _ _; refine W.of (.done ?_)) | (apply W.of; constructor <;> first | (show W _ _ _ _ _ _ _ _ _) | (intro (al : Nat) h st; show W _ _ _ _ _ _ _ _ _) | (intro _ h st; show W _ _ _ _ _ _ _ _ _) | exact Sd))); refine W.do (ho := (d_load1 hK rfl)) (w := ?_)
  (repeat (first | (show W _ _ _ _ _ _ (.code (cond _ _ _) :: _) _ _; first | refine W.ct ?_ | refine W.cf ?_) | (show W _ _ _ _ _ _ (.ins (cond _ _ _ :: _) :: _) _ _; first | refine W.gt ?_ | refine W.gf ?_) | (show W _ _ _ _ _ _ [] _ _; refine W.of (.done ?_)) | (apply W.of; constructor <;> first | (show W _ _ _ _ _ _ _ _ _) | (intro (al : Nat) h st; show W _ _ _ _ _ _ _ _ _) | (intro _ h st; show W _ _ _ _ _ _ _ _ _) | exact Sd)))
  refine W.cx (hr := f_Frames hO hF) (w := ?_)
  (repeat (first | (show W _ _ _ _ _ _ (.code (cond _ _ _) :: _) _ _; first | refine W.ct ?_ | refine W.cf ?_) | (show W _ _ _ _ _ _ (.ins (cond _ _ _ :: _) :: _) _ _; first | refine W.gt ?_ | refine W.gf ?_) | (show W _ _ _ _ _ _ [] _ _; refine W.of (.done ?_)) | (apply W.of; constructor <;> first | (show W _ _ _ _ _ _ _ _ _) | (intro (al : Nat) h st; show W _ _ _ _ _ _ _ _ _) | (intro _ h st; show W _ _ _ _ _ _ _ _ _) | exact Sd)))
  refine W.loopd (fun y : ResS => [(0, .ptr K 0), (3, y.l), (14, .int .i64 (F : Nat)), (15, .int .i64 (y.i : Nat))]) (fun y => y.h.bump y.c) (fun y => y.i ≤ F ∧ ResAt y.h K F y.i y.r ∧ y.l.notJunk = some y.l ∧ resL K F (F - y.i) y.i y.r y.l y.h y.c = some (v, h')) (fun y => F - y.i) ⟨0, r, .nilsl, h, 0⟩ (by unfold rounds; show F - 0 < _; omega) Sbs rfl ⟨Nat.zero_le _, hA, rfl, hL⟩ ?_
  intro ⟨i, r, l, g, c⟩ ⟨hi, hR, hj, hx⟩
  dsimp only at hi hR hj hx ⊢
  by_cases hlt : i < F
  · obtain ⟨n, hn⟩ : ∃ n, F - i = n + 1 := ⟨F - i - 1, by omega⟩
    have hn2 : n = F - (i + 1) := by omega
    rw [hn] at hx
    change (match r with
      | .int .i64 (.ofNat x) :: a1 :: a2 :: a3 :: a4 :: r => sel (Nat.beq (Nat.div x 2) 1)
        (resStep i l (Nat.add (Nat.add g.next c) 1) (resH (AHeap.bump (AHeap.bump g c) 1) (.int .i64 (.ofNat x)) a1 a2 a3 a4) fun l h => resAt h K F (Nat.succ i) fun r => resL K F n (Nat.succ i) r l h 0)
        (resL K F n (Nat.succ i) r l g (Nat.add c 2))
      | _ => none) = _ at hx
    split at hx
    · rename_i x a1 a2 a3 a4 t
      have hRc := hR.bump c
      obtain ⟨u1, u2, u3, u4, M', P, g2, g3, g4, g5, g6, g7, g8, mm', g10, id', off', len', cs, q1, q2, q3, q4, q5, q6, q7⟩ := hRc.ex
      (repeat (first | (show W _ _ _ _ _ _ (.code (cond _ _ _) :: _) _ _; first | refine W.ct ?_ | refine W.cf ?_) | (show W _ _ _ _ _ _ (.ins (cond _ _ _ :: _) :: _) _ _; first | refine W.gt ?_ | refine W.gf ?_) | (show W _ _ _ _ _ _ [] _ _; refine W.of (.done ?_)) | (apply W.of; constructor <;> first | (show W _ _ _ _ _ _ _ _ _) | (intro (al : Nat) h st; show W _ _ _ _ _ _ _ _ _) | (intro _ h st; show W _ _ _ _ _ _ _ _ _) | exact Sd)))
      (repeat (first | (show W _ _ _ _ _ _ (.code (cond _ _ _) :: _) _ _; first | refine W.ct ?_ | refine W.cf ?_) | (show W _ _ _ _ _ _ (.ins (cond _ _ _ :: _) :: _) _ _; first | refine W.gt ?_ | refine W.gf ?_) | (show W _ _ _ _ _ _ [] _ _; refine W.of (.done ?_)) | (apply W.of; constructor <;> first | (show W _ _ _ _ _ _ _ _ _) | (intro (al : Nat) h st; show W _ _ _ _ _ _ _ _ _) | (intro _ h st; show W _ _ _ _ _ _ _ _ _) | exact Sd))); refine W.do (ho := (d_load1 q1 rfl)) (w := ?_)
      (repeat (first | (show W _ _ _ _ _ _ (.code (cond _ _ _) :: _) _ _; first | refine W.ct ?_ | refine W.cf ?_) | (show W _ _ _ _ _ _ (.ins (cond _ _ _ :: _) :: _) _ _; first | refine W.gt ?_ | refine W.gf ?_) | (show W _ _ _ _ _ _ [] _ _; refine W.of (.done ?_)) | (apply W.of; constructor <;> first | (show W _ _ _ _ _ _ _ _ _) | (intro (al : Nat) h st; show W _ _ _ _ _ _ _ _ _) | (intro _ h st; show W _ _ _ _ _ _ _ _ _) | exact Sd)))
      refine W.cx (hr := f_Get hO q2 q3 q4 (n := i) (by omega) (by omega) q7) (w := ?_)
      (repeat (first | (show W _ _ _ _ _ _ (.code (cond _ _ _) :: _) _ _; first | refine W.ct ?_ | refine W.cf ?_) | (show W _ _ _ _ _ _ (.ins (cond _ _ _ :: _) :: _) _ _; first | refine W.gt ?_ | refine W.gf ?_) | (show W _ _ _ _ _ _ [] _ _; refine W.of (.done ?_)) | (apply W.of; constructor <;> first | (show W _ _ _ _ _ _ _ _ _) | (intro (al : Nat) h st; show W _ _ _ _ _ _ _ _ _) | (intro _ h st; show W _ _ _ _ _ _ _ _ _) | exact Sd)))
      refine W.dx (ho := x_alloc rfl rfl) (w := ?_)
      refine W.dx0 (ho := x_store (d := .vals [.int .i64 0, .int .i64 0, .int .i64 0, .int .i64 0, .int .i64 0]) (d' := .vals [.int .i64 (Int.ofNat x), a1, a2, a3, a4]) (AHeap.get_new_same _ _) rfl rfl rfl) (w := ?_)
      have hrow : ∀ o : AObj, (((((g.bump c).bump 1).new o).put ((g.bump c).bump 1).next (.row ty_frames_Frame 5 false false (.vals [.int .i64 (Int.ofNat x), a1, a2, a3, a4])))).get ((g.bump c).bump 1).next = some (.row ty_frames_Frame 5 false false (.vals [.int .i64 (Int.ofNat x), a1, a2, a3, a4])) := fun o => AHeap.get_put_same _ _ _
      (repeat (first | (show W _ _ _ _ _ _ (.code (cond _ _ _) :: _) _ _; first | refine W.ct ?_ | refine W.cf ?_) | (show W _ _ _ _ _ _ (.ins (cond _ _ _ :: _) :: _) _ _; first | refine W.gt ?_ | refine W.gf ?_) | (show W _ _ _ _ _ _ [] _ _; refine W.of (.done ?_)) | (apply W.of; constructor <;> first | (show W _ _ _ _ _ _ _ _ _) | (intro (al : Nat) h st; show W _ _ _ _ _ _ _ _ _) | (intro _ h st; show W _ _ _ _ _ _ _ _ _) | exact Sd)))
      (repeat (first | (show W _ _ _ _ _ _ (.code (cond _ _ _) :: _) _ _; first | refine W.ct ?_ | refine W.cf ?_) | (show W _ _ _ _ _ _ (.ins (cond _ _ _ :: _) :: _) _ _; first | refine W.gt ?_ | refine W.gf ?_) | (show W _ _ _ _ _ _ [] _ _; refine W.of (.done ?_)) | (apply W.of; constructor <;> first | (show W _ _ _ _ _ _ _ _ _) | (intro (al : Nat) h st; show W _ _ _ _ _ _ _ _ _) | (intro _ h st; show W _ _ _ _ _ _ _ _ _) | exact Sd))); refine W.do (ho := (d_load1 (hrow _) rfl)) (w := ?_)
      (repeat (first | (show W _ _ _ _ _ _ (.code (cond _ _ _) :: _) _ _; first | refine W.ct ?_ | refine W.cf ?_) | (show W _ _ _ _ _ _ (.ins (cond _ _ _ :: _) :: _) _ _; first | refine W.gt ?_ | refine W.gf ?_) | (show W _ _ _ _ _ _ [] _ _; refine W.of (.done ?_)) | (apply W.of; constructor <;> first | (show W _ _ _ _ _ _ _ _ _) | (intro (al : Nat) h st; show W _ _ _ _ _ _ _ _ _) | (intro _ h st; show W _ _ _ _ _ _ _ _ _) | exact Sd)))
      by_cases hd : Nat.div x 2 = 1
      · rw [sel_eq, if_pos (by rw [hd]; rfl)] at hx
        unfold resStep at hx
        split at hx
        · rename_i a b d e h2 e1
          split at hx
          · rename_i p q u w h3 e2
            obtain ⟨t', hR', hx⟩ := resAt_ok hx
            rw [AHeap.killK_eq] at hx hR'
            rw [aop_bslice_eq] at e1
            rw [aop_append_eq] at e2
            unfold resH at e1
            rw [AHeap.putK_eq, AHeap.newK_eq] at e1
            have o1 : Does (.bslice ty_int 1 1 (.vals [.int .i64 0]) [0]) [.int .i64 (i : Nat)] _ (.sl a b d e) h2 := ⟨rfl, e1⟩
            have o2 : Does (.append ty_int 1 8 (.vals [.int .i64 0])) [l, .sl a b d e] h2 (.ssl p q u w) h3 := ⟨rfl, e2⟩
            have fin : ∃ z : ResS, F - z.i < F - i ∧ (z.i ≤ F ∧ ResAt z.h K F z.i z.r ∧ z.l.notJunk = some z.l ∧ resL K F (F - z.i) z.i z.r z.l z.h z.c = some (v, h')) ∧ z.i = i + 1 ∧ z.l = .ssl p q u w ∧ Less (z.h.bump z.c) h3 := ⟨⟨i + 1, t', .ssl p q u w, (h3.kill (Nat.add (Nat.add g.next c) 1)).kill a, 0⟩, by show F - (i + 1) < F - i; omega, ⟨hlt, hR', rfl, by show resL K F (F - (i + 1)) _ _ _ _ _ = _; rw [← hn2]; exact hx⟩, rfl, rfl, Less.trans (b := (h3.kill (Nat.add (Nat.add g.next c) 1)).kill a) ⟨fun _ _ x => x, Nat.le_refl _⟩ (Less.trans (Less.kill _ _) (Less.kill _ _))⟩
            have h23 : x = 2 ∨ x = 3 := by
              have : x / 2 = 1 := hd
              omega
            rcases h23 with rfl | rfl
            · (repeat (first | (show W _ _ _ _ _ _ (.code (cond _ _ _) :: _) _ _; first | refine W.ct ?_ | refine W.cf ?_) | (show W _ _ _ _ _ _ (.ins (cond _ _ _ :: _) :: _) _ _; first | refine W.gt ?_ | refine W.gf ?_) | (show W _ _ _ _ _ _ [] _ _; refine W.of (.done ?_)) | (apply W.of; constructor <;> first | (show W _ _ _ _ _ _ _ _ _) | (intro (al : Nat) h st; show W _ _ _ _ _ _ _ _ _) | (intro _ h st; show W _ _ _ _ _ _ _ _ _) | exact Sd)))
              refine W.dx (ho := o1) (w := ?_)
              refine W.dx (ho := o2) (w := ?_)
              (repeat (first | (show W _ _ _ _ _ _ (.code (cond _ _ _) :: _) _ _; first | refine W.ct ?_ | refine W.cf ?_) | (show W _ _ _ _ _ _ (.ins (cond _ _ _ :: _) :: _) _ _; first | refine W.gt ?_ | refine W.gf ?_) | (show W _ _ _ _ _ _ [] _ _; refine W.of (.done ?_)) | (apply W.of; constructor <;> first | (show W _ _ _ _ _ _ _ _ _) | (intro (al : Nat) h st; show W _ _ _ _ _ _ _ _ _) | (intro _ h st; show W _ _ _ _ _ _ _ _ _) | exact Sd)))
              refine W.of (.lp ?_)
              obtain ⟨z, m1, m2, m3, m4, m5⟩ := fin
              exact ⟨z, m1, m2, by rw [m3, m4]; exact Sbs, fun _ => m5⟩
            · (repeat (first | (show W _ _ _ _ _ _ (.code (cond _ _ _) :: _) _ _; first | refine W.ct ?_ | refine W.cf ?_) | (show W _ _ _ _ _ _ (.ins (cond _ _ _ :: _) :: _) _ _; first | refine W.gt ?_ | refine W.gf ?_) | (show W _ _ _ _ _ _ [] _ _; refine W.of (.done ?_)) | (apply W.of; constructor <;> first | (show W _ _ _ _ _ _ _ _ _) | (intro (al : Nat) h st; show W _ _ _ _ _ _ _ _ _) | (intro _ h st; show W _ _ _ _ _ _ _ _ _) | exact Sd)))
              (repeat (first | (show W _ _ _ _ _ _ (.code (cond _ _ _) :: _) _ _; first | refine W.ct ?_ | refine W.cf ?_) | (show W _ _ _ _ _ _ (.ins (cond _ _ _ :: _) :: _) _ _; first | refine W.gt ?_ | refine W.gf ?_) | (show W _ _ _ _ _ _ [] _ _; refine W.of (.done ?_)) | (apply W.of; constructor <;> first | (show W _ _ _ _ _ _ _ _ _) | (intro (al : Nat) h st; show W _ _ _ _ _ _ _ _ _) | (intro _ h st; show W _ _ _ _ _ _ _ _ _) | exact Sd))); refine W.do (ho := (d_load1 (hrow _) rfl)) (w := ?_)
              (repeat (first | (show W _ _ _ _ _ _ (.code (cond _ _ _) :: _) _ _; first | refine W.ct ?_ | refine W.cf ?_) | (show W _ _ _ _ _ _ (.ins (cond _ _ _ :: _) :: _) _ _; first | refine W.gt ?_ | refine W.gf ?_) | (show W _ _ _ _ _ _ [] _ _; refine W.of (.done ?_)) | (apply W.of; constructor <;> first | (show W _ _ _ _ _ _ _ _ _) | (intro (al : Nat) h st; show W _ _ _ _ _ _ _ _ _) | (intro _ h st; show W _ _ _ _ _ _ _ _ _) | exact Sd)))
              refine W.dx (ho := o1) (w := ?_)
              refine W.dx (ho := o2) (w := ?_)
              (repeat (first | (show W _ _ _ _ _ _ (.code (cond _ _ _) :: _) _ _; first | refine W.ct ?_ | refine W.cf ?_) | (show W _ _ _ _ _ _ (.ins (cond _ _ _ :: _) :: _) _ _; first | refine W.gt ?_ | refine W.gf ?_) | (show W _ _ _ _ _ _ [] _ _; refine W.of (.done ?_)) | (apply W.of; constructor <;> first | (show W _ _ _ _ _ _ _ _ _) | (intro (al : Nat) h st; show W _ _ _ _ _ _ _ _ _) | (intro _ h st; show W _ _ _ _ _ _ _ _ _) | exact Sd)))
              refine W.of (.lp ?_)
              obtain ⟨z, m1, m2, m3, m4, m5⟩ := fin
              exact ⟨z, m1, m2, by rw [m3, m4]; exact Sbs, fun _ => m5⟩
          · cases hx
        · cases hx
      · rw [sel_eq, if_neg (fun q => hd (Nat.eq_of_beq_eq_true q))] at hx
        have hq2 : ((Int.ofNat x : Int) == 2) = false := q_f (fun e => hd (by have : x = 2 := Int.ofNat.inj e; subst this; rfl))
        have hq3 : ((Int.ofNat x : Int) == 3) = false := q_f (fun e => hd (by have : x = 3 := Int.ofNat.inj e; subst this; rfl))
        (repeat (first | (show W _ _ _ _ _ _ (.code (cond _ _ _) :: _) _ _; first | refine W.ct ?_ | refine W.cf ?_) | (show W _ _ _ _ _ _ (.ins (cond _ _ _ :: _) :: _) _ _; first | refine W.gt ?_ | refine W.gf ?_) | (show W _ _ _ _ _ _ [] _ _; refine W.of (.done ?_)) | (apply W.of; constructor <;> first | (show W _ _ _ _ _ _ _ _ _) | (intro (al : Nat) h st; show W _ _ _ _ _ _ _ _ _) | (intro _ h st; show W _ _ _ _ _ _ _ _ _) | exact Sd)))
        (repeat (first | (show W _ _ _ _ _ _ (.code (cond _ _ _) :: _) _ _; first | refine W.ct ?_ | refine W.cf ?_) | (show W _ _ _ _ _ _ (.ins (cond _ _ _ :: _) :: _) _ _; first | refine W.gt ?_ | refine W.gf ?_) | (show W _ _ _ _ _ _ [] _ _; refine W.of (.done ?_)) | (apply W.of; constructor <;> first | (show W _ _ _ _ _ _ _ _ _) | (intro (al : Nat) h st; show W _ _ _ _ _ _ _ _ _) | (intro _ h st; show W _ _ _ _ _ _ _ _ _) | exact Sd))); refine W.do (ho := (d_load1 (hrow _) rfl)) (w := ?_)
        (repeat (first | (show W _ _ _ _ _ _ (.code (cond _ _ _) :: _) _ _; first | refine W.ct ?_ | refine W.cf ?_) | (show W _ _ _ _ _ _ (.ins (cond _ _ _ :: _) :: _) _ _; first | refine W.gt ?_ | refine W.gf ?_) | (show W _ _ _ _ _ _ [] _ _; refine W.of (.done ?_)) | (apply W.of; constructor <;> first | (show W _ _ _ _ _ _ _ _ _) | (intro (al : Nat) h st; show W _ _ _ _ _ _ _ _ _) | (intro _ h st; show W _ _ _ _ _ _ _ _ _) | exact Sd)))
        refine W.of (.lp ?_)
        refine ⟨⟨i + 1, t, l, g, c + 2⟩, by show F - (i + 1) < F - i; omega, ⟨hlt, hR.step, hj, by show resL K F (F - (i + 1)) _ _ _ _ _ = _; rw [← hn2]; exact hx⟩, Sbs, fun hwf => ?_⟩
        show Less (g.bump (c + 2)) _
        rw [← bump_bump (h := g) (a := c) (b := 2) rfl]
        exact AHeap.bump_less hwf rfl fun a ha => by
          have ha : a < g.next + c := ha
          have hb : ((g.bump c).bump 1).next ≠ a := by show g.next + c + 1 ≠ a; omega
          rw [AHeap.get_put_ne _ _ hb, AHeap.get_new_ne _ _ hb]
          rfl
    · cases hx
  · obtain rfl : i = F := by omega
    rw [Nat.sub_self] at hx
    cases hx
    (repeat (first | (show W _ _ _ _ _ _ (.code (cond _ _ _) :: _) _ _; first | refine W.ct ?_ | refine W.cf ?_) | (show W _ _ _ _ _ _ (.ins (cond _ _ _ :: _) :: _) _ _; first | refine W.gt ?_ | refine W.gf ?_) | (show W _ _ _ _ _ _ [] _ _; refine W.of (.done ?_)) | (apply W.of; constructor <;> first | (show W _ _ _ _ _ _ _ _ _) | (intro (al : Nat) h st; show W _ _ _ _ _ _ _ _ _) | (intro _ h st; show W _ _ _ _ _ _ _ _ _) | exact Sd)))
    exact ⟨_, rfl, rfl, fun _ => Less.refl _⟩
noncomputable def kResident (args : List AV) (h : AHeap) : Option (AV × AHeap) := match args with
  | [.ptr K 0] => match h.getK K with
    | some (.row _ _ _ _ (.vals [.ptr M 0, _, _, _, _, _, _, _, _, .map _, _])) => match h.getK M with
      | some (.row _ _ _ _ (.vals [.sl _ _ F _])) => sel (Nat.blt F 1000000) (resAt h K F 0 fun r => resL K F F 0 r .nilsl h 0) none
      | _ => none
    | _ => none
  | _ => none
theorem kResident_ok (hO : OFree O) {args : List AV} {h h' : AHeap} {v : AV} (x : kResident args h = some (v, h')) : Runs O tab n_kern_Kernel_Resident args h v h' := by
  unfold kResident at x
  rw [AHeap.getK_eq] at x
  split at x
  · split at x
    · rename_i hK
      split at x
      · rename_i hM
        obtain ⟨c1, x⟩ := selN x
        obtain ⟨r, hr, x⟩ := resAt_ok x
        exact f_Resident hO hr ⟨_, _, _, _, _, _, _, _, _, _, _, _, _, _, hK⟩ hM x (blt_of c1)
      · cases x
    · cases x
  · cases x
end Go.Proofs.YtlkfclgkinaibaaGreat

namespace Go.Proofs.YtlkfclgkinaibaaGreat
variable {O : Nat → Option FSpec}
theorem bput_zero (N b v : Nat) : bput N b 0 v = N := Nat.eq_of_testBit_eq fun i => by
  rw [bput_testBit, Nat.add_zero]
  split
  · rfl
  · rfl
theorem bput_next (N b j v : Nat) : bput (bput N b j v) (b + j) 1 (v / 2 ^ (8 * j) % 256) = bput N b (j + 1) v := Nat.eq_of_testBit_eq fun i => by
  rw [bput_testBit, bput_testBit, bput_testBit]
  by_cases h1 : i < 8 * b
  · rw [if_pos (by omega), if_pos h1, if_pos h1]
  · rw [if_neg h1, if_neg h1]
    by_cases h2 : i < 8 * (b + j)
    · rw [if_pos h2, if_pos h2, if_pos (by omega)]
    · rw [if_neg h2, if_neg h2]
      by_cases h3 : i < 8 * (b + j + 1)
      · rw [if_pos h3, if_pos (by omega), show (256 : Nat) = 2 ^ 8 from rfl, Nat.testBit_mod_two_pow, Nat.testBit_div_two_pow, show i - 8 * (b + j) + 8 * j = i - 8 * b by omega]
        rw [show decide (i - 8 * (b + j) < 8) = true from decide_eq_true (by omega), Bool.true_and]
      · rw [if_neg h3, if_neg (by omega)]
structure SwS where
  j : Nat
  g : AHeap
theorem f_SetWord (hO : OFree O) {h : AHeap} {M id off len L N n i e es w : Nat} {s : Bool} (hm : MemH h M id off len L N) (hr : h.get id = some (.row e es s false (.bytes L N))) (hn : n < len) (hi : i < 512) (hL : off + n * 4096 + 4096 ≤ L) (hw : w < 2 ^ 64) : Runs O tab n_phys_Memory_SetWord [.ptr M 0, .int .i64 (n : Nat), .int .i64 (i : Nat), .int .u64 (w : Nat)] h (.bool true) (h.put id (.row e es s false (.bytes L (bput N (off + n * 4096 + 8 * i) 8 w)))) := by
  obtain ⟨b, hb⟩ : ∃ b : Nat, b = off + n * 4096 + 8 * i := ⟨_, rfl⟩
  refine runs_wl (hO.free _ rfl) rfl Njs rfl ?_
  (repeat (first | (show W _ _ _ _ _ _ (.code (cond _ _ _) :: _) _ _; first | refine W.ct ?_ | refine W.cf ?_) | (show W _ _ _ _ _ _ (.ins (cond _ _ _ :: _) :: _) _ _; first | refine W.gt ?_ | refine W.gf ?_) | (show W _ _ _ _ _ _ [] _ _; refine W.of (.done ?_)) | (apply W.of; constructor <;> first | (show W _ _ _ _ _ _ _ _ _) | (intro (al : Nat) h st; show W _ _ _ _ _ _ _ _ _) | (intro _ h st; show W _ _ _ _ _ _ _ _ _) | exact Sd)))
  refine W.cx (hr := k_cell hO hm hn hi) (w := ?_)
  rw [← hb]
  (repeat (first | (show W _ _ _ _ _ _ (.code (cond _ _ _) :: _) _ _; first | refine W.ct ?_ | refine W.cf ?_) | (show W _ _ _ _ _ _ (.ins (cond _ _ _ :: _) :: _) _ _; first | refine W.gt ?_ | refine W.gf ?_) | (show W _ _ _ _ _ _ [] _ _; refine W.of (.done ?_)) | (apply W.of; constructor <;> first | (show W _ _ _ _ _ _ _ _ _) | (intro (al : Nat) h st; show W _ _ _ _ _ _ _ _ _) | (intro _ h st; show W _ _ _ _ _ _ _ _ _) | exact Sd)))
  refine W.loopd (fun y : SwS => [(3, .int .u64 ((w / 2 ^ (8 * y.j) : Nat) : Int)), (9, .sl id b 8 (4096 - 8 * i)), (18, .int .i64 8), (19, .int .i64 (y.j : Nat))]) (fun y => y.g) (fun y => y.j ≤ 8 ∧ y.g.get id = some (.row e es s false (.bytes L (bput N b y.j w))) ∧ y.g.next = h.next ∧ ∀ a, id ≠ a → y.g.get a = h.get a) (fun y => 8 - y.j) ⟨0, h⟩ (by unfold rounds; show 8 - 0 < _; omega) ⟨by show _ = some (AV.int .u64 ((w / 2 ^ (8 * 0) : Nat) : Int)); rw [Nat.mul_zero, Nat.pow_zero, Nat.div_one]; rfl, rfl, rfl, rfl, trivial⟩ rfl ⟨Nat.zero_le _, by rw [bput_zero]; exact hr, rfl, fun _ _ => rfl⟩ ?_
  intro ⟨j, g⟩ ⟨hj, hg, hx, ho⟩
  dsimp only at hj hg hx ho ⊢
  by_cases hlt : j < 8
  · obtain ⟨v, hv⟩ : ∃ v, v = w / 2 ^ (8 * j) := ⟨_, rfl⟩
    have hv2 : v < 2 ^ 64 := Nat.lt_of_le_of_lt (hv ▸ Nat.div_le_self _ _) hw
    have hix : Does (.indexs 1) [.sl id b 8 (4096 - 8 * i), .int .i64 (j : Nat)] g (.ptr id (b + j)) g := ⟨rfl, by
      simp only [aop]; rw [if_pos ⟨by omega, by omega⟩, Nat.mul_one, Int.toNat_natCast]⟩
    have hcv : IntKind.u8.wrap (v : Int) = ((v % 256 : Nat) : Int) := by
      unfold IntKind.wrap
      simp [IntKind.bits, IntKind.signed]
    have hsr : (v : Int).fdiv (2 ^ Nat.min (8 : Int).toNat IntKind.u64.bits) = ((w / 2 ^ (8 * (j + 1)) : Nat) : Int) := by
      rw [show (2 : Int) ^ Nat.min (8 : Int).toNat IntKind.u64.bits = 256 from rfl, Int.fdiv_eq_ediv_of_nonneg _ (by omega)]
      rw [hv, show 8 * (j + 1) = 8 * j + 8 by omega, Nat.pow_add, ← Nat.div_div_eq_div_mul]
      rfl
    rw [← hv]
    (repeat (first | (show W _ _ _ _ _ _ (.code (cond _ _ _) :: _) _ _; first | refine W.ct ?_ | refine W.cf ?_) | (show W _ _ _ _ _ _ (.ins (cond _ _ _ :: _) :: _) _ _; first | refine W.gt ?_ | refine W.gf ?_) | (show W _ _ _ _ _ _ [] _ _; refine W.of (.done ?_)) | (apply W.of; constructor <;> first | (show W _ _ _ _ _ _ _ _ _) | (intro (al : Nat) h st; show W _ _ _ _ _ _ _ _ _) | (intro _ h st; show W _ _ _ _ _ _ _ _ _) | exact Sd)))
    rw [hcv]
    (repeat (first | (show W _ _ _ _ _ _ (.code (cond _ _ _) :: _) _ _; first | refine W.ct ?_ | refine W.cf ?_) | (show W _ _ _ _ _ _ (.ins (cond _ _ _ :: _) :: _) _ _; first | refine W.gt ?_ | refine W.gf ?_) | (show W _ _ _ _ _ _ [] _ _; refine W.of (.done ?_)) | (apply W.of; constructor <;> first | (show W _ _ _ _ _ _ _ _ _) | (intro (al : Nat) h st; show W _ _ _ _ _ _ _ _ _) | (intro _ h st; show W _ _ _ _ _ _ _ _ _) | exact Sd))); refine W.do (ho := hix) (w := ?_)
    have hb' : b + j < L := by omega
    refine W.dx0 (ho := x_store (d := .bytes L (bput N b j w)) (d' := .bytes L (bput (bput N b j w) (b + j) 1 (v % 256))) hg rfl rfl (by
      show (if b + j < L ∧ (0 : Int) ≤ ((v % 256 : Nat) : Int) ∧ ((v % 256 : Nat) : Int) < 256 then some (Dat.bytes L (bput (bput N b j w) (b + j) 1 ((v % 256 : Nat) : Int).toNat)) else none) = _
      rw [if_pos ⟨hb', by omega, by omega⟩]; rfl)) (w := ?_)
    (repeat (first | (show W _ _ _ _ _ _ (.code (cond _ _ _) :: _) _ _; first | refine W.ct ?_ | refine W.cf ?_) | (show W _ _ _ _ _ _ (.ins (cond _ _ _ :: _) :: _) _ _; first | refine W.gt ?_ | refine W.gf ?_) | (show W _ _ _ _ _ _ [] _ _; refine W.of (.done ?_)) | (apply W.of; constructor <;> first | (show W _ _ _ _ _ _ _ _ _) | (intro (al : Nat) h st; show W _ _ _ _ _ _ _ _ _) | (intro _ h st; show W _ _ _ _ _ _ _ _ _) | exact Sd)))
    rw [hsr]
    refine W.of (.lp ?_)
    refine ⟨⟨j + 1, g.put id (.row e es s false (.bytes L (bput (bput N b j w) (b + j) 1 (v % 256))))⟩, by show 8 - (j + 1) < 8 - j; omega, ⟨hlt, ?_, hx, fun a ha => by rw [AHeap.get_put_ne _ _ ha]; exact ho a ha⟩, Sbs, fun _ => Less.refl _⟩
    show AHeap.get (g.put id _) id = _
    rw [AHeap.get_put_same, hv, bput_next]
  · obtain rfl : j = 8 := by omega
    (repeat (first | (show W _ _ _ _ _ _ (.code (cond _ _ _) :: _) _ _; first | refine W.ct ?_ | refine W.cf ?_) | (show W _ _ _ _ _ _ (.ins (cond _ _ _ :: _) :: _) _ _; first | refine W.gt ?_ | refine W.gf ?_) | (show W _ _ _ _ _ _ [] _ _; refine W.of (.done ?_)) | (apply W.of; constructor <;> first | (show W _ _ _ _ _ _ _ _ _) | (intro (al : Nat) h st; show W _ _ _ _ _ _ _ _ _) | (intro _ h st; show W _ _ _ _ _ _ _ _ _) | exact Sd)))
    refine ⟨_, rfl, rfl, fun _ => ⟨fun a o ha => ?_, ?_⟩⟩
    · by_cases hia : id = a
      · subst hia
        rw [AHeap.get_put_same] at ha
        rw [hg, ← ha, hb]
      · rw [AHeap.get_put_ne _ _ hia] at ha
        rw [ho a hia]; exact ha
    · show g.next ≤ h.next
      omega
noncomputable def kSetWord (args : List AV) (h : AHeap) : Option (AV × AHeap) := match args with
  | [.ptr M 0, .int .i64 (.ofNat n), .int .i64 (.ofNat i), .int .u64 (.ofNat w)] => match h.getK M with
    | some (.row _ _ _ _ (.vals [.sl id off len _])) => match h.getK id with
      | some (.row e es s false (.bytes L N)) => sel (Nat.blt n len) (sel (Nat.blt i 512) (sel (Nat.ble (Nat.add (Nat.add off (Nat.mul n 4096)) 4096) L) (sel (Nat.blt w 18446744073709551616) (some (.bool true, AHeap.putK h id (.row e es s false (.bytes L (bput N (Nat.add (Nat.add off (Nat.mul n 4096)) (Nat.mul 8 i)) 8 w))))) none) none) none) none
      | _ => none
    | _ => none
  | _ => none
theorem kSetWord_ok (hO : OFree O) {args : List AV} {h h' : AHeap} {v : AV} (x : kSetWord args h = some (v, h')) : Runs O tab n_phys_Memory_SetWord args h v h' := by
  unfold kSetWord at x
  rw [AHeap.getK_eq, AHeap.putK_eq] at x
  split at x
  · split at x
    · rename_i hM
      split at x
      · rename_i hr
        obtain ⟨c1, x⟩ := selN x
        obtain ⟨c2, x⟩ := selN x
        obtain ⟨c3, x⟩ := selN x
        obtain ⟨c4, x⟩ := selN x
        cases x
        exact f_SetWord hO ⟨⟨_, _, _, _, _, hM⟩, ⟨_, _, _, _, hr⟩⟩ hr (blt_of c1) (blt_of c2) (Nat.le_of_ble_eq_true c3) (blt_of c4)
      · cases x
    · cases x
  · cases x
end Go.Proofs.YtlkfclgkinaibaaGreat

namespace Go.Proofs.YtlkfclgkinaibaaGreat
variable {O : Nat → Option FSpec}
noncomputable def rowK {α : Type} (h : AHeap) (K : Nat) (k : List AV → Option α) : Option α := match h.getK K with
  | some (.row _ _ _ _ (.vals l)) => k l
  | _ => none
theorem rowK_ok {α : Type} {h : AHeap} {K : Nat} {k : List AV → Option α} {x : α} (e : rowK h K k = some x) : ∃ e es s ro l, h.get K = some (.row e es s ro (.vals l)) ∧ k l = some x := by
  unfold rowK at e
  rw [AHeap.getK_eq] at e
  split at e
  · rename_i hg; exact ⟨_, _, _, _, _, hg, e⟩
  · cases e
noncomputable def kKMade (args : List AV) (h : AHeap) : Option (AV × AHeap) := match args with
  | [.ptr K 0] => rowK h K fun l => match l with
    | [_, _, _, _, _, _, _, _, _, .map _, _] => some (.bool true, h)
    | _ => none
  | _ => none
theorem kKMade_ok (hO : OFree O) {args : List AV} {h h' : AHeap} {v : AV} (x : kKMade args h = some (v, h')) : Runs O tab n_kern_Kernel_made args h v h' := by
  unfold kKMade at x
  split at x
  · obtain ⟨e, es, s, ro, l, hg, x⟩ := rowK_ok x
    split at x
    · cases x; exact f_kmade hO hg
    · cases x
  · cases x
noncomputable def kFrames (args : List AV) (h : AHeap) : Option (AV × AHeap) := match args with
  | [.ptr K 0] => rowK h K fun l => match l with
    | [.sl _ _ len _] => some (.int .i64 (Int.ofNat len), h)
    | _ => none
  | _ => none
theorem kFrames_ok (hO : OFree O) {args : List AV} {h h' : AHeap} {v : AV} (x : kFrames args h = some (v, h')) : Runs O tab n_phys_Memory_Frames args h v h' := by
  unfold kFrames at x
  split at x
  · obtain ⟨e, es, s, ro, l, hg, x⟩ := rowK_ok x
    split at x
    · cases x; exact f_Frames hO hg
    · cases x
  · cases x
noncomputable def kPMade (args : List AV) (h : AHeap) : Option (AV × AHeap) := match args with
  | [.ptr K 0] => rowK h K fun l => match l with
    | _ :: _ :: _ :: _ :: .int .i64 (.ofNat (Nat.succ _)) :: _ => some (.bool true, h)
    | _ => none
  | _ => none
theorem kPMade_ok (hO : OFree O) {args : List AV} {h h' : AHeap} {v : AV} (x : kPMade args h = some (v, h')) : Runs O tab n_pmap_Map_made args h v h' := by
  unfold kPMade at x
  split at x
  · obtain ⟨e, es, s, ro, l, hg, x⟩ := rowK_ok x
    split at x
    · cases x
      refine runs_w (fun _ _ _ x => progI_call (hO.free _ rfl) rfl x) Njs rfl ?_
      (repeat (first | (show W _ _ _ _ _ _ (.code (cond _ _ _) :: _) _ _; first | refine W.ct ?_ | refine W.cf ?_) | (show W _ _ _ _ _ _ (.ins (cond _ _ _ :: _) :: _) _ _; first | refine W.gt ?_ | refine W.gf ?_) | (show W _ _ _ _ _ _ [] _ _; refine W.of (.done ?_)) | (apply W.of; constructor <;> first | (show W _ _ _ _ _ _ _ _ _) | (intro (al : Nat) h st; show W _ _ _ _ _ _ _ _ _) | (intro _ h st; show W _ _ _ _ _ _ _ _ _) | exact Sd)))
      (repeat (first | (show W _ _ _ _ _ _ (.code (cond _ _ _) :: _) _ _; first | refine W.ct ?_ | refine W.cf ?_) | (show W _ _ _ _ _ _ (.ins (cond _ _ _ :: _) :: _) _ _; first | refine W.gt ?_ | refine W.gf ?_) | (show W _ _ _ _ _ _ [] _ _; refine W.of (.done ?_)) | (apply W.of; constructor <;> first | (show W _ _ _ _ _ _ _ _ _) | (intro (al : Nat) h st; show W _ _ _ _ _ _ _ _ _) | (intro _ h st; show W _ _ _ _ _ _ _ _ _) | exact Sd))); refine W.do (ho := (d_load1 hg rfl)) (w := ?_)
      (repeat (first | (show W _ _ _ _ _ _ (.code (cond _ _ _) :: _) _ _; first | refine W.ct ?_ | refine W.cf ?_) | (show W _ _ _ _ _ _ (.ins (cond _ _ _ :: _) :: _) _ _; first | refine W.gt ?_ | refine W.gf ?_) | (show W _ _ _ _ _ _ [] _ _; refine W.of (.done ?_)) | (apply W.of; constructor <;> first | (show W _ _ _ _ _ _ _ _ _) | (intro (al : Nat) h st; show W _ _ _ _ _ _ _ _ _) | (intro _ h st; show W _ _ _ _ _ _ _ _ _) | exact Sd)))
      rename_i a _ _
      exact ⟨_, rfl, congrArg AV.bool (d_t (by show (0 : Int) < Int.ofNat (Nat.succ _); exact Int.natCast_pos.mpr (Nat.succ_pos _))), rfl⟩
    · cases x
  · cases x
noncomputable def kAMade (args : List AV) (h : AHeap) : Option (AV × AHeap) := match args with
  | [.ptr K 0] => rowK h K fun l => match l with
    | _ :: .bool b :: _ => some (.bool b, h)
    | _ => none
  | _ => none
theorem kAMade_ok (hO : OFree O) {args : List AV} {h h' : AHeap} {v : AV} (x : kAMade args h = some (v, h')) : Runs O tab n_amap_Pool_made args h v h' := by
  unfold kAMade at x
  split at x
  · obtain ⟨e, es, s, ro, l, hg, x⟩ := rowK_ok x
    split at x
    · cases x
      refine runs_w (fun _ _ _ x => progI_call (hO.free _ rfl) rfl x) Njs rfl ?_
      (repeat (first | (show W _ _ _ _ _ _ (.code (cond _ _ _) :: _) _ _; first | refine W.ct ?_ | refine W.cf ?_) | (show W _ _ _ _ _ _ (.ins (cond _ _ _ :: _) :: _) _ _; first | refine W.gt ?_ | refine W.gf ?_) | (show W _ _ _ _ _ _ [] _ _; refine W.of (.done ?_)) | (apply W.of; constructor <;> first | (show W _ _ _ _ _ _ _ _ _) | (intro (al : Nat) h st; show W _ _ _ _ _ _ _ _ _) | (intro _ h st; show W _ _ _ _ _ _ _ _ _) | exact Sd)))
      (repeat (first | (show W _ _ _ _ _ _ (.code (cond _ _ _) :: _) _ _; first | refine W.ct ?_ | refine W.cf ?_) | (show W _ _ _ _ _ _ (.ins (cond _ _ _ :: _) :: _) _ _; first | refine W.gt ?_ | refine W.gf ?_) | (show W _ _ _ _ _ _ [] _ _; refine W.of (.done ?_)) | (apply W.of; constructor <;> first | (show W _ _ _ _ _ _ _ _ _) | (intro (al : Nat) h st; show W _ _ _ _ _ _ _ _ _) | (intro _ h st; show W _ _ _ _ _ _ _ _ _) | exact Sd))); refine W.do (ho := (d_load1 hg rfl)) (w := ?_)
      (repeat (first | (show W _ _ _ _ _ _ (.code (cond _ _ _) :: _) _ _; first | refine W.ct ?_ | refine W.cf ?_) | (show W _ _ _ _ _ _ (.ins (cond _ _ _ :: _) :: _) _ _; first | refine W.gt ?_ | refine W.gf ?_) | (show W _ _ _ _ _ _ [] _ _; refine W.of (.done ?_)) | (apply W.of; constructor <;> first | (show W _ _ _ _ _ _ _ _ _) | (intro (al : Nat) h st; show W _ _ _ _ _ _ _ _ _) | (intro _ h st; show W _ _ _ _ _ _ _ _ _) | exact Sd)))
      exact ⟨_, rfl, rfl, rfl⟩
    · cases x
  · cases x
noncomputable def kDMade (args : List AV) (h : AHeap) : Option (AV × AHeap) := match args with
  | [.ptr K 0] => rowK h K fun l => match l with
    | .ptr _ _ :: _ => some (.bool true, h)
    | _ => none
  | _ => none
theorem kDMade_ok (hO : OFree O) {args : List AV} {h h' : AHeap} {v : AV} (x : kDMade args h = some (v, h')) : Runs O tab n_daemon_Daemon_made args h v h' := by
  unfold kDMade at x
  split at x
  · obtain ⟨e, es, s, ro, l, hg, x⟩ := rowK_ok x
    split at x
    · cases x
      refine runs_w (fun _ _ _ x => progI_call (hO.free _ rfl) rfl x) Njs rfl ?_
      (repeat (first | (show W _ _ _ _ _ _ (.code (cond _ _ _) :: _) _ _; first | refine W.ct ?_ | refine W.cf ?_) | (show W _ _ _ _ _ _ (.ins (cond _ _ _ :: _) :: _) _ _; first | refine W.gt ?_ | refine W.gf ?_) | (show W _ _ _ _ _ _ [] _ _; refine W.of (.done ?_)) | (apply W.of; constructor <;> first | (show W _ _ _ _ _ _ _ _ _) | (intro (al : Nat) h st; show W _ _ _ _ _ _ _ _ _) | (intro _ h st; show W _ _ _ _ _ _ _ _ _) | exact Sd)))
      (repeat (first | (show W _ _ _ _ _ _ (.code (cond _ _ _) :: _) _ _; first | refine W.ct ?_ | refine W.cf ?_) | (show W _ _ _ _ _ _ (.ins (cond _ _ _ :: _) :: _) _ _; first | refine W.gt ?_ | refine W.gf ?_) | (show W _ _ _ _ _ _ [] _ _; refine W.of (.done ?_)) | (apply W.of; constructor <;> first | (show W _ _ _ _ _ _ _ _ _) | (intro (al : Nat) h st; show W _ _ _ _ _ _ _ _ _) | (intro _ h st; show W _ _ _ _ _ _ _ _ _) | exact Sd))); refine W.do (ho := (d_load1 hg rfl)) (w := ?_)
      (repeat (first | (show W _ _ _ _ _ _ (.code (cond _ _ _) :: _) _ _; first | refine W.ct ?_ | refine W.cf ?_) | (show W _ _ _ _ _ _ (.ins (cond _ _ _ :: _) :: _) _ _; first | refine W.gt ?_ | refine W.gf ?_) | (show W _ _ _ _ _ _ [] _ _; refine W.of (.done ?_)) | (apply W.of; constructor <;> first | (show W _ _ _ _ _ _ _ _ _) | (intro (al : Nat) h st; show W _ _ _ _ _ _ _ _ _) | (intro _ h st; show W _ _ _ _ _ _ _ _ _) | exact Sd)))
      exact ⟨_, rfl, rfl, rfl⟩
    · cases x
  · cases x
noncomputable def kRRows (args : List AV) (h : AHeap) : Option (AV × AHeap) := match args with
  | [.ptr K 0] => rowK h K fun l => match l with
    | .sl _ _ len _ :: _ => some (.int .i64 (Int.ofNat len), h)
    | .ssl _ _ _ len :: _ => some (.int .i64 (Int.ofNat len), h)
    | .nilsl :: _ => some (.int .i64 0, h)
    | _ => none
  | _ => none
theorem kRRows_ok (hO : OFree O) {args : List AV} {h h' : AHeap} {v : AV} (x : kRRows args h = some (v, h')) : Runs O tab n_ring_Rows_int_Rows args h v h' := by
  unfold kRRows at x
  split at x
  · obtain ⟨e, es, s, ro, l, hg, x⟩ := rowK_ok x
    split at x
    · cases x
      refine runs_w (fun _ _ _ x => progI_call (hO.free _ rfl) rfl x) Njs rfl ?_
      (repeat (first | (show W _ _ _ _ _ _ (.code (cond _ _ _) :: _) _ _; first | refine W.ct ?_ | refine W.cf ?_) | (show W _ _ _ _ _ _ (.ins (cond _ _ _ :: _) :: _) _ _; first | refine W.gt ?_ | refine W.gf ?_) | (show W _ _ _ _ _ _ [] _ _; refine W.of (.done ?_)) | (apply W.of; constructor <;> first | (show W _ _ _ _ _ _ _ _ _) | (intro (al : Nat) h st; show W _ _ _ _ _ _ _ _ _) | (intro _ h st; show W _ _ _ _ _ _ _ _ _) | exact Sd)))
      (repeat (first | (show W _ _ _ _ _ _ (.code (cond _ _ _) :: _) _ _; first | refine W.ct ?_ | refine W.cf ?_) | (show W _ _ _ _ _ _ (.ins (cond _ _ _ :: _) :: _) _ _; first | refine W.gt ?_ | refine W.gf ?_) | (show W _ _ _ _ _ _ [] _ _; refine W.of (.done ?_)) | (apply W.of; constructor <;> first | (show W _ _ _ _ _ _ _ _ _) | (intro (al : Nat) h st; show W _ _ _ _ _ _ _ _ _) | (intro _ h st; show W _ _ _ _ _ _ _ _ _) | exact Sd))); refine W.do (ho := (d_load1 hg rfl)) (w := ?_)
      (repeat (first | (show W _ _ _ _ _ _ (.code (cond _ _ _) :: _) _ _; first | refine W.ct ?_ | refine W.cf ?_) | (show W _ _ _ _ _ _ (.ins (cond _ _ _ :: _) :: _) _ _; first | refine W.gt ?_ | refine W.gf ?_) | (show W _ _ _ _ _ _ [] _ _; refine W.of (.done ?_)) | (apply W.of; constructor <;> first | (show W _ _ _ _ _ _ _ _ _) | (intro (al : Nat) h st; show W _ _ _ _ _ _ _ _ _) | (intro _ h st; show W _ _ _ _ _ _ _ _ _) | exact Sd)))
      exact ⟨_, rfl, rfl, rfl⟩
    · cases x
      refine runs_w (fun _ _ _ x => progI_call (hO.free _ rfl) rfl x) Njs rfl ?_
      (repeat (first | (show W _ _ _ _ _ _ (.code (cond _ _ _) :: _) _ _; first | refine W.ct ?_ | refine W.cf ?_) | (show W _ _ _ _ _ _ (.ins (cond _ _ _ :: _) :: _) _ _; first | refine W.gt ?_ | refine W.gf ?_) | (show W _ _ _ _ _ _ [] _ _; refine W.of (.done ?_)) | (apply W.of; constructor <;> first | (show W _ _ _ _ _ _ _ _ _) | (intro (al : Nat) h st; show W _ _ _ _ _ _ _ _ _) | (intro _ h st; show W _ _ _ _ _ _ _ _ _) | exact Sd)))
      (repeat (first | (show W _ _ _ _ _ _ (.code (cond _ _ _) :: _) _ _; first | refine W.ct ?_ | refine W.cf ?_) | (show W _ _ _ _ _ _ (.ins (cond _ _ _ :: _) :: _) _ _; first | refine W.gt ?_ | refine W.gf ?_) | (show W _ _ _ _ _ _ [] _ _; refine W.of (.done ?_)) | (apply W.of; constructor <;> first | (show W _ _ _ _ _ _ _ _ _) | (intro (al : Nat) h st; show W _ _ _ _ _ _ _ _ _) | (intro _ h st; show W _ _ _ _ _ _ _ _ _) | exact Sd))); refine W.do (ho := (d_load1 hg rfl)) (w := ?_)
      (repeat (first | (show W _ _ _ _ _ _ (.code (cond _ _ _) :: _) _ _; first | refine W.ct ?_ | refine W.cf ?_) | (show W _ _ _ _ _ _ (.ins (cond _ _ _ :: _) :: _) _ _; first | refine W.gt ?_ | refine W.gf ?_) | (show W _ _ _ _ _ _ [] _ _; refine W.of (.done ?_)) | (apply W.of; constructor <;> first | (show W _ _ _ _ _ _ _ _ _) | (intro (al : Nat) h st; show W _ _ _ _ _ _ _ _ _) | (intro _ h st; show W _ _ _ _ _ _ _ _ _) | exact Sd)))
      exact ⟨_, rfl, rfl, rfl⟩
    · cases x
      refine runs_w (fun _ _ _ x => progI_call (hO.free _ rfl) rfl x) Njs rfl ?_
      (repeat (first | (show W _ _ _ _ _ _ (.code (cond _ _ _) :: _) _ _; first | refine W.ct ?_ | refine W.cf ?_) | (show W _ _ _ _ _ _ (.ins (cond _ _ _ :: _) :: _) _ _; first | refine W.gt ?_ | refine W.gf ?_) | (show W _ _ _ _ _ _ [] _ _; refine W.of (.done ?_)) | (apply W.of; constructor <;> first | (show W _ _ _ _ _ _ _ _ _) | (intro (al : Nat) h st; show W _ _ _ _ _ _ _ _ _) | (intro _ h st; show W _ _ _ _ _ _ _ _ _) | exact Sd)))
      (repeat (first | (show W _ _ _ _ _ _ (.code (cond _ _ _) :: _) _ _; first | refine W.ct ?_ | refine W.cf ?_) | (show W _ _ _ _ _ _ (.ins (cond _ _ _ :: _) :: _) _ _; first | refine W.gt ?_ | refine W.gf ?_) | (show W _ _ _ _ _ _ [] _ _; refine W.of (.done ?_)) | (apply W.of; constructor <;> first | (show W _ _ _ _ _ _ _ _ _) | (intro (al : Nat) h st; show W _ _ _ _ _ _ _ _ _) | (intro _ h st; show W _ _ _ _ _ _ _ _ _) | exact Sd))); refine W.do (ho := (d_load1 hg rfl)) (w := ?_)
      (repeat (first | (show W _ _ _ _ _ _ (.code (cond _ _ _) :: _) _ _; first | refine W.ct ?_ | refine W.cf ?_) | (show W _ _ _ _ _ _ (.ins (cond _ _ _ :: _) :: _) _ _; first | refine W.gt ?_ | refine W.gf ?_) | (show W _ _ _ _ _ _ [] _ _; refine W.of (.done ?_)) | (apply W.of; constructor <;> first | (show W _ _ _ _ _ _ _ _ _) | (intro (al : Nat) h st; show W _ _ _ _ _ _ _ _ _) | (intro _ h st; show W _ _ _ _ _ _ _ _ _) | exact Sd)))
      exact ⟨_, rfl, rfl, rfl⟩
    · cases x
  · cases x
end Go.Proofs.YtlkfclgkinaibaaGreat

namespace Go.Proofs.YtlkfclgkinaibaaGreat
noncomputable def kNoD (f : List AV → AHeap → Option (AV × AHeap)) : KF := fun _ args h => f args h
noncomputable def kTab : Nat → Option KF := fun n =>
  (sel (Nat.beq n n_walk_Leaves_1_1) (some kDown)
  (sel (Nat.beq n n_walk_below) (some (kNoD kBelow))
  (sel (Nat.beq n n_walk_read) (some (kNoD kRead))
  (sel (Nat.beq n n_phys_Memory_Word) (some (kNoD kWord))
  (sel (Nat.beq n n_pte_Decode) (some (kNoD kDecode))
  (sel (Nat.beq n n_pte_Kind) (some (kNoD kKind))
  (sel (Nat.beq n n_pmap_Map_bare) (some (kNoD kBare))
  (sel (Nat.beq n n_frames_Pool_Count) (some (kNoD kCount))
  (sel (Nat.beq n n_frames_Pool_Get) (some (kNoD kGet))
  (sel (Nat.beq n n_kern_Kernel_Resident) (some (kNoD kResident))
  (sel (Nat.beq n n_phys_Memory_SetWord) (some (kNoD kSetWord))
  (sel (Nat.beq n n_kern_Kernel_made) (some (kNoD kKMade))
  (sel (Nat.beq n n_phys_Memory_Frames) (some (kNoD kFrames))
  (sel (Nat.beq n n_pmap_Map_made) (some (kNoD kPMade))
  (sel (Nat.beq n n_amap_Pool_made) (some (kNoD kAMade))
  (sel (Nat.beq n n_daemon_Daemon_made) (some (kNoD kDMade))
  (sel (Nat.beq n n_ring_Rows_int_Rows) (some (kNoD kRRows)) none)))))))))))))))))
theorem selK {a b : Nat} {x y : Option KF} {k : KF} (e : sel (Nat.beq a b) x y = some k) : (a = b ∧ x = some k) ∨ y = some k := by
  rw [sel_eq, beqD] at e
  split at e
  · rename_i h; exact .inl ⟨of_decide_eq_true h, e⟩
  · exact .inr e
theorem kTab_ok {O : Nat → Option FSpec} (hO : OFree O) : KOk O tab kTab := by
  intro n k e D hD args h v h' Q x q
  rcases selK e with ⟨rfl, e⟩ | e
  · cases e; exact k_down hO (D := D) hD x Q q
  rcases selK e with ⟨rfl, e⟩ | e
  · cases e; exact kBelow_ok hO x Q q
  rcases selK e with ⟨rfl, e⟩ | e
  · cases e; exact kRead_ok hO x Q q
  rcases selK e with ⟨rfl, e⟩ | e
  · cases e; exact kWord_ok hO x Q q
  rcases selK e with ⟨rfl, e⟩ | e
  · cases e; exact kDecode_ok hO x Q q
  rcases selK e with ⟨rfl, e⟩ | e
  · cases e; exact kKind_ok hO x Q q
  rcases selK e with ⟨rfl, e⟩ | e
  · cases e; exact kBare_ok hO x Q q
  rcases selK e with ⟨rfl, e⟩ | e
  · cases e; exact kCount_ok hO x Q q
  rcases selK e with ⟨rfl, e⟩ | e
  · cases e; exact kGet_ok hO x Q q
  rcases selK e with ⟨rfl, e⟩ | e
  · cases e; exact kResident_ok hO x Q q
  rcases selK e with ⟨rfl, e⟩ | e
  · cases e; exact kSetWord_ok hO x Q q
  rcases selK e with ⟨rfl, e⟩ | e
  · cases e; exact kKMade_ok hO x Q q
  rcases selK e with ⟨rfl, e⟩ | e
  · cases e; exact kFrames_ok hO x Q q
  rcases selK e with ⟨rfl, e⟩ | e
  · cases e; exact kPMade_ok hO x Q q
  rcases selK e with ⟨rfl, e⟩ | e
  · cases e; exact kAMade_ok hO x Q q
  rcases selK e with ⟨rfl, e⟩ | e
  · cases e; exact kDMade_ok hO x Q q
  rcases selK e with ⟨rfl, e⟩ | e
  · cases e; exact kRRows_ok hO x Q q
  cases e
end Go.Proofs.YtlkfclgkinaibaaGreat

namespace Go.Proofs.YtlkfclgkinaibaaGreat
variable {O : Nat → Option FSpec}
def pbH (h : AHeap) (f p : Nat) : AHeap := ((h.new (pteRow f p)).new (pteRow f p)).new (pteRow f p)
theorem pbH_get {h : AHeap} {f p j : Nat} (hj : j < h.next) : (pbH h f p).get j = h.get j := by
  unfold pbH
  rw [AHeap.get_new_ne _ _ (by show h.next + 2 ≠ j; omega), AHeap.get_new_ne _ _ (by show h.next + 1 ≠ j; omega), AHeap.get_new_ne _ _ (by omega)]
section
variable {h : AHeap} {X M id off len L N n i v f p e es : Nat} {s ro : Bool} {l : List AV}
theorem p_below (hO : OFree O) (hX : h.get X = some (.row e es s ro (.vals (.ptr M 0 :: l)))) (h0 : X < h.next) (hm : MemH h M id off len L N) (h1 : M < h.next) (h2 : id < h.next) (hn : n < len) (hi : i < 512) (hL : off + n * 4096 + 4096 ≤ L) (hv : v = wordN N (off + n * 4096 + 8 * i)) :
    Runs O tab n_pmap_Map_below [.ptr X 0, .int .i64 (n : Nat), .int .i64 (i : Nat)] h (.tuple [.int .i64 (ppN v : Nat), .bool (sel (Nat.beq (kindM (flN v)) 1) (Nat.blt (ppN v) len) false)]) (pbH h (flN v) (ppN v)) := by
  have hv64 : v < 2 ^ 64 := by rw [hv]; exact Nat.mod_lt _ (by decide)
  obtain ⟨f, hf⟩ : ∃ f, f = flN v := ⟨_, rfl⟩
  obtain ⟨p, hp⟩ : ∃ p, p = ppN v := ⟨_, rfl⟩
  have hf63 : f < 2 ^ 63 := by rw [hf]; exact Nat.lt_of_lt_of_le (Nat.mod_lt _ (by decide)) (by decide)
  rw [← hf, ← hp]
  have g1 : ((h.new (pteRow f p)).new (pteRow f p)).get (h.next + 1) = some (pteRow f p) := AHeap.get_new_same _ _
  have g2 : (pbH h f p).get (h.next + 1) = some (pteRow f p) := by
    unfold pbH
    rw [AHeap.get_new_ne _ _ (by show h.next + 2 ≠ h.next + 1; omega)]; exact g1
  have gX : (pbH h f p).get X = some (.row e es s ro (.vals (.ptr M 0 :: l))) := by rw [pbH_get h0]; exact hX
  have hmb : MemH (pbH h f p) M id off len L N := by
    have a1 := hm.new h1 h2 (pteRow f p)
    have a2 := a1.new (Nat.lt_succ_of_lt h1) (Nat.lt_succ_of_lt h2) (pteRow f p)
    exact a2.new (by show M < h.next + 2; omega) (by show id < h.next + 2; omega) (pteRow f p)
  refine runs_w (fun _ _ _ x => progI_call (hO.free _ rfl) rfl x) Njs rfl ?_
  (repeat (first | (show W _ _ _ _ _ _ (.code (cond _ _ _) :: _) _ _; first | refine W.ct ?_ | refine W.cf ?_) | (show W _ _ _ _ _ _ (.ins (cond _ _ _ :: _) :: _) _ _; first | refine W.gt ?_ | refine W.gf ?_) | (show W _ _ _ _ _ _ [] _ _; refine W.of (.done ?_)) | (apply W.of; constructor <;> first | (show W _ _ _ _ _ _ _ _ _) | (intro (al : Nat) h st; show W _ _ _ _ _ _ _ _ _) | (intro _ h st; show W _ _ _ _ _ _ _ _ _) | exact Sd)))
  (repeat (first | (show W _ _ _ _ _ _ (.code (cond _ _ _) :: _) _ _; first | refine W.ct ?_ | refine W.cf ?_) | (show W _ _ _ _ _ _ (.ins (cond _ _ _ :: _) :: _) _ _; first | refine W.gt ?_ | refine W.gf ?_) | (show W _ _ _ _ _ _ [] _ _; refine W.of (.done ?_)) | (apply W.of; constructor <;> first | (show W _ _ _ _ _ _ _ _ _) | (intro (al : Nat) h st; show W _ _ _ _ _ _ _ _ _) | (intro _ h st; show W _ _ _ _ _ _ _ _ _) | exact Sd))); refine W.do (ho := (d_load1 hX rfl)) (w := ?_)
  (repeat (first | (show W _ _ _ _ _ _ (.code (cond _ _ _) :: _) _ _; first | refine W.ct ?_ | refine W.cf ?_) | (show W _ _ _ _ _ _ (.ins (cond _ _ _ :: _) :: _) _ _; first | refine W.gt ?_ | refine W.gf ?_) | (show W _ _ _ _ _ _ [] _ _; refine W.of (.done ?_)) | (apply W.of; constructor <;> first | (show W _ _ _ _ _ _ _ _ _) | (intro (al : Nat) h st; show W _ _ _ _ _ _ _ _ _) | (intro _ h st; show W _ _ _ _ _ _ _ _ _) | exact Sd)))
  refine W.cx (hr := k_Word hO hm hn hi hL) (w := ?_)
  rw [← hv]
  (repeat (first | (show W _ _ _ _ _ _ (.code (cond _ _ _) :: _) _ _; first | refine W.ct ?_ | refine W.cf ?_) | (show W _ _ _ _ _ _ (.ins (cond _ _ _ :: _) :: _) _ _; first | refine W.gt ?_ | refine W.gf ?_) | (show W _ _ _ _ _ _ [] _ _; refine W.of (.done ?_)) | (apply W.of; constructor <;> first | (show W _ _ _ _ _ _ _ _ _) | (intro (al : Nat) h st; show W _ _ _ _ _ _ _ _ _) | (intro _ h st; show W _ _ _ _ _ _ _ _ _) | exact Sd)))
  have hd := k_Decode (h := h) hO hv64
  rw [← hf, ← hp] at hd
  refine W.cx (hr := hd) (w := ?_)
  refine W.dx (ho := x_alloc rfl rfl) (w := ?_)
  (repeat (first | (show W _ _ _ _ _ _ (.code (cond _ _ _) :: _) _ _; first | refine W.ct ?_ | refine W.cf ?_) | (show W _ _ _ _ _ _ (.ins (cond _ _ _ :: _) :: _) _ _; first | refine W.gt ?_ | refine W.gf ?_) | (show W _ _ _ _ _ _ [] _ _; refine W.of (.done ?_)) | (apply W.of; constructor <;> first | (show W _ _ _ _ _ _ _ _ _) | (intro (al : Nat) h st; show W _ _ _ _ _ _ _ _ _) | (intro _ h st; show W _ _ _ _ _ _ _ _ _) | exact Sd)))
  refine W.dx0 (ho := x_store (d := .vals [.int .i64 0, .int .i64 0]) (d' := .vals [.int .i64 (f : Nat), .int .i64 (p : Nat)]) (AHeap.get_new_same _ _) rfl rfl rfl) (w := ?_)
  rw [show ((h.new (pteRow f p)).new (.row ty_api_PTE 2 false false (.vals [.int .i64 0, .int .i64 0]))).put (h.new (pteRow f p)).next (.row ty_api_PTE 2 false false (.vals [.int .i64 (f : Nat), .int .i64 (p : Nat)])) = (h.new (pteRow f p)).new (pteRow f p) from AHeap.new_put _ _ _]
  change W _ _ _ _ _ _ _ ((10, .ptr (h.next + 1) 0) :: _) _
  (repeat (first | (show W _ _ _ _ _ _ (.code (cond _ _ _) :: _) _ _; first | refine W.ct ?_ | refine W.cf ?_) | (show W _ _ _ _ _ _ (.ins (cond _ _ _ :: _) :: _) _ _; first | refine W.gt ?_ | refine W.gf ?_) | (show W _ _ _ _ _ _ [] _ _; refine W.of (.done ?_)) | (apply W.of; constructor <;> first | (show W _ _ _ _ _ _ _ _ _) | (intro (al : Nat) h st; show W _ _ _ _ _ _ _ _ _) | (intro _ h st; show W _ _ _ _ _ _ _ _ _) | exact Sd)))
  (repeat (first | (show W _ _ _ _ _ _ (.code (cond _ _ _) :: _) _ _; first | refine W.ct ?_ | refine W.cf ?_) | (show W _ _ _ _ _ _ (.ins (cond _ _ _ :: _) :: _) _ _; first | refine W.gt ?_ | refine W.gf ?_) | (show W _ _ _ _ _ _ [] _ _; refine W.of (.done ?_)) | (apply W.of; constructor <;> first | (show W _ _ _ _ _ _ _ _ _) | (intro (al : Nat) h st; show W _ _ _ _ _ _ _ _ _) | (intro _ h st; show W _ _ _ _ _ _ _ _ _) | exact Sd))); refine W.do (ho := (d_load1 g1 rfl)) (w := ?_)
  (repeat (first | (show W _ _ _ _ _ _ (.code (cond _ _ _) :: _) _ _; first | refine W.ct ?_ | refine W.cf ?_) | (show W _ _ _ _ _ _ (.ins (cond _ _ _ :: _) :: _) _ _; first | refine W.gt ?_ | refine W.gf ?_) | (show W _ _ _ _ _ _ [] _ _; refine W.of (.done ?_)) | (apply W.of; constructor <;> first | (show W _ _ _ _ _ _ _ _ _) | (intro (al : Nat) h st; show W _ _ _ _ _ _ _ _ _) | (intro _ h st; show W _ _ _ _ _ _ _ _ _) | exact Sd))); refine W.do (ho := (d_loadn g1 rfl)) (w := ?_)
  (repeat (first | (show W _ _ _ _ _ _ (.code (cond _ _ _) :: _) _ _; first | refine W.ct ?_ | refine W.cf ?_) | (show W _ _ _ _ _ _ (.ins (cond _ _ _ :: _) :: _) _ _; first | refine W.gt ?_ | refine W.gf ?_) | (show W _ _ _ _ _ _ [] _ _; refine W.of (.done ?_)) | (apply W.of; constructor <;> first | (show W _ _ _ _ _ _ _ _ _) | (intro (al : Nat) h st; show W _ _ _ _ _ _ _ _ _) | (intro _ h st; show W _ _ _ _ _ _ _ _ _) | exact Sd)))
  refine W.cx (hr := k_Kind hO hf63) (w := ?_)
  change W _ _ _ _ _ _ _ _ (pbH h f p)
  (repeat (first | (show W _ _ _ _ _ _ (.code (cond _ _ _) :: _) _ _; first | refine W.ct ?_ | refine W.cf ?_) | (show W _ _ _ _ _ _ (.ins (cond _ _ _ :: _) :: _) _ _; first | refine W.gt ?_ | refine W.gf ?_) | (show W _ _ _ _ _ _ [] _ _; refine W.of (.done ?_)) | (apply W.of; constructor <;> first | (show W _ _ _ _ _ _ _ _ _) | (intro (al : Nat) h st; show W _ _ _ _ _ _ _ _ _) | (intro _ h st; show W _ _ _ _ _ _ _ _ _) | exact Sd))); refine W.of (.ag (.dz rfl rfl (d_load1 g2 rfl) rfl .nil) ?_)
  obtain ⟨kd, hkd⟩ : ∃ kd, kd = kindM f := ⟨_, rfl⟩
  rw [← hkd, sel_eq, beqD, bltD]
  simp only [decide_eq_true_eq]
  by_cases hk : kd = 1
  · rw [if_pos hk]
    have hq : (((kd : Nat) : Int) == 1) = true := q_t (by omega)
    (repeat (first | (show W _ _ _ _ _ _ (.code (cond _ _ _) :: _) _ _; first | refine W.ct ?_ | refine W.cf ?_) | (show W _ _ _ _ _ _ (.ins (cond _ _ _ :: _) :: _) _ _; first | refine W.gt ?_ | refine W.gf ?_) | (show W _ _ _ _ _ _ [] _ _; refine W.of (.done ?_)) | (apply W.of; constructor <;> first | (show W _ _ _ _ _ _ _ _ _) | (intro (al : Nat) h st; show W _ _ _ _ _ _ _ _ _) | (intro _ h st; show W _ _ _ _ _ _ _ _ _) | exact Sd)))
    (repeat (first | (show W _ _ _ _ _ _ (.code (cond _ _ _) :: _) _ _; first | refine W.ct ?_ | refine W.cf ?_) | (show W _ _ _ _ _ _ (.ins (cond _ _ _ :: _) :: _) _ _; first | refine W.gt ?_ | refine W.gf ?_) | (show W _ _ _ _ _ _ [] _ _; refine W.of (.done ?_)) | (apply W.of; constructor <;> first | (show W _ _ _ _ _ _ _ _ _) | (intro (al : Nat) h st; show W _ _ _ _ _ _ _ _ _) | (intro _ h st; show W _ _ _ _ _ _ _ _ _) | exact Sd))); refine W.do (ho := (d_load1 g2 rfl)) (w := ?_)
    (repeat (first | (show W _ _ _ _ _ _ (.code (cond _ _ _) :: _) _ _; first | refine W.ct ?_ | refine W.cf ?_) | (show W _ _ _ _ _ _ (.ins (cond _ _ _ :: _) :: _) _ _; first | refine W.gt ?_ | refine W.gf ?_) | (show W _ _ _ _ _ _ [] _ _; refine W.of (.done ?_)) | (apply W.of; constructor <;> first | (show W _ _ _ _ _ _ _ _ _) | (intro (al : Nat) h st; show W _ _ _ _ _ _ _ _ _) | (intro _ h st; show W _ _ _ _ _ _ _ _ _) | exact Sd)))
    (repeat (first | (show W _ _ _ _ _ _ (.code (cond _ _ _) :: _) _ _; first | refine W.ct ?_ | refine W.cf ?_) | (show W _ _ _ _ _ _ (.ins (cond _ _ _ :: _) :: _) _ _; first | refine W.gt ?_ | refine W.gf ?_) | (show W _ _ _ _ _ _ [] _ _; refine W.of (.done ?_)) | (apply W.of; constructor <;> first | (show W _ _ _ _ _ _ _ _ _) | (intro (al : Nat) h st; show W _ _ _ _ _ _ _ _ _) | (intro _ h st; show W _ _ _ _ _ _ _ _ _) | exact Sd))); refine W.do (ho := (d_load1 gX rfl)) (w := ?_)
    (repeat (first | (show W _ _ _ _ _ _ (.code (cond _ _ _) :: _) _ _; first | refine W.ct ?_ | refine W.cf ?_) | (show W _ _ _ _ _ _ (.ins (cond _ _ _ :: _) :: _) _ _; first | refine W.gt ?_ | refine W.gf ?_) | (show W _ _ _ _ _ _ [] _ _; refine W.of (.done ?_)) | (apply W.of; constructor <;> first | (show W _ _ _ _ _ _ _ _ _) | (intro (al : Nat) h st; show W _ _ _ _ _ _ _ _ _) | (intro _ h st; show W _ _ _ _ _ _ _ _ _) | exact Sd)))
    refine W.cx (hr := k_Frames hO hmb) (w := ?_)
    rw [hq]
    (repeat (first | (show W _ _ _ _ _ _ (.code (cond _ _ _) :: _) _ _; first | refine W.ct ?_ | refine W.cf ?_) | (show W _ _ _ _ _ _ (.ins (cond _ _ _ :: _) :: _) _ _; first | refine W.gt ?_ | refine W.gf ?_) | (show W _ _ _ _ _ _ [] _ _; refine W.of (.done ?_)) | (apply W.of; constructor <;> first | (show W _ _ _ _ _ _ _ _ _) | (intro (al : Nat) h st; show W _ _ _ _ _ _ _ _ _) | (intro _ h st; show W _ _ _ _ _ _ _ _ _) | exact Sd))); refine W.of (.ag (.dz rfl rfl (d_load1 g2 rfl) rfl (.gd (b := true) rfl (.dz rfl rfl (d_load1 g2 rfl) rfl .nil))) ?_)
    (repeat (first | (show W _ _ _ _ _ _ (.code (cond _ _ _) :: _) _ _; first | refine W.ct ?_ | refine W.cf ?_) | (show W _ _ _ _ _ _ (.ins (cond _ _ _ :: _) :: _) _ _; first | refine W.gt ?_ | refine W.gf ?_) | (show W _ _ _ _ _ _ [] _ _; refine W.of (.done ?_)) | (apply W.of; constructor <;> first | (show W _ _ _ _ _ _ _ _ _) | (intro (al : Nat) h st; show W _ _ _ _ _ _ _ _ _) | (intro _ h st; show W _ _ _ _ _ _ _ _ _) | exact Sd)))
    refine ⟨_, rfl, ?_, rfl⟩
    rw [show (decide ((p : Int) < (len : Nat)) : Bool) = decide (p < len) from decide_eq_decide.2 (by omega)]
    rfl
  · rw [if_neg hk]
    have hq : (((kd : Nat) : Int) == 1) = false := q_f (by omega)
    (repeat (first | (show W _ _ _ _ _ _ (.code (cond _ _ _) :: _) _ _; first | refine W.ct ?_ | refine W.cf ?_) | (show W _ _ _ _ _ _ (.ins (cond _ _ _ :: _) :: _) _ _; first | refine W.gt ?_ | refine W.gf ?_) | (show W _ _ _ _ _ _ [] _ _; refine W.of (.done ?_)) | (apply W.of; constructor <;> first | (show W _ _ _ _ _ _ _ _ _) | (intro (al : Nat) h st; show W _ _ _ _ _ _ _ _ _) | (intro _ h st; show W _ _ _ _ _ _ _ _ _) | exact Sd)))
    rw [hq]
    (repeat (first | (show W _ _ _ _ _ _ (.code (cond _ _ _) :: _) _ _; first | refine W.ct ?_ | refine W.cf ?_) | (show W _ _ _ _ _ _ (.ins (cond _ _ _ :: _) :: _) _ _; first | refine W.gt ?_ | refine W.gf ?_) | (show W _ _ _ _ _ _ [] _ _; refine W.of (.done ?_)) | (apply W.of; constructor <;> first | (show W _ _ _ _ _ _ _ _ _) | (intro (al : Nat) h st; show W _ _ _ _ _ _ _ _ _) | (intro _ h st; show W _ _ _ _ _ _ _ _ _) | exact Sd))); refine W.of (.ag (.dz rfl rfl (d_load1 g2 rfl) rfl (.gd (b := false) rfl .nil)) ?_)
    (repeat (first | (show W _ _ _ _ _ _ (.code (cond _ _ _) :: _) _ _; first | refine W.ct ?_ | refine W.cf ?_) | (show W _ _ _ _ _ _ (.ins (cond _ _ _ :: _) :: _) _ _; first | refine W.gt ?_ | refine W.gf ?_) | (show W _ _ _ _ _ _ [] _ _; refine W.of (.done ?_)) | (apply W.of; constructor <;> first | (show W _ _ _ _ _ _ _ _ _) | (intro (al : Nat) h st; show W _ _ _ _ _ _ _ _ _) | (intro _ h st; show W _ _ _ _ _ _ _ _ _) | exact Sd)))
    exact ⟨_, rfl, rfl, rfl⟩
end
noncomputable def kPBelow (args : List AV) (h : AHeap) : Option (AV × AHeap) := match args with
  | [.ptr X 0, .int .i64 (.ofNat n), .int .i64 (.ofNat i)] => rowK h X fun l => match l with
    | .ptr M 0 :: _ => sel (Nat.blt X h.next) (match memWord h M n i with
      | some (w, len) => some (.tuple [.int .i64 (Int.ofNat (ppN w)), .bool (sel (Nat.beq (kindM (flN w)) 1) (Nat.blt (ppN w) len) false)], AHeap.bump h 3)
      | none => none) none
    | _ => none
  | _ => none
theorem kPBelow_ok (hO : OFree O) {args : List AV} {h h' : AHeap} {v : AV} (x : kPBelow args h = some (v, h')) : Runs O tab n_pmap_Map_below args h v h' := by
  unfold kPBelow at x
  split at x
  · obtain ⟨e, es, s, ro, l, hg, x⟩ := rowK_ok x
    split at x
    · obtain ⟨c0, x⟩ := selN x
      split at x
      · rename_i w len hw
        obtain ⟨id, off, L, N, hm, h1, h2, hn, hi, hL, hwe⟩ := memWord_ok hw
        cases x
        exact (p_below hO hg (blt_of c0) hm h1 h2 hn hi hL hwe).drop hO (hO.free _ rfl) rfl fun hw => AHeap.bump_less hw rfl fun _ hj => pbH_get hj
      · cases x
    · cases x
  · cases x
end Go.Proofs.YtlkfclgkinaibaaGreat

namespace Go.Proofs.YtlkfclgkinaibaaGreat
variable {O : Nat → Option FSpec}
section
variable {h : AHeap} {M id off len L N n i v f p : Nat}
theorem shrI {c : Nat} (hc : c ≤ 63) : Does (.bin .shr) [.int .u64 (v : Nat), .int .i64 (c : Nat)] h (.int .u64 ((v >>> c : Nat) : Int)) h := ⟨rfl, by
  have h0 : ¬ ((c : Nat) : Int) < 0 := by omega
  simp only [aop, binInt, if_neg h0, Option.map_some]
  rw [show ((c : Nat) : Int).toNat.min IntKind.u64.bits = c by rw [Int.toNat_natCast]; show Nat.min c 64 = c; exact Nat.min_eq_left (by omega)]
  rw [Int.fdiv_eq_ediv_of_nonneg _ (by have : (0 : Int) < 2 ^ c := Int.pow_pos (by decide); omega), Nat.shiftRight_eq_div_pow]
  simp⟩
theorem k_low9 (hO : OFree O) (hv : v < 2 ^ 64) : Runs O tab n_pte_low [.int .u64 (v : Nat), .int .i64 9] h (.int .u64 ((v % 2 ^ 9 : Nat) : Int)) h := by
  refine runs_w (fun _ _ _ x => progI_call (hO.free _ rfl) rfl x) Njs rfl ?_
  (repeat (first | (show W _ _ _ _ _ _ (.code (cond _ _ _) :: _) _ _; first | refine W.ct ?_ | refine W.cf ?_) | (show W _ _ _ _ _ _ (.ins (cond _ _ _ :: _) :: _) _ _; first | refine W.gt ?_ | refine W.gf ?_) | (show W _ _ _ _ _ _ [] _ _; refine W.of (.done ?_)) | (apply W.of; constructor <;> first | (show W _ _ _ _ _ _ _ _ _) | (intro (al : Nat) h st; show W _ _ _ _ _ _ _ _ _) | (intro _ h st; show W _ _ _ _ _ _ _ _ _) | exact Sd)))
  have hx : Does (.bin .sub) [.int .u64 (IntKind.u64.wrap (1 * 2 ^ ((9 : Int).toNat.min IntKind.u64.bits))), .int .u64 1] h (.int .u64 ((2 ^ 9 - 1 : Nat) : Int)) h := ⟨rfl, rfl⟩
  (repeat (first | (show W _ _ _ _ _ _ (.code (cond _ _ _) :: _) _ _; first | refine W.ct ?_ | refine W.cf ?_) | (show W _ _ _ _ _ _ (.ins (cond _ _ _ :: _) :: _) _ _; first | refine W.gt ?_ | refine W.gf ?_) | (show W _ _ _ _ _ _ [] _ _; refine W.of (.done ?_)) | (apply W.of; constructor <;> first | (show W _ _ _ _ _ _ _ _ _) | (intro (al : Nat) h st; show W _ _ _ _ _ _ _ _ _) | (intro _ h st; show W _ _ _ _ _ _ _ _ _) | exact Sd))); refine W.do (ho := hx) (w := ?_)
  (repeat (first | (show W _ _ _ _ _ _ (.code (cond _ _ _) :: _) _ _; first | refine W.ct ?_ | refine W.cf ?_) | (show W _ _ _ _ _ _ (.ins (cond _ _ _ :: _) :: _) _ _; first | refine W.gt ?_ | refine W.gf ?_) | (show W _ _ _ _ _ _ [] _ _; refine W.of (.done ?_)) | (apply W.of; constructor <;> first | (show W _ _ _ _ _ _ _ _ _) | (intro (al : Nat) h st; show W _ _ _ _ _ _ _ _ _) | (intro _ h st; show W _ _ _ _ _ _ _ _ _) | exact Sd)))
  exact ⟨_, rfl, congrArg (AV.int .u64) (band_low (m := 9) hv (by omega)), rfl⟩
theorem k_Index (hO : OFree O) (hv : v < 2 ^ 62) {l : Nat} (hl : l < 3) : Runs O tab n_pte_Index [.int .i64 (v : Nat), .int .i64 (l : Nat)] h (.int .i64 ((v >>> (9 * l)) % 512 : Nat)) h := by
  have h3 : ∀ c, v >>> c < 2 ^ 64 := fun c => Nat.lt_of_le_of_lt (by rw [Nat.shiftRight_eq_div_pow]; exact Nat.div_le_self _ _) (Nat.lt_of_lt_of_le hv (by decide))
  have h4 : ∀ c, (v >>> c) % 2 ^ 9 < 2 ^ 63 := fun c => Nat.lt_of_lt_of_le (Nat.mod_lt _ (by decide)) (by decide)
  refine runs_w (fun _ _ _ x => progI_call (hO.free _ rfl) rfl x) Njs rfl ?_
  have hq1 : decide ((l : Int) < 0) = false := d_f (by omega)
  have hq2 : decide ((l : Int) ≥ 3) = false := d_f (by omega)
  (repeat (first | (show W _ _ _ _ _ _ (.code (cond _ _ _) :: _) _ _; first | refine W.ct ?_ | refine W.cf ?_) | (show W _ _ _ _ _ _ (.ins (cond _ _ _ :: _) :: _) _ _; first | refine W.gt ?_ | refine W.gf ?_) | (show W _ _ _ _ _ _ [] _ _; refine W.of (.done ?_)) | (apply W.of; constructor <;> first | (show W _ _ _ _ _ _ _ _ _) | (intro (al : Nat) h st; show W _ _ _ _ _ _ _ _ _) | (intro _ h st; show W _ _ _ _ _ _ _ _ _) | exact Sd)))
  rw [show IntKind.i64.wrap (9 * (l : Int)) = ((9 * l : Nat) : Int) by rw [wrap64 (by omega) (by omega)]; omega]
  rw [show IntKind.u64.wrap (v : Int) = (v : Int) from wrap_id (k := .u64) (by show (0 : Int) ≤ _; omega) (by show (_ : Int) ≤ 18446744073709551615; omega)]
  refine W.do (ho := shrI (c := 9 * l) (by omega)) (w := ?_)
  refine W.cx (hr := k_low9 hO (h3 (9 * l))) (w := ?_)
  refine W.do (ho := conv64 (h4 (9 * l))) (w := ?_)
  (repeat (first | (show W _ _ _ _ _ _ (.code (cond _ _ _) :: _) _ _; first | refine W.ct ?_ | refine W.cf ?_) | (show W _ _ _ _ _ _ (.ins (cond _ _ _ :: _) :: _) _ _; first | refine W.gt ?_ | refine W.gf ?_) | (show W _ _ _ _ _ _ [] _ _; refine W.of (.done ?_)) | (apply W.of; constructor <;> first | (show W _ _ _ _ _ _ _ _ _) | (intro (al : Nat) h st; show W _ _ _ _ _ _ _ _ _) | (intro _ h st; show W _ _ _ _ _ _ _ _ _) | exact Sd)))
  exact ⟨_, rfl, rfl, rfl⟩
end
noncomputable def kIndex (args : List AV) (h : AHeap) : Option (AV × AHeap) := match args with
  | [.int .i64 (.ofNat v), .int .i64 (.ofNat l)] => sel (Nat.blt v 4611686018427387904) (sel (Nat.blt l 3) (some (.int .i64 (Int.ofNat (Nat.mod (Nat.shiftRight v (Nat.mul 9 l)) 512)), h)) none) none
  | _ => none
theorem kIndex_ok (hO : OFree O) {args : List AV} {h h' : AHeap} {v : AV} (x : kIndex args h = some (v, h')) : Runs O tab n_pte_Index args h v h' := by
  unfold kIndex at x
  split at x
  · obtain ⟨c1, x⟩ := selN x
    obtain ⟨c2, x⟩ := selN x
    cases x
    exact k_Index hO (Nat.lt_of_lt_of_le (blt_of c1) (by decide)) (blt_of c2)
  · cases x
noncomputable def isTab (w len : Nat) : Bool := sel (Nat.beq (kindM (flN w)) 1) (Nat.blt (ppN w) len) false
section
variable {h : AHeap} {M id off len L N n i v f p root w2 w1 : Nat}
theorem b_below2 (hO : OFree O) (hw : memWord h M n i = some (v, len)) : Runs O tab n_walk_below [.ptr M 0, .int .i64 (n : Nat), .int .i64 (i : Nat)] h (.tuple [.int .i64 (ppN v : Nat), .bool (isTab v len)]) (h.bump 4) := by
  obtain ⟨id, off, L, N, hm, h1, h2, hn, hi, hL, hwe⟩ := memWord_ok hw
  exact b_below hO hm h1 h2 hn hi hL hwe
theorem place_frames (hO : OFree O) (hw : memWord h M n i = some (v, len)) : Runs O tab n_phys_Memory_Frames [.ptr M 0] h (.int .i64 len) h := by
  obtain ⟨id, off, L, N, hm, _⟩ := memWord_ok hw
  exact k_Frames hO hm
theorem placeA (hO : OFree O) (hv : v < 134217728) (hr : root < len) (hw : memWord h M root ((v >>> (9 * 2)) % 512) = some (w2, len)) (ht : isTab w2 len = false) :
    Runs O tab n_walk_Place [.ptr M 0, .int .i64 (root : Nat), .int .i64 (v : Nat)] h (.tuple [.int .i64 0, .int .i64 0, .bool false]) (h.bump 4) := by
  refine runs_w (fun _ _ _ x => progI_call (hO.free _ rfl) rfl x) Njs rfl ?_
  have q1 : decide ((root : Int) < 0) = false := d_f (by omega)
  have q2 : decide ((root : Int) ≥ (len : Nat)) = false := d_f (by omega)
  have q3 : decide ((v : Int) < 0) = false := d_f (by omega)
  have q4 : decide ((v : Int) ≥ 134217728) = false := d_f (by omega)
  (repeat (first | (show W _ _ _ _ _ _ (.code (cond _ _ _) :: _) _ _; first | refine W.ct ?_ | refine W.cf ?_) | (show W _ _ _ _ _ _ (.ins (cond _ _ _ :: _) :: _) _ _; first | refine W.gt ?_ | refine W.gf ?_) | (show W _ _ _ _ _ _ [] _ _; refine W.of (.done ?_)) | (apply W.of; constructor <;> first | (show W _ _ _ _ _ _ _ _ _) | (intro (al : Nat) h st; show W _ _ _ _ _ _ _ _ _) | (intro _ h st; show W _ _ _ _ _ _ _ _ _) | exact Sd)))
  refine W.cx (hr := place_frames hO hw) (w := ?_)
  (repeat (first | (show W _ _ _ _ _ _ (.code (cond _ _ _) :: _) _ _; first | refine W.ct ?_ | refine W.cf ?_) | (show W _ _ _ _ _ _ (.ins (cond _ _ _ :: _) :: _) _ _; first | refine W.gt ?_ | refine W.gf ?_) | (show W _ _ _ _ _ _ [] _ _; refine W.of (.done ?_)) | (apply W.of; constructor <;> first | (show W _ _ _ _ _ _ _ _ _) | (intro (al : Nat) h st; show W _ _ _ _ _ _ _ _ _) | (intro _ h st; show W _ _ _ _ _ _ _ _ _) | exact Sd)))
  refine W.loopx (fun _ : Nat => [(0, .ptr M 0), (2, .int .i64 (v : Nat)), (9, .int .i64 (root : Nat)), (10, .int .i64 ((2 : Nat) : Int))]) (fun _ => h) (fun _ => True) (fun _ => 0) 0 (by unfold rounds; omega) Sbs rfl trivial ?_
  intro y _
  (repeat (first | (show W _ _ _ _ _ _ (.code (cond _ _ _) :: _) _ _; first | refine W.ct ?_ | refine W.cf ?_) | (show W _ _ _ _ _ _ (.ins (cond _ _ _ :: _) :: _) _ _; first | refine W.gt ?_ | refine W.gf ?_) | (show W _ _ _ _ _ _ [] _ _; refine W.of (.done ?_)) | (apply W.of; constructor <;> first | (show W _ _ _ _ _ _ _ _ _) | (intro (al : Nat) h st; show W _ _ _ _ _ _ _ _ _) | (intro _ h st; show W _ _ _ _ _ _ _ _ _) | exact Sd)))
  refine W.cx (hr := k_Index hO (Nat.lt_of_lt_of_le hv (by decide)) (l := 2) (by omega)) (w := ?_)
  refine W.cx (hr := b_below2 hO hw) (w := ?_)
  rw [ht]
  (repeat (first | (show W _ _ _ _ _ _ (.code (cond _ _ _) :: _) _ _; first | refine W.ct ?_ | refine W.cf ?_) | (show W _ _ _ _ _ _ (.ins (cond _ _ _ :: _) :: _) _ _; first | refine W.gt ?_ | refine W.gf ?_) | (show W _ _ _ _ _ _ [] _ _; refine W.of (.done ?_)) | (apply W.of; constructor <;> first | (show W _ _ _ _ _ _ _ _ _) | (intro (al : Nat) h st; show W _ _ _ _ _ _ _ _ _) | (intro _ h st; show W _ _ _ _ _ _ _ _ _) | exact Sd)))
  exact ⟨_, rfl, rfl, rfl⟩
theorem placeB (hO : OFree O) (hv : v < 134217728) (hr : root < len) (hw : memWord h M root ((v >>> (9 * 2)) % 512) = some (w2, len)) (ht : isTab w2 len = true) (hw1 : memWord (h.bump 4) M (ppN w2) ((v >>> (9 * 1)) % 512) = some (w1, len)) (ht1 : isTab w1 len = false) :
    Runs O tab n_walk_Place [.ptr M 0, .int .i64 (root : Nat), .int .i64 (v : Nat)] h (.tuple [.int .i64 0, .int .i64 0, .bool false]) (h.bump 8) := by
  refine runs_w (fun _ _ _ x => progI_call (hO.free _ rfl) rfl x) Njs rfl ?_
  have q1 : decide ((root : Int) < 0) = false := d_f (by omega)
  have q2 : decide ((root : Int) ≥ (len : Nat)) = false := d_f (by omega)
  have q3 : decide ((v : Int) < 0) = false := d_f (by omega)
  have q4 : decide ((v : Int) ≥ 134217728) = false := d_f (by omega)
  (repeat (first | (show W _ _ _ _ _ _ (.code (cond _ _ _) :: _) _ _; first | refine W.ct ?_ | refine W.cf ?_) | (show W _ _ _ _ _ _ (.ins (cond _ _ _ :: _) :: _) _ _; first | refine W.gt ?_ | refine W.gf ?_) | (show W _ _ _ _ _ _ [] _ _; refine W.of (.done ?_)) | (apply W.of; constructor <;> first | (show W _ _ _ _ _ _ _ _ _) | (intro (al : Nat) h st; show W _ _ _ _ _ _ _ _ _) | (intro _ h st; show W _ _ _ _ _ _ _ _ _) | exact Sd)))
  refine W.cx (hr := place_frames hO hw) (w := ?_)
  (repeat (first | (show W _ _ _ _ _ _ (.code (cond _ _ _) :: _) _ _; first | refine W.ct ?_ | refine W.cf ?_) | (show W _ _ _ _ _ _ (.ins (cond _ _ _ :: _) :: _) _ _; first | refine W.gt ?_ | refine W.gf ?_) | (show W _ _ _ _ _ _ [] _ _; refine W.of (.done ?_)) | (apply W.of; constructor <;> first | (show W _ _ _ _ _ _ _ _ _) | (intro (al : Nat) h st; show W _ _ _ _ _ _ _ _ _) | (intro _ h st; show W _ _ _ _ _ _ _ _ _) | exact Sd)))
  refine W.loopx (fun y : Nat => [(0, .ptr M 0), (2, .int .i64 (v : Nat)), (9, .int .i64 ((if y = 0 then root else ppN w2 : Nat) : Nat)), (10, .int .i64 ((2 - y : Nat) : Int))]) (fun y => h.bump (4 * y)) (fun y => y < 2) (fun y => 2 - y) 0 (by unfold rounds; omega) Sbs rfl (by omega) ?_
  intro y hy
  rcases (by omega : y = 0 ∨ y = 1) with rfl | rfl
  · (repeat (first | (show W _ _ _ _ _ _ (.code (cond _ _ _) :: _) _ _; first | refine W.ct ?_ | refine W.cf ?_) | (show W _ _ _ _ _ _ (.ins (cond _ _ _ :: _) :: _) _ _; first | refine W.gt ?_ | refine W.gf ?_) | (show W _ _ _ _ _ _ [] _ _; refine W.of (.done ?_)) | (apply W.of; constructor <;> first | (show W _ _ _ _ _ _ _ _ _) | (intro (al : Nat) h st; show W _ _ _ _ _ _ _ _ _) | (intro _ h st; show W _ _ _ _ _ _ _ _ _) | exact Sd)))
    refine W.cx (hr := k_Index hO (Nat.lt_of_lt_of_le hv (by decide)) (l := 2) (by omega)) (w := ?_)
    refine W.cx (hr := b_below2 hO hw) (w := ?_)
    rw [ht]
    (repeat (first | (show W _ _ _ _ _ _ (.code (cond _ _ _) :: _) _ _; first | refine W.ct ?_ | refine W.cf ?_) | (show W _ _ _ _ _ _ (.ins (cond _ _ _ :: _) :: _) _ _; first | refine W.gt ?_ | refine W.gf ?_) | (show W _ _ _ _ _ _ [] _ _; refine W.of (.done ?_)) | (apply W.of; constructor <;> first | (show W _ _ _ _ _ _ _ _ _) | (intro (al : Nat) h st; show W _ _ _ _ _ _ _ _ _) | (intro _ h st; show W _ _ _ _ _ _ _ _ _) | exact Sd)))
    refine W.of (.lp ?_)
    exact ⟨1, by omega, by omega, Sbs, rfl⟩
  · (repeat (first | (show W _ _ _ _ _ _ (.code (cond _ _ _) :: _) _ _; first | refine W.ct ?_ | refine W.cf ?_) | (show W _ _ _ _ _ _ (.ins (cond _ _ _ :: _) :: _) _ _; first | refine W.gt ?_ | refine W.gf ?_) | (show W _ _ _ _ _ _ [] _ _; refine W.of (.done ?_)) | (apply W.of; constructor <;> first | (show W _ _ _ _ _ _ _ _ _) | (intro (al : Nat) h st; show W _ _ _ _ _ _ _ _ _) | (intro _ h st; show W _ _ _ _ _ _ _ _ _) | exact Sd)))
    refine W.cx (hr := k_Index hO (Nat.lt_of_lt_of_le hv (by decide)) (l := 1) (by omega)) (w := ?_)
    refine W.cx (hr := b_below2 hO hw1) (w := ?_)
    rw [ht1]
    (repeat (first | (show W _ _ _ _ _ _ (.code (cond _ _ _) :: _) _ _; first | refine W.ct ?_ | refine W.cf ?_) | (show W _ _ _ _ _ _ (.ins (cond _ _ _ :: _) :: _) _ _; first | refine W.gt ?_ | refine W.gf ?_) | (show W _ _ _ _ _ _ [] _ _; refine W.of (.done ?_)) | (apply W.of; constructor <;> first | (show W _ _ _ _ _ _ _ _ _) | (intro (al : Nat) h st; show W _ _ _ _ _ _ _ _ _) | (intro _ h st; show W _ _ _ _ _ _ _ _ _) | exact Sd)))
    exact ⟨_, rfl, rfl, rfl⟩
theorem placeC (hO : OFree O) (hv : v < 134217728) (hr : root < len) (hw : memWord h M root ((v >>> (9 * 2)) % 512) = some (w2, len)) (ht : isTab w2 len = true) (hw1 : memWord (h.bump 4) M (ppN w2) ((v >>> (9 * 1)) % 512) = some (w1, len)) (ht1 : isTab w1 len = true) :
    Runs O tab n_walk_Place [.ptr M 0, .int .i64 (root : Nat), .int .i64 (v : Nat)] h (.tuple [.int .i64 (ppN w1 : Nat), .int .i64 ((v >>> (9 * 0)) % 512 : Nat), .bool true]) (h.bump 8) := by
  refine runs_w (fun _ _ _ x => progI_call (hO.free _ rfl) rfl x) Njs rfl ?_
  have q1 : decide ((root : Int) < 0) = false := d_f (by omega)
  have q2 : decide ((root : Int) ≥ (len : Nat)) = false := d_f (by omega)
  have q3 : decide ((v : Int) < 0) = false := d_f (by omega)
  have q4 : decide ((v : Int) ≥ 134217728) = false := d_f (by omega)
  (repeat (first | (show W _ _ _ _ _ _ (.code (cond _ _ _) :: _) _ _; first | refine W.ct ?_ | refine W.cf ?_) | (show W _ _ _ _ _ _ (.ins (cond _ _ _ :: _) :: _) _ _; first | refine W.gt ?_ | refine W.gf ?_) | (show W _ _ _ _ _ _ [] _ _; refine W.of (.done ?_)) | (apply W.of; constructor <;> first | (show W _ _ _ _ _ _ _ _ _) | (intro (al : Nat) h st; show W _ _ _ _ _ _ _ _ _) | (intro _ h st; show W _ _ _ _ _ _ _ _ _) | exact Sd)))
  refine W.cx (hr := place_frames hO hw) (w := ?_)
  (repeat (first | (show W _ _ _ _ _ _ (.code (cond _ _ _) :: _) _ _; first | refine W.ct ?_ | refine W.cf ?_) | (show W _ _ _ _ _ _ (.ins (cond _ _ _ :: _) :: _) _ _; first | refine W.gt ?_ | refine W.gf ?_) | (show W _ _ _ _ _ _ [] _ _; refine W.of (.done ?_)) | (apply W.of; constructor <;> first | (show W _ _ _ _ _ _ _ _ _) | (intro (al : Nat) h st; show W _ _ _ _ _ _ _ _ _) | (intro _ h st; show W _ _ _ _ _ _ _ _ _) | exact Sd)))
  refine W.loopx (fun y : Nat => [(0, .ptr M 0), (2, .int .i64 (v : Nat)), (9, .int .i64 ((if y = 0 then root else if y = 1 then ppN w2 else ppN w1 : Nat) : Nat)), (10, .int .i64 ((2 - y : Nat) : Int))]) (fun y => h.bump (4 * y)) (fun y => y < 3) (fun y => 3 - y) 0 (by unfold rounds; omega) Sbs rfl (by omega) ?_
  intro y hy
  rcases (by omega : y = 0 ∨ y = 1 ∨ y = 2) with rfl | rfl | rfl
  · (repeat (first | (show W _ _ _ _ _ _ (.code (cond _ _ _) :: _) _ _; first | refine W.ct ?_ | refine W.cf ?_) | (show W _ _ _ _ _ _ (.ins (cond _ _ _ :: _) :: _) _ _; first | refine W.gt ?_ | refine W.gf ?_) | (show W _ _ _ _ _ _ [] _ _; refine W.of (.done ?_)) | (apply W.of; constructor <;> first | (show W _ _ _ _ _ _ _ _ _) | (intro (al : Nat) h st; show W _ _ _ _ _ _ _ _ _) | (intro _ h st; show W _ _ _ _ _ _ _ _ _) | exact Sd)))
    refine W.cx (hr := k_Index hO (Nat.lt_of_lt_of_le hv (by decide)) (l := 2) (by omega)) (w := ?_)
    refine W.cx (hr := b_below2 hO hw) (w := ?_)
    rw [ht]
    (repeat (first | (show W _ _ _ _ _ _ (.code (cond _ _ _) :: _) _ _; first | refine W.ct ?_ | refine W.cf ?_) | (show W _ _ _ _ _ _ (.ins (cond _ _ _ :: _) :: _) _ _; first | refine W.gt ?_ | refine W.gf ?_) | (show W _ _ _ _ _ _ [] _ _; refine W.of (.done ?_)) | (apply W.of; constructor <;> first | (show W _ _ _ _ _ _ _ _ _) | (intro (al : Nat) h st; show W _ _ _ _ _ _ _ _ _) | (intro _ h st; show W _ _ _ _ _ _ _ _ _) | exact Sd)))
    refine W.of (.lp ?_)
    exact ⟨1, by omega, by omega, Sbs, rfl⟩
  · (repeat (first | (show W _ _ _ _ _ _ (.code (cond _ _ _) :: _) _ _; first | refine W.ct ?_ | refine W.cf ?_) | (show W _ _ _ _ _ _ (.ins (cond _ _ _ :: _) :: _) _ _; first | refine W.gt ?_ | refine W.gf ?_) | (show W _ _ _ _ _ _ [] _ _; refine W.of (.done ?_)) | (apply W.of; constructor <;> first | (show W _ _ _ _ _ _ _ _ _) | (intro (al : Nat) h st; show W _ _ _ _ _ _ _ _ _) | (intro _ h st; show W _ _ _ _ _ _ _ _ _) | exact Sd)))
    refine W.cx (hr := k_Index hO (Nat.lt_of_lt_of_le hv (by decide)) (l := 1) (by omega)) (w := ?_)
    refine W.cx (hr := b_below2 hO hw1) (w := ?_)
    rw [ht1]
    (repeat (first | (show W _ _ _ _ _ _ (.code (cond _ _ _) :: _) _ _; first | refine W.ct ?_ | refine W.cf ?_) | (show W _ _ _ _ _ _ (.ins (cond _ _ _ :: _) :: _) _ _; first | refine W.gt ?_ | refine W.gf ?_) | (show W _ _ _ _ _ _ [] _ _; refine W.of (.done ?_)) | (apply W.of; constructor <;> first | (show W _ _ _ _ _ _ _ _ _) | (intro (al : Nat) h st; show W _ _ _ _ _ _ _ _ _) | (intro _ h st; show W _ _ _ _ _ _ _ _ _) | exact Sd)))
    refine W.of (.lp ?_)
    exact ⟨2, by omega, by omega, Sbs, rfl⟩
  · (repeat (first | (show W _ _ _ _ _ _ (.code (cond _ _ _) :: _) _ _; first | refine W.ct ?_ | refine W.cf ?_) | (show W _ _ _ _ _ _ (.ins (cond _ _ _ :: _) :: _) _ _; first | refine W.gt ?_ | refine W.gf ?_) | (show W _ _ _ _ _ _ [] _ _; refine W.of (.done ?_)) | (apply W.of; constructor <;> first | (show W _ _ _ _ _ _ _ _ _) | (intro (al : Nat) h st; show W _ _ _ _ _ _ _ _ _) | (intro _ h st; show W _ _ _ _ _ _ _ _ _) | exact Sd)))
    refine W.cx (hr := k_Index hO (Nat.lt_of_lt_of_le hv (by decide)) (l := 0) (by omega)) (w := ?_)
    (repeat (first | (show W _ _ _ _ _ _ (.code (cond _ _ _) :: _) _ _; first | refine W.ct ?_ | refine W.cf ?_) | (show W _ _ _ _ _ _ (.ins (cond _ _ _ :: _) :: _) _ _; first | refine W.gt ?_ | refine W.gf ?_) | (show W _ _ _ _ _ _ [] _ _; refine W.of (.done ?_)) | (apply W.of; constructor <;> first | (show W _ _ _ _ _ _ _ _ _) | (intro (al : Nat) h st; show W _ _ _ _ _ _ _ _ _) | (intro _ h st; show W _ _ _ _ _ _ _ _ _) | exact Sd)))
    exact ⟨_, rfl, rfl, rfl⟩
end
end Go.Proofs.YtlkfclgkinaibaaGreat

namespace Go.Proofs.YtlkfclgkinaibaaGreat
variable {O : Nat → Option FSpec}
noncomputable def no3 (h : AHeap) (c : Nat) : Option (AV × AHeap) := some (.tuple [.int .i64 0, .int .i64 0, .bool false], h.bump c)
noncomputable def kPlace (args : List AV) (h : AHeap) : Option (AV × AHeap) := match args with
  | [.ptr M 0, .int .i64 (.ofNat root), .int .i64 (.ofNat v)] => sel (Nat.blt v 134217728) (match memWord h M root (Nat.mod (Nat.shiftRight v (Nat.mul 9 2)) 512) with
    | some (w2, len) => sel (Nat.blt root len) (sel (isTab w2 len) (match memWord (h.bump 4) M (ppN w2) (Nat.mod (Nat.shiftRight v (Nat.mul 9 1)) 512) with
      | some (w1, len1) => sel (Nat.beq len1 len) (sel (isTab w1 len) (some (.tuple [.int .i64 (Int.ofNat (ppN w1)), .int .i64 (Int.ofNat (Nat.mod (Nat.shiftRight v (Nat.mul 9 0)) 512)), .bool true], h.bump 8)) (no3 h 8)) none
      | none => none) (no3 h 4)) none
    | none => none) none
  | _ => none
theorem selC {α : Type} {b : Bool} {x y : Option α} {r : α} (h : sel b x y = some r) : (b = true ∧ x = some r) ∨ (b = false ∧ y = some r) := by
  cases b with
  | true => exact .inl ⟨rfl, h⟩
  | false => exact .inr ⟨rfl, h⟩
theorem kPlace_ok (hO : OFree O) {args : List AV} {h h' : AHeap} {v : AV} (x : kPlace args h = some (v, h')) : Runs O tab n_walk_Place args h v h' := by
  unfold kPlace at x
  split at x
  · obtain ⟨c1, x⟩ := selN x
    have c1 := blt_of c1
    split at x
    · rename_i w2 len hw
      obtain ⟨c2, x⟩ := selN x
      have c2 := blt_of c2
      rcases selC x with ⟨t2, x⟩ | ⟨t2, x⟩
      · split at x
        · rename_i w1 len1 hw1
          obtain ⟨c3, x⟩ := selN x
          obtain rfl := Nat.eq_of_beq_eq_true c3
          rcases selC x with ⟨t1, x⟩ | ⟨t1, x⟩
          · cases x; exact placeC hO c1 c2 hw t2 hw1 t1
          · cases x; exact placeB hO c1 c2 hw t2 hw1 t1
        · cases x
      · cases x; exact placeA hO c1 c2 hw t2
    · cases x
  · cases x
noncomputable def idxI (x : Int) : List AV → Nat → Nat → Option Int
  | _, 0, _ => some (-1)
  | .int .i64 y :: r, n + 1, i => sel (eqK x y) (some (Int.ofNat i)) (idxI x r n (i + 1))
  | _, _ + 1, _ => none
structure SlAt (h : AHeap) (s : AV) (id base len : Nat) (cs : List AV) : Prop where
  ln : sliceLen s = some len
  nj : s.notJunk = some s
  ix : ∀ i, i < len → Does (.indexs 1) [s, .int .i64 (i : Nat)] h (.ptr id (base + i)) h
  rw : ∃ e es b c, h.get id = some (.row e es b c (.vals cs))
theorem idx_runs (hO : OFree O) {h : AHeap} {s : AV} {id base len : Nat} {cs : List AV} {x r : Int} (hs : SlAt h s id base len cs) (hl : len < 1000000) (hr : idxI x (cs.drop base) len 0 = some r) :
    Runs O tab n_slices_Index_int_int [s, .int .i64 x] h (.int .i64 r) h := by
  have hnj := hs.nj
  obtain ⟨e, es, b, c, hg⟩ := hs.rw
  refine runs_w (fun _ _ _ x => progI_call (hO.free _ rfl) rfl x) ⟨hnj, rfl, trivial⟩ rfl ?_
  (repeat (first | (show W _ _ _ _ _ _ (.code (cond _ _ _) :: _) _ _; first | refine W.ct ?_ | refine W.cf ?_) | (show W _ _ _ _ _ _ (.ins (cond _ _ _ :: _) :: _) _ _; first | refine W.gt ?_ | refine W.gf ?_) | (show W _ _ _ _ _ _ [] _ _; refine W.of (.done ?_)) | (apply W.of; constructor <;> first | (show W _ _ _ _ _ _ _ _ _) | (intro (al : Nat) h st; show W _ _ _ _ _ _ _ _ _) | (intro _ h st; show W _ _ _ _ _ _ _ _ _) | exact Sd)))
  have hlen : Does .lens [s] h (.int .i64 (len : Nat)) h := ⟨rfl, by simp only [aop, hs.ln]; rfl⟩
  (repeat (first | (show W _ _ _ _ _ _ (.code (cond _ _ _) :: _) _ _; first | refine W.ct ?_ | refine W.cf ?_) | (show W _ _ _ _ _ _ (.ins (cond _ _ _ :: _) :: _) _ _; first | refine W.gt ?_ | refine W.gf ?_) | (show W _ _ _ _ _ _ [] _ _; refine W.of (.done ?_)) | (apply W.of; constructor <;> first | (show W _ _ _ _ _ _ _ _ _) | (intro (al : Nat) h st; show W _ _ _ _ _ _ _ _ _) | (intro _ h st; show W _ _ _ _ _ _ _ _ _) | exact Sd))); refine W.do (ho := hlen) (w := ?_)
  (repeat (first | (show W _ _ _ _ _ _ (.code (cond _ _ _) :: _) _ _; first | refine W.ct ?_ | refine W.cf ?_) | (show W _ _ _ _ _ _ (.ins (cond _ _ _ :: _) :: _) _ _; first | refine W.gt ?_ | refine W.gf ?_) | (show W _ _ _ _ _ _ [] _ _; refine W.of (.done ?_)) | (apply W.of; constructor <;> first | (show W _ _ _ _ _ _ _ _ _) | (intro (al : Nat) h st; show W _ _ _ _ _ _ _ _ _) | (intro _ h st; show W _ _ _ _ _ _ _ _ _) | exact Sd)))
  refine W.loopx (fun i : Nat => [(0, s), (1, .int .i64 x), (7, .int .i64 (len : Nat)), (8, .int .i64 (i : Nat))]) (fun _ => h) (fun i => i ≤ len ∧ idxI x (cs.drop (base + i)) (len - i) i = some r) (fun i => len - i) 0 (by unfold rounds; omega) Sbs rfl ⟨Nat.zero_le _, hr⟩ ?_
  intro i ⟨hi, hx⟩
  by_cases hlt : i < len
  · have q1 : decide ((i : Int) < (len : Nat)) = true := d_t (by omega)
    obtain ⟨n, hn⟩ : ∃ n, len - i = n + 1 := ⟨len - i - 1, by omega⟩
    rw [hn] at hx
    cases hc : cs.drop (base + i) with
    | nil => rw [hc] at hx; cases hx
    | cons a rest =>
      rw [hc] at hx
      cases a with
      | int k y =>
        cases k with
        | i64 =>
          have hgy : (Dat.vals cs).get (base + i) = some (.int .i64 y) := by
            show cs[base + i]? = _
            have := congrArg (fun l => l[0]?) hc
            simpa using this
          have hdr : cs.drop (base + (i + 1)) = rest := by
            rw [show base + (i + 1) = (base + i) + 1 by omega, ← List.drop_drop, hc]
            rfl
          have hx : sel (eqK x y) (some (Int.ofNat i)) (idxI x rest n (i + 1)) = some r := hx
          (repeat (first | (show W _ _ _ _ _ _ (.code (cond _ _ _) :: _) _ _; first | refine W.ct ?_ | refine W.cf ?_) | (show W _ _ _ _ _ _ (.ins (cond _ _ _ :: _) :: _) _ _; first | refine W.gt ?_ | refine W.gf ?_) | (show W _ _ _ _ _ _ [] _ _; refine W.of (.done ?_)) | (apply W.of; constructor <;> first | (show W _ _ _ _ _ _ _ _ _) | (intro (al : Nat) h st; show W _ _ _ _ _ _ _ _ _) | (intro _ h st; show W _ _ _ _ _ _ _ _ _) | exact Sd)))
          (repeat (first | (show W _ _ _ _ _ _ (.code (cond _ _ _) :: _) _ _; first | refine W.ct ?_ | refine W.cf ?_) | (show W _ _ _ _ _ _ (.ins (cond _ _ _ :: _) :: _) _ _; first | refine W.gt ?_ | refine W.gf ?_) | (show W _ _ _ _ _ _ [] _ _; refine W.of (.done ?_)) | (apply W.of; constructor <;> first | (show W _ _ _ _ _ _ _ _ _) | (intro (al : Nat) h st; show W _ _ _ _ _ _ _ _ _) | (intro _ h st; show W _ _ _ _ _ _ _ _ _) | exact Sd))); refine W.do (ho := (hs.ix i hlt)) (w := ?_)
          (repeat (first | (show W _ _ _ _ _ _ (.code (cond _ _ _) :: _) _ _; first | refine W.ct ?_ | refine W.cf ?_) | (show W _ _ _ _ _ _ (.ins (cond _ _ _ :: _) :: _) _ _; first | refine W.gt ?_ | refine W.gf ?_) | (show W _ _ _ _ _ _ [] _ _; refine W.of (.done ?_)) | (apply W.of; constructor <;> first | (show W _ _ _ _ _ _ _ _ _) | (intro (al : Nat) h st; show W _ _ _ _ _ _ _ _ _) | (intro _ h st; show W _ _ _ _ _ _ _ _ _) | exact Sd))); refine W.do (ho := (d_load1 hg hgy)) (w := ?_)
          rcases selC hx with ⟨t, hx⟩ | ⟨t, hx⟩
          · have q2 : (x == y) = true := by rw [eqK_eq] at t; simpa using t
            cases hx
            (repeat (first | (show W _ _ _ _ _ _ (.code (cond _ _ _) :: _) _ _; first | refine W.ct ?_ | refine W.cf ?_) | (show W _ _ _ _ _ _ (.ins (cond _ _ _ :: _) :: _) _ _; first | refine W.gt ?_ | refine W.gf ?_) | (show W _ _ _ _ _ _ [] _ _; refine W.of (.done ?_)) | (apply W.of; constructor <;> first | (show W _ _ _ _ _ _ _ _ _) | (intro (al : Nat) h st; show W _ _ _ _ _ _ _ _ _) | (intro _ h st; show W _ _ _ _ _ _ _ _ _) | exact Sd)))
            exact ⟨_, rfl, rfl, rfl⟩
          · have q2 : (x == y) = false := by rw [eqK_eq] at t; simpa using t
            (repeat (first | (show W _ _ _ _ _ _ (.code (cond _ _ _) :: _) _ _; first | refine W.ct ?_ | refine W.cf ?_) | (show W _ _ _ _ _ _ (.ins (cond _ _ _ :: _) :: _) _ _; first | refine W.gt ?_ | refine W.gf ?_) | (show W _ _ _ _ _ _ [] _ _; refine W.of (.done ?_)) | (apply W.of; constructor <;> first | (show W _ _ _ _ _ _ _ _ _) | (intro (al : Nat) h st; show W _ _ _ _ _ _ _ _ _) | (intro _ h st; show W _ _ _ _ _ _ _ _ _) | exact Sd)))
            refine W.of (.lp ?_)
            exact ⟨i + 1, by omega, ⟨by omega, by rw [hdr, show len - (i + 1) = n by omega]; exact hx⟩, Sbs, rfl⟩
        | _ => cases hx
      | _ => cases hx
  · have q1 : decide ((i : Int) < (len : Nat)) = false := d_f (by omega)
    rw [show len - i = 0 by omega] at hx
    have hx : some (-1 : Int) = some r := by
      revert hx
      cases cs.drop (base + i) <;> exact fun q => q
    cases hx
    (repeat (first | (show W _ _ _ _ _ _ (.code (cond _ _ _) :: _) _ _; first | refine W.ct ?_ | refine W.cf ?_) | (show W _ _ _ _ _ _ (.ins (cond _ _ _ :: _) :: _) _ _; first | refine W.gt ?_ | refine W.gf ?_) | (show W _ _ _ _ _ _ [] _ _; refine W.of (.done ?_)) | (apply W.of; constructor <;> first | (show W _ _ _ _ _ _ _ _ _) | (intro (al : Nat) h st; show W _ _ _ _ _ _ _ _ _) | (intro _ h st; show W _ _ _ _ _ _ _ _ _) | exact Sd)))
    exact ⟨_, rfl, rfl, rfl⟩
noncomputable def kIdx (args : List AV) (h : AHeap) : Option (AV × AHeap) := match args with
  | [.sl id off len _, .int .i64 x] => rowK h id fun cs => sel (Nat.blt len 1000000) (match idxI x (cs.drop off) len 0 with
    | some r => some (.int .i64 r, h)
    | none => none) none
  | [.ssl id idx 1 len, .int .i64 x] => rowK h id fun cs => sel (Nat.blt len 1000000) (match idxI x (cs.drop idx) len 0 with
    | some r => some (.int .i64 r, h)
    | none => none) none
  | _ => none
theorem kIdx_ok (hO : OFree O) {args : List AV} {h h' : AHeap} {v : AV} (x : kIdx args h = some (v, h')) : Runs O tab n_slices_Index_int_int args h v h' := by
  unfold kIdx at x
  split at x
  · rename_i id off len cap y
    obtain ⟨e, es, s, ro, l, hg, x⟩ := rowK_ok x
    obtain ⟨c1, x⟩ := selN x
    split at x
    · rename_i r hr
      cases x
      refine idx_runs hO ⟨rfl, rfl, fun i hi => ⟨rfl, ?_⟩, ⟨_, _, _, _, hg⟩⟩ (blt_of c1) hr
      simp only [aop]
      rw [if_pos ⟨by omega, by omega⟩, Int.toNat_natCast, Nat.mul_one]
    · cases x
  · rename_i id idx len y
    obtain ⟨e, es, s, ro, l, hg, x⟩ := rowK_ok x
    obtain ⟨c1, x⟩ := selN x
    split at x
    · rename_i r hr
      cases x
      refine idx_runs hO ⟨rfl, rfl, fun i hi => ⟨rfl, ?_⟩, ⟨_, _, _, _, hg⟩⟩ (blt_of c1) hr
      simp only [aop]
      rw [if_pos ⟨by omega, by omega, trivial⟩, Int.toNat_natCast, Nat.mul_one]
    · cases x
  · cases x
noncomputable def kTabY : Nat → Option KF := fun n =>
  (sel (Nat.beq n n_pmap_Map_below) (some (kNoD kPBelow))
  (sel (Nat.beq n n_walk_Place) (some (kNoD kPlace))
  (sel (Nat.beq n n_pte_Index) (some (kNoD kIndex))
  (sel (Nat.beq n n_slices_Index_int_int) (some (kNoD kIdx)) (kTab n)))))
theorem kTabY_ok {O : Nat → Option FSpec} (hO : OFree O) : KOk O tab kTabY := by
  intro n k e D hD args h v h' Q x q
  rcases selK e with ⟨rfl, e⟩ | e
  · cases e; exact kPBelow_ok hO x Q q
  rcases selK e with ⟨rfl, e⟩ | e
  · cases e; exact kPlace_ok hO x Q q
  rcases selK e with ⟨rfl, e⟩ | e
  · cases e; exact kIndex_ok hO x Q q
  rcases selK e with ⟨rfl, e⟩ | e
  · cases e; exact kIdx_ok hO x Q q
  exact kTab_ok hO n k e D hD args h v h' Q x q
end Go.Proofs.YtlkfclgkinaibaaGreat

namespace Go.Proofs.YtlkfclgkinaibaaGreat
noncomputable def hints : Nat → List Nat := fun n =>
  sel (Nat.blt n 173) (sel (Nat.blt n 93) (sel (Nat.blt n 50) (sel (Nat.blt n 23) (sel (Nat.blt n 7) (sel (Nat.blt n 4) (sel (Nat.beq n 3) [6, 11, 13, 14, 47, 78, 106, 119] []) (sel (Nat.blt n 6) (sel (Nat.beq n 4) [6, 8, 116] []) (sel (Nat.beq n 6) [6, 8, 69, 80, 95] []))) (sel (Nat.blt n 8) (sel (Nat.beq n 7) [2] []) (sel (Nat.blt n 19) (sel (Nat.beq n 8) [3, 4] []) (sel (Nat.beq n 19) [11, 13, 75] [])))) (sel (Nat.blt n 40) (sel (Nat.blt n 38) (sel (Nat.beq n 23) [2] []) (sel (Nat.blt n 39) (sel (Nat.beq n 38) [5, 6, 7] []) (sel (Nat.beq n 39) [5, 6] []))) (sel (Nat.blt n 46) (sel (Nat.beq n 40) [4, 8, 29, 30] []) (sel (Nat.blt n 48) (sel (Nat.beq n 46) [5] []) (sel (Nat.beq n 48) [8, 16] []))))) (sel (Nat.blt n 81) (sel (Nat.blt n 63) (sel (Nat.blt n 55) (sel (Nat.beq n 50) [5] []) (sel (Nat.blt n 56) (sel (Nat.beq n 55) [4] []) (sel (Nat.beq n 56) [4, 6] []))) (sel (Nat.blt n 65) (sel (Nat.beq n 63) [2, 15, 17, 18, 19] []) (sel (Nat.blt n 80) (sel (Nat.beq n 65) [3, 9, 11, 18, 49, 50] []) (sel (Nat.beq n 80) [6, 13] [])))) (sel (Nat.blt n 85) (sel (Nat.blt n 82) (sel (Nat.beq n 81) [6, 7, 9, 13] []) (sel (Nat.blt n 83) (sel (Nat.beq n 82) [2, 6, 15, 24] []) (sel (Nat.beq n 83) [11] []))) (sel (Nat.blt n 89) (sel (Nat.blt n 87) (sel (Nat.beq n 85) [5, 29, 30] []) (sel (Nat.beq n 87) [1, 2] [])) (sel (Nat.blt n 91) (sel (Nat.beq n 89) [7, 10, 19] []) (sel (Nat.beq n 91) [3] [])))))) (sel (Nat.blt n 137) (sel (Nat.blt n 111) (sel (Nat.blt n 99) (sel (Nat.blt n 95) (sel (Nat.beq n 93) [70] []) (sel (Nat.blt n 96) (sel (Nat.beq n 95) [3, 4] []) (sel (Nat.beq n 96) [3, 25] []))) (sel (Nat.blt n 104) (sel (Nat.beq n 99) [6, 7, 8, 29, 30] []) (sel (Nat.blt n 109) (sel (Nat.beq n 104) [3, 8, 14, 23] []) (sel (Nat.beq n 109) [4] [])))) (sel (Nat.blt n 116) (sel (Nat.blt n 113) (sel (Nat.beq n 111) [30] []) (sel (Nat.blt n 115) (sel (Nat.beq n 113) [6, 7, 9] []) (sel (Nat.beq n 115) [5] []))) (sel (Nat.blt n 134) (sel (Nat.blt n 125) (sel (Nat.beq n 116) [3, 7, 9, 13, 38, 39] []) (sel (Nat.beq n 125) [3] [])) (sel (Nat.blt n 136) (sel (Nat.beq n 134) [3] []) (sel (Nat.beq n 136) [25] []))))) (sel (Nat.blt n 165) (sel (Nat.blt n 158) (sel (Nat.blt n 142) (sel (Nat.beq n 137) [4, 5] []) (sel (Nat.blt n 143) (sel (Nat.beq n 142) [5, 7] []) (sel (Nat.beq n 143) [3] []))) (sel (Nat.blt n 161) (sel (Nat.beq n 158) [8] []) (sel (Nat.blt n 163) (sel (Nat.beq n 161) [1] []) (sel (Nat.beq n 163) [4, 5, 8] [])))) (sel (Nat.blt n 169) (sel (Nat.blt n 166) (sel (Nat.beq n 165) [3, 42] []) (sel (Nat.blt n 167) (sel (Nat.beq n 166) [5, 36] []) (sel (Nat.beq n 167) [9, 37] []))) (sel (Nat.blt n 171) (sel (Nat.blt n 170) (sel (Nat.beq n 169) [3] []) (sel (Nat.beq n 170) [10, 11, 16] [])) (sel (Nat.blt n 172) (sel (Nat.beq n 171) [9] []) (sel (Nat.beq n 172) [5] []))))))) (sel (Nat.blt n 265) (sel (Nat.blt n 226) (sel (Nat.blt n 186) (sel (Nat.blt n 176) (sel (Nat.blt n 174) (sel (Nat.beq n 173) [3] []) (sel (Nat.blt n 175) (sel (Nat.beq n 174) [12] []) (sel (Nat.beq n 175) [12, 31] []))) (sel (Nat.blt n 181) (sel (Nat.beq n 176) [1] []) (sel (Nat.blt n 182) (sel (Nat.beq n 181) [8, 35] []) (sel (Nat.beq n 182) [2] [])))) (sel (Nat.blt n 193) (sel (Nat.blt n 191) (sel (Nat.beq n 186) [7, 8, 9, 10, 11, 13, 15, 72] []) (sel (Nat.blt n 192) (sel (Nat.beq n 191) [7, 8, 9] []) (sel (Nat.beq n 192) [12, 65] []))) (sel (Nat.blt n 221) (sel (Nat.blt n 215) (sel (Nat.beq n 193) [4] []) (sel (Nat.beq n 215) [6, 8] [])) (sel (Nat.blt n 225) (sel (Nat.beq n 221) [2, 10] []) (sel (Nat.beq n 225) [2] []))))) (sel (Nat.blt n 257) (sel (Nat.blt n 242) (sel (Nat.blt n 239) (sel (Nat.beq n 226) [2] []) (sel (Nat.blt n 241) (sel (Nat.beq n 239) [2, 4] []) (sel (Nat.beq n 241) [7] []))) (sel (Nat.blt n 243) (sel (Nat.beq n 242) [3, 4] []) (sel (Nat.blt n 245) (sel (Nat.beq n 243) [2] []) (sel (Nat.beq n 245) [1] [])))) (sel (Nat.blt n 261) (sel (Nat.blt n 258) (sel (Nat.beq n 257) [3, 4, 6] []) (sel (Nat.blt n 259) (sel (Nat.beq n 258) [3] []) (sel (Nat.beq n 259) [18] []))) (sel (Nat.blt n 263) (sel (Nat.blt n 262) (sel (Nat.beq n 261) [6] []) (sel (Nat.beq n 262) [3, 4, 5, 6, 34] [])) (sel (Nat.blt n 264) (sel (Nat.beq n 263) [7] []) (sel (Nat.beq n 264) [4, 10, 12, 13, 125] [])))))) (sel (Nat.blt n 317) (sel (Nat.blt n 281) (sel (Nat.blt n 269) (sel (Nat.blt n 266) (sel (Nat.beq n 265) [2] []) (sel (Nat.blt n 268) (sel (Nat.beq n 266) [8, 10] []) (sel (Nat.beq n 268) [14, 63] []))) (sel (Nat.blt n 277) (sel (Nat.beq n 269) [5, 6] []) (sel (Nat.blt n 280) (sel (Nat.beq n 277) [38, 39] []) (sel (Nat.beq n 280) [3] [])))) (sel (Nat.blt n 296) (sel (Nat.blt n 282) (sel (Nat.beq n 281) [5] []) (sel (Nat.blt n 285) (sel (Nat.beq n 282) [5, 36] []) (sel (Nat.beq n 285) [3, 4] []))) (sel (Nat.blt n 312) (sel (Nat.blt n 310) (sel (Nat.beq n 296) [10] []) (sel (Nat.beq n 310) [17] [])) (sel (Nat.blt n 313) (sel (Nat.beq n 312) [5] []) (sel (Nat.beq n 313) [3, 4] []))))) (sel (Nat.blt n 336) (sel (Nat.blt n 330) (sel (Nat.blt n 319) (sel (Nat.beq n 317) [4, 6] []) (sel (Nat.blt n 322) (sel (Nat.beq n 319) [1] []) (sel (Nat.beq n 322) [5] []))) (sel (Nat.blt n 331) (sel (Nat.beq n 330) [2] []) (sel (Nat.blt n 332) (sel (Nat.beq n 331) [13] []) (sel (Nat.beq n 332) [6] [])))) (sel (Nat.blt n 344) (sel (Nat.blt n 337) (sel (Nat.beq n 336) [23] []) (sel (Nat.blt n 342) (sel (Nat.beq n 337) [4, 5] []) (sel (Nat.beq n 342) [6] []))) (sel (Nat.blt n 357) (sel (Nat.blt n 348) (sel (Nat.beq n 344) [2] []) (sel (Nat.beq n 348) [1, 2] [])) (sel (Nat.blt n 358) (sel (Nat.beq n 357) [5] []) (sel (Nat.beq n 358) [16] [])))))))
end Go.Proofs.YtlkfclgkinaibaaGreat

namespace Go.Proofs.YtlkfclgkinaibaaGreat
theorem noFree : OFree (fun _ => none) := ⟨fun _ _ => rfl, fun _ _ e => by cases e⟩
theorem noGood : DGood (fun _ => none) tab (progS hints kTabY tab.getK 60) := progS_ok (fun n f e => ⟨rfl, by rw [← BT.getK_eq]; exact e⟩) (kTabY_ok noFree) 60
theorem FSound.livesS {P : Program} (hT : AllB (Is P) tab) {f : Nat} (h : trueD (progS hints kTabY tab.getK 60 (.f f) [] ⟨0, .leaf⟩) = true) : FSound P (LamP P) f (constF (.bool true)) := by
  refine (progI_sound (O := fun _ => none) (fun _ _ h => by cases h) hT f).closed ?_
  unfold trueD at h
  split at h
  · rename_i h' e
    exact noGood _ _ _ _ _ _ e rfl
  · cases h
end Go.Proofs.YtlkfclgkinaibaaGreat
