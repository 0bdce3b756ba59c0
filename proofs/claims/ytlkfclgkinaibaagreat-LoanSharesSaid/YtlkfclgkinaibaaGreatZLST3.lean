/- BY PROGRAM (wip/tool/shake.py): own texts, one behind the other, without what is not needed. -/
import Derived.Control
import Derived.Calls
import Derived.KernelRfl
import Derived.Laws.Sem
import Derived.Laws.Cells
import Derived.Laws.World
import GoSem.Dispatch
import Derived.Laws.StructEq
import Derived.IntWalk
import Derived.WideKeyRuns
import Derived.Laws.BytesArg
import Derived.Orders
import Derived.ChangeArms
import Derived.OpenShut
import Derived.ChangeShapes
import Derived.ProofKit
import Derived.Test.YtlkfclgkinaibaaGreatZLST2

namespace Go.Proofs.YtlkfclgkinaibaaGreat
abbrev DSem := Fn → List AV → AHeap → Option (AV × AHeap)
def nextD (args : List AV) (h : AHeap) : Option (AV × AHeap) :=
  match args with
  | [.ptr id 0] => match h.get id with
    | some (.iter none _ _ _) => some (.tuple [.bool false], h)
    | some (.iter (some m) since seen last) => match h.get m with
      | some (.map es clock) => if seen.isEmpty || es.isEmpty || es.any (fun e => decide (e.2.2 < last)) then
          match es.filter fun e => !seen.contains e.2.2 with
          | [] => some (.tuple [.bool false], h)
          | [e] => if e.2.2 < since then some (.tuple [.bool true, e.1, e.2.1], h.put id (.iter (some m) since (seen ++ [e.2.2]) clock)) else none
          | _ => none
        else none
      | _ => none
    | _ => none
  | _ => none
def doOpD (C : DSem) (o : AOp) (args : List AV) (h : AHeap) : Option (AV × AHeap) :=
  match o with
  | .callv => match args with
    | .func f first captured :: rest => C (.f f) (first ++ rest ++ captured) h
    | .yield l :: rest => C (.y l) rest h
    | _ => none
  | .next => nextD args h
  | o => aop o args h
def runInD (C : DSem) (i : AIn) (e : List AV) (h : AHeap) : Option (List AV × AHeap) :=
  match wantedA e i.guard with
  | some true => match evalL e i.args with
    | some args => match doOpD C i.op args h with
      | some (v, h') => some (setDst e i.dst v, h')
      | none => none
    | none => none
  | some false => some (setDst e i.dst (.tuple []), h)
  | none => none
def runInsD (C : DSem) : List AIn → List AV → AHeap → Option (List AV × AHeap)
  | [], e, h => some (e, h)
  | i :: is, e, h => match runInD C i e h with
    | some (e', h') => runInsD C is e' h'
    | none => none
def shift : List (Nat × Nat × Nat) → Nat → Nat
  | [], i => i
  | (a, b, c) :: l, i => if a ≤ i ∧ i < b then i - a + c else shift l i
def allFrom (p : Nat → Bool) (base : Nat) : Nat → Bool
  | 0 => true
  | k + 1 => p (base + k) && allFrom p base k
theorem allFrom_at {p : Nat → Bool} {base : Nat} : ∀ {k : Nat}, allFrom p base k = true → ∀ i, base ≤ i → i < base + k → p i = true
  | 0, _, i, h1, h2 => by omega
  | k + 1, h, i, h1, h2 => by
    simp only [allFrom, Bool.and_eq_true] at h
    by_cases e : i = base + k
    · rw [e]; exact h.1
    · exact allFrom_at h.2 i h1 (by omega)
def shiftIn (base next : Nat) (s : List (Nat × Nat × Nat)) : Bool := s.all fun x => decide (base ≤ x.1) && decide (x.2.1 ≤ next)
theorem shift_low {base next : Nat} : ∀ {s : List (Nat × Nat × Nat)}, shiftIn base next s = true → ∀ i, i < base ∨ next ≤ i → shift s i = i
  | [], _, i, _ => rfl
  | (a, b, c) :: s, h, i, hi => by
    simp only [shiftIn, List.all_cons, Bool.and_eq_true, decide_eq_true_eq] at h
    simp only [shift]
    rw [if_neg (by omega)]
    exact shift_low (base := base) (next := next) h.2 i hi
noncomputable def ifK {α : Type} (b : Bool) (t e : α) : α := Bool.rec (motive := fun _ => α) e t b
noncomputable def andK (a b : Bool) : Bool := Bool.rec (motive := fun _ => Bool) false b a
theorem andK_true {a b : Bool} : andK a b = true ↔ a = true ∧ b = true := by cases a <;> simp [andK]
def isBool (b : Bool) (x : AV) : Bool := match x with | .bool c => b == c | _ => false
def isInt (k : IntKind) (n : Int) (x : AV) : Bool := match x with | .int k' m => decide (k = k') && decide (n = m) | _ => false
def isStr (s : ByteArray) (x : AV) : Bool := match x with | .str t => decide (s = t) | _ => false
def isPtr (a b : Nat) (x : AV) : Bool := match x with | .ptr c d => Nat.beq a c && Nat.beq b d | _ => false
def isSl (a b c d : Nat) (x : AV) : Bool := match x with | .sl a' b' c' d' => Nat.beq a a' && Nat.beq b b' && Nat.beq c c' && Nat.beq d d' | _ => false
def isSsl (a b c d : Nat) (x : AV) : Bool := match x with | .ssl a' b' c' d' => Nat.beq a a' && Nat.beq b b' && Nat.beq c c' && Nat.beq d d' | _ => false
def isMap (a : Nat) (x : AV) : Bool := match x with | .map b => Nat.beq a b | _ => false
def isYield (a : Nat) (x : AV) : Bool := match x with | .yield b => Nat.beq a b | _ => false
def isFunc (f : Nat) (p q : List AV → Bool) (x : AV) : Bool := match x with | .func g a b => Nat.beq f g && p a && q b | _ => false
def isAgg (p : List AV → Bool) (x : AV) : Bool := match x with | .agg a => p a | _ => false
def isTup (p : List AV → Bool) (x : AV) : Bool := match x with | .tuple a => p a | _ => false
def isBytes (l n : Nat) (x : AV) : Bool := match x with | .bytes l' n' => Nat.beq l l' && Nat.beq n n' | _ => false
def isNo : Nat → AV → Bool
  | 0, .nilptr => true
  | 1, .nilsl => true
  | 2, .esl => true
  | 3, .nilmap => true
  | 4, .nilfunc => true
  | 5, .junk => true
  | _, _ => false
def isCons (p : AV → Bool) (q : List AV → Bool) (l : List AV) : Bool := match l with | x :: xs => p x && q xs | [] => false
def isNil' (l : List AV) : Bool := match l with | [] => true | _ => false
noncomputable def eqV (σ : Nat → Nat) (a : AV) : AV → Bool := AV.rec (motive_1 := fun _ => AV → Bool) (motive_2 := fun _ => List AV → Bool)
  (fun b => isBool b) (fun k n => isInt k n) (fun s => isStr s) (fun id off => isPtr (σ id) off) (isNo 0) (fun a b c d => isSl (σ a) b c d) (fun a b c d => isSsl (σ a) b c d) (isNo 1) (isNo 2) (fun a => isMap (σ a)) (isNo 3)
  (fun f _ _ p q => isFunc f p q) (fun l => isYield (σ l)) (isNo 4) (fun _ p => isAgg p) (fun l n => isBytes l n) (fun _ p => isTup p) (isNo 5) isNil' (fun _ _ p q => isCons p q) a
noncomputable def eqVL (σ : Nat → Nat) (a : List AV) : List AV → Bool := AV.rec_1 (motive_1 := fun _ => AV → Bool) (motive_2 := fun _ => List AV → Bool)
  (fun b => isBool b) (fun k n => isInt k n) (fun s => isStr s) (fun id off => isPtr (σ id) off) (isNo 0) (fun a b c d => isSl (σ a) b c d) (fun a b c d => isSsl (σ a) b c d) (isNo 1) (isNo 2) (fun a => isMap (σ a)) (isNo 3)
  (fun f _ _ p q => isFunc f p q) (fun l => isYield (σ l)) (isNo 4) (fun _ p => isAgg p) (fun l n => isBytes l n) (fun _ p => isTup p) (isNo 5) isNil' (fun _ _ p q => isCons p q) a
theorem nbeq {a b : Nat} (h : Nat.beq a b = true) : a = b := Nat.eq_of_beq_eq_true h
mutual
theorem eqV_eq {σ : Nat → Nat} : ∀ (a b : AV), eqV σ a b = true → a.ren σ = b := by
  intro a b h
  cases a with
  | bool q => change isBool q b = true at h; cases b <;> simp only [isBool, Bool.false_eq_true, beq_iff_eq] at h; subst h; rfl
  | int k n => change isInt k n b = true at h; cases b <;> simp only [isInt, Bool.false_eq_true, Bool.and_eq_true, decide_eq_true_eq] at h; obtain ⟨rfl, rfl⟩ := h; rfl
  | str t => change isStr t b = true at h; cases b <;> simp only [isStr, Bool.false_eq_true, decide_eq_true_eq] at h; subst h; rfl
  | ptr id off => change isPtr (σ id) off b = true at h; cases b <;> simp only [isPtr, Bool.false_eq_true, Bool.and_eq_true] at h; obtain ⟨h1, h2⟩ := h; simp only [AV.ren, nbeq h1, nbeq h2]
  | nilptr => change isNo 0 b = true at h; cases b <;> first | rfl | (simp [isNo] at h)
  | sl a1 a2 a3 a4 => change isSl (σ a1) a2 a3 a4 b = true at h; cases b <;> simp only [isSl, Bool.false_eq_true, Bool.and_eq_true] at h; obtain ⟨⟨⟨h1, h2⟩, h3⟩, h4⟩ := h; simp only [AV.ren, nbeq h1, nbeq h2, nbeq h3, nbeq h4]
  | ssl a1 a2 a3 a4 => change isSsl (σ a1) a2 a3 a4 b = true at h; cases b <;> simp only [isSsl, Bool.false_eq_true, Bool.and_eq_true] at h; obtain ⟨⟨⟨h1, h2⟩, h3⟩, h4⟩ := h; simp only [AV.ren, nbeq h1, nbeq h2, nbeq h3, nbeq h4]
  | nilsl => change isNo 1 b = true at h; cases b <;> first | rfl | (simp [isNo] at h)
  | esl => change isNo 2 b = true at h; cases b <;> first | rfl | (simp [isNo] at h)
  | map id => change isMap (σ id) b = true at h; cases b <;> simp only [isMap, Bool.false_eq_true] at h; simp only [AV.ren, nbeq h]
  | nilmap => change isNo 3 b = true at h; cases b <;> first | rfl | (simp [isNo] at h)
  | func f p q =>
    change isFunc f (eqVL σ p) (eqVL σ q) b = true at h
    cases b <;> simp only [isFunc, Bool.false_eq_true, Bool.and_eq_true] at h
    obtain ⟨⟨h1, h2⟩, h3⟩ := h
    simp only [AV.ren, nbeq h1, eqVL_eq _ _ h2, eqVL_eq _ _ h3]
  | yield l => change isYield (σ l) b = true at h; cases b <;> simp only [isYield, Bool.false_eq_true] at h; simp only [AV.ren, nbeq h]
  | nilfunc => change isNo 4 b = true at h; cases b <;> first | rfl | (simp [isNo] at h)
  | agg p =>
    change isAgg (eqVL σ p) b = true at h
    cases b <;> simp only [isAgg, Bool.false_eq_true] at h
    simp only [AV.ren, eqVL_eq _ _ h]
  | bytes l n => change isBytes l n b = true at h; cases b <;> simp only [isBytes, Bool.false_eq_true, Bool.and_eq_true] at h; obtain ⟨h1, h2⟩ := h; simp only [AV.ren, nbeq h1, nbeq h2]
  | tuple p =>
    change isTup (eqVL σ p) b = true at h
    cases b <;> simp only [isTup, Bool.false_eq_true] at h
    simp only [AV.ren, eqVL_eq _ _ h]
  | junk => change isNo 5 b = true at h; cases b <;> first | rfl | (simp [isNo] at h)
theorem eqVL_eq {σ : Nat → Nat} : ∀ (a b : List AV), eqVL σ a b = true → AV.renL σ a = b := by
  intro a b h
  cases a with
  | nil => change isNil' b = true at h; cases b <;> simp [isNil'] at h; rfl
  | cons x xs =>
    change isCons (eqV σ x) (eqVL σ xs) b = true at h
    cases b <;> simp only [isCons, Bool.false_eq_true, Bool.and_eq_true] at h
    simp only [AV.renL, eqV_eq _ _ h.1, eqVL_eq _ _ h.2]
end
noncomputable def eqD (σ : Nat → Nat) (d : Dat) (e : Dat) : Bool := Dat.rec (motive := fun _ => Bool) (fun cs => Dat.rec (motive := fun _ => Bool) (fun es => eqVL σ cs es) (fun _ _ => false) e) (fun l n => Dat.rec (motive := fun _ => Bool) (fun _ => false) (fun l' n' => andK (Nat.beq l l') (Nat.beq n n')) e) d
theorem eqD_eq {σ : Nat → Nat} {d e : Dat} (h : eqD σ d e = true) : d.ren σ = e := by
  cases d with
  | vals cs => cases e with
    | vals es => exact congrArg Dat.vals (eqVL_eq _ _ h)
    | bytes => cases h
  | bytes l n => cases e with
    | vals => cases h
    | bytes l' n' =>
      have h : andK (Nat.beq l l') (Nat.beq n n') = true := h
      rw [andK_true] at h
      rw [Dat.ren, nbeq h.1, nbeq h.2]
noncomputable def eqO (σ : Nat → Nat) (a b : AObj) : Bool := match a, b with
  | .row e es s ro d, .row e' es' s' ro' d' => Nat.beq e e' && Nat.beq es es' && (s == s') && (ro == ro') && eqD σ d d'
  | a, b => decide (a.ren σ = b)
theorem eqO_eq {σ : Nat → Nat} {a b : AObj} (h : eqO σ a b = true) : a.ren σ = b := by
  unfold eqO at h
  split at h
  · simp only [Bool.and_eq_true, beq_iff_eq] at h
    obtain ⟨⟨⟨⟨h1, h2⟩, rfl⟩, rfl⟩, h5⟩ := h
    simp only [AObj.ren, nbeq h1, nbeq h2, eqD_eq h5]
  · exact of_decide_eq_true h
noncomputable def bothK (p : Nat → Option AObj → Option AObj → Bool) (q : Nat → Option AObj → Bool) (t : Tr) : Tr → Nat → Nat → Bool := Tr.rec (motive := fun _ => Tr → Nat → Nat → Bool) (fun _ _ _ => true)
  (fun _ v _ fl fr u a b => Tr.rec (motive := fun _ => Bool) (andK (q b v) (andK (fl .leaf (Nat.mul 2 a) (Nat.add b a)) (fr .leaf (Nat.mul 2 a) (Nat.add b (Nat.mul 2 a))))) (fun ul w ur _ _ => andK (p b v w) (andK (fl ul (Nat.mul 2 a) (Nat.add b a)) (fr ur (Nat.mul 2 a) (Nat.add b (Nat.mul 2 a))))) u) t
theorem bothK_get {p : Nat → Option AObj → Option AObj → Bool} {q : Nat → Option AObj → Bool} : ∀ {t u : Tr} {a b : Nat}, bothK p q t u a b = true → ∀ n o, t.get n = some o → p (b + a * n) (some o) (u.get n) = true ∨ q (b + a * n) (some o) = true
  | .leaf, _, _, _, _, n, o, h => by simp [Tr.get] at h
  | .node l v r, .leaf, a, b, hk, n, o, h => by
    have hk : andK (q b v) (andK (bothK p q l .leaf (2 * a) (b + a)) (bothK p q r .leaf (2 * a) (b + 2 * a))) = true := hk
    rw [andK_true, andK_true] at hk
    obtain ⟨h1, h2, h3⟩ := hk
    simp only [Tr.get] at h
    split at h
    · rename_i h0; subst h0; subst h; exact .inr h1
    · split at h
      · have := bothK_get h2 _ _ h
        rw [show b + a + 2 * a * (n / 2) = b + a * n by
          have : n = 2 * (n / 2) + 1 := by omega
          generalize n / 2 = m at this; subst this; rw [Nat.mul_add, Nat.mul_one, Nat.mul_comm 2 a, Nat.mul_assoc]; omega] at this
        simpa [Tr.get] using this
      · have := bothK_get h3 _ _ h
        rw [show b + 2 * a + 2 * a * (n / 2 - 1) = b + a * n by
          have : n = 2 * (n / 2 - 1) + 2 := by omega
          generalize n / 2 - 1 = m at this; subst this; rw [Nat.mul_add, Nat.mul_comm 2 a, Nat.mul_assoc]; omega] at this
        simpa [Tr.get] using this
  | .node l v r, .node ul w ur, a, b, hk, n, o, h => by
    have hk : andK (p b v w) (andK (bothK p q l ul (2 * a) (b + a)) (bothK p q r ur (2 * a) (b + 2 * a))) = true := hk
    rw [andK_true, andK_true] at hk
    obtain ⟨h1, h2, h3⟩ := hk
    simp only [Tr.get] at h
    split at h
    · rename_i h0; subst h0; subst h; refine .inl ?_; simp only [Tr.get, if_true]; exact h1
    · rename_i h0
      split at h
      · rename_i h4
        have := bothK_get h2 _ _ h
        rw [show b + a + 2 * a * (n / 2) = b + a * n by
          have : n = 2 * (n / 2) + 1 := by omega
          generalize n / 2 = m at this; subst this; rw [Nat.mul_add, Nat.mul_one, Nat.mul_comm 2 a, Nat.mul_assoc]; omega] at this
        simpa only [Tr.get, if_neg h0, if_pos h4] using this
      · rename_i h4
        have := bothK_get h3 _ _ h
        rw [show b + 2 * a + 2 * a * (n / 2 - 1) = b + a * n by
          have : n = 2 * (n / 2 - 1) + 2 := by omega
          generalize n / 2 - 1 = m at this; subst this; rw [Nat.mul_add, Nat.mul_comm 2 a, Nat.mul_assoc]; omega] at this
        simpa only [Tr.get, if_neg h0, if_neg h4] using this
noncomputable def shiftK (base : Nat) (s : List (Nat × Nat × Nat)) (i : Nat) : Nat := ifK (Nat.blt i base) i (shift s i)
noncomputable def objK (base next : Nat) (s : List (Nat × Nat × Nat)) (h1 : AHeap) (n : Nat) (v : Option AObj) (w : Option AObj) : Bool :=
  Option.rec (motive := fun _ => Bool) true (fun o => andK (Nat.blt n next) (Option.rec (motive := fun _ => Bool) false (fun o' => eqO (shiftK base s) o o') (ifK (Nat.blt n base) w (h1.get (shift s n))))) v
noncomputable def renOk (base : Nat) (s s' : List (Nat × Nat × Nat)) (e0 : List AV) (h0 : AHeap) (e1 : List AV) (h1 : AHeap) : Bool :=
  decide (h0.next = h1.next) && shiftIn base h0.next s && allFrom (fun i => decide (base ≤ shift s i) && decide (shift s' (shift s i) = i)) base (h0.next - base) &&
  eqVL (shiftK base s) e0 e1 && bothK (objK base h0.next s h1) (fun n v => objK base h0.next s h1 n v none) h0.objs h1.objs 1 0
theorem shiftK_eq {base next : Nat} {s : List (Nat × Nat × Nat)} (h : shiftIn base next s = true) : shiftK base s = shift s := funext fun i => by
  unfold shiftK
  cases hb : Nat.blt i base with
  | false => rfl
  | true => rw [Nat.blt_eq] at hb; exact (shift_low h i (.inl hb)).symm
theorem objK_ok {base next : Nat} {s : List (Nat × Nat × Nat)} {h1 : AHeap} {n : Nat} {o : AObj} {w : Option AObj} (hs : shiftIn base next s = true) (hw : w = none ∨ w = h1.get n) (h : objK base next s h1 n (some o) w = true) : n < next ∧ h1.get (shift s n) = some (o.ren (shift s)) := by
  have h : andK (Nat.blt n next) (Option.rec (motive := fun _ => Bool) false (fun o' => eqO (shiftK base s) o o') (ifK (Nat.blt n base) w (h1.get (shift s n)))) = true := h
  rw [andK_true, Nat.blt_eq, shiftK_eq hs] at h
  refine ⟨h.1, ?_⟩
  have h2 := h.2
  cases hb : Nat.blt n base with
  | false =>
    rw [hb] at h2
    change Option.rec (motive := fun _ => Bool) false (fun o' => eqO (shift s) o o') (h1.get (shift s n)) = true at h2
    cases hg : h1.get (shift s n) with
    | none => rw [hg] at h2; cases h2
    | some o' => rw [hg] at h2; rw [eqO_eq h2]
  | true =>
    rw [hb] at h2
    change Option.rec (motive := fun _ => Bool) false (fun o' => eqO (shift s) o o') w = true at h2
    rw [Nat.blt_eq] at hb
    rw [shift_low hs n (.inl hb)]
    rcases hw with rfl | rfl
    · cases h2
    · cases hg : h1.get n with
      | none => rw [hg] at h2; cases h2
      | some o' => rw [hg] at h2; rw [eqO_eq h2]
theorem renOk_ren {base : Nat} {s s' : List (Nat × Nat × Nat)} {e0 e1 : List AV} {h0 h1 : AHeap} (h : renOk base s s' e0 h0 e1 h1 = true) : Ren base e0 h0 e1 h1 := by
  simp only [renOk, Bool.and_eq_true, decide_eq_true_eq] at h
  obtain ⟨⟨⟨⟨a1, a2⟩, a3⟩, a4⟩, a5⟩ := h
  rw [shiftK_eq a2] at a4
  have a4 := eqVL_eq _ _ a4
  have hob : ∀ id o, h0.get id = some o → id < h0.next ∧ h1.get (shift s id) = some (o.ren (shift s)) := fun id o hg => by
    have := bothK_get a5 id o hg
    rw [Nat.zero_add, Nat.one_mul] at this
    rcases this with this | this
    · exact objK_ok a2 (.inr rfl) this
    · exact objK_ok a2 (.inl rfl) this
  have hin : ∀ i, base ≤ i → i < h0.next → base ≤ shift s i ∧ shift s' (shift s i) = i := fun i h1 h2 => by
    have := allFrom_at a3 i h1 (by omega)
    simp only [Bool.and_eq_true, decide_eq_true_eq] at this
    exact this
  refine ⟨shift s, fun i hi => shift_low a2 i (.inl hi), fun i hi => shift_low a2 i (.inr hi), fun i j oi oj hi hj hij => ?_, a1, fun id o hg => (hob id o hg).2, ?_, fun i v hv => ?_⟩
  · have h1 := (hob i oi hi).1
    have h2 := (hob j oj hj).1
    by_cases c1 : i < base
    · rw [shift_low a2 i (.inl c1)] at hij
      by_cases c2 : j < base
      · rwa [shift_low a2 j (.inl c2)] at hij
      · have := (hin j (by omega) h2).1
        omega
    · by_cases c2 : j < base
      · rw [shift_low a2 j (.inl c2)] at hij
        have := (hin i (by omega) h1).1
        omega
      · rw [← (hin i (by omega) h1).2, ← (hin j (by omega) h2).2, hij]
  · rw [← a4, AV.renL_length]
  · rw [← a4, AV.renL_get, bind_notJunk hv]; rfl
def runDrawT (C : DSem) : List DI → List AV → AHeap → Option ((List AV × AHeap) × List (Nat × Nat × Nat))
  | [], e, h => some ((e, h), [])
  | d :: ds, e, h => match runInD C d.i e h with
    | some (e', h') => if d.rs.all (fun r => again r.2 e' h') then match runDrawT C ds e' h' with
        | some (r, l) => some (r, (d.j, h.next, h'.next) :: l)
        | none => none
      else none
    | none => none
def findJ (j : Nat) : List (Nat × Nat × Nat) → Nat
  | [] => 0
  | (i, a, _) :: l => if i = j then a else findJ j l
def shiftOf (l0 l1 : List (Nat × Nat × Nat)) : List (Nat × Nat × Nat) := (l0.filter fun x => decide (x.2.1 < x.2.2)).map fun x => (x.2.1, x.2.2, findJ x.1 l1)
abbrev OutD := Option (AExit × List AV × AHeap)
def iterD (body : List AV → AHeap → OutD) : Nat → List AV → AHeap → OutD
  | 0, _, _ => none
  | n + 1, e, h => match body e h with
    | some (.normal, e', h') => iterD body n e' h'
    | r => r
def isLoopD (h : AHeap) : Option Nat → Bool
  | none => true
  | some l => match h.get l with
    | some (.loop _ _ _ _ _ _) => true
    | _ => false
noncomputable def execD (C : DSem) (ro : Option Nat) : ACode → List AV → AHeap → OutD
  | .skip, e, h => some (.normal, e, h)
  | .region ops, e, h => match runInsD C ops e h with
    | some (e', h') => some (.normal, e', h')
    | none => none
  | .seq a b, e, h => match execD C ro a e h with
    | some (.normal, e', h') => execD C ro b e' h'
    | r => r
  | .cond c a b, e, h => match c.eval e with
    | some (.bool true) => execD C ro a e h
    | some (.bool false) => execD C ro b e h
    | _ => none
  | .block id b, e, h => match execD C ro b e h with
    | some (.exit i, e', h') => if i = id then some (.normal, e', h') else some (.exit i, e', h')
    | r => r
  | .loop b, e, h => iterD (execD C ro b) rounds e h
  | .exit id, e, h => some (.exit id, e, h)
  | .ret, e, h => some (.ret, e, h)
  | .draw alts, e, h => match alts with
    | ds :: rest => match runDrawT C ds e h with
      | some ((e0, h0), l0) => if rest.all (fun d1 => match runDrawT C d1 e h with
          | some ((e1, h1), l1) => renOk h.next (shiftOf l0 l1) (shiftOf l1 l0) e0 h0 e1 h1
          | none => false) then some (.normal, e0, h0) else none
      | none => none
    | _ => none
  | .rfun f ps asg body, e, h => match f.eval e with
    | some (.func g first captured) => if isLoopD h ro then
        match C (.f g) (first ++ [.yield h.next] ++ captured) (h.new (.loop .ready none e ps asg body)) with
        | some (_, h') => match h'.get h.next with
          | some (.loop .busy _ _ _ _ _) => none
          | some (.loop _ j _ _ _ _) => some (j.getD .normal, e, h'.kill h.next)
          | _ => none
        | none => none
      else none
    | _ => none
  | .bad, _, _ => none
noncomputable def callD (C : DSem) (f : AFn) (args : List AV) (h : AHeap) : Option (AV × AHeap) :=
  match execD C none f.body (args ++ List.replicate (f.ntmps - args.length) .junk) h with
  | some (.normal, e, h') => (resA e h' f.res).map fun vs => (retA vs, h')
  | some (.ret, e, h') => (resA e h' f.res).map fun vs => (retA vs, h')
  | _ => none
noncomputable def roundD (C : DSem) (l : Nat) (args : List AV) (h : AHeap) : Option (AV × AHeap) :=
  match h.get l with
  | some (.loop _ _ tmps ps asg body) => if args.length = ps.length then
      match execD C (some l) asg (setAll tmps ps args) h with
      | some (.normal, e1, h1) => match h1.get l with
        | some (.loop .ready j t p a b) => match execD C (some l) body e1 (h1.put l (.loop .busy j t p a b)) with
          | some (x, _, h2) => match h2.get l with
            | some (.loop _ _ t p a b) => match x with
              | .normal => some (.bool true, h2.put l (.loop .ready none t p a b))
              | .exit i => some (.bool false, h2.put l (.loop .done (some (.exit i)) t p a b))
              | .ret => some (.bool false, h2.put l (.loop .done (some .ret) t p a b))
            | _ => none
          | none => none
        | _ => none
      | _ => none
    else none
  | _ => none
section
variable {D : DSem} {C : SemW} (hC : ∀ g args h v h' Q, D g args h = some (v, h') → Q v h' → C g args h Q)
include hC
omit hC in
theorem nextD_ok {args : List AV} {h h' : AHeap} {v : AV} {Q : AV → AHeap → Prop} (x : nextD args h = some (v, h')) (q : Q v h') : nextW args h Q := by
  unfold nextD at x
  split at x
  · rename_i id
    split at x
    · rename_i hg
      cases x
      simp only [nextW, hg]
      exact q
    · rename_i m since seen last hg
      split at x
      · rename_i es clock hm
        simp only [nextW, hg, hm]
        split at x
        · rename_i hc
          have hc' : seen = [] ∨ es = [] ∨ ∃ e, e ∈ es ∧ e.2.2 < last := by
            simp only [Bool.or_eq_true, List.isEmpty_iff, List.any_eq_true, decide_eq_true_eq] at hc
            rcases hc with (h | h) | ⟨e, h1, h2⟩
            · exact .inl h
            · exact .inr (.inl h)
            · exact .inr (.inr ⟨e, h1, h2⟩)
          split at x
          · rename_i hf
            cases x
            rw [List.filter_eq_nil_iff] at hf
            refine ⟨hc', fun e he hn => ?_, fun _ => q⟩
            have := hf e he
            simp [hn] at this
          · rename_i e0 hf
            split at x
            · rename_i hlt
              cases x
              have hmem : ∀ e, e ∈ es → e.2.2 ∉ seen → e = e0 := fun e he hn => by
                have : e ∈ es.filter fun e => !seen.contains e.2.2 := List.mem_filter.2 ⟨he, by simp [hn]⟩
                rw [hf] at this
                exact List.mem_singleton.1 this
              refine ⟨hc', fun e he hn => ?_, fun hall => ?_⟩
              · rw [hmem e he hn]; exact q
              · exfalso
                have : e0 ∈ es.filter fun e => !seen.contains e.2.2 := by rw [hf]; simp
                obtain ⟨h1, h2⟩ := List.mem_filter.1 this
                have h3 := hall e0 h1 hlt
                simp [h3] at h2
            · cases x
          · cases x
        · cases x
      · cases x
    · cases x
  · cases x
theorem doOpD_ok {o : AOp} {args : List AV} {h h' : AHeap} {v : AV} {Q : AV → AHeap → Prop} (x : doOpD D o args h = some (v, h')) (q : Q v h') : doOpW C o args h Q := by
  unfold doOpD at x
  unfold doOpW
  split at x
  · split at x
    · exact hC _ _ _ _ _ _ x q
    · exact hC _ _ _ _ _ _ x q
    · cases x
  · exact nextD_ok x q
  · split
    · exact absurd rfl (by assumption)
    · exact absurd rfl (by assumption)
    · rw [x]; exact q
theorem runInD_ok {i : AIn} {e e' : List AV} {h h' : AHeap} {Q : List AV → AHeap → Prop} (x : runInD D i e h = some (e', h')) (q : Q e' h') : runInW C i e h Q := by
  unfold runInD at x
  unfold runInW
  split at x
  · rename_i h1
    split at x
    · rename_i args h2
      split at x
      · rename_i v h3 h4
        cases x
        simp only [h1, h2]
        exact doOpD_ok hC h4 q
      · cases x
    · cases x
  · rename_i h1; cases x; simp only [h1]; exact q
  · cases x
theorem runInsD_ok : ∀ {is : List AIn} {e e' : List AV} {h h' : AHeap} {Q : List AV → AHeap → Prop}, runInsD D is e h = some (e', h') → Q e' h' → runInsW C is e h Q
  | [], _, _, _, _, _, x, q => by cases x; exact q
  | i :: is, e, e', h, h', Q, x, q => by
    simp only [runInsD] at x
    split at x
    · rename_i e1 h1 h2
      exact runInD_ok hC h2 (runInsD_ok x q)
    · cases x
theorem runDrawT_ok : ∀ {is : List DI} {e e' : List AV} {h h' : AHeap} {l : List (Nat × Nat × Nat)} {Q : List AV → AHeap → Prop}, runDrawT D is e h = some ((e', h'), l) → Q e' h' → runDrawW C is e h Q
  | [], _, _, _, _, _, _, x, q => by cases x; exact q
  | i :: is, e, e', h, h', l, Q, x, q => by
    simp only [runDrawT] at x
    split at x
    · rename_i e1 h1 h2
      split at x
      · rename_i h3
        split at x
        · rename_i r l2 h4
          cases x
          exact runInD_ok hC h2 ⟨h3, runDrawT_ok h4 q⟩
        · cases x
      · cases x
    · cases x
theorem execD_ok {ro : Option Nat} : ∀ {c : ACode} {e e' : List AV} {h h' : AHeap} {y : AExit} {Q : AExit → List AV → AHeap → Prop}, execD D ro c e h = some (y, e', h') → Q y e' h' → execW C ro c e h Q
  | .skip, _, _, _, _, _, _, x, q => by cases x; exact q
  | .region ops, e, e', h, h', y, Q, x, q => by
    simp only [execD] at x
    split at x
    · rename_i h1
      cases x
      exact runInsD_ok hC h1 q
    · cases x
  | .seq a b, e, e', h, h', y, Q, x, q => by
    simp only [execD] at x
    simp only [execW]
    split at x
    · rename_i e1 h1 h2
      exact execD_ok (y := .normal) h2 (execD_ok x q)
    · rename_i hne
      refine execD_ok x ?_
      cases y with
      | normal => exact absurd x (hne _ _)
      | exit _ => exact q
      | ret => exact q
  | .cond c a b, e, e', h, h', y, Q, x, q => by
    simp only [execD] at x
    simp only [execW]
    split at x
    · rename_i h1; rw [h1]; exact execD_ok x q
    · rename_i h1; rw [h1]; exact execD_ok x q
    · cases x
  | .block id b, e, e', h, h', y, Q, x, q => by
    simp only [execD] at x
    simp only [execW]
    split at x
    · rename_i i e1 h1 h2
      refine execD_ok h2 ?_
      split at x
      · rename_i hi; cases x; simp only [hi, if_true]; exact q
      · rename_i hi; cases x; simp only [hi, if_false]; exact q
    · rename_i hne
      refine execD_ok x ?_
      cases y with
      | normal => exact q
      | exit i => exact absurd x (hne _ _ _)
      | ret => exact q
  | .loop b, e, e', h, h', y, Q, x, q => by
    simp only [execD] at x
    simp only [execW]
    have key : ∀ n e h, iterD (execD D ro b) n e h = some (y, e', h') → iterW (execW C ro b) n e h Q := by
      intro n
      induction n with
      | zero => intro e h x; cases x
      | succ n ih =>
        intro e h x
        simp only [iterD] at x
        simp only [iterW]
        split at x
        · rename_i e1 h1 h2
          exact execD_ok (y := .normal) h2 ⟨_, fun _ => Less.refl _, ih _ _ x⟩
        · rename_i hne
          refine execD_ok x ?_
          cases y with
          | normal => exact absurd x (hne _ _)
          | exit _ => exact q
          | ret => exact q
    exact key _ _ _ x
  | .exit _, _, _, _, _, _, _, x, q => by cases x; exact q
  | .ret, _, _, _, _, _, _, x, q => by cases x; exact q
  | .draw alts, e, e', h, h', y, Q, x, q => by
    simp only [execD] at x
    split at x
    · rename_i ds rest
      split at x
      · rename_i e0 h0 l0 h1
        split at x
        · rename_i hall
          cases x
          intro d1 hd
          rcases List.mem_cons.1 hd with rfl | hd
          · exact runDrawT_ok hC h1 ⟨_, _, Ren.refl _ _ _, q⟩
          · have := List.all_eq_true.1 hall d1 hd
            split at this
            · rename_i e1 hh1 l1 h2
              exact runDrawT_ok hC h2 ⟨_, _, renOk_ren this, q⟩
            · cases this
        · cases x
      · cases x
    · cases x
  | .rfun f ps asg body, e, e', h, h', y, Q, x, q => by
    simp only [execD] at x
    simp only [execW]
    split at x
    · rename_i g first captured hf
      rw [hf]
      split at x
      · rename_i hl
        split at x
        · rename_i v h1 h2
          refine ⟨fun l hlo => ?_, hC _ _ _ _ _ _ h2 ?_⟩
          · subst hlo
            unfold isLoopD at hl
            simp only at hl
            split at hl
            · exact ⟨_, _, _, _, _, _, by assumption⟩
            · cases hl
          · unfold endW
            split at x
            · cases x
            · rename_i st j t p a b hne hg
              cases x
              rw [hg]
              exact ⟨fun e => hne e, q⟩
            · cases x
        · cases x
      · cases x
    · cases x
  | .bad, _, _, _, _, _, _, x, _ => by cases x
theorem callD_ok {f : AFn} {args : List AV} {h h' : AHeap} {v : AV} {Q : AV → AHeap → Prop} (x : callD D f args h = some (v, h')) (q : Q v h') : callW C f args h Q := by
  unfold callD at x
  unfold callW
  split at x
  · rename_i e h1 h2
    refine execD_ok hC h2 ?_
    cases hr : resA e h1 f.res with
    | none => rw [hr] at x; cases x
    | some vs => rw [hr] at x; cases x; exact q
  · rename_i e h1 h2
    refine execD_ok hC h2 ?_
    cases hr : resA e h1 f.res with
    | none => rw [hr] at x; cases x
    | some vs => rw [hr] at x; cases x; exact q
  · cases x
theorem roundD_ok {l : Nat} {args : List AV} {h h' : AHeap} {v : AV} {Q : AV → AHeap → Prop} (x : roundD D l args h = some (v, h')) (q : Q v h') : roundW C l args h Q := by
  unfold roundD at x
  unfold roundW
  split at x
  · rename_i hg
    split at x
    · rename_i hl
      split at x
      · rename_i e1 h1 h2
        split at x
        · rename_i hg1
          split at x
          · rename_i y e2 h3 h4
            simp only [hg]
            refine ⟨hl, execD_ok hC h2 ⟨rfl, ?_⟩⟩
            simp only [hg1]
            refine execD_ok hC h4 ?_
            unfold roundEnd
            split at x
            · rename_i hg3
              rw [hg3]
              cases y <;> (cases x; exact q)
            · cases x
          · cases x
        · cases x
      · cases x
    · cases x
  · cases x
end
def constF (v : AV) : FSpec := fun args h Q => args = [] ∧ Q v h
theorem ObjR.same {Λ : Lam} {μ : Mu} {w w' : World} {l : Loc} {o : AObj} (h : ObjR Λ μ w l o) (hb : w'.heap[l.block]? = w.heap[l.block]?) : ObjR Λ μ w' l o := ObjR.ext (Ext.refl μ) h hb
theorem FSound.closed {P : Program} {Λ : Lam} {f : FuncId} {F : FSpec} (hs : FSound P Λ f F) {b : Bool} (hc : F [] ⟨0, .leaf⟩ fun v _ => v = .bool b) : FSound P Λ f (constF (.bool b)) := by
  intro args h Q μ w cargs hF hr hargs cs
  obtain ⟨rfl, hq⟩ := hF
  simp only [VRL] at hargs
  subst hargs
  obtain ⟨r, h', fr, w', μ', cv, rfl, s, hf, hl, hv, _, hst⟩ := hs [] ⟨0, .leaf⟩ _ _ w [] hc (rel_empty w) (by simp [VRL]) cs
  have hb := hst.below ro_empty
  simp only [VR] at hv
  subst hv
  refine ⟨.bool b, h, fr, w', μ, .bool b, hq, s, hf, hl, by simp [VR], ⟨fun id o hg => ?_, hr.inj, fun id l hl => ?_⟩, ⟨Ext.refl μ, Nat.le_refl _, fun _ _ => rfl, hb.os, hb.tape, hb.output, hb.size, fun b hb' _ => hb.block b hb', fun id o l h1 h2 h3 => .inr ⟨id, o, l, h1, h2, h3, rfl⟩, fun id o l h1 h3 => .inr ⟨id, o, l, h1, h3, rfl⟩⟩⟩
  · obtain ⟨l, hl, hobj⟩ := hr.obj id o hg
    exact ⟨l, hl, hobj.same (hb.block _ (hr.dom _ _ hl).2)⟩
  · have := hr.dom id l hl
    exact ⟨this.1, Nat.lt_of_lt_of_le this.2 hb.size⟩
def trueD : Option (AV × AHeap) → Bool
  | some (.bool true, _) => true
  | _ => false
end Go.Proofs.YtlkfclgkinaibaaGreat

namespace Go.Proofs.YtlkfclgkinaibaaGreat
def AHeap.wf (h : AHeap) : Prop := ∀ id o, h.get id = some o → id < h.next
theorem AHeap.get_put (h : AHeap) (i j : Nat) (o : AObj) : (h.put i o).get j = if i = j then some o else h.get j := by
  split
  · rename_i e; subst e; exact AHeap.get_put_same h i o
  · rename_i e; exact AHeap.get_put_ne h o e
theorem AHeap.get_new (h : AHeap) (j : Nat) (o : AObj) : (h.new o).get j = if h.next = j then some o else h.get j := by
  split
  · rename_i e; subst e; exact AHeap.get_new_same h o
  · rename_i e; exact AHeap.get_new_ne h o e
theorem AHeap.get_kill (h : AHeap) (i j : Nat) : (h.kill i).get j = if i = j then none else h.get j := by
  split
  · rename_i e; subst e; exact AHeap.get_kill_same h i
  · rename_i e; exact AHeap.get_kill_ne h e
abbrev Hp := Nat → Option AObj
inductive Chunk where
  | pt (id : Nat) (o : AObj)
  | ap (tag : Nat) (key : AV) (P : Hp → Prop)
def Chunk.sem : Chunk → Hp → Prop
  | .pt id o, m => m id = some o ∧ ∀ j, j ≠ id → m j = none
  | .ap _ _ P, m => P m
def Cmp (a b : Hp) : Prop := ∀ i, a i = none ∨ b i = none ∨ (a i = b i ∧ ∀ o, a i = some o → o.rw = false)
abbrev cup (a b : Hp) : Hp := fun i => (a i).or (b i)
def semL : List Chunk → Hp → Prop
  | [], m => ∀ i, m i = none
  | c :: cs, m => ∃ a b : Hp, Cmp a b ∧ (∀ i, m i = (a i).or (b i)) ∧ c.sem a ∧ semL cs b
structure St (h : AHeap) (L : List Chunk) : Prop where
  wf : h.wf
  has : ∃ m : Hp, (∀ i o, m i = some o → h.get i = some o) ∧ semL L m
abbrev C1 (a b : Option AObj) : Prop := a = none ∨ b = none ∨ (a = b ∧ ∀ o, a = some o → o.rw = false)
theorem C1.symm {a b : Option AObj} (h : C1 a b) : C1 b a := by
  rcases h with h | h | ⟨h1, h2⟩
  · exact .inr (.inl h)
  · exact .inl h
  · exact .inr (.inr ⟨h1.symm, h1 ▸ h2⟩)
theorem C1.comm {a b : Option AObj} (h : C1 a b) : a.or b = b.or a := by
  rcases h with rfl | rfl | ⟨rfl, _⟩ <;> simp
theorem C1.three {a b c : Option AObj} (h1 : C1 b c) (h2 : C1 a (b.or c)) : C1 a b ∧ C1 a c ∧ C1 b (a.or c) ∧ C1 (a.or b) c ∧ b.or (a.or c) = a.or (b.or c) := by
  cases a with
  | none => exact ⟨.inl rfl, .inl rfl, by simpa using h1, by simpa using h1, by simp⟩
  | some x =>
    cases b with
    | none => exact ⟨.inr (.inl rfl), by simpa using h2, .inl rfl, by simpa using h2, by simp⟩
    | some y =>
      rcases h2 with h2 | h2 | ⟨h2, h3⟩
      · cases h2
      · simp at h2
      · simp only [Option.some_or, Option.some.injEq] at h2
        subst h2
        refine ⟨.inr (.inr ⟨rfl, h3⟩), h1, .inr (.inr ⟨by simp, h3⟩), by simpa using h1, by simp⟩
theorem C1.three' {a b c : Option AObj} (h1 : C1 a b) (h2 : C1 (a.or b) c) : C1 b c ∧ C1 a (b.or c) := by
  cases a with
  | none => exact ⟨by simpa using h2, .inl rfl⟩
  | some x =>
    cases b with
    | none => exact ⟨.inl rfl, by simpa using h2⟩
    | some y =>
      rcases h1 with h1 | h1 | ⟨h1, h3⟩
      · cases h1
      · cases h1
      · simp only [Option.some.injEq] at h1
        subst h1
        refine ⟨by simpa using h2, .inr (.inr ⟨by simp, h3⟩)⟩
theorem semL_swap {c d : Chunk} {L : List Chunk} {m : Hp} (h : semL (c :: d :: L) m) : semL (d :: c :: L) m := by
  obtain ⟨a, b, h1, h2, h3, a', b', h4, h5, h6, h7⟩ := h
  have k (i : Nat) := C1.three (h4 i) (h5 i ▸ h1 i)
  exact ⟨a', cup a b', fun i => (k i).2.2.1, fun i => by rw [h2, h5]; exact (k i).2.2.2.2.symm, h6, a, b', fun i => (k i).2.1, fun _ => rfl, h3, h7⟩
theorem semL_perm {L L' : List Chunk} (p : L.Perm L') : ∀ {m : Hp}, semL L m → semL L' m := by
  induction p with
  | nil => exact fun h => h
  | cons c _ ih => exact fun ⟨a, b, h1, h2, h3, h4⟩ => ⟨a, b, h1, h2, h3, ih h4⟩
  | swap c d l => exact fun h => semL_swap h
  | trans _ _ ih1 ih2 => exact fun h => ih2 (ih1 h)
theorem semL_append {A B : List Chunk} : ∀ {m : Hp}, semL (A ++ B) m ↔ ∃ a b : Hp, Cmp a b ∧ (∀ i, m i = (a i).or (b i)) ∧ semL A a ∧ semL B b := by
  induction A with
  | nil =>
    intro m
    constructor
    · intro h; exact ⟨fun _ => none, m, fun _ => .inl rfl, fun _ => by simp, fun _ => rfl, h⟩
    · rintro ⟨a, b, _, h2, h3, h4⟩
      have : m = b := funext fun i => by rw [h2, h3 i]; simp
      rw [this]; exact h4
  | cons c A ih =>
    intro m
    constructor
    · rintro ⟨a, b, h1, h2, h3, h4⟩
      obtain ⟨a', b', g1, g2, g3, g4⟩ := ih.1 h4
      have k (i : Nat) := C1.three (g1 i) (g2 i ▸ h1 i)
      exact ⟨cup a a', b', fun i => (k i).2.2.2.1, fun i => by rw [h2, g2]; exact (Option.or_assoc ..).symm, ⟨a, a', fun i => (k i).1, fun _ => rfl, h3, g3⟩, g4⟩
    · rintro ⟨a, b, h1, h2, ⟨a1, a2, g1, g2, g3, g4⟩, h4⟩
      have k (i : Nat) := C1.three' (g1 i) (g2 i ▸ h1 i)
      exact ⟨a1, cup a2 b, fun i => (k i).2, fun i => by rw [h2, g2]; exact Option.or_assoc .., g3, ih.2 ⟨a2, b, fun i => (k i).1, fun _ => rfl, g4, h4⟩⟩
def own (P : List Chunk → Prop) : Hp → Prop := fun m => ∃ cs, P cs ∧ semL cs m
abbrev pk (tag : Nat) (key : AV) (P : List Chunk → Prop) : Chunk := .ap tag key (own P)
theorem semL_own {t : Nat} {k : AV} {P : List Chunk → Prop} {L : List Chunk} {m : Hp} : semL (pk t k P :: L) m ↔ ∃ cs, P cs ∧ semL (cs ++ L) m := by
  constructor
  · rintro ⟨a, b, h1, h2, ⟨cs, h3, h4⟩, h5⟩
    exact ⟨cs, h3, semL_append.2 ⟨a, b, h1, h2, h4, h5⟩⟩
  · rintro ⟨cs, h3, h⟩
    obtain ⟨a, b, h1, h2, h4, h5⟩ := semL_append.1 h
    exact ⟨a, b, h1, h2, ⟨cs, h3, h4⟩, h5⟩
inductive Take : List Chunk → Chunk → List Chunk → Prop where
  | here {c : Chunk} {l : List Chunk} : Take (c :: l) c l
  | there {c d : Chunk} {l l' : List Chunk} : Take l c l' → Take (d :: l) c (d :: l')
theorem Take.perm {L R : List Chunk} {c : Chunk} (t : Take L c R) : L.Perm (c :: R) := by
  induction t with
  | here => exact List.Perm.refl _
  | there _ ih => exact (List.Perm.cons _ ih).trans (List.Perm.swap _ _ _)
inductive Pick : List Chunk → List Chunk → List Chunk → Prop where
  | nil {L : List Chunk} : Pick L [] L
  | cons {L L' R : List Chunk} {c : Chunk} {cs : List Chunk} : Take L c L' → Pick L' cs R → Pick L (c :: cs) R
theorem Pick.perm {L Ps R : List Chunk} (p : Pick L Ps R) : L.Perm (Ps ++ R) := by
  induction p with
  | nil => exact List.Perm.refl _
  | cons t _ ih => exact t.perm.trans (List.Perm.cons _ ih)
section
variable {h : AHeap} {L R : List Chunk}
theorem St.perm {L' : List Chunk} (st : St h L) (p : L.Perm L') : St h L' := ⟨st.wf, st.has.elim fun m x => ⟨m, x.1, semL_perm p x.2⟩⟩
theorem St.take {c : Chunk} (st : St h L) (t : Take L c R) : St h (c :: R) := st.perm t.perm
theorem St.pick {Ps : List Chunk} (st : St h L) (t : Pick L Ps R) : St h (Ps ++ R) := st.perm t.perm
theorem St.drop {c : Chunk} (st : St h (c :: L)) : St h L := by
  obtain ⟨m, h1, a, b, h2, h3, _, h5⟩ := st.has
  refine ⟨st.wf, b, fun i o e => h1 i o ?_, h5⟩
  rw [h3, C1.comm (h2 i), e]; rfl
theorem St.unpack {t : Nat} {k : AV} {P : List Chunk → Prop} (st : St h (pk t k P :: L)) : ∃ cs, P cs ∧ St h (cs ++ L) := by
  obtain ⟨m, h1, h2⟩ := st.has
  obtain ⟨cs, h3, h4⟩ := semL_own.1 h2
  exact ⟨cs, h3, st.wf, m, h1, h4⟩
theorem St.pack {t : Nat} {k : AV} {P : List Chunk → Prop} {cs : List Chunk} (st : St h (cs ++ L)) (hp : P cs) : St h (pk t k P :: L) := by
  obtain ⟨m, h1, h2⟩ := st.has
  exact ⟨st.wf, m, h1, semL_own.2 ⟨cs, hp, h2⟩⟩
theorem St.mono {t t' : Nat} {k k' : AV} {P P' : List Chunk → Prop} (st : St h (pk t k P :: L)) (hp : ∀ cs, P cs → P' cs) : St h (pk t' k' P' :: L) := by
  obtain ⟨cs, h1, h2⟩ := st.unpack
  exact h2.pack (hp cs h1)
theorem St.get {id : Nat} {o : AObj} (st : St h (.pt id o :: L)) : h.get id = some o := by
  obtain ⟨m, h1, a, b, h2, h3, ⟨h4, _⟩, _⟩ := st.has
  refine h1 id o ?_
  rw [h3, h4]; simp
theorem St.lt {id : Nat} {o : AObj} (st : St h (.pt id o :: L)) : id < h.next := st.wf _ _ st.get
theorem St.get' {id : Nat} {o : AObj} (st : St h L) (t : Take L (.pt id o) R) : h.get id = some o := (st.take t).get
theorem AHeap.wf_put {h : AHeap} (hw : h.wf) {i : Nat} (o : AObj) (hi : i < h.next) : (h.put i o).wf := by
  intro id x hg
  rw [AHeap.get_put] at hg
  show id < h.next
  split at hg
  · omega
  · exact hw id x hg
theorem AHeap.wf_new {h : AHeap} (hw : h.wf) (o : AObj) : (h.new o).wf := by
  intro id x hg
  rw [AHeap.get_new] at hg
  show id < h.next + 1
  split at hg
  · omega
  · have := hw id x hg; omega
theorem AHeap.wf_kill {h : AHeap} (hw : h.wf) (i : Nat) : (h.kill i).wf := by
  intro id x hg
  rw [AHeap.get_kill] at hg
  show id < h.next
  split at hg
  · cases hg
  · exact hw id x hg
theorem St.new (st : St h L) (o : AObj) : St (h.new o) (.pt h.next o :: L) := by
  obtain ⟨m, h1, h2⟩ := st.has
  refine ⟨AHeap.wf_new st.wf o, fun i => if i = h.next then some o else m i, fun i x e => ?_, fun i => if i = h.next then some o else none, m, fun i => ?_, fun i => ?_, ⟨by simp, fun j hj => by simp [hj]⟩, h2⟩
  · rw [AHeap.get_new]
    simp only at e
    split at e
    · rename_i e1; rw [if_pos e1.symm]; exact e
    · rename_i e1; rw [if_neg (fun e2 => e1 e2.symm)]; exact h1 i x e
  · by_cases e : i = h.next
    · refine .inr (.inl ?_)
      cases hm : m i with
      | none => rfl
      | some x => have := st.wf _ _ (h1 i x hm); omega
    · exact .inl (by simp [e])
  · by_cases e : i = h.next <;> simp [e]
theorem St.put {id : Nat} {o : AObj} (st : St h (.pt id o :: L)) (o' : AObj) (hrw : o.rw = true := by rfl) : St (h.put id o') (.pt id o' :: L) := by
  have hlt := st.lt
  obtain ⟨m, h1, a, b, h2, h3, ⟨h4, h5⟩, h6⟩ := st.has
  have hb : b id = none := by
    rcases h2 id with g | g | ⟨_, g⟩
    · rw [g] at h4; cases h4
    · exact g
    · rw [g o h4] at hrw; cases hrw
  refine ⟨AHeap.wf_put st.wf o' hlt, fun i => if i = id then some o' else b i, fun i x e => ?_, fun i => if i = id then some o' else none, b, fun i => ?_, fun i => ?_, ⟨by simp, fun j hj => by simp [hj]⟩, h6⟩
  · rw [AHeap.get_put]
    simp only at e
    split at e
    · rename_i e1; rw [if_pos e1.symm]; exact e
    · rename_i e1
      rw [if_neg (fun e2 => e1 e2.symm)]
      refine h1 i x ?_
      rw [h3, h5 i e1]; simpa using e
  · by_cases e : i = id
    · subst e; exact .inr (.inl hb)
    · exact .inl (by simp [e])
  · by_cases e : i = id <;> simp [e]
theorem St.kill {id : Nat} {o : AObj} (st : St h (.pt id o :: L)) (hrw : o.rw = true := by rfl) : St (h.kill id) L := by
  obtain ⟨m, h1, a, b, h2, h3, ⟨h4, h5⟩, h6⟩ := st.has
  have hb : b id = none := by
    rcases h2 id with g | g | ⟨_, g⟩
    · rw [g] at h4; cases h4
    · exact g
    · rw [g o h4] at hrw; cases hrw
  refine ⟨AHeap.wf_kill st.wf id, b, fun i x e => ?_, h6⟩
  rw [AHeap.get_kill]
  by_cases e1 : id = i
  · subst e1; rw [hb] at e; cases e
  · rw [if_neg e1]
    refine h1 i x ?_
    rw [h3, h5 i (fun e2 => e1 e2.symm)]; simpa using e
end
theorem St.nil {h : AHeap} (hw : h.wf) : St h [] := ⟨hw, fun _ => none, fun _ _ e => (by cases e), fun _ => rfl⟩
def Spec (C : SemW) (f : Fn) (args : List AV) (Ps : List Chunk) (post : AV → List Chunk → Prop) : Prop :=
  ∀ h F, St h (Ps ++ F) → C f args h fun v h' => ∃ Rs, post v Rs ∧ St h' (Rs ++ F)
theorem Spec.mono {C : SemW} (hM : MonoW C) {f : Fn} {args : List AV} {Ps : List Chunk} {post post' : AV → List Chunk → Prop} (s : Spec C f args Ps post) (hp : ∀ v Rs, post v Rs → post' v Rs) : Spec C f args Ps post' :=
  fun h F st => hM _ _ _ _ _ (fun _ _ ⟨Rs, h1, h2⟩ => ⟨Rs, hp _ _ h1, h2⟩) (s h F st)
theorem Spec.frame {C : SemW} (hM : MonoW C) {f : Fn} {args : List AV} {Ps : List Chunk} {post : AV → List Chunk → Prop} (s : Spec C f args Ps post) (G : List Chunk) : Spec C f args (Ps ++ G) fun v Rs => ∃ Rs', post v Rs' ∧ Rs = Rs' ++ G :=
  fun h F st => hM _ _ _ _ _ (fun _ _ ⟨Rs, h1, h2⟩ => ⟨Rs ++ G, ⟨Rs, h1, rfl⟩, by rw [List.append_assoc]; exact h2⟩) (s h (G ++ F) (by rw [← List.append_assoc]; exact st))
end Go.Proofs.YtlkfclgkinaibaaGreat

namespace Go.Proofs.YtlkfclgkinaibaaGreat
abbrev T (t : Nat) : Opd := .tmp t
abbrev N (n : Int) : Opd := .lit (.int .i64 n)
abbrev F (f : Nat) : Opd := .lit (.func f [] [])
abbrev I (d : Nat) (o : AOp) (l : List Opd) : AIn := ⟨some d, o, l, none⟩
abbrev J (o : AOp) (l : List Opd) : AIn := ⟨none, o, l, none⟩
abbrev IG (d : Nat) (o : AOp) (l : List Opd) (s : Nat) (b : Bool) : AIn := ⟨some d, o, l, some (s, b)⟩
abbrev Env := List (Nat × AV)
def look : Env → Nat → Option AV
  | [], _ => none
  | (k, v) :: s, n => match Nat.beq k n with
    | true => some v
    | false => look s n
def Cov (s : Env) (e : List AV) : Prop := ∀ t v, look s t = some v → e[t]? = some v ∧ v.notJunk = some v
def evalS (s : Env) : Opd → Option AV
  | .tmp t => look s t
  | .lit v => some v
def evalLS (s : Env) : List Opd → Option (List AV)
  | [] => some []
  | x :: xs => match evalS s x, evalLS s xs with
    | some v, some vs => some (v :: vs)
    | _, _ => none
def wantS (s : Env) (g : Option (Nat × Bool)) : Option Bool :=
  match g with
  | none => some true
  | some (slot, want) => match look s slot with
    | some (.bool b) => some (b == want)
    | some (.tuple _) => some false
    | _ => none
theorem look_cons {k n : Nat} {v : AV} {s : Env} : look ((k, v) :: s) n = if k = n then some v else look s n := by
  simp only [look]
  cases h : Nat.beq k n with
  | true => rw [if_pos (Nat.eq_of_beq_eq_true h)]
  | false => rw [if_neg (Nat.ne_of_beq_eq_false h)]
theorem Cov.eval {s : Env} {e : List AV} (h : Cov s e) {o : Opd} {v : AV} (hv : evalS s o = some v) : o.eval e = some v := by
  cases o with
  | tmp t => obtain ⟨h1, h2⟩ := h t v hv; simp only [Opd.eval, h1, Option.bind_some, h2]
  | lit x => exact hv
theorem Cov.evalL {s : Env} {e : List AV} (h : Cov s e) : ∀ {os : List Opd} {vs : List AV}, evalLS s os = some vs → evalL e os = some vs
  | [], vs, hv => hv
  | o :: os, vs, hv => by
    simp only [evalLS] at hv
    split at hv
    · rename_i v vs' h1 h2
      cases hv
      simp only [Go.Proofs.YtlkfclgkinaibaaGreat.evalL, h.eval h1, Cov.evalL h h2]
    · cases hv
theorem Cov.want {s : Env} {e : List AV} (h : Cov s e) {g : Option (Nat × Bool)} {b : Bool} (hv : wantS s g = some b) : wantedA e g = some b := by
  unfold wantS at hv
  unfold wantedA
  split at hv
  · exact hv
  · split at hv
    · rename_i b' hl; simp only [(h _ _ hl).1]; exact hv
    · rename_i hl; simp only [(h _ _ hl).1]; exact hv
    · cases hv
theorem Cov.set {s : Env} {e : List AV} (h : Cov s e) {d : Nat} {v : AV} (hd : d < e.length) (hj : v.notJunk = some v) : Cov ((d, v) :: s) (e.set d v) := by
  intro t x hx
  rw [look_cons] at hx
  rw [List.getElem?_set]
  split at hx
  · rename_i e1; subst e1; cases hx
    rw [if_pos rfl, if_pos hd]
    exact ⟨rfl, hj⟩
  · rename_i e1
    rw [if_neg e1]
    exact h t x hx
def Sub : Env → Env → Prop
  | [], _ => True
  | (t, v) :: s', s => look s t = some v ∧ Sub s' s
theorem Sub.look : ∀ {s' s : Env}, Sub s' s → ∀ t v, look s' t = some v → look s t = some v
  | [], _, _, t, v, h => by cases h
  | (k, x) :: s', s, hs, t, v, h => by
    rw [look_cons] at h
    split at h
    · rename_i e; subst e; cases h; exact hs.1
    · exact Sub.look hs.2 t v h
theorem Cov.sub {s s' : Env} {e : List AV} (h : Cov s e) (hs : Sub s' s) : Cov s' e := fun t v hl => h t v (hs.look t v hl)
theorem blt_of {a b : Nat} (h : Nat.blt a b = true) : a < b := by rwa [Nat.blt_eq] at h
def isCall : AOp → Bool
  | .callv => true
  | .next => true
  | _ => false
structure Does (op : AOp) (vs : List AV) (h : AHeap) (v : AV) (h1 : AHeap) : Prop where
  nc : isCall op = false
  run : aop op vs h = some (v, h1)
theorem Does.do {C : SemW} {op : AOp} {vs : List AV} {h h1 : AHeap} {v : AV} (d : Does op vs h v h1) {Q : AV → AHeap → Prop} (q : Q v h1) : doOpW C op vs h Q := by
  obtain ⟨n, r⟩ := d
  unfold doOpW
  split
  · cases n
  · cases n
  · rw [r]; exact q
section
variable {C : SemW} {ro : Option Nat} {N : Nat}
structure WI (C : SemW) (is : List AIn) (N : Nat) (s : Env) (h : AHeap) (Q : Env → AHeap → Prop) : Prop where
  run : ∀ e, e.length = N → Cov s e → runInsW C is e h fun e' h' => ∃ s', e'.length = N ∧ Cov s' e' ∧ Q s' h'
structure WD (C : SemW) (ds : List DI) (N : Nat) (s : Env) (h : AHeap) (Q : Env → AHeap → Prop) : Prop where
  run : ∀ e, e.length = N → Cov s e → runDrawW C ds e h fun e' h' => ∃ s', e'.length = N ∧ Cov s' e' ∧ Q s' h'
structure WC (C : SemW) (ro : Option Nat) (c : ACode) (N : Nat) (s : Env) (h : AHeap) (Q : AExit → Env → AHeap → Prop) : Prop where
  run : ∀ e, e.length = N → Cov s e → execW C ro c e h fun x e' h' => ∃ s', e'.length = N ∧ Cov s' e' ∧ Q x s' h'
theorem runIn_eff {d : Option Nat} {op : AOp} {os : List Opd} {g : Option (Nat × Bool)} {s : Env} {e : List AV} {h : AHeap} {vs : List AV} {K : List AV → AHeap → Prop} (hc : Cov s e) (hw : wantS s g = some true) (ha : evalLS s os = some vs) (ho : doOpW C op vs h fun v h' => K (setDst e d v) h') :
    runInW C ⟨d, op, os, g⟩ e h K := by
  simp only [runInW, hc.want hw, hc.evalL ha]
  exact ho
def Again (s : Env) (h : AHeap) : List (Nat × AIn) → Prop
  | [] => True
  | (_, ⟨d, op, os, g⟩) :: rs => (wantS s g = some false ∨ (wantS s g = some true ∧ ∃ vs v h', evalLS s os = some vs ∧ aop op vs h = some (v, h') ∧ (∀ t, d = some t → look s t = some v) ∧ AV.same v v = true)) ∧ Again s h rs
theorem again_ok {s : Env} {e : List AV} {h : AHeap} (hc : Cov s e) : ∀ {rs : List (Nat × AIn)}, Again s h rs → rs.all (fun r => again r.2 e h) = true
  | [], _ => rfl
  | (j, ⟨d, op, os, g⟩) :: rs, hr => by
    obtain ⟨h1, h2⟩ := hr
    rw [List.all_cons, again_ok hc h2, Bool.and_true]
    rcases h1 with h1 | ⟨h1, vs, v, h', h3, h4, h5, h6⟩
    · simp only [again, hc.want h1]
    · simp only [again, hc.want h1, hc.evalL h3, h4]
      cases d with
      | none => rfl
      | some t => simp only [(hc t v (h5 t rfl)).1, h6]
structure Eff (C : SemW) (op : AOp) (vs : List AV) (h : AHeap) (K : AV → AHeap → Prop) : Prop where
  run : doOpW C op vs h K
theorem e_call {f : Nat} {first captured rest args : List AV} {Ps L R : List Chunk} {post : AV → List Chunk → Prop} {h : AHeap} (hM : MonoW C) (hs : Spec C (.f f) args Ps post) (ha : first ++ rest ++ captured = args) (st : St h L) (hp : Pick L Ps R) :
    Eff C .callv (.func f first captured :: rest) h fun v h' => ∃ Rs, post v Rs ∧ St h' (Rs ++ R) := .mk (by
  subst ha
  exact hM _ _ _ _ _ (fun _ _ x => x) (hs h R (st.pick hp)))
section heap
variable {h : AHeap} {L R : List Chunk}
theorem d_load1 {id off e es : Nat} {soft ro : Bool} {d : Dat} {v : AV} (hg : h.get id = some (.row e es soft ro d)) (hd : d.get off = some v) : Does .load1 [.ptr id off] h v h :=
  ⟨rfl, by simp only [aop, hg, hd, Option.map_some]⟩
theorem d_loadn {id off e es n : Nat} {soft ro : Bool} {d : Dat} {v : AV} (hg : h.get id = some (.row e es soft ro d)) (hd : d.sub off n = some v) : Does (.loadn n) [.ptr id off] h v h :=
  ⟨rfl, by simp only [aop, hg, hd, Option.map_some]⟩
theorem e_store {id off e es n : Nat} {soft : Bool} {d d' : Dat} {v : AV} (st : St h L) (t : Take L (.pt id (.row e es soft false d)) R) (hn : v.dat.len = n) (h0 : Nat.blt 0 n = true) (hd : d.put off v.dat = some d') :
    Eff C (.store n) [.ptr id off, v] h fun x h' => x = .tuple [] ∧ St h' (.pt id (.row e es soft false d') :: R) := .mk (by
  have hlt := blt_of h0
  refine Does.do (v := .tuple []) (h1 := h.put id (.row e es soft false d')) ⟨rfl, ?_⟩ ⟨rfl, (st.take t).put _⟩
  simp only [aop, st.get' t]
  rw [if_pos ⟨hn, hlt⟩, hd]
  rfl)
theorem e_alloc {e es : Nat} {z : Dat} (st : St h L) (hz : z.len = es) (h0 : Nat.blt 0 es = true) :
    Eff C (.alloc e es z) [] h fun x h' => ∃ id, x = .ptr id 0 ∧ St h' (.pt id (.row e es false false z) :: L) := .mk (by
  refine Does.do (v := .ptr h.next 0) (h1 := h.new (.row e es false false z)) ⟨rfl, ?_⟩ ⟨h.next, rfl, st.new _⟩
  simp only [aop, newRow']
  rw [if_pos hz, if_pos (blt_of h0)]
  rfl)
theorem e_box {e es : Nat} {v : AV} (st : St h L) (hz : v.dat.len = es) (h0 : Nat.blt 0 es = true) :
    Eff C (.box e es) [v] h fun x h' => ∃ id, x = .ptr id 0 ∧ St h' (.pt id (.row e es false false v.dat) :: L) := .mk (by
  refine Does.do (v := .ptr h.next 0) (h1 := h.new (.row e es false false v.dat)) ⟨rfl, ?_⟩ ⟨h.next, rfl, st.new _⟩
  have hlt := blt_of h0
  simp only [aop, newRow']
  rw [if_pos ⟨hz, hlt⟩, if_pos hlt]
  rfl)
theorem e_bslice {e es len : Nat} {z d : Dat} {parts : List Nat} {args : List AV} (st : St h L) (hf : fills (parts.map fun i => (i * es, es)) args (z.rep len) = some d) (hl : d.len = len * es) (h0 : Nat.blt 0 es = true) :
    Eff C (.bslice e es len z parts) args h fun x h' => ∃ id, x = .sl id 0 len len ∧ St h' (.pt id (.row e es false false d) :: L) := .mk (by
  refine Does.do (v := .sl h.next 0 len len) (h1 := h.new (.row e es false false d)) ⟨rfl, ?_⟩ ⟨h.next, rfl, st.new _⟩
  simp only [aop, newRow', hf, Option.bind_some]
  rw [if_pos hl, if_pos (blt_of h0)]
  rfl)
end heap
theorem d_t {p : Prop} [Decidable p] (h : p) : decide p = true := decide_eq_true h
theorem d_f {p : Prop} [Decidable p] (h : ¬ p) : decide p = false := decide_eq_false h
theorem nd_t {p : Prop} [Decidable p] (h : ¬ p) : (!decide p) = true := by rw [decide_eq_false h]; rfl
theorem nd_f {p : Prop} [Decidable p] (h : p) : (!decide p) = false := by rw [decide_eq_true h]; rfl
theorem q_t {a b : Int} (h : a = b) : (a == b) = true := by simp [h]
theorem q_f {a b : Int} (h : a ≠ b) : (a == b) = false := by simp [h]
theorem nq_t {a b : Int} (h : a ≠ b) : (a != b) = true := by simp [h]
theorem nq_f {a b : Int} (h : a = b) : (a != b) = false := by simp [h]
section codes
variable {s : Env} {h : AHeap} {Q : AExit → Env → AHeap → Prop}
variable (hM : MonoW C)
include hM
theorem WC.mono {Q' : AExit → Env → AHeap → Prop} {c : ACode} (k : WC C ro c N s h Q) (hq : ∀ x s h, Q x s h → Q' x s h) : WC C ro c N s h Q' := .mk fun e hl hc =>
  execW_mono (fun _ _ _ _ x => x) hM (fun _ _ _ ⟨s', p1, p2, p3⟩ => ⟨s', p1, p2, hq _ _ _ p3⟩) (k.run e hl hc)
omit hM in
theorem WC.sub {s' : Env} {c : ACode} (hs : Sub s' s) (k : WC C ro c N s' h Q) : WC C ro c N s h Q := .mk fun e hl hc => k.run e hl (hc.sub hs)
end codes
def resS (s : Env) (h : AHeap) : List ARes → Option (List AV)
  | [] => some []
  | .tmp t :: rs => match look s t, resS s h rs with
    | some v, some vs => some (v :: vs)
    | _, _ => none
  | .cell t o :: rs => match look s t with
    | some a => match aop o [a] h, resS s h rs with
      | some (v, _), some vs => some (v :: vs)
      | _, _ => none
    | none => none
theorem Cov.res {s : Env} {h : AHeap} {e : List AV} (hc : Cov s e) : ∀ {rs : List ARes} {vs : List AV}, resS s h rs = some vs → resA e h rs = some vs
  | [], vs, hv => hv
  | .tmp t :: rs, vs, hv => by
    simp only [resS] at hv
    split at hv
    · rename_i v vs' h1 h2
      cases hv
      simp only [resA, hc.eval (o := .tmp t) h1, Cov.res hc h2]
    · cases hv
  | .cell t o :: rs, vs, hv => by
    simp only [resS] at hv
    split at hv
    · rename_i a h1
      split at hv
      · rename_i v h0 vs' h2 h3
        cases hv
        simp only [resA, hc.eval (o := .tmp t) h1, h2, Cov.res hc h3]
      · cases hv
    · cases hv
def argS : Nat → List AV → Env
  | _, [] => []
  | i, a :: l => (i, a) :: argS (i + 1) l
def fnQ (rs : List ARes) (G : AV → AHeap → Prop) : AExit → Env → AHeap → Prop
  | .normal => fun s h => ∃ vs, resS s h rs = some vs ∧ G (retA vs) h
  | .exit _ => fun _ _ => False
  | .ret => fun s h => ∃ vs, resS s h rs = some vs ∧ G (retA vs) h
def NoJunk : List AV → Prop
  | [] => True
  | a :: l => a.notJunk = some a ∧ NoJunk l
theorem argS_look : ∀ (l : List AV) (i t : Nat) (v : AV), NoJunk l → look (argS i l) t = some v → i ≤ t ∧ l[t - i]? = some v ∧ v.notJunk = some v
  | [], i, t, v, _, h => by cases h
  | a :: l, i, t, v, hj, h => by
    simp only [argS] at h
    rw [look_cons] at h
    split at h
    · rename_i e; subst e; cases h
      exact ⟨Nat.le_refl _, by simp, hj.1⟩
    · obtain ⟨h1, h2, h3⟩ := argS_look l (i + 1) t v hj.2 h
      refine ⟨by omega, ?_, h3⟩
      rw [show t - i = (t - (i + 1)) + 1 by omega, List.getElem?_cons_succ]
      exact h2
theorem call_walk {f : AFn} {l : List AV} {h : AHeap} {G : AV → AHeap → Prop} (hM : MonoW C) (hj : NoJunk l) (hl : Nat.ble l.length f.ntmps = true) (k : WC C none f.body f.ntmps (argS 0 l) h (fnQ f.res G)) : callW C f l h G := by
  have hle := Nat.le_of_ble_eq_true hl
  refine execW_mono (fun _ _ _ _ x => x) hM (fun x e' h' q => ?_) (k.run (l ++ List.replicate (f.ntmps - l.length) .junk) (by simp; omega) (fun t v ht => by
    obtain ⟨_, h2, h3⟩ := argS_look l 0 t v hj ht
    rw [Nat.sub_zero] at h2
    exact ⟨by rw [List.getElem?_append_left (List.getElem?_eq_some_iff.1 h2).1]; exact h2, h3⟩))
  obtain ⟨s', p1, p2, p3⟩ := q
  cases x with
  | normal =>
    obtain ⟨vs, h1, h2⟩ := p3
    simp only [p2.res h1]
    exact h2
  | exit i => exact p3.elim
  | ret =>
    obtain ⟨vs, h1, h2⟩ := p3
    simp only [p2.res h1]
    exact h2
end
end Go.Proofs.YtlkfclgkinaibaaGreat
