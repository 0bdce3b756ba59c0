/- The abstract machine's runs, told by what holds behind them; the code of the model, translated. -/
import Derived.Test.YtjdemlagmamlbaaM14
namespace Go.Proofs.Ytjdemlagmamlbaa

def Opd.eval (e : List AV) : Opd → Option AV
  | .tmp t => (e[t]?).bind AV.notJunk
  | .lit v => some v

def evalL (e : List AV) : List Opd → Option (List AV)
  | [] => some []
  | x :: xs => match x.eval e, evalL e xs with
    | some v, some vs => some (v :: vs)
    | _, _ => none

def setDst (e : List AV) (d : Option Nat) (v : AV) : List AV :=
  match d with
  | some i => e.set i v
  | none => e

def wantedA (e : List AV) (g : Option (Nat × Bool)) : Option Bool :=
  match g with
  | none => some true
  | some (slot, want) => match e[slot]? with
    | some (.bool b) => some (b == want)
    | some (.tuple _) => some false
    | _ => none

/-- what is called: a function, or the round of a loop -/
inductive Fn where
  | f (n : Nat)
  | y (l : Nat)

/-- what calls do: by what holds behind them -/
abbrev SemW := Fn → List AV → AHeap → (AV → AHeap → Prop) → Prop

def doOpW (C : SemW) (o : AOp) (args : List AV) (h : AHeap) (Q : AV → AHeap → Prop) : Prop :=
  match o with
  | .callv => match args with
    | .func f first captured :: rest => C (.f f) (first ++ rest ++ captured) h Q
    | .yield l :: rest => C (.y l) rest h Q
    | _ => False
  | .next => nextW args h Q
  | o => match aop o args h with
    | some (v, h') => Q v h'
    | none => False

def runInW (C : SemW) (i : AIn) (e : List AV) (h : AHeap) (Q : List AV → AHeap → Prop) : Prop :=
  match wantedA e i.guard with
  | some true => match evalL e i.args with
    | some args => doOpW C i.op args h fun v h' => Q (setDst e i.dst v) h'
    | none => False
  | some false => Q (setDst e i.dst (.tuple [])) h
  | none => False

def runInsW (C : SemW) : List AIn → List AV → AHeap → (List AV → AHeap → Prop) → Prop
  | [], e, h, Q => Q e h
  | i :: is, e, h, Q => runInW C i e h fun e' h' => runInsW C is e' h' Q

mutual
/-- are two values the same? -/
def AV.same : AV → AV → Bool
  | .bool a, .bool b => a == b
  | .int k a, .int k' b => decide (k = k') && a == b
  | .ptr a b, .ptr c d => a == c && b == d
  | .nilptr, .nilptr => true
  | .sl a b c d, .sl a' b' c' d' => a == a' && b == b' && c == c' && d == d'
  | .ssl a b c d, .ssl a' b' c' d' => a == a' && b == b' && c == c' && d == d'
  | .nilsl, .nilsl => true
  | .esl, .esl => true
  | .map a, .map b => a == b
  | .nilmap, .nilmap => true
  | .func f a b, .func f' a' b' => f == f' && AV.sameL a a' && AV.sameL b b'
  | .nilfunc, .nilfunc => true
  | .yield a, .yield b => a == b
  | .agg a, .agg b => AV.sameL a b
  | .bytes l n, .bytes l' n' => l == l' && n == n'
  | .tuple a, .tuple b => AV.sameL a b
  | _, _ => false
def AV.sameL : List AV → List AV → Bool
  | [], [] => true
  | a :: as, b :: bs => AV.same a b && AV.sameL as bs
  | _, _ => false
end

mutual
theorem AV.same_eq : ∀ (a b : AV), AV.same a b = true → a = b := by
  intro a b h
  cases a <;> cases b <;> simp only [AV.same, Bool.and_eq_true, beq_iff_eq, decide_eq_true_eq, Bool.false_eq_true] at h <;> first
    | rfl
    | (subst h; rfl)
    | (obtain ⟨rfl, rfl⟩ := h; rfl)
    | (obtain ⟨⟨⟨rfl, rfl⟩, rfl⟩, rfl⟩ := h; rfl)
    | (obtain ⟨⟨rfl, h1⟩, h2⟩ := h; rw [AV.sameL_eq _ _ h1, AV.sameL_eq _ _ h2])
    | (rw [AV.sameL_eq _ _ h])
theorem AV.sameL_eq : ∀ (a b : List AV), AV.sameL a b = true → a = b := by
  intro a b h
  cases a with
  | nil => cases b with
    | nil => rfl
    | cons => simp [AV.sameL] at h
  | cons x xs => cases b with
    | nil => simp [AV.sameL] at h
    | cons y ys =>
      simp only [AV.sameL, Bool.and_eq_true] at h
      rw [AV.same_eq _ _ h.1, AV.sameL_eq _ _ h.2]
end

def cls : AOp → Nat
  | .mv => 0
  | .pick => 0
  | .nilCheck => 0
  | .bin _ => 0
  | .eqv _ _ => 0
  | .un _ => 0
  | .conv _ => 0
  | .sl2arr _ => 0
  | .mkfunc _ _ => 0
  | .slice _ _ _ _ => 0
  | .slicea _ _ _ _ _ => 0
  | .fieldAddr _ => 0
  | .field _ _ _ => 0
  | .indexa _ _ => 0
  | .indexs _ => 0
  | .indexv _ _ _ => 0
  | .extract _ => 0
  | .lens => 0
  | .lenc _ => 0
  | .cap => 0
  | .min => 0
  | .max => 0
  | .build _ _ => 0
  | .load1 => 1
  | .loadn _ => 1
  | .lookup _ _ _ => 1
  | .tostr => 1
  | .lenm => 1
  | .entry => 1
  | _ => 2

/-- an instruction that only looks, once more: does it tell the same? -/
def again (r : AIn) (e : List AV) (h : AHeap) : Bool :=
  match wantedA e r.guard with
  | some false => true
  | some true => match evalL e r.args with
    | some args => match aop r.op args h with
      | some (v, _) => match r.dst with
        | some d => match e[d]? with
          | some x => AV.same v x
          | none => true
        | none => true
      | none => false
    | none => false
  | none => false

def runDrawW (C : SemW) : List DI → List AV → AHeap → (List AV → AHeap → Prop) → Prop
  | [], e, h, Q => Q e h
  | d :: ds, e, h, Q => runInW C d.i e h fun e' h' => d.rs.all (fun r => again r.2 e' h') = true ∧ runDrawW C ds e' h' Q

/-- what holds behind a piece of code, by how it ends -/
abbrev OutW := (AExit → List AV → AHeap → Prop) → Prop

def iterW (body : List AV → AHeap → OutW) : Nat → List AV → AHeap → OutW
  | 0, _, _, _ => False
  | n + 1, e, h, Q => body e h fun x e' h' => match x with
    | .normal => iterW body n e' h' Q
    | .exit id => Q (.exit id) e' h'
    | .ret => Q .ret e' h'

def rounds : Nat := 1099511627776

def isLoop (h : AHeap) (l : Nat) : Prop := ∃ st j t p a b, h.get l = some (.loop st j t p a b)

/-- behind a loop over a function -/
def endW (l : Nat) (e : List AV) (h : AHeap) (Q : AExit → List AV → AHeap → Prop) : Prop :=
  match h.get l with
  | some (.loop st j _ _ _ _) => st ≠ .busy ∧ Q (j.getD .normal) e (h.kill l)
  | _ => False

def execW (C : SemW) (ro : Option Nat) : ACode → List AV → AHeap → OutW
  | .skip, e, h, Q => Q .normal e h
  | .region ops, e, h, Q => runInsW C ops e h (Q .normal)
  | .seq a b, e, h, Q => execW C ro a e h fun x e' h' => match x with
    | .normal => execW C ro b e' h' Q
    | .exit id => Q (.exit id) e' h'
    | .ret => Q .ret e' h'
  | .cond c a b, e, h, Q => match c.eval e with
    | some (.bool true) => execW C ro a e h Q
    | some (.bool false) => execW C ro b e h Q
    | _ => False
  | .block id b, e, h, Q => execW C ro b e h fun x e' h' => match x with
    | .normal => Q .normal e' h'
    | .exit i => if i = id then Q .normal e' h' else Q (.exit i) e' h'
    | .ret => Q .ret e' h'
  | .loop b, e, h, Q => iterW (execW C ro b) rounds e h Q
  | .exit id, e, h, Q => Q (.exit id) e h
  | .ret, e, h, Q => Q .ret e h
  | .draw alts, e, h, Q => ∀ ds, ds ∈ alts → runDrawW C ds e h (Q .normal)
  | .rfun f ps asg body, e, h, Q => match f.eval e with
    | some (.func g first captured) => (∀ l, ro = some l → isLoop h l) ∧ C (.f g) (first ++ [.yield h.next] ++ captured) (h.new (.loop .ready none e ps asg body)) fun _ h' => endW h.next e h' Q
    | _ => False
  | .bad, _, _, _ => False

inductive ARes where
  | tmp (t : Nat)
  | cell (t : Nat) (o : AOp)

structure AFn where
  ntmps : Nat
  res : List ARes
  body : ACode

def resA (e : List AV) (h : AHeap) : List ARes → Option (List AV)
  | [] => some []
  | .tmp t :: rs => match (Opd.tmp t).eval e, resA e h rs with
    | some v, some vs => some (v :: vs)
    | _, _ => none
  | .cell t o :: rs => match (Opd.tmp t).eval e with
    | some a => match aop o [a] h, resA e h rs with
      | some (v, _), some vs => some (v :: vs)
      | _, _ => none
    | none => none

def retA : List AV → AV
  | [v] => v
  | vs => .tuple vs

def callW (C : SemW) (f : AFn) (args : List AV) (h : AHeap) (Q : AV → AHeap → Prop) : Prop :=
  execW C none f.body (args ++ List.replicate (f.ntmps - args.length) .junk) h fun x e h' => match x with
    | .exit _ => False
    | _ => match resA e h' f.res with
      | some vs => Q (retA vs) h'
      | none => False

def setAll : List AV → List Nat → List AV → List AV
  | e, [], _ => e
  | e, _, [] => e
  | e, p :: ps, v :: vs => setAll (e.set p v) ps vs

/-- the end of a round -/
def roundEnd (l : Nat) (x : AExit) (h : AHeap) (Q : AV → AHeap → Prop) : Prop :=
  match h.get l with
  | some (.loop _ _ t p a b) => match x with
    | .normal => Q (.bool true) (h.put l (.loop .ready none t p a b))
    | x => Q (.bool false) (h.put l (.loop .done (some x) t p a b))
  | _ => False

/-- a round of a loop -/
def roundW (C : SemW) (l : Nat) (args : List AV) (h : AHeap) (Q : AV → AHeap → Prop) : Prop :=
  match h.get l with
  | some (.loop _ _ tmps ps asg body) => args.length = ps.length ∧
    execW C (some l) asg (setAll tmps ps args) h fun x e1 h1 => x = .normal ∧ match h1.get l with
      | some (.loop .ready j t p a b) => execW C (some l) body e1 (h1.put l (.loop .busy j t p a b)) fun x _ h2 => roundEnd l x h2 Q
      | _ => False
  | _ => False

/-- THE CODE OF THE MODEL, TRANSLATED. -/
def trOpd : Operand → Option Opd
  | .tmp t => some (.tmp t)
  | .const v => (reif v).map .lit
  | .func f => some (.lit (.func f [] []))
  | .global _ => none

def trOpds : List Operand → Option (List Opd)
  | [] => some []
  | x :: xs => match trOpd x, trOpds xs with
    | some a, some as => some (a :: as)
    | _, _ => none

def trIn (P : Program) (ops : Array Oper) (o : Oper) : Option AIn :=
  match trOpds o.op.operands.toList with
  | some args => match o.guard with
    | none => some ⟨o.dst, trOp P o.op, args, none⟩
    | some (j, want) => match (ops[j]?).bind (·.dst) with
      | some d => some ⟨o.dst, trOp P o.op, args, some (d, want)⟩
      | none => none
  | none => none

def trIns (P : Program) (ops : Array Oper) : List Oper → Option (List AIn)
  | [] => some []
  | o :: os => match trIn P ops o, trIns P ops os with
    | some i, some is => some (i :: is)
    | _, _ => none

def mkRs (I : List AIn) : List Nat → Option (List (Nat × AIn))
  | [] => some []
  | j :: js => match I[j]?, mkRs I js with
    | some i, some rs => some ((j, i) :: rs)
    | _, _ => none

def mkDraw (I : List AIn) : List (Nat × List Nat × Bool) → Option (List DI)
  | [] => some []
  | (j, rs, fin) :: l => match I[j]?, mkRs I rs, mkDraw I l with
    | some i, some rs', some ds => some (⟨j, i, rs', fin⟩ :: ds)
    | _, _, _ => none

def mkAlts (I : List AIn) : List (List (Nat × List Nat × Bool)) → Option (List (List DI))
  | [] => some []
  | l :: ls => match mkDraw I l, mkAlts I ls with
    | some d, some ds => some (d :: ds)
    | _, _ => none

/-- the operations that an operation waits for, in whatever order -/
def hard (o : Oper) : List Nat := (o.after.toList.filter (Region.binds .any)).map (·.on)

def preOk (pre : List (List Nat)) : List Oper → Nat → Bool
  | [], _ => true
  | o :: os, i => (hard o).all (fun d => decide (d < i)) && ((pre[i]?).getD []).all (fun j => (hard o).any (fun d => d == j || ((pre[d]?).getD []).contains j)) && preOk pre os (i + 1)

def Opd.slot : Opd → List Nat
  | .tmp t => [t]
  | .lit _ => []

def AIn.reads (i : AIn) : List Nat := i.args.flatMap Opd.slot ++ (match i.guard with | some (s, _) => [s] | none => [])

def AIn.dsts (i : AIn) : List Nat := i.dst.toList

/-- does it make or write something? -/
def DI.eff (d : DI) : Bool := cls d.i.op == 2

/-- is it carried out by the machine just when it is by the model? -/
def DI.bar (d : DI) : Bool := d.eff || d.fin

def okGo (pre : List (List Nat)) : List DI → List DI → Bool
  | _, [] => true
  | done, d :: b =>
    let p := (pre[d.j]?).getD []
    ((d.i.reads ++ d.i.dsts).all fun t => b.all fun x => !x.i.dsts.contains t || x.fin) && (d.i.reads.all fun t => !d.i.dsts.contains t) &&
    (d.i.reads.all fun t => done.all fun x => !x.i.dsts.contains t || p.contains x.j) &&
    (done.all fun x => !x.fin || p.contains x.j) && (d.eff || match done.find? DI.eff with | some x => p.contains x.j | none => true) && (!d.fin || done.all fun x => p.contains x.j) &&
    (!d.eff || done.all fun x => cls x.i.op != 1 || p.contains x.j || d.rs.any (fun r => r.1 == x.j)) &&
    (d.rs.all fun r => done.any fun x => x.j == r.1) && (d.rs.all fun r => cls r.2.op != 2) &&
    (done.all fun x => x.j != d.j) && okGo pre (d :: done) b

/-- the orders that what makes or writes something may have -/
def exts (pre : List (List Nat)) : Nat → List Nat → List (List Nat)
  | 0, _ => [[]]
  | n + 1, rem => if rem.isEmpty then [[]] else
    rem.flatMap fun x => if rem.any (fun y => ((pre[x]?).getD []).contains y) then [] else (exts pre n (rem.erase x)).map (x :: ·)

def effs (is : List AIn) : List Nat := (List.range is.length).filter fun j => match is[j]? with | some i => cls i.op == 2 | none => false

def okDraw (ops : Array Oper) (is : List AIn) (pre : List (List Nat)) (alts : List (List DI)) : Bool :=
  preOk pre ops.toList 0 && (alts.all fun l => okGo pre [] l && (List.range ops.size).all (fun j => l.any fun d => d.j == j)) &&
  (exts pre (effs is).length (effs is)).all fun s => alts.any fun l => (l.filter DI.eff).map DI.j == s

/-- of each operation those that are ahead of it in whatever order -/
def preOf : List Oper → List (List Nat) → List (List Nat)
  | [], pre => pre
  | o :: os, pre => preOf os (pre ++ [((hard o).eraseDups ++ (hard o).eraseDups.flatMap fun d => (pre[d]?).getD []).eraseDups])

/-- an order: whatever makes and writes nothing as early as may be, what does in a given order -/
def orderGo (c : List Nat) (hs : List (List Nat)) : Nat → List Nat → List Nat → List Nat
  | 0, _, done => done
  | n + 1, ef, done =>
    let ready := (List.range c.length).filter fun i => (c[i]?).getD 2 != 2 && !done.contains i && ((hs[i]?).getD []).all done.contains
    match ready, ef with
    | i :: _, _ => orderGo c hs n ef (done ++ [i])
    | [], i :: ef => orderGo c hs n ef (done ++ [i])
    | [], [] => done

/-- what is looked at again behind an operation; does it write what one ahead of it reads or writes? -/
def lookGo (is : List AIn) (c : List Nat) (pre : List (List Nat)) : List Nat → List Nat → List (Nat × List Nat × Bool)
  | _, [] => []
  | done, i :: l => (i, if (c[i]?).getD 2 = 2 then done.filter fun x => (c[x]?).getD 2 == 1 && !((pre[i]?).getD []).contains x else [],
      match is[i]? with
      | some y => y.dsts.any fun t => done.any fun x => match is[x]? with | some z => z.reads.contains t || z.dsts.contains t | none => false
      | none => false) :: lookGo is c pre (done ++ [i]) l

def drawOf (is : List AIn) (ops : Array Oper) : List (List Nat) × List (List (Nat × List Nat × Bool)) :=
  let pre := preOf ops.toList []
  let c := is.map fun i => cls i.op
  let hs := ops.toList.map hard
  (pre, (exts pre (effs is).length (effs is)).map fun s => lookGo is c pre [] (orderGo c hs is.length s []))

def trCode (P : Program) : Code → Option ACode
  | .skip => some .skip
  | .region _ ops false => (trIns P ops ops.toList).map .region
  | .region _ ops true => match trIns P ops ops.toList with
    | some is => match mkAlts is (drawOf is ops).2 with
      | some ds => if okDraw ops is (drawOf is ops).1 ds && P.follows .mixedOrders then some (.draw ds) else none
      | none => none
    | none => none
  | .seq a b => match trCode P a, trCode P b with
    | some x, some y => some (.seq x y)
    | _, _ => none
  | .cond c a b => match trOpd c, trCode P a, trCode P b with
    | some o, some x, some y => some (.cond o x y)
    | _, _, _ => none
  | .block id b => (trCode P b).map (.block id)
  | .loop b => (trCode P b).map .loop
  | .exit id => some (.exit id)
  | .ret => some .ret
  | .rangeFunc f ps a b => match trOpd f, trCode P a, trCode P b with
    | some o, some x, some y => some (.rfun o ps.toList x y)
    | _, _, _ => none
  | _ => none

end Go.Proofs.Ytjdemlagmamlbaa
