/- The abstract machine's code: instructions, regions, loops, calls. -/
import Derived.Test.YtjmocbadnclldaaM14
namespace Go.Proofs.Ytjmocbadnclldaa

inductive Opd where
  | tmp (t : Nat)
  | lit (v : AV)

structure AIn where
  dst : Option Nat
  op : AOp
  args : List Opd
  guard : Option (Nat × Bool)

inductive AExit where
  | normal
  | exit (id : Nat)
  | ret

/-- an instruction of a region whose order is open: its number, itself, what is looked at again behind it -/
structure DI where
  j : Nat
  i : AIn
  rs : List (Nat × AIn)

inductive ACode where
  | skip
  | region (ops : List AIn)
  | seq (a b : ACode)
  | cond (c : Opd) (a b : ACode)
  | block (id : Nat) (b : ACode)
  | loop (keep : List Bool) (b : ACode)
  | exit (id : Nat)
  | ret
  /-- a region whose order is open: its instructions in a canonical order, each with what is looked at again behind it -/
  | draw (ops : List DI)
  | bad

def AV.notJunk : AV → Option AV
  | .junk => none
  | v => some v

def Opd.eval (e : List AV) : Opd → Option AV
  | .tmp t => (e[t]?).bind AV.notJunk
  | .lit v => some v

def evalL (e : List AV) : List Opd → Option (List AV)
  | [] => some []
  | x :: xs => match x.eval e, evalL e xs with
    | some v, some vs => some (v :: vs)
    | _, _ => none

def setDst (e : List AV) (d : Option Nat) (v : AV) : List AV :=
  match d with
  | some i => e.set i v
  | none => e

def wantedA (e : List AV) (g : Option (Nat × Bool)) : Option Bool :=
  match g with
  | none => some true
  | some (slot, want) => match e[slot]? with
    | some (.bool b) => some (b == want)
    | some (.tuple _) => some false
    | _ => none

/-- what a call of a function does -/
abbrev Sem1 := Nat → List AV → AHeap → Option (AV × AHeap)

def doOp (C : Sem1) (o : AOp) (args : List AV) (h : AHeap) : Option (AV × AHeap) :=
  match o with
  | .callv => match args with
    | .func f first captured :: rest => C f (first ++ rest ++ captured) h
    | _ => none
  | o => aop o args h

def runIn (C : Sem1) (i : AIn) (e : List AV) (h : AHeap) : Option (List AV × AHeap) :=
  match wantedA e i.guard with
  | some true => match evalL e i.args with
    | some args => match doOp C i.op args h with
      | some (v, h') => some (setDst e i.dst v, h')
      | none => none
    | none => none
  | some false => some (setDst e i.dst (.tuple []), h)
  | none => none

def runIns (C : Sem1) : List AIn → List AV → AHeap → Option (List AV × AHeap)
  | [], e, h => some (e, h)
  | i :: is, e, h => match runIn C i e h with
    | some (e', h') => runIns C is e' h'
    | none => none

mutual
/-- are two values the same? -/
def AV.same : AV → AV → Bool
  | .bool a, .bool b => a == b
  | .int k a, .int k' b => decide (k = k') && a == b
  | .ptr a b, .ptr c d => a == c && b == d
  | .nilptr, .nilptr => true
  | .sl a b c d, .sl a' b' c' d' => a == a' && b == b' && c == c' && d == d'
  | .ssl a b c d, .ssl a' b' c' d' => a == a' && b == b' && c == c' && d == d'
  | .nilsl, .nilsl => true
  | .esl, .esl => true
  | .map a, .map b => a == b
  | .nilmap, .nilmap => true
  | .func f a b, .func f' a' b' => f == f' && AV.sameL a a' && AV.sameL b b'
  | .nilfunc, .nilfunc => true
  | .yield a, .yield b => a == b
  | .agg a, .agg b => AV.sameL a b
  | .bytes l n, .bytes l' n' => l == l' && n == n'
  | .tuple a, .tuple b => AV.sameL a b
  | _, _ => false
def AV.sameL : List AV → List AV → Bool
  | [], [] => true
  | a :: as, b :: bs => AV.same a b && AV.sameL as bs
  | _, _ => false
end

mutual
theorem AV.same_eq : ∀ (a b : AV), AV.same a b = true → a = b := by
  intro a b h
  cases a <;> cases b <;> simp only [AV.same, Bool.and_eq_true, beq_iff_eq, decide_eq_true_eq, Bool.false_eq_true] at h <;> first
    | rfl
    | (subst h; rfl)
    | (obtain ⟨rfl, rfl⟩ := h; rfl)
    | (obtain ⟨⟨⟨rfl, rfl⟩, rfl⟩, rfl⟩ := h; rfl)
    | (obtain ⟨⟨rfl, h1⟩, h2⟩ := h; rw [AV.sameL_eq _ _ h1, AV.sameL_eq _ _ h2])
    | (rw [AV.sameL_eq _ _ h])
theorem AV.sameL_eq : ∀ (a b : List AV), AV.sameL a b = true → a = b := by
  intro a b h
  cases a with
  | nil => cases b with
    | nil => rfl
    | cons => simp [AV.sameL] at h
  | cons x xs => cases b with
    | nil => simp [AV.sameL] at h
    | cons y ys =>
      simp only [AV.sameL, Bool.and_eq_true] at h
      rw [AV.same_eq _ _ h.1, AV.sameL_eq _ _ h.2]
end

def keepM : List Bool → List AV → List AV
  | true :: ks, v :: vs => v :: keepM ks vs
  | false :: ks, _ :: vs => .junk :: keepM ks vs
  | _, vs => vs

def cls : AOp → Nat
  | .mv => 0
  | .pick => 0
  | .nilCheck => 0
  | .bin _ => 0
  | .eqv _ _ => 0
  | .un _ => 0
  | .conv _ => 0
  | .sl2arr _ => 0
  | .mkfunc _ _ => 0
  | .slice _ _ _ _ => 0
  | .slicea _ _ _ _ _ => 0
  | .fieldAddr _ => 0
  | .field _ _ _ => 0
  | .indexa _ _ => 0
  | .indexs _ => 0
  | .indexv _ _ _ => 0
  | .extract _ => 0
  | .lens => 0
  | .lenc _ => 0
  | .cap => 0
  | .min => 0
  | .max => 0
  | .build _ _ => 0
  | .load1 => 1
  | .loadn _ => 1
  | .lookup _ _ _ => 1
  | .tostr => 1
  | .lenm => 1
  | _ => 2

/-- an instruction that only looks, once more: does it tell the same? -/
def again (r : AIn) (e : List AV) (h : AHeap) : Bool :=
  match wantedA e r.guard with
  | some false => true
  | some true => match evalL e r.args with
    | some args => match aop r.op args h with
      | some (v, _) => match r.dst with
        | some d => match e[d]? with
          | some x => AV.same v x
          | none => true
        | none => true
      | none => false
    | none => false
  | none => false

def runDraw (C : Sem1) : List DI → List AV → AHeap → Option (List AV × AHeap)
  | [], e, h => some (e, h)
  | d :: ds, e, h => match runIn C d.i e h with
    | some (e', h') => if d.rs.all (fun r => again r.2 e' h') then runDraw C ds e' h' else none
    | none => none

abbrev Out := Option (AExit × List AV × AHeap)

def iterN (body : List AV → AHeap → Out) (keep : List Bool) : Nat → List AV → AHeap → Out
  | 0, _, _ => none
  | n + 1, e, h => match body (keepM keep e) h with
    | some (.normal, e', h') => iterN body keep n e' h'
    | r => r

def rounds : Nat := 1099511627776

def exec (C : Sem1) : ACode → List AV → AHeap → Out
  | .skip, e, h => some (.normal, e, h)
  | .region ops, e, h => match runIns C ops e h with
    | some (e', h') => some (.normal, e', h')
    | none => none
  | .seq a b, e, h => match exec C a e h with
    | some (.normal, e', h') => exec C b e' h'
    | r => r
  | .cond c a b, e, h => match c.eval e with
    | some (.bool true) => exec C a e h
    | some (.bool false) => exec C b e h
    | _ => none
  | .block id b, e, h => match exec C b e h with
    | some (.exit i, e', h') => if i = id then some (.normal, e', h') else some (.exit i, e', h')
    | r => r
  | .loop keep b, e, h => iterN (exec C b) keep rounds e h
  | .exit id, e, h => some (.exit id, e, h)
  | .ret, e, h => some (.ret, e, h)
  | .draw ds, e, h => match runDraw C ds e h with
    | some (e', h') => some (.normal, e', h')
    | none => none
  | .bad, _, _ => none

inductive ARes where
  | tmp (t : Nat)
  | cell (t : Nat) (o : AOp)

structure AFn where
  ntmps : Nat
  res : List ARes
  body : ACode

def resA (e : List AV) (h : AHeap) : List ARes → Option (List AV)
  | [] => some []
  | .tmp t :: rs => match (Opd.tmp t).eval e, resA e h rs with
    | some v, some vs => some (v :: vs)
    | _, _ => none
  | .cell t o :: rs => match (Opd.tmp t).eval e with
    | some a => match aop o [a] h, resA e h rs with
      | some (v, _), some vs => some (v :: vs)
      | _, _ => none
    | none => none

def retA : List AV → AV
  | [v] => v
  | vs => .tuple vs

def callA (C : Sem1) (f : AFn) (args : List AV) (h : AHeap) : Option (AV × AHeap) :=
  match exec C f.body (args ++ List.replicate (f.ntmps - args.length) .junk) h with
  | some (.normal, e, h') => (resA e h' f.res).map fun vs => (retA vs, h')
  | some (.ret, e, h') => (resA e h' f.res).map fun vs => (retA vs, h')
  | _ => none

/-- THE CODE OF THE MODEL, TRANSLATED. -/
def trOpd : Operand → Option Opd
  | .tmp t => some (.tmp t)
  | .const v => (reif v).map .lit
  | .func f => some (.lit (.func f [] []))
  | .global _ => none

def trOpds : List Operand → Option (List Opd)
  | [] => some []
  | x :: xs => match trOpd x, trOpds xs with
    | some a, some as => some (a :: as)
    | _, _ => none

def trIn (P : Program) (ops : Array Oper) (o : Oper) : Option AIn :=
  match trOpds o.op.operands.toList with
  | some args => match o.guard with
    | none => some ⟨o.dst, trOp P o.op, args, none⟩
    | some (j, want) => match (ops[j]?).bind (·.dst) with
      | some d => some ⟨o.dst, trOp P o.op, args, some (d, want)⟩
      | none => none
  | none => none

def trIns (P : Program) (ops : Array Oper) : List Oper → Option (List AIn)
  | [] => some []
  | o :: os => match trIn P ops o, trIns P ops os with
    | some i, some is => some (i :: is)
    | _, _ => none

/-- what the translation is told: the slots that a loop keeps; a region's order, with what is looked at again, and of each operation those ahead of it -/
inductive Hint where
  | mask (l : List Bool)
  | ord (l : List (Nat × List Nat)) (pre : List (List Nat))

def mkRs (I : List AIn) : List Nat → Option (List (Nat × AIn))
  | [] => some []
  | j :: js => match I[j]?, mkRs I js with
    | some i, some rs => some ((j, i) :: rs)
    | _, _ => none

def mkDraw (I : List AIn) : List (Nat × List Nat) → Option (List DI)
  | [] => some []
  | (j, rs) :: l => match I[j]?, mkRs I rs, mkDraw I l with
    | some i, some rs', some ds => some (⟨j, i, rs'⟩ :: ds)
    | _, _, _ => none

/-- the operations that an operation waits for, in whatever order -/
def hard (o : Oper) : List Nat := (o.after.toList.filter (Region.binds .any)).map (·.on)

def preOk (pre : List (List Nat)) : List Oper → Nat → Bool
  | [], _ => true
  | o :: os, i => (hard o).all (fun d => decide (d < i)) && ((pre[i]?).getD []).all (fun j => (hard o).any (fun d => d == j || ((pre[d]?).getD []).contains j)) && preOk pre os (i + 1)

def Opd.slot : Opd → List Nat
  | .tmp t => [t]
  | .lit _ => []

def AIn.reads (i : AIn) : List Nat := i.args.flatMap Opd.slot ++ (match i.guard with | some (s, _) => [s] | none => [])

def AIn.dsts (i : AIn) : List Nat := i.dst.toList

def okGo (pre : List (List Nat)) : List DI → List DI → Bool
  | _, [] => true
  | done, d :: b =>
    let p := (pre[d.j]?).getD []
    ((d.i.reads ++ d.i.dsts).all fun t => b.all fun x => !x.i.dsts.contains t) && (d.i.reads.all fun t => !d.i.dsts.contains t) &&
    (d.i.reads.all fun t => done.all fun x => !x.i.dsts.contains t || p.contains x.j) &&
    (cls d.i.op == 0 || done.all fun x => cls x.i.op != 2 || p.contains x.j) &&
    (cls d.i.op != 2 || done.all fun x => cls x.i.op != 1 || p.contains x.j || d.rs.any (fun r => r.1 == x.j)) &&
    (d.rs.all fun r => done.any fun x => x.j == r.1) && (d.rs.all fun r => cls r.2.op != 2) &&
    (done.all fun x => x.j != d.j) && okGo pre (d :: done) b

def okDraw (ops : Array Oper) (pre : List (List Nat)) (l : List DI) : Bool :=
  preOk pre ops.toList 0 && okGo pre [] l && (List.range ops.size).all (fun j => l.any fun d => d.j == j)

def trCode (P : Program) : Code → List Hint → Option (ACode × List Hint)
  | .skip, k => some (.skip, k)
  | .region _ ops false, k => (trIns P ops ops.toList).map fun is => (.region is, k)
  | .region _ ops true, .ord l pre :: k => match trIns P ops ops.toList with
    | some is => match mkDraw is l with
      | some ds => if okDraw ops pre ds && P.follows .mixedOrders then some (.draw ds, k) else none
      | none => none
    | none => none
  | .seq a b, k => match trCode P a k with
    | some (x, k') => match trCode P b k' with
      | some (y, k'') => some (.seq x y, k'')
      | none => none
    | none => none
  | .cond c a b, k => match trOpd c, trCode P a k with
    | some o, some (x, k') => match trCode P b k' with
      | some (y, k'') => some (.cond o x y, k'')
      | none => none
    | _, _ => none
  | .block id b, k => match trCode P b k with
    | some (x, k') => some (.block id x, k')
    | none => none
  | .loop b, .mask m :: k => match trCode P b k with
    | some (x, k') => some (.loop m x, k')
    | none => none
  | .exit id, k => some (.exit id, k)
  | .ret, k => some (.ret, k)
  | _, _ => none

end Go.Proofs.Ytjmocbadnclldaa
