/- BY PROGRAM (wip/tool/shake.py): own texts, one behind the other, without what is not needed. -/
import Derived.Control
import Derived.Calls
import Derived.KernelRfl
import Derived.Laws.Sem
import Derived.Laws.Cells
import Derived.Laws.World
import GoSem.Dispatch
import Derived.Laws.StructEq
import Derived.IntWalk
import Derived.WideKeyRuns
import Derived.Laws.BytesArg
import Derived.Orders
import Derived.ChangeArms
import Derived.OpenShut
import Derived.ChangeShapes
import Derived.ProofKit
import Derived.Test.YtlkfclgkinaibaaGreatZLST1

namespace Go.Proofs.YtlkfclgkinaibaaGreat
def Opd.eval (e : List AV) : Opd → Option AV
  | .tmp t => (e[t]?).bind AV.notJunk
  | .lit v => some v
def evalL (e : List AV) : List Opd → Option (List AV)
  | [] => some []
  | x :: xs => match x.eval e, evalL e xs with
    | some v, some vs => some (v :: vs)
    | _, _ => none
def setDst (e : List AV) (d : Option Nat) (v : AV) : List AV :=
  match d with
  | some i => e.set i v
  | none => e
def wantedA (e : List AV) (g : Option (Nat × Bool)) : Option Bool :=
  match g with
  | none => some true
  | some (slot, want) => match e[slot]? with
    | some (.bool b) => some (b == want)
    | some (.tuple _) => some false
    | _ => none
inductive Fn where
  | f (n : Nat)
  | y (l : Nat)
abbrev SemW := Fn → List AV → AHeap → (AV → AHeap → Prop) → Prop
def doOpW (C : SemW) (o : AOp) (args : List AV) (h : AHeap) (Q : AV → AHeap → Prop) : Prop :=
  match o with
  | .callv => match args with
    | .func f first captured :: rest => C (.f f) (first ++ rest ++ captured) h Q
    | .yield l :: rest => C (.y l) rest h Q
    | _ => False
  | .next => nextW args h Q
  | o => match aop o args h with
    | some (v, h') => Q v h'
    | none => False
def runInW (C : SemW) (i : AIn) (e : List AV) (h : AHeap) (Q : List AV → AHeap → Prop) : Prop :=
  match wantedA e i.guard with
  | some true => match evalL e i.args with
    | some args => doOpW C i.op args h fun v h' => Q (setDst e i.dst v) h'
    | none => False
  | some false => Q (setDst e i.dst (.tuple [])) h
  | none => False
def runInsW (C : SemW) : List AIn → List AV → AHeap → (List AV → AHeap → Prop) → Prop
  | [], e, h, Q => Q e h
  | i :: is, e, h, Q => runInW C i e h fun e' h' => runInsW C is e' h' Q
mutual
def AV.same : AV → AV → Bool
  | .bool a, .bool b => a == b
  | .int k a, .int k' b => decide (k = k') && a == b
  | .ptr a b, .ptr c d => a == c && b == d
  | .nilptr, .nilptr => true
  | .sl a b c d, .sl a' b' c' d' => a == a' && b == b' && c == c' && d == d'
  | .ssl a b c d, .ssl a' b' c' d' => a == a' && b == b' && c == c' && d == d'
  | .nilsl, .nilsl => true
  | .esl, .esl => true
  | .map a, .map b => a == b
  | .nilmap, .nilmap => true
  | .func f a b, .func f' a' b' => f == f' && AV.sameL a a' && AV.sameL b b'
  | .nilfunc, .nilfunc => true
  | .yield a, .yield b => a == b
  | .agg a, .agg b => AV.sameL a b
  | .bytes l n, .bytes l' n' => l == l' && n == n'
  | .tuple a, .tuple b => AV.sameL a b
  | _, _ => false
def AV.sameL : List AV → List AV → Bool
  | [], [] => true
  | a :: as, b :: bs => AV.same a b && AV.sameL as bs
  | _, _ => false
end
mutual
theorem AV.same_eq : ∀ (a b : AV), AV.same a b = true → a = b := by
  intro a b h
  cases a <;> cases b <;> simp only [AV.same, Bool.and_eq_true, beq_iff_eq, decide_eq_true_eq, Bool.false_eq_true] at h <;> first
    | rfl
    | (subst h; rfl)
    | (obtain ⟨rfl, rfl⟩ := h; rfl)
    | (obtain ⟨⟨⟨rfl, rfl⟩, rfl⟩, rfl⟩ := h; rfl)
    | (obtain ⟨⟨rfl, h1⟩, h2⟩ := h; rw [AV.sameL_eq _ _ h1, AV.sameL_eq _ _ h2])
    | (rw [AV.sameL_eq _ _ h])
theorem AV.sameL_eq : ∀ (a b : List AV), AV.sameL a b = true → a = b := by
  intro a b h
  cases a with
  | nil => cases b with
    | nil => rfl
    | cons => simp [AV.sameL] at h
  | cons x xs => cases b with
    | nil => simp [AV.sameL] at h
    | cons y ys =>
      simp only [AV.sameL, Bool.and_eq_true] at h
      rw [AV.same_eq _ _ h.1, AV.sameL_eq _ _ h.2]
end
def cls : AOp → Nat
  | .mv => 0
  | .pick => 0
  | .nilCheck => 0
  | .bin _ => 0
  | .eqv _ _ => 0
  | .un _ => 0
  | .conv _ => 0
  | .sl2arr _ => 0
  | .mkfunc _ _ => 0
  | .slice _ _ _ _ => 0
  | .slicea _ _ _ _ _ => 0
  | .fieldAddr _ => 0
  | .field _ _ _ => 0
  | .indexa _ _ => 0
  | .indexs _ => 0
  | .indexv _ _ _ => 0
  | .extract _ => 0
  | .lens => 0
  | .lenc _ => 0
  | .cap => 0
  | .min => 0
  | .max => 0
  | .build _ _ => 0
  | .load1 => 1
  | .loadn _ => 1
  | .lookup _ _ _ => 1
  | .tostr => 1
  | .lenm => 1
  | .entry => 1
  | _ => 2
def again (r : AIn) (e : List AV) (h : AHeap) : Bool :=
  match wantedA e r.guard with
  | some false => true
  | some true => match evalL e r.args with
    | some args => match aop r.op args h with
      | some (v, _) => match r.dst with
        | some d => match e[d]? with
          | some x => AV.same v x
          | none => true
        | none => true
      | none => false
    | none => false
  | none => false
def runDrawW (C : SemW) : List DI → List AV → AHeap → (List AV → AHeap → Prop) → Prop
  | [], e, h, Q => Q e h
  | d :: ds, e, h, Q => runInW C d.i e h fun e' h' => d.rs.all (fun r => again r.2 e' h') = true ∧ runDrawW C ds e' h' Q
abbrev OutW := (AExit → List AV → AHeap → Prop) → Prop
def iterW (body : List AV → AHeap → OutW) : Nat → List AV → AHeap → OutW
  | 0, _, _, _ => False
  | n + 1, e, h, Q => body e h fun x e' h' => match x with
    | .normal => ∃ h2, ((∀ id o, h.get id = some o → id < h.next) → Less h2 h') ∧ iterW body n e' h2 Q
    | .exit id => Q (.exit id) e' h'
    | .ret => Q .ret e' h'
def rounds : Nat := 1099511627776
def isLoop (h : AHeap) (l : Nat) : Prop := ∃ st j t p a b, h.get l = some (.loop st j t p a b)
def endW (l : Nat) (e : List AV) (h : AHeap) (Q : AExit → List AV → AHeap → Prop) : Prop :=
  match h.get l with
  | some (.loop st j _ _ _ _) => st ≠ .busy ∧ Q (j.getD .normal) e (h.kill l)
  | _ => False
mutual
def AV.ren (σ : Nat → Nat) : AV → AV
  | .ptr id off => .ptr (σ id) off
  | .sl id off len cap => .sl (σ id) off len cap
  | .ssl id idx es len => .ssl (σ id) idx es len
  | .map id => .map (σ id)
  | .func f a b => .func f (AV.renL σ a) (AV.renL σ b)
  | .yield l => .yield (σ l)
  | .agg cs => .agg (AV.renL σ cs)
  | .tuple vs => .tuple (AV.renL σ vs)
  | .bool b => .bool b
  | .int k n => .int k n
  | .str s => .str s
  | .nilptr => .nilptr
  | .nilsl => .nilsl
  | .esl => .esl
  | .nilmap => .nilmap
  | .nilfunc => .nilfunc
  | .bytes l n => .bytes l n
  | .junk => .junk
def AV.renL (σ : Nat → Nat) : List AV → List AV
  | [] => []
  | v :: vs => AV.ren σ v :: AV.renL σ vs
end
def Dat.ren (σ : Nat → Nat) : Dat → Dat
  | .vals cs => .vals (AV.renL σ cs)
  | .bytes l n => .bytes l n
def entRen (σ : Nat → Nat) : List (AV × AV × Nat) → List (AV × AV × Nat)
  | [] => []
  | (k, v, b) :: es => (AV.ren σ k, AV.ren σ v, b) :: entRen σ es
def AObj.ren (σ : Nat → Nat) : AObj → AObj
  | .row e es s ro d => .row e es s ro (d.ren σ)
  | .map es c => .map (entRen σ es) c
  | .iter m since seen st => .iter (m.map σ) since seen st
  | .loop st j tmps ps a b => .loop st j (AV.renL σ tmps) ps a b
def Ren (base : Nat) (e0 : List AV) (h0 : AHeap) (e1 : List AV) (h1 : AHeap) : Prop :=
  ∃ σ : Nat → Nat, (∀ i, i < base → σ i = i) ∧ (∀ i, h0.next ≤ i → σ i = i) ∧ (∀ i j oi oj, h0.get i = some oi → h0.get j = some oj → σ i = σ j → i = j) ∧ h0.next = h1.next ∧
    (∀ id o, h0.get id = some o → h1.get (σ id) = some (o.ren σ)) ∧ e0.length = e1.length ∧ (∀ (i : Nat) (v : AV), (e0[i]?).bind AV.notJunk = some v → e1[i]? = some (v.ren σ))
mutual
theorem AV.ren_id : ∀ (v : AV), v.ren (fun i => i) = v := by
  intro v
  cases v with
  | func f a b => simp only [AV.ren, AV.renL_id a, AV.renL_id b]
  | agg a => simp only [AV.ren, AV.renL_id a]
  | tuple a => simp only [AV.ren, AV.renL_id a]
  | _ => simp only [AV.ren]
theorem AV.renL_id : ∀ (v : List AV), AV.renL (fun i => i) v = v := by
  intro v
  cases v with
  | nil => rfl
  | cons a l => simp only [AV.renL, AV.ren_id a, AV.renL_id l]
end
theorem entRen_id : ∀ (es : List (AV × AV × Nat)), entRen (fun i => i) es = es
  | [] => rfl
  | (k, v, b) :: es => by simp only [entRen, AV.ren_id, entRen_id es]
theorem AObj.ren_id (o : AObj) : o.ren (fun i => i) = o := by
  cases o with
  | row e es s ro d => cases d <;> simp only [AObj.ren, Dat.ren, AV.renL_id]
  | map es c => simp only [AObj.ren, entRen_id]
  | iter m since seen st => cases m <;> simp only [AObj.ren, Option.map]
  | loop st j tmps ps a b => simp only [AObj.ren, AV.renL_id]
theorem bind_notJunk {x : Option AV} {v : AV} (h : x.bind AV.notJunk = some v) : x = some v := by
  cases x with
  | none => cases h
  | some y => rw [notJunk_some h]
theorem Ren.refl (base : Nat) (e : List AV) (h : AHeap) : Ren base e h e h :=
  ⟨fun i => i, fun _ _ => rfl, fun _ _ => rfl, fun _ _ _ _ _ _ x => x, rfl, fun id o x => by rw [AObj.ren_id]; exact x, rfl, fun i v x => by rw [AV.ren_id]; exact bind_notJunk x⟩
def execW (C : SemW) (ro : Option Nat) : ACode → List AV → AHeap → OutW
  | .skip, e, h, Q => Q .normal e h
  | .region ops, e, h, Q => runInsW C ops e h (Q .normal)
  | .seq a b, e, h, Q => execW C ro a e h fun x e' h' => match x with
    | .normal => execW C ro b e' h' Q
    | .exit id => Q (.exit id) e' h'
    | .ret => Q .ret e' h'
  | .cond c a b, e, h, Q => match c.eval e with
    | some (.bool true) => execW C ro a e h Q
    | some (.bool false) => execW C ro b e h Q
    | _ => False
  | .block id b, e, h, Q => execW C ro b e h fun x e' h' => match x with
    | .normal => Q .normal e' h'
    | .exit i => if i = id then Q .normal e' h' else Q (.exit i) e' h'
    | .ret => Q .ret e' h'
  | .loop b, e, h, Q => iterW (execW C ro b) rounds e h Q
  | .exit id, e, h, Q => Q (.exit id) e h
  | .ret, e, h, Q => Q .ret e h
  | .draw alts, e, h, Q => ∀ ds, ds ∈ alts → runDrawW C ds e h fun e1 h1 => ∃ e0 h0, Ren h.next e0 h0 e1 h1 ∧ Q .normal e0 h0
  | .rfun f ps asg body, e, h, Q => match f.eval e with
    | some (.func g first captured) => (∀ l, ro = some l → isLoop h l) ∧ C (.f g) (first ++ [.yield h.next] ++ captured) (h.new (.loop .ready none e ps asg body)) fun _ h' => endW h.next e h' Q
    | _ => False
  | .bad, _, _, _ => False
inductive ARes where
  | tmp (t : Nat)
  | cell (t : Nat) (o : AOp)
structure AFn where
  ntmps : Nat
  res : List ARes
  body : ACode
def resA (e : List AV) (h : AHeap) : List ARes → Option (List AV)
  | [] => some []
  | .tmp t :: rs => match (Opd.tmp t).eval e, resA e h rs with
    | some v, some vs => some (v :: vs)
    | _, _ => none
  | .cell t o :: rs => match (Opd.tmp t).eval e with
    | some a => match aop o [a] h, resA e h rs with
      | some (v, _), some vs => some (v :: vs)
      | _, _ => none
    | none => none
def retA : List AV → AV
  | [v] => v
  | vs => .tuple vs
def callW (C : SemW) (f : AFn) (args : List AV) (h : AHeap) (Q : AV → AHeap → Prop) : Prop :=
  execW C none f.body (args ++ List.replicate (f.ntmps - args.length) .junk) h fun x e h' => match x with
    | .exit _ => False
    | _ => match resA e h' f.res with
      | some vs => Q (retA vs) h'
      | none => False
def setAll : List AV → List Nat → List AV → List AV
  | e, [], _ => e
  | e, _, [] => e
  | e, p :: ps, v :: vs => setAll (e.set p v) ps vs
def roundEnd (l : Nat) (x : AExit) (h : AHeap) (Q : AV → AHeap → Prop) : Prop :=
  match h.get l with
  | some (.loop _ _ t p a b) => match x with
    | .normal => Q (.bool true) (h.put l (.loop .ready none t p a b))
    | x => Q (.bool false) (h.put l (.loop .done (some x) t p a b))
  | _ => False
def roundW (C : SemW) (l : Nat) (args : List AV) (h : AHeap) (Q : AV → AHeap → Prop) : Prop :=
  match h.get l with
  | some (.loop _ _ tmps ps asg body) => args.length = ps.length ∧
    execW C (some l) asg (setAll tmps ps args) h fun x e1 h1 => x = .normal ∧ match h1.get l with
      | some (.loop .ready j t p a b) => execW C (some l) body e1 (h1.put l (.loop .busy j t p a b)) fun x _ h2 => roundEnd l x h2 Q
      | _ => False
  | _ => False
def trOpd : Operand → Option Opd
  | .tmp t => some (.tmp t)
  | .const v => (reif v).map .lit
  | .func f => some (.lit (.func f [] []))
  | .global _ => none
def trOpds : List Operand → Option (List Opd)
  | [] => some []
  | x :: xs => match trOpd x, trOpds xs with
    | some a, some as => some (a :: as)
    | _, _ => none
def trIn (P : Program) (ops : Array Oper) (o : Oper) : Option AIn :=
  match trOpds o.op.operands.toList with
  | some args => match o.guard with
    | none => some ⟨o.dst, trOp P o.op, args, none⟩
    | some (j, want) => match (ops[j]?).bind (·.dst) with
      | some d => some ⟨o.dst, trOp P o.op, args, some (d, want)⟩
      | none => none
  | none => none
def trIns (P : Program) (ops : Array Oper) : List Oper → Option (List AIn)
  | [] => some []
  | o :: os => match trIn P ops o, trIns P ops os with
    | some i, some is => some (i :: is)
    | _, _ => none
def mkRs (I : List AIn) : List Nat → Option (List (Nat × AIn))
  | [] => some []
  | j :: js => match I[j]?, mkRs I js with
    | some i, some rs => some ((j, i) :: rs)
    | _, _ => none
def mkDraw (I : List AIn) : List (Nat × List Nat × Bool) → Option (List DI)
  | [] => some []
  | (j, rs, fin) :: l => match I[j]?, mkRs I rs, mkDraw I l with
    | some i, some rs', some ds => some (⟨j, i, rs', fin⟩ :: ds)
    | _, _, _ => none
def mkAlts (I : List AIn) : List (List (Nat × List Nat × Bool)) → Option (List (List DI))
  | [] => some []
  | l :: ls => match mkDraw I l, mkAlts I ls with
    | some d, some ds => some (d :: ds)
    | _, _ => none
def hard (o : Oper) : List Nat := (o.after.toList.filter (Region.binds .any)).map (·.on)
def preOk (pre : List (List Nat)) : List Oper → Nat → Bool
  | [], _ => true
  | o :: os, i => (hard o).all (fun d => decide (d < i)) && ((pre[i]?).getD []).all (fun j => (hard o).any (fun d => d == j || ((pre[d]?).getD []).contains j)) && preOk pre os (i + 1)
def Opd.slot : Opd → List Nat
  | .tmp t => [t]
  | .lit _ => []
def AIn.reads (i : AIn) : List Nat := i.args.flatMap Opd.slot ++ (match i.guard with | some (s, _) => [s] | none => [])
def AIn.dsts (i : AIn) : List Nat := i.dst.toList
def DI.eff (d : DI) : Bool := cls d.i.op == 2
def DI.bar (d : DI) : Bool := d.eff || d.fin
def okGo (pre : List (List Nat)) : List DI → List DI → Bool
  | _, [] => true
  | done, d :: b =>
    let p := (pre[d.j]?).getD []
    ((d.i.reads ++ d.i.dsts).all fun t => b.all fun x => !x.i.dsts.contains t || x.fin) && (d.i.reads.all fun t => !d.i.dsts.contains t) &&
    (d.i.reads.all fun t => done.all fun x => !x.i.dsts.contains t || p.contains x.j) &&
    (done.all fun x => !x.fin || p.contains x.j) && (d.eff || match done.find? DI.eff with | some x => p.contains x.j | none => true) && (!d.fin || done.all fun x => p.contains x.j) &&
    (!d.eff || done.all fun x => cls x.i.op != 1 || p.contains x.j || d.rs.any (fun r => r.1 == x.j)) &&
    (d.rs.all fun r => done.any fun x => x.j == r.1) && (d.rs.all fun r => cls r.2.op != 2) &&
    (done.all fun x => x.j != d.j) && okGo pre (d :: done) b
def exts (pre : List (List Nat)) : Nat → List Nat → List (List Nat)
  | 0, _ => [[]]
  | n + 1, rem => if rem.isEmpty then [[]] else
    rem.flatMap fun x => if rem.any (fun y => ((pre[x]?).getD []).contains y) then [] else (exts pre n (rem.erase x)).map (x :: ·)
def effs (is : List AIn) : List Nat := (List.range is.length).filter fun j => match is[j]? with | some i => cls i.op == 2 | none => false
def AIn.fl (i : AIn) : Bool := match i with
  | ⟨some _, .alloc _ es z, [], none⟩ => z.len == es && Nat.blt 0 es
  | _ => false
def AIn.flq (q : Bool) (i : AIn) : Bool := q && i.fl
def flOk (q : Bool) (pre : List (List Nat)) : List DI → Bool
  | [] => true
  | d :: b => (!d.i.flq q || (!d.fin && match b with
    | d' :: _ => d'.bar && !d'.i.flq q && ((pre[d'.j]?).getD []).contains d.j
    | [] => false)) && flOk q pre b
def flE (q : Bool) (is : List AIn) (j : Nat) : Bool := match is[j]? with
  | some i => cls i.op == 2 && !i.flq q
  | none => false
def okDraw (q : Bool) (ops : Array Oper) (is : List AIn) (pre : List (List Nat)) (alts : List (List DI)) : Bool :=
  preOk pre ops.toList 0 && (alts.all fun l => okGo pre [] l && flOk q pre l && (List.range ops.size).all (fun j => l.any fun d => d.j == j)) &&
  (exts pre (effs is).length (effs is)).all fun s => alts.any fun l => (l.filter fun d => d.eff && !d.i.flq q).map DI.j == s.filter (flE q is)
def preOf : List Oper → List (List Nat) → List (List Nat)
  | [], pre => pre
  | o :: os, pre => preOf os (pre ++ [((hard o).eraseDups ++ (hard o).eraseDups.flatMap fun d => (pre[d]?).getD []).eraseDups])
def orderGo (c : List Nat) (hs : List (List Nat)) : Nat → List Nat → List Nat → List Nat
  | 0, _, done => done
  | n + 1, ef, done =>
    let ready := (List.range c.length).filter fun i => (c[i]?).getD 2 != 2 && !done.contains i && ((hs[i]?).getD []).all done.contains
    match ready, ef with
    | i :: _, _ => orderGo c hs n ef (done ++ [i])
    | [], i :: ef => orderGo c hs n ef (done ++ [i])
    | [], [] => done
def lookGo (is : List AIn) (c : List Nat) (pre : List (List Nat)) : List Nat → List Nat → List (Nat × List Nat × Bool)
  | _, [] => []
  | done, i :: l => (i, if (c[i]?).getD 2 = 2 then done.filter fun x => (c[x]?).getD 2 == 1 && !((pre[i]?).getD []).contains x else [],
      match is[i]? with
      | some y => y.dsts.any fun t => done.any fun x => match is[x]? with | some z => z.reads.contains t || z.dsts.contains t | none => false
      | none => false) :: lookGo is c pre (done ++ [i]) l
def sink (q : Bool) (is : List AIn) (pre : List (List Nat)) (s : List Nat) : List Nat :=
  let fl := s.filter fun j => !flE q is j
  let go := (s.filter (flE q is)).foldl (fun (p : List Nat × List Nat) j =>
    let now := p.2.filter fun f => ((pre[j]?).getD []).contains f
    (p.1 ++ now ++ [j], p.2.filter fun f => !now.contains f)) ([], fl)
  go.1 ++ go.2
def drawOf (q : Bool) (is : List AIn) (ops : Array Oper) : List (List Nat) × List (List (Nat × List Nat × Bool)) :=
  let pre := preOf ops.toList []
  let c := is.map fun i => cls i.op
  let hs := ops.toList.map hard
  (pre, (((exts pre (effs is).length (effs is)).map (sink q is pre)).eraseDups).map fun s => lookGo is c pre [] (orderGo c hs is.length s []))
def trDraw (P : Program) (q : Bool) (ops : Array Oper) (is : List AIn) : Option ACode := match mkAlts is (drawOf q is ops).2 with
  | some ds => if okDraw q ops is (drawOf q is ops).1 ds && P.follows .mixedOrders then some (.draw ds) else none
  | none => none
def trCode (P : Program) : Code → Option ACode
  | .skip => some .skip
  | .region _ ops false => (trIns P ops ops.toList).map .region
  | .region _ ops true => match trIns P ops ops.toList with
    | some is => match trDraw P true ops is with
      | some c => some c
      | none => trDraw P false ops is
    | none => none
  | .seq a b => match trCode P a, trCode P b with
    | some x, some y => some (.seq x y)
    | _, _ => none
  | .cond c a b => match trOpd c, trCode P a, trCode P b with
    | some o, some x, some y => some (.cond o x y)
    | _, _, _ => none
  | .block id b => (trCode P b).map (.block id)
  | .scope b => trCode P b
  | .label _ => some .skip
  | .loop b => (trCode P b).map .loop
  | .exit id => some (.exit id)
  | .ret => some .ret
  | .rangeFunc f ps a b => match trOpd f, trCode P a, trCode P b with
    | some o, some x, some y => some (.rfun o ps.toList x y)
    | _, _, _ => none
  | _ => none
end Go.Proofs.YtlkfclgkinaibaaGreat

namespace Go.Proofs.YtlkfclgkinaibaaGreat
variable {Λ : Lam}
theorem AV.renL_get {σ : Nat → Nat} : ∀ {l : List AV} {i : Nat}, (AV.renL σ l)[i]? = (l[i]?).map (AV.ren σ)
  | [], i => by simp [AV.renL]
  | v :: vs, 0 => by simp [AV.renL]
  | v :: vs, i + 1 => by simp only [AV.renL, List.getElem?_cons_succ]; exact AV.renL_get
theorem AV.renL_length {σ : Nat → Nat} : ∀ {l : List AV}, (AV.renL σ l).length = l.length
  | [] => rfl
  | v :: vs => by simp only [AV.renL, List.length_cons, AV.renL_length (l := vs)]
theorem AV.ren_notJunk {σ : Nat → Nat} {v x : AV} (h : v.notJunk = some x) : (v.ren σ).notJunk = some (v.ren σ) := by
  cases v <;> first | rfl | cases h
mutual
theorem VR.ren {μ : Mu} {σ : Nat → Nat} : ∀ (v : AV) (c : Value), VR μ (v.ren σ) c → VR (fun i => μ (σ i)) v c
  | .bool _, _, e | .int _ _, _, e | .str _, _, e | .nilptr, _, e | .nilsl, _, e | .esl, _, e | .nilmap, _, e | .nilfunc, _, e | .bytes _ _, _, e | .ptr _ _, _, e | .sl _ _ _ _, _, e | .ssl _ _ _ _, _, e | .map _, _, e | .yield _, _, e => by simpa only [AV.ren, VR] using e
  | .func f x y, c, e => by
    simp only [AV.ren, VR] at e ⊢
    obtain ⟨a, b, p, q, r⟩ := e
    exact ⟨a, b, VRL.ren x a p, VRL.ren y b q, r⟩
  | .agg cs, c, e => by
    simp only [AV.ren, VR] at e ⊢
    obtain ⟨a, p, q, r⟩ := e
    exact ⟨a, VRL.ren cs a p, q, r⟩
  | .tuple cs, c, e => by
    simp only [AV.ren, VR] at e ⊢
    obtain ⟨a, p, r⟩ := e
    exact ⟨a, VRL.ren cs a p, r⟩
  | .junk, _, _ => by simp [VR]
theorem VRL.ren {μ : Mu} {σ : Nat → Nat} : ∀ (v : List AV) (c : List Value), VRL μ (AV.renL σ v) c → VRL (fun i => μ (σ i)) v c
  | [], _, e => by simpa only [AV.renL, VRL] using e
  | v :: vs, c, e => by
    simp only [AV.renL, VRL] at e ⊢
    obtain ⟨x, xs, r, p, q⟩ := e
    exact ⟨x, xs, r, VR.ren v x p, VRL.ren vs xs q⟩
end
theorem Dat.ren_get {σ : Nat → Nat} {d : Dat} {i : Nat} {v : AV} (h : d.get i = some v) : (d.ren σ).get i = some (v.ren σ) := by
  cases d with
  | vals cs =>
    simp only [Dat.get, Dat.ren] at h ⊢
    rw [AV.renL_get, h]; rfl
  | bytes l n =>
    simp only [Dat.get, Dat.ren] at h ⊢
    split at h
    · rename_i hi; cases h; rw [if_pos hi]; rfl
    · cases h
theorem Dat.ren_len {σ : Nat → Nat} {d : Dat} : (d.ren σ).len = d.len := by
  cases d with
  | vals cs => simp only [Dat.ren, Dat.len, AV.renL_length]
  | bytes l n => rfl
theorem EntR.ren {μ : Mu} {σ : Nat → Nat} : ∀ (a : List (AV × AV × Nat)) (b : List MapEntry), EntR μ (entRen σ a) b → EntR (fun i => μ (σ i)) a b
  | [], _, e => e
  | (k, v, b) :: es, l, e => by
    obtain ⟨c, cs, r, p, q, s, t⟩ := e
    exact ⟨c, cs, r, VR.ren _ _ p, VR.ren _ _ q, s, EntR.ren es cs t⟩
theorem EnvR.ren {μ : Mu} {σ : Nat → Nat} {e0 e1 : List AV} {t : Array Value} (h : EnvR μ e1 t) (hl : e0.length = e1.length) (hv : ∀ (i : Nat) (v : AV), (e0[i]?).bind AV.notJunk = some v → e1[i]? = some (v.ren σ)) : EnvR (fun i => μ (σ i)) e0 t := by
  refine ⟨by rw [hl]; exact h.1, fun i v hx => ?_⟩
  have h1 := hv i v hx
  obtain ⟨c, h2, h3⟩ := h.2 i (v.ren σ) (by
    rw [h1]
    cases hy : e0[i]? with
    | none => rw [hy] at hx; cases hx
    | some y =>
      rw [hy] at hx
      have := notJunk_some hx
      subst this
      exact AV.ren_notJunk hx)
  exact ⟨c, h2, VR.ren _ _ h3⟩
theorem ObjR.ren {μ : Mu} {σ : Nat → Nat} {w : World} {l : Loc} {o : AObj} (e : ObjR Λ μ w l (o.ren σ)) : ObjR Λ (fun i => μ (σ i)) w l o := by
  cases o with
  | row elem es soft ro d =>
    obtain ⟨c, fr, p, q, r⟩ := e
    refine ⟨c, fr, p, fun i v hv => ?_, fun hro => ?_⟩
    · obtain ⟨cv, a, b, d⟩ := q i (v.ren σ) (Dat.ren_get hv)
      exact ⟨cv, a, VR.ren _ _ b, d⟩
    · have := r hro
      rwa [Dat.ren_len] at this
  | map es clock => obtain ⟨cs, p, q⟩ := e; exact ⟨cs, p, EntR.ren _ _ q⟩
  | iter m since seen stepped =>
    obtain ⟨hoff, r, p, q⟩ := e
    refine ⟨hoff, r, p, ?_⟩
    cases m with
    | none => exact q
    | some id => exact q
  | loop st j tmps ps asg body =>
    obtain ⟨r, p, q1, q2, q3, q4, q5⟩ := e
    refine ⟨r, p, q1, q2, q3.ren (σ := σ) AV.renL_length.symm fun i v hx => ?_, q4, q5⟩
    rw [AV.renL_get, bind_notJunk hx]; rfl
theorem AObj.ren_rw {σ : Nat → Nat} {o : AObj} : (o.ren σ).rw = o.rw := by cases o <;> rfl
theorem Ren.sound {μ μ1 : Mu} {h h0 h1 : AHeap} {e0 e1 : List AV} {w w1 : World} {t : Array Value} (rn : Ren h.next e0 h0 e1 h1) (hr : Rel Λ μ h w) (v : EnvR μ1 e1 t) (r : Rel Λ μ1 h1 w1) (s : Step μ h w μ1 h1 w1) :
    ∃ μ0, EnvR μ0 e0 t ∧ Rel Λ μ0 h0 w1 ∧ Step μ h w μ0 h0 w1 := by
  obtain ⟨σ, r1, r2, r3, r4, r5, r6, r7⟩ := rn
  refine ⟨fun i => μ1 (σ i), v.ren r6 r7, ⟨fun id o hg => ?_, fun i j oi oj li lj hi hj hne hrw hli hlj => ?_, fun id l hl => ?_⟩, ⟨fun id l hl => ?_, by rw [r4]; exact s.next, fun id hid => ?_, s.os, s.tape, s.output, s.size, s.frame, fun id o l hg hrw hl => ?_, fun id o l hg hl => s.any (σ id) (o.ren σ) l (r5 id o hg) hl⟩⟩
  · obtain ⟨l, hl, ho⟩ := r.obj _ _ (r5 id o hg)
    exact ⟨l, hl, ho.ren⟩
  · exact r.inj _ _ _ _ _ _ (r5 i oi hi) (r5 j oj hj) (fun e => hne (r3 i j oi oj hi hj e)) (by rw [AObj.ren_rw]; exact hrw) hli hlj
  · refine ⟨?_, (r.dom _ _ hl).2⟩
    by_cases hlt : id < h0.next
    · exact hlt
    · have h2 := r2 id (by omega)
      simp only [h2] at hl
      have := (r.dom _ _ hl).1
      omega
  · have hid := (hr.dom _ _ hl).1
    simp only [r1 id hid]
    exact s.ext _ _ hl
  · simp only [r1 id hid]
    exact s.low id hid
  · exact s.own (σ id) (o.ren σ) l (r5 id o hg) (by rw [AObj.ren_rw]; exact hrw) hl
end Go.Proofs.YtlkfclgkinaibaaGreat

namespace Go.Proofs.YtlkfclgkinaibaaGreat
variable {Λ : Lam}
def Fat (b : Frame) (a : Act) (todo : List Item) : Frame := { b with tmps := a.tmps, todo := todo, defers := a.defers, mode := .run }
section moves
variable {P : Program} {b : Frame} {a : Act} {k : List Item} {cs : List Frame} {w : World}
theorem st_skip : step P (lone (Fat b a (.code .skip :: k)) cs w) = .next (lone (Fat b a k) cs w) :=
  step_lone_go (by simp [stepG, stepG.exec, Fat])
theorem st_inBlock {id : Nat} : step P (lone (Fat b a (.inBlock id :: k)) cs w) = .next (lone (Fat b a k) cs w) :=
  step_lone_go (by simp [stepG, stepG.exec, Fat])
theorem st_seq {x y : Code} : step P (lone (Fat b a (.code (.seq x y) :: k)) cs w) = .next (lone (Fat b a (.code x :: .code y :: k)) cs w) :=
  step_lone_go (by simp [stepG, stepG.exec, Fat])
theorem Fat_eval (b : Frame) (a : Act) (todo : List Item) : (Fat b a todo).eval = a.eval := by
  funext x; cases x <;> rfl
theorem st_cond {c : Operand} {x y : Code} {t : Bool} (h : a.eval c = .bool t) :
    step P (lone (Fat b a (.code (.cond c x y) :: k)) cs w) = .next (lone (Fat b a (.code (if t then x else y) :: k)) cs w) :=
  step_lone_go (by
    have := congrFun (Fat_eval b a (.code (.cond c x y) :: k)) c
    simp only [Fat] at *
    simp [stepG, stepG.exec, this, h])
theorem st_block {id : Nat} {c : Code} : step P (lone (Fat b a (.code (.block id c) :: k)) cs w) = .next (lone (Fat b a (.code c :: .inBlock id :: k)) cs w) :=
  step_lone_go (by simp [stepG, stepG.exec, Fat])
theorem st_scope {c : Code} : step P (lone (Fat b a (.code (.scope c) :: k)) cs w) = .next (lone (Fat b a (.code c :: .inScope c :: k)) cs w) :=
  step_lone_go (by simp [stepG, stepG.exec, Fat])
theorem st_inScope {c : Code} : step P (lone (Fat b a (.inScope c :: k)) cs w) = .next (lone (Fat b a k) cs w) :=
  step_lone_go (by simp [stepG, stepG.exec, Fat])
theorem st_label {l : Nat} : step P (lone (Fat b a (.code (.label l) :: k)) cs w) = .next (lone (Fat b a k) cs w) :=
  step_lone_go (by simp [stepG, stepG.exec, Fat])
theorem st_loop {c : Code} : step P (lone (Fat b a (.code (.loop c) :: k)) cs w) = .next (lone (Fat b a (.code c :: .inLoop c :: k)) cs w) :=
  step_lone_go (by simp [stepG, stepG.exec, Fat])
theorem st_inLoop {c : Code} : step P (lone (Fat b a (.inLoop c :: k)) cs w) = .next (lone (Fat b a (.code c :: .inLoop c :: k)) cs w) :=
  step_lone_go (by simp [stepG, stepG.exec, Fat])
theorem st_exit {id : Nat} {k' : List Item} (h : exitTo id k = some k') : step P (lone (Fat b a (.code (.exit id) :: k)) cs w) = .next (lone (Fat b a k') cs w) :=
  step_lone_go (by simp [stepG, stepG.exec, Fat, h])
theorem st_region {id : Nat} {ops : Array Oper} : step P (lone (Fat b a (.code (.region id ops false) :: k)) cs w) = .next (lone (Fat b a (.inRegion ops (List.range ops.size) :: k)) cs w) :=
  step_lone_go (by simp [stepG, stepG.exec, Fat])
theorem st_region_draw {id : Nat} {ops : Array Oper} : step P (lone (Fat b a (.code (.region id ops true) :: k)) cs w) =
      .next (lone (Fat b a (.inRegion ops (Region.schedule (P.follows .mixedOrders) ops (w.tape w.drawn (.order b.fn id))) :: k)) cs { w with drawn := w.drawn + 1 }) :=
  step_lone_go (by simp [stepG, stepG.exec, Fat, choose, Sem.run, Question.forced, Question.cut])
theorem st_region_end {ops : Array Oper} : step P (lone (Fat b a (.inRegion ops [] :: k)) cs w) = .next (lone (Fat b a k) cs w) :=
  step_lone_go (by simp [stepG, stepG.exec, Fat])
theorem Fat_finish (a : Act) (ops : Array Oper) (i : Nat) (rest : List Nat) (v : Value) :
    (Fat b a (.inRegion ops (i :: rest) :: k)).finish v = Fat b (a.put ((ops[i]?).bind (·.dst)) v) (.inRegion ops rest :: k) := by
  cases h : (ops[i]?).bind (·.dst) <;> simp [Frame.finish, Fat, Act.put, h]
theorem st_op_skip {ops : Array Oper} {i : Nat} {rest : List Nat} (h : ((ops[i]?).map (Region.wanted · (yielded ops a.tmps))).getD false = false) :
    step P (lone (Fat b a (.inRegion ops (i :: rest) :: k)) cs w) = .next (lone (Fat b (a.put ((ops[i]?).bind (·.dst)) undef) (.inRegion ops rest :: k)) cs w) := by
  rw [← Fat_finish]
  exact step_lone_go (by
    have h' := h
    simp only [Fat] at *
    simp [stepG, stepG.exec, h'])
theorem stG_op {ops : Array Oper} {i : Nat} {rest : List Nat} {o : Oper} (ho : ops[i]? = some o) (hw : Region.wanted o (yielded ops a.tmps) = true) (hd : ∀ c, o.op ≠ .defer c) :
    stepG P true { frame := Fat b a (.inRegion ops (i :: rest) :: k), callers := cs, status := .running, dying := none } w =
      stepG.apply P true (Fat b a (.inRegion ops (i :: rest) :: k)) cs none (execOp a.eval o) w := by
  have he := Fat_eval b a (.inRegion ops (i :: rest) :: k)
  simp only [Fat] at he
  cases hop : o.op with
  | defer c => exact absurd hop (hd c)
  | _ => cases hr : b.roundOf <;> rw [hr] at he <;> simp [stepG, stepG.exec, stepG.oper, Frame.oper?, Fat, ho, hw, he, hr, hop]
theorem st_op_value {ops : Array Oper} {i : Nat} {rest : List Nat} {o : Oper} {v : Value} {w' : World} (ho : ops[i]? = some o) (hw : Region.wanted o (yielded ops a.tmps) = true) (hd : ∀ c, o.op ≠ .defer c)
    (hr : (execOp a.eval o).run P w = .ok (.value v) w' ∨ (v = undef ∧ (execOp a.eval o).run P w = .ok .skip w')) :
    step P (lone (Fat b a (.inRegion ops (i :: rest) :: k)) cs w) = .next (lone (Fat b (a.put o.dst v) (.inRegion ops rest :: k)) cs w') := by
  have hfin : (Fat b a (.inRegion ops (i :: rest) :: k)).finish v = Fat b (a.put o.dst v) (.inRegion ops rest :: k) := by rw [Fat_finish, ho]; rfl
  refine step_lone_go ?_
  rw [stG_op ho hw hd, ← hfin]
  rcases hr with hr | ⟨rfl, hr⟩ <;> simp [stepG.apply, hr]
theorem st_op_enter {ops : Array Oper} {i : Nat} {rest : List Nat} {o : Oper} {f : FuncId} {args : Array Value} {w' : World} (ho : ops[i]? = some o) (hw : Region.wanted o (yielded ops a.tmps) = true) (hd : ∀ c, o.op ≠ .defer c)
    (hr : (execOp a.eval o).run P w = .ok (.enter f args) w') :
    step P (lone (Fat b a (.inRegion ops (i :: rest) :: k)) cs w) = .next (lone (Frame.enter P f args .normal) (Fat b a (.inRegion ops (i :: rest) :: k) :: cs) w') := by
  refine step_lone_go ?_
  rw [stG_op ho hw hd]
  simp [stepG.apply, hr, Fat]
theorem st_op_round {ops : Array Oper} {i : Nat} {rest : List Nat} {o : Oper} {l : Nat} {f : FuncId} {tmps : Array Value} {x y : Code} {w' : World} (ho : ops[i]? = some o) (hw : Region.wanted o (yielded ops a.tmps) = true) (hd : ∀ c, o.op ≠ .defer c)
    (hr : (execOp a.eval o).run P w = .ok (.round l f tmps x y) w') :
    step P (lone (Fat b a (.inRegion ops (i :: rest) :: k)) cs w) = .next (lone (Frame.round l f tmps x y .normal) (Fat b a (.inRegion ops (i :: rest) :: k) :: cs) w') := by
  refine step_lone_go ?_
  rw [stG_op ho hw hd]
  simp [stepG.apply, hr, Fat]
end moves
theorem EnvR.set {μ : Mu} {e : List AV} {t : Array Value} {v : AV} {c : Value} (h : EnvR μ e t) (hv : VR μ v c) (i : Nat) : EnvR μ (e.set i v) (t.setIfInBounds i c) := by
  refine ⟨by simpa using h.1, fun j x hx => ?_⟩
  rw [List.getElem?_set] at hx
  by_cases hij : i = j
  · subst hij
    rw [if_pos rfl] at hx
    split at hx
    · rename_i hlt
      simp only [Option.bind_some] at hx
      have := notJunk_some hx
      subst this
      exact ⟨c, by simp [Array.getElem?_setIfInBounds]; have := h.1; omega, hv⟩
    · cases hx
  · rw [if_neg hij] at hx
    obtain ⟨d, p, q⟩ := h.2 j x hx
    exact ⟨d, by rw [Array.getElem?_setIfInBounds, if_neg hij]; exact p, q⟩
theorem EnvR.put {μ : Mu} {e : List AV} {a : Act} {v : AV} {c : Value} (h : EnvR μ e a.tmps) (hv : VR μ v c) (d : Option Nat) : EnvR μ (setDst e d v) (a.put d c).tmps := by
  cases d with
  | none => exact h
  | some i => exact h.set hv i
theorem opd_ok {μ : Mu} {e : List AV} {a : Act} {x : Operand} {o : Opd} {v : AV} (h : EnvR μ e a.tmps) (ht : trOpd x = some o) (hv : o.eval e = some v) : VR μ v (a.eval x) := by
  cases x with
  | tmp t =>
    simp only [trOpd] at ht; cases ht
    obtain ⟨c, p, q⟩ := h.2 t v hv
    have : a.eval (.tmp t) = c := by simp [Act.eval, Array.getD_eq_getD_getElem?, p]
    rw [this]; exact q
  | const c =>
    simp only [trOpd] at ht
    cases hr : reif c with
    | none => rw [hr] at ht; cases ht
    | some av => rw [hr] at ht; cases ht; simp only [Opd.eval] at hv; cases hv; exact reif_ok hr
  | global g => cases ht
  | func f =>
    simp only [trOpd] at ht; cases ht
    simp only [Opd.eval] at hv; cases hv
    simp only [VR, VRL, Act.eval]
    exact ⟨[], [], rfl, rfl, rfl⟩
theorem opds_ok {μ : Mu} {e : List AV} {a : Act} (h : EnvR μ e a.tmps) : ∀ {xs : List Operand} {os : List Opd} {vs : List AV}, trOpds xs = some os → evalL e os = some vs → VRL μ vs (xs.map a.eval)
  | [], os, vs, ht, hv => by simp only [trOpds] at ht; cases ht; simp only [evalL] at hv; cases hv; simp [VRL]
  | x :: xs, os, vs, ht, hv => by
    simp only [trOpds] at ht
    split at ht
    · rename_i o os' h1 h2
      cases ht
      simp only [evalL] at hv
      split at hv
      · rename_i v vs' h3 h4
        cases hv
        simp only [List.map_cons, VRL]
        exact ⟨_, _, rfl, opd_ok h h1 h3, opds_ok h h2 h4⟩
      · cases hv
    · cases ht
def FSound (P : Program) (Λ : Lam) (f : FuncId) (F : List AV → AHeap → (AV → AHeap → Prop) → Prop) : Prop :=
  ∀ (args : List AV) (h : AHeap) (Q : AV → AHeap → Prop) (μ : Mu) (w : World) (cargs : List Value), F args h Q → Rel Λ μ h w → VRL μ args cargs →
    ∀ cs, ∃ r h' fr w' μ' cv, Q r h' ∧ Steps P (lone (Frame.enter P f cargs.toArray .normal) cs w) (lone fr cs w') ∧ fr.fn = f ∧ fr.leaving P w' (.returned cv) ∧ VR μ' r cv ∧ Rel Λ μ' h' w' ∧ Step μ h w μ' h' w'
def Enters (P : Program) (f : FuncId) : Prop := ∀ (args : Array Value) (w : World), (callFunc f args).run P w = .ok (.enter f args) w
def YSound (P : Program) (Λ : Lam) (l : Nat) (F : List AV → AHeap → (AV → AHeap → Prop) → Prop) : Prop :=
  ∀ (args : List AV) (h : AHeap) (Q : AV → AHeap → Prop) (μ : Mu) (w : World) (cargs : List Value), F args h Q → Rel Λ μ h w → VRL μ args cargs →
    ∃ (lc : Loc) (r : Go.Loop), μ l = some lc ∧ w.heap[lc.block]? = some (.loop r) ∧ cargs.length = r.params.size ∧
      ∀ c cs, ∃ rv h' w' μ' cv, Q rv h' ∧ Steps P (lone (Frame.round lc.block r.fn ((r.params.zip cargs.toArray).foldl (fun tmps (t, a) => tmps.setIfInBounds t a) r.tmps) r.assign r.body .normal) (c :: cs) w) (lone (c.finish cv) cs w') ∧
        VR μ' rv cv ∧ Rel Λ μ' h' w' ∧ Step μ h w μ' h' w'
structure CSound (P : Program) (Λ : Lam) (C : SemW) : Prop where
  ent : ∀ f args h Q, C (.f f) args h Q → Enters P f
  fn : ∀ f, FSound P Λ f (C (.f f))
  rnd : ∀ l, YSound P Λ l (C (.y l))
def Arr (P : Program) (m : Machine) (b : Frame) (k : List Item) (cs : List Frame) (x : AExit) (a : Act) (w : World) : Prop :=
  match x with
  | .normal => Steps P m (lone (Fat b a k) cs w)
  | .exit id => ∃ k0, Steps P m (lone (Fat b a (.code (.exit id) :: k0)) cs w) ∧ exitTo id k0 = exitTo id k
  | .ret => ∃ k0, Steps P m (lone (Fat b a (.code .ret :: k0)) cs w)
theorem Arr.of_steps {P m m' b k cs x a w} (h : Steps P m m') (h' : Arr P m' b k cs x a w) : Arr P m b k cs x a w := by
  cases x with
  | normal => exact h.trans h'
  | exit id => obtain ⟨k0, s, e⟩ := h'; exact ⟨k0, h.trans s, e⟩
  | ret => obtain ⟨k0, s⟩ := h'; exact ⟨k0, h.trans s⟩
theorem wanted_ok {μ : Mu} {e : List AV} {a : Act} {ops : Array Oper} {o : Oper} {i : AIn} {P : Program} (h : EnvR μ e a.tmps) (ht : trIn P ops o = some i) {q : Bool} (hw : wantedA e i.guard = some q) : Region.wanted o (yielded ops a.tmps) = q := by
  unfold trIn at ht
  split at ht
  · split at ht
    · rename_i hg
      cases ht
      simp only [wantedA] at hw; cases hw
      simp [Region.wanted, hg]
    · rename_i j want hg
      split at ht
      · rename_i d hd
        cases ht
        simp only [wantedA] at hw
        have key : ∀ v, e[d]? = some v → v.notJunk = some v → ∃ c, a.tmps[d]? = some c ∧ VR μ v c := fun v h1 h2 => h.2 d v (by rw [h1]; exact h2)
        split at hw
        · rename_i bv hb
          cases hw
          obtain ⟨c, p, q⟩ := key _ hb rfl
          have := VR.bool q
          subst this
          simp only [Region.wanted, hg, yielded, hd, Option.bind_some, p]
          cases bv <;> cases want <;> rfl
        · rename_i vs hb
          cases hw
          obtain ⟨c, p, q⟩ := key _ hb rfl
          simp only [VR] at q; obtain ⟨l, _, rfl⟩ := q
          simp [Region.wanted, hg, yielded, hd, p]
        · cases hw
      · cases ht
  · cases ht
end Go.Proofs.YtlkfclgkinaibaaGreat

namespace Go.Proofs.YtlkfclgkinaibaaGreat
variable {Λ : Lam}
section
variable {P : Program} {C : SemW}
theorem trIn_parts {ops : Array Oper} {o : Oper} {i : AIn} (ht : trIn P ops o = some i) : ∃ args, trOpds o.op.operands.toList = some args ∧ i.dst = o.dst ∧ i.op = trOp P o.op ∧ i.args = args := by
  unfold trIn at ht
  split at ht
  · rename_i args ha
    split at ht
    · cases ht; exact ⟨args, ha, rfl, rfl, rfl⟩
    · split at ht
      · cases ht; exact ⟨args, ha, rfl, rfl, rfl⟩
      · cases ht
  · cases ht
theorem trOp_callv {o : Op} (h : trOp P o = .callv) : ∃ c f, o = .call c ∧ c.callee = .value f := by
  cases o with
  | call c =>
    cases hc : c.callee with
    | value f => exact ⟨c, f, rfl, hc⟩
    | invoke _ _ => simp [trOp, hc] at h
    | builtin b =>
      simp only [trOp, hc] at h
      split at h <;> first | cases h | (split at h <;> first | cases h | (split at h <;> first | cases h | (split at h <;> cases h)))
  | binOp op t x y u => cases op <;> simp only [trOp] at h <;> first | cases h | (split at h <;> first | cases h | (split at h <;> cases h))
  | makeFunc fn a b => cases fn <;> simp [trOp] at h
  | makeMap t r => cases r <;> simp [trOp] at h
  | defer c => cases hc : c.callee <;> simp [trOp, hc] at h
  | next x b => cases b <;> simp [trOp] at h
  | _ => simp only [trOp] at h <;> first | cases h | (repeat' split at h) <;> cases h
theorem trOp_defer {c : Call} : trOp P (.defer c) = .defer ∨ trOp P (.defer c) = .bad := by
  cases hc : c.callee <;> simp [trOp, hc]
theorem trOp_next {o : Op} (h : trOp P o = .next) : ∃ x, o = .next x false := by
  cases o with
  | next x b => cases b with
    | false => exact ⟨x, rfl⟩
    | true => simp [trOp] at h
  | call c =>
    cases hc : c.callee with
    | value f => simp [trOp, hc] at h
    | invoke _ _ => simp [trOp, hc] at h
    | builtin b =>
      simp only [trOp, hc] at h
      split at h <;> first | cases h | (split at h <;> first | cases h | (split at h <;> first | cases h | (split at h <;> cases h)))
  | binOp op t x y u => cases op <;> simp only [trOp] at h <;> first | cases h | (split at h <;> first | cases h | (split at h <;> cases h))
  | makeFunc fn a b => cases fn <;> simp [trOp] at h
  | makeMap t r => cases r <;> simp [trOp] at h
  | defer c => cases hc : c.callee <;> simp [trOp, hc] at h
  | _ => simp only [trOp] at h <;> first | cases h | (repeat' split at h) <;> cases h
theorem doOpW_cases {op : AOp} {args : List AV} {h : AHeap} {Q : AV → AHeap → Prop} (hd : doOpW C op args h Q) : op = .callv ∨ op = .next ∨ (op ≠ .callv ∧ ∃ v h', aop op args h = some (v, h') ∧ Q v h') := by
  unfold doOpW at hd
  split at hd
  · exact .inl rfl
  · exact .inr (.inl rfl)
  · rename_i hn _
    refine .inr (.inr ⟨hn, ?_⟩)
    split at hd
    · exact ⟨_, _, by assumption, hd⟩
    · exact hd.elim
theorem op_stepW (hC : CSound P Λ C) {ops : Array Oper} {j : Nat} {o : Oper} {vs : List AV} {h : AHeap} {Q : AV → AHeap → Prop} {μ : Mu} {w : World} {a : Act} {b : Frame} {rest : List Nat} {k : List Item} (ho : ops[j]? = some o) (hwant : Region.wanted o (yielded ops a.tmps) = true)
    (hvr : VRL μ vs (o.op.operands.toList.map a.eval)) (hdo : doOpW C (trOp P o.op) vs h Q) (hr : Rel Λ μ h w) (cs : List Frame) :
    ∃ v h1 cv w' μ', Q v h1 ∧ Steps P (lone (Fat b a (.inRegion ops (j :: rest) :: k)) cs w) (lone (Fat b (a.put o.dst cv) (.inRegion ops rest :: k)) cs w') ∧ VR μ' v cv ∧ Rel Λ μ' h1 w' ∧ Step μ h w μ' h1 w' := by
  have hfin : ∀ cv, (Fat b a (.inRegion ops (j :: rest) :: k)).finish cv = Fat b (a.put o.dst cv) (.inRegion ops rest :: k) := fun cv => by rw [Fat_finish, ho]; rfl
  rcases doOpW_cases hdo with hcall | hnext | ⟨hnc, v, h1, haop, hq⟩
  · obtain ⟨c, f, hoc, hcal⟩ := trOp_callv hcall
    rw [hcall] at hdo
    simp only [doOpW] at hdo
    have hopl : o.op.operands.toList.map a.eval = a.eval f :: c.args.toList.map a.eval := by rw [hoc]; simp [Op.operands, Call.operands, hcal]
    rw [hopl] at hvr
    split at hdo
    · rename_i f0 first captured rest0
      simp only [VRL] at hvr
      obtain ⟨cf, crest, hcc, vf, vrest⟩ := hvr
      simp only [List.cons.injEq] at hcc
      obtain ⟨hcf, hcr⟩ := hcc
      simp only [VR] at vf
      obtain ⟨xs, ys, vx, vy, hcf2⟩ := vf
      rw [hcf2] at hcf
      rw [← hcr] at vrest
      have hargs2 : VRL μ (first ++ rest0 ++ captured) (xs ++ c.args.toList.map a.eval ++ ys) := (vx.append vrest).append vy
      obtain ⟨r, h', fr, w', μ', cv, hq, hst, hfn, hlv, hvv, hrel, hstep⟩ := hC.fn f0 _ h Q μ w _ hdo hr hargs2 (Fat b a (.inRegion ops (j :: rest) :: k) :: cs)
      refine ⟨r, h', cv, w', μ', hq, ?_, hvv, hrel, hstep⟩
      have hrunop : (execOp a.eval o).run P w = .ok (.enter f0 (xs ++ c.args.toList.map a.eval ++ ys).toArray) w := by
        have hent := hC.ent _ _ _ _ hdo (xs ++ c.args.toList.map a.eval ++ ys).toArray w
        have e1 : xs.toArray ++ c.args.map a.eval ++ ys.toArray = (xs ++ c.args.toList.map a.eval ++ ys).toArray := by apply Array.ext'; simp
        simp only [execOp, hoc, resolve, hcal, hcf, Deferred.ofValue, Sem.run_bind, Sem.run_pure, Result.andThen_ok, invoke, e1]
        exact hent
      refine (Steps.one (st_op_enter ho hwant (fun c' hc' => by rw [hoc] at hc'; cases hc') hrunop)).trans (hst.trans (Steps.one ?_))
      rw [← hfin]; exact step_leave_returned hlv
    · rename_i l rest0
      simp only [VRL] at hvr
      obtain ⟨cf, crest, hcc, vf, vrest⟩ := hvr
      simp only [List.cons.injEq] at hcc
      obtain ⟨hcf, hcr⟩ := hcc
      simp only [VR] at vf
      obtain ⟨m, hm, hcf2⟩ := vf
      rw [hcf2] at hcf
      rw [← hcr] at vrest
      obtain ⟨lc, r, hlc, hlp, hsz, hgo⟩ := hC.rnd l _ h Q μ w _ hdo hr vrest
      rw [hm] at hlc; cases hlc
      obtain ⟨rv, h', w', μ', cv, hq, hst, hvv, hrel, hstep⟩ := hgo (Fat b a (.inRegion ops (j :: rest) :: k)) cs
      refine ⟨rv, h', cv, w', μ', hq, ?_, hvv, hrel, hstep⟩
      have hrunop : (execOp a.eval o).run P w = .ok (.round m.block r.fn ((r.params.zip (c.args.toList.map a.eval).toArray).foldl (fun tmps (t, a) => tmps.setIfInBounds t a) r.tmps) r.assign r.body) w := by
        have e1 : c.args.map a.eval = (c.args.toList.map a.eval).toArray := by apply Array.ext'; simp
        have hsz' : ¬ (c.args.toList.map a.eval).toArray.size ≠ r.params.size := by simpa using hsz
        simp only [execOp, hoc, resolve, hcal, hcf, Deferred.ofValue, Sem.run_bind, Sem.run_pure, Result.andThen_ok, invoke, Array.empty_append, e1, Instr.yield, Instr.getLoop]
        have hgl : (getObj m.block).run P w = .ok (.loop r) w := by simp [getObj, Sem.run, hlp]
        simp only [hgl, Result.andThen_ok, Sem.run_pure, hsz', if_false]
      refine (Steps.one (st_op_round ho hwant (fun c' hc' => by rw [hoc] at hc'; cases hc') hrunop)).trans ?_
      rw [← hfin]; exact hst
    · exact hdo.elim
  · obtain ⟨x, hox⟩ := trOp_next hnext
    rw [hnext] at hdo
    obtain ⟨r, h', hq, μ', w', cv, hrunop, hv, hrel, hstep⟩ := op_next (o := o) (ρ := a.eval) hox hdo (by rw [hox] at hvr; simpa [Op.operands] using hvr) hr
    exact ⟨r, h', cv, w', μ', hq, Steps.one (st_op_value ho hwant (fun c' hc' => by rw [hox] at hc'; cases hc') (hrunop.imp id (fun x => x))), hv, hrel, hstep⟩
  · obtain ⟨μ', w', cv, hrunop, hv, hrel, hstep⟩ := op_sound (o := o) (ρ := a.eval) haop hvr hr
    refine ⟨v, h1, cv, w', μ', hq, Steps.one (st_op_value ho hwant (fun c' hc' => ?_) (hrunop.imp id (fun x => x))), hv, hrel, hstep⟩
    rcases trOp_defer (P := P) (c := c') with hh | hh <;> rw [hc', hh] at haop <;> simp [aop] at haop
theorem skip_step {ops : Array Oper} {j : Nat} {o : Oper} {w : World} {a : Act} {b : Frame} {rest : List Nat} {k : List Item} (ho : ops[j]? = some o) (hwant : Region.wanted o (yielded ops a.tmps) = false) (cs : List Frame) :
    Steps P (lone (Fat b a (.inRegion ops (j :: rest) :: k)) cs w) (lone (Fat b (a.put o.dst undef) (.inRegion ops rest :: k)) cs w) := by
  have := st_op_skip (P := P) (b := b) (a := a) (k := k) (cs := cs) (w := w) (ops := ops) (i := j) (rest := rest) (by simp [ho, hwant])
  rw [ho] at this
  exact Steps.one this
theorem VR.undef (μ : Mu) : VR μ (.tuple []) undef := by simp only [VR, VRL, Go.undef]; exact ⟨[], rfl, rfl⟩
theorem in_sound (hC : CSound P Λ C) {ops : Array Oper} {j : Nat} {o : Oper} {i : AIn} {e : List AV} {h : AHeap} {Q : List AV → AHeap → Prop} {μ : Mu} {w : World} {a : Act} {b : Frame} {rest : List Nat} {k : List Item} (ho : ops[j]? = some o) (ht : trIn P ops o = some i)
    (hrun : runInW C i e h Q) (hr : Rel Λ μ h w) (he : EnvR μ e a.tmps) (cs : List Frame) :
    ∃ e' h' a' w' μ', Q e' h' ∧ Steps P (lone (Fat b a (.inRegion ops (j :: rest) :: k)) cs w) (lone (Fat b a' (.inRegion ops rest :: k)) cs w') ∧ a'.defers = a.defers ∧ EnvR μ' e' a'.tmps ∧ Rel Λ μ' h' w' ∧ Step μ h w μ' h' w' := by
  obtain ⟨args, hargs, hdst, hop, hia⟩ := trIn_parts ht
  unfold runInW at hrun
  split at hrun
  · rename_i hw
    have hwant := wanted_ok he ht hw
    split at hrun
    · rename_i vs hvs
      have hvr : VRL μ vs (o.op.operands.toList.map a.eval) := opds_ok he hargs (by rw [← hia]; exact hvs)
      obtain ⟨v, h1, cv, w', μ', hq, s, hv, hrel, hstep⟩ := op_stepW (b := b) (rest := rest) (k := k) hC ho hwant hvr (by rw [← hop]; exact hrun) hr cs
      exact ⟨_, h1, a.put o.dst cv, w', μ', hq, s, by cases o.dst <;> rfl, by rw [hdst]; exact (he.ext hstep.ext).put hv o.dst, hrel, hstep⟩
    · exact hrun.elim
  · rename_i hw
    have hwant := wanted_ok he ht hw
    exact ⟨_, h, a.put o.dst undef, w, μ, hrun, skip_step ho hwant cs, by cases o.dst <;> rfl, by rw [hdst]; exact he.put (VR.undef μ) o.dst, hr, Step.refl _ _ _⟩
  · exact hrun.elim
theorem ins_sound (hC : CSound P Λ C) {ops : Array Oper} {b : Frame} {k : List Item} (cs : List Frame) : ∀ (os : List Oper) (is : List AIn) (j : Nat) (e : List AV) (h : AHeap) (Q : List AV → AHeap → Prop) (μ : Mu) (w : World) (a : Act), ops.toList.drop j = os → trIns P ops os = some is →
    runInsW C is e h Q → Rel Λ μ h w → EnvR μ e a.tmps →
    ∃ e' h' a' w' μ', Q e' h' ∧ Steps P (lone (Fat b a (.inRegion ops (List.range' j (ops.size - j)) :: k)) cs w) (lone (Fat b a' k) cs w') ∧ a'.defers = a.defers ∧ EnvR μ' e' a'.tmps ∧ Rel Λ μ' h' w' ∧ Step μ h w μ' h' w'
  | [], is, j, e, h, Q, μ, w, a, hd, ht, hrun, hr, he => by
    simp only [trIns] at ht; cases ht
    simp only [runInsW] at hrun
    have hj : ops.size - j = 0 := by
      have := congrArg List.length hd
      simpa using this
    refine ⟨e, h, a, w, μ, hrun, Steps.one ?_, rfl, he, hr, Step.refl _ _ _⟩
    rw [hj]
    exact st_region_end
  | o :: os, is, j, e, h, Q, μ, w, a, hd, ht, hrun, hr, he => by
    simp only [trIns] at ht
    split at ht
    · rename_i i is' hi his
      cases ht
      simp only [runInsW] at hrun
      have hlt : j < ops.size := by
        have := congrArg List.length hd
        simp at this; omega
      have ho : ops[j]? = some o := by
        have := congrArg (fun l => l[0]?) hd
        simp only [List.getElem?_drop, Nat.add_zero, List.getElem?_cons_zero, Array.getElem?_toList] at this
        exact this
      obtain ⟨n, hn⟩ : ∃ n, ops.size - j = n + 1 := ⟨ops.size - j - 1, by omega⟩
      obtain ⟨e1, h1, a1, w1, μ1, q1, s1, d1, v1, r1, t1⟩ := in_sound (b := b) (rest := List.range' (j + 1) n) (k := k) hC ho hi hrun hr he cs
      have hd' : ops.toList.drop (j + 1) = os := by
        rw [← List.tail_drop, hd]; rfl
      obtain ⟨e2, h2, a2, w2, μ2, q2, s2, d2, v2, r2, t2⟩ := ins_sound hC cs os is' (j + 1) e1 h1 Q μ1 w1 a1 hd' his q1 r1 v1
      refine ⟨e2, h2, a2, w2, μ2, q2, ?_, d2.trans d1, v2, r2, t1.trans t2⟩
      have hn2 : ops.size - (j + 1) = n := by omega
      rw [hn2] at s2
      rw [hn, List.range'_succ]
      exact s1.trans s2
    · cases ht
end
end Go.Proofs.YtlkfclgkinaibaaGreat

namespace Go.Proofs.YtlkfclgkinaibaaGreat
section
variable {P : Program} {C : SemW}
theorem map_pure {α : Type} {X : Option α} {g : α → AV} {h h' : AHeap} {v : AV} (e : X.map (fun x => (g x, h)) = some (v, h')) : h' = h ∧ ∀ h2 : AHeap, X.map (fun x => (g x, h2)) = some (v, h2) := by
  cases X with
  | none => cases e
  | some x => cases e; exact ⟨rfl, fun _ => rfl⟩
theorem aop_pure {o : AOp} (hc : cls o = 0) {args : List AV} {h h' : AHeap} {v : AV} (e : aop o args h = some (v, h')) : h' = h ∧ ∀ h2, aop o args h2 = some (v, h2) := by
  cases o <;> simp only [cls] at hc <;> first | (exact absurd hc (by decide)) | skip
  all_goals
    simp only [aop] at e ⊢
    (repeat' split at e) <;> first
      | (cases e; done)
      | (cases e; simp_all; done)
      | exact map_pure e
      | (have hneg := ‹¬_›; simp only [hneg, if_false]; exact map_pure e)
      | (have hpos := ‹_ = true›; simp only [hpos, if_true]; exact map_pure e)
      | (have hes := ‹_ = _›; simp only [hes, if_true]; exact map_pure e)
      | skip
  · rename_i hes mx0
    obtain ⟨x, hx, e2⟩ := Option.bind_eq_some_iff.1 e
    refine ⟨by split at e2 <;> cases e2 <;> rfl, fun h2 => ?_⟩
    rw [if_pos hes, hx, Option.bind_some]
    split at e2
    · rename_i hc2; rw [if_pos hc2]; cases e2; rfl
    · rename_i hc2; rw [if_neg hc2]; cases e2; rfl
  · rename_i hes mx0
    refine ⟨(map_pure e).1, fun h2 => ?_⟩
    rw [if_pos hes]; exact (map_pure e).2 h2
  · rename_i hh
    refine ⟨(map_pure e).1, fun h2 => ?_⟩
    rw [if_pos hh]; exact (map_pure e).2 h2
  · rename_i hh
    cases e; exact ⟨rfl, fun h2 => by rw [if_neg hh]⟩
  · rename_i hh
    cases e; exact ⟨rfl, fun h2 => by rw [if_neg hh]⟩
theorem aop_read {o : AOp} (hc : cls o = 1) {args : List AV} {h h' : AHeap} {v : AV} (e : aop o args h = some (v, h')) : h' = h := by
  cases o <;> simp only [cls] at hc <;> first | (exact absurd hc (by decide)) | skip
  all_goals
    simp only [aop] at e
    (repeat' split at e) <;> first
      | (cases e; done)
      | (cases e; rfl)
      | (simp only [Option.map_eq_some_iff, Prod.mk.injEq] at e; obtain ⟨x, h1, h2, rfl⟩ := e; rfl)
theorem wantedA_congr {e f : List AV} {g : Option (Nat × Bool)} (h : ∀ s q, g = some (s, q) → e[s]? = f[s]?) : wantedA e g = wantedA f g := by
  cases g with
  | none => rfl
  | some p => obtain ⟨s, q⟩ := p; simp only [wantedA, h s q rfl]
theorem evalL_congr {e f : List AV} : ∀ {os : List Opd}, (∀ t, t ∈ os.flatMap Opd.slot → e[t]? = f[t]?) → evalL e os = evalL f os
  | [], _ => rfl
  | o :: os, h => by
    have h1 : o.eval e = o.eval f := by
      cases o with
      | tmp t => simp only [Opd.eval, h t (by simp [Opd.slot])]
      | lit v => rfl
    simp only [evalL, h1, evalL_congr (os := os) fun t ht => h t (by simp only [List.flatMap_cons, List.mem_append]; exact .inr ht)]
theorem setDst_get {e : List AV} {d : Option Nat} {v : AV} {t : Nat} (h : t ∉ d.toList) : (setDst e d v)[t]? = e[t]? := by
  cases d with
  | none => rfl
  | some i =>
    simp only [setDst, List.getElem?_set]
    rw [if_neg (fun e => h (by simp [e]))]
theorem setDst_length {e : List AV} {d : Option Nat} {v : AV} : (setDst e d v).length = e.length := by cases d <;> simp [setDst]
structure Chk (pre : List (List Nat)) (done : List DI) (d : DI) (b : List DI) : Prop where
  out : ∀ t, t ∈ d.i.reads ∨ t ∈ d.i.dsts → ∀ x, x ∈ b → x.fin = false → t ∉ x.i.dsts
  self : ∀ t, t ∈ d.i.reads → t ∉ d.i.dsts
  wait : ∀ t, t ∈ d.i.reads → ∀ x, x ∈ done → t ∈ x.i.dsts → x.j ∈ (pre[d.j]?).getD []
  bar : ∀ x, x ∈ done → x.fin = true → x.j ∈ (pre[d.j]?).getD []
  eff : d.eff = false → ∀ x, done.find? DI.eff = some x → x.j ∈ (pre[d.j]?).getD []
  fin : d.fin = true → ∀ x, x ∈ done → x.j ∈ (pre[d.j]?).getD []
  red : d.eff = true → ∀ x, x ∈ done → cls x.i.op = 1 → x.j ∈ (pre[d.j]?).getD [] ∨ ∃ r, r ∈ d.rs ∧ r.1 = x.j
  rsd : ∀ r, r ∈ d.rs → ∃ x, x ∈ done ∧ x.j = r.1
  rsc : ∀ r, r ∈ d.rs → cls r.2.op ≠ 2
  once : ∀ x, x ∈ done → x.j ≠ d.j
theorem okGo_chk {pre : List (List Nat)} {done : List DI} {d : DI} {b : List DI} (h : okGo pre done (d :: b) = true) : Chk pre done d b ∧ okGo pre (d :: done) b = true := by
  simp only [okGo, Bool.and_eq_true, List.all_eq_true, List.mem_append, Bool.not_eq_true', Bool.or_eq_true, List.any_eq_true, beq_iff_eq, bne_iff_ne, List.contains_iff_mem, ne_eq] at h
  obtain ⟨⟨⟨⟨⟨⟨⟨⟨⟨⟨h1, h2⟩, h3⟩, h4⟩, h44⟩, h45⟩, h5⟩, h6⟩, h7⟩, h8⟩, h9⟩ := h
  refine ⟨⟨fun t ht x hx hf hc => ?_, fun t ht hc => ?_, fun t ht x hx hc => ?_, fun x hx hf => ?_, fun hd x hx => ?_, fun hf x hx => ?_, fun hc x hx hx1 => ?_, h6, h7, h8⟩, h9⟩
  · rcases h1 t ht x hx with h | h
    · simp [hc] at h
    · rw [hf] at h; cases h
  · have := h2 t ht; simp [hc] at this
  · rcases h3 t ht x hx with h | h
    · simp [hc] at h
    · exact h
  · rcases h4 x hx with h | h
    · rw [hf] at h; cases h
    · exact h
  · rcases h44 with h | h
    · rw [hd] at h; cases h
    · rw [hx] at h; exact List.contains_iff_mem.1 h
  · rcases h45 with h | h
    · rw [hf] at h; cases h
    · exact h x hx
  · rcases h5 with h | h
    · rw [hc] at h; cases h
    · rcases h x hx with (h | h) | ⟨r, hr, he⟩
      · exact absurd hx1 h
      · exact .inl h
      · exact .inr ⟨r, hr, he⟩
theorem DI.bar_false {d : DI} : d.bar = false ↔ cls d.i.op ≠ 2 ∧ d.fin = false := by
  unfold DI.bar DI.eff
  cases d.fin <;> simp
def QFact (e : List AV) (i : AIn) (h : AHeap) : Prop :=
  (wantedA e i.guard = some true ∧ ∃ args v, evalL e i.args = some args ∧ aop i.op args h = some (v, h) ∧ ∀ d x, i.dst = some d → e[d]? = some x → x = v) ∨
  (wantedA e i.guard = some false ∧ ∀ d x, i.dst = some d → e[d]? = some x → x = .tuple [])
theorem cls_le (o : AOp) : cls o ≤ 2 := by cases o <;> simp [cls]
theorem aop_quiet {o : AOp} (hc : cls o ≠ 2) {args : List AV} {h h' : AHeap} {v : AV} (e : aop o args h = some (v, h')) : h' = h := by
  by_cases h0 : cls o = 0
  · exact (aop_pure h0 e).1
  · exact aop_read (by have := cls_le o; omega) e
theorem QFact.congr {e f : List AV} {i : AIn} {h : AHeap} (q : QFact e i h) (hr : ∀ t, t ∈ i.reads → f[t]? = e[t]?) (hd : ∀ t, t ∈ i.dsts → f[t]? = e[t]?) : QFact f i h := by
  have hw : wantedA f i.guard = wantedA e i.guard := wantedA_congr fun s q hg => hr s (by simp [AIn.reads, hg])
  have ha : evalL f i.args = evalL e i.args := evalL_congr fun t ht => hr t (by simp only [AIn.reads, List.mem_append]; exact .inl ht)
  rcases q with ⟨q0, args, v, q1, q2, q3⟩ | ⟨q0, q3⟩
  · exact .inl ⟨hw.trans q0, args, v, ha.trans q1, q2, fun d x h1 h2 => q3 d x h1 (by rw [← hd d (by simp [AIn.dsts, h1])]; exact h2)⟩
  · exact .inr ⟨hw.trans q0, fun d x h1 h2 => q3 d x h1 (by rw [← hd d (by simp [AIn.dsts, h1])]; exact h2)⟩
theorem QFact.pure {e : List AV} {i : AIn} {h : AHeap} (q : QFact e i h) (hc : cls i.op = 0) (h2 : AHeap) : QFact e i h2 := by
  rcases q with ⟨q0, args, v, q1, q2, q3⟩ | q
  · exact .inl ⟨q0, args, v, q1, (aop_pure hc q2).2 h2, q3⟩
  · exact .inr q
theorem QFact.again {e : List AV} {i : AIn} {h h' : AHeap} (q : QFact e i h) (hc : cls i.op ≠ 2) (ha : again i e h' = true) : QFact e i h' := by
  unfold Go.Proofs.YtlkfclgkinaibaaGreat.again at ha
  split at ha
  · rename_i h0
    rcases q with ⟨q0, _⟩ | ⟨q0, q3⟩
    · rw [q0] at h0; cases h0
    · exact .inr ⟨h0, q3⟩
  · rename_i h0
    split at ha
    · rename_i args h1
      split at ha
      · rename_i v h2 h3
        have e2 := aop_quiet hc h3
        subst e2
        refine .inl ⟨h0, args, v, h1, h3, fun d x hd hx => ?_⟩
        rw [hd] at ha
        simp only [hx] at ha
        exact (AV.same_eq _ _ ha).symm
      · cases ha
    · cases ha
  · cases ha
theorem setDst_dst {e : List AV} {d : Nat} {v x : AV} (h : (setDst e (some d) v)[d]? = some x) : x = v := by
  simp only [setDst, List.getElem?_set, if_true] at h
  split at h
  · cases h; rfl
  · cases h
theorem runIn_quiet {i : AIn} {e : List AV} {h : AHeap} {K : List AV → AHeap → Prop} (hc : cls i.op ≠ 2) (hself : ∀ t, t ∈ i.reads → t ∉ i.dsts) (hr : runInW C i e h K) :
    ∃ v, K (setDst e i.dst v) h ∧ QFact (setDst e i.dst v) i h := by
  have key : ∀ v, (∀ t, t ∈ i.reads → (setDst e i.dst v)[t]? = e[t]?) := fun v t ht => setDst_get (hself t ht)
  have hw : ∀ v, wantedA (setDst e i.dst v) i.guard = wantedA e i.guard := fun v => wantedA_congr fun s q hg => key v s (by simp [AIn.reads, hg])
  have ha : ∀ v, evalL (setDst e i.dst v) i.args = evalL e i.args := fun v => evalL_congr fun t ht => key v t (by simp only [AIn.reads, List.mem_append]; exact .inl ht)
  unfold runInW at hr
  split at hr
  · rename_i h0
    split at hr
    · rename_i args h1
      rcases doOpW_cases hr with hcall | hnext | ⟨_, v, h', h2, h3⟩
      · rw [hcall] at hc; exact absurd rfl hc
      · rw [hnext] at hc; exact absurd rfl hc
      · have e2 := aop_quiet hc h2
        subst e2
        refine ⟨v, h3, .inl ⟨(hw v).trans h0, args, v, (ha v).trans h1, h2, fun d x hd hx => ?_⟩⟩
        rw [hd] at hx
        exact setDst_dst hx
    · exact hr.elim
  · rename_i h0
    refine ⟨_, hr, .inr ⟨(hw _).trans h0, fun d x hd hx => ?_⟩⟩
    rw [hd] at hx
    exact setDst_dst hx
  · exact hr.elim
theorem quiet_run {pre : List (List Nat)} : ∀ {l done : List DI} {e : List AV} {h : AHeap} {Q : List AV → AHeap → Prop}, okGo pre done l = true → runDrawW C l e h Q →
    ∃ qs l2 e', l = qs ++ l2 ∧ (∀ x, x ∈ qs → x.bar = false) ∧ (∀ d b, l2 = d :: b → d.bar = true) ∧ runDrawW C l2 e' h Q ∧ (∀ x, x ∈ qs → QFact e' x.i h) ∧ (∀ t, (∀ x, x ∈ qs → t ∉ x.i.dsts) → e'[t]? = e[t]?) ∧ e'.length = e.length
  | [], done, e, h, Q, _, hr => ⟨[], [], e, rfl, by simp, (fun d b h => by cases h), hr, by simp, fun _ _ => rfl, rfl⟩
  | d :: b, done, e, h, Q, hok, hr => by
    obtain ⟨chk, hok'⟩ := okGo_chk hok
    cases hc : d.bar with
    | true => exact ⟨[], d :: b, e, rfl, by simp, (fun d' b' h => by cases h; exact hc), hr, by simp, fun _ _ => rfl, rfl⟩
    | false =>
      obtain ⟨hc2, _⟩ := DI.bar_false.1 hc
      simp only [runDrawW] at hr
      obtain ⟨v, ⟨_, hk⟩, hq⟩ := runIn_quiet hc2 chk.self hr
      obtain ⟨qs, l2, e', h1, h2, h3, h4, h5, h6, h7⟩ := quiet_run hok' hk
      have hqs : ∀ x, x ∈ qs → x ∈ b := fun x hx => by rw [h1]; simp [hx]
      have hqf : ∀ x, x ∈ qs → x.fin = false := fun x hx => (DI.bar_false.1 (h2 x hx)).2
      refine ⟨d :: qs, l2, e', by rw [h1]; rfl, fun x hx => ?_, h3, h4, fun x hx => ?_, fun t ht => ?_, by rw [h7, setDst_length]⟩
      · rcases List.mem_cons.1 hx with rfl | hx
        · exact hc
        · exact h2 x hx
      · rcases List.mem_cons.1 hx with rfl | hx
        · exact hq.congr (fun t ht => h6 t fun x hx => chk.out t (.inl ht) x (hqs x hx) (hqf x hx)) (fun t ht => h6 t fun x hx => chk.out t (.inr ht) x (hqs x hx) (hqf x hx))
        · exact h5 x hx
      · rw [h6 t fun x hx => ht x (by simp [hx])]
        exact setDst_get (ht d (by simp))
end
end Go.Proofs.YtlkfclgkinaibaaGreat

namespace Go.Proofs.YtlkfclgkinaibaaGreat
variable {Λ : Lam}
section
variable {P : Program} {C : SemW}
def maskE (q : Nat → Bool) (e : List AV) : List AV := e.mapIdx fun t v => if q t then v else .junk
theorem maskE_get (q : Nat → Bool) (e : List AV) (t : Nat) : (maskE q e)[t]? = (e[t]?).map fun v => if q t then v else .junk := by
  simp [maskE, List.getElem?_mapIdx]
theorem maskE_length (q : Nat → Bool) (e : List AV) : (maskE q e).length = e.length := by simp [maskE]
theorem maskE_keep {q : Nat → Bool} {e : List AV} {t : Nat} (h : q t = true) : (maskE q e)[t]? = e[t]? := by
  rw [maskE_get]; cases e[t]? <;> simp [h]
theorem maskE_all {q : Nat → Bool} {e : List AV} (h : ∀ t, q t = true) : maskE q e = e := by
  apply List.ext_getElem?
  intro t
  exact maskE_keep (h t)
theorem EnvR.unmask {μ : Mu} {q q' : Nat → Bool} {e : List AV} {t : Array Value} (h : EnvR μ (maskE q e) t) (hq : ∀ s, q' s = true → q s = true) : EnvR μ (maskE q' e) t := by
  refine ⟨by rw [maskE_length]; have := h.1; rwa [maskE_length] at this, fun i v hv => h.2 i v ?_⟩
  rw [maskE_get] at hv ⊢
  cases he : e[i]? with
  | none => rw [he] at hv; cases hv
  | some x =>
    rw [he] at hv
    simp only [Option.map_some, Option.bind_some] at hv ⊢
    by_cases hi : q' i = true
    · rw [if_pos hi] at hv; rw [if_pos (hq i hi)]; exact hv
    · rw [if_neg hi] at hv; cases hv
theorem EnvR.wrote {μ μ' : Mu} {q q' : Nat → Bool} {e : List AV} {a : Act} {v : AV} {cv : Value} {dst : Option Nat} (h : EnvR μ (maskE q e) a.tmps) (hx : Ext μ μ') (hv : VR μ' v cv) (hd : ∀ d x, dst = some d → e[d]? = some x → x = v)
    (hq : ∀ t, q' t = true → t ∉ dst.toList → q t = true) : EnvR μ' (maskE q' e) (a.put dst cv).tmps := by
  have hlen : e.length ≤ a.tmps.size := by have := h.1; rwa [maskE_length] at this
  have h0 := h.ext hx
  cases dst with
  | none => exact h0.unmask fun s hs => hq s hs (by simp)
  | some d =>
    have hsz : (a.put (some d) cv).tmps = a.tmps.setIfInBounds d cv := rfl
    rw [hsz]
    refine ⟨by rw [maskE_length]; simpa using hlen, fun i x hx => ?_⟩
    by_cases hid : i = d
    · subst hid
      rw [maskE_get] at hx
      cases he : e[i]? with
      | none => rw [he] at hx; cases hx
      | some y =>
        rw [he] at hx
        simp only [Option.map_some, Option.bind_some] at hx
        by_cases hi : q' i = true
        · rw [if_pos hi] at hx
          have e1 := notJunk_some hx
          have e2 := hd i y rfl he
          subst e1; subst e2
          have hlt : i < e.length := (List.getElem?_eq_some_iff.1 he).1
          refine ⟨cv, ?_, hv⟩
          rw [Array.getElem?_setIfInBounds, if_pos rfl, if_pos (by omega)]
        · rw [if_neg hi] at hx; cases hx
    · have h1 : (( maskE q e)[i]?).bind AV.notJunk = some x := by
        rw [maskE_get] at hx ⊢
        cases he : e[i]? with
        | none => rw [he] at hx; cases hx
        | some y =>
          rw [he] at hx
          simp only [Option.map_some, Option.bind_some] at hx ⊢
          by_cases hi : q' i = true
          · rw [if_pos hi] at hx; rw [if_pos (hq i hi (by simp [hid]))]; exact hx
          · rw [if_neg hi] at hx; cases hx
      obtain ⟨c, p, r⟩ := h0.2 i x h1
      exact ⟨c, by rw [Array.getElem?_setIfInBounds, if_neg (fun e => hid e.symm)]; exact p, r⟩
theorem okGo_split {pre : List (List Nat)} : ∀ {p : List DI} {done : List DI} {d : DI} {b : List DI}, okGo pre done (p ++ d :: b) = true → Chk pre (p.reverse ++ done) d b
  | [], done, d, b, h => (okGo_chk h).1
  | x :: p, done, d, b, h => by
    have := okGo_split (okGo_chk (d := x) (b := p ++ d :: b) h).2
    simpa using this
theorem mkRs_mem {I : List AIn} : ∀ {rs : List Nat} {rs' : List (Nat × AIn)}, mkRs I rs = some rs' → ∀ r, r ∈ rs' → I[r.1]? = some r.2
  | [], rs', h, r, hr => by simp only [mkRs] at h; cases h; cases hr
  | j :: js, rs', h, r, hr => by
    simp only [mkRs] at h
    split at h
    · rename_i i rs1 h1 h2
      cases h
      rcases List.mem_cons.1 hr with rfl | hr
      · exact h1
      · exact mkRs_mem h2 r hr
    · cases h
theorem mkDraw_mem {I : List AIn} : ∀ {l : List (Nat × List Nat × Bool)} {ds : List DI}, mkDraw I l = some ds → ∀ d, d ∈ ds → I[d.j]? = some d.i ∧ ∀ r, r ∈ d.rs → I[r.1]? = some r.2
  | [], ds, h, d, hd => by simp only [mkDraw] at h; cases h; cases hd
  | (j, rs, fin) :: l, ds, h, d, hd => by
    simp only [mkDraw] at h
    split at h
    · rename_i i rs1 ds1 h1 h2 h3
      cases h
      rcases List.mem_cons.1 hd with rfl | hd
      · exact ⟨h1, mkRs_mem h2⟩
      · exact mkDraw_mem h3 d hd
    · cases h
theorem trIns_get {ops : Array Oper} : ∀ {os : List Oper} {is : List AIn}, trIns P ops os = some is → ∀ (j : Nat) (i : AIn), is[j]? = some i → ∃ o, os[j]? = some o ∧ trIn P ops o = some i
  | [], is, h, j, i, hj => by simp only [trIns] at h; cases h; simp at hj
  | o :: os, is, h, j, i, hj => by
    simp only [trIns] at h
    split at h
    · rename_i i1 is1 h1 h2
      cases h
      cases j with
      | zero => simp only [List.getElem?_cons_zero, Option.some.injEq] at hj; subst hj; exact ⟨o, rfl, h1⟩
      | succ j => simp only [List.getElem?_cons_succ] at hj ⊢; exact trIns_get h2 j i hj
    · cases h
theorem preOk_get {pre : List (List Nat)} : ∀ {os : List Oper} {i : Nat}, preOk pre os i = true → ∀ k o, os[k]? = some o → (∀ d, d ∈ hard o → d < i + k) ∧ ∀ j, j ∈ (pre[i + k]?).getD [] → ∃ d, d ∈ hard o ∧ (d = j ∨ j ∈ (pre[d]?).getD [])
  | [], i, _, k, o, hk => by simp at hk
  | o' :: os, i, h, k, o, hk => by
    simp only [preOk, Bool.and_eq_true, List.all_eq_true, decide_eq_true_eq, List.any_eq_true, Bool.or_eq_true, beq_iff_eq, List.contains_iff_mem] at h
    cases k with
    | zero =>
      simp only [List.getElem?_cons_zero, Option.some.injEq] at hk
      subst hk
      exact ⟨h.1.1, h.1.2⟩
    | succ k =>
      simp only [List.getElem?_cons_succ] at hk
      have := preOk_get h.2 k o hk
      rw [show i + 1 + k = i + (k + 1) by omega] at this
      exact this
def On (L : Array Bool) (i : Nat) : Prop := L[i]? = some true
theorem On.set {L : Array Bool} {i j : Nat} (h : On L j) : On (L.setIfInBounds i true) j := by
  unfold On at *
  rw [Array.getElem?_setIfInBounds]
  split
  · rename_i e; subst e
    split
    · rfl
    · rename_i hs; rw [Array.getElem?_eq_none (by omega)] at h; cases h
  · exact h
theorem On.of_set {L : Array Bool} {i j : Nat} (h : On (L.setIfInBounds i true) j) : j = i ∨ On L j := by
  unfold On at *
  rw [Array.getElem?_setIfInBounds] at h
  split at h
  · rename_i e; exact .inl e.symm
  · exact .inr h
theorem ready_spec {ops : Array Oper} {L : Array Bool} {i : Nat} (h : i ∈ Region.ready .any ops L) : i < ops.size ∧ ¬ On L i ∧ ∃ o, ops[i]? = some o ∧ ∀ d, d ∈ hard o → On L d := by
  simp only [Region.ready, List.mem_filter, List.mem_range, Bool.and_eq_true, Bool.not_eq_true'] at h
  obtain ⟨h1, h2, h3⟩ := h
  refine ⟨h1, fun e => ?_, ops[i], by simp [h1], fun d hd => ?_⟩
  · unfold On at e
    rw [Array.getD_eq_getD_getElem?, e] at h2; simp at h2
  · rw [Array.getElem?_eq_getElem h1] at h3
    simp only [Option.map_some, Option.getD_some, Array.all_eq_true, Bool.or_eq_true, Bool.not_eq_true'] at h3
    simp only [hard, List.mem_map, List.mem_filter] at hd
    obtain ⟨e, ⟨he, hb⟩, rfl⟩ := hd
    obtain ⟨n, hn, rfl⟩ := Array.mem_iff_getElem.1 (Array.mem_toList_iff.1 he)
    rcases h3 n hn with h | h
    · rw [h] at hb; cases hb
    · unfold On
      rw [Array.getD_eq_getD_getElem?] at h
      cases hx : L[ops[i].after[n].on]? with
      | none => rw [hx] at h; cases h
      | some b => rw [hx] at h; simp at h; rw [h]
theorem ready_none {ops : Array Oper} {L : Array Bool} (hs : L.size = ops.size) (hlow : ∀ (k : Nat) (o : Oper), ops[k]? = some o → ∀ d, d ∈ hard o → d < k) (h : Region.ready .any ops L = []) : ∀ i, i < ops.size → On L i := by
  intro i
  induction i using Nat.strongRecOn with
  | ind i ih =>
    intro hi
    apply Classical.byContradiction
    intro hn
    have hf : L[i]? = some false := by
      unfold On at hn
      rw [Array.getElem?_eq_getElem (by omega)] at hn ⊢
      cases hb : L[i] with
      | true => rw [hb] at hn; exact absurd rfl hn
      | false => rfl
    have : i ∈ Region.ready .any ops L := by
      simp only [Region.ready, List.mem_filter, List.mem_range, Bool.and_eq_true, Bool.not_eq_true']
      refine ⟨hi, by rw [Array.getD_eq_getD_getElem?, hf]; rfl, ?_⟩
      rw [Array.getElem?_eq_getElem hi]
      simp only [Option.map_some, Option.getD_some, Array.all_eq_true, Bool.or_eq_true, Bool.not_eq_true']
      intro n hn2
      cases hb : Region.binds .any (ops[i].after[n]) with
      | false => exact .inl rfl
      | true =>
        refine .inr ?_
        have hd : (ops[i].after[n]).on ∈ hard ops[i] := by
          simp only [hard, List.mem_map, List.mem_filter]
          exact ⟨ops[i].after[n], ⟨by simp, hb⟩, rfl⟩
        have hlt := hlow i ops[i] (by simp [hi]) _ hd
        have := ih _ hlt (by omega)
        unfold On at this
        rw [Array.getD_eq_getD_getElem?, this]; rfl
    rw [h] at this; cases this
theorem pre_listed {ops : Array Oper} {L : Array Bool} {pre : List (List Nat)} (hs : L.size = ops.size) (hpre : ∀ (k : Nat) (o : Oper), ops[k]? = some o → (∀ d, d ∈ hard o → d < k) ∧ ∀ j, j ∈ (pre[k]?).getD [] → ∃ d, d ∈ hard o ∧ (d = j ∨ j ∈ (pre[d]?).getD []))
    (hcl : ∀ (k : Nat) (o : Oper), ops[k]? = some o → On L k → ∀ d, d ∈ hard o → On L d) : ∀ (k : Nat) (o : Oper), ops[k]? = some o → (∀ d, d ∈ hard o → On L d) → ∀ j, j ∈ (pre[k]?).getD [] → On L j := by
  intro k
  induction k using Nat.strongRecOn with
  | ind k ih =>
    intro o ho hh j hj
    obtain ⟨h1, h2⟩ := hpre k o ho
    obtain ⟨d, hd, hdj⟩ := h2 j hj
    rcases hdj with rfl | hdj
    · exact hh d hd
    · have hon := hh d hd
      have hlt : d < ops.size := by
        unfold On at hon
        have := (Array.getElem?_eq_some_iff.1 hon).1
        omega
      have hod : ops[d]? = some ops[d] := by simp [hlt]
      exact ih d (h1 d hd) _ hod (hcl d _ hod hon) j hdj
def live (l : List DI) (L : Array Bool) (t : Nat) : Bool := l.all fun x => !x.i.dsts.contains t || L[x.j]? == some true
theorem live_spec {l : List DI} {L : Array Bool} {t : Nat} : live l L t = true ↔ ∀ x, x ∈ l → t ∈ x.i.dsts → On L x.j := by
  simp only [live, List.all_eq_true, Bool.or_eq_true, Bool.not_eq_true', beq_iff_eq, On]
  constructor
  · intro h x hx ht
    rcases h x hx with h | h
    · simp [ht] at h
    · exact h
  · intro h x hx
    by_cases ht : t ∈ x.i.dsts
    · exact .inr (h x hx ht)
    · refine .inl ?_
      cases hc : x.i.dsts.contains t with
      | false => rfl
      | true => exact absurd (List.contains_iff_mem.1 hc) ht
theorem count_set {L : Array Bool} {i : Nat} (hi : i < L.size) (hn : ¬ On L i) : (L.setIfInBounds i true).toList.count false + 1 ≤ L.toList.count false := by
  have hf : L.toList[i]? = some false := by
    rw [Array.getElem?_toList]
    unfold On at hn
    rw [Array.getElem?_eq_getElem hi] at hn ⊢
    cases hb : L[i] with
    | true => rw [hb] at hn; exact absurd rfl hn
    | false => rfl
  have key : ∀ (l : List Bool) (i : Nat), l[i]? = some false → (l.set i true).count false + 1 ≤ l.count false := by
    intro l
    induction l with
    | nil => intro i h; simp at h
    | cons x xs ih =>
      intro i h
      cases i with
      | zero =>
        simp only [List.getElem?_cons_zero, Option.some.injEq] at h
        subst h
        simp
      | succ i =>
        simp only [List.getElem?_cons_succ] at h
        have := ih i h
        simp only [List.set_cons_succ, List.count_cons]
        omega
  rw [Array.toList_setIfInBounds]
  exact key _ _ hf
theorem count_zero {L : Array Bool} (h : L.toList.count false = 0) : ∀ i, i < L.size → On L i := by
  intro i hi
  unfold On
  rw [Array.getElem?_eq_getElem hi]
  cases hb : L[i] with
  | true => rfl
  | false =>
    exfalso
    have : false ∈ L.toList := by rw [← hb]; simp
    have := List.count_pos_iff.2 this
    omega
theorem EnvR.remask {μ : Mu} {q q' : Nat → Bool} {e e' : List AV} {t : Array Value} (h : EnvR μ (maskE q e) t) (hl : e'.length = e.length) (hq : ∀ s, q' s = true → q s = true ∧ e'[s]? = e[s]?) : EnvR μ (maskE q' e') t := by
  refine ⟨by rw [maskE_length, hl]; have := h.1; rwa [maskE_length] at this, fun i v hv => h.2 i v ?_⟩
  rw [maskE_get] at hv ⊢
  by_cases hi : q' i = true
  · obtain ⟨h1, h2⟩ := hq i hi
    rw [← h2]
    cases he : e'[i]? with
    | none => rw [he] at hv; cases hv
    | some x =>
      rw [he] at hv
      simp only [Option.map_some, Option.bind_some] at hv ⊢
      rw [if_pos hi] at hv; rw [if_pos h1]; exact hv
  · cases he : e'[i]? with
    | none => rw [he] at hv; cases hv
    | some x =>
      rw [he] at hv
      simp only [Option.map_some, Option.bind_some] at hv
      rw [if_neg hi] at hv; cases hv
structure Kept (a a' : Act) (ds : List Nat) : Prop where
  size : a'.tmps.size = a.tmps.size
  get : ∀ t, t ∉ ds → a'.tmps[t]? = a.tmps[t]?
theorem Kept.put {a : Act} {dst : Option Nat} {v : Value} : Kept a (a.put dst v) dst.toList := by
  cases dst with
  | none => exact ⟨rfl, fun _ _ => rfl⟩
  | some d =>
    refine ⟨by simp [Act.put], fun t ht => ?_⟩
    show (a.tmps.setIfInBounds d v)[t]? = _
    rw [Array.getElem?_setIfInBounds, if_neg (fun e => ht (by simp [e]))]
structure StepB (n : Nat) (μ : Mu) (h : AHeap) (w : World) (μ' : Mu) (h' : AHeap) (w' : World) : Prop where
  ext : Ext μ μ'
  next : h.next ≤ h'.next
  low : ∀ id, id < h.next → μ' id = μ id
  os : w'.os = w.os
  tape : w'.tape = w.tape
  output : w'.output = w.output
  size : w.heap.size ≤ w'.heap.size
  frame : ∀ b, b < n → (∀ id o l, h.get id = some o → o.rw = true → μ id = some l → l.block ≠ b) → w'.heap[b]? = w.heap[b]?
  own : ∀ id o l, h'.get id = some o → o.rw = true → μ' id = some l → n ≤ l.block ∨ ∃ id0 o0 l0, h.get id0 = some o0 ∧ o0.rw = true ∧ μ id0 = some l0 ∧ l0.block = l.block
  any : ∀ id o l, h'.get id = some o → μ' id = some l → n ≤ l.block ∨ ∃ id0 o0 l0, h.get id0 = some o0 ∧ μ id0 = some l0 ∧ l0.block = l.block
theorem Step.toB {n : Nat} {μ μ' : Mu} {h h' : AHeap} {w w' : World} (s : Step μ h w μ' h' w') (hn : n ≤ w.heap.size) : StepB n μ h w μ' h' w' :=
  ⟨s.ext, s.next, s.low, s.os, s.tape, s.output, s.size, fun b hb hf => s.frame b (Nat.lt_of_lt_of_le hb hn) hf,
    fun id o l a b c => (s.own id o l a b c).imp (fun x => Nat.le_trans hn x) fun x => x, fun id o l a c => (s.any id o l a c).imp (fun x => Nat.le_trans hn x) fun x => x⟩
theorem StepB.to {μ μ' : Mu} {h h' : AHeap} {w w' : World} (s : StepB w.heap.size μ h w μ' h' w') : Step μ h w μ' h' w' :=
  ⟨s.ext, s.next, s.low, s.os, s.tape, s.output, s.size, s.frame, s.own, s.any⟩
theorem StepB.trans {n : Nat} {μ₁ h₁ w₁ μ₂ h₂ w₂ μ₃ h₃ w₃} (a : StepB n μ₁ h₁ w₁ μ₂ h₂ w₂) (b : StepB n μ₂ h₂ w₂ μ₃ h₃ w₃) : StepB n μ₁ h₁ w₁ μ₃ h₃ w₃ := by
  refine ⟨a.ext.trans b.ext, Nat.le_trans a.next b.next, fun id hid => ?_, b.os.trans a.os, b.tape.trans a.tape, b.output.trans a.output, Nat.le_trans a.size b.size, fun k hk hf => ?_, fun id o l ho hr hm => ?_, fun id o l ho hm => ?_⟩
  · rw [b.low id (Nat.lt_of_lt_of_le hid a.next), a.low id hid]
  · rw [b.frame k hk ?_, a.frame k hk hf]
    intro id o l ho hr hm e
    rcases a.own id o l ho hr hm with h | ⟨i0, o0, l0, p, q, r, s⟩
    · omega
    · exact hf i0 o0 l0 p q r (s.trans e)
  · rcases b.own id o l ho hr hm with h | ⟨i0, o0, l0, p, q, r, s⟩
    · exact .inl h
    · rcases a.own i0 o0 l0 p q r with h' | ⟨i1, o1, l1, p', q', r', s'⟩
      · exact .inl (s ▸ h')
      · exact .inr ⟨i1, o1, l1, p', q', r', s'.trans s⟩
  · rcases b.any id o l ho hm with h | ⟨i0, o0, l0, p, r, s⟩
    · exact .inl h
    · rcases a.any i0 o0 l0 p r with h' | ⟨i1, o1, l1, p', r', s'⟩
      · exact .inl (s ▸ h')
      · exact .inr ⟨i1, o1, l1, p', r', s'.trans s⟩
theorem fl_is {qf : Bool} {i : AIn} (h : i.flq qf = true) : ∃ d elem es z, i = ⟨some d, .alloc elem es z, [], none⟩ ∧ z.len = es ∧ 0 < es := by
  replace h := (Bool.and_eq_true_iff.1 h).2
  unfold AIn.fl at h
  split at h
  · rename_i d elem es z
    simp only [Bool.and_eq_true, beq_iff_eq, Nat.blt_eq] at h
    exact ⟨d, elem, es, z, rfl, h.1, h.2⟩
  · cases h
theorem fl_cls {qf : Bool} {i : AIn} (h : i.flq qf = true) : cls i.op = 2 := by
  obtain ⟨d, elem, es, z, rfl, _⟩ := fl_is h
  rfl
structure Pend (Λ : Lam) (n : Nat) (hs : AHeap) (μ : Mu) (w : World) (a : Act) (i : AIn) (B : Nat) : Prop where
  lo : n ≤ B
  hi : B < w.heap.size
  tm : ∀ dst, i.dst = some dst → dst < a.tmps.size → a.tmps[dst]? = some (.pointer (some ⟨B, 0, none⟩))
  ob : ∃ cap, ∀ dst elem es z, i = ⟨some dst, .alloc elem es z, [], none⟩ → ∀ μ' : Mu, ObjR Λ μ' w ⟨B, 0, cap⟩ (.row elem es false false z)
  fr : ∀ id o l, hs.get id = some o → μ id = some l → l.block ≠ B
theorem Pend.step {n : Nat} {hs h' : AHeap} {μ μ' : Mu} {w w' : World} {a a' : Act} {i : AIn} {B : Nat} {ds : List Nat} (p : Pend Λ n hs μ w a i B) (s : Step μ hs w μ' h' w') (k : Kept a a' ds) (hd : ∀ d, i.dst = some d → d ∉ ds) : Pend Λ n h' μ' w' a' i B := by
  refine ⟨p.lo, Nat.lt_of_lt_of_le p.hi s.size, fun dst hdst hlt => ?_, ?_, fun id o l ho hl => ?_⟩
  · rw [k.get dst (hd dst hdst)]
    exact p.tm dst hdst (by rw [← k.size]; exact hlt)
  · obtain ⟨cap, hob⟩ := p.ob
    refine ⟨cap, fun dst elem es z e μ2 => ObjR.ext (Ext.refl μ2) (hob dst elem es z e μ2) ?_⟩
    exact s.frame B p.hi fun id o l a _ c => p.fr id o l a c
  · rcases s.any id o l ho hl with h | ⟨i0, o0, l0, a1, b1, c1⟩
    · have := p.hi; omega
    · rw [← c1]; exact p.fr i0 o0 l0 a1 b1
theorem Rel.wpush0 {μ : Mu} {h : AHeap} {w : World} (r : Rel Λ μ h w) (o : Obj) : Rel Λ μ h { w with heap := w.heap.push o } ∧ Step μ h w μ h { w with heap := w.heap.push o } :=
  ⟨⟨fun id x e => by
    obtain ⟨l, hl, hob⟩ := r.obj id x e
    exact ⟨l, hl, ObjR.ext (Ext.refl μ) hob (heap_push_lt (r.dom _ _ hl).2)⟩, r.inj, fun id l e => by
    have := r.dom id l e
    exact ⟨this.1, by simp only [Array.size_push]; omega⟩⟩,
   ⟨Ext.refl μ, Nat.le_refl _, fun _ _ => rfl, rfl, rfl, rfl, by simp, fun b hb _ => heap_push_lt hb, fun id o l a b c => .inr ⟨id, o, l, a, b, c, rfl⟩, fun id o l a c => .inr ⟨id, o, l, a, c, rfl⟩⟩⟩
theorem alloc_step {ops : Array Oper} {j : Nat} {o : Oper} {i : AIn} {w : World} {a : Act} {b : Frame} {rest : List Nat} {k : List Item} {μ : Mu} {em : List AV} {h : AHeap} (ho : ops[j]? = some o) (ht : trIn P ops o = some i) {qf : Bool} (hf : i.flq qf = true) (he : EnvR μ em a.tmps) (hr : Rel Λ μ h w) (cs : List Frame) :
    ∃ obj v, Steps P (lone (Fat b a (.inRegion ops (j :: rest) :: k)) cs w) (lone (Fat b (a.put i.dst v) (.inRegion ops rest :: k)) cs { w with heap := w.heap.push obj }) ∧ (∀ n, n ≤ w.heap.size → (∀ x ∈ i.dsts, x < a.tmps.size → True) → Pend Λ n h μ { w with heap := w.heap.push obj } (a.put i.dst v) i w.heap.size) := by
  obtain ⟨args, hargs, hdst, hop, hia⟩ := trIn_parts ht
  obtain ⟨dst, elem, es, z, rfl, hz, h0⟩ := fl_is hf
  have hwant : Region.wanted o (yielded ops a.tmps) = true := wanted_ok he ht rfl
  have hop : trOp P o.op = .alloc elem es z := hop.symm
  obtain ⟨t, hot⟩ : ∃ t, o.op = .alloc t := by
    cases hoo : o.op with
    | alloc t => exact ⟨t, rfl⟩
    | call c =>
      exfalso
      rw [hoo] at hop
      cases hc : c.callee with
      | value f => simp [trOp, hc] at hop
      | invoke _ _ => simp [trOp, hc] at hop
      | builtin b =>
        simp only [trOp, hc] at hop
        split at hop <;> first | cases hop | (split at hop <;> first | cases hop | (split at hop <;> first | cases hop | (split at hop <;> cases hop)))
    | binOp op t x y u => exfalso; rw [hoo] at hop; cases op <;> simp only [trOp] at hop <;> first | cases hop | (split at hop <;> first | cases hop | (split at hop <;> cases hop))
    | makeFunc fn a b => exfalso; rw [hoo] at hop; cases fn <;> simp [trOp] at hop
    | makeMap t r => exfalso; rw [hoo] at hop; cases r <;> simp [trOp] at hop
    | defer c => exfalso; rw [hoo] at hop; cases hc : c.callee <;> simp [trOp, hc] at hop
    | next x b => exfalso; rw [hoo] at hop; cases b <;> simp [trOp] at hop
    | _ => exfalso; rw [hoo] at hop; simp only [trOp] at hop <;> first | cases hop | (repeat' split at hop) <;> cases hop
  rw [hot] at hop
  simp only [trOp] at hop
  split at hop
  · rename_i z' n' hz' hn'
    cases hop
    obtain ⟨i0, v0, hi0, hv0, hd0⟩ := zeroD_ok hz' μ
    have hsz : v0.cells.size = 1 * es := by have := hd0.1; rw [Array.length_toList] at this; omega
    have hrun : (execOp a.eval o).run P w = .ok (.value (.pointer (some ⟨w.heap.size, 0, none⟩))) { w with heap := w.heap.push (.cells v0.cells elem) } := by
      simp only [execOp, hot]
      simp only [Instr.alloc, Sem.run_bind, run_zero hi0 hv0, Result.andThen_ok, newVar, Sem.run_pure]
      simp [newRow]
    refine ⟨.cells v0.cells elem, .pointer (some ⟨w.heap.size, 0, none⟩), ?_, fun n hn _ => ⟨hn, by simp, fun d hd hlt => ?_, ⟨1, fun d' e' es' z2 he' μ' => ?_⟩, fun id o l hg hl => ?_⟩⟩
    · have := st_op_value (P := P) (b := b) (a := a) (k := k) (cs := cs) (rest := rest) ho hwant (fun c' hc' => by rw [hot] at hc'; cases hc') (.inl hrun)
      rw [hdst]
      exact Steps.one this
    · cases hd
      show (a.tmps.setIfInBounds dst _)[dst]? = _
      rw [Array.getElem?_setIfInBounds, if_pos rfl, if_pos (by simpa [Act.put] using hlt)]
    · cases he'
      obtain ⟨i1, v1, hi1, hv1, hd1⟩ := zeroD_ok hz' μ'
      have ev : v1 = v0 := by
        have e1 : i1 = i0 := by rw [hi0] at hi1; exact (Option.some.inj hi1).symm
        subst e1
        rw [hv0] at hv1; exact (Option.some.inj hv1).symm
      subst ev
      refine ⟨v1.cells, (0, 0), by simp, fun i v hv => ?_, fun _ => ⟨rfl, by simpa using hsz, (by show z.len ≤ 1 * es; omega), fun _ => ⟨by show z.len = 1 * es; omega, rfl⟩⟩⟩
      obtain ⟨c, p, q, s⟩ := (show DatP μ' z v1.cells.toList by simpa using hd1.pre []) i v hv
      exact ⟨c, by simpa using p, q, s⟩
    · have := (hr.dom id l hl).2
      omega
  · cases hop
theorem quiet_step {ops : Array Oper} {j : Nat} {o : Oper} {i : AIn} {ef : List AV} {h : AHeap} {μ : Mu} {w : World} {a : Act} {b : Frame} {rest : List Nat} {k : List Item} {q : Nat → Bool} (hC : CSound P Λ C) (ho : ops[j]? = some o) (ht : trIn P ops o = some i) (hcl : cls i.op ≠ 2)
    (hf : QFact ef i h) (hr : Rel Λ μ h w) (he : EnvR μ (maskE q ef) a.tmps) (hq : ∀ t, t ∈ i.reads → q t = true) (cs : List Frame) :
    ∃ a' w' μ', Steps P (lone (Fat b a (.inRegion ops (j :: rest) :: k)) cs w) (lone (Fat b a' (.inRegion ops rest :: k)) cs w') ∧ a'.defers = a.defers ∧ (∀ q' : Nat → Bool, (∀ t, q' t = true → t ∉ i.dsts → q t = true) → EnvR μ' (maskE q' ef) a'.tmps) ∧ Rel Λ μ' h w' ∧ Step μ h w μ' h w' ∧ Kept a a' i.dsts := by
  obtain ⟨args, hargs, hdst, hop, hia⟩ := trIn_parts ht
  have hw : wantedA (maskE q ef) i.guard = wantedA ef i.guard := wantedA_congr fun s p hg => maskE_keep (hq s (by simp [AIn.reads, hg]))
  have hev : evalL (maskE q ef) i.args = evalL ef i.args := evalL_congr fun t ht => maskE_keep (hq t (by simp only [AIn.reads, List.mem_append]; exact .inl ht))
  rcases hf with ⟨h0, vs, v, h1, h2, h3⟩ | ⟨h0, h3⟩
  · have hwant := wanted_ok he ht (hw.trans h0)
    have hvr : VRL μ vs (o.op.operands.toList.map a.eval) := opds_ok he hargs (by rw [← hia]; exact hev.trans h1)
    have hdo : doOpW C (trOp P o.op) vs h fun v' h' => v' = v ∧ h' = h := by
      rw [← hop]
      unfold doOpW
      split
      · rename_i e; rw [e] at hcl; exact absurd rfl hcl
      · rename_i e; rw [e] at hcl; exact absurd rfl hcl
      · rw [h2]; exact ⟨rfl, rfl⟩
    obtain ⟨v', h', cv, w', μ', ⟨rfl, rfl⟩, s, hv, hrel, hstep⟩ := op_stepW (b := b) (rest := rest) (k := k) hC ho hwant hvr hdo hr cs
    refine ⟨a.put o.dst cv, w', μ', s, by cases o.dst <;> rfl, fun q' hq' => ?_, hrel, hstep, by rw [AIn.dsts, hdst]; exact Kept.put⟩
    rw [← hdst]
    exact he.wrote hstep.ext hv h3 hq'
  · have hwant := wanted_ok he ht (hw.trans h0)
    refine ⟨a.put o.dst undef, w, μ, skip_step ho hwant cs, by cases o.dst <;> rfl, fun q' hq' => ?_, hr, Step.refl _ _ _, by rw [AIn.dsts, hdst]; exact Kept.put⟩
    rw [← hdst]
    exact he.wrote (Ext.refl μ) (VR.undef μ) h3 hq'
theorem effect_step {ops : Array Oper} {j : Nat} {o : Oper} {i : AIn} {e : List AV} {h : AHeap} {K : List AV → AHeap → Prop} {μ : Mu} {w : World} {a : Act} {b : Frame} {rest : List Nat} {k : List Item} {q : Nat → Bool} (hC : CSound P Λ C) (ho : ops[j]? = some o) (ht : trIn P ops o = some i)
    (hrun : runInW C i e h K) (hr : Rel Λ μ h w) (he : EnvR μ (maskE q e) a.tmps) (hq : ∀ t, t ∈ i.reads → q t = true) (cs : List Frame) :
    ∃ v h' a' w' μ', K (setDst e i.dst v) h' ∧ Steps P (lone (Fat b a (.inRegion ops (j :: rest) :: k)) cs w) (lone (Fat b a' (.inRegion ops rest :: k)) cs w') ∧ a'.defers = a.defers ∧ (∀ q' : Nat → Bool, (∀ t, q' t = true → t ∉ i.dsts → q t = true) → EnvR μ' (maskE q' (setDst e i.dst v)) a'.tmps) ∧ Rel Λ μ' h' w' ∧ Step μ h w μ' h' w' ∧ Kept a a' i.dsts := by
  obtain ⟨args, hargs, hdst, hop, hia⟩ := trIn_parts ht
  have hw : wantedA (maskE q e) i.guard = wantedA e i.guard := wantedA_congr fun s p hg => maskE_keep (hq s (by simp [AIn.reads, hg]))
  have hev : evalL (maskE q e) i.args = evalL e i.args := evalL_congr fun t ht => maskE_keep (hq t (by simp only [AIn.reads, List.mem_append]; exact .inl ht))
  have key : ∀ {μ' : Mu} {v : AV} {cv : Value}, Ext μ μ' → VR μ' v cv → ∀ q' : Nat → Bool, (∀ t, q' t = true → t ∉ i.dsts → q t = true) → EnvR μ' (maskE q' (setDst e i.dst v)) (a.put o.dst cv).tmps := by
    intro μ' v cv hx hv q' hq'
    have h1 : EnvR μ (maskE (fun t => q t && !i.dsts.contains t) (setDst e i.dst v)) a.tmps := he.remask setDst_length fun s hs => by
      simp only [Bool.and_eq_true, Bool.not_eq_true'] at hs
      exact ⟨hs.1, setDst_get fun hm => by
        have h2 : i.dsts.contains s = true := List.contains_iff_mem.2 hm
        rw [hs.2] at h2; cases h2⟩
    rw [← hdst]
    refine h1.wrote hx hv (fun d x hd hx => ?_) fun t ht hnt => ?_
    · rw [hd] at hx; exact setDst_dst hx
    · have h3 : i.dsts.contains t = false := by
        cases hc : i.dsts.contains t with
        | false => rfl
        | true => exact absurd (List.contains_iff_mem.1 hc) hnt
      rw [hq' t ht hnt, h3]; rfl
  unfold runInW at hrun
  split at hrun
  · rename_i h0
    have hwant := wanted_ok he ht (hw.trans h0)
    split at hrun
    · rename_i vs h1
      have hvr : VRL μ vs (o.op.operands.toList.map a.eval) := opds_ok he hargs (by rw [← hia]; exact hev.trans h1)
      obtain ⟨v, h', cv, w', μ', hk, s, hv, hrel, hstep⟩ := op_stepW (b := b) (rest := rest) (k := k) hC ho hwant hvr (by rw [← hop]; exact hrun) hr cs
      exact ⟨v, h', a.put o.dst cv, w', μ', hk, s, by cases o.dst <;> rfl, key hstep.ext hv, hrel, hstep, by rw [AIn.dsts, hdst]; exact Kept.put⟩
    · exact hrun.elim
  · rename_i h0
    have hwant := wanted_ok he ht (hw.trans h0)
    exact ⟨.tuple [], h, a.put o.dst undef, w, μ, hrun, skip_step ho hwant cs, by cases o.dst <;> rfl, key (Ext.refl μ) (VR.undef μ), hr, Step.refl _ _ _, by rw [AIn.dsts, hdst]; exact Kept.put⟩
  · exact hrun.elim
theorem okGo_rest {pre : List (List Nat)} : ∀ {p : List DI} {done : List DI} {b : List DI}, okGo pre done (p ++ b) = true → okGo pre (p.reverse ++ done) b = true
  | [], done, b, h => h
  | x :: p, done, b, h => by
    have := okGo_rest (okGo_chk (d := x) (b := p ++ b) h).2
    simpa using this
theorem mkAlts_mem {I : List AIn} : ∀ {ls : List (List (Nat × List Nat × Bool))} {ds : List (List DI)}, mkAlts I ls = some ds → ∀ d, d ∈ ds → ∃ l, mkDraw I l = some d
  | [], ds, h, d, hd => by simp only [mkAlts] at h; cases h; cases hd
  | l :: ls, ds, h, d, hd => by
    simp only [mkAlts] at h
    split at h
    · rename_i d1 ds1 h1 h2
      cases h
      rcases List.mem_cons.1 hd with rfl | hd
      · exact ⟨l, h1⟩
      · exact mkAlts_mem h2 d hd
    · cases h
def VS (ops : Array Oper) : List Nat → Array Bool → Prop
  | [], L => ∀ i, i < ops.size → On L i
  | i :: σ, L => i < ops.size ∧ ¬ On L i ∧ (∃ o, ops[i]? = some o ∧ ∀ d, d ∈ hard o → On L d) ∧ VS ops σ (L.setIfInBounds i true)
theorem linearise_valid {ops : Array Oper} (hlow : ∀ (k : Nat) (o : Oper), ops[k]? = some o → ∀ d, d ∈ hard o → d < k) : ∀ (fuel t : Nat) (L : Array Bool), L.size = ops.size → L.toList.count false ≤ fuel → VS ops (Region.linearise.go .any ops fuel t L []) L
  | 0, t, L, hs, hc => by
    simp only [Region.linearise.go, List.reverse_nil, VS]
    exact fun i hi => count_zero (by omega) i (by omega)
  | fuel + 1, t, L, hs, hc => by
    simp only [Region.linearise.go]
    change VS ops (match (Region.ready .any ops L)[t % (Region.ready .any ops L).length]? with
      | some i => Region.linearise.go .any ops fuel (t / (Region.ready .any ops L).length) (L.setIfInBounds i true) [i]
      | none => [].reverse) L
    cases hi : (Region.ready .any ops L)[t % (Region.ready .any ops L).length]? with
    | none =>
      have hnil : Region.ready .any ops L = [] := by
        cases hrd : Region.ready .any ops L with
        | nil => rfl
        | cons x xs =>
          rw [hrd] at hi
          have hlt : t % (x :: xs).length < (x :: xs).length := Nat.mod_lt _ (by simp)
          simp at hi
          simp at hlt
          omega
      exact ready_none hs hlow hnil
    | some i =>
      simp only []
      rw [linearise_go_acc, List.reverse_singleton, List.singleton_append]
      obtain ⟨h1, h2, h3⟩ := ready_spec (List.mem_of_getElem? hi)
      refine ⟨h1, h2, h3, linearise_valid hlow fuel _ _ (by simpa using hs) ?_⟩
      have := count_set (L := L) (i := i) (by omega) h2
      omega
theorem exts_mem {pre : List (List Nat)} : ∀ (n : Nat) (s rem : List Nat), s.Perm rem → s.length ≤ n → (s.Pairwise fun x y => y ∉ (pre[x]?).getD []) → (∀ x, x ∈ s → x ∉ (pre[x]?).getD []) → s ∈ exts pre n rem
  | 0, s, rem, hp, hl, _, _ => by
    have : s = [] := List.length_eq_zero_iff.1 (by omega)
    simp [exts, this]
  | n + 1, [], rem, hp, _, _, _ => by
    have : rem = [] := List.Perm.nil_eq hp |>.symm
    simp [exts, this]
  | n + 1, x :: s, rem, hp, hl, hpw, hself => by
    have hx : x ∈ rem := hp.subset (by simp)
    obtain ⟨h1, h2⟩ := List.pairwise_cons.1 hpw
    have hne : rem.isEmpty = false := by cases rem with | nil => cases hx | cons => rfl
    simp only [exts, hne, Bool.false_eq_true, if_false, List.mem_flatMap]
    refine ⟨x, hx, ?_⟩
    have hany : (rem.any fun y => ((pre[x]?).getD []).contains y) = false := by
      rw [List.any_eq_false]
      intro y hy hc
      have hc := List.contains_iff_mem.1 hc
      rcases List.mem_cons.1 (hp.symm.subset hy) with rfl | hys
      · exact hself y (by simp) hc
      · exact h1 y hys hc
    rw [hany]
    simp only [Bool.false_eq_true, if_false, List.mem_map, List.cons.injEq, true_and, exists_eq_right]
    refine exts_mem n s (rem.erase x) ?_ (by simp at hl; omega) h2 (fun y hy => hself y (by simp [hy]))
    exact (List.perm_cons x).1 (hp.trans (List.perm_cons_erase hx))
theorem VS.once {ops : Array Oper} : ∀ {σ : List Nat} {L : Array Bool}, L.size = ops.size → VS ops σ L → σ.Nodup ∧ (∀ x, x ∈ σ → x < ops.size ∧ ¬ On L x) ∧ (∀ i, i < ops.size → On L i ∨ i ∈ σ)
  | [], L, _, h => ⟨List.nodup_nil, fun _ hx => (by cases hx), fun i hi => .inl (h i hi)⟩
  | i :: σ, L, hs, ⟨h1, h2, _, h4⟩ => by
    obtain ⟨g1, g2, g3⟩ := VS.once (by simpa using hs) h4
    refine ⟨List.nodup_cons.2 ⟨fun hi => (g2 i hi).2 ?_, g1⟩, fun x hx => ?_, fun k hk => ?_⟩
    · unfold On
      rw [Array.getElem?_setIfInBounds, if_pos rfl, if_pos (by omega)]
    · rcases List.mem_cons.1 hx with rfl | hx
      · exact ⟨h1, h2⟩
      · exact ⟨(g2 x hx).1, fun h => (g2 x hx).2 h.set⟩
    · rcases g3 k hk with h | h
      · rcases On.of_set h with rfl | h
        · exact .inr (by simp)
        · exact .inl h
      · exact .inr (by simp [h])
section order
variable {ops : Array Oper} {pre : List (List Nat)} (hpre : ∀ (k : Nat) (o : Oper), ops[k]? = some o → (∀ d, d ∈ hard o → d < k) ∧ ∀ j, j ∈ (pre[k]?).getD [] → ∃ d, d ∈ hard o ∧ (d = j ∨ j ∈ (pre[d]?).getD []))
include hpre
omit hpre in
theorem VS.closed {L : Array Bool} (hcl : ∀ (k : Nat) (o : Oper), ops[k]? = some o → On L k → ∀ d, d ∈ hard o → On L d) {i : Nat} (hi : ∃ o, ops[i]? = some o ∧ ∀ d, d ∈ hard o → On L d) :
    ∀ (k : Nat) (o : Oper), ops[k]? = some o → On (L.setIfInBounds i true) k → ∀ d, d ∈ hard o → On (L.setIfInBounds i true) d := by
  obtain ⟨o, ho, hh⟩ := hi
  intro k2 o2 ho2 hon2 d2 hd2
  rcases On.of_set hon2 with rfl | hon2
  · rw [ho] at ho2; cases ho2
    exact (hh d2 hd2).set
  · exact (hcl k2 o2 ho2 hon2 d2 hd2).set
theorem VS.pw : ∀ {σ : List Nat} {L : Array Bool}, L.size = ops.size → (∀ (k : Nat) (o : Oper), ops[k]? = some o → On L k → ∀ d, d ∈ hard o → On L d) → VS ops σ L → σ.Pairwise (fun x y => y ∉ (pre[x]?).getD []) ∧ ∀ x, x ∈ σ → x ∉ (pre[x]?).getD []
  | [], L, _, _, _ => ⟨List.Pairwise.nil, fun _ hx => (by cases hx)⟩
  | i :: σ, L, hs, hcl, hv => by
    obtain ⟨h1, h2, h3, h4⟩ := hv
    obtain ⟨g1, g2⟩ := VS.pw (by simpa using hs) (VS.closed hcl h3) h4
    obtain ⟨o, ho, hh⟩ := h3
    have hl := pre_listed hs hpre hcl i o ho hh
    have ho2 := (VS.once (by simpa using hs) h4).2.1
    refine ⟨List.pairwise_cons.2 ⟨fun y hy hc => (ho2 y hy).2 (hl y hc).set, g1⟩, fun x hx => ?_⟩
    rcases List.mem_cons.1 hx with rfl | hx
    · exact fun hc => h2 (hl x hc)
    · exact g2 x hx
end order
def livP (qf : Bool) (l1 l2 : List DI) (L : Array Bool) (t : Nat) : Bool := live l1 L t && l2.all fun x => !x.i.flq qf || !x.i.dsts.contains t || !(L[x.j]? == some true)
theorem livP_spec {qf : Bool} {l1 l2 : List DI} {L : Array Bool} {t : Nat} : livP qf l1 l2 L t = true ↔ live l1 L t = true ∧ ∀ x, x ∈ l2 → x.i.flq qf = true → t ∈ x.i.dsts → ¬ On L x.j := by
  simp only [livP, Bool.and_eq_true, List.all_eq_true, Bool.or_eq_true, Bool.not_eq_true', On]
  constructor
  · rintro ⟨h1, h2⟩
    refine ⟨h1, fun x hx hf ht hon => ?_⟩
    rcases h2 x hx with (h | h) | h
    · rw [hf] at h; cases h
    · rw [List.contains_iff_mem.2 ht] at h; cases h
    · rw [hon] at h; simp at h
  · rintro ⟨h1, h2⟩
    refine ⟨h1, fun x hx => ?_⟩
    cases hf : x.i.flq qf with
    | false => exact .inl (.inl rfl)
    | true =>
      cases hc : x.i.dsts.contains t with
      | false => exact .inl (.inr rfl)
      | true =>
        refine .inr ?_
        have := h2 x hx hf (List.contains_iff_mem.1 hc)
        cases hq : (L[x.j]? == some true) with
        | false => rfl
        | true => exact absurd (by simpa using hq) this
theorem flOk_rest {qf : Bool} {pre : List (List Nat)} : ∀ {p b : List DI}, flOk qf pre (p ++ b) = true → flOk qf pre b = true
  | [], b, h => h
  | x :: p, b, h => by
    simp only [List.cons_append, flOk, Bool.and_eq_true] at h
    exact flOk_rest h.2
theorem flOk_next {qf : Bool} {pre : List (List Nat)} {d : DI} {b : List DI} (h : flOk qf pre (d :: b) = true) (hf : d.i.flq qf = true) : d.fin = false ∧ ∃ s r, b = s :: r ∧ s.bar = true ∧ s.i.flq qf = false ∧ d.j ∈ (pre[s.j]?).getD [] := by
  simp only [flOk, Bool.and_eq_true, Bool.or_eq_true, Bool.not_eq_true'] at h
  rcases h.1 with h1 | ⟨h1, h2⟩
  · rw [hf] at h1; cases h1
  · refine ⟨h1, ?_⟩
    cases b with
    | nil => cases h2
    | cons s r =>
      simp only [Bool.and_eq_true, Bool.not_eq_true'] at h2
      exact ⟨s, r, rfl, h2.1.1, h2.1.2, List.contains_iff_mem.1 h2.2⟩
theorem nofl_of {qf : Bool} {d : DI} (h : d.bar = false) : d.i.flq qf = false := by
  cases hf : d.i.flq qf with
  | false => rfl
  | true =>
    have := (DI.bar_false.1 h).1
    rw [fl_cls hf] at this
    exact absurd rfl this
theorem EnvR.other {μ : Mu} {q : Nat → Bool} {e : List AV} {a : Act} {dst : Option Nat} {v : Value} (h : EnvR μ (maskE q e) a.tmps) (hq : ∀ d, dst = some d → q d = false) : EnvR μ (maskE q e) (a.put dst v).tmps := by
  cases dst with
  | none => exact h
  | some d =>
    have hd := hq d rfl
    refine ⟨by have := h.1; simpa [Act.put] using this, fun i x hx => ?_⟩
    obtain ⟨c, p, r⟩ := h.2 i x hx
    refine ⟨c, ?_, r⟩
    show (a.tmps.setIfInBounds d v)[i]? = some c
    rw [Array.getElem?_setIfInBounds, if_neg ?_]
    · exact p
    · intro e1
      subst e1
      rw [maskE_get] at hx
      cases he : e[d]? with
      | none => rw [he] at hx; cases hx
      | some y => rw [he] at hx; simp only [Option.map_some, Option.bind_some, hd] at hx; cases hx
theorem adopt {n B : Nat} {hs : AHeap} {μ : Mu} {w : World} {a : Act} {i : AIn} {dst elem es : Nat} {z : Dat} (p : Pend Λ n hs μ w a i B) (hi : i = ⟨some dst, .alloc elem es z, [], none⟩) (hr : Rel Λ μ hs w) :
    ∃ l : Loc, l.block = B ∧ l.off = 0 ∧ Rel Λ (μ.with hs.next l) (hs.new (.row elem es false false z)) w ∧ StepB n μ hs w (μ.with hs.next l) (hs.new (.row elem es false false z)) w := by
  obtain ⟨cap, hob⟩ := p.ob
  refine ⟨⟨B, 0, cap⟩, rfl, rfl, ?_⟩
  obtain ⟨o, ho⟩ : ∃ o, o = AObj.row elem es false false z := ⟨_, rfl⟩
  rw [← ho]
  have hno : μ hs.next = none := by
    cases e : μ hs.next with
    | none => rfl
    | some k => have := (hr.dom _ _ e).1; omega
  have hext : Ext μ (μ.with hs.next ⟨B, 0, cap⟩) := Ext.with _ hno
  have hget : ∀ i, i ≠ hs.next → (hs.new o).get i = hs.get i := fun i hi => AHeap.get_new_ne hs o (fun e => hi e.symm)
  refine ⟨⟨fun id o' e => ?_, fun i j oi oj li lj hi hj hne hrw hli hlj => ?_, fun id k e => ?_⟩, ⟨hext, by simp [AHeap.new], fun id hid => Mu.with_ne _ _ (by omega), rfl, rfl, rfl, Nat.le_refl _, fun _ _ _ => rfl, fun id o' k e hrw hk => ?_, fun id o' k e hk => ?_⟩⟩
  · by_cases hid : id = hs.next
    · subst hid
      rw [AHeap.get_new_same hs o] at e
      cases e
      exact ⟨_, Mu.with_same _ _ _, by rw [ho]; exact hob dst elem es z hi _⟩
    · rw [hget id hid] at e
      obtain ⟨k, hk, hok⟩ := hr.obj id o' e
      exact ⟨k, by rw [Mu.with_ne _ _ hid]; exact hk, ObjR.ext hext hok rfl⟩
  · by_cases hi' : i = hs.next
    · subst hi'
      rw [Mu.with_same] at hli; cases hli
      rw [Mu.with_ne _ _ (fun e => hne e.symm)] at hlj
      rw [hget j (fun e => hne e.symm)] at hj
      exact fun e => p.fr j oj lj hj hlj e.symm
    · rw [hget i hi'] at hi
      rw [Mu.with_ne _ _ hi'] at hli
      by_cases hj' : j = hs.next
      · subst hj'
        rw [Mu.with_same] at hlj; cases hlj
        exact p.fr i oi li hi hli
      · rw [hget j hj'] at hj
        rw [Mu.with_ne _ _ hj'] at hlj
        exact hr.inj i j oi oj li lj hi hj hne hrw hli hlj
  · by_cases hid : id = hs.next
    · subst hid
      rw [Mu.with_same] at e; cases e
      exact ⟨by simp [AHeap.new], p.hi⟩
    · rw [Mu.with_ne _ _ hid] at e
      have := hr.dom _ _ e
      exact ⟨by simp only [AHeap.new]; omega, this.2⟩
  · by_cases hid : id = hs.next
    · subst hid
      rw [Mu.with_same] at hk; cases hk
      exact .inl p.lo
    · rw [hget id hid] at e
      rw [Mu.with_ne _ _ hid] at hk
      exact .inr ⟨id, o', k, e, hrw, hk, rfl⟩
  · by_cases hid : id = hs.next
    · subst hid
      rw [Mu.with_same] at hk; cases hk
      exact .inl p.lo
    · rw [hget id hid] at e
      rw [Mu.with_ne _ _ hid] at hk
      exact .inr ⟨id, o', k, e, hk, rfl⟩
theorem draw_run (hC : CSound P Λ C) {ops : Array Oper} {is : List AIn} {pre : List (List Nat)} {l : List DI} {Q : List AV → AHeap → Prop} {b : Frame} {k : List Item} {cs : List Frame} {n : Nat} {qf : Bool}
    (hI : ∀ x, x ∈ l → ∃ o, ops[x.j]? = some o ∧ trIn P ops o = some x.i) (hmem : ∀ x, x ∈ l → is[x.j]? = some x.i ∧ ∀ r, r ∈ x.rs → is[r.1]? = some r.2)
    (hok : okGo pre [] l = true) (hfl : flOk qf pre l = true) (hall : ∀ j, j < ops.size → ∃ x, x ∈ l ∧ x.j = j)
    (hpre : ∀ (k : Nat) (o : Oper), ops[k]? = some o → (∀ d, d ∈ hard o → d < k) ∧ ∀ j, j ∈ (pre[k]?).getD [] → ∃ d, d ∈ hard o ∧ (d = j ∨ j ∈ (pre[d]?).getD [])) :
    ∀ (σ : List Nat) (L : Array Bool) (l1 l2 : List DI) (e : List AV) (hs : AHeap) (μ : Mu) (w : World) (a : Act) (blk : Nat → Nat), L.size = ops.size → (∀ (k : Nat) (o : Oper), ops[k]? = some o → On L k → ∀ d, d ∈ hard o → On L d) → VS ops σ L →
      (σ.filter (flE qf is)) = (l2.filter fun d => d.eff && !d.i.flq qf).map DI.j →
      l = l1 ++ l2 → runDrawW C l2 e hs Q → (∀ d b, l2 = d :: b → d.bar = true) → (∀ x, x ∈ l2 → x.i.flq qf = false → ¬ On L x.j) → (∀ x, x ∈ l1 → ¬ On L x.j → x.bar = false ∧ QFact e x.i hs) →
      n ≤ w.heap.size → (∀ x, x ∈ l2 → x.i.flq qf = true → On L x.j → Pend Λ n hs μ w a x.i (blk x.j)) → (∀ x y, x ∈ l2 → y ∈ l2 → x.i.flq qf = true → y.i.flq qf = true → On L x.j → On L y.j → x.j ≠ y.j → blk x.j ≠ blk y.j) →
      Rel Λ μ hs w → EnvR μ (maskE (livP qf l1 l2 L) e) a.tmps →
      ∃ e' h' a' w' μ', Q e' h' ∧ Steps P (lone (Fat b a (.inRegion ops σ :: k)) cs w) (lone (Fat b a' k) cs w') ∧ a'.defers = a.defers ∧ EnvR μ' e' a'.tmps ∧ Rel Λ μ' h' w' ∧ StepB n μ hs w μ' h' w' := by
  have hR : ∀ x, x ∈ l → ∀ y, y ∈ l → ∀ r, r ∈ y.rs → r.1 = x.j → r.2 = x.i := fun x hx y hy rr hrr hj => by
    have h1 := (hmem y hy).2 rr hrr
    rw [hj, (hmem x hx).1] at h1
    exact (Option.some.inj h1).symm
  have hJ : ∀ x, x ∈ l → ∀ y, y ∈ l → x.j = y.j → x.i = y.i := fun x hx y hy hj => by
    have h1 := (hmem x hx).1
    rw [hj, (hmem y hy).1] at h1
    exact (Option.some.inj h1).symm
  have hat : ∀ (p : List DI) (d : DI) (q : List DI), l = p ++ d :: q → Chk pre p.reverse d q := fun p d q e => by
    have := okGo_split (pre := pre) (p := p) (done := []) (d := d) (b := q) (by rw [← e]; exact hok)
    rwa [List.append_nil] at this
  have hflat : ∀ (p : List DI) (d : DI) (q : List DI), l = p ++ d :: q → d.i.flq qf = true → d.fin = false ∧ ∃ s r, q = s :: r ∧ s.bar = true ∧ s.i.flq qf = false ∧ d.j ∈ (pre[s.j]?).getD [] := fun p d q e hf => flOk_next (flOk_rest (p := p) (by rw [← e]; exact hfl)) hf
  -- what floats has a slot of its own
  have hsep : ∀ (p : List DI) (x : DI) (q : List DI) (f : DI), l = p ++ x :: q → f ∈ q → f.i.flq qf = true → ∀ t, t ∈ x.i.reads ∨ t ∈ x.i.dsts → t ∉ f.i.dsts := fun p x q f e hf hfl t ht => by
    obtain ⟨y, z, hyz⟩ := List.append_of_mem hf
    have hfin := (hflat (p ++ x :: y) f z (by rw [e, hyz]; simp) hfl).1
    exact (hat p x q e).out t ht f hf hfin
  have heffE : ∀ d, d ∈ l → flE qf is d.j = (d.eff && !d.i.flq qf) := fun d hd => by
    unfold flE
    rw [(hmem d hd).1]; rfl
  intro σ
  induction σ with
  | nil =>
    intro L l1 l2 e hs μ w a blk hsz hcl hv hord hl hrun hhd h2 h1 hn hP hB hr he
    have hin : ∀ x, x ∈ l → On L x.j := fun x hx => by
      obtain ⟨o, ho, _⟩ := hI x hx
      exact hv _ (Array.getElem?_eq_some_iff.1 ho).1
    cases l2 with
    | cons x l2 =>
      exfalso
      cases hf : x.i.flq qf with
      | false => exact h2 x (by simp) hf (hin x (by rw [hl]; simp))
      | true =>
        obtain ⟨_, s, r, hsr, _, hsf, _⟩ := hflat l1 x l2 hl hf
        subst hsr
        exact h2 s (by simp) hsf (hin s (by rw [hl]; simp))
    | nil =>
      have hm : maskE (livP qf l1 [] L) e = e := maskE_all fun t => livP_spec.2 ⟨live_spec.2 fun x hx _ => hin x (by rw [hl]; simp [hx]), fun x hx => by cases hx⟩
      rw [hm] at he
      exact ⟨e, hs, a, w, μ, hrun, Steps.one st_region_end, rfl, he, hr, (Step.refl _ _ _).toB hn⟩
  | cons i σ ih =>
    intro L l1 l2 e hs μ w a blk hsz hcl hv hord hl hrun hhd h2 h1 hn hP hB hr he
    obtain ⟨hilt, hnon, ⟨o, ho, hhard⟩, hv'⟩ := hv
    obtain ⟨d, hd, hdj⟩ := hall i hilt
    obtain ⟨o', ho', htr'⟩ := hI d hd
    rw [hdj, ho] at ho'
    have := Option.some.inj ho'; subst this
    have hprel := pre_listed hsz hpre hcl i o ho hhard
    have hsz' : (L.setIfInBounds i true).size = ops.size := by simpa using hsz
    have hcl' := VS.closed hcl ⟨o, ho, hhard⟩
    have heff : flE qf is i = (d.eff && !d.i.flq qf) := by rw [← hdj]; exact heffE d hd
    have hself : On (L.setIfInBounds i true) i := by
      unfold On
      rw [Array.getElem?_setIfInBounds, if_pos rfl, if_pos (by omega)]
    cases hdf : d.i.flq qf with
    | true =>
      -- the model makes it, the machine later
      have hdb : d.bar = true := by
        cases hb : d.bar with
        | true => rfl
        | false => rw [nofl_of hb] at hdf; cases hdf
      have hd2 : d ∈ l2 := by
        have hd' := hd
        rw [hl] at hd'
        rcases List.mem_append.1 hd' with h | h
        · have := (h1 d h (by rw [hdj]; exact hnon)).1
          rw [hdb] at this; cases this
        · exact h
      obtain ⟨dst, elem, es, z, hdi, _, _⟩ := fl_is hdf
      have hdd : d.i.dst = some dst := by rw [hdi]
      obtain ⟨obj, v, s1, hpend⟩ := alloc_step (b := b) (rest := σ) (k := k) ho htr' hdf he hr cs
      obtain ⟨r1, t1⟩ := hr.wpush0 obj
      have hk : Kept a (a.put d.i.dst v) d.i.dsts := Kept.put
      -- others' slots
      have hoth : ∀ x, x ∈ l2 → x.i.flq qf = true → x.j ≠ i → ∀ dd, x.i.dst = some dd → dd ∉ d.i.dsts := fun x hx hxf hxi dd hxd hm => by
        have hxl : x ∈ l := by rw [hl]; simp [hx]
        have hxdd : dd ∈ x.i.dsts := by simp [AIn.dsts, hxd]
        obtain ⟨p, q, hpq⟩ := List.append_of_mem hd
        have hxpq := hxl
        rw [hpq] at hxpq
        rcases List.mem_append.1 hxpq with hxp | hxp
        · obtain ⟨y, z2, hyz⟩ := List.append_of_mem hxp
          exact hsep y x (z2 ++ d :: q) d (by rw [hpq, hyz]; simp) (by simp) hdf dd (.inr hxdd) hm
        · rcases List.mem_cons.1 hxp with rfl | hxq
          · exact hxi hdj
          · exact hsep p d q x hpq hxq hxf dd (.inr hm) hxdd
      obtain ⟨e2, h2', a2, w2, μ2, q2, s2, d2, v2, r2, t2⟩ := ih (L.setIfInBounds i true) l1 l2 e hs μ { w with heap := w.heap.push obj } (a.put d.i.dst v) (fun j => if j = i then w.heap.size else blk j) hsz' hcl' hv'
        (by rw [← hord, List.filter_cons, heff, hdf]; simp) hl hrun hhd
        (fun x hx hxf hon => by
          rcases On.of_set hon with e | e
          · have := hJ x (by rw [hl]; simp [hx]) d hd (e.trans hdj.symm)
            rw [this, hdf] at hxf; cases hxf
          · exact h2 x hx hxf e)
        (fun x hx hxn => h1 x hx fun h => hxn h.set)
        (Nat.le_trans hn t1.size)
        (fun x hx hxf hon => by
          by_cases hxi : x.j = i
          · have e1 := hJ x (by rw [hl]; simp [hx]) d hd (hxi.trans hdj.symm)
            rw [e1, if_pos hxi]
            exact hpend n hn fun _ _ _ => trivial
          · rw [if_neg hxi]
            rcases On.of_set hon with e | e
            · exact absurd e hxi
            · exact (hP x hx hxf e).step t1 hk (hoth x hx hxf hxi))
        (fun x y hx hy hxf hyf hxo hyo hne => by
          by_cases hxi : x.j = i
          · rw [if_pos hxi, if_neg (fun h => hne (hxi.trans h.symm))]
            rcases On.of_set hyo with e | e
            · exact absurd (hxi.trans e.symm) hne
            · have := (hP y hy hyf e).hi; omega
          · rw [if_neg hxi]
            rcases On.of_set hxo with e | e
            · exact absurd e hxi
            · by_cases hyi : y.j = i
              · rw [if_pos hyi]
                have := (hP x hx hxf e).hi; omega
              · rw [if_neg hyi]
                rcases On.of_set hyo with e' | e'
                · exact absurd e' hyi
                · exact hB x y hx hy hxf hyf e e' hne)
        r1
        (by
          refine EnvR.other (he.unmask fun s hs => ?_) fun dd hddd => ?_
          · obtain ⟨p1, p2⟩ := livP_spec.1 hs
            refine livP_spec.2 ⟨live_spec.2 fun x hx hxs => ?_, fun x hx hxf hxs hon => p2 x hx hxf hxs hon.set⟩
            rcases On.of_set (live_spec.1 p1 x hx hxs) with e | e
            · exfalso
              have e1 := hJ x (by rw [hl]; simp [hx]) d hd (e.trans hdj.symm)
              rw [e1] at hxs
              exact p2 d hd2 hdf hxs (by rw [hdj]; exact hself)
            · exact e
          · cases hq : livP qf l1 l2 (L.setIfInBounds i true) dd with
            | false => rfl
            | true => exact absurd (by rw [hdj]; exact hself) ((livP_spec.1 hq).2 d hd2 hdf (by simp [AIn.dsts, hddd])))
      exact ⟨e2, h2', a2, w2, μ2, q2, s1.trans s2, d2.trans (by cases d.i.dst <;> rfl), v2, r2, (t1.toB hn).trans t2⟩
    | false =>
    -- the place of the instruction
    obtain ⟨p, q, hpq⟩ := List.append_of_mem hd
    have chk := hat p d q hpq
    have hlive : ∀ (l1 : List DI), (∀ x, x ∈ l1 → x ∈ l) → ∀ t, live l1 (L.setIfInBounds i true) t = true → t ∉ d.i.dsts → live l1 L t = true := by
      intro l1 hsub t ht hnt
      refine live_spec.2 fun x hx hxt => ?_
      rcases On.of_set (live_spec.1 ht x hx hxt) with e | e
      · have := hJ x (hsub x hx) d hd (e.trans hdj.symm)
        rw [this] at hxt
        exact absurd hxt hnt
      · exact e
    have hreadl : ∀ (l1 : List DI), (∀ x, x ∈ l1 → x ∈ l) → (∀ x, x ∈ l1 → ¬ On L x.j → x.bar = false) → ∀ t, t ∈ d.i.reads → live l1 L t = true := by
      intro l1 hsub hq1 t ht
      refine live_spec.2 fun x hx1 hxt => ?_
      have hx : x ∈ l := hsub x hx1
      rw [hpq] at hx
      rcases List.mem_append.1 hx with hx | hx
      · have := chk.wait t ht x (List.mem_reverse.2 hx) hxt
        rw [hdj] at this
        exact hprel _ this
      · rcases List.mem_cons.1 hx with rfl | hx
        · exact absurd hxt (chk.self t ht)
        · cases hf : x.fin with
          | false => exact absurd hxt (chk.out t (.inl ht) x hx hf)
          | true =>
            apply Classical.byContradiction
            intro hnn
            have := (DI.bar_false.1 (hq1 x hx1 hnn)).2
            rw [hf] at this; cases this
    by_cases hd1 : d ∈ l1
    · -- it has been told already
      obtain ⟨y1, z1, hyz1⟩ := List.append_of_mem hd1
      have hdl : l = y1 ++ d :: (z1 ++ l2) := by rw [hl, hyz1]; simp
      have hsub : ∀ x, x ∈ l1 → x ∈ l := fun x hx => by rw [hl]; simp [hx]
      obtain ⟨hb, hfd⟩ := h1 d hd1 (by rw [hdj]; exact hnon)
      obtain ⟨hc, hfin⟩ := DI.bar_false.1 hb
      have hde : d.eff = false := by unfold DI.eff; simp [hc]
      have hnew : ∀ x, x ∈ l2 → x.j ≠ i := fun x hx hxi => by
        obtain ⟨y, z, hyz⟩ := List.append_of_mem hx
        exact (hat (l1 ++ y) x z (by rw [hl, hyz]; simp)).once d (by simp [hd1]) (hdj.trans hxi.symm)
      obtain ⟨a1, w1, μ1, s1, d1, e1, r1, t1, k1⟩ := quiet_step (b := b) (rest := σ) (k := k) hC ho htr' hc hfd hr he (fun t ht => livP_spec.2 ⟨hreadl l1 hsub (fun x hx hxn => (h1 x hx hxn).1) t ht, fun x hx hxf hxt _ => hsep y1 d (z1 ++ l2) x hdl (by simp [hx]) hxf t (.inl ht) hxt⟩) cs
      obtain ⟨e2, h2', a2, w2, μ2, q2, s2, d2, v2, r2, t2⟩ := ih (L.setIfInBounds i true) l1 l2 e hs μ1 w1 a1 blk hsz' hcl' hv'
        (by rw [← hord, List.filter_cons, heff, hde]; rfl) hl hrun hhd
        (fun x hx hxf hon => by
          rcases On.of_set hon with e | e
          · exact hnew x hx e
          · exact h2 x hx hxf e)
        (fun x hx hxn => h1 x hx fun h => hxn h.set)
        (Nat.le_trans hn t1.size)
        (fun x hx hxf hon => by
          rcases On.of_set hon with e | e
          · exact absurd e (hnew x hx)
          · exact (hP x hx hxf e).step t1 k1 fun dd hdd hm => hsep y1 d (z1 ++ l2) x hdl (by simp [hx]) hxf dd (.inr hm) (by simp [AIn.dsts, hdd]))
        (fun x y hx hy hxf hyf hxo hyo hne => by
          rcases On.of_set hxo with e | e
          · exact absurd e (hnew x hx)
          · rcases On.of_set hyo with e' | e'
            · exact absurd e' (hnew y hy)
            · exact hB x y hx hy hxf hyf e e' hne)
        r1 (e1 _ fun t ht hnt => by
          obtain ⟨p1, p2⟩ := livP_spec.1 ht
          exact livP_spec.2 ⟨hlive l1 hsub t p1 hnt, fun x hx hxf hxt hon => p2 x hx hxf hxt hon.set⟩)
      exact ⟨e2, h2', a2, w2, μ2, q2, s1.trans s2, d2.trans d1, v2, r2, (t1.toB hn).trans t2⟩
    · -- the next that makes or writes something, or comes last
      have hd2 : d ∈ l2 := by
        have hd' := hd
        rw [hl] at hd'
        rcases List.mem_append.1 hd' with h | h
        · exact absurd h hd1
        · exact h
      -- no other of its kind is ahead of it
      have hfirst : ∀ (l1' : List DI) (d0 : DI) (rest : List DI), l = l1' ++ d0 :: rest → (∀ x, x ∈ d0 :: rest → x ∈ l2) → d ∈ d0 :: rest → d0.bar = true → d0.i.flq qf = false → (σ.filter (flE qf is) = ((d0 :: rest).filter fun d => d.eff && !d.i.flq qf).map DI.j ∨ (i :: σ).filter (flE qf is) = ((d0 :: rest).filter fun d => d.eff && !d.i.flq qf).map DI.j) → (i :: σ).filter (flE qf is) = ((d0 :: rest).filter fun d => d.eff && !d.i.flq qf).map DI.j → d = d0 := by
        intro l1' d0 rest hll hsub hdm hb0 hf0 _ hord2
        rcases List.mem_cons.1 hdm with h | h
        · exact h
        · exfalso
          obtain ⟨y, z, hyz⟩ := List.append_of_mem h
          have chk3 := hat (l1' ++ d0 :: y) d z (by rw [hll, hyz]; simp)
          have h20 : ¬ On L d0.j := h2 d0 (hsub d0 (by simp)) hf0
          cases hf : d0.fin with
          | true =>
            have := chk3.bar d0 (by simp) hf
            rw [hdj] at this
            exact h20 (hprel _ this)
          | false =>
            have he0 : d0.eff = true := by unfold DI.bar at hb0; rw [hf, Bool.or_false] at hb0; exact hb0
            cases hde : d.eff with
            | false =>
              obtain ⟨y', hy'⟩ : ∃ y', (d0 :: y).reverse.find? DI.eff = some y' := by
                cases hfd : (d0 :: y).reverse.find? DI.eff with
                | some y' => exact ⟨y', rfl⟩
                | none =>
                  have := List.find?_eq_none.1 hfd d0 (by simp)
                  rw [he0] at this; exact absurd rfl this
              have hmy : y' ∈ d0 :: y := List.mem_reverse.1 (List.mem_of_find?_eq_some hy')
              have hyl : y' ∈ l2 := hsub y' (by
                rcases List.mem_cons.1 hmy with rfl | hm
                · simp
                · rw [hyz]; simp [hm])
              have hyon := chk3.eff hde y' (by
                rw [List.reverse_append, List.find?_append, hy']; rfl)
              rw [hdj] at hyon
              have hyon := hprel _ hyon
              cases hyf : y'.i.flq qf with
              | false => exact h2 y' hyl hyf hyon
              | true =>
                -- the one behind what floats
                obtain ⟨u, v, huv⟩ := List.append_of_mem hmy
                have hl3 : l = (l1' ++ u) ++ y' :: (v ++ d :: z) := by
                  have e1 : d0 :: rest = u ++ y' :: v ++ d :: z := by rw [hyz, ← huv]; simp
                  rw [hll, e1]; simp
                obtain ⟨_, s, r, hsr, hsb, hsf, _⟩ := hflat _ _ _ hl3 hyf
                cases v with
                | nil =>
                  simp only [List.nil_append, List.cons.injEq] at hsr
                  have hds : d = s := hsr.1
                  have hdfin : d.fin = true := by
                    have : d.bar = true := by rw [hds]; exact hsb
                    unfold DI.bar at this
                    rwa [hde, Bool.false_or] at this
                  have := chk3.fin hdfin d0 (by simp)
                  rw [hdj] at this
                  exact h20 (hprel _ this)
                | cons s' v' =>
                  simp only [List.cons_append, List.cons.injEq] at hsr
                  have hss : s' = s := hsr.1
                  have hsm : s ∈ d0 :: y := by rw [huv, ← hss]; simp
                  have hsl : s ∈ l2 := hsub s (by
                    rcases List.mem_cons.1 hsm with e | hm
                    · rw [e]; simp
                    · rw [hyz]; simp [hm])
                  cases hse : s.eff with
                  | true =>
                    have hlast : (d0 :: y).reverse.find? DI.eff = (s' :: v').reverse.find? DI.eff := by
                      rw [huv, show u ++ y' :: s' :: v' = (u ++ [y']) ++ (s' :: v') by simp, List.reverse_append, List.find?_append]
                      cases hq : (s' :: v').reverse.find? DI.eff with
                      | some x => rfl
                      | none =>
                        have := List.find?_eq_none.1 hq s' (by simp)
                        rw [hss, hse] at this; exact absurd rfl this
                    rw [hlast] at hy'
                    have hy2 : y' ∈ s' :: v' := List.mem_reverse.1 (List.mem_of_find?_eq_some hy')
                    obtain ⟨u2, v2, huv2⟩ := List.append_of_mem hy2
                    have hchk := hat ((l1' ++ u) ++ y' :: u2) y' (v2 ++ d :: z) (by rw [hl3, huv2]; simp)
                    exact hchk.once y' (by simp) rfl
                  | false =>
                    have hsfin : s.fin = true := by
                      unfold DI.bar at hsb
                      rwa [hse, Bool.false_or] at hsb
                    have := chk3.bar s (by simp only [List.reverse_append, List.mem_append, List.mem_reverse]; exact .inl hsm) hsfin
                    rw [hdj] at this
                    exact h2 s hsl hsf (hprel _ this)
            | true =>
              have h3 : d0.j = i := by
                rw [List.filter_cons, heff, hde, hdf, List.filter_cons, he0, hf0] at hord2
                simp only [Bool.not_false, Bool.and_self, if_true, List.map_cons, List.cons.injEq] at hord2
                exact hord2.1.symm
              exact chk3.once d0 (by simp) (h3.trans hdj.symm)
      -- the step itself
      have main : ∀ (l1 : List DI) (rest : List DI) (e : List AV) (hs : AHeap) (μ : Mu), l = l1 ++ d :: rest → (∀ x, x ∈ rest → x ∈ l2) → (i :: σ).filter (flE qf is) = ((d :: rest).filter fun d => d.eff && !d.i.flq qf).map DI.j → runDrawW C (d :: rest) e hs Q → d.bar = true →
          (∀ x, x ∈ l1 → ¬ On L x.j → x.bar = false ∧ QFact e x.i hs) → (∀ x, x ∈ rest → x.i.flq qf = true → On L x.j → Pend Λ n hs μ w a x.i (blk x.j)) → Rel Λ μ hs w → EnvR μ (maskE (livP qf l1 (d :: rest) L) e) a.tmps →
          ∃ e' h' a' w' μ', Q e' h' ∧ Steps P (lone (Fat b a (.inRegion ops (i :: σ) :: k)) cs w) (lone (Fat b a' k) cs w') ∧ a'.defers = a.defers ∧ EnvR μ' e' a'.tmps ∧ Rel Λ μ' h' w' ∧ StepB n μ hs w μ' h' w' := by
        intro l1 rest e hs μ hl hrl hord hrun hb0 h1 hP hr he
        have hsub : ∀ x, x ∈ l1 → x ∈ l := fun x hx => by rw [hl]; simp [hx]
        have hok2 := okGo_rest (p := l1) (by rw [← hl]; exact hok)
        rw [List.append_nil] at hok2
        obtain ⟨chk2, hok3⟩ := okGo_chk hok2
        simp only [runDrawW] at hrun
        obtain ⟨v, h', a1, w1, μ1, ⟨hag, hk⟩, s1, d1, e1, r1, t1, k1⟩ := effect_step (b := b) (rest := σ) (k := k) hC ho htr' hrun hr he
          (fun t ht => livP_spec.2 ⟨hreadl l1 hsub (fun x hx hxn => (h1 x hx hxn).1) t ht, fun x hx hxf hxt _ => by
            rcases List.mem_cons.1 hx with rfl | hx
            · rw [hdf] at hxf; cases hxf
            · exact hsep l1 d rest x hl hx hxf t (.inl ht) hxt⟩) cs
        obtain ⟨qs, l2', e', hq1, hq2, hq3, hq4, hq5, hq6, hq7⟩ := quiet_run hok3 hk
        have hqs : ∀ x, x ∈ qs → x ∈ rest := fun x hx => by rw [hq1]; simp [hx]
        have hqf : ∀ x, x ∈ qs → x.fin = false := fun x hx => (DI.bar_false.1 (hq2 x hx)).2
        have hl2r : ∀ x, x ∈ l2' → x ∈ rest := fun x hx => by rw [hq1]; simp [hx]
        have hqe : (qs.filter fun d => d.eff && !d.i.flq qf) = [] := by
          rw [List.filter_eq_nil_iff]
          intro x hx
          have := (DI.bar_false.1 (hq2 x hx)).1
          unfold DI.eff
          simp [this]
        have hlq : l = (l1 ++ d :: qs) ++ l2' := by rw [hl, hq1]; simp
        -- slots of what was told stay
        have hstay : ∀ x, x ∈ l1 → ¬ On L x.j → ∀ t, t ∈ x.i.reads ∨ t ∈ x.i.dsts → (setDst e d.i.dst v)[t]? = e[t]? ∧ e'[t]? = (setDst e d.i.dst v)[t]? := by
          intro x hx hxn t ht
          obtain ⟨y, z, hyz⟩ := List.append_of_mem hx
          have chk3 := hat y x (z ++ d :: rest) (by rw [hl, hyz]; simp)
          refine ⟨setDst_get ?_, hq6 t fun x' hx' => chk3.out t ht x' (by simp [hqs x' hx']) (hqf x' hx')⟩
          cases hf : d.fin with
          | false => exact chk3.out t ht d (by simp) hf
          | true =>
            have := chk2.fin hf x (List.mem_reverse.2 hx)
            rw [hdj] at this
            exact absurd (hprel _ this) hxn
        have honce : ∀ x, x ∈ rest → x.j ≠ i := fun x hx hxi => by
          obtain ⟨y, z, hyz⟩ := List.append_of_mem hx
          exact (hat (l1 ++ d :: y) x z (by rw [hl, hyz]; simp)).once d (by simp) (hdj.trans hxi.symm)
        obtain ⟨e2, h2', a2, w2, μ2, q2, s2, d2, v2, r2, t2⟩ := ih (L.setIfInBounds i true) (l1 ++ d :: qs) l2' e' h' μ1 w1 a1 blk hsz' hcl' hv'
          (by
            rw [List.filter_cons, heff, List.filter_cons] at hord
            have hrest : (rest.filter fun d => d.eff && !d.i.flq qf) = l2'.filter fun d => d.eff && !d.i.flq qf := by rw [hq1, List.filter_append, hqe, List.nil_append]
            cases hde : (d.eff && !d.i.flq qf) with
            | true =>
              rw [hde] at hord
              simp only [if_true, List.map_cons, List.cons.injEq] at hord
              rw [hord.2, hrest]
            | false =>
              rw [hde] at hord
              simp only [Bool.false_eq_true, if_false] at hord
              rw [hord, hrest])
          hlq hq4 hq3
          (fun x hx hxf hon => by
            rcases On.of_set hon with e | e
            · exact honce x (hl2r x hx) e
            · exact h2 x (hrl x (hl2r x hx)) hxf e)
          (fun x hx hxn => by
            rcases List.mem_append.1 hx with hx | hx
            · have hxn0 : ¬ On L x.j := fun h => hxn h.set
              obtain ⟨hxb, hxf⟩ := h1 x hx hxn0
              refine ⟨hxb, ?_⟩
              have hxc := (DI.bar_false.1 hxb).1
              have hf1 : QFact (setDst e d.i.dst v) x.i hs := hxf.congr (fun t ht => (hstay x hx hxn0 t (.inl ht)).1) (fun t ht => (hstay x hx hxn0 t (.inr ht)).1)
              have hf2 : QFact (setDst e d.i.dst v) x.i h' := by
                by_cases hx0 : cls x.i.op = 0
                · exact hf1.pure hx0 h'
                · have hx1 : cls x.i.op = 1 := by have := cls_le x.i.op; omega
                  cases hde : d.eff with
                  | true =>
                    rcases chk2.red hde x (List.mem_reverse.2 hx) hx1 with hp | ⟨r, hrm, hrj⟩
                    · rw [hdj] at hp
                      exact absurd (hprel _ hp).set hxn
                    · have := hR x (hsub x hx) d hd r hrm hrj
                      have hrf := (List.all_eq_true.1 hag) r hrm
                      rw [this] at hrf
                      exact hf1.again hxc hrf
                  | false =>
                    have hf : d.fin = true := by unfold DI.bar at hb0; rw [hde, Bool.false_or] at hb0; exact hb0
                    have := chk2.fin hf x (List.mem_reverse.2 hx)
                    rw [hdj] at this
                    exact absurd (hprel _ this) hxn0
              exact hf2.congr (fun t ht => (hstay x hx hxn0 t (.inl ht)).2) (fun t ht => (hstay x hx hxn0 t (.inr ht)).2)
            · rcases List.mem_cons.1 hx with rfl | hx
              · exact absurd (by rw [hdj]; exact hself) hxn
              · exact ⟨hq2 x hx, hq5 x hx⟩)
          (Nat.le_trans hn t1.size)
          (fun x hx hxf hon => by
            rcases On.of_set hon with e | e
            · exact absurd e (honce x (hl2r x hx))
            · exact (hP x (hl2r x hx) hxf e).step t1 k1 fun dd hdd hm => hsep l1 d rest x hl (hl2r x hx) hxf dd (.inr hm) (by simp [AIn.dsts, hdd]))
          (fun x y hx hy hxf hyf hxo hyo hne => by
            rcases On.of_set hxo with e | e
            · exact absurd e (honce x (hl2r x hx))
            · rcases On.of_set hyo with e' | e'
              · exact absurd e' (honce y (hl2r y hy))
              · exact hB x y (hrl x (hl2r x hx)) (hrl y (hl2r y hy)) hxf hyf e e' hne)
          r1 ((e1 (livP qf l1 rest (L.setIfInBounds i true)) fun t ht hnt => by
              obtain ⟨p1, p2⟩ := livP_spec.1 ht
              refine livP_spec.2 ⟨hlive l1 hsub t p1 hnt, fun x hx hxf hxt hon => ?_⟩
              rcases List.mem_cons.1 hx with rfl | hx
              · rw [hdf] at hxf; cases hxf
              · exact p2 x hx hxf hxt hon.set).remask hq7 fun s hs => by
              obtain ⟨p1, p2⟩ := livP_spec.1 hs
              refine ⟨livP_spec.2 ⟨live_spec.2 fun x hx hxs => live_spec.1 p1 x (by simp [hx]) hxs, fun x hx hxf hxt hon => ?_⟩, hq6 s fun x hx hxs => ?_⟩
              · rw [hq1] at hx
                rcases List.mem_append.1 hx with hx | hx
                · rw [nofl_of (hq2 x hx)] at hxf; cases hxf
                · exact p2 x hx hxf hxt hon
              · have := live_spec.1 p1 x (by simp [hx]) hxs
                rcases On.of_set this with e | e
                · exact honce x (hqs x hx) e
                · exact h2 x (hrl x (hqs x hx)) (nofl_of (hq2 x hx)) e)
        exact ⟨e2, h2', a2, w2, μ2, q2, s1.trans s2, d2.trans d1, v2, r2, (t1.toB hn).trans t2⟩
      cases l2 with
      | nil => cases hd2
      | cons d0 rest =>
        have hb0 := hhd d0 rest rfl
        cases hf0 : d0.i.flq qf with
        | false =>
          have hdd := hfirst l1 d0 rest hl (fun x hx => hx) hd2 hb0 hf0 (.inr hord) hord
          subst hdd
          exact main l1 rest e hs μ hl (fun x hx => by simp [hx]) hord hrun hb0 h1 (fun x hx hxf hon => hP x (by simp [hx]) hxf hon) hr he
        | true =>
          obtain ⟨hfin0, s, r, hsr, hsb, hsf, hsp⟩ := hflat l1 d0 rest hl hf0
          subst hsr
          have hord2 : (i :: σ).filter (flE qf is) = ((s :: r).filter fun d => d.eff && !d.i.flq qf).map DI.j := by
            rw [hord, List.filter_cons, hf0]; simp
          have hl' : l = (l1 ++ [d0]) ++ s :: r := by rw [hl]; simp
          have hdd := hfirst (l1 ++ [d0]) s r hl' (fun x hx => by simp only [List.mem_cons] at hx ⊢; exact .inr hx) (by
            rcases List.mem_cons.1 hd2 with h | h
            · rw [h, hf0] at hdf; cases hdf
            · exact h) hsb hsf (.inr hord2) hord2
          subst hdd
          have hon0 : On L d0.j := hprel _ (by rw [← hdj]; exact hsp)
          have hp0 := hP d0 (by simp) hf0 hon0
          obtain ⟨dst, elem, es, z, hdi, hz, h0⟩ := fl_is hf0
          obtain ⟨lc, hlb, hlo, hr2, st2⟩ := adopt hp0 hdi hr
          have hok2 := okGo_rest (p := l1) (by rw [← hl]; exact hok)
          rw [List.append_nil] at hok2
          obtain ⟨chk0, _⟩ := okGo_chk hok2
          simp only [runDrawW] at hrun
          have hrun2 : d0.rs.all (fun r => again r.2 (setDst e (some dst) (.ptr hs.next 0)) (hs.new (.row elem es false false z))) = true ∧ runDrawW C (d :: r) (setDst e (some dst) (.ptr hs.next 0)) (hs.new (.row elem es false false z)) Q := by
            have hh := hrun
            rw [hdi] at hh
            simp only [runInW, wantedA, evalL, doOpW, aop, newRow'] at hh
            rw [if_pos hz, if_pos h0] at hh
            exact hh
          obtain ⟨hag, hrun2⟩ := hrun2
          have hpre0 : ∀ j, j ∈ (pre[d0.j]?).getD [] → On L j := by
            obtain ⟨o0, ho0, _⟩ := hI d0 (by rw [hl]; simp)
            exact pre_listed hsz hpre hcl d0.j o0 ho0 (hcl d0.j o0 ho0 hon0)
          have hstay : ∀ x, x ∈ l1 → ∀ t, t ∈ x.i.reads ∨ t ∈ x.i.dsts → (setDst e (some dst) (.ptr hs.next 0))[t]? = e[t]? := by
            intro x hx t ht
            obtain ⟨y, z1, hyz⟩ := List.append_of_mem hx
            have := hsep y x (z1 ++ d0 :: d :: r) d0 (by rw [hl, hyz]; simp) (by simp) hf0 t ht
            exact setDst_get (by rw [hdi] at this; exact this)
          obtain ⟨e2, h2', a2, w2, μ2, q2, s2, d2, v2, r2, t2⟩ := main (l1 ++ [d0]) r (setDst e (some dst) (.ptr hs.next 0)) (hs.new (.row elem es false false z)) (μ.with hs.next lc) hl' (fun x hx => by simp [hx]) hord2 hrun2 hsb
            (fun x hx hxn => by
              rcases List.mem_append.1 hx with hx | hx
              · obtain ⟨hxb, hxf⟩ := h1 x hx hxn
                refine ⟨hxb, ?_⟩
                have hxc := (DI.bar_false.1 hxb).1
                have hf1 : QFact (setDst e (some dst) (.ptr hs.next 0)) x.i hs := hxf.congr (fun t ht => hstay x hx t (.inl ht)) (fun t ht => hstay x hx t (.inr ht))
                by_cases hx0 : cls x.i.op = 0
                · exact hf1.pure hx0 _
                · have hx1 : cls x.i.op = 1 := by have := cls_le x.i.op; omega
                  have he0 : d0.eff = true := by unfold DI.eff; rw [fl_cls hf0]; rfl
                  rcases chk0.red he0 x (List.mem_reverse.2 hx) hx1 with hp | ⟨rr, hrm, hrj⟩
                  · exact absurd (hpre0 _ hp) hxn
                  · have := hR x (by rw [hl]; simp [hx]) d0 (by rw [hl]; simp) rr hrm hrj
                    have hrf := (List.all_eq_true.1 hag) rr hrm
                    rw [this] at hrf
                    exact hf1.again hxc hrf
              · simp only [List.mem_singleton] at hx
                subst hx
                exact absurd hon0 hxn)
            (fun x hx hxf hon => by
              have hpx := hP x (by simp [hx]) hxf hon
              have hne : x.j ≠ d0.j := fun e => by
                obtain ⟨y, z1, hyz⟩ := List.append_of_mem hx
                exact (hat (l1 ++ d0 :: d :: y) x z1 (by rw [hl, hyz]; simp)).once d0 (by simp) e.symm
              refine ⟨hpx.lo, hpx.hi, hpx.tm, hpx.ob, fun id o l ho hl2 => ?_⟩
              by_cases hid : id = hs.next
              · subst hid
                rw [Mu.with_same] at hl2; cases hl2
                rw [hlb]
                exact hB d0 x (by simp) (by simp [hx]) hf0 hxf hon0 hon hne.symm
              · rw [AHeap.get_new_ne _ _ (fun e => hid e.symm)] at ho
                rw [Mu.with_ne _ _ hid] at hl2
                exact hpx.fr id o l ho hl2)
            hr2
            (by
              have hlen : e.length ≤ a.tmps.size := by have := he.1; rwa [maskE_length] at this
              have h0 := he.ext st2.ext
              refine ⟨by rw [maskE_length, setDst_length]; exact hlen, fun t v hv => ?_⟩
              rw [maskE_get] at hv
              cases he1 : (setDst e (some dst) (.ptr hs.next 0))[t]? with
              | none => rw [he1] at hv; cases hv
              | some y =>
                rw [he1] at hv
                simp only [Option.map_some, Option.bind_some] at hv
                split at hv
                · rename_i hq
                  have ey := notJunk_some hv
                  subst ey
                  by_cases htd : t = dst
                  · subst htd
                    have := setDst_dst he1
                    subst this
                    have hlt : t < e.length := by
                      have := (List.getElem?_eq_some_iff.1 he1).1
                      rwa [setDst_length] at this
                    refine ⟨_, hp0.tm t (by rw [hdi]) (by omega), ?_⟩
                    simp only [VR]
                    exact ⟨lc, Mu.with_same _ _ _, by rw [hlb, hlo]⟩
                  · refine h0.2 t y ?_
                    rw [maskE_get]
                    have e2 : e[t]? = some y := by rw [← he1]; exact (setDst_get (by simpa using htd)).symm
                    rw [e2]
                    simp only [Option.map_some, Option.bind_some]
                    obtain ⟨p1, p2⟩ := livP_spec.1 hq
                    rw [if_pos (livP_spec.2 ⟨live_spec.2 fun x hx hxs => live_spec.1 p1 x (by simp [hx]) hxs, fun x hx hxf hxt => ?_⟩)]
                    · exact hv
                    · rcases List.mem_cons.1 hx with e1 | hx
                      · subst e1
                        rw [hdi] at hxt
                        simp [AIn.dsts] at hxt
                        exact absurd hxt htd
                      · exact p2 x hx hxf hxt
                · cases hv)
          exact ⟨e2, h2', a2, w2, μ2, q2, s2, d2, v2, r2, st2.trans t2⟩
def Ends (P : Program) (Λ : Lam) (m : Machine) (b : Frame) (k : List Item) (cs : List Frame) (D : List Deferred → World → Prop) (μ : Mu) (h : AHeap) (w : World) (Q : AExit → List AV → AHeap → Prop) : Prop :=
  ∃ x e' h' a' w' μ', Q x e' h' ∧ Arr P m b k cs x a' w' ∧ D a'.defers w' ∧ EnvR μ' e' a'.tmps ∧ Rel Λ μ' h' w' ∧ Step μ h w μ' h' w'
theorem draw_sound (hC : CSound P Λ C) {id : Nat} {ops : Array Oper} {is : List AIn} {ls : List (List (Nat × List Nat × Bool))} {pre : List (List Nat)} {alts : List (List DI)} {e : List AV} {h : AHeap} {Q : List AV → AHeap → Prop} {μ : Mu} {w : World} {a : Act} {b : Frame} {k : List Item}
    (hi : trIns P ops ops.toList = some is) (hds : mkAlts is ls = some alts) {qf : Bool} (hok : okDraw qf ops is pre alts = true) (hm : P.follows .mixedOrders = true) (hrun : ∀ ds, ds ∈ alts → runDrawW C ds e h Q) (hr : Rel Λ μ h w) (he : EnvR μ e a.tmps) (cs : List Frame) :
    ∃ e' h' a' w' μ', Q e' h' ∧ Steps P (lone (Fat b a (.code (.region id ops true) :: k)) cs w) (lone (Fat b a' k) cs w') ∧ a'.defers = a.defers ∧ EnvR μ' e' a'.tmps ∧ Rel Λ μ' h' w' ∧ Step μ h w μ' h' w' := by
  simp only [okDraw, Bool.and_eq_true, List.all_eq_true, List.mem_range, List.any_eq_true, beq_iff_eq] at hok
  obtain ⟨⟨hp, halts⟩, hexts⟩ := hok
  have hpre : ∀ (k : Nat) (o : Oper), ops[k]? = some o → (∀ d, d ∈ hard o → d < k) ∧ ∀ j, j ∈ (pre[k]?).getD [] → ∃ d, d ∈ hard o ∧ (d = j ∨ j ∈ (pre[d]?).getD []) := fun k o ho => by
    have := preOk_get hp k o (by rw [Array.getElem?_toList]; exact ho)
    rwa [Nat.zero_add] at this
  have hno : ∀ x, ¬ On (Array.replicate ops.size false) x := fun x hx => by
    unfold On at hx
    rw [Array.getElem?_replicate] at hx
    split at hx <;> cases hx
  have hlen : is.length = ops.size := by
    have key : ∀ {os : List Oper} {is : List AIn}, trIns P ops os = some is → is.length = os.length := by
      intro os
      induction os with
      | nil => intro is h; simp only [trIns] at h; cases h; rfl
      | cons o os ih =>
        intro is h
        simp only [trIns] at h
        split at h
        · rename_i i is' _ h2; cases h; simp [ih h2]
        · cases h
    simpa using key hi
  obtain ⟨σ, hσ⟩ : ∃ σ, σ = Region.linearise.go .any ops ops.size (w.tape w.drawn (.order b.fn id)) (Array.replicate ops.size false) [] := ⟨_, rfl⟩
  have hvs : VS ops σ (Array.replicate ops.size false) := by
    rw [hσ]
    exact linearise_valid (fun k o ho => (hpre k o ho).1) _ _ _ (by simp) (by simp)
  have hcl0 : ∀ (k : Nat) (o : Oper), ops[k]? = some o → On (Array.replicate ops.size false) k → ∀ d, d ∈ hard o → On (Array.replicate ops.size false) d := fun k o _ hon => absurd hon (hno k)
  obtain ⟨o1, o2, o3⟩ := VS.once (by simp) hvs
  obtain ⟨p1, p2⟩ := VS.pw hpre (by simp) hcl0 hvs
  have hperm : (σ.filter fun j => match is[j]? with | some i => cls i.op == 2 | none => false).Perm (effs is) := by
    refine (List.perm_ext_iff_of_nodup (o1.filter _) (List.nodup_range.filter _)).2 fun x => ?_
    simp only [List.mem_filter, List.mem_range]
    constructor
    · rintro ⟨h1, h2⟩
      exact ⟨by rw [hlen]; exact (o2 x h1).1, h2⟩
    · rintro ⟨h1, h2⟩
      exact ⟨(o3 x (by omega)).resolve_left (hno x), h2⟩
  have hmemx := exts_mem (pre := pre) (effs is).length _ _ hperm (Nat.le_of_eq hperm.length_eq) (p1.filter _) (fun x hx => p2 x (List.mem_filter.1 hx).1)
  obtain ⟨ds, hdsm, hord⟩ := hexts _ hmemx
  obtain ⟨l0, hl0⟩ := mkAlts_mem hds ds hdsm
  obtain ⟨⟨hgo, hgfl⟩, hall⟩ := halts ds hdsm
  have hmem := mkDraw_mem hl0
  have hI : ∀ x, x ∈ ds → ∃ o, ops[x.j]? = some o ∧ trIn P ops o = some x.i := fun x hx => by
    obtain ⟨o, h1, h2⟩ := trIns_get hi x.j x.i (hmem x hx).1
    exact ⟨o, by rwa [Array.getElem?_toList] at h1, h2⟩
  obtain ⟨qs, l2, e1, g1, g2, g3, g4, g5, g6, g7⟩ := quiet_run hgo (hrun ds hdsm)
  have hqe : (qs.filter fun d => d.eff && !d.i.flq qf) = [] := by
    rw [List.filter_eq_nil_iff]
    intro x hx
    have := (DI.bar_false.1 (g2 x hx)).1
    unfold DI.eff
    simp [this]
  have hmask : EnvR μ (maskE (livP qf qs l2 (Array.replicate ops.size false)) e1) a.tmps := by
    have h0 : EnvR μ (maskE (fun _ => true) e) a.tmps := by rw [maskE_all fun _ => rfl]; exact he
    exact h0.remask g7 fun s hs => ⟨rfl, g6 s fun x hx hxs => hno _ (live_spec.1 (livP_spec.1 hs).1 x hx hxs)⟩
  have hff : ∀ l : List Nat, (l.filter fun j => match is[j]? with | some i => cls i.op == 2 | none => false).filter (flE qf is) = l.filter (flE qf is) := fun l => by
    rw [List.filter_filter]
    congr 1
    funext j
    unfold flE
    cases is[j]? with
    | none => rfl
    | some i => dsimp only; cases (cls i.op == 2) <;> simp
  obtain ⟨e', h', a', w', μ', hq, s, hd, v, r, t⟩ := draw_run (b := b) (k := k) (cs := cs) (n := w.heap.size) hC hI hmem hgo hgfl (fun j hj => hall j hj) hpre σ (Array.replicate ops.size false) qs l2 e1 h μ { w with drawn := w.drawn + 1 } a (fun _ => 0) (by simp) hcl0 hvs
    (by rw [← hff, ← hord, g1, List.filter_append, hqe, List.nil_append]) g1 g4 g3 (fun x _ _ => hno _) (fun x hx _ => ⟨g2 x hx, g5 x hx⟩) (Nat.le_refl _) (fun x _ _ hon => absurd hon (hno _)) (fun x y _ _ _ _ hon => absurd hon (hno _)) (hr.drew _) hmask
  refine ⟨e', h', a', w', μ', hq, ?_, hd, v, r, (Step.drew μ h w _).trans (StepB.to (w := { w with drawn := w.drawn + 1 }) t)⟩
  have hsched : Region.schedule (P.follows .mixedOrders) ops (w.tape w.drawn (.order b.fn id)) = σ := by
    rw [hσ]; simp [Region.schedule, hm, Region.linearise]
  exact Steps.trans (Steps.one (st_region_draw (cs := cs))) (by rw [hsched]; exact s)
end
end Go.Proofs.YtlkfclgkinaibaaGreat

namespace Go.Proofs.YtlkfclgkinaibaaGreat
variable {Λ : Lam}
section
variable {P : Program} {w : World}
def pobj (w : World) (r : Nat) (o : Obj) : World := { w with heap := w.heap.setIfInBounds r o }
theorem pobj_same {r : Nat} {o : Obj} (h : r < w.heap.size) : (pobj w r o).heap[r]? = some o := by simp [pobj, h]
theorem pobj_other {r k : Nat} {o : Obj} (h : k ≠ r) : (pobj w r o).heap[k]? = w.heap[k]? := by
  simp [pobj, Array.getElem?_setIfInBounds_ne (Ne.symm h)]
theorem pobj_size {r : Nat} {o : Obj} : (pobj w r o).heap.size = w.heap.size := by simp [pobj]
theorem rn_getLoop {l : Nat} {r : Go.Loop} (h : w.heap[l]? = some (.loop r)) : (Instr.getLoop l).run P w = .ok r w := by
  simp [Instr.getLoop, Sem.run_bind, getObj, Sem.run, h]
theorem rn_setLoop {l : Nat} {r : Go.Loop} (o : Obj) (h : w.heap[l]? = some (.loop r)) : (setObj l o).run P w = .ok () (pobj w l o) := by simp [setObj, Sem.run, h, pobj]
theorem rn_begin {l : Nat} {r : Go.Loop} (h : w.heap[l]? = some (.loop r)) (hr : r.state = .ready) : (Instr.beginRound l).run P w = .ok () (pobj w l (.loop { r with state := .busy })) := by
  simp [Instr.beginRound, Sem.run_bind, rn_getLoop h, rn_setLoop _ h, hr]
theorem rn_endRound {l : Nat} {r : Go.Loop} (jump : Option Code) (h : w.heap[l]? = some (.loop r)) :
    (Instr.endRound l jump).run P w = .ok (.bool jump.isNone) (pobj w l (.loop { r with state := if jump.isNone then .ready else .done, pending := jump })) := by
  simp [Instr.endRound, Sem.run_bind, rn_getLoop h, rn_setLoop _ h]
theorem rn_endLoop {l : Nat} {r : Go.Loop} (h : w.heap[l]? = some (.loop r)) (hb : r.state ≠ .busy) : (Instr.endLoop l).run P w = .ok r.pending (pobj w l (.loop { r with state := .exhausted })) := by
  simp [Instr.endLoop, Sem.run_bind, rn_getLoop h, rn_setLoop _ h, hb]
theorem rn_take {b : Nat} {ds : List Deferred} (h : w.heap[b]? = some (.deferred (some ds))) : (Instr.takeDeferred b).run P w = .ok ds (pobj w b (.deferred none)) := by
  simp [Instr.takeDeferred, Sem.run_bind, getObj, setObj, Sem.run, h, pobj]
def mark (D : Nat) : Deferred := { target := .collected D, args := #[] }
def wpush (w : World) (o : Obj) : World := { w with heap := w.heap.push o }
theorem rn_enter_outer (fn : FuncId) (tmps : Array Value) (ps : Array Tmp) (x y : Code) :
    (Instr.enterLoop fn tmps ps x y none).run P w = .ok (w.heap.size + 1, [mark w.heap.size])
      (wpush (wpush w (.deferred (some []))) (.loop { state := .ready, pending := none, fn, tmps, params := ps, assign := x, body := y, defers := w.heap.size })) := by
  simp [Instr.enterLoop, Sem.run_bind, newObj, Sem.run, wpush, mark]
  rfl
theorem rn_enter_inner {l₀ : Nat} {r₀ : Go.Loop} (h : w.heap[l₀]? = some (.loop r₀)) (fn : FuncId) (tmps : Array Value) (ps : Array Tmp) (x y : Code) :
    (Instr.enterLoop fn tmps ps x y (some l₀)).run P w = .ok (w.heap.size, [])
      (wpush w (.loop { state := .ready, pending := none, fn, tmps, params := ps, assign := x, body := y, defers := r₀.defers })) := by
  simp [Instr.enterLoop, Sem.run_bind, rn_getLoop h, newObj, Sem.run, wpush]
variable {b : Frame} {a : Act} {k : List Item} {cs : List Frame}
theorem st_begin {l : Nat} {w' : World} (hb : b.roundOf = some l) (hr : (Instr.beginRound l).run P w = .ok () w') :
    step P (lone (Fat b a (.beginRound :: k)) cs w) = .next (lone (Fat b a k) cs w') :=
  step_lone_go (by simp [stepG, stepG.exec, stepG.apply, Fat, hb, Sem.runT_eq, hr, Result.andThen, Frame.finish])
theorem st_round_end {l : Nat} {v : Value} {w' : World} {c : Frame} (hb : b.roundOf = some l) (hk : b.kind = .normal) (hr : (Instr.endRound l none).run P w = .ok v w') :
    step P (lone (Fat b a []) (c :: cs) w) = .next (lone (c.finish v) cs w') :=
  step_lone_go (by simp [stepG, stepG.exec, Fat, hb, hk, Sem.runT_eq, hr, doReturn])
theorem st_round_ret {l : Nat} {v : Value} {w' : World} {c : Frame} (hb : b.roundOf = some l) (hk : b.kind = .normal) (hr : (Instr.endRound l (some .ret)).run P w = .ok v w') :
    step P (lone (Fat b a (.code .ret :: k)) (c :: cs) w) = .next (lone (c.finish v) cs w') :=
  step_lone_go (by simp [stepG, stepG.exec, Fat, hb, hk, Sem.runT_eq, hr, doReturn])
theorem st_round_exit {l id : Nat} {v : Value} {w' : World} {c : Frame} (hb : b.roundOf = some l) (hk : b.kind = .normal) (hx : exitTo id k = none) (hr : (Instr.endRound l (some (.exit id))).run P w = .ok v w') :
    step P (lone (Fat b a (.code (.exit id) :: k)) (c :: cs) w) = .next (lone (c.finish v) cs w') :=
  step_lone_go (by simp [stepG, stepG.exec, Fat, hb, hk, hx, Sem.runT_eq, hr, doReturn])
theorem st_endRange {l : Nat} {jump : Option Code} {w' : World} (h : (Instr.endLoop l).run P w = .ok jump w') :
    step P (lone (Fat b a (.endRangeFunc l :: k)) cs w) = .next (lone (Fat b a ((jump.map Item.code).toList ++ k)) cs w') :=
  step_lone_go (by simp [stepG, stepG.exec, Fat, Sem.runT_eq, h, GStep.bare_after])
theorem fin_inRange (l : Nat) (v : Value) : (Fat b a (.inRangeFunc l :: k)).finish v = Fat b a (.endRangeFunc l :: k) := by simp [Frame.finish, Fat]
theorem st_range {g : Operand} {ps : Array Tmp} {x y : Code} {l : Nat} {mk : List Deferred} {w₁ w₂ : World} {d : Deferred} {f : FuncId} {args : Array Value}
    (he : (Instr.enterLoop b.fn a.tmps ps x y b.roundOf).run P w = .ok (l, mk) w₁)
    (hres : (resolve a.eval { callee := .value g, args := #[.const (.func (.yield l) #[] #[])], argTypes := #[] } 0).run P w₁ = .ok d w₁) (hinv : (invoke d.target d.args).run P w₁ = .ok (.enter f args) w₂) :
    step P (lone (Fat b a (.code (.rangeFunc g ps x y) :: k)) cs w) =
      .next (lone (Frame.enter P f args .normal) (Fat b { a with defers := mk ++ a.defers } (.inRangeFunc l :: k) :: cs) w₂) :=
  step_lone_go (by
    have hev := Fat_eval b { a with defers := mk ++ a.defers } (.inRangeFunc l :: k)
    simp only [Fat] at hev
    have hres' : Sem.run P (resolve ({ tmps := a.tmps, defers := mk ++ a.defers } : Act).eval { callee := .value g, args := #[.const (.func (.yield l) #[] #[])], argTypes := #[] } 0) w₁ = .ok d w₁ := hres
    simp [stepG, stepG.exec, Fat, Sem.runT_eq, he, GStep.bare_after, stepG.apply, hev, Sem.run_bind, hres', hinv, Result.andThen])
theorem st_mark {fr : Frame} {D : Nat} {ds : List Deferred} (hm : fr.mode = .returning) (hd : fr.defers = mark D :: ds) (h : w.heap[D]? = some (.deferred (some []))) :
    step P (lone fr cs w) = .next (lone { fr with defers := ds } cs (pobj w D (.deferred none))) :=
  step_lone_go (by simp [stepG, unwind, hm, hd, mark, Sem.runT_eq, rn_take h, GStep.bare_after])
end
def Marks (B : Nat) (ds : List Deferred) (w : World) : Prop := ∃ Ds : List Nat, ds = Ds.map mark ∧ Ds.Nodup ∧ ∀ D, D ∈ Ds → B ≤ D ∧ w.heap[D]? = some (.deferred (some []))
theorem Marks.nil (B : Nat) (w : World) : Marks B [] w := ⟨[], rfl, List.nodup_nil, fun _ h => by cases h⟩
theorem Rel.noMark {μ : Mu} {h : AHeap} {w : World} (r : Rel Λ μ h w) {D : Nat} {x : Option (List Deferred)} (hD : w.heap[D]? = some (.deferred x)) : ∀ id o l, h.get id = some o → μ id = some l → l.block ≠ D := by
  intro id o l ho hl e
  obtain ⟨l', hl', hob⟩ := r.obj id o ho
  obtain rfl : l = l' := Option.some.inj (hl.symm.trans hl')
  rw [← e] at hD
  cases o with
  | row el es s ro d => obtain ⟨c, fr, p, _⟩ := hob; rw [hD] at p; cases p
  | map es c => obtain ⟨cs, p, _⟩ := hob; rw [hD] at p; cases p
  | iter m a b c => obtain ⟨_, r0, p, _⟩ := hob; rw [hD] at p; cases p
  | loop st j t ps a b => obtain ⟨r0, p, _⟩ := hob; rw [hD] at p; cases p
theorem Marks.step {B : Nat} {ds : List Deferred} {μ μ' : Mu} {h h' : AHeap} {w w' : World} (m : Marks B ds w) (r : Rel Λ μ h w) (s : Step μ h w μ' h' w') : Marks B ds w' := by
  obtain ⟨Ds, h1, h2, h3⟩ := m
  refine ⟨Ds, h1, h2, fun D hD => ?_⟩
  obtain ⟨hb, hd⟩ := h3 D hD
  rw [s.frame D (Array.getElem?_eq_some_iff.1 hd).1 fun id o l ho _ hl => r.noMark hd id o l ho hl]
  exact ⟨hb, hd⟩
theorem Rel.pobj {μ : Mu} {h : AHeap} {w : World} (r : Rel Λ μ h w) {D : Nat} (o : Obj) (hD : ∀ id x l, h.get id = some x → μ id = some l → l.block ≠ D) : Rel Λ μ h (YtlkfclgkinaibaaGreat.pobj w D o) :=
  ⟨fun id x e => by
    obtain ⟨l, hl, hob⟩ := r.obj id x e
    exact ⟨l, hl, ObjR.ext (Ext.refl μ) hob (pobj_other (hD id x l e hl))⟩, r.inj, fun id l e => by
    have := r.dom id l e
    exact ⟨this.1, by rw [pobj_size]; exact this.2⟩⟩
theorem Step.pobj {μ μ' : Mu} {h h' : AHeap} {w w' : World} (s : Step μ h w μ' h' w') {D : Nat} (o : Obj) (hD : w.heap.size ≤ D) : Step μ h w μ' h' (YtlkfclgkinaibaaGreat.pobj w' D o) :=
  ⟨s.ext, s.next, s.low, s.os, s.tape, s.output, by rw [pobj_size]; exact s.size, fun b hb hf => by rw [pobj_other (by omega)]; exact s.frame b hb hf, s.own, s.any⟩
theorem marks_gone {P : Program} {B : Nat} {cs : List Frame} {μ μ' : Mu} {h h' : AHeap} {w : World} (hB : w.heap.size ≤ B) : ∀ (Ds : List Nat) (fr : Frame) (w' : World), fr.mode = .returning → fr.defers = Ds.map mark → Ds.Nodup → (∀ D, D ∈ Ds → B ≤ D ∧ w'.heap[D]? = some (.deferred (some []))) →
    Rel Λ μ' h' w' → Step μ h w μ' h' w' → ∃ w'', Steps P (lone fr cs w') (lone { fr with defers := [] } cs w'') ∧ Rel Λ μ' h' w'' ∧ Step μ h w μ' h' w''
  | [], fr, w', hm, hd, _, _, hr, hs => ⟨w', by
      have : ({ fr with defers := [] } : Frame) = fr := by rw [List.map_nil] at hd; rw [← hd]
      rw [this]; exact Steps.refl _ _, hr, hs⟩
  | D :: Ds, fr, w', hm, hd, hn, hD, hr, hs => by
    obtain ⟨hn1, hn2⟩ := List.nodup_cons.1 hn
    obtain ⟨hb, hh⟩ := hD D (by simp)
    obtain ⟨w'', s, r, t⟩ := marks_gone (P := P) (cs := cs) hB Ds { fr with defers := Ds.map mark } (YtlkfclgkinaibaaGreat.pobj w' D (.deferred none)) hm rfl hn2
      (fun E hE => by
        obtain ⟨h1, h2⟩ := hD E (by simp [hE])
        exact ⟨h1, by rw [pobj_other (fun e => hn1 (by rw [← e]; exact hE))]; exact h2⟩)
      (hr.pobj _ (hr.noMark hh)) (hs.pobj _ (by omega))
    exact ⟨w'', (Steps.one (st_mark hm hd hh)).trans s, r, t⟩
theorem Rel.wpush {μ : Mu} {h : AHeap} {w : World} (r : Rel Λ μ h w) (o : Obj) : Rel Λ μ h (wpush w o) ∧ Step μ h w μ h (wpush w o) :=
  ⟨⟨fun id x e => by
    obtain ⟨l, hl, hob⟩ := r.obj id x e
    exact ⟨l, hl, ObjR.ext (Ext.refl μ) hob (heap_push_lt (r.dom _ _ hl).2)⟩, r.inj, fun id l e => by
    have := r.dom id l e
    exact ⟨this.1, by simp only [YtlkfclgkinaibaaGreat.wpush, Array.size_push]; omega⟩⟩,
   ⟨Ext.refl μ, Nat.le_refl _, fun _ _ => rfl, rfl, rfl, rfl, by simp [YtlkfclgkinaibaaGreat.wpush], fun b hb _ => heap_push_lt hb, fun id o l a b c => .inr ⟨id, o, l, a, b, c, rfl⟩, fun id o l a c => .inr ⟨id, o, l, a, c, rfl⟩⟩⟩
end Go.Proofs.YtlkfclgkinaibaaGreat

namespace Go.Proofs.YtlkfclgkinaibaaGreat
def LamP (P : Program) : Lam := fun c ac => trCode P c = some ac
section
variable {P : Program} {C : SemW}
def RoR (μ : Mu) (ro : Option Nat) (b : Frame) : Prop :=
  match ro with
  | none => b.roundOf = none
  | some id => ∃ l, μ id = some l ∧ b.roundOf = some l.block
theorem RoR.ext {μ μ' : Mu} {ro : Option Nat} {b : Frame} (h : RoR μ ro b) (e : Ext μ μ') : RoR μ' ro b := by
  cases ro with
  | none => exact h
  | some id => obtain ⟨l, h1, h2⟩ := h; exact ⟨l, e _ _ h1, h2⟩
theorem Ends.from {Λ : Lam} {m m' : Machine} {b : Frame} {k : List Item} {cs : List Frame} {D : List Deferred → World → Prop} {μ μ' : Mu} {h h' : AHeap} {w w' : World} {Q : AExit → List AV → AHeap → Prop}
    (s : Steps P m m') (t : Step μ h w μ' h' w') (e : Ends P Λ m' b k cs D μ' h' w' Q) : Ends P Λ m b k cs D μ h w Q := by
  obtain ⟨x, e1, h1, a1, w1, μ1, q, r, d, v, rel, st⟩ := e
  exact ⟨x, e1, h1, a1, w1, μ1, q, Arr.of_steps s r, d, v, rel, t.trans st⟩
theorem loop_block {Λ : Lam} {μ : Mu} {h : AHeap} {w : World} (r : Rel Λ μ h w) {l : Nat} {lc : Loc} {st : LoopState} {j : Option AExit} {t : List AV} {p : List Nat} {x y : ACode} (hg : h.get l = some (.loop st j t p x y)) (hl : μ l = some lc) :
    ∃ r0 : Go.Loop, w.heap[lc.block]? = some (.loop r0) ∧ r0.state = st ∧ r0.pending = j.map AExit.code ∧ EnvR μ t r0.tmps ∧ r0.params.toList = p ∧ Λ r0.assign x ∧ Λ r0.body y := by
  obtain ⟨l', hl', hob⟩ := r.obj _ _ hg
  obtain rfl : lc = l' := Option.some.inj (hl.symm.trans hl')
  exact hob
theorem rfun_core {Λ : Lam} (hC : CSound P Λ C) {g : Operand} {ps : Array Tmp} {x y : Code} {ax ay : ACode} {fv : Nat} {first captured : List AV} {e : List AV} {h : AHeap} {Q : AExit → List AV → AHeap → Prop} {μ : Mu} {w w1 : World} {a : Act} {b : Frame} {k : List Item} {cs : List Frame}
    {D : List Deferred → World → Prop} {mk : List Deferred} {dl : Nat} (hΛx : Λ x ax) (hΛy : Λ y ay) (hv : VR μ (.func fv first captured) (a.eval g))
    (hcall : C (.f fv) (first ++ [.yield h.next] ++ captured) (h.new (.loop .ready none e ps.toList ax ay)) fun _ h' => endW h.next e h' Q)
    (hr1 : Rel Λ μ h w1) (hs1 : Step μ h w μ h w1) (he : EnvR μ e a.tmps)
    (hent : (Instr.enterLoop b.fn a.tmps ps x y b.roundOf).run P w = .ok (w1.heap.size, mk) (wpush w1 (.loop { state := .ready, pending := none, fn := b.fn, tmps := a.tmps, params := ps, assign := x, body := y, defers := dl })))
    (hD : ∀ μ' h' w', Rel Λ μ' h' w' → Step (μ.with h.next ⟨w1.heap.size, 0, 0⟩) (h.new (.loop .ready none e ps.toList ax ay)) (wpush w1 (.loop { state := .ready, pending := none, fn := b.fn, tmps := a.tmps, params := ps, assign := x, body := y, defers := dl })) μ' h' w' → ∀ o, D (mk ++ a.defers) (pobj w' w1.heap.size o)) :
    Ends P Λ (lone (Fat b a (.code (.rangeFunc g ps x y) :: k)) cs w) b k cs D μ h w Q := by
  simp only [VR] at hv
  obtain ⟨xs, ys, vx, vy, hcf⟩ := hv
  obtain ⟨hrel, hnew⟩ := hr1.new (.loop .ready none e ps.toList ax ay) (.loop { state := .ready, pending := none, fn := b.fn, tmps := a.tmps, params := ps, assign := x, body := y, defers := dl }) ⟨w1.heap.size, 0, 0⟩ rfl
    (fun μ' hx => ⟨{ state := .ready, pending := none, fn := b.fn, tmps := a.tmps, params := ps, assign := x, body := y, defers := dl }, by simp, rfl, rfl, he.ext hx, rfl, hΛx, hΛy⟩)
  change Rel Λ _ _ (wpush w1 _) at hrel
  have hargs : VRL (μ.with h.next ⟨w1.heap.size, 0, 0⟩) (first ++ [.yield h.next] ++ captured) (xs ++ [.func (.yield w1.heap.size) #[] #[]] ++ ys) := by
    refine ((VRL.ext hnew.ext _ _ vx).append ?_).append (VRL.ext hnew.ext _ _ vy)
    simp only [VRL, VR]
    exact ⟨_, _, rfl, ⟨⟨w1.heap.size, 0, 0⟩, Mu.with_same _ _ _, rfl⟩, rfl⟩
  obtain ⟨r, h', fr, w', μ', cv, hq, hst, hfn, hlv, hvv, hrel', hstep⟩ := hC.fn fv _ _ _ _ _ _ hcall hrel hargs (Fat b { a with defers := mk ++ a.defers } (.inRangeFunc w1.heap.size :: k) :: cs)
  have henter := st_range (P := P) (b := b) (a := a) (k := k) (cs := cs) (w := w) (g := g) (d := { target := .fn (.func fv) ys.toArray, args := xs.toArray ++ #[.func (.yield w1.heap.size) #[] #[]] }) (f := fv) (args := (xs ++ [Value.func (.yield w1.heap.size) #[] #[]] ++ ys).toArray) hent
    (by
      have e0 : (#[Operand.const (.func (.yield w1.heap.size) #[] #[])] : Array Operand).map a.eval = #[.func (.yield w1.heap.size) #[] #[]] := by simp [Act.eval]
      simp only [resolve, hcf, Deferred.ofValue, e0, Sem.run_pure])
    (by
      have := hC.ent _ _ _ _ hcall (xs ++ [Value.func (.yield w1.heap.size) #[] #[]] ++ ys).toArray
      have e1 : xs.toArray ++ #[Value.func (.yield w1.heap.size) #[] #[]] ++ ys.toArray = (xs ++ [Value.func (.yield w1.heap.size) #[] #[]] ++ ys).toArray := by apply Array.ext'; simp
      simp only [invoke, e1]
      exact this _)
  have hback : Steps P (lone (Fat b a (.code (.rangeFunc g ps x y) :: k)) cs w) (lone (Fat b { a with defers := mk ++ a.defers } (.endRangeFunc w1.heap.size :: k)) cs w') := by
    refine (Steps.one henter).trans (hst.trans (Steps.one ?_))
    rw [← fin_inRange w1.heap.size cv]; exact step_leave_returned hlv
  unfold endW at hq
  split at hq
  · rename_i st j t p x' y' hg
    obtain ⟨hb, hq⟩ := hq
    have hloc : μ' h.next = some ⟨w1.heap.size, 0, 0⟩ := hstep.ext _ _ (Mu.with_same _ _ _)
    obtain ⟨r0, hr0, hst0, hpd, _⟩ := loop_block hrel' hg hloc
    have hend := rn_endLoop (P := P) hr0 (by rw [hst0]; exact hb)
    have hk := hrel'.kill hg
    have hun : ∀ id o l, (h'.kill h.next).get id = some o → μ' id = some l → l.block ≠ w1.heap.size := by
      intro id o l hid hl
      by_cases hne : id = h.next
      · subst hne; rw [AHeap.get_kill_same] at hid; cases hid
      · rw [AHeap.get_kill_ne _ (fun e => hne e.symm)] at hid
        exact fun eq => hrel'.inj h.next id _ o _ l hg hid (fun e => hne e.symm) rfl hloc hl eq.symm
    have hrelE := hk.1.pobj (.loop { r0 with state := .exhausted }) hun
    have hstepE : Step μ h w μ' (h'.kill h.next) (pobj w' w1.heap.size (.loop { r0 with state := .exhausted })) := (hs1.trans (hnew.trans (hstep.trans hk.2))).pobj _ hs1.size
    have hsteps := hback.trans (Steps.one (st_endRange (b := b) (a := { a with defers := mk ++ a.defers }) (k := k) (cs := cs) hend))
    have hj : (r0.pending.map Item.code).toList = ((j.map AExit.code).map Item.code).toList := by rw [hpd]
    rw [hj] at hsteps
    refine ⟨j.getD .normal, e, h'.kill h.next, { a with defers := mk ++ a.defers }, _, μ', hq, ?_, hD _ _ _ hrel' hstep _, he.ext (hnew.ext.trans hstep.ext), hrelE, hstepE⟩
    cases j with
    | none => exact hsteps
    | some j => cases j with
      | normal => exact hsteps.trans (Steps.one st_skip)
      | exit id => exact ⟨k, hsteps, rfl⟩
      | ret => exact ⟨k, hsteps⟩
  · exact hq.elim
theorem exec_sound {C : SemW} (hC : CSound P (LamP P) C) {B : Nat} {ro : Option Nat} {b : Frame} : ∀ (c : Code) (ac : ACode) (e : List AV) (h : AHeap) (Q : AExit → List AV → AHeap → Prop) (μ : Mu) (w : World) (a : Act) (k : List Item) (cs : List Frame), trCode P c = some ac → execW C ro ac e h Q → Rel (LamP P) μ h w → EnvR μ e a.tmps →
    RoR μ ro b → (ro = none → Marks B a.defers w) → B ≤ w.heap.size →
    Ends P (LamP P) (lone (Fat b a (.code c :: k)) cs w) b k cs (fun ds w => ro = none → Marks B ds w) μ h w Q
  | .skip, ac, e, h, Q, μ, w, a, k, cs, ht, hx, hr, he, hro, hm, hB => by
    simp only [trCode] at ht; cases ht
    simp only [execW] at hx
    exact ⟨.normal, e, h, a, w, μ, hx, Steps.one st_skip, hm, he, hr, Step.refl _ _ _⟩
  | .region id ops true, ac, e, h, Q, μ, w, a, k, cs, ht, hx, hr, he, hro, hm, hB => by
    simp only [trCode] at ht
    split at ht
    · rename_i is hi
      have key : ∀ qf, trDraw P qf ops is = some ac → Ends P (LamP P) (lone (Fat b a (.code (.region id ops true) :: k)) cs w) b k cs (fun ds w => ro = none → Marks B ds w) μ h w Q := fun qf hqf => by
        unfold trDraw at hqf
        split at hqf
        · rename_i ds hds
          split at hqf
          · rename_i hok
            simp only [Bool.and_eq_true] at hok
            cases hqf
            simp only [execW] at hx
            obtain ⟨e', h', a', w', μ', ⟨e0, h0, rn, q⟩, s, d, v, r, t⟩ := draw_sound (b := b) (k := k) hC hi hds hok.1 hok.2 hx hr he cs
            obtain ⟨μ0, v0, r0, t0⟩ := rn.sound hr v r t
            exact ⟨.normal, e0, h0, a', w', μ0, q, s, fun hn => by rw [d]; exact (hm hn).step hr t, v0, r0, t0⟩
          · cases hqf
        · cases hqf
      split at ht
      · rename_i c hc
        cases ht
        exact key true hc
      · exact key false ht
    · cases ht
  | .region id ops false, ac, e, h, Q, μ, w, a, k, cs, ht, hx, hr, he, hro, hm, hB => by
    simp only [trCode] at ht
    cases hi : trIns P ops ops.toList with
    | none => rw [hi] at ht; cases ht
    | some is =>
      rw [hi] at ht; cases ht
      simp only [execW] at hx
      obtain ⟨e', h', a', w', μ', q, s, d, v, r, t⟩ := ins_sound (b := b) (k := k) hC cs ops.toList is 0 e h _ μ w a (by simp) hi hx hr he
      refine ⟨.normal, e', h', a', w', μ', q, ?_, fun hn => by rw [d]; exact (hm hn).step hr t, v, r, t⟩
      rw [Nat.sub_zero, ← List.range_eq_range'] at s
      exact (Steps.one st_region).trans s
  | .seq c1 c2, ac, e, h, Q, μ, w, a, k, cs, ht, hx, hr, he, hro, hm, hB => by
    simp only [trCode] at ht
    split at ht
    · rename_i x1 x2 h1 h2
      cases ht
      simp only [execW] at hx
      obtain ⟨x, e1, g1, a1, w1, μ1, q, s1, d1, v1, r1, t1⟩ := exec_sound hC c1 _ e h _ μ w a (.code c2 :: k) cs h1 hx hr he hro hm hB
      cases x with
      | normal =>
        exact Ends.from ((Steps.one st_seq).trans s1) t1 (exec_sound hC c2 _ e1 g1 Q μ1 w1 a1 k cs h2 q r1 v1 (hro.ext t1.ext) d1 (Nat.le_trans hB t1.size))
      | exit id =>
        obtain ⟨k0, s, qk⟩ := s1
        exact ⟨.exit id, e1, g1, a1, w1, μ1, q, ⟨k0, (Steps.one st_seq).trans s, qk⟩, d1, v1, r1, t1⟩
      | ret =>
        obtain ⟨k0, s⟩ := s1
        exact ⟨.ret, e1, g1, a1, w1, μ1, q, ⟨k0, (Steps.one st_seq).trans s⟩, d1, v1, r1, t1⟩
    · cases ht
  | .cond c c1 c2, ac, e, h, Q, μ, w, a, k, cs, ht, hx, hr, he, hro, hm, hB => by
    simp only [trCode] at ht
    split at ht
    · rename_i o x1 x2 hc h1 h2
      cases ht
      simp only [execW] at hx
      split at hx
      · rename_i hb
        have hv := VR.bool (opd_ok he hc hb)
        exact Ends.from (Steps.one (st_cond (t := true) hv)) (Step.refl _ _ _) (exec_sound hC c1 _ e h Q μ w a k cs h1 hx hr he hro hm hB)
      · rename_i hb
        have hv := VR.bool (opd_ok he hc hb)
        exact Ends.from (Steps.one (st_cond (t := false) hv)) (Step.refl _ _ _) (exec_sound hC c2 _ e h Q μ w a k cs h2 hx hr he hro hm hB)
      · exact hx.elim
    · cases ht
  | .block id c, ac, e, h, Q, μ, w, a, k, cs, ht, hx, hr, he, hro, hm, hB => by
    simp only [trCode] at ht
    cases h1 : trCode P c with
    | none => rw [h1] at ht; cases ht
    | some x1 =>
      rw [h1] at ht; cases ht
      simp only [execW] at hx
      obtain ⟨x, e1, g1, a1, w1, μ1, q, s1, d1, v1, r1, t1⟩ := exec_sound hC c _ e h _ μ w a (.inBlock id :: k) cs h1 hx hr he hro hm hB
      cases x with
      | normal => exact ⟨.normal, e1, g1, a1, w1, μ1, q, (Steps.one st_block).trans (Steps.trans s1 (Steps.one st_inBlock)), d1, v1, r1, t1⟩
      | ret =>
        obtain ⟨k0, s⟩ := s1
        exact ⟨.ret, e1, g1, a1, w1, μ1, q, ⟨k0, (Steps.one st_block).trans s⟩, d1, v1, r1, t1⟩
      | exit i =>
        obtain ⟨k0, s0, q0⟩ := s1
        by_cases hid : i = id
        · simp only [hid, if_true] at q
          have hex : exitTo i k0 = some k := by rw [q0]; simp [exitTo, hid]
          exact ⟨.normal, e1, g1, a1, w1, μ1, q, (Steps.one st_block).trans (s0.trans (Steps.one (st_exit hex))), d1, v1, r1, t1⟩
        · simp only [hid, if_false] at q
          refine ⟨.exit i, e1, g1, a1, w1, μ1, q, ⟨k0, (Steps.one st_block).trans s0, ?_⟩, d1, v1, r1, t1⟩
          rw [q0]
          have : (id == i) = false := by simp; exact fun h => hid h.symm
          simp [exitTo, this]
  | .loop c, ac, e, h, Q, μ, w, a, k, cs, ht, hx, hr, he, hro, hm, hB => by
    simp only [trCode] at ht
    cases h1 : trCode P c with
    | none => rw [h1] at ht; cases ht
    | some x1 =>
      rw [h1] at ht; cases ht
      simp only [execW] at hx
      have key : ∀ (n : Nat) (e : List AV) (h : AHeap) (μ : Mu) (w : World) (a : Act), iterW (execW C ro x1) n e h Q → Rel (LamP P) μ h w → EnvR μ e a.tmps → RoR μ ro b → (ro = none → Marks B a.defers w) → B ≤ w.heap.size →
          Ends P (LamP P) (lone (Fat b a (.code c :: .inLoop c :: k)) cs w) b k cs (fun ds w => ro = none → Marks B ds w) μ h w Q := by
        intro n
        induction n with
        | zero => intro e h μ w a hx; exact hx.elim
        | succ n ih =>
          intro e h μ w a hx hr he hro hm hB
          simp only [iterW] at hx
          obtain ⟨x, e1, g1, a1, w1, μ1, q, s1, d1, v1, r1, t1⟩ := exec_sound hC c _ e h _ μ w a (.inLoop c :: k) cs h1 hx hr he hro hm hB
          cases x with
          | normal =>
            obtain ⟨h2, hl, q⟩ := q
            have hl := hl fun id o e => hr.lt e
            exact Ends.from (Steps.trans s1 (Steps.one st_inLoop)) (hl.step t1) (ih e1 h2 μ1 w1 a1 q (hl.rel r1) v1 (hro.ext t1.ext) d1 (Nat.le_trans hB t1.size))
          | exit id =>
            obtain ⟨k0, s, qk⟩ := s1
            exact ⟨.exit id, e1, g1, a1, w1, μ1, q, ⟨k0, s, qk⟩, d1, v1, r1, t1⟩
          | ret =>
            obtain ⟨k0, s⟩ := s1
            exact ⟨.ret, e1, g1, a1, w1, μ1, q, ⟨k0, s⟩, d1, v1, r1, t1⟩
      exact Ends.from (Steps.one st_loop) (Step.refl _ _ _) (key _ e h μ w a hx hr he hro hm hB)
  | .exit id, ac, e, h, Q, μ, w, a, k, cs, ht, hx, hr, he, hro, hm, hB => by
    simp only [trCode] at ht; cases ht
    simp only [execW] at hx
    exact ⟨.exit id, e, h, a, w, μ, hx, ⟨k, Steps.refl _ _, rfl⟩, hm, he, hr, Step.refl _ _ _⟩
  | .ret, ac, e, h, Q, μ, w, a, k, cs, ht, hx, hr, he, hro, hm, hB => by
    simp only [trCode] at ht; cases ht
    simp only [execW] at hx
    exact ⟨.ret, e, h, a, w, μ, hx, ⟨k, Steps.refl _ _⟩, hm, he, hr, Step.refl _ _ _⟩
  | .rangeFunc g ps x y, ac, e, h, Q, μ, w, a, k, cs, ht, hx, hr, he, hro, hm, hB => by
    simp only [trCode] at ht
    split at ht
    · rename_i o ax ay hg h1 h2
      cases ht
      simp only [execW] at hx
      split at hx
      · rename_i fv first captured hf
        obtain ⟨hlp, hcall⟩ := hx
        have hv := opd_ok he hg hf
        cases ro with
        | none =>
          have hrn : b.roundOf = none := hro
          obtain ⟨hr1, hs1⟩ := hr.wpush (.deferred (some []))
          have hsz : (wpush w (.deferred (some []))).heap.size = w.heap.size + 1 := by simp [wpush]
          refine rfun_core (w1 := wpush w (.deferred (some []))) (dl := w.heap.size) (mk := [mark w.heap.size]) hC h1 h2 hv hcall hr1 hs1 he (by rw [hrn, hsz]; exact rn_enter_outer _ _ _ _ _) ?_
          intro μ' h' w' hr' hs' o _
          obtain ⟨Ds, d1, d2, d3⟩ := hm rfl
          have hlt : ∀ D, D ∈ Ds → D < w.heap.size := fun D hD => (Array.getElem?_eq_some_iff.1 (d3 D hD).2).1
          have hrel1 := (hr1.new (.loop .ready none e ps.toList ax ay) (.loop { state := .ready, pending := none, fn := b.fn, tmps := a.tmps, params := ps, assign := x, body := y, defers := w.heap.size }) ⟨(wpush w (.deferred (some []))).heap.size, 0, 0⟩ rfl
            (fun μ' hx => ⟨{ state := .ready, pending := none, fn := b.fn, tmps := a.tmps, params := ps, assign := x, body := y, defers := w.heap.size }, by simp, rfl, rfl, he.ext hx, rfl, h1, h2⟩)).1
          have hM : Marks B ([mark w.heap.size] ++ a.defers) (wpush (wpush w (.deferred (some []))) (.loop { state := .ready, pending := none, fn := b.fn, tmps := a.tmps, params := ps, assign := x, body := y, defers := w.heap.size })) := by
            refine ⟨w.heap.size :: Ds, by rw [d1]; rfl, List.nodup_cons.2 ⟨fun hD => ?_, d2⟩, fun D hD => ?_⟩
            · have := hlt _ hD; omega
            · rcases List.mem_cons.1 hD with rfl | hD
              · refine ⟨hB, ?_⟩
                simp only [wpush]
                rw [Array.getElem?_push, Array.size_push, if_neg (by omega), Array.getElem?_push, if_pos rfl]
              · have := hlt D hD
                refine ⟨(d3 D hD).1, ?_⟩
                simp only [wpush]
                rw [Array.getElem?_push, Array.size_push, if_neg (by omega), Array.getElem?_push, if_neg (by omega)]
                exact (d3 D hD).2
          obtain ⟨Es, g1, g2, g3⟩ := hM.step hrel1 hs'
          refine ⟨Es, g1, g2, fun D hD => ?_⟩
          have hDs : D ∈ w.heap.size :: Ds := by
            have : (Es.map mark) = (w.heap.size :: Ds).map mark := by rw [← g1, d1]; rfl
            have hm2 : mark D ∈ (w.heap.size :: Ds).map mark := by rw [← this]; exact List.mem_map_of_mem hD
            obtain ⟨E, hE, hEe⟩ := List.mem_map.1 hm2
            have : E = D := by simpa [mark] using hEe
            rw [← this]; exact hE
          have hDne : D ≠ (wpush w (.deferred (some []))).heap.size := by
            rw [hsz]
            rcases List.mem_cons.1 hDs with rfl | h3
            · omega
            · have := hlt D h3; omega
          refine ⟨(g3 D hD).1, ?_⟩
          rw [pobj_other hDne]
          exact (g3 D hD).2
        | some l0 =>
          obtain ⟨st, j, t, p, x0, y0, hl0⟩ := hlp l0 rfl
          obtain ⟨lc, hlc, hrn⟩ := hro
          obtain ⟨r0, hr0, _⟩ := loop_block hr hl0 hlc
          refine rfun_core (w1 := w) (dl := r0.defers) (mk := []) hC h1 h2 hv hcall hr (Step.refl _ _ _) he (by rw [hrn]; exact rn_enter_inner hr0 _ _ _ _ _) ?_
          intro μ' h' w' _ _ o hn
          cases hn
      · exact hx.elim
    · cases ht
  | .scope c, ac, e, h, Q, μ, w, a, k, cs, ht, hx, hr, he, hro, hm, hB => by
    simp only [trCode] at ht
    obtain ⟨x, e1, g1, a1, w1, μ1, q, s1, d1, v1, r1, t1⟩ := exec_sound hC c _ e h _ μ w a (.inScope c :: k) cs ht hx hr he hro hm hB
    cases x with
    | normal => exact ⟨.normal, e1, g1, a1, w1, μ1, q, (Steps.one st_scope).trans (Steps.trans s1 (Steps.one st_inScope)), d1, v1, r1, t1⟩
    | ret =>
      obtain ⟨k0, s⟩ := s1
      exact ⟨.ret, e1, g1, a1, w1, μ1, q, ⟨k0, (Steps.one st_scope).trans s⟩, d1, v1, r1, t1⟩
    | exit i =>
      obtain ⟨k0, s0, q0⟩ := s1
      refine ⟨.exit i, e1, g1, a1, w1, μ1, q, ⟨k0, (Steps.one st_scope).trans s0, ?_⟩, d1, v1, r1, t1⟩
      rw [q0]
      simp [exitTo]
  | .label l, ac, e, h, Q, μ, w, a, k, cs, ht, hx, hr, he, hro, hm, hB => by
    simp only [trCode] at ht; cases ht
    simp only [execW] at hx
    exact ⟨.normal, e, h, a, w, μ, hx, Steps.one st_label, hm, he, hr, Step.refl _ _ _⟩
  | .goto .., ac, e, h, Q, μ, w, a, k, cs, ht, hx, hr, he, hro, hm, hB => by simp [trCode] at ht
  | .refuse .., ac, e, h, Q, μ, w, a, k, cs, ht, hx, hr, he, hro, hm, hB => by simp [trCode] at ht
end
end Go.Proofs.YtlkfclgkinaibaaGreat

namespace Go.Proofs.YtlkfclgkinaibaaGreat
variable {Λ : Lam}
section
variable {P : Program} {C : SemW}
def trRes (P : Program) : ResultVar → Option ARes
  | .tmp t => some (.tmp t)
  | .cell a t => match isAggT P t, sizeT P t with
    | some true, some n => some (.cell a (.loadn n))
    | some false, some _ => some (.cell a .load1)
    | _, _ => none
def trRess (P : Program) : List ResultVar → Option (List ARes)
  | [] => some []
  | x :: xs => match trRes P x, trRess P xs with
    | some a, some as => some (a :: as)
    | _, _ => none
def trFn (P : Program) (fn : Func) : Option AFn :=
  match fn.body with
  | some c => match trCode P c, trRess P fn.results.toList with
    | some ac, some rs => some ⟨fn.ntmps, rs, ac⟩
    | _, _ => none
  | none => none
theorem res_sound {μ : Mu} {h : AHeap} {w : World} {e : List AV} {tmps : Array Value} (hr : Rel Λ μ h w) (he : EnvR μ e tmps) : ∀ {rs : List ResultVar} {as : List ARes} {vs : List AV}, trRess P rs = some as → resA e h as = some vs →
    ∃ cs : List Value, (rs.mapM fun | .tmp t => pure (tmps.getD t undef) | .cell a t => do loadVar t (← asAddr (tmps.getD a undef)) : Sem (List Value)).run P w = .ok cs w ∧ VRL μ vs cs
  | [], as, vs, ht, hv => by
    simp only [trRess] at ht; cases ht
    simp only [resA] at hv; cases hv
    exact ⟨[], by simp, by simp [VRL]⟩
  | x :: rs, as, vs, ht, hv => by
    simp only [trRess] at ht
    split at ht
    · rename_i a as' h1 h2
      cases ht
      have getD_of : ∀ {t : Nat} {v : AV}, (Opd.tmp t).eval e = some v → VR μ v (tmps.getD t undef) := by
        intro t v hv
        obtain ⟨c, p, q⟩ := he.2 t v hv
        have : tmps.getD t undef = c := by simp [Array.getD_eq_getD_getElem?, p]
        rw [this]; exact q
      cases x with
      | tmp t =>
        simp only [trRes] at h1; cases h1
        simp only [resA] at hv
        split at hv
        · rename_i v vs' h3 h4
          cases hv
          obtain ⟨cs, p, q⟩ := res_sound hr he h2 h4
          refine ⟨tmps.getD t undef :: cs, ?_, by simp only [VRL]; exact ⟨_, _, rfl, getD_of h3, q⟩⟩
          rw [List.mapM_cons]
          simp only [Sem.run_bind, Sem.run_pure, Result.andThen_ok, p]
        · cases hv
      | cell t ty =>
        simp only [trRes] at h1
        have fin : ∀ {op : AOp} {v v0 : AV} {h0 : AHeap} {vs' : List AV}, (Opd.tmp t).eval e = some v → aop op [v] h = some (v0, h0) → resA e h as' = some vs' → (∃ n, isAggT P ty = some true ∧ sizeT P ty = some n ∧ op = .loadn n) ∨ (isAggT P ty = some false ∧ op = .load1) →
            ∃ cs : List Value, ((ResultVar.cell t ty :: rs).mapM fun | .tmp t => pure (tmps.getD t undef) | .cell a t => do loadVar t (← asAddr (tmps.getD a undef)) : Sem (List Value)).run P w = .ok cs w ∧ VRL μ (v0 :: vs') cs := by
          intro op v v0 h0 vs' hv1 hv2 hv3 hop
          obtain ⟨cs, p, q⟩ := res_sound hr he h2 hv3
          have hload : ∃ c, (do loadVar ty (← asAddr (tmps.getD t undef)) : Sem Value).run P w = .ok c w ∧ VR μ v0 c := by
            have hvr := getD_of hv1
            rcases hop with ⟨n, ha, hn, rfl⟩ | ⟨ha, rfl⟩
            · simp only [aop] at hv2
              split at hv2
              · rename_i id off heq
                simp only [List.cons.injEq, and_true] at heq
                subst heq
                split at hv2
                · rename_i e0 es soft ro d hg
                  cases hd : d.sub off n with
                  | none => rw [hd] at hv2; cases hv2
                  | some y =>
                    rw [hd] at hv2; cases hv2
                    simp only [VR] at hvr; obtain ⟨l, hl, hx⟩ := hvr
                    obtain ⟨l', hl', hrow⟩ := hr.row hg
                    rw [hl] at hl'; cases hl'
                    obtain ⟨s, hs, rfl⟩ := Dat.sub_take hd
                    obtain ⟨cs, p, q⟩ := hrow.take hs P
                    exact ⟨.agg cs.toArray, by rw [hx]; simp [asAddr, loadVar, run_isAgg ha, run_size hn, p w rfl], q.agg⟩
                · cases hv2
              · cases hv2
            · simp only [aop] at hv2
              split at hv2
              · rename_i id off heq
                simp only [List.cons.injEq, and_true] at heq
                subst heq
                split at hv2
                · rename_i e0 es soft ro d hg
                  cases hd : d.get off with
                  | none => rw [hd] at hv2; cases hv2
                  | some y =>
                    rw [hd] at hv2; cases hv2
                    simp only [VR] at hvr; obtain ⟨l, hl, hx⟩ := hvr
                    obtain ⟨l', hl', hrow⟩ := hr.row hg
                    rw [hl] at hl'; cases hl'
                    obtain ⟨cv, p, q, _⟩ := hrow.get hd
                    exact ⟨cv, by rw [hx]; simp [asAddr, loadVar, run_isAgg ha, p], q⟩
                · cases hv2
              · cases hv2
          obtain ⟨c, hc1, hc2⟩ := hload
          refine ⟨c :: cs, ?_, by simp only [VRL]; exact ⟨_, _, rfl, hc2, q⟩⟩
          rw [List.mapM_cons, Sem.run_bind, hc1]
          simp only [Sem.run_bind, Sem.run_pure, Result.andThen_ok, p]
        split at h1
        · rename_i n ha hn
          cases h1
          simp only [resA] at hv
          split at hv
          · rename_i v h3
            split at hv
            · rename_i v0 h0 vs' h4 h5
              cases hv
              exact fin h3 h4 h5 (.inl ⟨n, ha, hn, rfl⟩)
            · cases hv
          · cases hv
        · rename_i ha hn
          cases h1
          simp only [resA] at hv
          split at hv
          · rename_i v h3
            split at hv
            · rename_i v0 h0 vs' h4 h5
              cases hv
              exact fin h3 h4 h5 (.inr ⟨ha, rfl⟩)
            · cases hv
          · cases hv
        · cases h1
    · cases ht
theorem fn_sound {f : FuncId} {fn : Func} {af : AFn} (hf : P.funcs[f]? = some fn) (ht : trFn P fn = some af) (hC : CSound P (LamP P) C) : FSound P (LamP P) f (callW C af) := by
  intro args h Q μ w cargs hcall hr hargs cs
  unfold trFn at ht
  split at ht
  · rename_i c hb
    split at ht
    · rename_i ac rs h1 h2
      cases ht
      let b : Frame := { fn := f, tmps := #[], todo := [], defers := [], mode := .run, kind := .normal }
      have hlen := VRL.length hargs
      have henter : Frame.enter P f cargs.toArray .normal = Fat b { tmps := cargs.toArray ++ Array.replicate (fn.ntmps - cargs.toArray.size) undef, defers := [] } [.code c] := by
        simp [Frame.enter, Fat, hf, hb, b]
      have henv : EnvR μ (args ++ List.replicate (fn.ntmps - args.length) .junk) (cargs.toArray ++ Array.replicate (fn.ntmps - cargs.toArray.size) undef) := by
        refine ⟨by simp [hlen], fun i v hv => ?_⟩
        by_cases hi : i < args.length
        · rw [List.getElem?_append_left hi] at hv
          cases hg : args[i]? with
          | none => rw [hg] at hv; cases hv
          | some y =>
            rw [hg] at hv
            have := notJunk_some hv
            subst this
            obtain ⟨c', p, q⟩ := VRL.get hargs i _ hg
            exact ⟨c', by rw [Array.getElem?_append_left (by simp [hlen]; exact hi)]; simpa using p, q⟩
        · rw [List.getElem?_append_right (by omega), List.getElem?_replicate] at hv
          split at hv
          · simp [AV.notJunk] at hv
          · cases hv
      obtain ⟨x, e', h', a', w', μ', hq, hs, hm, hv, hrel, hst⟩ := exec_sound hC (B := w.heap.size) (ro := none) (b := b) c _ _ h _ μ w { tmps := cargs.toArray ++ Array.replicate (fn.ntmps - cargs.toArray.size) undef, defers := [] } [] cs h1 hcall hr henv rfl (fun _ => Marks.nil _ _) (Nat.le_refl _)
      have fin : ∀ (todo : List Item) (vs : List AV), Steps P (lone (Frame.enter P f cargs.toArray .normal) cs w) (lone { Fat b a' todo with mode := .returning } cs w') → resA e' h' rs = some vs → Q (retA vs) h' →
          ∃ r h' fr w' μ' cv, Q r h' ∧ Steps P (lone (Frame.enter P f cargs.toArray .normal) cs w) (lone fr cs w') ∧ fr.fn = f ∧ fr.leaving P w' (.returned cv) ∧ VR μ' r cv ∧ Rel (LamP P) μ' h' w' ∧ Step μ h w μ' h' w' := by
        intro todo vs hsteps hre hQ
        obtain ⟨Ds, d1, d2, d3⟩ := hm rfl
        obtain ⟨w'', s2, r2, t2⟩ := marks_gone (P := P) (cs := cs) (Nat.le_refl _) Ds { Fat b a' todo with mode := .returning } w' rfl d1 d2 d3 hrel hst
        obtain ⟨cvs, p, q⟩ := res_sound (P := P) r2 hv h2 hre
        have hresult : (results fn a'.tmps).run P w'' = .ok (if hsz : cvs.toArray.size = 1 then cvs.toArray[0] else .tuple cvs.toArray) w'' := by
          unfold results
          rw [Sem.run_bind, Array.mapM_eq_mapM_toList, Sem.run_map]
          have p'' : Sem.run P (List.mapM (fun x => match x with | .tmp t => (pure (a'.tmps.getD t undef) : Sem Value) | .cell a t => do let __do_lift ← asAddr (a'.tmps.getD a undef); loadVar t __do_lift) fn.results.toList) w'' = .ok cvs w'' := p
          erw [p'']
          simp
        have hvr : VR μ' (retA vs) (if hsz : cvs.toArray.size = 1 then cvs.toArray[0] else .tuple cvs.toArray) := by
          have hl := VRL.length q
          cases vs with
          | nil =>
            have : cvs = [] := List.length_eq_zero_iff.1 hl
            subst this
            simp [retA, VR, VRL]
          | cons y ys => cases ys with
            | nil =>
              obtain ⟨c', rfl, hq⟩ := VRL.one q
              simpa [retA] using hq
            | cons z zs =>
              have hne : ¬ cvs.toArray.size = 1 := by simp only [List.size_toArray]; rw [hl]; simp
              rw [dif_neg hne]
              simp only [retA, VR]
              exact ⟨cvs, q, rfl⟩
        exact ⟨_, h', { Fat b a' todo with mode := .returning, defers := [] }, w'', μ', _, hQ, hsteps.trans s2, rfl, ⟨rfl, rfl, rfl, fn, hf, hresult⟩, hvr, r2, t2⟩
      rw [← henter] at hs
      cases x with
      | exit id => exact hq.elim
      | normal =>
        simp only at hq
        cases hre : resA e' h' rs with
        | none => rw [hre] at hq; exact hq.elim
        | some vs => rw [hre] at hq; exact fin [] vs (Steps.trans hs (Steps.one (step_lone_go (by simp [stepG, stepG.exec, Fat, b])))) hre hq
      | ret =>
        simp only at hq
        obtain ⟨k0, s⟩ := hs
        cases hre : resA e' h' rs with
        | none => rw [hre] at hq; exact hq.elim
        | some vs => rw [hre] at hq; exact fin (.code .ret :: k0) vs (Steps.trans s (Steps.one (step_lone_go (by simp [stepG, stepG.exec, Fat, b])))) hre hq
    · cases ht
  · cases ht
theorem setAll_env {μ : Mu} : ∀ {ps : List Nat} {e vs : List AV} {t : Array Value} {cs : List Value}, EnvR μ e t → VRL μ vs cs → vs.length = ps.length → EnvR μ (setAll e ps vs) ((ps.zip cs).foldl (fun tmps (t, a) => tmps.setIfInBounds t a) t)
  | [], e, vs, t, cs, he, _, _ => by cases vs <;> exact he
  | p :: ps, e, [], t, cs, he, _, hl => by simp at hl
  | p :: ps, e, v :: vs, t, cs, he, hv, hl => by
    simp only [VRL] at hv
    obtain ⟨c, cs', rfl, h1, h2⟩ := hv
    simp only [List.zip_cons_cons, List.foldl_cons, setAll]
    exact setAll_env (he.set h1 p) h2 (by simpa using hl)
theorem loop_put {μ : Mu} {h : AHeap} {w : World} (r : Rel Λ μ h w) {l : Nat} {lc : Loc} {st st' : LoopState} {j j' : Option AExit} {t : List AV} {p : List Nat} {x y : ACode} {r0 : Go.Loop} {c : Option Code} (hg : h.get l = some (.loop st j t p x y)) (hl : μ l = some lc)
    (hr0 : w.heap[lc.block]? = some (.loop r0)) (hc : c = j'.map AExit.code) :
    Rel Λ μ (h.put l (.loop st' j' t p x y)) (pobj w lc.block (.loop { r0 with state := st', pending := c })) ∧ Step μ h w μ (h.put l (.loop st' j' t p x y)) (pobj w lc.block (.loop { r0 with state := st', pending := c })) := by
  obtain ⟨r1, h1, _, _, h4, h5, h6, h7⟩ := loop_block r hg hl
  rw [hr0] at h1; cases h1
  have hlt : lc.block < w.heap.size := (r.dom _ _ hl).2
  exact Rel.put r hg rfl hl rfl rfl rfl pobj_size (fun b hb => pobj_other hb) ⟨{ r0 with state := st', pending := c }, pobj_same hlt, rfl, hc, h4, h5, h6, h7⟩
theorem round_sound (hC : CSound P (LamP P) C) (l : Nat) : YSound P (LamP P) l (roundW C l) := by
  intro args h Q μ w cargs hF hr hargs
  unfold roundW at hF
  split at hF
  · rename_i st j tmps ps asg body hg
    obtain ⟨hlen, hx⟩ := hF
    obtain ⟨lc, hlc, _⟩ := hr.obj _ _ hg
    obtain ⟨r, hr0, _, _, hev, hps, hΛa, hΛb⟩ := loop_block hr hg hlc
    have hsz : cargs.length = r.params.size := by
      have := VRL.length hargs
      rw [this, hlen, ← hps]; simp
    refine ⟨lc, r, hlc, hr0, hsz, fun c cs => ?_⟩
    let b : Frame := { fn := r.fn, tmps := #[], todo := [], defers := [], mode := .run, kind := .normal, roundOf := some lc.block }
    have hzip : (r.params.zip cargs.toArray).foldl (fun tmps (t, a) => tmps.setIfInBounds t a) r.tmps = (ps.zip cargs).foldl (fun tmps (t, a) => tmps.setIfInBounds t a) r.tmps := by
      rw [← Array.foldl_toList, Array.toList_zip, hps]
    have henv : EnvR μ (setAll tmps ps args) ((r.params.zip cargs.toArray).foldl (fun tmps (t, a) => tmps.setIfInBounds t a) r.tmps) := by
      rw [hzip]; exact setAll_env hev hargs hlen
    have hent : Frame.round lc.block r.fn ((r.params.zip cargs.toArray).foldl (fun tmps (t, a) => tmps.setIfInBounds t a) r.tmps) r.assign r.body .normal = Fat b { tmps := (r.params.zip cargs.toArray).foldl (fun tmps (t, a) => tmps.setIfInBounds t a) r.tmps, defers := [] } [.code r.assign, .beginRound, .code r.body] := by
      simp [Frame.round, Fat, b]
    rw [hent]
    have hro : RoR μ (some l) b := ⟨lc, hlc, rfl⟩
    obtain ⟨x, e1, h1, a1, w1, μ1, ⟨hxn, hq⟩, s1, _, v1, r1, t1⟩ := exec_sound hC (B := 0) (ro := some l) (b := b) r.assign _ _ h _ μ w { tmps := (r.params.zip cargs.toArray).foldl (fun tmps (t, a) => tmps.setIfInBounds t a) r.tmps, defers := [] } [.beginRound, .code r.body] (c :: cs) hΛa hx hr henv hro (fun h => by cases h) (Nat.zero_le _)
    subst hxn
    split at hq
    · rename_i j1 t1' p1 x1 y1 hg1
      have hlc1 : μ1 l = some lc := t1.ext _ _ hlc
      obtain ⟨r1', hr1', hst1, hpd1, _⟩ := loop_block r1 hg1 hlc1
      obtain ⟨r2, t2⟩ := loop_put (st' := .busy) (j' := j1) (c := r1'.pending) r1 hg1 hlc1 hr1' hpd1
      have sb := st_begin (P := P) (b := b) (a := a1) (k := [.code r.body]) (cs := c :: cs) rfl (rn_begin hr1' hst1)
      have hrec : ({ r1' with state := LoopState.busy, pending := r1'.pending } : Go.Loop) = { r1' with state := .busy } := rfl
      rw [hrec] at r2 t2
      obtain ⟨x2, e2, h2, a2, w2, μ2, hq2, s2, _, v2, r3, t3⟩ := exec_sound hC (B := 0) (ro := some l) (b := b) r.body _ _ _ _ μ1 _ a1 [] (c :: cs) hΛb hq r2 v1 (hro.ext t1.ext) (fun h => by cases h) (Nat.zero_le _)
      unfold roundEnd at hq2
      split at hq2
      · rename_i st3 j3 t3' p3 x3 y3 hg3
        have hlc3 : μ2 l = some lc := t3.ext _ _ hlc1
        obtain ⟨r3', hr3', _⟩ := loop_block r3 hg3 hlc3
        have hpre : Steps P (lone (Fat b { tmps := (r.params.zip cargs.toArray).foldl (fun tmps (t, a) => tmps.setIfInBounds t a) r.tmps, defers := [] } [.code r.assign, .beginRound, .code r.body]) (c :: cs) w) (lone (Fat b a1 [.code r.body]) (c :: cs) _) := Steps.trans s1 (Steps.one sb)
        have htot := t1.trans (t2.trans t3)
        cases x2 with
        | normal =>
          obtain ⟨r4, t4⟩ := loop_put (st' := .ready) (j' := none) (c := none) r3 hg3 hlc3 hr3' rfl
          exact ⟨.bool true, _, _, μ2, .bool true, hq2, hpre.trans (Steps.trans s2 (Steps.one (st_round_end rfl rfl (rn_endRound none hr3')))), by simp [VR], r4, htot.trans t4⟩
        | ret =>
          obtain ⟨r4, t4⟩ := loop_put (st' := .done) (j' := some .ret) (c := some .ret) r3 hg3 hlc3 hr3' rfl
          obtain ⟨k0, s2⟩ := s2
          exact ⟨.bool false, _, _, μ2, .bool false, hq2, hpre.trans (Steps.trans s2 (Steps.one (st_round_ret rfl rfl (rn_endRound (some .ret) hr3')))), by simp [VR], r4, htot.trans t4⟩
        | exit id =>
          obtain ⟨r4, t4⟩ := loop_put (st' := .done) (j' := some (.exit id)) (c := some (.exit id)) r3 hg3 hlc3 hr3' rfl
          obtain ⟨k0, s2, hk0⟩ := s2
          exact ⟨.bool false, _, _, μ2, .bool false, hq2, hpre.trans (Steps.trans s2 (Steps.one (st_round_exit rfl rfl (by rw [hk0]; rfl) (rn_endRound (some (.exit id)) hr3')))), by simp [VR], r4, htot.trans t4⟩
      · exact hq2.elim
    · exact hq.elim
  · exact hF.elim
end
end Go.Proofs.YtlkfclgkinaibaaGreat

namespace Go.Proofs.YtlkfclgkinaibaaGreat
abbrev FSpec := List AV → AHeap → (AV → AHeap → Prop) → Prop
inductive BT where
  | leaf
  | node (l : BT) (k : Nat) (v : AFn) (r : BT)
def BT.get : BT → Nat → Option AFn
  | .leaf, _ => none
  | .node l k v r, n => if n = k then some v else if n < k then l.get n else r.get n
def AllB (Q : Nat → AFn → Prop) : BT → Prop
  | .leaf => True
  | .node l k v r => AllB Q l ∧ Q k v ∧ AllB Q r
theorem BT.get_of {Q : Nat → AFn → Prop} {n : Nat} {v : AFn} : ∀ {t : BT}, AllB Q t → t.get n = some v → Q n v
  | .leaf, _, h => by simp [BT.get] at h
  | .node l k x r, ⟨h1, h2, h3⟩, h => by
    simp only [BT.get] at h
    split at h
    · rename_i e; subst e; cases h; exact h2
    · split at h
      · exact BT.get_of h1 h
      · exact BT.get_of h3 h
def Is (P : Program) (f : Nat) (af : AFn) : Prop := ∃ fn, P.funcs[f]? = some fn ∧ trFn P fn = some af ∧ Enters P f
def MonoW (C : SemW) : Prop := ∀ g args h (Q Q' : AV → AHeap → Prop), (∀ v h, Q v h → Q' v h) → C g args h Q → C g args h Q'
section mono
variable {C C' : SemW} (hC : ∀ g args h Q, C g args h Q → C' g args h Q) (hM : MonoW C')
include hC hM
theorem doOpW_mono {o : AOp} {args : List AV} {h : AHeap} {Q Q' : AV → AHeap → Prop} (hQ : ∀ v h, Q v h → Q' v h) (x : doOpW C o args h Q) : doOpW C' o args h Q' := by
  unfold doOpW at x ⊢
  split at x
  · split at x
    · exact hM _ _ _ _ _ hQ (hC _ _ _ _ x)
    · exact hM _ _ _ _ _ hQ (hC _ _ _ _ x)
    · exact x.elim
  · unfold nextW at x ⊢
    split at x
    · split at x
      · exact hQ _ _ x
      · split at x
        · exact ⟨x.1, fun e he hn => hQ _ _ (x.2.1 e he hn), fun hn => hQ _ _ (x.2.2 hn)⟩
        · exact x.elim
      · exact x.elim
    · exact x.elim
  · split at x
    · exact hQ _ _ x
    · exact x.elim
theorem runInW_mono {i : AIn} {e : List AV} {h : AHeap} {Q Q' : List AV → AHeap → Prop} (hQ : ∀ e h, Q e h → Q' e h) (x : runInW C i e h Q) : runInW C' i e h Q' := by
  unfold runInW at x ⊢
  split at x
  · split at x
    · exact doOpW_mono hC hM (fun v h q => hQ _ _ q) x
    · exact x.elim
  · exact hQ _ _ x
  · exact x.elim
theorem runInsW_mono : ∀ {is : List AIn} {e : List AV} {h : AHeap} {Q Q' : List AV → AHeap → Prop}, (∀ e h, Q e h → Q' e h) → runInsW C is e h Q → runInsW C' is e h Q'
  | [], _, _, _, _, hQ, x => hQ _ _ x
  | _ :: _, _, _, _, _, hQ, x => runInW_mono hC hM (fun _ _ q => runInsW_mono hQ q) x
theorem runDrawW_mono : ∀ {is : List DI} {e : List AV} {h : AHeap} {Q Q' : List AV → AHeap → Prop}, (∀ e h, Q e h → Q' e h) → runDrawW C is e h Q → runDrawW C' is e h Q'
  | [], _, _, _, _, hQ, x => hQ _ _ x
  | _ :: _, _, _, _, _, hQ, x => runInW_mono hC hM (fun _ _ q => ⟨q.1, runDrawW_mono hQ q.2⟩) x
theorem execW_mono {ro : Option Nat} : ∀ {c : ACode} {e : List AV} {h : AHeap} {Q Q' : AExit → List AV → AHeap → Prop}, (∀ x e h, Q x e h → Q' x e h) → execW C ro c e h Q → execW C' ro c e h Q'
  | .skip, _, _, _, _, hQ, x => hQ _ _ _ x
  | .region _, _, _, _, _, hQ, x => runInsW_mono hC hM (fun _ _ q => hQ _ _ _ q) x
  | .seq a b, e, h, Q, Q', hQ, x => by
    simp only [execW] at x ⊢
    refine execW_mono (fun y e h q => ?_) x
    cases y with
    | normal => exact execW_mono hQ q
    | exit id => exact hQ _ _ _ q
    | ret => exact hQ _ _ _ q
  | .cond c a b, e, h, Q, Q', hQ, x => by
    simp only [execW] at x ⊢
    split at x
    · exact execW_mono hQ x
    · exact execW_mono hQ x
    · exact x.elim
  | .block id b, e, h, Q, Q', hQ, x => by
    simp only [execW] at x ⊢
    refine execW_mono (fun y e h q => ?_) x
    cases y with
    | normal => exact hQ _ _ _ q
    | exit i =>
      simp only at q ⊢
      split
      · rename_i hi; rw [if_pos hi] at q; exact hQ _ _ _ q
      · rename_i hi; rw [if_neg hi] at q; exact hQ _ _ _ q
    | ret => exact hQ _ _ _ q
  | .loop b, e, h, Q, Q', hQ, x => by
    simp only [execW] at x ⊢
    have key : ∀ n e h, iterW (execW C ro b) n e h Q → iterW (execW C' ro b) n e h Q' := by
      intro n
      induction n with
      | zero => intro e h x; exact x
      | succ n ih =>
        intro e h x
        simp only [iterW] at x ⊢
        refine execW_mono (fun y e h q => ?_) x
        cases y with
        | normal =>
          obtain ⟨h2, hl, q⟩ := q
          exact ⟨h2, hl, ih _ _ q⟩
        | exit id => exact hQ _ _ _ q
        | ret => exact hQ _ _ _ q
    exact key _ _ _ x
  | .exit _, _, _, _, _, hQ, x => hQ _ _ _ x
  | .ret, _, _, _, _, hQ, x => hQ _ _ _ x
  | .draw _, _, _, _, _, hQ, x => fun ds hd => runDrawW_mono hC hM (fun _ _ ⟨e0, h0, r, q⟩ => ⟨e0, h0, r, hQ _ _ _ q⟩) (x ds hd)
  | .rfun f ps asg body, e, h, Q, Q', hQ, x => by
    simp only [execW] at x ⊢
    split at x
    · refine ⟨x.1, hM _ _ _ _ _ (fun v h q => ?_) (hC _ _ _ _ x.2)⟩
      unfold endW at q ⊢
      split at q
      · exact ⟨q.1, hQ _ _ _ q.2⟩
      · exact q.elim
    · exact x.elim
  | .bad, _, _, _, _, _, x => x
theorem callW_mono {f : AFn} {args : List AV} {h : AHeap} {Q Q' : AV → AHeap → Prop} (hQ : ∀ v h, Q v h → Q' v h) (x : callW C f args h Q) : callW C' f args h Q' := by
  unfold callW at x ⊢
  refine execW_mono hC hM (fun y e h q => ?_) x
  cases y with
  | exit id => exact q
  | normal =>
    simp only at q ⊢
    split at q
    · exact hQ _ _ q
    · exact q.elim
  | ret =>
    simp only at q ⊢
    split at q
    · exact hQ _ _ q
    · exact q.elim
theorem roundW_mono {l : Nat} {args : List AV} {h : AHeap} {Q Q' : AV → AHeap → Prop} (hQ : ∀ v h, Q v h → Q' v h) (x : roundW C l args h Q) : roundW C' l args h Q' := by
  unfold roundW at x ⊢
  split at x
  · refine ⟨x.1, execW_mono hC hM (fun y e h q => ⟨q.1, ?_⟩) x.2⟩
    have q2 := q.2
    split at q2
    · refine execW_mono hC hM (fun y e h q => ?_) q2
      unfold roundEnd at q ⊢
      split at q
      · cases y <;> exact hQ _ _ q
      · exact q.elim
    · exact q2.elim
  · exact x.elim
end mono
def stepW (O : Nat → Option FSpec) (T : BT) (S : SemW) : SemW
  | .f n, args, h, Q => match O n with
    | some F => F args h Q
    | none => match T.get n with
      | some af => callW S af args h fun v h' => ∃ h2, ((∀ id o, h.get id = some o → id < h.next) → Less h2 h') ∧ Q v h2
      | none => False
  | .y l, args, h, Q => roundW S l args h Q
def progI (O : Nat → Option FSpec) (T : BT) : SemW := fun g args h Q => ∀ S : SemW, MonoW S → (∀ g args h Q, stepW O T S g args h Q → S g args h Q) → S g args h Q
variable {O : Nat → Option FSpec} {T : BT}
theorem progI_mono : MonoW (progI O T) := fun g args h Q Q' hQ x S hS hcl => hS g args h Q Q' hQ (x S hS hcl)
theorem progI_step {g : Fn} {args : List AV} {h : AHeap} {Q : AV → AHeap → Prop} (x : stepW O T (progI O T) g args h Q) : progI O T g args h Q := by
  intro S hS hcl
  have hle : ∀ g args h Q, progI O T g args h Q → S g args h Q := fun g args h Q y => y S hS hcl
  refine hcl g args h Q ?_
  cases g with
  | f n =>
    simp only [stepW] at x ⊢
    split at x
    · exact x
    · split at x
      · exact callW_mono hle hS (fun _ _ q => q) x
      · exact x.elim
  | y l => exact roundW_mono hle hS (fun _ _ q => q) x
theorem progI_call {n : Nat} {af : AFn} {args : List AV} {h : AHeap} {Q : AV → AHeap → Prop} (hO : O n = none) (hT : T.get n = some af) (x : callW (progI O T) af args h Q) : progI O T (.f n) args h Q :=
  progI_step (by simp only [stepW, hO, hT]; exact callW_mono (fun _ _ _ _ y => y) progI_mono (fun _ h q => ⟨h, fun _ => Less.refl h, q⟩) x)
theorem progI_drop {n : Nat} {af : AFn} {args : List AV} {h : AHeap} {Q : AV → AHeap → Prop} (hO : O n = none) (hT : T.get n = some af) (x : callW (progI O T) af args h fun v h' => ∃ h2, ((∀ id o, h.get id = some o → id < h.next) → Less h2 h') ∧ Q v h2) : progI O T (.f n) args h Q :=
  progI_step (by simp only [stepW, hO, hT]; exact x)
theorem progI_known {n : Nat} {F : FSpec} {args : List AV} {h : AHeap} {Q : AV → AHeap → Prop} (hO : O n = some F) (x : F args h Q) : progI O T (.f n) args h Q :=
  progI_step (by simp only [stepW, hO]; exact x)
theorem progI_round {l : Nat} {args : List AV} {h : AHeap} {Q : AV → AHeap → Prop} (x : roundW (progI O T) l args h Q) : progI O T (.y l) args h Q := progI_step x
def OSound (P : Program) (O : Nat → Option FSpec) : Prop := ∀ f F, O f = some F → FSound P (LamP P) f F ∧ Enters P f
def soundS (P : Program) : SemW
  | .f n, args, h, Q => Enters P n ∧ ∀ (μ : Mu) (w : World) (cargs : List Value), Rel (LamP P) μ h w → VRL μ args cargs →
    ∀ cs, ∃ r h' fr w' μ' cv, Q r h' ∧ Steps P (lone (Frame.enter P n cargs.toArray .normal) cs w) (lone fr cs w') ∧ fr.fn = n ∧ fr.leaving P w' (.returned cv) ∧ VR μ' r cv ∧ Rel (LamP P) μ' h' w' ∧ Step μ h w μ' h' w'
  | .y l, args, h, Q => ∀ (μ : Mu) (w : World) (cargs : List Value), Rel (LamP P) μ h w → VRL μ args cargs →
    ∃ (lc : Loc) (r : Go.Loop), μ l = some lc ∧ w.heap[lc.block]? = some (.loop r) ∧ cargs.length = r.params.size ∧
      ∀ c cs, ∃ rv h' w' μ' cv, Q rv h' ∧ Steps P (lone (Frame.round lc.block r.fn ((r.params.zip cargs.toArray).foldl (fun tmps (t, a) => tmps.setIfInBounds t a) r.tmps) r.assign r.body .normal) (c :: cs) w) (lone (c.finish cv) cs w') ∧
        VR μ' rv cv ∧ Rel (LamP P) μ' h' w' ∧ Step μ h w μ' h' w'
theorem soundS_ok (P : Program) : CSound P (LamP P) (soundS P) :=
  ⟨fun _ _ _ _ x => x.1, fun _ _ _ _ μ w cargs x hr hv cs => x.2 μ w cargs hr hv cs, fun _ _ _ _ μ w cargs x hr hv => x μ w cargs hr hv⟩
theorem soundS_mono (P : Program) : MonoW (soundS P) := by
  intro g args h Q Q' hQ x
  cases g with
  | f n =>
    refine ⟨x.1, fun μ w cargs hr hv cs => ?_⟩
    obtain ⟨r, h', fr, w', μ', cv, q, y⟩ := x.2 μ w cargs hr hv cs
    exact ⟨r, h', fr, w', μ', cv, hQ _ _ q, y⟩
  | y l =>
    intro μ w cargs hr hv
    obtain ⟨lc, r, a, b, c, d⟩ := x μ w cargs hr hv
    refine ⟨lc, r, a, b, c, fun f cs => ?_⟩
    obtain ⟨rv, h', w', μ', cv, q, y⟩ := d f cs
    exact ⟨rv, h', w', μ', cv, hQ _ _ q, y⟩
theorem progI_le {P : Program} (hO : OSound P O) (hT : AllB (Is P) T) {g : Fn} {args : List AV} {h : AHeap} {Q : AV → AHeap → Prop} (x : progI O T g args h Q) : soundS P g args h Q := by
  refine x (soundS P) (soundS_mono P) fun g args h Q y => ?_
  cases g with
  | f n =>
    simp only [stepW] at y
    split at y
    · rename_i F hF
      obtain ⟨h1, h2⟩ := hO n F hF
      exact ⟨h2, fun μ w cargs hr hv cs => h1 args h Q μ w cargs y hr hv cs⟩
    · split at y
      · rename_i af hf
        obtain ⟨fn, h1, h2, h3⟩ := BT.get_of hT hf
        refine ⟨h3, fun μ w cargs hr hv cs => ?_⟩
        obtain ⟨r, h', fr, w', μ', cv, ⟨h4, hl, q⟩, s, hf, hlv, hvr, hrl, hst⟩ := fn_sound h1 h2 (soundS_ok P) args h _ μ w cargs y hr hv cs
        have hl := hl fun id o e => by
          obtain ⟨l, hm, _⟩ := hr.obj id o e
          exact (hr.dom id l hm).1
        exact ⟨r, h4, fr, w', μ', cv, q, s, hf, hlv, hvr, hl.rel hrl, hl.step hst⟩
      · exact y.elim
  | y l => exact fun μ w cargs hr hv => round_sound (soundS_ok P) l args h Q μ w cargs y hr hv
theorem progI_sound {P : Program} (hO : OSound P O) (hT : AllB (Is P) T) (n : Nat) : FSound P (LamP P) n (progI O T (.f n)) :=
  fun _ _ _ μ w cargs x hr hv cs => (progI_le hO hT x).2 μ w cargs hr hv cs
theorem FSound.calls {P : Program} {Λ : Lam} {f : FuncId} {F : FSpec} (hs : FSound P Λ f F) {args : List AV} {h : AHeap} {Q : AV → AHeap → Prop} {μ : Mu} {w : World} {cargs : List Value} (hc : F args h Q) (hr : Rel Λ μ h w) (ha : VRL μ args cargs) :
    Calls P f cargs.toArray w fun e w' => ∃ μ' cv r h', Q r h' ∧ e = .returned cv ∧ VR μ' r cv ∧ Rel Λ μ' h' w' ∧ Step μ h w μ' h' w' := by
  intro cs
  obtain ⟨r, h', fr, w', μ', cv, q, s, hf, hl, hv, hr', hst⟩ := hs args h Q μ w cargs hc hr ha cs
  exact ⟨.returned cv, w', fr, ⟨μ', cv, r, h', q, rfl, hv, hr', hst⟩, s, hf, hl⟩
end Go.Proofs.YtlkfclgkinaibaaGreat

namespace Go.Proofs.YtlkfclgkinaibaaGreat
variable {Λ : Lam}
inductive Sh where
  | int (k : IntKind)
  | bool
  | str
  | bytes
  | slice (s : Sh)
  | fields (l : List Sh)
mutual
def Sh.size : Sh → Nat
  | .fields l => Sh.sizeL l
  | _ => 1
def Sh.sizeL : List Sh → Nat
  | [] => 0
  | s :: ss => s.size + Sh.sizeL ss
end
mutual
def shOk (P : Program) : Sh → TypeId → Bool
  | .int k, t => match P.underlying t with
    | some (.int k') => decide (k' = k)
    | _ => false
  | .bool, t => match P.underlying t with
    | some .bool => true
    | _ => false
  | .str, t => match P.underlying t with
    | some .string => true
    | _ => false
  | .bytes, t => match P.underlying t with
    | some (.slice e) => P.cellsOf e == 1 && (match P.underlying e with
      | some (.int .u8) => true
      | _ => false)
    | _ => false
  | .slice s, t => match P.underlying t with
    | some (.slice e) => P.cellsOf e == s.size && decide (0 < s.size) && shOk P s e
    | _ => false
  | .fields l, t => match P.underlying t with
    | some (.struct fs) => P.cellsOf t == Sh.sizeL l && shOkF P 0 l fs.toList
    | some (.array n e) => P.cellsOf t == Sh.sizeL l && shOkN P e 0 l n
    | _ => false
def shOkF (P : Program) : Nat → List Sh → List Field → Bool
  | _, [], [] => true
  | off, s :: ss, f :: fs => f.offset == off && P.cellsOf f.type == s.size && shOk P s f.type && shOkF P (off + s.size) ss fs
  | _, _, _ => false
def shOkN (P : Program) (e : TypeId) : Nat → List Sh → Nat → Bool
  | _, [], 0 => true
  | off, s :: ss, n + 1 => P.cellsOf e == s.size && shOk P s e && shOkN P e (off + s.size) ss n
  | _, _, _ => false
end
mutual
def AD (h : AHeap) : Sh → List AV → Prop
  | .int k, as => ∃ n, as = [.int k n] ∧ k.min ≤ n ∧ n ≤ k.max
  | .bool, as => ∃ b, as = [.bool b]
  | .str, as => ∃ s, as = [.str s] ∧ s.size ≤ maxLen
  | .bytes, as => as = [.nilsl] ∨ as = [.esl] ∨ ∃ id len cap n e, as = [.sl id 0 len cap] ∧ 0 < len ∧ len ≤ cap ∧ cap ≤ maxLen ∧ n < 2 ^ (8 * len) ∧ h.get id = some (.row e 1 false true (.bytes len n))
  | .slice s, as => as = [.nilsl] ∨ as = [.esl] ∨ ∃ id len cap e elems, as = [.sl id 0 len cap] ∧ 0 < len ∧ len ≤ cap ∧ cap ≤ maxLen ∧ h.get id = some (.row e s.size false true (.vals (List.flatten elems))) ∧ elems.length = len ∧
      ∀ x, x ∈ elems → AD h s x
  | .fields l, as => ADs h l as
def ADs (h : AHeap) : List Sh → List AV → Prop
  | [], as => as = []
  | s :: ss, as => ∃ x y, as = x ++ y ∧ AD h s x ∧ ADs h ss y
end
mutual
theorem AD.length {h : AHeap} : ∀ (s : Sh) (as : List AV), AD h s as → as.length = s.size
  | .int k, as, e => by simp only [AD] at e; obtain ⟨n, rfl, _⟩ := e; rfl
  | .bool, as, e => by simp only [AD] at e; obtain ⟨n, rfl⟩ := e; rfl
  | .str, as, e => by simp only [AD] at e; obtain ⟨n, rfl, _⟩ := e; rfl
  | .bytes, as, e => by
    simp only [AD] at e
    rcases e with rfl | rfl | ⟨id, len, cap, n, e', rfl, _⟩ <;> rfl
  | .slice s, as, e => by
    simp only [AD] at e
    rcases e with rfl | rfl | ⟨id, len, cap, n, e', rfl, _⟩ <;> rfl
  | .fields l, as, e => by
    simp only [AD] at e
    simp only [Sh.size]
    exact ADs.length l as e
theorem ADs.length {h : AHeap} : ∀ (l : List Sh) (as : List AV), ADs h l as → as.length = Sh.sizeL l
  | [], as, e => by simp only [ADs] at e; subst e; rfl
  | s :: ss, as, e => by
    simp only [ADs] at e
    obtain ⟨x, y, rfl, h1, h2⟩ := e
    simp only [List.length_append, Sh.sizeL, AD.length s x h1, ADs.length ss y h2]
end
mutual
theorem AD.mono {h h' : AHeap} (hg : ∀ id o, h.get id = some o → h'.get id = some o) : ∀ (s : Sh) (as : List AV), AD h s as → AD h' s as
  | .int k, as, e => by simp only [AD] at e ⊢; exact e
  | .bool, as, e => by simp only [AD] at e ⊢; exact e
  | .str, as, e => by simp only [AD] at e ⊢; exact e
  | .bytes, as, e => by
    simp only [AD] at e ⊢
    rcases e with h1 | h1 | ⟨id, len, cap, n, e', h1, h2, h3, h4, h5, h6⟩
    · exact .inl h1
    · exact .inr (.inl h1)
    · exact .inr (.inr ⟨id, len, cap, n, e', h1, h2, h3, h4, h5, hg _ _ h6⟩)
  | .slice s, as, e => by
    simp only [AD] at e ⊢
    rcases e with h1 | h1 | ⟨id, len, cap, n, e', h1, h2, h3, h4, h5, h6, h7⟩
    · exact .inl h1
    · exact .inr (.inl h1)
    · exact .inr (.inr ⟨id, len, cap, n, e', h1, h2, h3, h4, hg _ _ h5, h6, fun x hx => AD.mono hg s x (h7 x hx)⟩)
  | .fields l, as, e => by
    simp only [AD] at e ⊢
    exact ADs.mono hg l as e
theorem ADs.mono {h h' : AHeap} (hg : ∀ id o, h.get id = some o → h'.get id = some o) : ∀ (l : List Sh) (as : List AV), ADs h l as → ADs h' l as
  | [], as, e => by simp only [ADs] at e ⊢; exact e
  | s :: ss, as, e => by
    simp only [ADs] at e ⊢
    obtain ⟨x, y, h1, h2, h3⟩ := e
    exact ⟨x, y, h1, AD.mono hg s x h2, ADs.mono hg ss y h3⟩
end
def AllRo (h : AHeap) : Prop := ∀ id o, h.get id = some o → o.rw = false
structure Rd (Λ : Lam) (w : World) (μ : Mu) (h : AHeap) (μ' : Mu) (h' : AHeap) : Prop where
  rel : Rel Λ μ' h' w
  ro : AllRo h'
  ext : Ext μ μ'
  old : ∀ id o, h.get id = some o → h'.get id = some o
theorem Rd.refl {w : World} {μ : Mu} {h : AHeap} (hr : Rel Λ μ h w) (ho : AllRo h) : Rd Λ w μ h μ h := ⟨hr, ho, Ext.refl μ, fun _ _ e => e⟩
theorem Rd.trans {w : World} {μ μ1 μ2 : Mu} {h h1 h2 : AHeap} (x : Rd Λ w μ h μ1 h1) (y : Rd Λ w μ1 h1 μ2 h2) : Rd Λ w μ h μ2 h2 :=
  ⟨y.rel, y.ro, x.ext.trans y.ext, fun id o e => y.old id o (x.old id o e)⟩
theorem Rd.row {w : World} {μ : Mu} {h : AHeap} (hr : Rel Λ μ h w) (ho : AllRo h) {l : Loc} {e es : Nat} {d : Dat} (hrow : RowR μ w l e es false true d) :
    Rd Λ w μ h (μ.with h.next l) (h.new (.row e es false true d)) ∧ (μ.with h.next l) h.next = some l ∧ (h.new (.row e es false true d)).get h.next = some (.row e es false true d) := by
  have hno : μ h.next = none := by
    cases e : μ h.next with
    | none => rfl
    | some k => have := (hr.dom _ _ e).1; omega
  have hext : Ext μ (μ.with h.next l) := Ext.with l hno
  have hsame : (h.new (.row e es false true d)).get h.next = some (.row e es false true d) := AHeap.get_new_same h _
  have hold : ∀ id o, h.get id = some o → (h.new (.row e es false true d)).get id = some o := fun id o hg => by
    rw [AHeap.get_new_ne h _ (by have := hr.lt hg; omega)]; exact hg
  have hcase : ∀ id o, (h.new (.row e es false true d)).get id = some o → (id = h.next ∧ o = .row e es false true d) ∨ (id ≠ h.next ∧ h.get id = some o) := by
    intro id o hg
    by_cases hi : id = h.next
    · subst hi; rw [hsame] at hg; cases hg; exact .inl ⟨rfl, rfl⟩
    · rw [AHeap.get_new_ne h _ (fun e => hi e.symm)] at hg; exact .inr ⟨hi, hg⟩
  have hbl : l.block < w.heap.size := by
    obtain ⟨c, fr, h1, _⟩ := hrow
    exact (Array.getElem?_eq_some_iff.1 h1).1
  refine ⟨⟨⟨fun id o hg => ?_, fun i j oi oj li lj hi hj hne hrw => ?_, fun id k hk => ?_⟩, fun id o hg => ?_, hext, hold⟩, Mu.with_same _ _ _, hsame⟩
  · rcases hcase id o hg with ⟨rfl, rfl⟩ | ⟨hi, hg⟩
    · exact ⟨l, Mu.with_same _ _ _, RowR.ext hext hrow rfl⟩
    · obtain ⟨k, hk, hobj⟩ := hr.obj id o hg
      refine ⟨k, hext _ _ hk, ?_⟩
      cases o with
      | row => exact RowR.ext hext hobj rfl
      | _ => have := ho id _ hg; cases this
  · rcases hcase i oi hi with ⟨rfl, rfl⟩ | ⟨_, hg⟩
    · cases hrw
    · rw [ho i oi hg] at hrw; cases hrw
  · by_cases hi : id = h.next
    · subst hi
      rw [Mu.with_same] at hk; cases hk
      exact ⟨by simp [AHeap.new], hbl⟩
    · rw [Mu.with_ne _ _ hi] at hk
      have := hr.dom _ _ hk
      exact ⟨by simp only [AHeap.new]; omega, this.2⟩
  · rcases hcase id o hg with ⟨rfl, rfl⟩ | ⟨_, hg⟩
    · rfl
    · exact ho id o hg
def pack : List Nat → Nat
  | [] => 0
  | b :: bs => b + 256 * pack bs
theorem byteAt_pack : ∀ (l : List Nat) (i b : Nat), (∀ x, x ∈ l → x < 256) → l[i]? = some b → byteAt (pack l) i = b
  | [], i, b, _, h => by simp at h
  | x :: xs, i, b, hl, h => by
    have hx : x < 256 := hl x (by simp)
    cases i with
    | zero =>
      simp only [List.getElem?_cons_zero, Option.some.injEq] at h
      subst h
      simp only [byteAt, pack, Nat.mul_zero, Nat.shiftRight_zero]
      omega
    | succ i =>
      simp only [List.getElem?_cons_succ] at h
      have ih := byteAt_pack xs i b (fun y hy => hl y (by simp [hy])) h
      simp only [byteAt, pack] at ih ⊢
      have : (x + 256 * pack xs) >>> (8 * (i + 1)) = pack xs >>> (8 * i) := by
        rw [show 8 * (i + 1) = 8 + 8 * i by omega, Nat.shiftRight_add]
        congr 1
        rw [Nat.shiftRight_eq_div_pow]
        omega
      rw [this]; exact ih
theorem pack_lt : ∀ (l : List Nat), (∀ x, x ∈ l → x < 256) → pack l < 2 ^ (8 * l.length)
  | [], _ => by simp [pack]
  | x :: xs, hl => by
    have hx : x < 256 := hl x (by simp)
    have ih := pack_lt xs fun y hy => hl y (by simp [hy])
    simp only [pack, List.length_cons]
    rw [show 8 * (xs.length + 1) = 8 * xs.length + 8 by omega, Nat.pow_add]
    omega
theorem VRL.extend {μ μ' : Mu} (h : Ext μ μ') {a : List AV} {x : List Value} (e : VRL μ a x) : VRL μ' a x := VRL.ext h a x e
section
variable {H : Type} {enc : TypeId × Value → H} {P : Program} {w : World} {sp : Nat → Bool}
def TrodC (enc : TypeId × Value → H) (P : Program) (w : World) (sp : Nat → Bool) : List Sh → List TypeId → List Value → Prop
  | [], [], cs => cs = []
  | s :: ss, t :: ts, cs => shOk P s t = true ∧ (∃ fuel x, DataW.trod enc P w 0 sp true fuel t (cs.take s.size) = some x) ∧ TrodC enc P w sp ss ts (cs.drop s.size)
  | _, _, _ => False
theorem trodC_fields {fuel : Nat} {cs : List Value} : ∀ {l : List Sh} {fs : List Field} {off : Nat}, shOkF P off l fs = true → cs.length = off + Sh.sizeL l →
    (∀ (i : Nat) (f : Field), fs[i]? = some f → ∃ x, DataW.trod enc P w 0 sp true fuel f.type ((cs.drop f.offset).take (P.cellsOf f.type)) = some x) → TrodC enc P w sp l (fs.map (·.type)) (cs.drop off)
  | [], [], off, _, hl, _ => by
    simp only [List.map_nil, TrodC]
    simp only [Sh.sizeL] at hl
    exact List.drop_eq_nil_of_le (by omega)
  | s :: ss, f :: fs, off, h, hl, hx => by
    simp only [shOkF, Bool.and_eq_true, beq_iff_eq] at h
    obtain ⟨⟨⟨h1, h2⟩, h3⟩, h4⟩ := h
    simp only [List.map_cons, TrodC]
    refine ⟨h3, ?_, ?_⟩
    · obtain ⟨x, hx0⟩ := hx 0 f rfl
      rw [h1, h2] at hx0
      exact ⟨fuel, x, hx0⟩
    · rw [List.drop_drop]
      exact trodC_fields h4 (by simp only [Sh.sizeL] at hl; omega) fun i g hg => hx (i + 1) g (by simpa using hg)
  | [], _ :: _, _, h, _, _ => by simp [shOkF] at h
  | _ :: _, [], _, h, _, _ => by simp [shOkF] at h
theorem trodC_array {fuel : Nat} {e : TypeId} {cs : List Value} : ∀ {l : List Sh} {n k : Nat} , shOkN P e (k * P.cellsOf e) l n = true → cs.length = k * P.cellsOf e + Sh.sizeL l →
    (∀ i, k ≤ i → i < k + n → ∃ x, DataW.trod enc P w 0 sp true fuel e ((cs.drop (i * P.cellsOf e)).take (P.cellsOf e)) = some x) → TrodC enc P w sp l (List.replicate n e) (cs.drop (k * P.cellsOf e))
  | [], 0, k, _, hl, _ => by
    simp only [List.replicate, TrodC]
    simp only [Sh.sizeL] at hl
    exact List.drop_eq_nil_of_le (by omega)
  | s :: ss, n + 1, k, h, hl, hx => by
    simp only [shOkN, Bool.and_eq_true, beq_iff_eq] at h
    obtain ⟨⟨h2, h3⟩, h4⟩ := h
    simp only [List.replicate_succ, TrodC]
    refine ⟨h3, ?_, ?_⟩
    · obtain ⟨x, hx0⟩ := hx k (Nat.le_refl k) (by omega)
      rw [← h2]
      exact ⟨fuel, x, hx0⟩
    · rw [List.drop_drop, ← h2]
      rw [← h2] at h4
      have e1 : k * P.cellsOf e + P.cellsOf e = (k + 1) * P.cellsOf e := by rw [Nat.add_mul, Nat.one_mul]
      rw [e1] at h4 ⊢
      exact trodC_array h4 (by simp only [Sh.sizeL] at hl; rw [← h2] at hl; omega) fun i hi hi2 => hx i (by omega) (by omega)
  | [], n + 1, _, h, _, _ => by simp [shOkN] at h
  | _ :: _, 0, _, h, _, _ => by simp [shOkN] at h
def Got (Λ : Lam) (w : World) (μ : Mu) (h : AHeap) (cs : List Value) (A : AHeap → List AV → Prop) : Prop :=
  ∃ μ' h' as, Rd Λ w μ h μ' h' ∧ VRL μ' as cs ∧ (∀ c, c ∈ cs → c.oneCell' = true) ∧ A h' as
theorem cells_at {a : Addr} {n : Nat} {cs : List Value} (h : w.cells? 0 a n = some cs) : cs.length = n ∧ ∀ i, i < n → w.cell? (a.add i) = cs[i]? := by
  unfold World.cells? at h
  rw [if_pos (Nat.zero_le _)] at h
  exact ⟨by simpa using mapM_some_length h, fun i hi => mapM_some_get h i i (by simp [hi])⟩
theorem cell_plain {a : Addr} {v : Value} (h : w.cell? a = some v) : a.spot = none ∧ ∃ c e fr, w.heap[a.block]? = some (.cells c e fr) ∧ c[a.off]? = some v := by
  unfold World.cell? at h
  split at h
  · rename_i c e fr hb
    split at h
    · cases h
    · rename_i hs
      exact ⟨by simpa using hs, c, e, fr, hb, h⟩
  · cases h
theorem add_plain {b off n : Nat} : (⟨b, off, none⟩ : Addr).add n = ⟨b, off + n, none⟩ := by
  unfold Addr.add
  split
  · rename_i h; subst h; rfl
  · rfl
theorem row_of_cells {μ : Mu} {b off : Nat} {d : Dat} {vs : List Value} {cap es : Nat} (h0 : 0 < vs.length) (hc : ∀ (k : Nat) (v : Value), vs[k]? = some v → w.cell? ⟨b, off + k, none⟩ = some v)
    (hd : ∀ (i : Nat) (x : AV), d.get i = some x → ∃ c, vs[i]? = some c ∧ VR μ x c ∧ c.oneCell' = true) : ∃ e, RowR μ w ⟨b, off, cap⟩ e es false true d := by
  obtain ⟨v0, hv0⟩ : ∃ v, vs[0]? = some v := ⟨vs[0], by simp [h0]⟩
  obtain ⟨_, c, e, fr, hb, _⟩ := cell_plain (hc 0 v0 hv0)
  refine ⟨e, c, fr, hb, fun i x hx => ?_, fun h => by cases h⟩
  obtain ⟨cv, h1, h2, h3⟩ := hd i x hx
  obtain ⟨_, c', e', fr', hb', h4⟩ := cell_plain (hc i cv h1)
  rw [hb] at hb'; cases hb'
  exact ⟨cv, h4, h2, h3⟩
theorem VRL.get' {μ : Mu} {as : List AV} {cs : List Value} (h : VRL μ as cs) (ho : ∀ c, c ∈ cs → c.oneCell' = true) (i : Nat) (x : AV) (hx : as[i]? = some x) : ∃ c, cs[i]? = some c ∧ VR μ x c ∧ c.oneCell' = true := by
  obtain ⟨c, h1, h2⟩ := VRL.get h i x hx
  exact ⟨c, h1, h2, ho c (List.mem_of_getElem? h1)⟩
theorem flatten_chunks {α : Type} {es : Nat} (he : 0 < es) : ∀ {C : List (List α)}, (∀ c, c ∈ C → c.length = es) → ∀ (k : Nat) (v : α), C.flatten[k]? = some v → ∃ c, C[k / es]? = some c ∧ c[k % es]? = some v
  | [], _, k, v, h => by simp at h
  | c :: C, hc, k, v, h => by
    have hl := hc c (by simp)
    rw [List.flatten_cons] at h
    by_cases hk : k < es
    · rw [List.getElem?_append_left (by omega)] at h
      exact ⟨c, by rw [Nat.div_eq_of_lt hk]; rfl, by rw [Nat.mod_eq_of_lt hk]; exact h⟩
    · rw [List.getElem?_append_right (by omega), hl] at h
      obtain ⟨c', h1, h2⟩ := flatten_chunks he (fun x hx => hc x (by simp [hx])) (k - es) v h
      have e1 : k / es = (k - es) / es + 1 := by
        have := Nat.sub_mul_div k es 1
        rw [Nat.mul_one] at this
        rw [this]
        have : 0 < k / es := Nat.div_pos (by omega) he
        omega
      have e2 : k % es = (k - es) % es := by rw [← Nat.mod_eq_sub_mod (by omega)]
      exact ⟨c', by rw [e1]; exact h1, by rw [e2]; exact h2⟩
mutual
theorem read_sh : ∀ (s : Sh) (t : TypeId) (cs : List Value) (fuel : Nat) (x : DataW H × List MemPlace) (μ : Mu) (h : AHeap), shOk P s t = true → DataW.trod enc P w 0 sp true fuel t cs = some x → Rel Λ μ h w → AllRo h →
    Got Λ w μ h cs fun h' as => AD h' s as
  | .int k, t, cs, fuel, x, μ, h, hs, ht, hr, ho => by
    simp only [shOk] at hs
    split at hs
    · rename_i k' hu
      have := of_decide_eq_true hs; subst this
      obtain ⟨n, rfl, _, hw⟩ := DataW.trod_int hu ht
      simp only [Lit.wf, Bool.and_eq_true, decide_eq_true_eq] at hw
      exact ⟨μ, h, [.int k' n], Rd.refl hr ho, by simp [VRL, VR], by simp; rfl, by simp only [AD]; exact ⟨n, rfl, hw⟩⟩
    · cases hs
  | .bool, t, cs, fuel, x, μ, h, hs, ht, hr, ho => by
    simp only [shOk] at hs
    split at hs
    · rename_i hu
      obtain ⟨b, rfl, _⟩ := DataW.trod_bool hu ht
      exact ⟨μ, h, [.bool b], Rd.refl hr ho, by simp [VRL, VR], by simp; rfl, by simp only [AD]; exact ⟨b, rfl⟩⟩
    · cases hs
  | .str, t, cs, fuel, x, μ, h, hs, ht, hr, ho => by
    simp only [shOk] at hs
    split at hs
    · rename_i hu
      obtain ⟨b, rfl, _, hb⟩ := DataW.trod_string hu ht
      exact ⟨μ, h, [.str b], Rd.refl hr ho, by simp [VRL, VR], by simp; rfl, by simp only [AD]; exact ⟨b, rfl, hb⟩⟩
    · cases hs
  | .bytes, t, cs, fuel, x, μ, h, hs, ht, hr, ho => by
    simp only [shOk] at hs
    split at hs
    · rename_i e hu
      simp only [Bool.and_eq_true, beq_iff_eq] at hs
      obtain ⟨hc, hs⟩ := hs
      split at hs
      · rename_i he
        rcases DataW.trod_slice hu ht with ⟨rfl, _⟩ | ⟨a, len, cap, elems, rest, n, _, rfl, _, _, h1, h2, h3, h4, _, _⟩
        · exact ⟨μ, h, [.nilsl], Rd.refl hr ho, by simp [VRL, VR], by simp; rfl, by simp only [AD]; exact .inl trivial⟩
        · by_cases h0 : len = 0
          · subst h0
            exact ⟨μ, h, [.esl], Rd.refl hr ho, by simp only [VRL, VR]; exact ⟨_, _, rfl, ⟨a, cap, rfl⟩, rfl⟩, by simp; rfl, by simp only [AD]; exact .inr (.inl trivial)⟩
          · have hel : ∀ i, i < len → ∃ b : Int, 0 ≤ b ∧ b < 256 ∧ w.cell? (a.add i) = some (.int .u8 b) := by
              intro i hi
              have := h4 i hi
              rw [hc, Nat.mul_one] at this
              have hex : elems[i]? = some (elems[i]'(by omega)) := by simp [h3, hi]
              rw [hex] at this
              obtain ⟨c1, hc1, hc2⟩ := Option.bind_eq_some_iff.1 this
              obtain ⟨b, rfl, _, hw⟩ := DataW.trod_int he hc2
              obtain ⟨_, hcell⟩ := cells_at hc1
              have := hcell 0 (by omega)
              have e0 : ((a.add i).add 0) = a.add i := by simp [Addr.add]
              rw [e0] at this
              simp only [Lit.wf, IntKind.min, IntKind.max, IntKind.signed, IntKind.bits, Bool.and_eq_true] at hw
              exact ⟨b, by simpa using hw.1, by have := hw.2; simp at this; omega, by simpa using this⟩
            have hel' : ∃ f : Nat → Nat, ∀ i, i < len → f i < 256 ∧ w.cell? (a.add i) = some (.int .u8 (f i)) := by
              refine ⟨fun i => if hi : i < len then (Classical.choose (hel i hi)).toNat else 0, fun i hi => ?_⟩
              obtain ⟨p1, p2, p3⟩ := Classical.choose_spec (hel i hi)
              simp only [dif_pos hi]
              refine ⟨by omega, ?_⟩
              refine p3.trans ?_
              congr 2; omega
            obtain ⟨f, hf⟩ := hel'
            have hsp := (cell_plain (hf 0 (by omega)).2).1
            have hplain : a = ⟨a.block, a.off, none⟩ := by
              have : (a.add 0) = a := by simp [Addr.add]
              rw [this] at hsp
              cases a; simp_all
            have hcell : ∀ i, i < len → w.cell? ⟨a.block, a.off + i, none⟩ = some (.int .u8 (f i)) := by
              intro i hi
              rw [← add_plain, ← hplain]; exact (hf i hi).2
            have hb256 : ∀ x, x ∈ (List.range len).map f → x < 256 := by
              intro x hx
              simp only [List.mem_map, List.mem_range] at hx
              obtain ⟨i, hi, rfl⟩ := hx
              exact (hf i hi).1
            obtain ⟨e', hrow⟩ := row_of_cells (μ := μ) (b := a.block) (off := a.off) (d := .bytes len (pack ((List.range len).map f))) (vs := (List.range len).map fun i => Value.int .u8 (f i)) (cap := cap) (es := 1) (by simp; omega)
              (fun k v hk => by
                simp only [List.getElem?_map, Option.map_eq_some_iff] at hk
                obtain ⟨i, hi, rfl⟩ := hk
                obtain ⟨hlt, rfl⟩ := List.getElem?_eq_some_iff.1 hi
                simp only [List.length_range] at hlt
                simp only [List.getElem_range]
                exact hcell k hlt)
              (fun i x hx => by
                have hi := Dat.get_lt hx
                simp only [Dat.len] at hi
                simp only [Dat.get] at hx
                rw [if_pos hi] at hx
                cases hx
                rw [byteAt_pack _ i (f i) hb256 (by simp [hi])]
                exact ⟨.int .u8 (f i), by simp [hi], by simp [VR], rfl⟩)
            obtain ⟨r1, r2, r3⟩ := Rd.row hr ho hrow
            refine ⟨_, _, [.sl h.next 0 len cap], r1, ?_, by simp; rfl, ?_⟩
            · simp only [VRL, VR]
              exact ⟨_, _, rfl, ⟨_, r2, by rw [Nat.add_zero, ← hplain]⟩, rfl⟩
            · simp only [AD]
              exact .inr (.inr ⟨h.next, len, cap, _, e', rfl, by omega, h1, h2, by have := pack_lt _ hb256; simpa using this, r3⟩)
      · cases hs
    · cases hs
  | .slice s, t, cs, fuel, x, μ, h, hs, ht, hr, ho => by
    simp only [shOk] at hs
    split at hs
    · rename_i e hu
      simp only [Bool.and_eq_true, beq_iff_eq, decide_eq_true_eq] at hs
      obtain ⟨⟨hc, hpos⟩, hs⟩ := hs
      rcases DataW.trod_slice hu ht with ⟨rfl, _⟩ | ⟨a, len, cap, elems, rest, n, _, rfl, _, _, h1, h2, h3, h4, _, _⟩
      · exact ⟨μ, h, [.nilsl], Rd.refl hr ho, by simp [VRL, VR], by simp; rfl, by simp only [AD]; exact .inl trivial⟩
      · by_cases h0 : len = 0
        · subst h0
          exact ⟨μ, h, [.esl], Rd.refl hr ho, by simp only [VRL, VR]; exact ⟨_, _, rfl, ⟨a, cap, rfl⟩, rfl⟩, by simp; rfl, by simp only [AD]; exact .inr (.inl trivial)⟩
        · have hel : ∀ i, i < len → ∃ ci y, w.cells? 0 (a.add (i * s.size)) s.size = some ci ∧ DataW.trod enc P w 0 sp true n e ci = some y := by
            intro i hi
            have := h4 i hi
            rw [hc] at this
            have hex : elems[i]? = some (elems[i]'(by omega)) := by simp [h3, hi]
            rw [hex] at this
            obtain ⟨c1, hc1, hc2⟩ := Option.bind_eq_some_iff.1 this
            exact ⟨c1, _, hc1, hc2⟩
          have key : ∀ m, m ≤ len → ∃ (μ' : Mu) (h' : AHeap) (E : List (List AV)) (C : List (List Value)), Rd Λ w μ h μ' h' ∧ E.length = m ∧ C.length = m ∧ VRL μ' E.flatten C.flatten ∧ (∀ c, c ∈ C.flatten → c.oneCell' = true) ∧
              (∀ c, c ∈ C → c.length = s.size) ∧ (∀ (i : Nat) (c : List Value), C[i]? = some c → w.cells? 0 (a.add (i * s.size)) s.size = some c) ∧ (∀ x, x ∈ E → AD h' s x) := by
            intro m
            induction m with
            | zero => intro _; exact ⟨μ, h, [], [], Rd.refl hr ho, rfl, rfl, by simp [VRL], by simp, by simp, by simp, by simp⟩
            | succ m ih =>
              intro hle
              obtain ⟨μ1, h1, E, C, r1, l1, l2, v1, o1, z1, c1, a1⟩ := ih (by omega)
              obtain ⟨ci, y, hci, hty⟩ := hel m (by omega)
              obtain ⟨μ2, h2, as, r2, v2, o2, a2⟩ := read_sh s e ci n y μ1 h1 hs hty r1.rel r1.ro
              refine ⟨μ2, h2, E ++ [as], C ++ [ci], r1.trans r2, by simp [l1], by simp [l2], ?_, ?_, ?_, ?_, ?_⟩
              · simp only [List.flatten_append, List.flatten_cons, List.flatten_nil, List.append_nil]
                exact VRL.append (VRL.extend r2.ext v1) v2
              · intro c hc
                simp only [List.flatten_append, List.flatten_cons, List.flatten_nil, List.append_nil, List.mem_append] at hc
                rcases hc with hc | hc
                · exact o1 c hc
                · exact o2 c hc
              · intro c hc
                rcases List.mem_append.1 hc with hc | hc
                · exact z1 c hc
                · rw [List.mem_singleton.1 hc]; exact (cells_at hci).1
              · intro i c hc
                by_cases hi : i < m
                · rw [List.getElem?_append_left (by omega)] at hc
                  exact c1 i c hc
                · rw [List.getElem?_append_right (by omega)] at hc
                  have : i = m := by
                    have := (List.getElem?_eq_some_iff.1 hc).1
                    simp at this; omega
                  subst this
                  rw [l2] at hc
                  simp at hc
                  subst hc; exact hci
              · intro x hx
                rcases List.mem_append.1 hx with hx | hx
                · exact AD.mono r2.old s x (a1 x hx)
                · rw [List.mem_singleton.1 hx]; exact a2
          obtain ⟨μ1, h1', E, C, r1, l1, l2, v1, o1, z1, c1, a1⟩ := key len (Nat.le_refl _)
          have hcells : ∀ (k : Nat) (v : Value), C.flatten[k]? = some v → w.cell? (a.add k) = some v := by
            intro k v hk
            obtain ⟨c, hc1, hc2⟩ := flatten_chunks hpos z1 k v hk
            have h5 := (cells_at (c1 _ c hc1)).2 (k % s.size) (Nat.mod_lt _ hpos)
            rw [hc2] at h5
            rw [← h5]
            have h6 : s.size * (k / s.size) + k % s.size = k := Nat.div_add_mod k s.size
            rw [Nat.mul_comm] at h6
            -- the same place
            unfold Addr.add
            by_cases hk0 : k = 0
            · subst hk0; simp
            · by_cases hq : k / s.size * s.size = 0
              · have : k % s.size = k := by omega
                simp [hq, this, hk0]
              · by_cases hr0 : k % s.size = 0
                · have : k / s.size * s.size = k := by omega
                  simp [hr0, this, hk0]
                · simp [hq, hr0, hk0]
                  congr 2; omega
          have hflen : C.flatten.length = len * s.size := by
            have : ∀ (C : List (List Value)), (∀ c, c ∈ C → c.length = s.size) → C.flatten.length = C.length * s.size := by
              intro C
              induction C with
              | nil => intro _; simp
              | cons c C ih =>
                intro hz
                rw [List.flatten_cons, List.length_append, ih (fun x hx => hz x (by simp [hx])), hz c (by simp), List.length_cons, Nat.add_mul, Nat.one_mul]
                omega
            rw [this C z1, l2]
          have hfl0 : 0 < C.flatten.length := by rw [hflen]; exact Nat.mul_pos (by omega) hpos
          have hsp : a.spot = none := by
            have := hcells 0 (C.flatten[0]) (by simp)
            have e0 : (a.add 0) = a := by simp [Addr.add]
            rw [e0] at this
            exact (cell_plain this).1
          have hplain : a = ⟨a.block, a.off, none⟩ := by cases a; simp_all
          obtain ⟨e', hrow⟩ := row_of_cells (w := w) (μ := μ1) (b := a.block) (off := a.off) (d := .vals E.flatten) (vs := C.flatten) (cap := cap) (es := s.size) hfl0
            (fun k v hk => by rw [← add_plain, ← hplain]; exact hcells k v hk)
            (fun i x hx => VRL.get' v1 o1 i x hx)
          obtain ⟨r2, r3, r4⟩ := Rd.row r1.rel r1.ro hrow
          refine ⟨_, _, [.sl h1'.next 0 len cap], r1.trans r2, ?_, by simp; rfl, ?_⟩
          · simp only [VRL, VR]
            exact ⟨_, _, rfl, ⟨_, r3, by rw [Nat.add_zero, ← hplain]⟩, rfl⟩
          · simp only [AD]
            exact .inr (.inr ⟨h1'.next, len, cap, e', E, rfl, by omega, h1, h2, r4, l1, fun x hx => AD.mono r2.old s x (a1 x hx)⟩)
    · cases hs
  | .fields l, t, cs, fuel, x, μ, h, hs, ht, hr, ho => by
    simp only [shOk] at hs
    simp only [AD]
    split at hs
    · rename_i fs hu
      simp only [Bool.and_eq_true, beq_iff_eq] at hs
      obtain ⟨xs, n, _, _, h1, h2, h3⟩ := DataW.trod_struct hu ht
      have htc : TrodC enc P w sp l (fs.toList.map (·.type)) cs := by
        have := trodC_fields (enc := enc) (w := w) (sp := sp) (fuel := n) (cs := cs) hs.2 (by rw [h1, hs.1]; omega) fun i f hf => by
          have hf' : fs[i]? = some f := by simpa using hf
          have hi := (Array.getElem?_eq_some_iff.1 hf').1
          have hi' : i < xs.length := by omega
          exact ⟨xs[i], by rw [h3 i f hf']; exact List.getElem?_eq_getElem hi'⟩
        simpa using this
      exact read_shs l _ cs μ h htc hr ho
    · rename_i n e hu
      simp only [Bool.and_eq_true, beq_iff_eq] at hs
      obtain ⟨xs, m, _, _, h1, h2, h3⟩ := DataW.trod_array hu ht
      have htc : TrodC enc P w sp l (List.replicate n e) cs := by
        have := trodC_array (enc := enc) (w := w) (sp := sp) (fuel := m) (cs := cs) (k := 0) (by simpa using hs.2) (by rw [h1, hs.1]; omega) fun i _ hi => by
          have hi' : i < xs.length := by omega
          exact ⟨xs[i], by rw [h3 i (by omega)]; exact List.getElem?_eq_getElem hi'⟩
        simpa using this
      exact read_shs l _ cs μ h htc hr ho
    · cases hs
theorem read_shs : ∀ (l : List Sh) (ts : List TypeId) (cs : List Value) (μ : Mu) (h : AHeap), TrodC enc P w sp l ts cs → Rel Λ μ h w → AllRo h →
    Got Λ w μ h cs fun h' as => ADs h' l as
  | [], [], cs, μ, h, ht, hr, ho => by
    simp only [TrodC] at ht
    subst ht
    exact ⟨μ, h, [], Rd.refl hr ho, by simp [VRL], by simp, by simp [ADs]⟩
  | s :: ss, t :: ts, cs, μ, h, ht, hr, ho => by
    simp only [TrodC] at ht
    obtain ⟨hs, ⟨fuel, x, hx⟩, hrest⟩ := ht
    obtain ⟨μ1, h1, as, r1, v1, o1, a1⟩ := read_sh s t _ fuel x μ h hs hx hr ho
    obtain ⟨μ2, h2, bs, r2, v2, o2, a2⟩ := read_shs ss ts _ μ1 h1 hrest r1.rel r1.ro
    refine ⟨μ2, h2, as ++ bs, r1.trans r2, ?_, ?_, ?_⟩
    · have := VRL.append (VRL.extend r2.ext v1) v2
      rwa [List.take_append_drop] at this
    · intro c hc
      rw [← List.take_append_drop s.size cs] at hc
      rcases List.mem_append.1 hc with hc | hc
      · exact o1 c hc
      · exact o2 c hc
    · simp only [ADs]
      exact ⟨as, bs, rfl, AD.mono r2.old s as a1, a2⟩
  | [], _ :: _, _, _, _, ht, _, _ => ht.elim
  | _ :: _, [], _, _, _, ht, _, _ => ht.elim
end
end
end Go.Proofs.YtlkfclgkinaibaaGreat

namespace Go.Proofs.YtlkfclgkinaibaaGreat
variable {Λ : Lam}
open Go.ChangeShapes Go.WideShapes Go.ChangeAt Go.RowKit
def ArgA (h : AHeap) : Sh → AV → Prop
  | .fields l, a => ∃ as, a = .agg as ∧ ADs h l as
  | s, a => AD h s [a]
def ArgsA (h : AHeap) : List Sh → List AV → Prop
  | [], [] => True
  | s :: ss, a :: as => ArgA h s a ∧ ArgsA h ss as
  | _, _ => False
theorem ArgA.mono {h h' : AHeap} (hg : ∀ id o, h.get id = some o → h'.get id = some o) {s : Sh} {a : AV} (e : ArgA h s a) : ArgA h' s a := by
  cases s with
  | fields l => obtain ⟨as, h1, h2⟩ := e; exact ⟨as, h1, ADs.mono hg l as h2⟩
  | _ => exact AD.mono hg _ _ e
def shsOk (P : Program) : List Sh → List TypeId → Bool
  | [], [] => true
  | s :: ss, t :: ts => shOk P s t && P.readableRec t && decide (t < P.types.size) && shsOk P ss ts
  | _, _ => false
section
variable {H : Type} {enc : TypeId × Value → H} {P : Program} {W : World}
theorem value_of_cells {s : Sh} {t : TypeId} {v : Value} {sp : Nat → Bool} {fuel base : Nat} {x : DataW H × List MemPlace} (hs : shOk P s t = true) (hval : Value.okWide P W .any base t v) (ht : DataW.trod enc P W 0 sp true fuel t v.cells.toList = some x) :
    (∃ l cs, s = .fields l ∧ v = .agg cs) ∨ ((∀ l, s ≠ .fields l) ∧ v.cells.toList = [v]) := by
  cases s with
  | int k =>
    refine .inr ⟨fun l e => (by cases e), ?_⟩
    simp only [shOk] at hs
    split at hs
    · rename_i hu
      obtain ⟨n, rfl⟩ := okWide_int hu hval; rfl
    · cases hs
  | bool =>
    refine .inr ⟨fun l e => (by cases e), ?_⟩
    simp only [shOk] at hs
    split at hs
    · rename_i hu
      obtain ⟨n, rfl⟩ := okWide_bool hu hval; rfl
    · cases hs
  | str =>
    refine .inr ⟨fun l e => (by cases e), ?_⟩
    simp only [shOk] at hs
    split at hs
    · rename_i hu
      obtain ⟨n, rfl⟩ := okWide_string hu hval; rfl
    · cases hs
  | bytes =>
    refine .inr ⟨fun l e => (by cases e), ?_⟩
    simp only [shOk] at hs
    split at hs
    · rename_i hu
      obtain ⟨a, b, c, rfl⟩ := okWide_slice hu hval; rfl
    · cases hs
  | slice s =>
    refine .inr ⟨fun l e => (by cases e), ?_⟩
    simp only [shOk] at hs
    split at hs
    · rename_i hu
      obtain ⟨a, b, c, rfl⟩ := okWide_slice hu hval; rfl
    · cases hs
  | fields l =>
    refine .inl ?_
    simp only [shOk] at hs
    split at hs
    · rename_i hu
      obtain ⟨cs, rfl, _⟩ := okWide_struct hu hval
      exact ⟨l, cs, rfl, rfl⟩
    · rename_i hu
      unfold Value.okWide at hval
      rw [hu] at hval
      obtain ⟨cs, rfl, _⟩ := hval
      exact ⟨l, cs, rfl, rfl⟩
    · cases hs
theorem read_args {sp : Nat → Bool} {base : Nat} : ∀ {shs : List Sh} {ts : List TypeId} {vs : List Value} {ds : List (DataW H)} {p : List MemPlace} {μ : Mu} {h : AHeap}, shsOk P shs ts = true → DataW.TrodAll enc P W 0 sp true ts vs ds p →
    (∀ (j : Nat) t v, ts[j]? = some t → vs[j]? = some v → Value.okWide P W .any base t v) → Rel Λ μ h W → AllRo h →
    ∃ μ' h' avs, Rd Λ W μ h μ' h' ∧ VRL μ' avs vs ∧ ArgsA h' shs avs
  | [], [], vs, ds, p, μ, h, _, ht, _, hr, ho => by
    obtain ⟨rfl, rfl, rfl⟩ := trodAll_nil ht
    exact ⟨μ, h, [], Rd.refl hr ho, by simp [VRL], trivial⟩
  | s :: ss, t :: ts, vs, ds, p, μ, h, hs, ht, hv, hr, ho => by
    simp only [shsOk, Bool.and_eq_true] at hs
    obtain ⟨⟨⟨hs1, _⟩, _⟩, hs2⟩ := hs
    obtain ⟨v, vs', d, ds', p1, q1, rfl, rfl, rfl, ⟨fuel, h1⟩, h2⟩ := trodAll_cons ht
    obtain ⟨μ1, hh1, as, r1, v1, o1, a1⟩ := read_sh s t _ fuel _ μ h hs1 h1 hr ho
    obtain ⟨μ2, hh2, avs, r2, v2, a2⟩ := read_args hs2 h2 (fun j t' v' e1 e2 => hv (j + 1) t' v' (by simpa using e1) (by simpa using e2)) r1.rel r1.ro
    have hval := hv 0 t v rfl rfl
    rcases value_of_cells hs1 hval h1 with ⟨l, cs, rfl, rfl⟩ | ⟨hne, hcells⟩
    · refine ⟨μ2, hh2, .agg as :: avs, r1.trans r2, ?_, ?_⟩
      · simp only [VRL, VR]
        refine ⟨_, _, rfl, ⟨cs.toList, VRL.extend r2.ext v1, o1, by simp⟩, v2⟩
      · refine ⟨⟨as, rfl, ?_⟩, a2⟩
        simp only [AD] at a1
        exact ADs.mono r2.old l as a1
    · rw [hcells] at v1
      obtain ⟨a, rfl, hva⟩ : ∃ a, as = [a] ∧ VR μ1 a v := by
        cases as with
        | nil => simp [VRL] at v1
        | cons a as =>
          simp only [VRL] at v1
          obtain ⟨c, cs, e, hvr, hrest⟩ := v1
          cases e
          cases as with
          | nil => exact ⟨a, rfl, hvr⟩
          | cons b bs => simp [VRL] at hrest
      refine ⟨μ2, hh2, a :: avs, r1.trans r2, ?_, ?_, a2⟩
      · simp only [VRL]
        exact ⟨_, _, rfl, VR.ext r2.ext _ _ hva, v2⟩
      · have := AD.mono r2.old s _ a1
        cases s with
        | fields l => exact absurd rfl (hne l)
        | _ => exact this
  | [], _ :: _, _, _, _, _, _, hs, _, _, _, _ => by simp [shsOk] at hs
  | _ :: _, [], _, _, _, _, _, hs, _, _, _, _ => by simp [shsOk] at hs
theorem args_again (hl : laidOutB P = true) {W' : World} (hb : Below W.heap.size W W') (sp : Nat → Bool) : ∀ {shs : List Sh} {ts : List TypeId} {vs : List Value} {ds : List (DataW H)} {p : List MemPlace}, shsOk P shs ts = true → DataW.TrodAll enc P W 0 (fun _ => true) true ts vs ds p →
    (∀ x ∈ p, x.block < W.heap.size) → (∀ x ∈ p, sp x.block = true) → DataW.TrodAll enc P W' 0 sp true ts vs ds p
  | [], [], vs, ds, p, _, ht, _, _ => by
    obtain ⟨rfl, rfl, rfl⟩ := trodAll_nil ht
    exact rfl
  | s :: ss, t :: ts, vs, ds, p, hs, ht, hlt, hsp => by
    simp only [shsOk, Bool.and_eq_true, decide_eq_true_eq] at hs
    obtain ⟨⟨⟨_, hs1⟩, hs3⟩, hs2⟩ := hs
    obtain ⟨v, vs', d, ds', p1, q1, rfl, rfl, rfl, h1, h2⟩ := trodAll_cons ht
    exact ⟨p1, q1, WideElems.Trod_stays hl hs1 hs3 h1 (fun x hx => hb.same (hlt x (by simp [hx]))) (fun x hx => hsp x (by simp [hx])),
      args_again hl hb sp hs2 h2 (fun x hx => hlt x (by simp [hx])) (fun x hx => hsp x (by simp [hx])), rfl⟩
  | [], _ :: _, _, _, _, hs, _, _, _ => by simp [shsOk] at hs
  | _ :: _, [], _, _, _, hs, _, _, _ => by simp [shsOk] at hs
theorem Step.below {μ μ' : Mu} {h h' : AHeap} {w w' : World} (s : Step μ h w μ' h' w') (ho : AllRo h) : Below w.heap.size w w' :=
  ⟨s.os, s.tape, s.output, s.size, fun k hk => s.frame k hk fun id o _ hg hrw _ _ => by rw [ho id o hg] at hrw; cases hrw⟩
theorem rel_empty (W : World) : Rel Λ (fun _ => none) ⟨0, .leaf⟩ W :=
  ⟨fun id o h => by simp [AHeap.get, Tr.get] at h, fun i j oi oj li lj h => by simp [AHeap.get, Tr.get] at h, fun id l h => (by cases h)⟩
theorem ro_empty : AllRo ⟨0, .leaf⟩ := fun id o h => by simp [AHeap.get, Tr.get] at h
theorem law_contract {fn : Func} {f : FuncId} {s : ChangeSpec} {apart fresh handsOn again : Bool} {F : FSpec} {shs : List Sh} {tb : TypeId} (hl : laidOutB P = true) (hsh : shsOk P shs fn.params.toList = true)
    (hres : fn.resultTypes = #[tb]) (htb : P.underlying tb = some .bool) (hvars : s.vars = []) (hspec : ∀ ds : List (DataW H), ds.length = shs.length → s.fn H ds = { results := [.lit (.bool true)], args := ds })
    (hs : FSound P Λ f F) (hF : ∀ avs h, (∀ id o, h.get id = some o → id < h.next) → AllRo h → ArgsA h shs avs → F avs h fun v _ => v = .bool true)
    (base : Nat) (args : Array Value) (ds gs : List (DataW H)) (before : List MemPlace)
    (hval : ∀ (j : Nat) t v, fn.params[j]? = some t → args[j]? = some v → Value.okWide P W .any base t v)
    (hW : DataW.Whole enc P fn.params.toList s.vars apart W args.toList ds gs before) :
    Calls P f args W fun e W' => ∃ v, e = .returned v ∧ s.post enc P fn apart fresh handsOn again W args v W' := by
  have hW0 := hW
  obtain ⟨p, q, hA, hV, rfl, hfz, hnd⟩ := hW
  rw [hvars] at hV
  obtain ⟨rfl, rfl⟩ := trodVars_none hV
  have hlt := hW0.lt
  simp only [List.append_nil] at *
  have hlen : ∀ {shs : List Sh} {ts : List TypeId} {vs : List Value} {ds : List (DataW H)} {p : List MemPlace}, shsOk P shs ts = true → DataW.TrodAll enc P W 0 (fun _ => true) true ts vs ds p → ds.length = shs.length := by
    intro shs
    induction shs with
    | nil =>
      intro ts vs ds p hs ht
      cases ts with
      | nil => obtain ⟨rfl, rfl, rfl⟩ := trodAll_nil ht; rfl
      | cons => simp [shsOk] at hs
    | cons s ss ih =>
      intro ts vs ds p hs ht
      cases ts with
      | nil => simp [shsOk] at hs
      | cons t ts =>
        simp only [shsOk, Bool.and_eq_true] at hs
        obtain ⟨v, vs', d, ds', p1, q1, rfl, rfl, rfl, _, h2⟩ := trodAll_cons ht
        simp [ih hs.2 h2]
  obtain ⟨μ, h, avs, rd, hvr, hargs⟩ := read_args hsh hA (fun j t v h1 h2 => hval j t v (by simpa using h1) (by simpa using h2)) (rel_empty (Λ := Λ) W) ro_empty
  have hF' := hF avs h (fun id o hg => rd.rel.lt hg) rd.ro hargs
  have hcalls := hs.calls hF' rd.rel hvr
  simp only [Array.toArray_toList] at hcalls
  refine hcalls.mono fun e W' ⟨μ', cv, r, h', hrb, he, hcv, hrel, hstep⟩ => ⟨cv, he, ?_⟩
  subst hrb
  have hb := hstep.below rd.ro
  simp only [VR] at hcv
  subst hcv
  have hsp := hspec ds (hlen hsh hA)
  have hres1 : ∀ (b : Nat) (sp : Nat → Bool) (hd : Bool), DataW.TrodAll enc P W' b sp hd fn.resultTypes.toList ((Value.bool true).resultList fn.resultTypes.size) (s.fn H ds).results [] := by
    intro b sp hd
    rw [hres, hsp]
    exact trodAll_mk1 (shut_bool htb true)
  have hargs1 : ∀ sp : Nat → Bool, (∀ x ∈ p, sp x.block = true) → DataW.TrodAll enc P W' 0 sp true fn.params.toList args.toList (s.fn H ds).args p := by
    intro sp hp
    rw [hsp]
    exact args_again hl hb sp hsh hA hlt hp
  have hv1 : ∀ sp : Nat → Bool, DataW.TrodVars enc P W' sp s.vars (s.fn H ds).vars [] := by
    intro sp
    rw [hvars, hsp]
    exact rfl
  refine ⟨ds, [], p, [], p, [], hW0, ?_, ?_, ?_, ?_, fun _ => ?_⟩
  · rw [List.append_nil]; exact hres1 _ _ _
  · rw [List.append_nil]; exact hargs1 _ fun x hx => by simpa using hlt x hx
  · rw [List.append_nil]; exact hv1 _
  · exact World.keptBut_mono (fun x hx => ⟨hx, .inr (.inl hx)⟩) (hb.frame _)
  · refine ⟨ok_one hres rfl (okWide_bool_mk htb true), [.lit (.bool true)] ++ ds, [], [] ++ p, ⟨[] ++ p, [], ?_, ?_, by simp, ?_, ?_⟩, ?_⟩
    · have h1 := hres1 0 (fun _ => true) true
      have h2 := hargs1 (fun _ => true) (fun _ _ => rfl)
      rw [hsp] at h1 h2
      exact trodAll_append h2 h1
    · have := hv1 fun _ => true
      rw [hsp] at this
      exact this
    · intro b off hx
      rw [List.nil_append] at hx
      have := hlt _ hx
      rw [hb.frozen (p := ⟨b, off, none⟩) this]
      exact hfz b off hx
    · intro ha; simpa using hnd ha
    · intro x hx _
      simpa using hx
end
end Go.Proofs.YtlkfclgkinaibaaGreat
