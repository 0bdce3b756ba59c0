/- Soundness of code: steps of the machine. -/
import Derived.Test.YtjdemlagmamlbaaM15
namespace Go.Proofs.Ytjdemlagmamlbaa
variable {Λ : Lam}

/-- a frame of whatever make, at a place -/
def Fat (b : Frame) (a : Act) (todo : List Item) : Frame := { b with tmps := a.tmps, todo := todo, defers := a.defers, mode := .run }

section moves
variable {P : Program} {b : Frame} {a : Act} {k : List Item} {cs : List Frame} {w : World}

theorem st_skip : step P (lone (Fat b a (.code .skip :: k)) cs w) = .next (lone (Fat b a k) cs w) :=
  step_lone_go (by simp [stepG, stepG.exec, Fat])
theorem st_inBlock {id : Nat} : step P (lone (Fat b a (.inBlock id :: k)) cs w) = .next (lone (Fat b a k) cs w) :=
  step_lone_go (by simp [stepG, stepG.exec, Fat])
theorem st_seq {x y : Code} : step P (lone (Fat b a (.code (.seq x y) :: k)) cs w) = .next (lone (Fat b a (.code x :: .code y :: k)) cs w) :=
  step_lone_go (by simp [stepG, stepG.exec, Fat])
theorem Fat_eval (b : Frame) (a : Act) (todo : List Item) : (Fat b a todo).eval = a.eval := by
  funext x; cases x <;> rfl
theorem st_cond {c : Operand} {x y : Code} {t : Bool} (h : a.eval c = .bool t) :
    step P (lone (Fat b a (.code (.cond c x y) :: k)) cs w) = .next (lone (Fat b a (.code (if t then x else y) :: k)) cs w) :=
  step_lone_go (by
    have := congrFun (Fat_eval b a (.code (.cond c x y) :: k)) c
    simp only [Fat] at *
    simp [stepG, stepG.exec, this, h])
theorem st_block {id : Nat} {c : Code} : step P (lone (Fat b a (.code (.block id c) :: k)) cs w) = .next (lone (Fat b a (.code c :: .inBlock id :: k)) cs w) :=
  step_lone_go (by simp [stepG, stepG.exec, Fat])
theorem st_loop {c : Code} : step P (lone (Fat b a (.code (.loop c) :: k)) cs w) = .next (lone (Fat b a (.code c :: .inLoop c :: k)) cs w) :=
  step_lone_go (by simp [stepG, stepG.exec, Fat])
theorem st_inLoop {c : Code} : step P (lone (Fat b a (.inLoop c :: k)) cs w) = .next (lone (Fat b a (.code c :: .inLoop c :: k)) cs w) :=
  step_lone_go (by simp [stepG, stepG.exec, Fat])
theorem st_exit {id : Nat} {k' : List Item} (h : exitTo id k = some k') : step P (lone (Fat b a (.code (.exit id) :: k)) cs w) = .next (lone (Fat b a k') cs w) :=
  step_lone_go (by simp [stepG, stepG.exec, Fat, h])
theorem st_region {id : Nat} {ops : Array Oper} : step P (lone (Fat b a (.code (.region id ops false) :: k)) cs w) = .next (lone (Fat b a (.inRegion ops (List.range ops.size) :: k)) cs w) :=
  step_lone_go (by simp [stepG, stepG.exec, Fat])
theorem st_region_draw {id : Nat} {ops : Array Oper} : step P (lone (Fat b a (.code (.region id ops true) :: k)) cs w) =
      .next (lone (Fat b a (.inRegion ops (Region.schedule (P.follows .mixedOrders) ops (w.tape w.drawn (.order b.fn id))) :: k)) cs { w with drawn := w.drawn + 1 }) :=
  step_lone_go (by simp [stepG, stepG.exec, Fat, choose, Sem.run, Question.forced, Question.cut])
theorem st_region_end {ops : Array Oper} : step P (lone (Fat b a (.inRegion ops [] :: k)) cs w) = .next (lone (Fat b a k) cs w) :=
  step_lone_go (by simp [stepG, stepG.exec, Fat])
theorem Fat_finish (a : Act) (ops : Array Oper) (i : Nat) (rest : List Nat) (v : Value) :
    (Fat b a (.inRegion ops (i :: rest) :: k)).finish v = Fat b (a.put ((ops[i]?).bind (·.dst)) v) (.inRegion ops rest :: k) := by
  cases h : (ops[i]?).bind (·.dst) <;> simp [Frame.finish, Fat, Act.put, h]
theorem st_op_skip {ops : Array Oper} {i : Nat} {rest : List Nat} (h : ((ops[i]?).map (Region.wanted · (yielded ops a.tmps))).getD false = false) :
    step P (lone (Fat b a (.inRegion ops (i :: rest) :: k)) cs w) = .next (lone (Fat b (a.put ((ops[i]?).bind (·.dst)) undef) (.inRegion ops rest :: k)) cs w) := by
  rw [← Fat_finish]
  exact step_lone_go (by
    have h' := h
    simp only [Fat] at *
    simp [stepG, stepG.exec, h'])

/-- an operation that is no defer: its step -/
theorem stG_op {ops : Array Oper} {i : Nat} {rest : List Nat} {o : Oper} (ho : ops[i]? = some o) (hw : Region.wanted o (yielded ops a.tmps) = true) (hd : ∀ c, o.op ≠ .defer c) :
    stepG P true { frame := Fat b a (.inRegion ops (i :: rest) :: k), callers := cs, status := .running, dying := none } w =
      stepG.apply P true (Fat b a (.inRegion ops (i :: rest) :: k)) cs none (execOp a.eval o) w := by
  have he := Fat_eval b a (.inRegion ops (i :: rest) :: k)
  simp only [Fat] at he
  cases hop : o.op with
  | defer c => exact absurd hop (hd c)
  | _ => cases hr : b.roundOf <;> rw [hr] at he <;> simp [stepG, stepG.exec, stepG.oper, Frame.oper?, Fat, ho, hw, he, hr, hop]

theorem st_op_value {ops : Array Oper} {i : Nat} {rest : List Nat} {o : Oper} {v : Value} {w' : World} (ho : ops[i]? = some o) (hw : Region.wanted o (yielded ops a.tmps) = true) (hd : ∀ c, o.op ≠ .defer c)
    (hr : (execOp a.eval o).run P w = .ok (.value v) w' ∨ (v = undef ∧ (execOp a.eval o).run P w = .ok .skip w')) :
    step P (lone (Fat b a (.inRegion ops (i :: rest) :: k)) cs w) = .next (lone (Fat b (a.put o.dst v) (.inRegion ops rest :: k)) cs w') := by
  have hfin : (Fat b a (.inRegion ops (i :: rest) :: k)).finish v = Fat b (a.put o.dst v) (.inRegion ops rest :: k) := by rw [Fat_finish, ho]; rfl
  refine step_lone_go ?_
  rw [stG_op ho hw hd, ← hfin]
  rcases hr with hr | ⟨rfl, hr⟩ <;> simp [stepG.apply, hr]

theorem st_op_enter {ops : Array Oper} {i : Nat} {rest : List Nat} {o : Oper} {f : FuncId} {args : Array Value} {w' : World} (ho : ops[i]? = some o) (hw : Region.wanted o (yielded ops a.tmps) = true) (hd : ∀ c, o.op ≠ .defer c)
    (hr : (execOp a.eval o).run P w = .ok (.enter f args) w') :
    step P (lone (Fat b a (.inRegion ops (i :: rest) :: k)) cs w) = .next (lone (Frame.enter P f args .normal) (Fat b a (.inRegion ops (i :: rest) :: k) :: cs) w') := by
  refine step_lone_go ?_
  rw [stG_op ho hw hd]
  simp [stepG.apply, hr, Fat]

theorem st_op_round {ops : Array Oper} {i : Nat} {rest : List Nat} {o : Oper} {l : Nat} {f : FuncId} {tmps : Array Value} {x y : Code} {w' : World} (ho : ops[i]? = some o) (hw : Region.wanted o (yielded ops a.tmps) = true) (hd : ∀ c, o.op ≠ .defer c)
    (hr : (execOp a.eval o).run P w = .ok (.round l f tmps x y) w') :
    step P (lone (Fat b a (.inRegion ops (i :: rest) :: k)) cs w) = .next (lone (Frame.round l f tmps x y .normal) (Fat b a (.inRegion ops (i :: rest) :: k) :: cs) w') := by
  refine step_lone_go ?_
  rw [stG_op ho hw hd]
  simp [stepG.apply, hr, Fat]

end moves

theorem EnvR.set {μ : Mu} {e : List AV} {t : Array Value} {v : AV} {c : Value} (h : EnvR μ e t) (hv : VR μ v c) (i : Nat) : EnvR μ (e.set i v) (t.setIfInBounds i c) := by
  refine ⟨by simpa using h.1, fun j x hx => ?_⟩
  rw [List.getElem?_set] at hx
  by_cases hij : i = j
  · subst hij
    rw [if_pos rfl] at hx
    split at hx
    · rename_i hlt
      simp only [Option.bind_some] at hx
      have := notJunk_some hx
      subst this
      exact ⟨c, by simp [Array.getElem?_setIfInBounds]; have := h.1; omega, hv⟩
    · cases hx
  · rw [if_neg hij] at hx
    obtain ⟨d, p, q⟩ := h.2 j x hx
    exact ⟨d, by rw [Array.getElem?_setIfInBounds, if_neg hij]; exact p, q⟩

theorem EnvR.put {μ : Mu} {e : List AV} {a : Act} {v : AV} {c : Value} (h : EnvR μ e a.tmps) (hv : VR μ v c) (d : Option Nat) : EnvR μ (setDst e d v) (a.put d c).tmps := by
  cases d with
  | none => exact h
  | some i => exact h.set hv i

theorem opd_ok {μ : Mu} {e : List AV} {a : Act} {x : Operand} {o : Opd} {v : AV} (h : EnvR μ e a.tmps) (ht : trOpd x = some o) (hv : o.eval e = some v) : VR μ v (a.eval x) := by
  cases x with
  | tmp t =>
    simp only [trOpd] at ht; cases ht
    obtain ⟨c, p, q⟩ := h.2 t v hv
    have : a.eval (.tmp t) = c := by simp [Act.eval, Array.getD_eq_getD_getElem?, p]
    rw [this]; exact q
  | const c =>
    simp only [trOpd] at ht
    cases hr : reif c with
    | none => rw [hr] at ht; cases ht
    | some av => rw [hr] at ht; cases ht; simp only [Opd.eval] at hv; cases hv; exact reif_ok hr
  | global g => cases ht
  | func f =>
    simp only [trOpd] at ht; cases ht
    simp only [Opd.eval] at hv; cases hv
    simp only [VR, VRL, Act.eval]
    exact ⟨[], [], rfl, rfl, rfl⟩

theorem opds_ok {μ : Mu} {e : List AV} {a : Act} (h : EnvR μ e a.tmps) : ∀ {xs : List Operand} {os : List Opd} {vs : List AV}, trOpds xs = some os → evalL e os = some vs → VRL μ vs (xs.map a.eval)
  | [], os, vs, ht, hv => by simp only [trOpds] at ht; cases ht; simp only [evalL] at hv; cases hv; simp [VRL]
  | x :: xs, os, vs, ht, hv => by
    simp only [trOpds] at ht
    split at ht
    · rename_i o os' h1 h2
      cases ht
      simp only [evalL] at hv
      split at hv
      · rename_i v vs' h3 h4
        cases hv
        simp only [List.map_cons, VRL]
        exact ⟨_, _, rfl, opd_ok h h1 h3, opds_ok h h2 h4⟩
      · cases hv
    · cases ht

/-- what is known of a function's abstract meaning -/
def FSound (P : Program) (Λ : Lam) (f : FuncId) (F : List AV → AHeap → (AV → AHeap → Prop) → Prop) : Prop :=
  ∀ (args : List AV) (h : AHeap) (Q : AV → AHeap → Prop) (μ : Mu) (w : World) (cargs : List Value), F args h Q → Rel Λ μ h w → VRL μ args cargs →
    ∀ cs, ∃ r h' fr w' μ' cv, Q r h' ∧ Steps P (lone (Frame.enter P f cargs.toArray .normal) cs w) (lone fr cs w') ∧ fr.fn = f ∧ fr.leaving P w' (.returned cv) ∧ VR μ' r cv ∧ Rel Λ μ' h' w' ∧ Step μ h w μ' h' w'

/-- a call of the function enters it -/
def Enters (P : Program) (f : FuncId) : Prop := ∀ (args : Array Value) (w : World), (callFunc f args).run P w = .ok (.enter f args) w

/-- what is known of a round of a loop -/
def YSound (P : Program) (Λ : Lam) (l : Nat) (F : List AV → AHeap → (AV → AHeap → Prop) → Prop) : Prop :=
  ∀ (args : List AV) (h : AHeap) (Q : AV → AHeap → Prop) (μ : Mu) (w : World) (cargs : List Value), F args h Q → Rel Λ μ h w → VRL μ args cargs →
    ∃ (lc : Loc) (r : Go.Loop), μ l = some lc ∧ w.heap[lc.block]? = some (.loop r) ∧ cargs.length = r.params.size ∧
      ∀ c cs, ∃ rv h' w' μ' cv, Q rv h' ∧ Steps P (lone (Frame.round lc.block r.fn ((r.params.zip cargs.toArray).foldl (fun tmps (t, a) => tmps.setIfInBounds t a) r.tmps) r.assign r.body .normal) (c :: cs) w) (lone (c.finish cv) cs w') ∧
        VR μ' rv cv ∧ Rel Λ μ' h' w' ∧ Step μ h w μ' h' w'

structure CSound (P : Program) (Λ : Lam) (C : SemW) : Prop where
  ent : ∀ f args h Q, C (.f f) args h Q → Enters P f
  fn : ∀ f, FSound P Λ f (C (.f f))
  rnd : ∀ l, YSound P Λ l (C (.y l))

/-- how a piece of code ends -/
def Arr (P : Program) (m : Machine) (b : Frame) (k : List Item) (cs : List Frame) (x : AExit) (a : Act) (w : World) : Prop :=
  match x with
  | .normal => Steps P m (lone (Fat b a k) cs w)
  | .exit id => ∃ k0, Steps P m (lone (Fat b a (.code (.exit id) :: k0)) cs w) ∧ exitTo id k0 = exitTo id k
  | .ret => ∃ k0, Steps P m (lone (Fat b a (.code .ret :: k0)) cs w)

theorem Arr.of_steps {P m m' b k cs x a w} (h : Steps P m m') (h' : Arr P m' b k cs x a w) : Arr P m b k cs x a w := by
  cases x with
  | normal => exact h.trans h'
  | exit id => obtain ⟨k0, s, e⟩ := h'; exact ⟨k0, h.trans s, e⟩
  | ret => obtain ⟨k0, s⟩ := h'; exact ⟨k0, h.trans s⟩

theorem wanted_ok {μ : Mu} {e : List AV} {a : Act} {ops : Array Oper} {o : Oper} {i : AIn} {P : Program} (h : EnvR μ e a.tmps) (ht : trIn P ops o = some i) {q : Bool} (hw : wantedA e i.guard = some q) : Region.wanted o (yielded ops a.tmps) = q := by
  unfold trIn at ht
  split at ht
  · split at ht
    · rename_i hg
      cases ht
      simp only [wantedA] at hw; cases hw
      simp [Region.wanted, hg]
    · rename_i j want hg
      split at ht
      · rename_i d hd
        cases ht
        simp only [wantedA] at hw
        have key : ∀ v, e[d]? = some v → v.notJunk = some v → ∃ c, a.tmps[d]? = some c ∧ VR μ v c := fun v h1 h2 => h.2 d v (by rw [h1]; exact h2)
        split at hw
        · rename_i bv hb
          cases hw
          obtain ⟨c, p, q⟩ := key _ hb rfl
          have := VR.bool q
          subst this
          simp only [Region.wanted, hg, yielded, hd, Option.bind_some, p]
          cases bv <;> cases want <;> rfl
        · rename_i vs hb
          cases hw
          obtain ⟨c, p, q⟩ := key _ hb rfl
          simp only [VR] at q; obtain ⟨l, _, rfl⟩ := q
          simp [Region.wanted, hg, yielded, hd, p]
        · cases hw
      · cases ht
  · cases ht

end Go.Proofs.Ytjdemlagmamlbaa
