/- A loop over a function: the machine's steps; marks among the deferred calls. -/
import Derived.Test.YtjdemlagmamlbaaM17e
namespace Go.Proofs.Ytjdemlagmamlbaa
variable {Λ : Lam}

section
variable {P : Program} {w : World}

/-- a block of the heap is another object -/
def pobj (w : World) (r : Nat) (o : Obj) : World := { w with heap := w.heap.setIfInBounds r o }

theorem pobj_same {r : Nat} {o : Obj} (h : r < w.heap.size) : (pobj w r o).heap[r]? = some o := by simp [pobj, h]
theorem pobj_other {r k : Nat} {o : Obj} (h : k ≠ r) : (pobj w r o).heap[k]? = w.heap[k]? := by
  simp [pobj, Array.getElem?_setIfInBounds_ne (Ne.symm h)]
theorem pobj_size {r : Nat} {o : Obj} : (pobj w r o).heap.size = w.heap.size := by simp [pobj]

theorem rn_getLoop {l : Nat} {r : Go.Loop} (h : w.heap[l]? = some (.loop r)) : (Instr.getLoop l).run P w = .ok r w := by
  simp [Instr.getLoop, Sem.run_bind, getObj, Sem.run, h]
theorem rn_setLoop {l : Nat} {r : Go.Loop} (o : Obj) (h : w.heap[l]? = some (.loop r)) : (setObj l o).run P w = .ok () (pobj w l o) := by simp [setObj, Sem.run, h, pobj]
theorem rn_begin {l : Nat} {r : Go.Loop} (h : w.heap[l]? = some (.loop r)) (hr : r.state = .ready) : (Instr.beginRound l).run P w = .ok () (pobj w l (.loop { r with state := .busy })) := by
  simp [Instr.beginRound, Sem.run_bind, rn_getLoop h, rn_setLoop _ h, hr]
theorem rn_endRound {l : Nat} {r : Go.Loop} (jump : Option Code) (h : w.heap[l]? = some (.loop r)) :
    (Instr.endRound l jump).run P w = .ok (.bool jump.isNone) (pobj w l (.loop { r with state := if jump.isNone then .ready else .done, pending := jump })) := by
  simp [Instr.endRound, Sem.run_bind, rn_getLoop h, rn_setLoop _ h]
theorem rn_endLoop {l : Nat} {r : Go.Loop} (h : w.heap[l]? = some (.loop r)) (hb : r.state ≠ .busy) : (Instr.endLoop l).run P w = .ok r.pending (pobj w l (.loop { r with state := .exhausted })) := by
  simp [Instr.endLoop, Sem.run_bind, rn_getLoop h, rn_setLoop _ h, hb]
theorem rn_take {b : Nat} {ds : List Deferred} (h : w.heap[b]? = some (.deferred (some ds))) : (Instr.takeDeferred b).run P w = .ok ds (pobj w b (.deferred none)) := by
  simp [Instr.takeDeferred, Sem.run_bind, getObj, setObj, Sem.run, h, pobj]
def mark (D : Nat) : Deferred := { target := .collected D, args := #[] }

/-- a block more -/
def wpush (w : World) (o : Obj) : World := { w with heap := w.heap.push o }

theorem rn_enter_outer (fn : FuncId) (tmps : Array Value) (ps : Array Tmp) (x y : Code) :
    (Instr.enterLoop fn tmps ps x y none).run P w = .ok (w.heap.size + 1, [mark w.heap.size])
      (wpush (wpush w (.deferred (some []))) (.loop { state := .ready, pending := none, fn, tmps, params := ps, assign := x, body := y, defers := w.heap.size })) := by
  simp [Instr.enterLoop, Sem.run_bind, newObj, Sem.run, wpush, mark]
  rfl
theorem rn_enter_inner {l₀ : Nat} {r₀ : Go.Loop} (h : w.heap[l₀]? = some (.loop r₀)) (fn : FuncId) (tmps : Array Value) (ps : Array Tmp) (x y : Code) :
    (Instr.enterLoop fn tmps ps x y (some l₀)).run P w = .ok (w.heap.size, [])
      (wpush w (.loop { state := .ready, pending := none, fn, tmps, params := ps, assign := x, body := y, defers := r₀.defers })) := by
  simp [Instr.enterLoop, Sem.run_bind, rn_getLoop h, newObj, Sem.run, wpush]

variable {b : Frame} {a : Act} {k : List Item} {cs : List Frame}

theorem st_begin {l : Nat} {w' : World} (hb : b.roundOf = some l) (hr : (Instr.beginRound l).run P w = .ok () w') :
    step P (lone (Fat b a (.beginRound :: k)) cs w) = .next (lone (Fat b a k) cs w') :=
  step_lone_go (by simp [stepG, stepG.exec, stepG.apply, Fat, hb, Sem.runT_eq, hr, Result.andThen, Frame.finish])
theorem st_round_end {l : Nat} {v : Value} {w' : World} {c : Frame} (hb : b.roundOf = some l) (hk : b.kind = .normal) (hr : (Instr.endRound l none).run P w = .ok v w') :
    step P (lone (Fat b a []) (c :: cs) w) = .next (lone (c.finish v) cs w') :=
  step_lone_go (by simp [stepG, stepG.exec, Fat, hb, hk, Sem.runT_eq, hr, doReturn])
theorem st_round_ret {l : Nat} {v : Value} {w' : World} {c : Frame} (hb : b.roundOf = some l) (hk : b.kind = .normal) (hr : (Instr.endRound l (some .ret)).run P w = .ok v w') :
    step P (lone (Fat b a (.code .ret :: k)) (c :: cs) w) = .next (lone (c.finish v) cs w') :=
  step_lone_go (by simp [stepG, stepG.exec, Fat, hb, hk, Sem.runT_eq, hr, doReturn])
theorem st_round_exit {l id : Nat} {v : Value} {w' : World} {c : Frame} (hb : b.roundOf = some l) (hk : b.kind = .normal) (hx : exitTo id k = none) (hr : (Instr.endRound l (some (.exit id))).run P w = .ok v w') :
    step P (lone (Fat b a (.code (.exit id) :: k)) (c :: cs) w) = .next (lone (c.finish v) cs w') :=
  step_lone_go (by simp [stepG, stepG.exec, Fat, hb, hk, hx, Sem.runT_eq, hr, doReturn])
theorem st_endRange {l : Nat} {jump : Option Code} {w' : World} (h : (Instr.endLoop l).run P w = .ok jump w') :
    step P (lone (Fat b a (.endRangeFunc l :: k)) cs w) = .next (lone (Fat b a ((jump.map Item.code).toList ++ k)) cs w') :=
  step_lone_go (by simp [stepG, stepG.exec, Fat, Sem.runT_eq, h, GStep.bare_after])
theorem fin_inRange (l : Nat) (v : Value) : (Fat b a (.inRangeFunc l :: k)).finish v = Fat b a (.endRangeFunc l :: k) := by simp [Frame.finish, Fat]
theorem st_range {g : Operand} {ps : Array Tmp} {x y : Code} {l : Nat} {mk : List Deferred} {w₁ w₂ : World} {d : Deferred} {f : FuncId} {args : Array Value}
    (he : (Instr.enterLoop b.fn a.tmps ps x y b.roundOf).run P w = .ok (l, mk) w₁)
    (hres : (resolve a.eval { callee := .value g, args := #[.const (.func (.yield l) #[] #[])], argTypes := #[] } 0).run P w₁ = .ok d w₁) (hinv : (invoke d.target d.args).run P w₁ = .ok (.enter f args) w₂) :
    step P (lone (Fat b a (.code (.rangeFunc g ps x y) :: k)) cs w) =
      .next (lone (Frame.enter P f args .normal) (Fat b { a with defers := mk ++ a.defers } (.inRangeFunc l :: k) :: cs) w₂) :=
  step_lone_go (by
    have hev := Fat_eval b { a with defers := mk ++ a.defers } (.inRangeFunc l :: k)
    simp only [Fat] at hev
    have hres' : Sem.run P (resolve ({ tmps := a.tmps, defers := mk ++ a.defers } : Act).eval { callee := .value g, args := #[.const (.func (.yield l) #[] #[])], argTypes := #[] } 0) w₁ = .ok d w₁ := hres
    simp [stepG, stepG.exec, Fat, Sem.runT_eq, he, GStep.bare_after, stepG.apply, hev, Sem.run_bind, hres', hinv, Result.andThen])

/-- a mark among the deferred calls of a frame that returns -/
theorem st_mark {fr : Frame} {D : Nat} {ds : List Deferred} (hm : fr.mode = .returning) (hd : fr.defers = mark D :: ds) (h : w.heap[D]? = some (.deferred (some []))) :
    step P (lone fr cs w) = .next (lone { fr with defers := ds } cs (pobj w D (.deferred none))) :=
  step_lone_go (by simp [stepG, unwind, hm, hd, mark, Sem.runT_eq, rn_take h, GStep.bare_after])

end

/-- the marks among a frame's deferred calls -/
def Marks (B : Nat) (ds : List Deferred) (w : World) : Prop := ∃ Ds : List Nat, ds = Ds.map mark ∧ Ds.Nodup ∧ ∀ D, D ∈ Ds → B ≤ D ∧ w.heap[D]? = some (.deferred (some []))

theorem Marks.nil (B : Nat) (w : World) : Marks B [] w := ⟨[], rfl, List.nodup_nil, fun _ h => by cases h⟩

theorem Rel.noMark {μ : Mu} {h : AHeap} {w : World} (r : Rel Λ μ h w) {D : Nat} {x : Option (List Deferred)} (hD : w.heap[D]? = some (.deferred x)) : ∀ id o l, h.get id = some o → μ id = some l → l.block ≠ D := by
  intro id o l ho hl e
  obtain ⟨l', hl', hob⟩ := r.obj id o ho
  obtain rfl : l = l' := Option.some.inj (hl.symm.trans hl')
  rw [← e] at hD
  cases o with
  | row el es s ro d => obtain ⟨c, fr, p, _⟩ := hob; rw [hD] at p; cases p
  | map es c => obtain ⟨cs, p, _⟩ := hob; rw [hD] at p; cases p
  | iter m a b c => obtain ⟨_, r0, p, _⟩ := hob; rw [hD] at p; cases p
  | loop st j t ps a b => obtain ⟨r0, p, _⟩ := hob; rw [hD] at p; cases p

theorem Marks.step {B : Nat} {ds : List Deferred} {μ μ' : Mu} {h h' : AHeap} {w w' : World} (m : Marks B ds w) (r : Rel Λ μ h w) (s : Step μ h w μ' h' w') : Marks B ds w' := by
  obtain ⟨Ds, h1, h2, h3⟩ := m
  refine ⟨Ds, h1, h2, fun D hD => ?_⟩
  obtain ⟨hb, hd⟩ := h3 D hD
  rw [s.frame D (Array.getElem?_eq_some_iff.1 hd).1 fun id o l ho _ hl => r.noMark hd id o l ho hl]
  exact ⟨hb, hd⟩

/-- a block that nobody knows is another object -/
theorem Rel.pobj {μ : Mu} {h : AHeap} {w : World} (r : Rel Λ μ h w) {D : Nat} (o : Obj) (hD : ∀ id x l, h.get id = some x → μ id = some l → l.block ≠ D) : Rel Λ μ h (Ytjdemlagmamlbaa.pobj w D o) :=
  ⟨fun id x e => by
    obtain ⟨l, hl, hob⟩ := r.obj id x e
    exact ⟨l, hl, ObjR.ext (Ext.refl μ) hob (pobj_other (hD id x l e hl))⟩, r.inj, fun id l e => by
    have := r.dom id l e
    exact ⟨this.1, by rw [pobj_size]; exact this.2⟩⟩

theorem Step.pobj {μ μ' : Mu} {h h' : AHeap} {w w' : World} (s : Step μ h w μ' h' w') {D : Nat} (o : Obj) (hD : w.heap.size ≤ D) : Step μ h w μ' h' (Ytjdemlagmamlbaa.pobj w' D o) :=
  ⟨s.ext, s.next, s.low, s.os, s.tape, s.output, by rw [pobj_size]; exact s.size, fun b hb hf => by rw [pobj_other (by omega)]; exact s.frame b hb hf, s.own⟩

/-- a frame that returns comes to the end of its marks -/
theorem marks_gone {P : Program} {B : Nat} {cs : List Frame} {μ μ' : Mu} {h h' : AHeap} {w : World} (hB : w.heap.size ≤ B) : ∀ (Ds : List Nat) (fr : Frame) (w' : World), fr.mode = .returning → fr.defers = Ds.map mark → Ds.Nodup → (∀ D, D ∈ Ds → B ≤ D ∧ w'.heap[D]? = some (.deferred (some []))) →
    Rel Λ μ' h' w' → Step μ h w μ' h' w' → ∃ w'', Steps P (lone fr cs w') (lone { fr with defers := [] } cs w'') ∧ Rel Λ μ' h' w'' ∧ Step μ h w μ' h' w''
  | [], fr, w', hm, hd, _, _, hr, hs => ⟨w', by
      have : ({ fr with defers := [] } : Frame) = fr := by rw [List.map_nil] at hd; rw [← hd]
      rw [this]; exact Steps.refl _ _, hr, hs⟩
  | D :: Ds, fr, w', hm, hd, hn, hD, hr, hs => by
    obtain ⟨hn1, hn2⟩ := List.nodup_cons.1 hn
    obtain ⟨hb, hh⟩ := hD D (by simp)
    obtain ⟨w'', s, r, t⟩ := marks_gone (P := P) (cs := cs) hB Ds { fr with defers := Ds.map mark } (Ytjdemlagmamlbaa.pobj w' D (.deferred none)) hm rfl hn2
      (fun E hE => by
        obtain ⟨h1, h2⟩ := hD E (by simp [hE])
        exact ⟨h1, by rw [pobj_other (fun e => hn1 (by rw [← e]; exact hE))]; exact h2⟩)
      (hr.pobj _ (hr.noMark hh)) (hs.pobj _ (by omega))
    exact ⟨w'', (Steps.one (st_mark hm hd hh)).trans s, r, t⟩

/-- a new block that nobody knows -/
theorem Rel.wpush {μ : Mu} {h : AHeap} {w : World} (r : Rel Λ μ h w) (o : Obj) : Rel Λ μ h (wpush w o) ∧ Step μ h w μ h (wpush w o) :=
  ⟨⟨fun id x e => by
    obtain ⟨l, hl, hob⟩ := r.obj id x e
    exact ⟨l, hl, ObjR.ext (Ext.refl μ) hob (heap_push_lt (r.dom _ _ hl).2)⟩, r.inj, fun id l e => by
    have := r.dom id l e
    exact ⟨this.1, by simp only [Ytjdemlagmamlbaa.wpush, Array.size_push]; omega⟩⟩,
   ⟨Ext.refl μ, Nat.le_refl _, fun _ _ => rfl, rfl, rfl, rfl, by simp [Ytjdemlagmamlbaa.wpush], fun b hb _ => heap_push_lt hb, fun id o l a b c => .inr ⟨id, o, l, a, b, c, rfl⟩⟩⟩

end Go.Proofs.Ytjdemlagmamlbaa
