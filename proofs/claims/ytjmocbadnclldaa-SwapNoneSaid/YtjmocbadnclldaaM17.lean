/- Soundness of code: regions, loops, functions. -/
import Derived.Test.YtjmocbadnclldaaM16
namespace Go.Proofs.Ytjmocbadnclldaa

section
variable {P : Program} {C : Sem1}

/-- THE END OF A PIECE: how, with which slots, heap and world. -/
def Ends (P : Program) (m : Machine) (b : Frame) (k : List Item) (cs : List Frame) (df : List Deferred) (μ : Mu) (h : AHeap) (w : World) (x : AExit) (e' : List AV) (h' : AHeap) : Prop :=
  ∃ a' w' μ', Arr P m b k cs x a' w' ∧ a'.defers = df ∧ EnvR μ' e' a'.tmps ∧ Rel μ' h' w' ∧ Step μ h w μ' h' w'

theorem trIn_parts {ops : Array Oper} {o : Oper} {i : AIn} (ht : trIn P ops o = some i) : ∃ args, trOpds o.op.operands.toList = some args ∧ i.dst = o.dst ∧ i.op = trOp P o.op ∧ i.args = args := by
  unfold trIn at ht
  split at ht
  · rename_i args ha
    split at ht
    · cases ht; exact ⟨args, ha, rfl, rfl, rfl⟩
    · split at ht
      · cases ht; exact ⟨args, ha, rfl, rfl, rfl⟩
      · cases ht
  · cases ht

theorem trOp_callv {o : Op} (h : trOp P o = .callv) : ∃ c f, o = .call c ∧ c.callee = .value f := by
  cases o with
  | call c =>
    cases hc : c.callee with
    | value f => exact ⟨c, f, rfl, hc⟩
    | invoke _ _ => simp [trOp, hc] at h
    | builtin b =>
      simp only [trOp, hc] at h
      split at h <;> first | cases h | (split at h <;> first | cases h | (split at h <;> first | cases h | (split at h <;> cases h)))
  | binOp op t x y u => cases op <;> simp only [trOp] at h <;> first | cases h | (split at h <;> first | cases h | (split at h <;> cases h))
  | makeFunc fn a b => cases fn <;> simp [trOp] at h
  | makeMap t r => cases r <;> simp [trOp] at h
  | defer c => cases hc : c.callee <;> simp [trOp, hc] at h
  | _ => simp only [trOp] at h <;> first | cases h | (repeat' split at h) <;> cases h

theorem trOp_defer {c : Call} : trOp P (.defer c) = .defer ∨ trOp P (.defer c) = .bad := by
  cases hc : c.callee <;> simp [trOp, hc]

theorem doOp_cases {op : AOp} {args : List AV} {h : AHeap} {r : AV × AHeap} (hd : doOp C op args h = some r) : op = .callv ∨ (op ≠ .callv ∧ aop op args h = some r) := by
  by_cases hc : op = .callv
  · exact .inl hc
  · refine .inr ⟨hc, ?_⟩
    unfold doOp at hd
    split at hd
    · exact absurd rfl hc
    · exact hd

theorem op_step (hC : CSound P C) {ops : Array Oper} {j : Nat} {o : Oper} {vs : List AV} {v : AV} {h h1 : AHeap} {μ : Mu} {w : World} {a : Act} {b : Frame} {rest : List Nat} {k : List Item} (ho : ops[j]? = some o) (hwant : Region.wanted o (yielded ops a.tmps) = true)
    (hvr : VRL μ vs (o.op.operands.toList.map a.eval)) (hdo : doOp C (trOp P o.op) vs h = some (v, h1)) (hr : Rel μ h w) (cs : List Frame) :
    ∃ cv w' μ', Steps P (lone (Fat b a (.inRegion ops (j :: rest) :: k)) cs w) (lone (Fat b (a.put o.dst cv) (.inRegion ops rest :: k)) cs w') ∧ VR μ' v cv ∧ Rel μ' h1 w' ∧ Step μ h w μ' h1 w' := by
  rcases doOp_cases hdo with hcall | ⟨hnc, haop⟩
  · obtain ⟨c, f, hoc, hcal⟩ := trOp_callv hcall
    rw [hcall] at hdo
    simp only [doOp] at hdo
    split at hdo
    · rename_i f0 first captured rest0
      have hopl : o.op.operands.toList.map a.eval = a.eval f :: c.args.toList.map a.eval := by rw [hoc]; simp [Op.operands, Call.operands, hcal]
      rw [hopl] at hvr
      simp only [VRL] at hvr
      obtain ⟨cf, crest, hcc, vf, vrest⟩ := hvr
      simp only [List.cons.injEq] at hcc
      obtain ⟨hcf, hcr⟩ := hcc
      simp only [VR] at vf
      obtain ⟨xs, ys, vx, vy, hcf2⟩ := vf
      rw [hcf2] at hcf
      rw [← hcr] at vrest
      have hargs2 : VRL μ (first ++ rest0 ++ captured) (xs ++ c.args.toList.map a.eval ++ ys) := (vx.append vrest).append vy
      have hfs := hC.2 f0 _ h v h1 μ w _ hdo hr hargs2 (Fat b a (.inRegion ops (j :: rest) :: k) :: cs)
      obtain ⟨fr, w', μ', cv, hst, hfn, hlv, hvv, hrel, hstep⟩ := hfs
      refine ⟨cv, w', μ', ?_, hvv, hrel, hstep⟩
      have hfin : (Fat b a (.inRegion ops (j :: rest) :: k)).finish cv = Fat b (a.put o.dst cv) (.inRegion ops rest :: k) := by rw [Fat_finish, ho]; rfl
      have hrunop : (execOp a.eval o).run P w = .ok (.enter f0 (xs ++ c.args.toList.map a.eval ++ ys).toArray) w := by
        have hent := hC.1 _ _ _ _ hdo (xs ++ c.args.toList.map a.eval ++ ys).toArray w
        have e1 : xs.toArray ++ c.args.map a.eval ++ ys.toArray = (xs ++ c.args.toList.map a.eval ++ ys).toArray := by apply Array.ext'; simp
        simp only [execOp, hoc, resolve, hcal, hcf, Deferred.ofValue, Sem.run_bind, Sem.run_pure, Result.andThen_ok, invoke, e1]
        exact hent
      refine (Steps.one (st_op_enter ho hwant (fun c' hc' => by rw [hoc] at hc'; cases hc') hrunop)).trans (hst.trans (Steps.one ?_))
      rw [← hfin]; exact step_leave_returned hlv
    · cases hdo
  · obtain ⟨μ', w', cv, hrunop, hv, hrel, hstep⟩ := op_sound (o := o) (ρ := a.eval) haop hvr hr
    refine ⟨cv, w', μ', Steps.one (st_op_value ho hwant (fun c' hc' => ?_) (hrunop.imp id (fun x => x))), hv, hrel, hstep⟩
    rcases trOp_defer (P := P) (c := c') with hh | hh <;> rw [hc', hh] at haop <;> simp [aop] at haop

theorem skip_step {ops : Array Oper} {j : Nat} {o : Oper} {w : World} {a : Act} {b : Frame} {rest : List Nat} {k : List Item} (ho : ops[j]? = some o) (hwant : Region.wanted o (yielded ops a.tmps) = false) (cs : List Frame) :
    Steps P (lone (Fat b a (.inRegion ops (j :: rest) :: k)) cs w) (lone (Fat b (a.put o.dst undef) (.inRegion ops rest :: k)) cs w) := by
  have := st_op_skip (P := P) (b := b) (a := a) (k := k) (cs := cs) (w := w) (ops := ops) (i := j) (rest := rest) (by simp [ho, hwant])
  rw [ho] at this
  exact Steps.one this

theorem VR.undef (μ : Mu) : VR μ (.tuple []) undef := by simp only [VR, VRL, Go.undef]; exact ⟨[], rfl, rfl⟩

theorem in_sound (hC : CSound P C) {ops : Array Oper} {j : Nat} {o : Oper} {i : AIn} {e e' : List AV} {h h' : AHeap} {μ : Mu} {w : World} {a : Act} {b : Frame} {rest : List Nat} {k : List Item} (ho : ops[j]? = some o) (ht : trIn P ops o = some i)
    (hrun : runIn C i e h = some (e', h')) (hr : Rel μ h w) (he : EnvR μ e a.tmps) (cs : List Frame) :
    ∃ a' w' μ', Steps P (lone (Fat b a (.inRegion ops (j :: rest) :: k)) cs w) (lone (Fat b a' (.inRegion ops rest :: k)) cs w') ∧ a'.defers = a.defers ∧ EnvR μ' e' a'.tmps ∧ Rel μ' h' w' ∧ Step μ h w μ' h' w' := by
  obtain ⟨args, hargs, hdst, hop, hia⟩ := trIn_parts ht
  unfold runIn at hrun
  split at hrun
  · rename_i hw
    have hwant := wanted_ok he ht hw
    split at hrun
    · rename_i vs hvs
      split at hrun
      · rename_i v h1 hdo
        cases hrun
        have hvr : VRL μ vs (o.op.operands.toList.map a.eval) := opds_ok he hargs (by rw [← hia]; exact hvs)
        obtain ⟨cv, w', μ', s, hv, hrel, hstep⟩ := op_step (b := b) (rest := rest) (k := k) hC ho hwant hvr (by rw [← hop]; exact hdo) hr cs
        exact ⟨a.put o.dst cv, w', μ', s, by cases o.dst <;> rfl, by rw [hdst]; exact (he.ext hstep.ext).put hv o.dst, hrel, hstep⟩
      · cases hrun
    · cases hrun
  · rename_i hw
    cases hrun
    have hwant := wanted_ok he ht hw
    exact ⟨a.put o.dst undef, w, μ, skip_step ho hwant cs, by cases o.dst <;> rfl, by rw [hdst]; exact he.put (VR.undef μ) o.dst, hr, Step.refl _ _ _⟩
  · cases hrun

theorem ins_sound (hC : CSound P C) {ops : Array Oper} {b : Frame} {k : List Item} (cs : List Frame) : ∀ (os : List Oper) (is : List AIn) (j : Nat) (e e' : List AV) (h h' : AHeap) (μ : Mu) (w : World) (a : Act), ops.toList.drop j = os → trIns P ops os = some is →
    runIns C is e h = some (e', h') → Rel μ h w → EnvR μ e a.tmps →
    ∃ a' w' μ', Steps P (lone (Fat b a (.inRegion ops (List.range' j (ops.size - j)) :: k)) cs w) (lone (Fat b a' k) cs w') ∧ a'.defers = a.defers ∧ EnvR μ' e' a'.tmps ∧ Rel μ' h' w' ∧ Step μ h w μ' h' w'
  | [], is, j, e, e', h, h', μ, w, a, hd, ht, hrun, hr, he => by
    simp only [trIns] at ht; cases ht
    simp only [runIns] at hrun; cases hrun
    have hj : ops.size - j = 0 := by
      have := congrArg List.length hd
      simpa using this
    refine ⟨a, w, μ, Steps.one ?_, rfl, he, hr, Step.refl _ _ _⟩
    rw [hj]
    exact st_region_end
  | o :: os, is, j, e, e', h, h', μ, w, a, hd, ht, hrun, hr, he => by
    simp only [trIns] at ht
    split at ht
    · rename_i i is' hi his
      cases ht
      simp only [runIns] at hrun
      have hlt : j < ops.size := by
        have := congrArg List.length hd
        simp at this; omega
      have ho : ops[j]? = some o := by
        have := congrArg (fun l => l[0]?) hd
        simp only [List.getElem?_drop, Nat.add_zero, List.getElem?_cons_zero, Array.getElem?_toList] at this
        exact this
      split at hrun
      · rename_i e1 h1 h2
        obtain ⟨n, hn⟩ : ∃ n, ops.size - j = n + 1 := ⟨ops.size - j - 1, by omega⟩
        obtain ⟨a1, w1, μ1, s1, d1, v1, r1, t1⟩ := in_sound (b := b) (rest := List.range' (j + 1) n) (k := k) hC ho hi h2 hr he cs
        have hd' : ops.toList.drop (j + 1) = os := by
          rw [← List.tail_drop, hd]; rfl
        obtain ⟨a2, w2, μ2, s2, d2, v2, r2, t2⟩ := ins_sound hC cs os is' (j + 1) e1 e' h1 h' μ1 w1 a1 hd' his hrun r1 v1
        refine ⟨a2, w2, μ2, ?_, d2.trans d1, v2, r2, t1.trans t2⟩
        have hn2 : ops.size - (j + 1) = n := by omega
        rw [hn2] at s2
        rw [hn, List.range'_succ]
        exact s1.trans s2
      · cases hrun
    · cases ht

end
end Go.Proofs.Ytjmocbadnclldaa
