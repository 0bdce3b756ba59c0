/- Soundness of code: regions, loops, functions. -/
import Derived.Test.YtjdemlagmamlbaaM16
namespace Go.Proofs.Ytjdemlagmamlbaa
variable {Λ : Lam}

section
variable {P : Program} {C : SemW}

theorem trIn_parts {ops : Array Oper} {o : Oper} {i : AIn} (ht : trIn P ops o = some i) : ∃ args, trOpds o.op.operands.toList = some args ∧ i.dst = o.dst ∧ i.op = trOp P o.op ∧ i.args = args := by
  unfold trIn at ht
  split at ht
  · rename_i args ha
    split at ht
    · cases ht; exact ⟨args, ha, rfl, rfl, rfl⟩
    · split at ht
      · cases ht; exact ⟨args, ha, rfl, rfl, rfl⟩
      · cases ht
  · cases ht

theorem trOp_callv {o : Op} (h : trOp P o = .callv) : ∃ c f, o = .call c ∧ c.callee = .value f := by
  cases o with
  | call c =>
    cases hc : c.callee with
    | value f => exact ⟨c, f, rfl, hc⟩
    | invoke _ _ => simp [trOp, hc] at h
    | builtin b =>
      simp only [trOp, hc] at h
      split at h <;> first | cases h | (split at h <;> first | cases h | (split at h <;> first | cases h | (split at h <;> cases h)))
  | binOp op t x y u => cases op <;> simp only [trOp] at h <;> first | cases h | (split at h <;> first | cases h | (split at h <;> cases h))
  | makeFunc fn a b => cases fn <;> simp [trOp] at h
  | makeMap t r => cases r <;> simp [trOp] at h
  | defer c => cases hc : c.callee <;> simp [trOp, hc] at h
  | next x b => cases b <;> simp [trOp] at h
  | _ => simp only [trOp] at h <;> first | cases h | (repeat' split at h) <;> cases h

theorem trOp_defer {c : Call} : trOp P (.defer c) = .defer ∨ trOp P (.defer c) = .bad := by
  cases hc : c.callee <;> simp [trOp, hc]

theorem trOp_next {o : Op} (h : trOp P o = .next) : ∃ x, o = .next x false := by
  cases o with
  | next x b => cases b with
    | false => exact ⟨x, rfl⟩
    | true => simp [trOp] at h
  | call c =>
    cases hc : c.callee with
    | value f => simp [trOp, hc] at h
    | invoke _ _ => simp [trOp, hc] at h
    | builtin b =>
      simp only [trOp, hc] at h
      split at h <;> first | cases h | (split at h <;> first | cases h | (split at h <;> first | cases h | (split at h <;> cases h)))
  | binOp op t x y u => cases op <;> simp only [trOp] at h <;> first | cases h | (split at h <;> first | cases h | (split at h <;> cases h))
  | makeFunc fn a b => cases fn <;> simp [trOp] at h
  | makeMap t r => cases r <;> simp [trOp] at h
  | defer c => cases hc : c.callee <;> simp [trOp, hc] at h
  | _ => simp only [trOp] at h <;> first | cases h | (repeat' split at h) <;> cases h

theorem doOpW_cases {op : AOp} {args : List AV} {h : AHeap} {Q : AV → AHeap → Prop} (hd : doOpW C op args h Q) : op = .callv ∨ op = .next ∨ (op ≠ .callv ∧ ∃ v h', aop op args h = some (v, h') ∧ Q v h') := by
  unfold doOpW at hd
  split at hd
  · exact .inl rfl
  · exact .inr (.inl rfl)
  · rename_i hn _
    refine .inr (.inr ⟨hn, ?_⟩)
    split at hd
    · exact ⟨_, _, by assumption, hd⟩
    · exact hd.elim

theorem op_stepW (hC : CSound P Λ C) {ops : Array Oper} {j : Nat} {o : Oper} {vs : List AV} {h : AHeap} {Q : AV → AHeap → Prop} {μ : Mu} {w : World} {a : Act} {b : Frame} {rest : List Nat} {k : List Item} (ho : ops[j]? = some o) (hwant : Region.wanted o (yielded ops a.tmps) = true)
    (hvr : VRL μ vs (o.op.operands.toList.map a.eval)) (hdo : doOpW C (trOp P o.op) vs h Q) (hr : Rel Λ μ h w) (cs : List Frame) :
    ∃ v h1 cv w' μ', Q v h1 ∧ Steps P (lone (Fat b a (.inRegion ops (j :: rest) :: k)) cs w) (lone (Fat b (a.put o.dst cv) (.inRegion ops rest :: k)) cs w') ∧ VR μ' v cv ∧ Rel Λ μ' h1 w' ∧ Step μ h w μ' h1 w' := by
  have hfin : ∀ cv, (Fat b a (.inRegion ops (j :: rest) :: k)).finish cv = Fat b (a.put o.dst cv) (.inRegion ops rest :: k) := fun cv => by rw [Fat_finish, ho]; rfl
  rcases doOpW_cases hdo with hcall | hnext | ⟨hnc, v, h1, haop, hq⟩
  · obtain ⟨c, f, hoc, hcal⟩ := trOp_callv hcall
    rw [hcall] at hdo
    simp only [doOpW] at hdo
    have hopl : o.op.operands.toList.map a.eval = a.eval f :: c.args.toList.map a.eval := by rw [hoc]; simp [Op.operands, Call.operands, hcal]
    rw [hopl] at hvr
    split at hdo
    · rename_i f0 first captured rest0
      simp only [VRL] at hvr
      obtain ⟨cf, crest, hcc, vf, vrest⟩ := hvr
      simp only [List.cons.injEq] at hcc
      obtain ⟨hcf, hcr⟩ := hcc
      simp only [VR] at vf
      obtain ⟨xs, ys, vx, vy, hcf2⟩ := vf
      rw [hcf2] at hcf
      rw [← hcr] at vrest
      have hargs2 : VRL μ (first ++ rest0 ++ captured) (xs ++ c.args.toList.map a.eval ++ ys) := (vx.append vrest).append vy
      obtain ⟨r, h', fr, w', μ', cv, hq, hst, hfn, hlv, hvv, hrel, hstep⟩ := hC.fn f0 _ h Q μ w _ hdo hr hargs2 (Fat b a (.inRegion ops (j :: rest) :: k) :: cs)
      refine ⟨r, h', cv, w', μ', hq, ?_, hvv, hrel, hstep⟩
      have hrunop : (execOp a.eval o).run P w = .ok (.enter f0 (xs ++ c.args.toList.map a.eval ++ ys).toArray) w := by
        have hent := hC.ent _ _ _ _ hdo (xs ++ c.args.toList.map a.eval ++ ys).toArray w
        have e1 : xs.toArray ++ c.args.map a.eval ++ ys.toArray = (xs ++ c.args.toList.map a.eval ++ ys).toArray := by apply Array.ext'; simp
        simp only [execOp, hoc, resolve, hcal, hcf, Deferred.ofValue, Sem.run_bind, Sem.run_pure, Result.andThen_ok, invoke, e1]
        exact hent
      refine (Steps.one (st_op_enter ho hwant (fun c' hc' => by rw [hoc] at hc'; cases hc') hrunop)).trans (hst.trans (Steps.one ?_))
      rw [← hfin]; exact step_leave_returned hlv
    · rename_i l rest0
      simp only [VRL] at hvr
      obtain ⟨cf, crest, hcc, vf, vrest⟩ := hvr
      simp only [List.cons.injEq] at hcc
      obtain ⟨hcf, hcr⟩ := hcc
      simp only [VR] at vf
      obtain ⟨m, hm, hcf2⟩ := vf
      rw [hcf2] at hcf
      rw [← hcr] at vrest
      obtain ⟨lc, r, hlc, hlp, hsz, hgo⟩ := hC.rnd l _ h Q μ w _ hdo hr vrest
      rw [hm] at hlc; cases hlc
      obtain ⟨rv, h', w', μ', cv, hq, hst, hvv, hrel, hstep⟩ := hgo (Fat b a (.inRegion ops (j :: rest) :: k)) cs
      refine ⟨rv, h', cv, w', μ', hq, ?_, hvv, hrel, hstep⟩
      have hrunop : (execOp a.eval o).run P w = .ok (.round m.block r.fn ((r.params.zip (c.args.toList.map a.eval).toArray).foldl (fun tmps (t, a) => tmps.setIfInBounds t a) r.tmps) r.assign r.body) w := by
        have e1 : c.args.map a.eval = (c.args.toList.map a.eval).toArray := by apply Array.ext'; simp
        have hsz' : ¬ (c.args.toList.map a.eval).toArray.size ≠ r.params.size := by simpa using hsz
        simp only [execOp, hoc, resolve, hcal, hcf, Deferred.ofValue, Sem.run_bind, Sem.run_pure, Result.andThen_ok, invoke, Array.empty_append, e1, Instr.yield, Instr.getLoop]
        have hgl : (getObj m.block).run P w = .ok (.loop r) w := by simp [getObj, Sem.run, hlp]
        simp only [hgl, Result.andThen_ok, Sem.run_pure, hsz', if_false]
      refine (Steps.one (st_op_round ho hwant (fun c' hc' => by rw [hoc] at hc'; cases hc') hrunop)).trans ?_
      rw [← hfin]; exact hst
    · exact hdo.elim
  · obtain ⟨x, hox⟩ := trOp_next hnext
    rw [hnext] at hdo
    obtain ⟨r, h', hq, μ', w', cv, hrunop, hv, hrel, hstep⟩ := op_next (o := o) (ρ := a.eval) hox hdo (by rw [hox] at hvr; simpa [Op.operands] using hvr) hr
    exact ⟨r, h', cv, w', μ', hq, Steps.one (st_op_value ho hwant (fun c' hc' => by rw [hox] at hc'; cases hc') (hrunop.imp id (fun x => x))), hv, hrel, hstep⟩
  · obtain ⟨μ', w', cv, hrunop, hv, hrel, hstep⟩ := op_sound (o := o) (ρ := a.eval) haop hvr hr
    refine ⟨v, h1, cv, w', μ', hq, Steps.one (st_op_value ho hwant (fun c' hc' => ?_) (hrunop.imp id (fun x => x))), hv, hrel, hstep⟩
    rcases trOp_defer (P := P) (c := c') with hh | hh <;> rw [hc', hh] at haop <;> simp [aop] at haop

theorem skip_step {ops : Array Oper} {j : Nat} {o : Oper} {w : World} {a : Act} {b : Frame} {rest : List Nat} {k : List Item} (ho : ops[j]? = some o) (hwant : Region.wanted o (yielded ops a.tmps) = false) (cs : List Frame) :
    Steps P (lone (Fat b a (.inRegion ops (j :: rest) :: k)) cs w) (lone (Fat b (a.put o.dst undef) (.inRegion ops rest :: k)) cs w) := by
  have := st_op_skip (P := P) (b := b) (a := a) (k := k) (cs := cs) (w := w) (ops := ops) (i := j) (rest := rest) (by simp [ho, hwant])
  rw [ho] at this
  exact Steps.one this

theorem VR.undef (μ : Mu) : VR μ (.tuple []) undef := by simp only [VR, VRL, Go.undef]; exact ⟨[], rfl, rfl⟩

theorem in_sound (hC : CSound P Λ C) {ops : Array Oper} {j : Nat} {o : Oper} {i : AIn} {e : List AV} {h : AHeap} {Q : List AV → AHeap → Prop} {μ : Mu} {w : World} {a : Act} {b : Frame} {rest : List Nat} {k : List Item} (ho : ops[j]? = some o) (ht : trIn P ops o = some i)
    (hrun : runInW C i e h Q) (hr : Rel Λ μ h w) (he : EnvR μ e a.tmps) (cs : List Frame) :
    ∃ e' h' a' w' μ', Q e' h' ∧ Steps P (lone (Fat b a (.inRegion ops (j :: rest) :: k)) cs w) (lone (Fat b a' (.inRegion ops rest :: k)) cs w') ∧ a'.defers = a.defers ∧ EnvR μ' e' a'.tmps ∧ Rel Λ μ' h' w' ∧ Step μ h w μ' h' w' := by
  obtain ⟨args, hargs, hdst, hop, hia⟩ := trIn_parts ht
  unfold runInW at hrun
  split at hrun
  · rename_i hw
    have hwant := wanted_ok he ht hw
    split at hrun
    · rename_i vs hvs
      have hvr : VRL μ vs (o.op.operands.toList.map a.eval) := opds_ok he hargs (by rw [← hia]; exact hvs)
      obtain ⟨v, h1, cv, w', μ', hq, s, hv, hrel, hstep⟩ := op_stepW (b := b) (rest := rest) (k := k) hC ho hwant hvr (by rw [← hop]; exact hrun) hr cs
      exact ⟨_, h1, a.put o.dst cv, w', μ', hq, s, by cases o.dst <;> rfl, by rw [hdst]; exact (he.ext hstep.ext).put hv o.dst, hrel, hstep⟩
    · exact hrun.elim
  · rename_i hw
    have hwant := wanted_ok he ht hw
    exact ⟨_, h, a.put o.dst undef, w, μ, hrun, skip_step ho hwant cs, by cases o.dst <;> rfl, by rw [hdst]; exact he.put (VR.undef μ) o.dst, hr, Step.refl _ _ _⟩
  · exact hrun.elim

theorem ins_sound (hC : CSound P Λ C) {ops : Array Oper} {b : Frame} {k : List Item} (cs : List Frame) : ∀ (os : List Oper) (is : List AIn) (j : Nat) (e : List AV) (h : AHeap) (Q : List AV → AHeap → Prop) (μ : Mu) (w : World) (a : Act), ops.toList.drop j = os → trIns P ops os = some is →
    runInsW C is e h Q → Rel Λ μ h w → EnvR μ e a.tmps →
    ∃ e' h' a' w' μ', Q e' h' ∧ Steps P (lone (Fat b a (.inRegion ops (List.range' j (ops.size - j)) :: k)) cs w) (lone (Fat b a' k) cs w') ∧ a'.defers = a.defers ∧ EnvR μ' e' a'.tmps ∧ Rel Λ μ' h' w' ∧ Step μ h w μ' h' w'
  | [], is, j, e, h, Q, μ, w, a, hd, ht, hrun, hr, he => by
    simp only [trIns] at ht; cases ht
    simp only [runInsW] at hrun
    have hj : ops.size - j = 0 := by
      have := congrArg List.length hd
      simpa using this
    refine ⟨e, h, a, w, μ, hrun, Steps.one ?_, rfl, he, hr, Step.refl _ _ _⟩
    rw [hj]
    exact st_region_end
  | o :: os, is, j, e, h, Q, μ, w, a, hd, ht, hrun, hr, he => by
    simp only [trIns] at ht
    split at ht
    · rename_i i is' hi his
      cases ht
      simp only [runInsW] at hrun
      have hlt : j < ops.size := by
        have := congrArg List.length hd
        simp at this; omega
      have ho : ops[j]? = some o := by
        have := congrArg (fun l => l[0]?) hd
        simp only [List.getElem?_drop, Nat.add_zero, List.getElem?_cons_zero, Array.getElem?_toList] at this
        exact this
      obtain ⟨n, hn⟩ : ∃ n, ops.size - j = n + 1 := ⟨ops.size - j - 1, by omega⟩
      obtain ⟨e1, h1, a1, w1, μ1, q1, s1, d1, v1, r1, t1⟩ := in_sound (b := b) (rest := List.range' (j + 1) n) (k := k) hC ho hi hrun hr he cs
      have hd' : ops.toList.drop (j + 1) = os := by
        rw [← List.tail_drop, hd]; rfl
      obtain ⟨e2, h2, a2, w2, μ2, q2, s2, d2, v2, r2, t2⟩ := ins_sound hC cs os is' (j + 1) e1 h1 Q μ1 w1 a1 hd' his q1 r1 v1
      refine ⟨e2, h2, a2, w2, μ2, q2, ?_, d2.trans d1, v2, r2, t1.trans t2⟩
      have hn2 : ops.size - (j + 1) = n := by omega
      rw [hn2] at s2
      rw [hn, List.range'_succ]
      exact s1.trans s2
    · cases ht

end
end Go.Proofs.Ytjdemlagmamlbaa
