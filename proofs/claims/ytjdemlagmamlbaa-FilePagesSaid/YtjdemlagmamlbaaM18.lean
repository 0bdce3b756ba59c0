/- Soundness of functions; a program's functions, one above another. -/
import Derived.Test.YtjdemlagmamlbaaM17x
namespace Go.Proofs.Ytjdemlagmamlbaa
variable {Λ : Lam}

section
variable {P : Program} {C : SemW}

def trRes (P : Program) : ResultVar → Option ARes
  | .tmp t => some (.tmp t)
  | .cell a t => match isAggT P t, sizeT P t with
    | some true, some n => some (.cell a (.loadn n))
    | some false, some _ => some (.cell a .load1)
    | _, _ => none

def trRess (P : Program) : List ResultVar → Option (List ARes)
  | [] => some []
  | x :: xs => match trRes P x, trRess P xs with
    | some a, some as => some (a :: as)
    | _, _ => none

def trFn (P : Program) (fn : Func) : Option AFn :=
  match fn.body with
  | some c => match trCode P c, trRess P fn.results.toList with
    | some ac, some rs => some ⟨fn.ntmps, rs, ac⟩
    | _, _ => none
  | none => none

theorem res_sound {μ : Mu} {h : AHeap} {w : World} {e : List AV} {tmps : Array Value} (hr : Rel Λ μ h w) (he : EnvR μ e tmps) : ∀ {rs : List ResultVar} {as : List ARes} {vs : List AV}, trRess P rs = some as → resA e h as = some vs →
    ∃ cs : List Value, (rs.mapM fun | .tmp t => pure (tmps.getD t undef) | .cell a t => do loadVar t (← asAddr (tmps.getD a undef)) : Sem (List Value)).run P w = .ok cs w ∧ VRL μ vs cs
  | [], as, vs, ht, hv => by
    simp only [trRess] at ht; cases ht
    simp only [resA] at hv; cases hv
    exact ⟨[], by simp, by simp [VRL]⟩
  | x :: rs, as, vs, ht, hv => by
    simp only [trRess] at ht
    split at ht
    · rename_i a as' h1 h2
      cases ht
      have getD_of : ∀ {t : Nat} {v : AV}, (Opd.tmp t).eval e = some v → VR μ v (tmps.getD t undef) := by
        intro t v hv
        obtain ⟨c, p, q⟩ := he.2 t v hv
        have : tmps.getD t undef = c := by simp [Array.getD_eq_getD_getElem?, p]
        rw [this]; exact q
      cases x with
      | tmp t =>
        simp only [trRes] at h1; cases h1
        simp only [resA] at hv
        split at hv
        · rename_i v vs' h3 h4
          cases hv
          obtain ⟨cs, p, q⟩ := res_sound hr he h2 h4
          refine ⟨tmps.getD t undef :: cs, ?_, by simp only [VRL]; exact ⟨_, _, rfl, getD_of h3, q⟩⟩
          rw [List.mapM_cons]
          simp only [Sem.run_bind, Sem.run_pure, Result.andThen_ok, p]
        · cases hv
      | cell t ty =>
        simp only [trRes] at h1
        have fin : ∀ {op : AOp} {v v0 : AV} {h0 : AHeap} {vs' : List AV}, (Opd.tmp t).eval e = some v → aop op [v] h = some (v0, h0) → resA e h as' = some vs' → (∃ n, isAggT P ty = some true ∧ sizeT P ty = some n ∧ op = .loadn n) ∨ (isAggT P ty = some false ∧ op = .load1) →
            ∃ cs : List Value, ((ResultVar.cell t ty :: rs).mapM fun | .tmp t => pure (tmps.getD t undef) | .cell a t => do loadVar t (← asAddr (tmps.getD a undef)) : Sem (List Value)).run P w = .ok cs w ∧ VRL μ (v0 :: vs') cs := by
          intro op v v0 h0 vs' hv1 hv2 hv3 hop
          obtain ⟨cs, p, q⟩ := res_sound hr he h2 hv3
          have hload : ∃ c, (do loadVar ty (← asAddr (tmps.getD t undef)) : Sem Value).run P w = .ok c w ∧ VR μ v0 c := by
            have hvr := getD_of hv1
            rcases hop with ⟨n, ha, hn, rfl⟩ | ⟨ha, rfl⟩
            · simp only [aop] at hv2
              split at hv2
              · rename_i id off heq
                simp only [List.cons.injEq, and_true] at heq
                subst heq
                split at hv2
                · rename_i e0 es soft ro d hg
                  cases hd : d.sub off n with
                  | none => rw [hd] at hv2; cases hv2
                  | some y =>
                    rw [hd] at hv2; cases hv2
                    simp only [VR] at hvr; obtain ⟨l, hl, hx⟩ := hvr
                    obtain ⟨l', hl', hrow⟩ := hr.row hg
                    rw [hl] at hl'; cases hl'
                    obtain ⟨s, hs, rfl⟩ := Dat.sub_take hd
                    obtain ⟨cs, p, q⟩ := hrow.take hs P
                    exact ⟨.agg cs.toArray, by rw [hx]; simp [asAddr, loadVar, run_isAgg ha, run_size hn, p w rfl], q.agg⟩
                · cases hv2
              · cases hv2
            · simp only [aop] at hv2
              split at hv2
              · rename_i id off heq
                simp only [List.cons.injEq, and_true] at heq
                subst heq
                split at hv2
                · rename_i e0 es soft ro d hg
                  cases hd : d.get off with
                  | none => rw [hd] at hv2; cases hv2
                  | some y =>
                    rw [hd] at hv2; cases hv2
                    simp only [VR] at hvr; obtain ⟨l, hl, hx⟩ := hvr
                    obtain ⟨l', hl', hrow⟩ := hr.row hg
                    rw [hl] at hl'; cases hl'
                    obtain ⟨cv, p, q, _⟩ := hrow.get hd
                    exact ⟨cv, by rw [hx]; simp [asAddr, loadVar, run_isAgg ha, p], q⟩
                · cases hv2
              · cases hv2
          obtain ⟨c, hc1, hc2⟩ := hload
          refine ⟨c :: cs, ?_, by simp only [VRL]; exact ⟨_, _, rfl, hc2, q⟩⟩
          rw [List.mapM_cons, Sem.run_bind, hc1]
          simp only [Sem.run_bind, Sem.run_pure, Result.andThen_ok, p]
        split at h1
        · rename_i n ha hn
          cases h1
          simp only [resA] at hv
          split at hv
          · rename_i v h3
            split at hv
            · rename_i v0 h0 vs' h4 h5
              cases hv
              exact fin h3 h4 h5 (.inl ⟨n, ha, hn, rfl⟩)
            · cases hv
          · cases hv
        · rename_i ha hn
          cases h1
          simp only [resA] at hv
          split at hv
          · rename_i v h3
            split at hv
            · rename_i v0 h0 vs' h4 h5
              cases hv
              exact fin h3 h4 h5 (.inr ⟨ha, rfl⟩)
            · cases hv
          · cases hv
        · cases h1
    · cases ht

theorem fn_sound {f : FuncId} {fn : Func} {af : AFn} (hf : P.funcs[f]? = some fn) (ht : trFn P fn = some af) (hC : CSound P (LamP P) C) : FSound P (LamP P) f (callW C af) := by
  intro args h Q μ w cargs hcall hr hargs cs
  unfold trFn at ht
  split at ht
  · rename_i c hb
    split at ht
    · rename_i ac rs h1 h2
      cases ht
      let b : Frame := { fn := f, tmps := #[], todo := [], defers := [], mode := .run, kind := .normal }
      have hlen := VRL.length hargs
      have henter : Frame.enter P f cargs.toArray .normal = Fat b { tmps := cargs.toArray ++ Array.replicate (fn.ntmps - cargs.toArray.size) undef, defers := [] } [.code c] := by
        simp [Frame.enter, Fat, hf, hb, b]
      have henv : EnvR μ (args ++ List.replicate (fn.ntmps - args.length) .junk) (cargs.toArray ++ Array.replicate (fn.ntmps - cargs.toArray.size) undef) := by
        refine ⟨by simp [hlen], fun i v hv => ?_⟩
        by_cases hi : i < args.length
        · rw [List.getElem?_append_left hi] at hv
          cases hg : args[i]? with
          | none => rw [hg] at hv; cases hv
          | some y =>
            rw [hg] at hv
            have := notJunk_some hv
            subst this
            obtain ⟨c', p, q⟩ := VRL.get hargs i _ hg
            exact ⟨c', by rw [Array.getElem?_append_left (by simp [hlen]; exact hi)]; simpa using p, q⟩
        · rw [List.getElem?_append_right (by omega), List.getElem?_replicate] at hv
          split at hv
          · simp [AV.notJunk] at hv
          · cases hv
      obtain ⟨x, e', h', a', w', μ', hq, hs, hm, hv, hrel, hst⟩ := exec_sound hC (B := w.heap.size) (ro := none) (b := b) c _ _ h _ μ w { tmps := cargs.toArray ++ Array.replicate (fn.ntmps - cargs.toArray.size) undef, defers := [] } [] cs h1 hcall hr henv rfl (fun _ => Marks.nil _ _) (Nat.le_refl _)
      have fin : ∀ (todo : List Item) (vs : List AV), Steps P (lone (Frame.enter P f cargs.toArray .normal) cs w) (lone { Fat b a' todo with mode := .returning } cs w') → resA e' h' rs = some vs → Q (retA vs) h' →
          ∃ r h' fr w' μ' cv, Q r h' ∧ Steps P (lone (Frame.enter P f cargs.toArray .normal) cs w) (lone fr cs w') ∧ fr.fn = f ∧ fr.leaving P w' (.returned cv) ∧ VR μ' r cv ∧ Rel (LamP P) μ' h' w' ∧ Step μ h w μ' h' w' := by
        intro todo vs hsteps hre hQ
        obtain ⟨Ds, d1, d2, d3⟩ := hm rfl
        obtain ⟨w'', s2, r2, t2⟩ := marks_gone (P := P) (cs := cs) (Nat.le_refl _) Ds { Fat b a' todo with mode := .returning } w' rfl d1 d2 d3 hrel hst
        obtain ⟨cvs, p, q⟩ := res_sound (P := P) r2 hv h2 hre
        have hresult : (results fn a'.tmps).run P w'' = .ok (if hsz : cvs.toArray.size = 1 then cvs.toArray[0] else .tuple cvs.toArray) w'' := by
          unfold results
          rw [Sem.run_bind, Array.mapM_eq_mapM_toList, Sem.run_map]
          have p'' : Sem.run P (List.mapM (fun x => match x with | .tmp t => (pure (a'.tmps.getD t undef) : Sem Value) | .cell a t => do let __do_lift ← asAddr (a'.tmps.getD a undef); loadVar t __do_lift) fn.results.toList) w'' = .ok cvs w'' := p
          erw [p'']
          simp
        have hvr : VR μ' (retA vs) (if hsz : cvs.toArray.size = 1 then cvs.toArray[0] else .tuple cvs.toArray) := by
          have hl := VRL.length q
          cases vs with
          | nil =>
            have : cvs = [] := List.length_eq_zero_iff.1 hl
            subst this
            simp [retA, VR, VRL]
          | cons y ys => cases ys with
            | nil =>
              obtain ⟨c', rfl, hq⟩ := VRL.one q
              simpa [retA] using hq
            | cons z zs =>
              have hne : ¬ cvs.toArray.size = 1 := by simp only [List.size_toArray]; rw [hl]; simp
              rw [dif_neg hne]
              simp only [retA, VR]
              exact ⟨cvs, q, rfl⟩
        exact ⟨_, h', { Fat b a' todo with mode := .returning, defers := [] }, w'', μ', _, hQ, hsteps.trans s2, rfl, ⟨rfl, rfl, rfl, fn, hf, hresult⟩, hvr, r2, t2⟩
      rw [← henter] at hs
      cases x with
      | exit id => exact hq.elim
      | normal =>
        simp only at hq
        cases hre : resA e' h' rs with
        | none => rw [hre] at hq; exact hq.elim
        | some vs => rw [hre] at hq; exact fin [] vs (Steps.trans hs (Steps.one (step_lone_go (by simp [stepG, stepG.exec, Fat, b])))) hre hq
      | ret =>
        simp only at hq
        obtain ⟨k0, s⟩ := hs
        cases hre : resA e' h' rs with
        | none => rw [hre] at hq; exact hq.elim
        | some vs => rw [hre] at hq; exact fin (.code .ret :: k0) vs (Steps.trans s (Steps.one (step_lone_go (by simp [stepG, stepG.exec, Fat, b])))) hre hq
    · cases ht
  · cases ht

theorem setAll_env {μ : Mu} : ∀ {ps : List Nat} {e vs : List AV} {t : Array Value} {cs : List Value}, EnvR μ e t → VRL μ vs cs → vs.length = ps.length → EnvR μ (setAll e ps vs) ((ps.zip cs).foldl (fun tmps (t, a) => tmps.setIfInBounds t a) t)
  | [], e, vs, t, cs, he, _, _ => by cases vs <;> exact he
  | p :: ps, e, [], t, cs, he, _, hl => by simp at hl
  | p :: ps, e, v :: vs, t, cs, he, hv, hl => by
    simp only [VRL] at hv
    obtain ⟨c, cs', rfl, h1, h2⟩ := hv
    simp only [List.zip_cons_cons, List.foldl_cons, setAll]
    exact setAll_env (he.set h1 p) h2 (by simpa using hl)

/-- the round's object, and its state turned -/
theorem loop_put {μ : Mu} {h : AHeap} {w : World} (r : Rel Λ μ h w) {l : Nat} {lc : Loc} {st st' : LoopState} {j j' : Option AExit} {t : List AV} {p : List Nat} {x y : ACode} {r0 : Go.Loop} {c : Option Code} (hg : h.get l = some (.loop st j t p x y)) (hl : μ l = some lc)
    (hr0 : w.heap[lc.block]? = some (.loop r0)) (hc : c = j'.map AExit.code) :
    Rel Λ μ (h.put l (.loop st' j' t p x y)) (pobj w lc.block (.loop { r0 with state := st', pending := c })) ∧ Step μ h w μ (h.put l (.loop st' j' t p x y)) (pobj w lc.block (.loop { r0 with state := st', pending := c })) := by
  obtain ⟨r1, h1, _, _, h4, h5, h6, h7⟩ := loop_block r hg hl
  rw [hr0] at h1; cases h1
  have hlt : lc.block < w.heap.size := (r.dom _ _ hl).2
  exact Rel.put r hg rfl hl rfl rfl rfl pobj_size (fun b hb => pobj_other hb) ⟨{ r0 with state := st', pending := c }, pobj_same hlt, rfl, hc, h4, h5, h6, h7⟩

theorem round_sound (hC : CSound P (LamP P) C) (l : Nat) : YSound P (LamP P) l (roundW C l) := by
  intro args h Q μ w cargs hF hr hargs
  unfold roundW at hF
  split at hF
  · rename_i st j tmps ps asg body hg
    obtain ⟨hlen, hx⟩ := hF
    obtain ⟨lc, hlc, _⟩ := hr.obj _ _ hg
    obtain ⟨r, hr0, _, _, hev, hps, hΛa, hΛb⟩ := loop_block hr hg hlc
    have hsz : cargs.length = r.params.size := by
      have := VRL.length hargs
      rw [this, hlen, ← hps]; simp
    refine ⟨lc, r, hlc, hr0, hsz, fun c cs => ?_⟩
    let b : Frame := { fn := r.fn, tmps := #[], todo := [], defers := [], mode := .run, kind := .normal, roundOf := some lc.block }
    have hzip : (r.params.zip cargs.toArray).foldl (fun tmps (t, a) => tmps.setIfInBounds t a) r.tmps = (ps.zip cargs).foldl (fun tmps (t, a) => tmps.setIfInBounds t a) r.tmps := by
      rw [← Array.foldl_toList, Array.toList_zip, hps]
    have henv : EnvR μ (setAll tmps ps args) ((r.params.zip cargs.toArray).foldl (fun tmps (t, a) => tmps.setIfInBounds t a) r.tmps) := by
      rw [hzip]; exact setAll_env hev hargs hlen
    have hent : Frame.round lc.block r.fn ((r.params.zip cargs.toArray).foldl (fun tmps (t, a) => tmps.setIfInBounds t a) r.tmps) r.assign r.body .normal = Fat b { tmps := (r.params.zip cargs.toArray).foldl (fun tmps (t, a) => tmps.setIfInBounds t a) r.tmps, defers := [] } [.code r.assign, .beginRound, .code r.body] := by
      simp [Frame.round, Fat, b]
    rw [hent]
    have hro : RoR μ (some l) b := ⟨lc, hlc, rfl⟩
    obtain ⟨x, e1, h1, a1, w1, μ1, ⟨hxn, hq⟩, s1, _, v1, r1, t1⟩ := exec_sound hC (B := 0) (ro := some l) (b := b) r.assign _ _ h _ μ w { tmps := (r.params.zip cargs.toArray).foldl (fun tmps (t, a) => tmps.setIfInBounds t a) r.tmps, defers := [] } [.beginRound, .code r.body] (c :: cs) hΛa hx hr henv hro (fun h => by cases h) (Nat.zero_le _)
    subst hxn
    split at hq
    · rename_i j1 t1' p1 x1 y1 hg1
      have hlc1 : μ1 l = some lc := t1.ext _ _ hlc
      obtain ⟨r1', hr1', hst1, hpd1, _⟩ := loop_block r1 hg1 hlc1
      obtain ⟨r2, t2⟩ := loop_put (st' := .busy) (j' := j1) (c := r1'.pending) r1 hg1 hlc1 hr1' hpd1
      have sb := st_begin (P := P) (b := b) (a := a1) (k := [.code r.body]) (cs := c :: cs) rfl (rn_begin hr1' hst1)
      have hrec : ({ r1' with state := LoopState.busy, pending := r1'.pending } : Go.Loop) = { r1' with state := .busy } := rfl
      rw [hrec] at r2 t2
      obtain ⟨x2, e2, h2, a2, w2, μ2, hq2, s2, _, v2, r3, t3⟩ := exec_sound hC (B := 0) (ro := some l) (b := b) r.body _ _ _ _ μ1 _ a1 [] (c :: cs) hΛb hq r2 v1 (hro.ext t1.ext) (fun h => by cases h) (Nat.zero_le _)
      unfold roundEnd at hq2
      split at hq2
      · rename_i st3 j3 t3' p3 x3 y3 hg3
        have hlc3 : μ2 l = some lc := t3.ext _ _ hlc1
        obtain ⟨r3', hr3', _⟩ := loop_block r3 hg3 hlc3
        have hpre : Steps P (lone (Fat b { tmps := (r.params.zip cargs.toArray).foldl (fun tmps (t, a) => tmps.setIfInBounds t a) r.tmps, defers := [] } [.code r.assign, .beginRound, .code r.body]) (c :: cs) w) (lone (Fat b a1 [.code r.body]) (c :: cs) _) := Steps.trans s1 (Steps.one sb)
        have htot := t1.trans (t2.trans t3)
        cases x2 with
        | normal =>
          obtain ⟨r4, t4⟩ := loop_put (st' := .ready) (j' := none) (c := none) r3 hg3 hlc3 hr3' rfl
          exact ⟨.bool true, _, _, μ2, .bool true, hq2, hpre.trans (Steps.trans s2 (Steps.one (st_round_end rfl rfl (rn_endRound none hr3')))), by simp [VR], r4, htot.trans t4⟩
        | ret =>
          obtain ⟨r4, t4⟩ := loop_put (st' := .done) (j' := some .ret) (c := some .ret) r3 hg3 hlc3 hr3' rfl
          obtain ⟨k0, s2⟩ := s2
          exact ⟨.bool false, _, _, μ2, .bool false, hq2, hpre.trans (Steps.trans s2 (Steps.one (st_round_ret rfl rfl (rn_endRound (some .ret) hr3')))), by simp [VR], r4, htot.trans t4⟩
        | exit id =>
          obtain ⟨r4, t4⟩ := loop_put (st' := .done) (j' := some (.exit id)) (c := some (.exit id)) r3 hg3 hlc3 hr3' rfl
          obtain ⟨k0, s2, hk0⟩ := s2
          exact ⟨.bool false, _, _, μ2, .bool false, hq2, hpre.trans (Steps.trans s2 (Steps.one (st_round_exit rfl rfl (by rw [hk0]; rfl) (rn_endRound (some (.exit id)) hr3')))), by simp [VR], r4, htot.trans t4⟩
      · exact hq2.elim
    · exact hq.elim
  · exact hF.elim

end
end Go.Proofs.Ytjdemlagmamlbaa
