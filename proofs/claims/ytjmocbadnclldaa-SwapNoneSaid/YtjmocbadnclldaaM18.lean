/- Soundness of functions; a program's functions, one above another. -/
import Derived.Test.YtjmocbadnclldaaM17x
namespace Go.Proofs.Ytjmocbadnclldaa

section
variable {P : Program} {C : Sem1}

def trRes (P : Program) : ResultVar → Option ARes
  | .tmp t => some (.tmp t)
  | .cell a t => match isAggT P t, sizeT P t with
    | some true, some n => some (.cell a (.loadn n))
    | some false, some _ => some (.cell a .load1)
    | _, _ => none

def trRess (P : Program) : List ResultVar → Option (List ARes)
  | [] => some []
  | x :: xs => match trRes P x, trRess P xs with
    | some a, some as => some (a :: as)
    | _, _ => none

def trFn (P : Program) (fn : Func) (K : List Hint) : Option AFn :=
  match fn.body with
  | some c => match trCode P c K, trRess P fn.results.toList with
    | some (ac, []), some rs => some ⟨fn.ntmps, rs, ac⟩
    | _, _ => none
  | none => none

theorem res_sound {μ : Mu} {h : AHeap} {w : World} {e : List AV} {tmps : Array Value} (hr : Rel μ h w) (he : EnvR μ e tmps) : ∀ {rs : List ResultVar} {as : List ARes} {vs : List AV}, trRess P rs = some as → resA e h as = some vs →
    ∃ cs : List Value, (rs.mapM fun | .tmp t => pure (tmps.getD t undef) | .cell a t => do loadVar t (← asAddr (tmps.getD a undef)) : Sem (List Value)).run P w = .ok cs w ∧ VRL μ vs cs
  | [], as, vs, ht, hv => by
    simp only [trRess] at ht; cases ht
    simp only [resA] at hv; cases hv
    exact ⟨[], by simp, by simp [VRL]⟩
  | x :: rs, as, vs, ht, hv => by
    simp only [trRess] at ht
    split at ht
    · rename_i a as' h1 h2
      cases ht
      have getD_of : ∀ {t : Nat} {v : AV}, (Opd.tmp t).eval e = some v → VR μ v (tmps.getD t undef) := by
        intro t v hv
        obtain ⟨c, p, q⟩ := he.2 t v hv
        have : tmps.getD t undef = c := by simp [Array.getD_eq_getD_getElem?, p]
        rw [this]; exact q
      cases x with
      | tmp t =>
        simp only [trRes] at h1; cases h1
        simp only [resA] at hv
        split at hv
        · rename_i v vs' h3 h4
          cases hv
          obtain ⟨cs, p, q⟩ := res_sound hr he h2 h4
          refine ⟨tmps.getD t undef :: cs, ?_, by simp only [VRL]; exact ⟨_, _, rfl, getD_of h3, q⟩⟩
          rw [List.mapM_cons]
          simp only [Sem.run_bind, Sem.run_pure, Result.andThen_ok, p]
        · cases hv
      | cell t ty =>
        simp only [trRes] at h1
        have fin : ∀ {op : AOp} {v v0 : AV} {h0 : AHeap} {vs' : List AV}, (Opd.tmp t).eval e = some v → aop op [v] h = some (v0, h0) → resA e h as' = some vs' → (∃ n, isAggT P ty = some true ∧ sizeT P ty = some n ∧ op = .loadn n) ∨ (isAggT P ty = some false ∧ op = .load1) →
            ∃ cs : List Value, ((ResultVar.cell t ty :: rs).mapM fun | .tmp t => pure (tmps.getD t undef) | .cell a t => do loadVar t (← asAddr (tmps.getD a undef)) : Sem (List Value)).run P w = .ok cs w ∧ VRL μ (v0 :: vs') cs := by
          intro op v v0 h0 vs' hv1 hv2 hv3 hop
          obtain ⟨cs, p, q⟩ := res_sound hr he h2 hv3
          have hload : ∃ c, (do loadVar ty (← asAddr (tmps.getD t undef)) : Sem Value).run P w = .ok c w ∧ VR μ v0 c := by
            have hvr := getD_of hv1
            rcases hop with ⟨n, ha, hn, rfl⟩ | ⟨ha, rfl⟩
            · simp only [aop] at hv2
              split at hv2
              · rename_i id off heq
                simp only [List.cons.injEq, and_true] at heq
                subst heq
                split at hv2
                · rename_i e0 es soft ro d hg
                  cases hd : d.sub off n with
                  | none => rw [hd] at hv2; cases hv2
                  | some y =>
                    rw [hd] at hv2; cases hv2
                    simp only [VR] at hvr; obtain ⟨l, hl, hx⟩ := hvr
                    obtain ⟨l', hl', hrow⟩ := hr.row hg
                    rw [hl] at hl'; cases hl'
                    obtain ⟨s, hs, rfl⟩ := Dat.sub_take hd
                    obtain ⟨cs, p, q⟩ := hrow.take hs P
                    exact ⟨.agg cs.toArray, by rw [hx]; simp [asAddr, loadVar, run_isAgg ha, run_size hn, p w rfl], q.agg⟩
                · cases hv2
              · cases hv2
            · simp only [aop] at hv2
              split at hv2
              · rename_i id off heq
                simp only [List.cons.injEq, and_true] at heq
                subst heq
                split at hv2
                · rename_i e0 es soft ro d hg
                  cases hd : d.get off with
                  | none => rw [hd] at hv2; cases hv2
                  | some y =>
                    rw [hd] at hv2; cases hv2
                    simp only [VR] at hvr; obtain ⟨l, hl, hx⟩ := hvr
                    obtain ⟨l', hl', hrow⟩ := hr.row hg
                    rw [hl] at hl'; cases hl'
                    obtain ⟨cv, p, q, _⟩ := hrow.get hd
                    exact ⟨cv, by rw [hx]; simp [asAddr, loadVar, run_isAgg ha, p], q⟩
                · cases hv2
              · cases hv2
          obtain ⟨c, hc1, hc2⟩ := hload
          refine ⟨c :: cs, ?_, by simp only [VRL]; exact ⟨_, _, rfl, hc2, q⟩⟩
          rw [List.mapM_cons, Sem.run_bind, hc1]
          simp only [Sem.run_bind, Sem.run_pure, Result.andThen_ok, p]
        split at h1
        · rename_i n ha hn
          cases h1
          simp only [resA] at hv
          split at hv
          · rename_i v h3
            split at hv
            · rename_i v0 h0 vs' h4 h5
              cases hv
              exact fin h3 h4 h5 (.inl ⟨n, ha, hn, rfl⟩)
            · cases hv
          · cases hv
        · rename_i ha hn
          cases h1
          simp only [resA] at hv
          split at hv
          · rename_i v h3
            split at hv
            · rename_i v0 h0 vs' h4 h5
              cases hv
              exact fin h3 h4 h5 (.inr ⟨ha, rfl⟩)
            · cases hv
          · cases hv
        · cases h1
    · cases ht

theorem fn_sound {f : FuncId} {fn : Func} {K : List Hint} {af : AFn} (hf : P.funcs[f]? = some fn) (ht : trFn P fn K = some af) (hC : CSound P C) : FSound P f (callA C af) := by
  intro args h r h' μ w cargs hcall hr hargs cs
  unfold trFn at ht
  split at ht
  · rename_i c hb
    split at ht
    · rename_i ac rs h1 h2
      cases ht
      let b : Frame := { fn := f, tmps := #[], todo := [], defers := [], mode := .run, kind := .normal }
      have hlen := VRL.length hargs
      have henter : Frame.enter P f cargs.toArray .normal = Fat b { tmps := cargs.toArray ++ Array.replicate (fn.ntmps - cargs.toArray.size) undef, defers := [] } [.code c] := by
        simp [Frame.enter, Fat, hf, hb, b]
      have henv : EnvR μ (args ++ List.replicate (fn.ntmps - args.length) .junk) (cargs.toArray ++ Array.replicate (fn.ntmps - cargs.toArray.size) undef) := by
        refine ⟨by simp [hlen], fun i v hv => ?_⟩
        by_cases hi : i < args.length
        · rw [List.getElem?_append_left hi] at hv
          cases hg : args[i]? with
          | none => rw [hg] at hv; cases hv
          | some y =>
            rw [hg] at hv
            have := notJunk_some hv
            subst this
            obtain ⟨c', p, q⟩ := VRL.get hargs i _ hg
            exact ⟨c', by rw [Array.getElem?_append_left (by simp [hlen]; exact hi)]; simpa using p, q⟩
        · rw [List.getElem?_append_right (by omega), List.getElem?_replicate] at hv
          split at hv
          · simp [AV.notJunk] at hv
          · cases hv
      have fin : ∀ {x : AExit} {e' : List AV} {h1 : AHeap}, (x = .normal ∨ x = .ret) → exec C ac (args ++ List.replicate (fn.ntmps - args.length) .junk) h = some (x, e', h1) → (resA e' h1 rs).map (fun vs => (retA vs, h1)) = some (r, h') →
          ∃ fr w' μ' cv, Steps P (lone (Frame.enter P f cargs.toArray .normal) cs w) (lone fr cs w') ∧ fr.fn = f ∧ fr.leaving P w' (.returned cv) ∧ VR μ' r cv ∧ Rel μ' h' w' ∧ Step μ h w μ' h' w' := by
        intro x e' h1 hx hex hres
        obtain ⟨a', w', μ', s, d, v, hrel, hst⟩ := exec_sound hC c _ _ _ _ _ _ _ _ μ w { tmps := cargs.toArray ++ Array.replicate (fn.ntmps - cargs.toArray.size) undef, defers := [] } b [] cs ‹trCode P c K = some (ac, [])› hex hr henv
        cases hre : resA e' h1 rs with
        | none => rw [hre] at hres; cases hres
        | some vs =>
          rw [hre] at hres; cases hres
          obtain ⟨cvs, p, q⟩ := res_sound (P := P) hrel v h2 hre
          have hresult : (results fn a'.tmps).run P w' = .ok (if hsz : cvs.toArray.size = 1 then cvs.toArray[0] else .tuple cvs.toArray) w' := by
            unfold results
            rw [Sem.run_bind, Array.mapM_eq_mapM_toList, Sem.run_map]
            have p' : (fn.results.toList.mapM fun | .tmp t => pure (a'.tmps.getD t undef) | .cell a t => do loadVar t (← asAddr (a'.tmps.getD a undef)) : Sem (List Value)).run P w' = .ok cvs w' := p
            have p'' : Sem.run P (List.mapM (fun x => match x with | .tmp t => (pure (a'.tmps.getD t undef) : Sem Value) | .cell a t => do let __do_lift ← asAddr (a'.tmps.getD a undef); loadVar t __do_lift) fn.results.toList) w' = .ok cvs w' := p'
            erw [p'']
            simp
          have hvr : VR μ' (retA vs) (if hsz : cvs.toArray.size = 1 then cvs.toArray[0] else .tuple cvs.toArray) := by
            have hl := VRL.length q
            cases vs with
            | nil =>
              have : cvs = [] := List.length_eq_zero_iff.1 hl
              subst this
              simp [retA, VR, VRL]
            | cons y ys => cases ys with
              | nil =>
                obtain ⟨c', rfl, hq⟩ := VRL.one q
                simpa [retA] using hq
              | cons z zs =>
                have hne : ¬ cvs.toArray.size = 1 := by simp only [List.size_toArray]; rw [hl]; simp
                rw [dif_neg hne]
                simp only [retA, VR]
                exact ⟨cvs, q, rfl⟩
          rcases hx with rfl | rfl
          · refine ⟨{ Fat b a' [] with mode := .returning }, w', μ', _, ?_, rfl, ⟨rfl, d, rfl, fn, hf, hresult⟩, hvr, hrel, hst⟩
            rw [henter]
            exact Steps.trans s (Steps.one (step_lone_go (by simp [stepG, stepG.exec, Fat, b])))
          · obtain ⟨k0, s⟩ := s
            refine ⟨{ Fat b a' (.code .ret :: k0) with mode := .returning }, w', μ', _, ?_, rfl, ⟨rfl, d, rfl, fn, hf, hresult⟩, hvr, hrel, hst⟩
            rw [henter]
            exact Steps.trans s (Steps.one (step_lone_go (by simp [stepG, stepG.exec, Fat, b])))
      unfold callA at hcall
      split at hcall
      · exact fin (.inl rfl) ‹_› hcall
      · exact fin (.inr rfl) ‹_› hcall
      · cases hcall
    · cases ht
  · cases ht

end
end Go.Proofs.Ytjmocbadnclldaa
