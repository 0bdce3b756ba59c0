/- Soundness of code, whole. -/
import Derived.Test.YtjdemlagmamlbaaM17r
namespace Go.Proofs.Ytjdemlagmamlbaa

/-- which codes stand for which -/
def LamP (P : Program) : Lam := fun c ac => trCode P c = some ac

section
variable {P : Program} {C : SemW}

/-- the round that a frame is -/
def RoR (μ : Mu) (ro : Option Nat) (b : Frame) : Prop :=
  match ro with
  | none => b.roundOf = none
  | some id => ∃ l, μ id = some l ∧ b.roundOf = some l.block

theorem RoR.ext {μ μ' : Mu} {ro : Option Nat} {b : Frame} (h : RoR μ ro b) (e : Ext μ μ') : RoR μ' ro b := by
  cases ro with
  | none => exact h
  | some id => obtain ⟨l, h1, h2⟩ := h; exact ⟨l, e _ _ h1, h2⟩

theorem Ends.from {Λ : Lam} {m m' : Machine} {b : Frame} {k : List Item} {cs : List Frame} {D : List Deferred → World → Prop} {μ μ' : Mu} {h h' : AHeap} {w w' : World} {Q : AExit → List AV → AHeap → Prop}
    (s : Steps P m m') (t : Step μ h w μ' h' w') (e : Ends P Λ m' b k cs D μ' h' w' Q) : Ends P Λ m b k cs D μ h w Q := by
  obtain ⟨x, e1, h1, a1, w1, μ1, q, r, d, v, rel, st⟩ := e
  exact ⟨x, e1, h1, a1, w1, μ1, q, Arr.of_steps s r, d, v, rel, t.trans st⟩

theorem loop_block {Λ : Lam} {μ : Mu} {h : AHeap} {w : World} (r : Rel Λ μ h w) {l : Nat} {lc : Loc} {st : LoopState} {j : Option AExit} {t : List AV} {p : List Nat} {x y : ACode} (hg : h.get l = some (.loop st j t p x y)) (hl : μ l = some lc) :
    ∃ r0 : Go.Loop, w.heap[lc.block]? = some (.loop r0) ∧ r0.state = st ∧ r0.pending = j.map AExit.code ∧ EnvR μ t r0.tmps ∧ r0.params.toList = p ∧ Λ r0.assign x ∧ Λ r0.body y := by
  obtain ⟨l', hl', hob⟩ := r.obj _ _ hg
  obtain rfl : lc = l' := Option.some.inj (hl.symm.trans hl')
  exact hob

theorem rfun_core {Λ : Lam} (hC : CSound P Λ C) {g : Operand} {ps : Array Tmp} {x y : Code} {ax ay : ACode} {fv : Nat} {first captured : List AV} {e : List AV} {h : AHeap} {Q : AExit → List AV → AHeap → Prop} {μ : Mu} {w w1 : World} {a : Act} {b : Frame} {k : List Item} {cs : List Frame}
    {D : List Deferred → World → Prop} {mk : List Deferred} {dl : Nat} (hΛx : Λ x ax) (hΛy : Λ y ay) (hv : VR μ (.func fv first captured) (a.eval g))
    (hcall : C (.f fv) (first ++ [.yield h.next] ++ captured) (h.new (.loop .ready none e ps.toList ax ay)) fun _ h' => endW h.next e h' Q)
    (hr1 : Rel Λ μ h w1) (hs1 : Step μ h w μ h w1) (he : EnvR μ e a.tmps)
    (hent : (Instr.enterLoop b.fn a.tmps ps x y b.roundOf).run P w = .ok (w1.heap.size, mk) (wpush w1 (.loop { state := .ready, pending := none, fn := b.fn, tmps := a.tmps, params := ps, assign := x, body := y, defers := dl })))
    (hD : ∀ μ' h' w', Rel Λ μ' h' w' → Step (μ.with h.next ⟨w1.heap.size, 0, 0⟩) (h.new (.loop .ready none e ps.toList ax ay)) (wpush w1 (.loop { state := .ready, pending := none, fn := b.fn, tmps := a.tmps, params := ps, assign := x, body := y, defers := dl })) μ' h' w' → ∀ o, D (mk ++ a.defers) (pobj w' w1.heap.size o)) :
    Ends P Λ (lone (Fat b a (.code (.rangeFunc g ps x y) :: k)) cs w) b k cs D μ h w Q := by
  simp only [VR] at hv
  obtain ⟨xs, ys, vx, vy, hcf⟩ := hv
  obtain ⟨hrel, hnew⟩ := hr1.new (.loop .ready none e ps.toList ax ay) (.loop { state := .ready, pending := none, fn := b.fn, tmps := a.tmps, params := ps, assign := x, body := y, defers := dl }) ⟨w1.heap.size, 0, 0⟩ rfl
    (fun μ' hx => ⟨{ state := .ready, pending := none, fn := b.fn, tmps := a.tmps, params := ps, assign := x, body := y, defers := dl }, by simp, rfl, rfl, he.ext hx, rfl, hΛx, hΛy⟩)
  change Rel Λ _ _ (wpush w1 _) at hrel
  have hargs : VRL (μ.with h.next ⟨w1.heap.size, 0, 0⟩) (first ++ [.yield h.next] ++ captured) (xs ++ [.func (.yield w1.heap.size) #[] #[]] ++ ys) := by
    refine ((VRL.ext hnew.ext _ _ vx).append ?_).append (VRL.ext hnew.ext _ _ vy)
    simp only [VRL, VR]
    exact ⟨_, _, rfl, ⟨⟨w1.heap.size, 0, 0⟩, Mu.with_same _ _ _, rfl⟩, rfl⟩
  obtain ⟨r, h', fr, w', μ', cv, hq, hst, hfn, hlv, hvv, hrel', hstep⟩ := hC.fn fv _ _ _ _ _ _ hcall hrel hargs (Fat b { a with defers := mk ++ a.defers } (.inRangeFunc w1.heap.size :: k) :: cs)
  have henter := st_range (P := P) (b := b) (a := a) (k := k) (cs := cs) (w := w) (g := g) (d := { target := .fn (.func fv) ys.toArray, args := xs.toArray ++ #[.func (.yield w1.heap.size) #[] #[]] }) (f := fv) (args := (xs ++ [Value.func (.yield w1.heap.size) #[] #[]] ++ ys).toArray) hent
    (by
      have e0 : (#[Operand.const (.func (.yield w1.heap.size) #[] #[])] : Array Operand).map a.eval = #[.func (.yield w1.heap.size) #[] #[]] := by simp [Act.eval]
      simp only [resolve, hcf, Deferred.ofValue, e0, Sem.run_pure])
    (by
      have := hC.ent _ _ _ _ hcall (xs ++ [Value.func (.yield w1.heap.size) #[] #[]] ++ ys).toArray
      have e1 : xs.toArray ++ #[Value.func (.yield w1.heap.size) #[] #[]] ++ ys.toArray = (xs ++ [Value.func (.yield w1.heap.size) #[] #[]] ++ ys).toArray := by apply Array.ext'; simp
      simp only [invoke, e1]
      exact this _)
  have hback : Steps P (lone (Fat b a (.code (.rangeFunc g ps x y) :: k)) cs w) (lone (Fat b { a with defers := mk ++ a.defers } (.endRangeFunc w1.heap.size :: k)) cs w') := by
    refine (Steps.one henter).trans (hst.trans (Steps.one ?_))
    rw [← fin_inRange w1.heap.size cv]; exact step_leave_returned hlv
  unfold endW at hq
  split at hq
  · rename_i st j t p x' y' hg
    obtain ⟨hb, hq⟩ := hq
    have hloc : μ' h.next = some ⟨w1.heap.size, 0, 0⟩ := hstep.ext _ _ (Mu.with_same _ _ _)
    obtain ⟨r0, hr0, hst0, hpd, _⟩ := loop_block hrel' hg hloc
    have hend := rn_endLoop (P := P) hr0 (by rw [hst0]; exact hb)
    have hk := hrel'.kill hg
    have hun : ∀ id o l, (h'.kill h.next).get id = some o → μ' id = some l → l.block ≠ w1.heap.size := by
      intro id o l hid hl
      by_cases hne : id = h.next
      · subst hne; rw [AHeap.get_kill_same] at hid; cases hid
      · rw [AHeap.get_kill_ne _ (fun e => hne e.symm)] at hid
        exact fun eq => hrel'.inj h.next id _ o _ l hg hid (fun e => hne e.symm) rfl hloc hl eq.symm
    have hrelE := hk.1.pobj (.loop { r0 with state := .exhausted }) hun
    have hstepE : Step μ h w μ' (h'.kill h.next) (pobj w' w1.heap.size (.loop { r0 with state := .exhausted })) := (hs1.trans (hnew.trans (hstep.trans hk.2))).pobj _ hs1.size
    have hsteps := hback.trans (Steps.one (st_endRange (b := b) (a := { a with defers := mk ++ a.defers }) (k := k) (cs := cs) hend))
    have hj : (r0.pending.map Item.code).toList = ((j.map AExit.code).map Item.code).toList := by rw [hpd]
    rw [hj] at hsteps
    refine ⟨j.getD .normal, e, h'.kill h.next, { a with defers := mk ++ a.defers }, _, μ', hq, ?_, hD _ _ _ hrel' hstep _, he.ext (hnew.ext.trans hstep.ext), hrelE, hstepE⟩
    cases j with
    | none => exact hsteps
    | some j => cases j with
      | normal => exact hsteps.trans (Steps.one st_skip)
      | exit id => exact ⟨k, hsteps, rfl⟩
      | ret => exact ⟨k, hsteps⟩
  · exact hq.elim

theorem exec_sound {C : SemW} (hC : CSound P (LamP P) C) {B : Nat} {ro : Option Nat} {b : Frame} : ∀ (c : Code) (ac : ACode) (e : List AV) (h : AHeap) (Q : AExit → List AV → AHeap → Prop) (μ : Mu) (w : World) (a : Act) (k : List Item) (cs : List Frame), trCode P c = some ac → execW C ro ac e h Q → Rel (LamP P) μ h w → EnvR μ e a.tmps →
    RoR μ ro b → (ro = none → Marks B a.defers w) → B ≤ w.heap.size →
    Ends P (LamP P) (lone (Fat b a (.code c :: k)) cs w) b k cs (fun ds w => ro = none → Marks B ds w) μ h w Q
  | .skip, ac, e, h, Q, μ, w, a, k, cs, ht, hx, hr, he, hro, hm, hB => by
    simp only [trCode] at ht; cases ht
    simp only [execW] at hx
    exact ⟨.normal, e, h, a, w, μ, hx, Steps.one st_skip, hm, he, hr, Step.refl _ _ _⟩
  | .region id ops true, ac, e, h, Q, μ, w, a, k, cs, ht, hx, hr, he, hro, hm, hB => by
    simp only [trCode] at ht
    split at ht
    · rename_i is hi
      split at ht
      · rename_i ds hds
        split at ht
        · rename_i hok
          simp only [Bool.and_eq_true] at hok
          cases ht
          simp only [execW] at hx
          obtain ⟨e', h', a', w', μ', q, s, d, v, r, t⟩ := draw_sound (b := b) (k := k) hC hi hds hok.1 hok.2 hx hr he cs
          exact ⟨.normal, e', h', a', w', μ', q, s, fun hn => by rw [d]; exact (hm hn).step hr t, v, r, t⟩
        · cases ht
      · cases ht
    · cases ht
  | .region id ops false, ac, e, h, Q, μ, w, a, k, cs, ht, hx, hr, he, hro, hm, hB => by
    simp only [trCode] at ht
    cases hi : trIns P ops ops.toList with
    | none => rw [hi] at ht; cases ht
    | some is =>
      rw [hi] at ht; cases ht
      simp only [execW] at hx
      obtain ⟨e', h', a', w', μ', q, s, d, v, r, t⟩ := ins_sound (b := b) (k := k) hC cs ops.toList is 0 e h _ μ w a (by simp) hi hx hr he
      refine ⟨.normal, e', h', a', w', μ', q, ?_, fun hn => by rw [d]; exact (hm hn).step hr t, v, r, t⟩
      rw [Nat.sub_zero, ← List.range_eq_range'] at s
      exact (Steps.one st_region).trans s
  | .seq c1 c2, ac, e, h, Q, μ, w, a, k, cs, ht, hx, hr, he, hro, hm, hB => by
    simp only [trCode] at ht
    split at ht
    · rename_i x1 x2 h1 h2
      cases ht
      simp only [execW] at hx
      obtain ⟨x, e1, g1, a1, w1, μ1, q, s1, d1, v1, r1, t1⟩ := exec_sound hC c1 _ e h _ μ w a (.code c2 :: k) cs h1 hx hr he hro hm hB
      cases x with
      | normal =>
        exact Ends.from ((Steps.one st_seq).trans s1) t1 (exec_sound hC c2 _ e1 g1 Q μ1 w1 a1 k cs h2 q r1 v1 (hro.ext t1.ext) d1 (Nat.le_trans hB t1.size))
      | exit id =>
        obtain ⟨k0, s, qk⟩ := s1
        exact ⟨.exit id, e1, g1, a1, w1, μ1, q, ⟨k0, (Steps.one st_seq).trans s, qk⟩, d1, v1, r1, t1⟩
      | ret =>
        obtain ⟨k0, s⟩ := s1
        exact ⟨.ret, e1, g1, a1, w1, μ1, q, ⟨k0, (Steps.one st_seq).trans s⟩, d1, v1, r1, t1⟩
    · cases ht
  | .cond c c1 c2, ac, e, h, Q, μ, w, a, k, cs, ht, hx, hr, he, hro, hm, hB => by
    simp only [trCode] at ht
    split at ht
    · rename_i o x1 x2 hc h1 h2
      cases ht
      simp only [execW] at hx
      split at hx
      · rename_i hb
        have hv := VR.bool (opd_ok he hc hb)
        exact Ends.from (Steps.one (st_cond (t := true) hv)) (Step.refl _ _ _) (exec_sound hC c1 _ e h Q μ w a k cs h1 hx hr he hro hm hB)
      · rename_i hb
        have hv := VR.bool (opd_ok he hc hb)
        exact Ends.from (Steps.one (st_cond (t := false) hv)) (Step.refl _ _ _) (exec_sound hC c2 _ e h Q μ w a k cs h2 hx hr he hro hm hB)
      · exact hx.elim
    · cases ht
  | .block id c, ac, e, h, Q, μ, w, a, k, cs, ht, hx, hr, he, hro, hm, hB => by
    simp only [trCode] at ht
    cases h1 : trCode P c with
    | none => rw [h1] at ht; cases ht
    | some x1 =>
      rw [h1] at ht; cases ht
      simp only [execW] at hx
      obtain ⟨x, e1, g1, a1, w1, μ1, q, s1, d1, v1, r1, t1⟩ := exec_sound hC c _ e h _ μ w a (.inBlock id :: k) cs h1 hx hr he hro hm hB
      cases x with
      | normal => exact ⟨.normal, e1, g1, a1, w1, μ1, q, (Steps.one st_block).trans (Steps.trans s1 (Steps.one st_inBlock)), d1, v1, r1, t1⟩
      | ret =>
        obtain ⟨k0, s⟩ := s1
        exact ⟨.ret, e1, g1, a1, w1, μ1, q, ⟨k0, (Steps.one st_block).trans s⟩, d1, v1, r1, t1⟩
      | exit i =>
        obtain ⟨k0, s0, q0⟩ := s1
        by_cases hid : i = id
        · simp only [hid, if_true] at q
          have hex : exitTo i k0 = some k := by rw [q0]; simp [exitTo, hid]
          exact ⟨.normal, e1, g1, a1, w1, μ1, q, (Steps.one st_block).trans (s0.trans (Steps.one (st_exit hex))), d1, v1, r1, t1⟩
        · simp only [hid, if_false] at q
          refine ⟨.exit i, e1, g1, a1, w1, μ1, q, ⟨k0, (Steps.one st_block).trans s0, ?_⟩, d1, v1, r1, t1⟩
          rw [q0]
          have : (id == i) = false := by simp; exact fun h => hid h.symm
          simp [exitTo, this]
  | .loop c, ac, e, h, Q, μ, w, a, k, cs, ht, hx, hr, he, hro, hm, hB => by
    simp only [trCode] at ht
    cases h1 : trCode P c with
    | none => rw [h1] at ht; cases ht
    | some x1 =>
      rw [h1] at ht; cases ht
      simp only [execW] at hx
      have key : ∀ (n : Nat) (e : List AV) (h : AHeap) (μ : Mu) (w : World) (a : Act), iterW (execW C ro x1) n e h Q → Rel (LamP P) μ h w → EnvR μ e a.tmps → RoR μ ro b → (ro = none → Marks B a.defers w) → B ≤ w.heap.size →
          Ends P (LamP P) (lone (Fat b a (.code c :: .inLoop c :: k)) cs w) b k cs (fun ds w => ro = none → Marks B ds w) μ h w Q := by
        intro n
        induction n with
        | zero => intro e h μ w a hx; exact hx.elim
        | succ n ih =>
          intro e h μ w a hx hr he hro hm hB
          simp only [iterW] at hx
          obtain ⟨x, e1, g1, a1, w1, μ1, q, s1, d1, v1, r1, t1⟩ := exec_sound hC c _ e h _ μ w a (.inLoop c :: k) cs h1 hx hr he hro hm hB
          cases x with
          | normal => exact Ends.from (Steps.trans s1 (Steps.one st_inLoop)) t1 (ih e1 g1 μ1 w1 a1 q r1 v1 (hro.ext t1.ext) d1 (Nat.le_trans hB t1.size))
          | exit id =>
            obtain ⟨k0, s, qk⟩ := s1
            exact ⟨.exit id, e1, g1, a1, w1, μ1, q, ⟨k0, s, qk⟩, d1, v1, r1, t1⟩
          | ret =>
            obtain ⟨k0, s⟩ := s1
            exact ⟨.ret, e1, g1, a1, w1, μ1, q, ⟨k0, s⟩, d1, v1, r1, t1⟩
      exact Ends.from (Steps.one st_loop) (Step.refl _ _ _) (key _ e h μ w a hx hr he hro hm hB)
  | .exit id, ac, e, h, Q, μ, w, a, k, cs, ht, hx, hr, he, hro, hm, hB => by
    simp only [trCode] at ht; cases ht
    simp only [execW] at hx
    exact ⟨.exit id, e, h, a, w, μ, hx, ⟨k, Steps.refl _ _, rfl⟩, hm, he, hr, Step.refl _ _ _⟩
  | .ret, ac, e, h, Q, μ, w, a, k, cs, ht, hx, hr, he, hro, hm, hB => by
    simp only [trCode] at ht; cases ht
    simp only [execW] at hx
    exact ⟨.ret, e, h, a, w, μ, hx, ⟨k, Steps.refl _ _⟩, hm, he, hr, Step.refl _ _ _⟩
  | .rangeFunc g ps x y, ac, e, h, Q, μ, w, a, k, cs, ht, hx, hr, he, hro, hm, hB => by
    simp only [trCode] at ht
    split at ht
    · rename_i o ax ay hg h1 h2
      cases ht
      simp only [execW] at hx
      split at hx
      · rename_i fv first captured hf
        obtain ⟨hlp, hcall⟩ := hx
        have hv := opd_ok he hg hf
        cases ro with
        | none =>
          have hrn : b.roundOf = none := hro
          obtain ⟨hr1, hs1⟩ := hr.wpush (.deferred (some []))
          have hsz : (wpush w (.deferred (some []))).heap.size = w.heap.size + 1 := by simp [wpush]
          refine rfun_core (w1 := wpush w (.deferred (some []))) (dl := w.heap.size) (mk := [mark w.heap.size]) hC h1 h2 hv hcall hr1 hs1 he (by rw [hrn, hsz]; exact rn_enter_outer _ _ _ _ _) ?_
          intro μ' h' w' hr' hs' o _
          obtain ⟨Ds, d1, d2, d3⟩ := hm rfl
          have hlt : ∀ D, D ∈ Ds → D < w.heap.size := fun D hD => (Array.getElem?_eq_some_iff.1 (d3 D hD).2).1
          have hrel1 := (hr1.new (.loop .ready none e ps.toList ax ay) (.loop { state := .ready, pending := none, fn := b.fn, tmps := a.tmps, params := ps, assign := x, body := y, defers := w.heap.size }) ⟨(wpush w (.deferred (some []))).heap.size, 0, 0⟩ rfl
            (fun μ' hx => ⟨{ state := .ready, pending := none, fn := b.fn, tmps := a.tmps, params := ps, assign := x, body := y, defers := w.heap.size }, by simp, rfl, rfl, he.ext hx, rfl, h1, h2⟩)).1
          have hM : Marks B ([mark w.heap.size] ++ a.defers) (wpush (wpush w (.deferred (some []))) (.loop { state := .ready, pending := none, fn := b.fn, tmps := a.tmps, params := ps, assign := x, body := y, defers := w.heap.size })) := by
            refine ⟨w.heap.size :: Ds, by rw [d1]; rfl, List.nodup_cons.2 ⟨fun hD => ?_, d2⟩, fun D hD => ?_⟩
            · have := hlt _ hD; omega
            · rcases List.mem_cons.1 hD with rfl | hD
              · refine ⟨hB, ?_⟩
                simp only [wpush]
                rw [Array.getElem?_push, Array.size_push, if_neg (by omega), Array.getElem?_push, if_pos rfl]
              · have := hlt D hD
                refine ⟨(d3 D hD).1, ?_⟩
                simp only [wpush]
                rw [Array.getElem?_push, Array.size_push, if_neg (by omega), Array.getElem?_push, if_neg (by omega)]
                exact (d3 D hD).2
          obtain ⟨Es, g1, g2, g3⟩ := hM.step hrel1 hs'
          refine ⟨Es, g1, g2, fun D hD => ?_⟩
          have hDs : D ∈ w.heap.size :: Ds := by
            have : (Es.map mark) = (w.heap.size :: Ds).map mark := by rw [← g1, d1]; rfl
            have hm2 : mark D ∈ (w.heap.size :: Ds).map mark := by rw [← this]; exact List.mem_map_of_mem hD
            obtain ⟨E, hE, hEe⟩ := List.mem_map.1 hm2
            have : E = D := by simpa [mark] using hEe
            rw [← this]; exact hE
          have hDne : D ≠ (wpush w (.deferred (some []))).heap.size := by
            rw [hsz]
            rcases List.mem_cons.1 hDs with rfl | h3
            · omega
            · have := hlt D h3; omega
          refine ⟨(g3 D hD).1, ?_⟩
          rw [pobj_other hDne]
          exact (g3 D hD).2
        | some l0 =>
          obtain ⟨st, j, t, p, x0, y0, hl0⟩ := hlp l0 rfl
          obtain ⟨lc, hlc, hrn⟩ := hro
          obtain ⟨r0, hr0, _⟩ := loop_block hr hl0 hlc
          refine rfun_core (w1 := w) (dl := r0.defers) (mk := []) hC h1 h2 hv hcall hr (Step.refl _ _ _) he (by rw [hrn]; exact rn_enter_inner hr0 _ _ _ _ _) ?_
          intro μ' h' w' _ _ o hn
          cases hn
      · exact hx.elim
    · cases ht
  | .scope .., ac, e, h, Q, μ, w, a, k, cs, ht, hx, hr, he, hro, hm, hB => by simp [trCode] at ht
  | .label .., ac, e, h, Q, μ, w, a, k, cs, ht, hx, hr, he, hro, hm, hB => by simp [trCode] at ht
  | .goto .., ac, e, h, Q, μ, w, a, k, cs, ht, hx, hr, he, hro, hm, hB => by simp [trCode] at ht
  | .refuse .., ac, e, h, Q, μ, w, a, k, cs, ht, hx, hr, he, hro, hm, hB => by simp [trCode] at ht

end
end Go.Proofs.Ytjdemlagmamlbaa
