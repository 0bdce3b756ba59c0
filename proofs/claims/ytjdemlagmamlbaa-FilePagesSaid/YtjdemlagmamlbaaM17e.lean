/- A region whose order is open: soundness. -/
import Derived.Test.YtjdemlagmamlbaaM17d
namespace Go.Proofs.Ytjdemlagmamlbaa
variable {Λ : Lam}

section
variable {P : Program} {C : SemW}

def maskE (q : Nat → Bool) (e : List AV) : List AV := e.mapIdx fun t v => if q t then v else .junk

theorem maskE_get (q : Nat → Bool) (e : List AV) (t : Nat) : (maskE q e)[t]? = (e[t]?).map fun v => if q t then v else .junk := by
  simp [maskE, List.getElem?_mapIdx]

theorem maskE_length (q : Nat → Bool) (e : List AV) : (maskE q e).length = e.length := by simp [maskE]

theorem maskE_keep {q : Nat → Bool} {e : List AV} {t : Nat} (h : q t = true) : (maskE q e)[t]? = e[t]? := by
  rw [maskE_get]; cases e[t]? <;> simp [h]

theorem maskE_all {q : Nat → Bool} {e : List AV} (h : ∀ t, q t = true) : maskE q e = e := by
  apply List.ext_getElem?
  intro t
  exact maskE_keep (h t)

theorem EnvR.unmask {μ : Mu} {q q' : Nat → Bool} {e : List AV} {t : Array Value} (h : EnvR μ (maskE q e) t) (hq : ∀ s, q' s = true → q s = true) : EnvR μ (maskE q' e) t := by
  refine ⟨by rw [maskE_length]; have := h.1; rwa [maskE_length] at this, fun i v hv => h.2 i v ?_⟩
  rw [maskE_get] at hv ⊢
  cases he : e[i]? with
  | none => rw [he] at hv; cases hv
  | some x =>
    rw [he] at hv
    simp only [Option.map_some, Option.bind_some] at hv ⊢
    by_cases hi : q' i = true
    · rw [if_pos hi] at hv; rw [if_pos (hq i hi)]; exact hv
    · rw [if_neg hi] at hv; cases hv

theorem EnvR.wrote {μ μ' : Mu} {q q' : Nat → Bool} {e : List AV} {a : Act} {v : AV} {cv : Value} {dst : Option Nat} (h : EnvR μ (maskE q e) a.tmps) (hx : Ext μ μ') (hv : VR μ' v cv) (hd : ∀ d x, dst = some d → e[d]? = some x → x = v)
    (hq : ∀ t, q' t = true → t ∉ dst.toList → q t = true) : EnvR μ' (maskE q' e) (a.put dst cv).tmps := by
  have hlen : e.length ≤ a.tmps.size := by have := h.1; rwa [maskE_length] at this
  have h0 := h.ext hx
  cases dst with
  | none => exact h0.unmask fun s hs => hq s hs (by simp)
  | some d =>
    have hsz : (a.put (some d) cv).tmps = a.tmps.setIfInBounds d cv := rfl
    rw [hsz]
    refine ⟨by rw [maskE_length]; simpa using hlen, fun i x hx => ?_⟩
    by_cases hid : i = d
    · subst hid
      rw [maskE_get] at hx
      cases he : e[i]? with
      | none => rw [he] at hx; cases hx
      | some y =>
        rw [he] at hx
        simp only [Option.map_some, Option.bind_some] at hx
        by_cases hi : q' i = true
        · rw [if_pos hi] at hx
          have e1 := notJunk_some hx
          have e2 := hd i y rfl he
          subst e1; subst e2
          have hlt : i < e.length := (List.getElem?_eq_some_iff.1 he).1
          refine ⟨cv, ?_, hv⟩
          rw [Array.getElem?_setIfInBounds, if_pos rfl, if_pos (by omega)]
        · rw [if_neg hi] at hx; cases hx
    · have h1 : (( maskE q e)[i]?).bind AV.notJunk = some x := by
        rw [maskE_get] at hx ⊢
        cases he : e[i]? with
        | none => rw [he] at hx; cases hx
        | some y =>
          rw [he] at hx
          simp only [Option.map_some, Option.bind_some] at hx ⊢
          by_cases hi : q' i = true
          · rw [if_pos hi] at hx; rw [if_pos (hq i hi (by simp [hid]))]; exact hx
          · rw [if_neg hi] at hx; cases hx
      obtain ⟨c, p, r⟩ := h0.2 i x h1
      exact ⟨c, by rw [Array.getElem?_setIfInBounds, if_neg (fun e => hid e.symm)]; exact p, r⟩

theorem okGo_split {pre : List (List Nat)} : ∀ {p : List DI} {done : List DI} {d : DI} {b : List DI}, okGo pre done (p ++ d :: b) = true → Chk pre (p.reverse ++ done) d b
  | [], done, d, b, h => (okGo_chk h).1
  | x :: p, done, d, b, h => by
    have := okGo_split (okGo_chk (d := x) (b := p ++ d :: b) h).2
    simpa using this

theorem mkRs_mem {I : List AIn} : ∀ {rs : List Nat} {rs' : List (Nat × AIn)}, mkRs I rs = some rs' → ∀ r, r ∈ rs' → I[r.1]? = some r.2
  | [], rs', h, r, hr => by simp only [mkRs] at h; cases h; cases hr
  | j :: js, rs', h, r, hr => by
    simp only [mkRs] at h
    split at h
    · rename_i i rs1 h1 h2
      cases h
      rcases List.mem_cons.1 hr with rfl | hr
      · exact h1
      · exact mkRs_mem h2 r hr
    · cases h

theorem mkDraw_mem {I : List AIn} : ∀ {l : List (Nat × List Nat × Bool)} {ds : List DI}, mkDraw I l = some ds → ∀ d, d ∈ ds → I[d.j]? = some d.i ∧ ∀ r, r ∈ d.rs → I[r.1]? = some r.2
  | [], ds, h, d, hd => by simp only [mkDraw] at h; cases h; cases hd
  | (j, rs, fin) :: l, ds, h, d, hd => by
    simp only [mkDraw] at h
    split at h
    · rename_i i rs1 ds1 h1 h2 h3
      cases h
      rcases List.mem_cons.1 hd with rfl | hd
      · exact ⟨h1, mkRs_mem h2⟩
      · exact mkDraw_mem h3 d hd
    · cases h

theorem trIns_get {ops : Array Oper} : ∀ {os : List Oper} {is : List AIn}, trIns P ops os = some is → ∀ (j : Nat) (i : AIn), is[j]? = some i → ∃ o, os[j]? = some o ∧ trIn P ops o = some i
  | [], is, h, j, i, hj => by simp only [trIns] at h; cases h; simp at hj
  | o :: os, is, h, j, i, hj => by
    simp only [trIns] at h
    split at h
    · rename_i i1 is1 h1 h2
      cases h
      cases j with
      | zero => simp only [List.getElem?_cons_zero, Option.some.injEq] at hj; subst hj; exact ⟨o, rfl, h1⟩
      | succ j => simp only [List.getElem?_cons_succ] at hj ⊢; exact trIns_get h2 j i hj
    · cases h

theorem preOk_get {pre : List (List Nat)} : ∀ {os : List Oper} {i : Nat}, preOk pre os i = true → ∀ k o, os[k]? = some o → (∀ d, d ∈ hard o → d < i + k) ∧ ∀ j, j ∈ (pre[i + k]?).getD [] → ∃ d, d ∈ hard o ∧ (d = j ∨ j ∈ (pre[d]?).getD [])
  | [], i, _, k, o, hk => by simp at hk
  | o' :: os, i, h, k, o, hk => by
    simp only [preOk, Bool.and_eq_true, List.all_eq_true, decide_eq_true_eq, List.any_eq_true, Bool.or_eq_true, beq_iff_eq, List.contains_iff_mem] at h
    cases k with
    | zero =>
      simp only [List.getElem?_cons_zero, Option.some.injEq] at hk
      subst hk
      exact ⟨h.1.1, h.1.2⟩
    | succ k =>
      simp only [List.getElem?_cons_succ] at hk
      have := preOk_get h.2 k o hk
      rw [show i + 1 + k = i + (k + 1) by omega] at this
      exact this

/-- is the operation listed? -/
def On (L : Array Bool) (i : Nat) : Prop := L[i]? = some true

theorem On.set {L : Array Bool} {i j : Nat} (h : On L j) : On (L.setIfInBounds i true) j := by
  unfold On at *
  rw [Array.getElem?_setIfInBounds]
  split
  · rename_i e; subst e
    split
    · rfl
    · rename_i hs; rw [Array.getElem?_eq_none (by omega)] at h; cases h
  · exact h

theorem On.of_set {L : Array Bool} {i j : Nat} (h : On (L.setIfInBounds i true) j) : j = i ∨ On L j := by
  unfold On at *
  rw [Array.getElem?_setIfInBounds] at h
  split at h
  · rename_i e; exact .inl e.symm
  · exact .inr h

theorem ready_spec {ops : Array Oper} {L : Array Bool} {i : Nat} (h : i ∈ Region.ready .any ops L) : i < ops.size ∧ ¬ On L i ∧ ∃ o, ops[i]? = some o ∧ ∀ d, d ∈ hard o → On L d := by
  simp only [Region.ready, List.mem_filter, List.mem_range, Bool.and_eq_true, Bool.not_eq_true'] at h
  obtain ⟨h1, h2, h3⟩ := h
  refine ⟨h1, fun e => ?_, ops[i], by simp [h1], fun d hd => ?_⟩
  · unfold On at e
    rw [Array.getD_eq_getD_getElem?, e] at h2; simp at h2
  · rw [Array.getElem?_eq_getElem h1] at h3
    simp only [Option.map_some, Option.getD_some, Array.all_eq_true, Bool.or_eq_true, Bool.not_eq_true'] at h3
    simp only [hard, List.mem_map, List.mem_filter] at hd
    obtain ⟨e, ⟨he, hb⟩, rfl⟩ := hd
    obtain ⟨n, hn, rfl⟩ := Array.mem_iff_getElem.1 (Array.mem_toList_iff.1 he)
    rcases h3 n hn with h | h
    · rw [h] at hb; cases hb
    · unfold On
      rw [Array.getD_eq_getD_getElem?] at h
      cases hx : L[ops[i].after[n].on]? with
      | none => rw [hx] at h; cases h
      | some b => rw [hx] at h; simp at h; rw [h]

theorem ready_none {ops : Array Oper} {L : Array Bool} (hs : L.size = ops.size) (hlow : ∀ (k : Nat) (o : Oper), ops[k]? = some o → ∀ d, d ∈ hard o → d < k) (h : Region.ready .any ops L = []) : ∀ i, i < ops.size → On L i := by
  intro i
  induction i using Nat.strongRecOn with
  | ind i ih =>
    intro hi
    apply Classical.byContradiction
    intro hn
    have hf : L[i]? = some false := by
      unfold On at hn
      rw [Array.getElem?_eq_getElem (by omega)] at hn ⊢
      cases hb : L[i] with
      | true => rw [hb] at hn; exact absurd rfl hn
      | false => rfl
    have : i ∈ Region.ready .any ops L := by
      simp only [Region.ready, List.mem_filter, List.mem_range, Bool.and_eq_true, Bool.not_eq_true']
      refine ⟨hi, by rw [Array.getD_eq_getD_getElem?, hf]; rfl, ?_⟩
      rw [Array.getElem?_eq_getElem hi]
      simp only [Option.map_some, Option.getD_some, Array.all_eq_true, Bool.or_eq_true, Bool.not_eq_true']
      intro n hn2
      cases hb : Region.binds .any (ops[i].after[n]) with
      | false => exact .inl rfl
      | true =>
        refine .inr ?_
        have hd : (ops[i].after[n]).on ∈ hard ops[i] := by
          simp only [hard, List.mem_map, List.mem_filter]
          exact ⟨ops[i].after[n], ⟨by simp, hb⟩, rfl⟩
        have hlt := hlow i ops[i] (by simp [hi]) _ hd
        have := ih _ hlt (by omega)
        unfold On at this
        rw [Array.getD_eq_getD_getElem?, this]; rfl
    rw [h] at this; cases this

theorem pre_listed {ops : Array Oper} {L : Array Bool} {pre : List (List Nat)} (hs : L.size = ops.size) (hpre : ∀ (k : Nat) (o : Oper), ops[k]? = some o → (∀ d, d ∈ hard o → d < k) ∧ ∀ j, j ∈ (pre[k]?).getD [] → ∃ d, d ∈ hard o ∧ (d = j ∨ j ∈ (pre[d]?).getD []))
    (hcl : ∀ (k : Nat) (o : Oper), ops[k]? = some o → On L k → ∀ d, d ∈ hard o → On L d) : ∀ (k : Nat) (o : Oper), ops[k]? = some o → (∀ d, d ∈ hard o → On L d) → ∀ j, j ∈ (pre[k]?).getD [] → On L j := by
  intro k
  induction k using Nat.strongRecOn with
  | ind k ih =>
    intro o ho hh j hj
    obtain ⟨h1, h2⟩ := hpre k o ho
    obtain ⟨d, hd, hdj⟩ := h2 j hj
    rcases hdj with rfl | hdj
    · exact hh d hd
    · have hon := hh d hd
      have hlt : d < ops.size := by
        unfold On at hon
        have := (Array.getElem?_eq_some_iff.1 hon).1
        omega
      have hod : ops[d]? = some ops[d] := by simp [hlt]
      exact ih d (h1 d hd) _ hod (hcl d _ hod hon) j hdj

/-- all that write the slot are listed -/
def live (l : List DI) (L : Array Bool) (t : Nat) : Bool := l.all fun x => !x.i.dsts.contains t || L[x.j]? == some true

theorem live_spec {l : List DI} {L : Array Bool} {t : Nat} : live l L t = true ↔ ∀ x, x ∈ l → t ∈ x.i.dsts → On L x.j := by
  simp only [live, List.all_eq_true, Bool.or_eq_true, Bool.not_eq_true', beq_iff_eq, On]
  constructor
  · intro h x hx ht
    rcases h x hx with h | h
    · simp [ht] at h
    · exact h
  · intro h x hx
    by_cases ht : t ∈ x.i.dsts
    · exact .inr (h x hx ht)
    · refine .inl ?_
      cases hc : x.i.dsts.contains t with
      | false => rfl
      | true => exact absurd (List.contains_iff_mem.1 hc) ht

theorem count_set {L : Array Bool} {i : Nat} (hi : i < L.size) (hn : ¬ On L i) : (L.setIfInBounds i true).toList.count false + 1 ≤ L.toList.count false := by
  have hf : L.toList[i]? = some false := by
    rw [Array.getElem?_toList]
    unfold On at hn
    rw [Array.getElem?_eq_getElem hi] at hn ⊢
    cases hb : L[i] with
    | true => rw [hb] at hn; exact absurd rfl hn
    | false => rfl
  have key : ∀ (l : List Bool) (i : Nat), l[i]? = some false → (l.set i true).count false + 1 ≤ l.count false := by
    intro l
    induction l with
    | nil => intro i h; simp at h
    | cons x xs ih =>
      intro i h
      cases i with
      | zero =>
        simp only [List.getElem?_cons_zero, Option.some.injEq] at h
        subst h
        simp
      | succ i =>
        simp only [List.getElem?_cons_succ] at h
        have := ih i h
        simp only [List.set_cons_succ, List.count_cons]
        omega
  rw [Array.toList_setIfInBounds]
  exact key _ _ hf

theorem count_zero {L : Array Bool} (h : L.toList.count false = 0) : ∀ i, i < L.size → On L i := by
  intro i hi
  unfold On
  rw [Array.getElem?_eq_getElem hi]
  cases hb : L[i] with
  | true => rfl
  | false =>
    exfalso
    have : false ∈ L.toList := by rw [← hb]; simp
    have := List.count_pos_iff.2 this
    omega

/-- where two lists of slots agree -/
theorem EnvR.remask {μ : Mu} {q q' : Nat → Bool} {e e' : List AV} {t : Array Value} (h : EnvR μ (maskE q e) t) (hl : e'.length = e.length) (hq : ∀ s, q' s = true → q s = true ∧ e'[s]? = e[s]?) : EnvR μ (maskE q' e') t := by
  refine ⟨by rw [maskE_length, hl]; have := h.1; rwa [maskE_length] at this, fun i v hv => h.2 i v ?_⟩
  rw [maskE_get] at hv ⊢
  by_cases hi : q' i = true
  · obtain ⟨h1, h2⟩ := hq i hi
    rw [← h2]
    cases he : e'[i]? with
    | none => rw [he] at hv; cases hv
    | some x =>
      rw [he] at hv
      simp only [Option.map_some, Option.bind_some] at hv ⊢
      rw [if_pos hi] at hv; rw [if_pos h1]; exact hv
  · cases he : e'[i]? with
    | none => rw [he] at hv; cases hv
    | some x =>
      rw [he] at hv
      simp only [Option.map_some, Option.bind_some] at hv
      rw [if_neg hi] at hv; cases hv

theorem quiet_step {ops : Array Oper} {j : Nat} {o : Oper} {i : AIn} {ef : List AV} {h : AHeap} {μ : Mu} {w : World} {a : Act} {b : Frame} {rest : List Nat} {k : List Item} {q : Nat → Bool} (hC : CSound P Λ C) (ho : ops[j]? = some o) (ht : trIn P ops o = some i) (hcl : cls i.op ≠ 2)
    (hf : QFact ef i h) (hr : Rel Λ μ h w) (he : EnvR μ (maskE q ef) a.tmps) (hq : ∀ t, t ∈ i.reads → q t = true) (cs : List Frame) :
    ∃ a' w' μ', Steps P (lone (Fat b a (.inRegion ops (j :: rest) :: k)) cs w) (lone (Fat b a' (.inRegion ops rest :: k)) cs w') ∧ a'.defers = a.defers ∧ (∀ q' : Nat → Bool, (∀ t, q' t = true → t ∉ i.dsts → q t = true) → EnvR μ' (maskE q' ef) a'.tmps) ∧ Rel Λ μ' h w' ∧ Step μ h w μ' h w' := by
  obtain ⟨args, hargs, hdst, hop, hia⟩ := trIn_parts ht
  have hw : wantedA (maskE q ef) i.guard = wantedA ef i.guard := wantedA_congr fun s p hg => maskE_keep (hq s (by simp [AIn.reads, hg]))
  have hev : evalL (maskE q ef) i.args = evalL ef i.args := evalL_congr fun t ht => maskE_keep (hq t (by simp only [AIn.reads, List.mem_append]; exact .inl ht))
  rcases hf with ⟨h0, vs, v, h1, h2, h3⟩ | ⟨h0, h3⟩
  · have hwant := wanted_ok he ht (hw.trans h0)
    have hvr : VRL μ vs (o.op.operands.toList.map a.eval) := opds_ok he hargs (by rw [← hia]; exact hev.trans h1)
    have hdo : doOpW C (trOp P o.op) vs h fun v' h' => v' = v ∧ h' = h := by
      rw [← hop]
      unfold doOpW
      split
      · rename_i e; rw [e] at hcl; exact absurd rfl hcl
      · rename_i e; rw [e] at hcl; exact absurd rfl hcl
      · rw [h2]; exact ⟨rfl, rfl⟩
    obtain ⟨v', h', cv, w', μ', ⟨rfl, rfl⟩, s, hv, hrel, hstep⟩ := op_stepW (b := b) (rest := rest) (k := k) hC ho hwant hvr hdo hr cs
    refine ⟨a.put o.dst cv, w', μ', s, by cases o.dst <;> rfl, fun q' hq' => ?_, hrel, hstep⟩
    rw [← hdst]
    exact he.wrote hstep.ext hv h3 hq'
  · have hwant := wanted_ok he ht (hw.trans h0)
    refine ⟨a.put o.dst undef, w, μ, skip_step ho hwant cs, by cases o.dst <;> rfl, fun q' hq' => ?_, hr, Step.refl _ _ _⟩
    rw [← hdst]
    exact he.wrote (Ext.refl μ) (VR.undef μ) h3 hq'

theorem effect_step {ops : Array Oper} {j : Nat} {o : Oper} {i : AIn} {e : List AV} {h : AHeap} {K : List AV → AHeap → Prop} {μ : Mu} {w : World} {a : Act} {b : Frame} {rest : List Nat} {k : List Item} {q : Nat → Bool} (hC : CSound P Λ C) (ho : ops[j]? = some o) (ht : trIn P ops o = some i)
    (hrun : runInW C i e h K) (hr : Rel Λ μ h w) (he : EnvR μ (maskE q e) a.tmps) (hq : ∀ t, t ∈ i.reads → q t = true) (cs : List Frame) :
    ∃ v h' a' w' μ', K (setDst e i.dst v) h' ∧ Steps P (lone (Fat b a (.inRegion ops (j :: rest) :: k)) cs w) (lone (Fat b a' (.inRegion ops rest :: k)) cs w') ∧ a'.defers = a.defers ∧ (∀ q' : Nat → Bool, (∀ t, q' t = true → t ∉ i.dsts → q t = true) → EnvR μ' (maskE q' (setDst e i.dst v)) a'.tmps) ∧ Rel Λ μ' h' w' ∧ Step μ h w μ' h' w' := by
  obtain ⟨args, hargs, hdst, hop, hia⟩ := trIn_parts ht
  have hw : wantedA (maskE q e) i.guard = wantedA e i.guard := wantedA_congr fun s p hg => maskE_keep (hq s (by simp [AIn.reads, hg]))
  have hev : evalL (maskE q e) i.args = evalL e i.args := evalL_congr fun t ht => maskE_keep (hq t (by simp only [AIn.reads, List.mem_append]; exact .inl ht))
  have key : ∀ {μ' : Mu} {v : AV} {cv : Value}, Ext μ μ' → VR μ' v cv → ∀ q' : Nat → Bool, (∀ t, q' t = true → t ∉ i.dsts → q t = true) → EnvR μ' (maskE q' (setDst e i.dst v)) (a.put o.dst cv).tmps := by
    intro μ' v cv hx hv q' hq'
    have h1 : EnvR μ (maskE (fun t => q t && !i.dsts.contains t) (setDst e i.dst v)) a.tmps := he.remask setDst_length fun s hs => by
      simp only [Bool.and_eq_true, Bool.not_eq_true'] at hs
      exact ⟨hs.1, setDst_get fun hm => by
        have h2 : i.dsts.contains s = true := List.contains_iff_mem.2 hm
        rw [hs.2] at h2; cases h2⟩
    rw [← hdst]
    refine h1.wrote hx hv (fun d x hd hx => ?_) fun t ht hnt => ?_
    · rw [hd] at hx; exact setDst_dst hx
    · have h3 : i.dsts.contains t = false := by
        cases hc : i.dsts.contains t with
        | false => rfl
        | true => exact absurd (List.contains_iff_mem.1 hc) hnt
      rw [hq' t ht hnt, h3]; rfl
  unfold runInW at hrun
  split at hrun
  · rename_i h0
    have hwant := wanted_ok he ht (hw.trans h0)
    split at hrun
    · rename_i vs h1
      have hvr : VRL μ vs (o.op.operands.toList.map a.eval) := opds_ok he hargs (by rw [← hia]; exact hev.trans h1)
      obtain ⟨v, h', cv, w', μ', hk, s, hv, hrel, hstep⟩ := op_stepW (b := b) (rest := rest) (k := k) hC ho hwant hvr (by rw [← hop]; exact hrun) hr cs
      exact ⟨v, h', a.put o.dst cv, w', μ', hk, s, by cases o.dst <;> rfl, key hstep.ext hv, hrel, hstep⟩
    · exact hrun.elim
  · rename_i h0
    have hwant := wanted_ok he ht (hw.trans h0)
    exact ⟨.tuple [], h, a.put o.dst undef, w, μ, hrun, skip_step ho hwant cs, by cases o.dst <;> rfl, key (Ext.refl μ) (VR.undef μ), hr, Step.refl _ _ _⟩
  · exact hrun.elim

/-- okGo of what is left -/
theorem okGo_rest {pre : List (List Nat)} : ∀ {p : List DI} {done : List DI} {b : List DI}, okGo pre done (p ++ b) = true → okGo pre (p.reverse ++ done) b = true
  | [], done, b, h => h
  | x :: p, done, b, h => by
    have := okGo_rest (okGo_chk (d := x) (b := p ++ b) h).2
    simpa using this

theorem mkAlts_mem {I : List AIn} : ∀ {ls : List (List (Nat × List Nat × Bool))} {ds : List (List DI)}, mkAlts I ls = some ds → ∀ d, d ∈ ds → ∃ l, mkDraw I l = some d
  | [], ds, h, d, hd => by simp only [mkAlts] at h; cases h; cases hd
  | l :: ls, ds, h, d, hd => by
    simp only [mkAlts] at h
    split at h
    · rename_i d1 ds1 h1 h2
      cases h
      rcases List.mem_cons.1 hd with rfl | hd
      · exact ⟨l, h1⟩
      · exact mkAlts_mem h2 d hd
    · cases h

/-- an order that the region lets be -/
def VS (ops : Array Oper) : List Nat → Array Bool → Prop
  | [], L => ∀ i, i < ops.size → On L i
  | i :: σ, L => i < ops.size ∧ ¬ On L i ∧ (∃ o, ops[i]? = some o ∧ ∀ d, d ∈ hard o → On L d) ∧ VS ops σ (L.setIfInBounds i true)

theorem linearise_valid {ops : Array Oper} (hlow : ∀ (k : Nat) (o : Oper), ops[k]? = some o → ∀ d, d ∈ hard o → d < k) : ∀ (fuel t : Nat) (L : Array Bool), L.size = ops.size → L.toList.count false ≤ fuel → VS ops (Region.linearise.go .any ops fuel t L []) L
  | 0, t, L, hs, hc => by
    simp only [Region.linearise.go, List.reverse_nil, VS]
    exact fun i hi => count_zero (by omega) i (by omega)
  | fuel + 1, t, L, hs, hc => by
    simp only [Region.linearise.go]
    change VS ops (match (Region.ready .any ops L)[t % (Region.ready .any ops L).length]? with
      | some i => Region.linearise.go .any ops fuel (t / (Region.ready .any ops L).length) (L.setIfInBounds i true) [i]
      | none => [].reverse) L
    cases hi : (Region.ready .any ops L)[t % (Region.ready .any ops L).length]? with
    | none =>
      have hnil : Region.ready .any ops L = [] := by
        cases hrd : Region.ready .any ops L with
        | nil => rfl
        | cons x xs =>
          rw [hrd] at hi
          have hlt : t % (x :: xs).length < (x :: xs).length := Nat.mod_lt _ (by simp)
          simp at hi
          simp at hlt
          omega
      exact ready_none hs hlow hnil
    | some i =>
      simp only []
      rw [linearise_go_acc, List.reverse_singleton, List.singleton_append]
      obtain ⟨h1, h2, h3⟩ := ready_spec (List.mem_of_getElem? hi)
      refine ⟨h1, h2, h3, linearise_valid hlow fuel _ _ (by simpa using hs) ?_⟩
      have := count_set (L := L) (i := i) (by omega) h2
      omega

theorem exts_mem {pre : List (List Nat)} : ∀ (n : Nat) (s rem : List Nat), s.Perm rem → s.length ≤ n → (s.Pairwise fun x y => y ∉ (pre[x]?).getD []) → (∀ x, x ∈ s → x ∉ (pre[x]?).getD []) → s ∈ exts pre n rem
  | 0, s, rem, hp, hl, _, _ => by
    have : s = [] := List.length_eq_zero_iff.1 (by omega)
    simp [exts, this]
  | n + 1, [], rem, hp, _, _, _ => by
    have : rem = [] := List.Perm.nil_eq hp |>.symm
    simp [exts, this]
  | n + 1, x :: s, rem, hp, hl, hpw, hself => by
    have hx : x ∈ rem := hp.subset (by simp)
    obtain ⟨h1, h2⟩ := List.pairwise_cons.1 hpw
    have hne : rem.isEmpty = false := by cases rem with | nil => cases hx | cons => rfl
    simp only [exts, hne, Bool.false_eq_true, if_false, List.mem_flatMap]
    refine ⟨x, hx, ?_⟩
    have hany : (rem.any fun y => ((pre[x]?).getD []).contains y) = false := by
      rw [List.any_eq_false]
      intro y hy hc
      have hc := List.contains_iff_mem.1 hc
      rcases List.mem_cons.1 (hp.symm.subset hy) with rfl | hys
      · exact hself y (by simp) hc
      · exact h1 y hys hc
    rw [hany]
    simp only [Bool.false_eq_true, if_false, List.mem_map, List.cons.injEq, true_and, exists_eq_right]
    refine exts_mem n s (rem.erase x) ?_ (by simp at hl; omega) h2 (fun y hy => hself y (by simp [hy]))
    exact (List.perm_cons x).1 (hp.trans (List.perm_cons_erase hx))

theorem VS.once {ops : Array Oper} : ∀ {σ : List Nat} {L : Array Bool}, L.size = ops.size → VS ops σ L → σ.Nodup ∧ (∀ x, x ∈ σ → x < ops.size ∧ ¬ On L x) ∧ (∀ i, i < ops.size → On L i ∨ i ∈ σ)
  | [], L, _, h => ⟨List.nodup_nil, fun _ hx => (by cases hx), fun i hi => .inl (h i hi)⟩
  | i :: σ, L, hs, ⟨h1, h2, _, h4⟩ => by
    obtain ⟨g1, g2, g3⟩ := VS.once (by simpa using hs) h4
    refine ⟨List.nodup_cons.2 ⟨fun hi => (g2 i hi).2 ?_, g1⟩, fun x hx => ?_, fun k hk => ?_⟩
    · unfold On
      rw [Array.getElem?_setIfInBounds, if_pos rfl, if_pos (by omega)]
    · rcases List.mem_cons.1 hx with rfl | hx
      · exact ⟨h1, h2⟩
      · exact ⟨(g2 x hx).1, fun h => (g2 x hx).2 h.set⟩
    · rcases g3 k hk with h | h
      · rcases On.of_set h with rfl | h
        · exact .inr (by simp)
        · exact .inl h
      · exact .inr (by simp [h])

section order
variable {ops : Array Oper} {pre : List (List Nat)} (hpre : ∀ (k : Nat) (o : Oper), ops[k]? = some o → (∀ d, d ∈ hard o → d < k) ∧ ∀ j, j ∈ (pre[k]?).getD [] → ∃ d, d ∈ hard o ∧ (d = j ∨ j ∈ (pre[d]?).getD []))
include hpre

omit hpre in
theorem VS.closed {L : Array Bool} (hcl : ∀ (k : Nat) (o : Oper), ops[k]? = some o → On L k → ∀ d, d ∈ hard o → On L d) {i : Nat} (hi : ∃ o, ops[i]? = some o ∧ ∀ d, d ∈ hard o → On L d) :
    ∀ (k : Nat) (o : Oper), ops[k]? = some o → On (L.setIfInBounds i true) k → ∀ d, d ∈ hard o → On (L.setIfInBounds i true) d := by
  obtain ⟨o, ho, hh⟩ := hi
  intro k2 o2 ho2 hon2 d2 hd2
  rcases On.of_set hon2 with rfl | hon2
  · rw [ho] at ho2; cases ho2
    exact (hh d2 hd2).set
  · exact (hcl k2 o2 ho2 hon2 d2 hd2).set

theorem VS.pw : ∀ {σ : List Nat} {L : Array Bool}, L.size = ops.size → (∀ (k : Nat) (o : Oper), ops[k]? = some o → On L k → ∀ d, d ∈ hard o → On L d) → VS ops σ L → σ.Pairwise (fun x y => y ∉ (pre[x]?).getD []) ∧ ∀ x, x ∈ σ → x ∉ (pre[x]?).getD []
  | [], L, _, _, _ => ⟨List.Pairwise.nil, fun _ hx => (by cases hx)⟩
  | i :: σ, L, hs, hcl, hv => by
    obtain ⟨h1, h2, h3, h4⟩ := hv
    obtain ⟨g1, g2⟩ := VS.pw (by simpa using hs) (VS.closed hcl h3) h4
    obtain ⟨o, ho, hh⟩ := h3
    have hl := pre_listed hs hpre hcl i o ho hh
    have ho2 := (VS.once (by simpa using hs) h4).2.1
    refine ⟨List.pairwise_cons.2 ⟨fun y hy hc => (ho2 y hy).2 (hl y hc).set, g1⟩, fun x hx => ?_⟩
    rcases List.mem_cons.1 hx with rfl | hx
    · exact fun hc => h2 (hl x hc)
    · exact g2 x hx

end order

theorem draw_run (hC : CSound P Λ C) {ops : Array Oper} {is : List AIn} {pre : List (List Nat)} {l : List DI} {Q : List AV → AHeap → Prop} {b : Frame} {k : List Item} {cs : List Frame}
    (hI : ∀ x, x ∈ l → ∃ o, ops[x.j]? = some o ∧ trIn P ops o = some x.i) (hmem : ∀ x, x ∈ l → is[x.j]? = some x.i ∧ ∀ r, r ∈ x.rs → is[r.1]? = some r.2)
    (hok : okGo pre [] l = true) (hall : ∀ j, j < ops.size → ∃ x, x ∈ l ∧ x.j = j)
    (hpre : ∀ (k : Nat) (o : Oper), ops[k]? = some o → (∀ d, d ∈ hard o → d < k) ∧ ∀ j, j ∈ (pre[k]?).getD [] → ∃ d, d ∈ hard o ∧ (d = j ∨ j ∈ (pre[d]?).getD [])) :
    ∀ (σ : List Nat) (L : Array Bool) (l1 l2 : List DI) (e : List AV) (hs : AHeap) (μ : Mu) (w : World) (a : Act), L.size = ops.size → (∀ (k : Nat) (o : Oper), ops[k]? = some o → On L k → ∀ d, d ∈ hard o → On L d) → VS ops σ L →
      (σ.filter fun j => match is[j]? with | some i => cls i.op == 2 | none => false) = (l2.filter DI.eff).map DI.j →
      l = l1 ++ l2 → runDrawW C l2 e hs Q → (∀ d b, l2 = d :: b → d.bar = true) → (∀ x, x ∈ l2 → ¬ On L x.j) → (∀ x, x ∈ l1 → ¬ On L x.j → x.bar = false ∧ QFact e x.i hs) →
      Rel Λ μ hs w → EnvR μ (maskE (live l1 L) e) a.tmps →
      ∃ e' h' a' w' μ', Q e' h' ∧ Steps P (lone (Fat b a (.inRegion ops σ :: k)) cs w) (lone (Fat b a' k) cs w') ∧ a'.defers = a.defers ∧ EnvR μ' e' a'.tmps ∧ Rel Λ μ' h' w' ∧ Step μ hs w μ' h' w' := by
  have hR : ∀ x, x ∈ l → ∀ y, y ∈ l → ∀ r, r ∈ y.rs → r.1 = x.j → r.2 = x.i := fun x hx y hy rr hrr hj => by
    have h1 := (hmem y hy).2 rr hrr
    rw [hj, (hmem x hx).1] at h1
    exact (Option.some.inj h1).symm
  have hJ : ∀ x, x ∈ l → ∀ y, y ∈ l → x.j = y.j → x.i = y.i := fun x hx y hy hj => by
    have h1 := (hmem x hx).1
    rw [hj, (hmem y hy).1] at h1
    exact (Option.some.inj h1).symm
  intro σ
  induction σ with
  | nil =>
    intro L l1 l2 e hs μ w a hsz hcl hv hord hl hrun hhd h2 h1 hr he
    have hin : ∀ x, x ∈ l → On L x.j := fun x hx => by
      obtain ⟨o, ho, _⟩ := hI x hx
      exact hv _ (Array.getElem?_eq_some_iff.1 ho).1
    cases l2 with
    | cons x l2 => exact absurd (hin x (by rw [hl]; simp)) (h2 x (by simp))
    | nil =>
      have hm : maskE (live l1 L) e = e := maskE_all fun t => live_spec.2 fun x hx _ => hin x (by rw [hl]; simp [hx])
      rw [hm] at he
      exact ⟨e, hs, a, w, μ, hrun, Steps.one st_region_end, rfl, he, hr, Step.refl _ _ _⟩
  | cons i σ ih =>
    intro L l1 l2 e hs μ w a hsz hcl hv hord hl hrun hhd h2 h1 hr he
    obtain ⟨hilt, hnon, ⟨o, ho, hhard⟩, hv'⟩ := hv
    obtain ⟨d, hd, hdj⟩ := hall i hilt
    obtain ⟨o', ho', htr'⟩ := hI d hd
    rw [hdj, ho] at ho'
    have := Option.some.inj ho'; subst this
    have hprel := pre_listed hsz hpre hcl i o ho hhard
    have hsz' : (L.setIfInBounds i true).size = ops.size := by simpa using hsz
    have hcl' := VS.closed hcl ⟨o, ho, hhard⟩
    have heff : (match is[i]? with | some i => cls i.op == 2 | none => false) = d.eff := by
      have := (hmem d hd).1
      rw [hdj] at this
      rw [this]; rfl
    -- the place of the instruction
    obtain ⟨p, q, hpq⟩ := List.append_of_mem hd
    have chk : Chk pre (p.reverse ++ []) d q := okGo_split (by rw [← hpq]; exact hok)
    rw [List.append_nil] at chk
    have hreads : ∀ t, t ∈ d.i.reads → live l1 L t = true := by
      intro t ht
      refine live_spec.2 fun x hx1 hxt => ?_
      have hx : x ∈ l := by rw [hl]; simp [hx1]
      rw [hpq] at hx
      rcases List.mem_append.1 hx with hx | hx
      · have := chk.wait t ht x (List.mem_reverse.2 hx) hxt
        rw [hdj] at this
        exact hprel _ this
      · rcases List.mem_cons.1 hx with rfl | hx
        · exact absurd hxt (chk.self t ht)
        · cases hf : x.fin with
          | false => exact absurd hxt (chk.out t (.inl ht) x hx hf)
          | true =>
            apply Classical.byContradiction
            intro hn
            have := (DI.bar_false.1 (h1 x hx1 hn).1).2
            rw [hf] at this; cases this
    have hlive : ∀ t, live l1 (L.setIfInBounds i true) t = true → t ∉ d.i.dsts → live l1 L t = true := by
      intro t ht hnt
      refine live_spec.2 fun x hx hxt => ?_
      rcases On.of_set (live_spec.1 ht x hx hxt) with e | e
      · have := hJ x (by rw [hl]; simp [hx]) d hd (e.trans hdj.symm)
        rw [this] at hxt
        exact absurd hxt hnt
      · exact e
    by_cases hd1 : d ∈ l1
    · -- it has been told already
      obtain ⟨hb, hfd⟩ := h1 d hd1 (by rw [hdj]; exact hnon)
      obtain ⟨hc, hfin⟩ := DI.bar_false.1 hb
      have hde : d.eff = false := by unfold DI.eff; simp [hc]
      obtain ⟨a1, w1, μ1, s1, d1, e1, r1, t1⟩ := quiet_step (b := b) (rest := σ) (k := k) hC ho htr' hc hfd hr he hreads cs
      obtain ⟨e2, h2', a2, w2, μ2, q2, s2, d2, v2, r2, t2⟩ := ih (L.setIfInBounds i true) l1 l2 e hs μ1 w1 a1 hsz' hcl' hv'
        (by rw [← hord, List.filter_cons, heff, hde]; rfl) hl hrun hhd
        (fun x hx hon => by
          rcases On.of_set hon with e | e
          · obtain ⟨y, z, hyz⟩ := List.append_of_mem hx
            have chk3 : Chk pre ((l1 ++ y).reverse ++ []) x z := okGo_split (by
              have : l1 ++ y ++ x :: z = l := by rw [hl, hyz]; simp
              rw [this]; exact hok)
            exact chk3.once d (by simp [hd1]) (hdj.trans e.symm)
          · exact h2 x hx e)
        (fun x hx hxn => h1 x hx fun h => hxn h.set)
        r1 (e1 _ hlive)
      exact ⟨e2, h2', a2, w2, μ2, q2, s1.trans s2, d2.trans d1, v2, r2, t1.trans t2⟩
    · -- the next that makes or writes something, or comes last
      have hd2 : d ∈ l2 := by
        rw [hl] at hd
        rcases List.mem_append.1 hd with h | h
        · exact absurd h hd1
        · exact h
      cases l2 with
      | nil => cases hd2
      | cons d0 rest =>
        have hb0 := hhd d0 rest rfl
        have hdd : d = d0 := by
          rcases List.mem_cons.1 hd2 with h | h
          · exact h
          · exfalso
            obtain ⟨y, z, hyz⟩ := List.append_of_mem h
            have chk3 : Chk pre ((l1 ++ d0 :: y).reverse ++ []) d z := okGo_split (by
              have : l1 ++ d0 :: y ++ d :: z = l := by rw [hl, hyz]; simp
              rw [this]; exact hok)
            cases hf : d0.fin with
            | true =>
              have := chk3.bar d0 (by simp) hf
              rw [hdj] at this
              exact h2 d0 (by simp) (hprel _ this)
            | false =>
              have he0 : d0.eff = true := by unfold DI.bar at hb0; rw [hf, Bool.or_false] at hb0; exact hb0
              cases hde : d.eff with
              | false =>
                obtain ⟨y', hy'⟩ : ∃ y', (d0 :: y).reverse.find? DI.eff = some y' := by
                  cases hfd : (d0 :: y).reverse.find? DI.eff with
                  | some y' => exact ⟨y', rfl⟩
                  | none =>
                    have := List.find?_eq_none.1 hfd d0 (by simp)
                    rw [he0] at this; exact absurd rfl this
                have hmy : y' ∈ d0 :: y := List.mem_reverse.1 (List.mem_of_find?_eq_some hy')
                have := chk3.eff hde y' (by
                  rw [List.append_nil, List.reverse_append, List.find?_append, hy']; rfl)
                rw [hdj] at this
                refine h2 y' ?_ (hprel _ this)
                rcases List.mem_cons.1 hmy with rfl | hm
                · simp
                · rw [hyz]; simp [hm]
              | true =>
                have h3 : d0.j = i := by
                  rw [List.filter_cons, heff, hde, List.filter_cons, he0] at hord
                  simp only [if_true, List.map_cons, List.cons.injEq] at hord
                  exact hord.1.symm
                exact chk3.once d0 (by simp) (h3.trans hdj.symm)
        subst hdd
        have hok2 := okGo_rest (p := l1) (by rw [← hl]; exact hok)
        rw [List.append_nil] at hok2
        obtain ⟨chk2, hok3⟩ := okGo_chk hok2
        simp only [runDrawW] at hrun
        obtain ⟨v, h', a1, w1, μ1, ⟨hag, hk⟩, s1, d1, e1, r1, t1⟩ := effect_step (b := b) (rest := σ) (k := k) hC ho htr' hrun hr he hreads cs
        obtain ⟨qs, l2', e', hq1, hq2, hq3, hq4, hq5, hq6, hq7⟩ := quiet_run hok3 hk
        have hqs : ∀ x, x ∈ qs → x ∈ rest := fun x hx => by rw [hq1]; simp [hx]
        have hqf : ∀ x, x ∈ qs → x.fin = false := fun x hx => (DI.bar_false.1 (hq2 x hx)).2
        have hqe : qs.filter DI.eff = [] := by
          rw [List.filter_eq_nil_iff]
          intro x hx
          have := (DI.bar_false.1 (hq2 x hx)).1
          unfold DI.eff
          simp [this]
        have hlq : l = (l1 ++ d :: qs) ++ l2' := by rw [hl, hq1]; simp
        have hself : On (L.setIfInBounds i true) d.j := by
          rw [hdj]
          unfold On
          rw [Array.getElem?_setIfInBounds, if_pos rfl, if_pos (by omega)]
        -- slots of what was told stay
        have hstay : ∀ x, x ∈ l1 → ¬ On L x.j → ∀ t, t ∈ x.i.reads ∨ t ∈ x.i.dsts → (setDst e d.i.dst v)[t]? = e[t]? ∧ e'[t]? = (setDst e d.i.dst v)[t]? := by
          intro x hx hxn t ht
          obtain ⟨y, z, hyz⟩ := List.append_of_mem hx
          have chk3 : Chk pre (y.reverse ++ []) x (z ++ d :: rest) := okGo_split (by
            have : y ++ x :: (z ++ d :: rest) = l := by rw [hl, hyz]; simp
            rw [this]; exact hok)
          refine ⟨setDst_get ?_, hq6 t fun x' hx' => chk3.out t ht x' (by simp [hqs x' hx']) (hqf x' hx')⟩
          cases hf : d.fin with
          | false => exact chk3.out t ht d (by simp) hf
          | true =>
            have := chk2.fin hf x (List.mem_reverse.2 hx)
            rw [hdj] at this
            exact absurd (hprel _ this) hxn
        have honce : ∀ x, x ∈ rest → x.j ≠ i := fun x hx hxi => by
          obtain ⟨y, z, hyz⟩ := List.append_of_mem hx
          have chk3 : Chk pre ((l1 ++ d :: y).reverse ++ []) x z := okGo_split (by
            have : l1 ++ d :: y ++ x :: z = l := by rw [hl, hyz]; simp
            rw [this]; exact hok)
          exact chk3.once d (by simp) (hdj.trans hxi.symm)
        have hrestn : ∀ x, x ∈ rest → ¬ On (L.setIfInBounds i true) x.j := fun x hx hon => by
          rcases On.of_set hon with e | e
          · exact honce x hx e
          · exact h2 x (by simp [hx]) e
        obtain ⟨e2, h2', a2, w2, μ2, q2, s2, d2, v2, r2, t2⟩ := ih (L.setIfInBounds i true) (l1 ++ d :: qs) l2' e' h' μ1 w1 a1 hsz' hcl' hv'
          (by
            rw [List.filter_cons, heff, List.filter_cons] at hord
            have hrest : rest.filter DI.eff = l2'.filter DI.eff := by rw [hq1, List.filter_append, hqe, List.nil_append]
            cases hde : d.eff with
            | true =>
              rw [hde] at hord
              simp only [if_true, List.map_cons, List.cons.injEq] at hord
              rw [hord.2, hrest]
            | false =>
              rw [hde] at hord
              simp only [Bool.false_eq_true, if_false] at hord
              rw [hord, hrest])
          hlq hq4 hq3
          (fun x hx => hrestn x (by rw [hq1]; simp [hx]))
          (fun x hx hxn => by
            rcases List.mem_append.1 hx with hx | hx
            · have hxn0 : ¬ On L x.j := fun h => hxn h.set
              obtain ⟨hxb, hxf⟩ := h1 x hx hxn0
              refine ⟨hxb, ?_⟩
              have hxc := (DI.bar_false.1 hxb).1
              have hf1 : QFact (setDst e d.i.dst v) x.i hs := hxf.congr (fun t ht => (hstay x hx hxn0 t (.inl ht)).1) (fun t ht => (hstay x hx hxn0 t (.inr ht)).1)
              have hf2 : QFact (setDst e d.i.dst v) x.i h' := by
                by_cases hx0 : cls x.i.op = 0
                · exact hf1.pure hx0 h'
                · have hx1 : cls x.i.op = 1 := by have := cls_le x.i.op; omega
                  cases hde : d.eff with
                  | true =>
                    rcases chk2.red hde x (List.mem_reverse.2 hx) hx1 with hp | ⟨r, hrm, hrj⟩
                    · rw [hdj] at hp
                      exact absurd (hprel _ hp).set hxn
                    · have hxl : x ∈ l := by rw [hl]; simp [hx]
                      have := hR x hxl d hd r hrm hrj
                      have hrf := (List.all_eq_true.1 hag) r hrm
                      rw [this] at hrf
                      exact hf1.again hxc hrf
                  | false =>
                    have hf : d.fin = true := by unfold DI.bar at hb0; rw [hde, Bool.false_or] at hb0; exact hb0
                    have := chk2.fin hf x (List.mem_reverse.2 hx)
                    rw [hdj] at this
                    exact absurd (hprel _ this) hxn0
              exact hf2.congr (fun t ht => (hstay x hx hxn0 t (.inl ht)).2) (fun t ht => (hstay x hx hxn0 t (.inr ht)).2)
            · rcases List.mem_cons.1 hx with rfl | hx
              · exact absurd hself hxn
              · exact ⟨hq2 x hx, hq5 x hx⟩)
          r1 ((e1 (live l1 (L.setIfInBounds i true)) hlive).remask hq7 fun s hs => ⟨live_spec.2 fun x hx hxs => live_spec.1 hs x (by simp [hx]) hxs, hq6 s fun x hx hxs => hrestn x (hqs x hx) (live_spec.1 hs x (by simp [hx]) hxs)⟩)
        exact ⟨e2, h2', a2, w2, μ2, q2, s1.trans s2, d2.trans d1, v2, r2, t1.trans t2⟩

/-- how a piece of code ends, by what holds there -/
def Ends (P : Program) (Λ : Lam) (m : Machine) (b : Frame) (k : List Item) (cs : List Frame) (D : List Deferred → World → Prop) (μ : Mu) (h : AHeap) (w : World) (Q : AExit → List AV → AHeap → Prop) : Prop :=
  ∃ x e' h' a' w' μ', Q x e' h' ∧ Arr P m b k cs x a' w' ∧ D a'.defers w' ∧ EnvR μ' e' a'.tmps ∧ Rel Λ μ' h' w' ∧ Step μ h w μ' h' w'

theorem draw_sound (hC : CSound P Λ C) {id : Nat} {ops : Array Oper} {is : List AIn} {ls : List (List (Nat × List Nat × Bool))} {pre : List (List Nat)} {alts : List (List DI)} {e : List AV} {h : AHeap} {Q : List AV → AHeap → Prop} {μ : Mu} {w : World} {a : Act} {b : Frame} {k : List Item}
    (hi : trIns P ops ops.toList = some is) (hds : mkAlts is ls = some alts) (hok : okDraw ops is pre alts = true) (hm : P.follows .mixedOrders = true) (hrun : ∀ ds, ds ∈ alts → runDrawW C ds e h Q) (hr : Rel Λ μ h w) (he : EnvR μ e a.tmps) (cs : List Frame) :
    ∃ e' h' a' w' μ', Q e' h' ∧ Steps P (lone (Fat b a (.code (.region id ops true) :: k)) cs w) (lone (Fat b a' k) cs w') ∧ a'.defers = a.defers ∧ EnvR μ' e' a'.tmps ∧ Rel Λ μ' h' w' ∧ Step μ h w μ' h' w' := by
  simp only [okDraw, Bool.and_eq_true, List.all_eq_true, List.mem_range, List.any_eq_true, beq_iff_eq] at hok
  obtain ⟨⟨hp, halts⟩, hexts⟩ := hok
  have hpre : ∀ (k : Nat) (o : Oper), ops[k]? = some o → (∀ d, d ∈ hard o → d < k) ∧ ∀ j, j ∈ (pre[k]?).getD [] → ∃ d, d ∈ hard o ∧ (d = j ∨ j ∈ (pre[d]?).getD []) := fun k o ho => by
    have := preOk_get hp k o (by rw [Array.getElem?_toList]; exact ho)
    rwa [Nat.zero_add] at this
  have hno : ∀ x, ¬ On (Array.replicate ops.size false) x := fun x hx => by
    unfold On at hx
    rw [Array.getElem?_replicate] at hx
    split at hx <;> cases hx
  have hlen : is.length = ops.size := by
    have key : ∀ {os : List Oper} {is : List AIn}, trIns P ops os = some is → is.length = os.length := by
      intro os
      induction os with
      | nil => intro is h; simp only [trIns] at h; cases h; rfl
      | cons o os ih =>
        intro is h
        simp only [trIns] at h
        split at h
        · rename_i i is' _ h2; cases h; simp [ih h2]
        · cases h
    simpa using key hi
  obtain ⟨σ, hσ⟩ : ∃ σ, σ = Region.linearise.go .any ops ops.size (w.tape w.drawn (.order b.fn id)) (Array.replicate ops.size false) [] := ⟨_, rfl⟩
  have hvs : VS ops σ (Array.replicate ops.size false) := by
    rw [hσ]
    exact linearise_valid (fun k o ho => (hpre k o ho).1) _ _ _ (by simp) (by simp)
  have hcl0 : ∀ (k : Nat) (o : Oper), ops[k]? = some o → On (Array.replicate ops.size false) k → ∀ d, d ∈ hard o → On (Array.replicate ops.size false) d := fun k o _ hon => absurd hon (hno k)
  obtain ⟨o1, o2, o3⟩ := VS.once (by simp) hvs
  obtain ⟨p1, p2⟩ := VS.pw hpre (by simp) hcl0 hvs
  have hperm : (σ.filter fun j => match is[j]? with | some i => cls i.op == 2 | none => false).Perm (effs is) := by
    refine (List.perm_ext_iff_of_nodup (o1.filter _) (List.nodup_range.filter _)).2 fun x => ?_
    simp only [List.mem_filter, List.mem_range]
    constructor
    · rintro ⟨h1, h2⟩
      exact ⟨by rw [hlen]; exact (o2 x h1).1, h2⟩
    · rintro ⟨h1, h2⟩
      exact ⟨(o3 x (by omega)).resolve_left (hno x), h2⟩
  have hmemx := exts_mem (pre := pre) (effs is).length _ _ hperm (Nat.le_of_eq hperm.length_eq) (p1.filter _) (fun x hx => p2 x (List.mem_filter.1 hx).1)
  obtain ⟨ds, hdsm, hord⟩ := hexts _ hmemx
  obtain ⟨l0, hl0⟩ := mkAlts_mem hds ds hdsm
  obtain ⟨hgo, hall⟩ := halts ds hdsm
  have hmem := mkDraw_mem hl0
  have hI : ∀ x, x ∈ ds → ∃ o, ops[x.j]? = some o ∧ trIn P ops o = some x.i := fun x hx => by
    obtain ⟨o, h1, h2⟩ := trIns_get hi x.j x.i (hmem x hx).1
    exact ⟨o, by rwa [Array.getElem?_toList] at h1, h2⟩
  obtain ⟨qs, l2, e1, g1, g2, g3, g4, g5, g6, g7⟩ := quiet_run hgo (hrun ds hdsm)
  have hqe : qs.filter DI.eff = [] := by
    rw [List.filter_eq_nil_iff]
    intro x hx
    have := (DI.bar_false.1 (g2 x hx)).1
    unfold DI.eff
    simp [this]
  have hmask : EnvR μ (maskE (live qs (Array.replicate ops.size false)) e1) a.tmps := by
    have h0 : EnvR μ (maskE (fun _ => true) e) a.tmps := by rw [maskE_all fun _ => rfl]; exact he
    exact h0.remask g7 fun s hs => ⟨rfl, g6 s fun x hx hxs => hno _ (live_spec.1 hs x hx hxs)⟩
  obtain ⟨e', h', a', w', μ', hq, s, hd, v, r, t⟩ := draw_run (b := b) (k := k) (cs := cs) hC hI hmem hgo (fun j hj => hall j hj) hpre σ (Array.replicate ops.size false) qs l2 e1 h μ { w with drawn := w.drawn + 1 } a (by simp) hcl0 hvs
    (by rw [← hord, g1, List.filter_append, hqe, List.nil_append]) g1 g4 g3 (fun x _ => hno _) (fun x hx _ => ⟨g2 x hx, g5 x hx⟩) (hr.drew _) hmask
  refine ⟨e', h', a', w', μ', hq, ?_, hd, v, r, (Step.drew μ h w _).trans t⟩
  have hsched : Region.schedule (P.follows .mixedOrders) ops (w.tape w.drawn (.order b.fn id)) = σ := by
    rw [hσ]; simp [Region.schedule, hm, Region.linearise]
  exact Steps.trans (Steps.one (st_region_draw (cs := cs))) (by rw [hsched]; exact s)

end
end Go.Proofs.Ytjdemlagmamlbaa
