/- A region whose order is open: soundness. -/
import Derived.Test.YtjmocbadnclldaaM17d
namespace Go.Proofs.Ytjmocbadnclldaa

section
variable {P : Program} {C : Sem1}

def maskE (q : Nat → Bool) (e : List AV) : List AV := e.mapIdx fun t v => if q t then v else .junk

theorem maskE_get (q : Nat → Bool) (e : List AV) (t : Nat) : (maskE q e)[t]? = (e[t]?).map fun v => if q t then v else .junk := by
  simp [maskE, List.getElem?_mapIdx]

theorem maskE_length (q : Nat → Bool) (e : List AV) : (maskE q e).length = e.length := by simp [maskE]

theorem maskE_keep {q : Nat → Bool} {e : List AV} {t : Nat} (h : q t = true) : (maskE q e)[t]? = e[t]? := by
  rw [maskE_get]; cases e[t]? <;> simp [h]

theorem maskE_all {q : Nat → Bool} {e : List AV} (h : ∀ t, q t = true) : maskE q e = e := by
  apply List.ext_getElem?
  intro t
  exact maskE_keep (h t)

theorem EnvR.unmask {μ : Mu} {q q' : Nat → Bool} {e : List AV} {t : Array Value} (h : EnvR μ (maskE q e) t) (hq : ∀ s, q' s = true → q s = true) : EnvR μ (maskE q' e) t := by
  refine ⟨by rw [maskE_length]; have := h.1; rwa [maskE_length] at this, fun i v hv => h.2 i v ?_⟩
  rw [maskE_get] at hv ⊢
  cases he : e[i]? with
  | none => rw [he] at hv; cases hv
  | some x =>
    rw [he] at hv
    simp only [Option.map_some, Option.bind_some] at hv ⊢
    by_cases hi : q' i = true
    · rw [if_pos hi] at hv; rw [if_pos (hq i hi)]; exact hv
    · rw [if_neg hi] at hv; cases hv

theorem EnvR.wrote {μ μ' : Mu} {q q' : Nat → Bool} {e : List AV} {a : Act} {v : AV} {cv : Value} {dst : Option Nat} (h : EnvR μ (maskE q e) a.tmps) (hx : Ext μ μ') (hv : VR μ' v cv) (hd : ∀ d x, dst = some d → e[d]? = some x → x = v)
    (hq : ∀ t, q' t = true → t ∉ dst.toList → q t = true) : EnvR μ' (maskE q' e) (a.put dst cv).tmps := by
  have hlen : e.length ≤ a.tmps.size := by have := h.1; rwa [maskE_length] at this
  have h0 := h.ext hx
  cases dst with
  | none => exact h0.unmask fun s hs => hq s hs (by simp)
  | some d =>
    have hsz : (a.put (some d) cv).tmps = a.tmps.setIfInBounds d cv := rfl
    rw [hsz]
    refine ⟨by rw [maskE_length]; simpa using hlen, fun i x hx => ?_⟩
    by_cases hid : i = d
    · subst hid
      rw [maskE_get] at hx
      cases he : e[i]? with
      | none => rw [he] at hx; cases hx
      | some y =>
        rw [he] at hx
        simp only [Option.map_some, Option.bind_some] at hx
        by_cases hi : q' i = true
        · rw [if_pos hi] at hx
          have e1 := notJunk_some hx
          have e2 := hd i y rfl he
          subst e1; subst e2
          have hlt : i < e.length := (List.getElem?_eq_some_iff.1 he).1
          refine ⟨cv, ?_, hv⟩
          rw [Array.getElem?_setIfInBounds, if_pos rfl, if_pos (by omega)]
        · rw [if_neg hi] at hx; cases hx
    · have h1 : (( maskE q e)[i]?).bind AV.notJunk = some x := by
        rw [maskE_get] at hx ⊢
        cases he : e[i]? with
        | none => rw [he] at hx; cases hx
        | some y =>
          rw [he] at hx
          simp only [Option.map_some, Option.bind_some] at hx ⊢
          by_cases hi : q' i = true
          · rw [if_pos hi] at hx; rw [if_pos (hq i hi (by simp [hid]))]; exact hx
          · rw [if_neg hi] at hx; cases hx
      obtain ⟨c, p, r⟩ := h0.2 i x h1
      exact ⟨c, by rw [Array.getElem?_setIfInBounds, if_neg (fun e => hid e.symm)]; exact p, r⟩

theorem fact_step (hC : CSound P C) {ops : Array Oper} {j : Nat} {o : Oper} {i : AIn} {ef : List AV} {h h' : AHeap} {μ : Mu} {w : World} {a : Act} {b : Frame} {rest : List Nat} {k : List Item} {q : Nat → Bool} (ho : ops[j]? = some o) (ht : trIn P ops o = some i)
    (hf : Fact C ef i h h') (hr : Rel μ h w) (he : EnvR μ (maskE q ef) a.tmps) (hq : ∀ t, t ∈ i.reads → q t = true) (cs : List Frame) :
    ∃ a' w' μ', Steps P (lone (Fat b a (.inRegion ops (j :: rest) :: k)) cs w) (lone (Fat b a' (.inRegion ops rest :: k)) cs w') ∧ a'.defers = a.defers ∧ (∀ q' : Nat → Bool, (∀ t, q' t = true → t ∉ i.dsts → q t = true) → EnvR μ' (maskE q' ef) a'.tmps) ∧ Rel μ' h' w' ∧ Step μ h w μ' h' w' := by
  obtain ⟨args, hargs, hdst, hop, hia⟩ := trIn_parts ht
  have hw : wantedA (maskE q ef) i.guard = wantedA ef i.guard := wantedA_congr fun s p hg => maskE_keep (hq s (by simp [AIn.reads, hg]))
  have hev : evalL (maskE q ef) i.args = evalL ef i.args := evalL_congr fun t ht => maskE_keep (hq t (by simp only [AIn.reads, List.mem_append]; exact .inl ht))
  rcases hf with ⟨h0, vs, v, h1, h2, h3⟩ | ⟨h0, rfl, h3⟩
  · have hwant := wanted_ok he ht (hw.trans h0)
    have hvr : VRL μ vs (o.op.operands.toList.map a.eval) := opds_ok he hargs (by rw [← hia]; exact hev.trans h1)
    obtain ⟨cv, w', μ', s, hv, hrel, hstep⟩ := op_step (b := b) (rest := rest) (k := k) hC ho hwant hvr (by rw [← hop]; exact h2) hr cs
    refine ⟨a.put o.dst cv, w', μ', s, by cases o.dst <;> rfl, fun q' hq' => ?_, hrel, hstep⟩
    rw [← hdst]
    exact he.wrote hstep.ext hv h3 hq'
  · have hwant := wanted_ok he ht (hw.trans h0)
    refine ⟨a.put o.dst undef, w, μ, skip_step ho hwant cs, by cases o.dst <;> rfl, fun q' hq' => ?_, hr, Step.refl _ _ _⟩
    rw [← hdst]
    exact he.wrote (Ext.refl μ) (VR.undef μ) h3 hq'

theorem Fact.move {ef : List AV} {i : AIn} {h h' : AHeap} (hf : Fact C ef i h h) (hr : RFact ef i h') (hc : cls i.op ≠ 2) : Fact C ef i h' h' := by
  rcases hr with h0 | ⟨h0, args, v, h2, h3, h4, h5⟩
  · rcases hf with ⟨g0, _⟩ | ⟨g0, _, g3⟩
    · rw [g0] at h0; cases h0
    · exact .inr ⟨g0, rfl, g3⟩
  · have he : h2 = h' := by
      rcases Nat.lt_or_ge 1 (cls i.op) with hlt | hge
      · exfalso
        have : cls i.op ≤ 2 := by cases i.op <;> simp [cls]
        omega
      · by_cases h1 : cls i.op = 0
        · exact (aop_pure h1 h4).1
        · exact aop_read (by omega) h4
    subst he
    refine .inl ⟨h0, args, v, h3, ?_, h5⟩
    unfold doOp
    split
    · exact absurd (by simp_all [cls]) hc
    · exact h4

theorem Fact.pure {ef : List AV} {i : AIn} {h h' : AHeap} (hf : Fact C ef i h h') (hc : cls i.op = 0) : h' = h ∧ ∀ h2, Fact C ef i h2 h2 := by
  rcases hf with ⟨g0, args, v, g1, g2, g3⟩ | ⟨g0, rfl, g3⟩
  · have hnc : i.op ≠ .callv := fun e => by rw [e] at hc; exact absurd hc (by decide)
    have g2' : aop i.op args h = some (v, h') := by
      rcases doOp_cases g2 with e | ⟨_, e⟩
      · exact absurd e hnc
      · exact e
    obtain ⟨e, f⟩ := aop_pure hc g2'
    refine ⟨e, fun h2 => .inl ⟨g0, args, v, g1, ?_, g3⟩⟩
    unfold doOp
    split
    · exact absurd (by assumption) hnc
    · exact f h2
  · exact ⟨rfl, fun h2 => .inr ⟨g0, rfl, g3⟩⟩

theorem Fact.quiet {ef : List AV} {i : AIn} {h h' : AHeap} (hf : Fact C ef i h h') (hc : cls i.op ≠ 2) : h' = h := by
  by_cases h0 : cls i.op = 0
  · exact (hf.pure h0).1
  · have h1 : cls i.op = 1 := by
      have : cls i.op ≤ 2 := by cases i.op <;> simp [cls]
      omega
    rcases hf with ⟨g0, args, v, g1, g2, g3⟩ | ⟨_, e, _⟩
    · rcases doOp_cases g2 with e | ⟨_, e⟩
      · rw [e] at h1; exact absurd h1 (by decide)
      · exact aop_read h1 e
    · exact e

/-- a stretch without effects leaves the heap -/
theorem Trc.quiet {ef : List AV} : ∀ {p : List DI} {q : List DI} {h hf : AHeap}, Trc C ef (p ++ q) h hf → (∀ x, x ∈ p → cls x.i.op ≠ 2) → (∀ x, x ∈ p → Fact C ef x.i h h) ∧ Trc C ef q h hf
  | [], q, h, hf, ht, _ => ⟨fun x hx => absurd hx (by simp), ht⟩
  | d :: p, q, h, hf, ht, hp => by
    obtain ⟨h1, f, _, t⟩ := ht
    have e : h1 = h := f.quiet (hp d (by simp))
    subst e
    obtain ⟨a1, a2⟩ := Trc.quiet t fun x hx => hp x (by simp [hx])
    refine ⟨fun x hx => ?_, a2⟩
    rcases List.mem_cons.1 hx with rfl | hx
    · exact f
    · exact a1 x hx

theorem Trc.pures {ef : List AV} : ∀ {l : List DI} {h hf : AHeap}, Trc C ef l h hf → ∀ x, x ∈ l → cls x.i.op = 0 → ∀ h2, Fact C ef x.i h2 h2
  | [], _, _, _, x, hx, _ => by cases hx
  | d :: l, h, hf, ht, x, hx, hc => by
    obtain ⟨h1, f, _, t⟩ := ht
    rcases List.mem_cons.1 hx with rfl | hx
    · exact (f.pure hc).2
    · exact Trc.pures t x hx hc

theorem okGo_split {pre : List (List Nat)} : ∀ {p : List DI} {done : List DI} {d : DI} {b : List DI}, okGo pre done (p ++ d :: b) = true → Chk pre (p.reverse ++ done) d b
  | [], done, d, b, h => (okGo_chk h).1
  | x :: p, done, d, b, h => by
    have := okGo_split (okGo_chk (d := x) (b := p ++ d :: b) h).2
    simpa using this

theorem mkRs_mem {I : List AIn} : ∀ {rs : List Nat} {rs' : List (Nat × AIn)}, mkRs I rs = some rs' → ∀ r, r ∈ rs' → I[r.1]? = some r.2
  | [], rs', h, r, hr => by simp only [mkRs] at h; cases h; cases hr
  | j :: js, rs', h, r, hr => by
    simp only [mkRs] at h
    split at h
    · rename_i i rs1 h1 h2
      cases h
      rcases List.mem_cons.1 hr with rfl | hr
      · exact h1
      · exact mkRs_mem h2 r hr
    · cases h

theorem mkDraw_mem {I : List AIn} : ∀ {l : List (Nat × List Nat)} {ds : List DI}, mkDraw I l = some ds → ∀ d, d ∈ ds → I[d.j]? = some d.i ∧ ∀ r, r ∈ d.rs → I[r.1]? = some r.2
  | [], ds, h, d, hd => by simp only [mkDraw] at h; cases h; cases hd
  | (j, rs) :: l, ds, h, d, hd => by
    simp only [mkDraw] at h
    split at h
    · rename_i i rs1 ds1 h1 h2 h3
      cases h
      rcases List.mem_cons.1 hd with rfl | hd
      · exact ⟨h1, mkRs_mem h2⟩
      · exact mkDraw_mem h3 d hd
    · cases h

theorem trIns_get {ops : Array Oper} : ∀ {os : List Oper} {is : List AIn}, trIns P ops os = some is → ∀ (j : Nat) (i : AIn), is[j]? = some i → ∃ o, os[j]? = some o ∧ trIn P ops o = some i
  | [], is, h, j, i, hj => by simp only [trIns] at h; cases h; simp at hj
  | o :: os, is, h, j, i, hj => by
    simp only [trIns] at h
    split at h
    · rename_i i1 is1 h1 h2
      cases h
      cases j with
      | zero => simp only [List.getElem?_cons_zero, Option.some.injEq] at hj; subst hj; exact ⟨o, rfl, h1⟩
      | succ j => simp only [List.getElem?_cons_succ] at hj ⊢; exact trIns_get h2 j i hj
    · cases h

theorem preOk_get {pre : List (List Nat)} : ∀ {os : List Oper} {i : Nat}, preOk pre os i = true → ∀ k o, os[k]? = some o → (∀ d, d ∈ hard o → d < i + k) ∧ ∀ j, j ∈ (pre[i + k]?).getD [] → ∃ d, d ∈ hard o ∧ (d = j ∨ j ∈ (pre[d]?).getD [])
  | [], i, _, k, o, hk => by simp at hk
  | o' :: os, i, h, k, o, hk => by
    simp only [preOk, Bool.and_eq_true, List.all_eq_true, decide_eq_true_eq, List.any_eq_true, Bool.or_eq_true, beq_iff_eq, List.contains_iff_mem] at h
    cases k with
    | zero =>
      simp only [List.getElem?_cons_zero, Option.some.injEq] at hk
      subst hk
      exact ⟨h.1.1, h.1.2⟩
    | succ k =>
      simp only [List.getElem?_cons_succ] at hk
      have := preOk_get h.2 k o hk
      rw [show i + 1 + k = i + (k + 1) by omega] at this
      exact this

/-- is the operation listed? -/
def On (L : Array Bool) (i : Nat) : Prop := L[i]? = some true

theorem On.set {L : Array Bool} {i j : Nat} (h : On L j) : On (L.setIfInBounds i true) j := by
  unfold On at *
  rw [Array.getElem?_setIfInBounds]
  split
  · rename_i e; subst e
    split
    · rfl
    · rename_i hs; rw [Array.getElem?_eq_none (by omega)] at h; cases h
  · exact h

theorem On.of_set {L : Array Bool} {i j : Nat} (h : On (L.setIfInBounds i true) j) : j = i ∨ On L j := by
  unfold On at *
  rw [Array.getElem?_setIfInBounds] at h
  split at h
  · rename_i e; exact .inl e.symm
  · exact .inr h

theorem ready_spec {ops : Array Oper} {L : Array Bool} {i : Nat} (h : i ∈ Region.ready .any ops L) : i < ops.size ∧ ¬ On L i ∧ ∃ o, ops[i]? = some o ∧ ∀ d, d ∈ hard o → On L d := by
  simp only [Region.ready, List.mem_filter, List.mem_range, Bool.and_eq_true, Bool.not_eq_true'] at h
  obtain ⟨h1, h2, h3⟩ := h
  refine ⟨h1, fun e => ?_, ops[i], by simp [h1], fun d hd => ?_⟩
  · unfold On at e
    rw [Array.getD_eq_getD_getElem?, e] at h2; simp at h2
  · rw [Array.getElem?_eq_getElem h1] at h3
    simp only [Option.map_some, Option.getD_some, Array.all_eq_true, Bool.or_eq_true, Bool.not_eq_true'] at h3
    simp only [hard, List.mem_map, List.mem_filter] at hd
    obtain ⟨e, ⟨he, hb⟩, rfl⟩ := hd
    obtain ⟨n, hn, rfl⟩ := Array.mem_iff_getElem.1 (Array.mem_toList_iff.1 he)
    rcases h3 n hn with h | h
    · rw [h] at hb; cases hb
    · unfold On
      rw [Array.getD_eq_getD_getElem?] at h
      cases hx : L[ops[i].after[n].on]? with
      | none => rw [hx] at h; cases h
      | some b => rw [hx] at h; simp at h; rw [h]

theorem ready_none {ops : Array Oper} {L : Array Bool} (hs : L.size = ops.size) (hlow : ∀ (k : Nat) (o : Oper), ops[k]? = some o → ∀ d, d ∈ hard o → d < k) (h : Region.ready .any ops L = []) : ∀ i, i < ops.size → On L i := by
  intro i
  induction i using Nat.strongRecOn with
  | ind i ih =>
    intro hi
    apply Classical.byContradiction
    intro hn
    have hf : L[i]? = some false := by
      unfold On at hn
      rw [Array.getElem?_eq_getElem (by omega)] at hn ⊢
      cases hb : L[i] with
      | true => rw [hb] at hn; exact absurd rfl hn
      | false => rfl
    have : i ∈ Region.ready .any ops L := by
      simp only [Region.ready, List.mem_filter, List.mem_range, Bool.and_eq_true, Bool.not_eq_true']
      refine ⟨hi, by rw [Array.getD_eq_getD_getElem?, hf]; rfl, ?_⟩
      rw [Array.getElem?_eq_getElem hi]
      simp only [Option.map_some, Option.getD_some, Array.all_eq_true, Bool.or_eq_true, Bool.not_eq_true']
      intro n hn2
      cases hb : Region.binds .any (ops[i].after[n]) with
      | false => exact .inl rfl
      | true =>
        refine .inr ?_
        have hd : (ops[i].after[n]).on ∈ hard ops[i] := by
          simp only [hard, List.mem_map, List.mem_filter]
          exact ⟨ops[i].after[n], ⟨by simp, hb⟩, rfl⟩
        have hlt := hlow i ops[i] (by simp [hi]) _ hd
        have := ih _ hlt (by omega)
        unfold On at this
        rw [Array.getD_eq_getD_getElem?, this]; rfl
    rw [h] at this; cases this

theorem pre_listed {ops : Array Oper} {L : Array Bool} {pre : List (List Nat)} (hs : L.size = ops.size) (hpre : ∀ (k : Nat) (o : Oper), ops[k]? = some o → (∀ d, d ∈ hard o → d < k) ∧ ∀ j, j ∈ (pre[k]?).getD [] → ∃ d, d ∈ hard o ∧ (d = j ∨ j ∈ (pre[d]?).getD []))
    (hcl : ∀ (k : Nat) (o : Oper), ops[k]? = some o → On L k → ∀ d, d ∈ hard o → On L d) : ∀ (k : Nat) (o : Oper), ops[k]? = some o → (∀ d, d ∈ hard o → On L d) → ∀ j, j ∈ (pre[k]?).getD [] → On L j := by
  intro k
  induction k using Nat.strongRecOn with
  | ind k ih =>
    intro o ho hh j hj
    obtain ⟨h1, h2⟩ := hpre k o ho
    obtain ⟨d, hd, hdj⟩ := h2 j hj
    rcases hdj with rfl | hdj
    · exact hh d hd
    · have hon := hh d hd
      have hlt : d < ops.size := by
        unfold On at hon
        have := (Array.getElem?_eq_some_iff.1 hon).1
        omega
      have hod : ops[d]? = some ops[d] := by simp [hlt]
      exact ih d (h1 d hd) _ hod (hcl d _ hod hon) j hdj

/-- all that write the slot are listed -/
def live (l : List DI) (L : Array Bool) (t : Nat) : Bool := l.all fun x => !x.i.dsts.contains t || L[x.j]? == some true

theorem live_spec {l : List DI} {L : Array Bool} {t : Nat} : live l L t = true ↔ ∀ x, x ∈ l → t ∈ x.i.dsts → On L x.j := by
  simp only [live, List.all_eq_true, Bool.or_eq_true, Bool.not_eq_true', beq_iff_eq, On]
  constructor
  · intro h x hx ht
    rcases h x hx with h | h
    · simp [ht] at h
    · exact h
  · intro h x hx
    by_cases ht : t ∈ x.i.dsts
    · exact .inr (h x hx ht)
    · refine .inl ?_
      cases hc : x.i.dsts.contains t with
      | false => rfl
      | true => exact absurd (List.contains_iff_mem.1 hc) ht

theorem count_set {L : Array Bool} {i : Nat} (hi : i < L.size) (hn : ¬ On L i) : (L.setIfInBounds i true).toList.count false + 1 ≤ L.toList.count false := by
  have hf : L.toList[i]? = some false := by
    rw [Array.getElem?_toList]
    unfold On at hn
    rw [Array.getElem?_eq_getElem hi] at hn ⊢
    cases hb : L[i] with
    | true => rw [hb] at hn; exact absurd rfl hn
    | false => rfl
  have key : ∀ (l : List Bool) (i : Nat), l[i]? = some false → (l.set i true).count false + 1 ≤ l.count false := by
    intro l
    induction l with
    | nil => intro i h; simp at h
    | cons x xs ih =>
      intro i h
      cases i with
      | zero =>
        simp only [List.getElem?_cons_zero, Option.some.injEq] at h
        subst h
        simp
      | succ i =>
        simp only [List.getElem?_cons_succ] at h
        have := ih i h
        simp only [List.set_cons_succ, List.count_cons]
        omega
  rw [Array.toList_setIfInBounds]
  exact key _ _ hf

theorem count_zero {L : Array Bool} (h : L.toList.count false = 0) : ∀ i, i < L.size → On L i := by
  intro i hi
  unfold On
  rw [Array.getElem?_eq_getElem hi]
  cases hb : L[i] with
  | true => rfl
  | false =>
    exfalso
    have : false ∈ L.toList := by rw [← hb]; simp
    have := List.count_pos_iff.2 this
    omega

theorem draw_go (hC : CSound P C) {ops : Array Oper} {pre : List (List Nat)} {l : List DI} {ef : List AV} {hf : AHeap} {b : Frame} {k : List Item} {cs : List Frame}
    (hI : ∀ x, x ∈ l → ∃ o, ops[x.j]? = some o ∧ trIn P ops o = some x.i) (hR : ∀ x, x ∈ l → ∀ y, y ∈ l → ∀ r, r ∈ y.rs → r.1 = x.j → r.2 = x.i) (hJ : ∀ x, x ∈ l → ∀ y, y ∈ l → x.j = y.j → x.i = y.i)
    (hok : okGo pre [] l = true) (hall : ∀ j, j < ops.size → ∃ x, x ∈ l ∧ x.j = j)
    (hpre : ∀ (k : Nat) (o : Oper), ops[k]? = some o → (∀ d, d ∈ hard o → d < k) ∧ ∀ j, j ∈ (pre[k]?).getD [] → ∃ d, d ∈ hard o ∧ (d = j ∨ j ∈ (pre[d]?).getD [])) :
    ∀ (fuel t : Nat) (L : Array Bool) (l1 l2 : List DI) (hs : AHeap) (μ : Mu) (w : World) (a : Act), L.size = ops.size → L.toList.count false ≤ fuel → (∀ (k : Nat) (o : Oper), ops[k]? = some o → On L k → ∀ d, d ∈ hard o → On L d) →
      l = l1 ++ l2 → Trc C ef l2 hs hf → (∀ x, x ∈ l2 → cls x.i.op = 2 → ¬ On L x.j) → (∀ x, x ∈ l1 → cls x.i.op ≠ 2 → ¬ On L x.j → Fact C ef x.i hs hs) → (∀ x, x ∈ l1 → cls x.i.op = 2 → On L x.j) →
      Rel μ hs w → EnvR μ (maskE (live l L) ef) a.tmps →
      ∃ a' w' μ', Steps P (lone (Fat b a (.inRegion ops (Region.linearise.go .any ops fuel t L []) :: k)) cs w) (lone (Fat b a' k) cs w') ∧ a'.defers = a.defers ∧ EnvR μ' ef a'.tmps ∧ Rel μ' hf w' ∧ Step μ hs w μ' hf w' := by
  intro fuel
  have fin : ∀ (L : Array Bool) (l1 l2 : List DI) (hs : AHeap) (μ : Mu) (w : World) (a : Act), L.size = ops.size → (∀ i, i < ops.size → On L i) → l = l1 ++ l2 → Trc C ef l2 hs hf → (∀ x, x ∈ l2 → cls x.i.op = 2 → ¬ On L x.j) →
      Rel μ hs w → EnvR μ (maskE (live l L) ef) a.tmps →
      ∃ a' w' μ', Steps P (lone (Fat b a (.inRegion ops [] :: k)) cs w) (lone (Fat b a' k) cs w') ∧ a'.defers = a.defers ∧ EnvR μ' ef a'.tmps ∧ Rel μ' hf w' ∧ Step μ hs w μ' hf w' := by
    intro L l1 l2 hs μ w a hsz hon hl htr h2 hr he
    have hin : ∀ x, x ∈ l → On L x.j := fun x hx => by
      obtain ⟨o, ho, _⟩ := hI x hx
      exact hon _ (Array.getElem?_eq_some_iff.1 ho).1
    have hnone : ∀ x, x ∈ l2 → cls x.i.op ≠ 2 := fun x hx hc => h2 x hx hc (hin x (by rw [hl]; simp [hx]))
    have hq := (Trc.quiet (p := l2) (q := []) (by simpa using htr) hnone).2
    have hh : hs = hf := hq
    subst hh
    have hm : maskE (live l L) ef = ef := maskE_all fun t => live_spec.2 fun x hx _ => hin x hx
    rw [hm] at he
    exact ⟨a, w, μ, Steps.one st_region_end, rfl, he, hr, Step.refl _ _ _⟩
  induction fuel with
  | zero =>
    intro t L l1 l2 hs μ w a hsz hcnt hcl hl htr h2 h1 h12 hr he
    simp only [Region.linearise.go, List.reverse_nil]
    refine fin L l1 l2 hs μ w a hsz (fun i hi => count_zero (by omega) i (by omega)) hl htr h2 hr he
  | succ fuel ih =>
    intro t L l1 l2 hs μ w a hsz hcnt hcl hl htr h2 h1 h12 hr he
    simp only [Region.linearise.go]
    change ∃ a' w' μ', Steps P (lone (Fat b a (.inRegion ops (match (Region.ready .any ops L)[t % (Region.ready .any ops L).length]? with
      | some i => Region.linearise.go .any ops fuel (t / (Region.ready .any ops L).length) (L.setIfInBounds i true) [i]
      | none => [].reverse) :: k)) cs w) (lone (Fat b a' k) cs w') ∧ a'.defers = a.defers ∧ EnvR μ' ef a'.tmps ∧ Rel μ' hf w' ∧ Step μ hs w μ' hf w'
    cases hi : (Region.ready .any ops L)[t % (Region.ready .any ops L).length]? with
    | none =>
      have hnil : Region.ready .any ops L = [] := by
        cases hrd : Region.ready .any ops L with
        | nil => rfl
        | cons x xs =>
          rw [hrd] at hi
          have hlt : t % (x :: xs).length < (x :: xs).length := Nat.mod_lt _ (by simp)
          simp at hi
          simp at hlt
          omega
      exact fin L l1 l2 hs μ w a hsz (ready_none hsz (fun k o ho => (hpre k o ho).1) hnil) hl htr h2 hr he
    | some i =>
      simp only []
      rw [linearise_go_acc, List.reverse_singleton, List.singleton_append]
      obtain ⟨hilt, hnon, o, ho, hhard⟩ := ready_spec (List.mem_of_getElem? hi)
      obtain ⟨d, hd, hdj⟩ := hall i hilt
      obtain ⟨o', ho', htr'⟩ := hI d hd
      rw [hdj, ho] at ho'
      have := Option.some.inj ho'; subst this
      have hprel := pre_listed hsz hpre hcl i o ho hhard
      have hsz' : (L.setIfInBounds i true).size = ops.size := by simpa using hsz
      have hcnt' : (L.setIfInBounds i true).toList.count false ≤ fuel := by have := count_set (L := L) (i := i) (by omega) hnon; omega
      have hcl' : ∀ (k : Nat) (o : Oper), ops[k]? = some o → On (L.setIfInBounds i true) k → ∀ d, d ∈ hard o → On (L.setIfInBounds i true) d := by
        intro k2 o2 ho2 hon2 d2 hd2
        rcases On.of_set hon2 with rfl | hon2
        · rw [ho] at ho2; cases ho2
          exact (hhard d2 hd2).set
        · exact (hcl k2 o2 ho2 hon2 d2 hd2).set
      have hlive : ∀ t, live l (L.setIfInBounds i true) t = true → t ∉ d.i.dsts → live l L t = true := by
        intro t ht hnt
        refine live_spec.2 fun x hx hxt => ?_
        rcases On.of_set (live_spec.1 ht x hx hxt) with e | e
        · have := hJ x hx d hd (e.trans hdj.symm)
          rw [this] at hxt
          exact absurd hxt hnt
        · exact e
      -- the place of the instruction
      obtain ⟨p, q, hpq⟩ := List.append_of_mem hd
      have chk : Chk pre (p.reverse ++ []) d q := okGo_split (by rw [← hpq]; exact hok)
      rw [List.append_nil] at chk
      have hreads : ∀ t, t ∈ d.i.reads → live l L t = true := by
        intro t ht
        refine live_spec.2 fun x hx hxt => ?_
        rw [hpq] at hx
        rcases List.mem_append.1 hx with hx | hx
        · have := chk.wait t ht x (List.mem_reverse.2 hx) hxt
          rw [hdj] at this
          exact hprel _ this
        · rcases List.mem_cons.1 hx with rfl | hx
          · exact absurd hxt (chk.self t ht)
          · exact absurd hxt (chk.out t (.inl ht) x hx)
      have hmem2 : ∀ x, x ∈ p → x ∈ p.reverse := fun x hx => List.mem_reverse.2 hx
      by_cases hc : cls d.i.op = 2
      · -- an effect
        have hnot1 : d ∉ l1 := fun h => hnon (by have := h12 d h hc; rwa [hdj] at this)
        have hd2 : d ∈ l2 := by
          rw [hl] at hd
          rcases List.mem_append.1 hd with h | h
          · exact absurd h hnot1
          · exact h
        obtain ⟨p2, q2, hpq2⟩ := List.append_of_mem hd2
        have chk2 : Chk pre ((l1 ++ p2).reverse ++ []) d q2 := okGo_split (by rw [List.append_assoc, ← hpq2, ← hl]; exact hok)
        rw [List.append_nil] at chk2
        have hp2 : ∀ x, x ∈ p2 → cls x.i.op ≠ 2 := fun x hx hx2 => by
          have := chk2.eff (by rw [hc]; decide) x (List.mem_reverse.2 (by simp [hx])) hx2
          rw [hdj] at this
          exact h2 x (by rw [hpq2]; simp [hx]) hx2 (hprel _ this)
        rw [hpq2] at htr
        obtain ⟨hfacts, h', hfd, hrs, htq⟩ := Trc.quiet htr hp2
        obtain ⟨a1, w1, μ1, s1, d1, e1, r1, t1⟩ := fact_step (b := b) (rest := Region.linearise.go .any ops fuel (t / (Region.ready .any ops L).length) (L.setIfInBounds i true) []) (k := k) hC ho htr' hfd hr he hreads cs
        have hmv : ∀ x, x ∈ l1 ++ p2 → cls x.i.op ≠ 2 → ¬ On L x.j → Fact C ef x.i hs hs → Fact C ef x.i h' h' := by
          intro x hx hxc hxn hxf
          by_cases hx0 : cls x.i.op = 0
          · exact (hxf.pure hx0).2 h'
          · have hx1 : cls x.i.op = 1 := by
              have : cls x.i.op ≤ 2 := by cases x.i.op <;> simp [cls]
              omega
            rcases chk2.red hc x (List.mem_reverse.2 hx) hx1 with hp | ⟨r, hrm, hrj⟩
            · rw [hdj] at hp
              exact absurd (hprel _ hp) hxn
            · have hxl : x ∈ l := by
                rw [hl, hpq2]
                rcases List.mem_append.1 hx with h | h
                · simp [h]
                · simp [h]
              have := hR x hxl d hd r hrm hrj
              have hrf := hrs r hrm
              rw [this] at hrf
              exact hxf.move hrf hxc
        obtain ⟨a2, w2, μ2, s2, d2, e2, r2, t2⟩ := ih (t / (Region.ready .any ops L).length) (L.setIfInBounds i true) (l1 ++ p2 ++ [d]) q2 h' μ1 w1 a1 hsz' hcnt' hcl' (by rw [hl, hpq2]; simp) htq
          (fun x hx hx2 hon => by
            rcases On.of_set hon with e | e
            · have hxl : ∃ y z, q2 = y ++ x :: z := List.append_of_mem hx
              obtain ⟨y, z, hyz⟩ := hxl
              have chk3 : Chk pre ((l1 ++ p2 ++ d :: y).reverse ++ []) x z := okGo_split (by
                have : l1 ++ p2 ++ d :: y ++ x :: z = l := by rw [hl, hpq2, hyz]; simp
                rw [this]; exact hok)
              exact chk3.once d (by simp) (hdj.trans e.symm)
            · exact h2 x (by rw [hpq2]; simp [hx]) hx2 e)
          (fun x hx hxc hxn => by
            have hxn' : ¬ On L x.j := fun h => hxn h.set
            rcases List.mem_append.1 hx with hx | hx
            · refine hmv x hx hxc hxn' ?_
              rcases List.mem_append.1 hx with hx | hx
              · exact h1 x hx hxc hxn'
              · exact hfacts x hx
            · rw [List.mem_singleton.1 hx] at hxc
              exact absurd hc hxc)
          (fun x hx hx2 => by
            rcases List.mem_append.1 hx with hx | hx
            · rcases List.mem_append.1 hx with hx | hx
              · exact (h12 x hx hx2).set
              · exact absurd hx2 (hp2 x hx)
            · rw [List.mem_singleton.1 hx, hdj]
              unfold On
              rw [Array.getElem?_setIfInBounds, if_pos rfl, if_pos (by omega)])
          r1 (e1 _ hlive)
        exact ⟨a2, w2, μ2, s1.trans s2, d2.trans d1, e2, r2, t1.trans t2⟩
      · -- no effect
        have hfd : Fact C ef d.i hs hs := by
          rw [hl] at hd
          rcases List.mem_append.1 hd with h | h
          · exact h1 d h hc (by rw [hdj]; exact hnon)
          · by_cases hc0 : cls d.i.op = 0
            · exact Trc.pures htr d h hc0 hs
            · obtain ⟨p2, q2, hpq2⟩ := List.append_of_mem h
              have chk2 : Chk pre ((l1 ++ p2).reverse ++ []) d q2 := okGo_split (by rw [List.append_assoc, ← hpq2, ← hl]; exact hok)
              rw [List.append_nil] at chk2
              have hp2 : ∀ x, x ∈ p2 → cls x.i.op ≠ 2 := fun x hx hx2 => by
                have := chk2.eff hc0 x (List.mem_reverse.2 (by simp [hx])) hx2
                rw [hdj] at this
                exact h2 x (by rw [hpq2]; simp [hx]) hx2 (hprel _ this)
              rw [hpq2] at htr
              obtain ⟨_, h', hfd, _, _⟩ := Trc.quiet htr hp2
              have := hfd.quiet hc
              subst this
              exact hfd
        obtain ⟨a1, w1, μ1, s1, d1, e1, r1, t1⟩ := fact_step (b := b) (rest := Region.linearise.go .any ops fuel (t / (Region.ready .any ops L).length) (L.setIfInBounds i true) []) (k := k) hC ho htr' hfd hr he hreads cs
        obtain ⟨a2, w2, μ2, s2, d2, e2, r2, t2⟩ := ih (t / (Region.ready .any ops L).length) (L.setIfInBounds i true) l1 l2 hs μ1 w1 a1 hsz' hcnt' hcl' hl htr
          (fun x hx hx2 hon => by
            rcases On.of_set hon with e | e
            · have := hJ x (by rw [hl]; simp [hx]) d hd (e.trans hdj.symm)
              rw [this] at hx2
              exact hc hx2
            · exact h2 x hx hx2 e)
          (fun x hx hxc hxn => h1 x hx hxc fun h => hxn h.set)
          (fun x hx hx2 => (h12 x hx hx2).set)
          r1 (e1 _ hlive)
        exact ⟨a2, w2, μ2, s1.trans s2, d2.trans d1, e2, r2, t1.trans t2⟩

theorem draw_sound (hC : CSound P C) {id : Nat} {ops : Array Oper} {is : List AIn} {l : List (Nat × List Nat)} {pre : List (List Nat)} {ds : List DI} {e e' : List AV} {h h' : AHeap} {μ : Mu} {w : World} {a : Act} {b : Frame} {k : List Item}
    (hi : trIns P ops ops.toList = some is) (hds : mkDraw is l = some ds) (hok : okDraw ops pre ds = true) (hm : P.follows .mixedOrders = true) (hrun : runDraw C ds e h = some (e', h')) (hr : Rel μ h w) (he : EnvR μ e a.tmps) (cs : List Frame) :
    Ends P (lone (Fat b a (.code (.region id ops true) :: k)) cs w) b k cs a.defers μ h w .normal e' h' := by
  simp only [okDraw, Bool.and_eq_true, List.all_eq_true, List.mem_range, List.any_eq_true, beq_iff_eq] at hok
  obtain ⟨⟨hp, hgo⟩, hall⟩ := hok
  have hmem := mkDraw_mem hds
  have hI : ∀ x, x ∈ ds → ∃ o, ops[x.j]? = some o ∧ trIn P ops o = some x.i := fun x hx => by
    obtain ⟨o, h1, h2⟩ := trIns_get hi x.j x.i (hmem x hx).1
    exact ⟨o, by rwa [Array.getElem?_toList] at h1, h2⟩
  have htr := trc_of_run (I := is) (done := []) hgo hrun hmem (fun x hx => absurd hx (by simp)) (fun x hx => absurd hx (by simp))
  have henv := runDraw_env hrun
  have hno : ∀ x, ¬ On (Array.replicate ops.size false) x := fun x hx => by
    unfold On at hx
    rw [Array.getElem?_replicate] at hx
    split at hx <;> cases hx
  have hmask : EnvR μ (maskE (live ds (Array.replicate ops.size false)) e') a.tmps := by
    refine ⟨by rw [maskE_length, henv.2]; exact he.1, fun t v hv => he.2 t v ?_⟩
    rw [maskE_get] at hv
    cases hx : e'[t]? with
    | none => rw [hx] at hv; cases hv
    | some y =>
      rw [hx] at hv
      simp only [Option.map_some, Option.bind_some] at hv
      by_cases hl : live ds (Array.replicate ops.size false) t = true
      · rw [if_pos hl] at hv
        have := henv.1 t fun x hx ht => hno _ (live_spec.1 hl x hx ht)
        rw [← this, hx]
        exact hv
      · rw [if_neg hl] at hv; cases hv
  obtain ⟨a', w', μ', s, hd, v, r, t⟩ := draw_go (b := b) (k := k) (cs := cs) hC hI
    (fun x hx y hy rr hrr hj => by
      have h1 := (hmem y hy).2 rr hrr
      rw [hj, (hmem x hx).1] at h1
      exact (Option.some.inj h1).symm)
    (fun x hx y hy hj => by
      have h1 := (hmem x hx).1
      rw [hj, (hmem y hy).1] at h1
      exact (Option.some.inj h1).symm)
    hgo (fun j hj => hall j hj)
    (fun k o ho => by
      have := preOk_get hp k o (by rw [Array.getElem?_toList]; exact ho)
      rwa [Nat.zero_add] at this)
    ops.size (w.tape w.drawn (.order b.fn id)) (Array.replicate ops.size false) [] ds h μ { w with drawn := w.drawn + 1 } a (by simp) (by simp)
    (fun k o _ hon => absurd hon (hno k)) rfl htr (fun x _ _ => hno _) (fun x hx => absurd hx (by simp)) (fun x hx => absurd hx (by simp)) (hr.drew _) hmask
  refine ⟨a', w', μ', ?_, hd, v, r, (Step.drew μ h w _).trans t⟩
  have hsched : Region.schedule (P.follows .mixedOrders) ops (w.tape w.drawn (.order b.fn id)) = Region.linearise.go .any ops ops.size (w.tape w.drawn (.order b.fn id)) (Array.replicate ops.size false) [] := by
    simp [Region.schedule, hm, Region.linearise]
  exact Steps.trans (Steps.one (st_region_draw (cs := cs))) (by rw [hsched]; exact s)

end
end Go.Proofs.Ytjmocbadnclldaa
