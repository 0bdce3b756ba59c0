/- A region whose order is open: whatever the order, what the canonical order gives. -/
import Derived.Test.YtjmocbadnclldaaM17
import Derived.Orders
namespace Go.Proofs.Ytjmocbadnclldaa

section
variable {P : Program} {C : Sem1}

theorem map_pure {α : Type} {X : Option α} {g : α → AV} {h h' : AHeap} {v : AV} (e : X.map (fun x => (g x, h)) = some (v, h')) : h' = h ∧ ∀ h2 : AHeap, X.map (fun x => (g x, h2)) = some (v, h2) := by
  cases X with
  | none => cases e
  | some x => cases e; exact ⟨rfl, fun _ => rfl⟩

theorem aop_pure {o : AOp} (hc : cls o = 0) {args : List AV} {h h' : AHeap} {v : AV} (e : aop o args h = some (v, h')) : h' = h ∧ ∀ h2, aop o args h2 = some (v, h2) := by
  cases o <;> simp only [cls] at hc <;> first | (exact absurd hc (by decide)) | skip
  all_goals
    simp only [aop] at e ⊢
    (repeat' split at e) <;> first
      | (cases e; done)
      | (cases e; simp_all; done)
      | exact map_pure e
      | (have hneg := ‹¬_›; simp only [hneg, if_false]; exact map_pure e)
      | (have hpos := ‹_ = true›; simp only [hpos, if_true]; exact map_pure e)
      | (have hes := ‹_ = _›; simp only [hes, if_true]; exact map_pure e)
      | skip
  · rename_i hes mx0
    obtain ⟨x, hx, e2⟩ := Option.bind_eq_some_iff.1 e
    refine ⟨by split at e2 <;> cases e2 <;> rfl, fun h2 => ?_⟩
    rw [if_pos hes, hx, Option.bind_some]
    split at e2
    · rename_i hc2; rw [if_pos hc2]; cases e2; rfl
    · rename_i hc2; rw [if_neg hc2]; cases e2; rfl
  · rename_i hes mx0
    refine ⟨(map_pure e).1, fun h2 => ?_⟩
    rw [if_pos hes]; exact (map_pure e).2 h2
  · rename_i hh
    refine ⟨(map_pure e).1, fun h2 => ?_⟩
    rw [if_pos hh]; exact (map_pure e).2 h2
  · rename_i hh
    cases e; exact ⟨rfl, fun h2 => by rw [if_neg hh]⟩
  · rename_i hh
    cases e; exact ⟨rfl, fun h2 => by rw [if_neg hh]⟩

theorem aop_read {o : AOp} (hc : cls o = 1) {args : List AV} {h h' : AHeap} {v : AV} (e : aop o args h = some (v, h')) : h' = h := by
  cases o <;> simp only [cls] at hc <;> first | (exact absurd hc (by decide)) | skip
  all_goals
    simp only [aop] at e
    (repeat' split at e) <;> first
      | (cases e; done)
      | (cases e; rfl)
      | (simp only [Option.map_eq_some_iff, Prod.mk.injEq] at e; obtain ⟨x, h1, h2, rfl⟩ := e; rfl)

/-- an instruction that only looks would tell the same at another heap -/
def RFact (ef : List AV) (r : AIn) (h : AHeap) : Prop :=
  wantedA ef r.guard = some false ∨
  (wantedA ef r.guard = some true ∧ ∃ args v h'', evalL ef r.args = some args ∧ aop r.op args h = some (v, h'') ∧ ∀ d x, r.dst = some d → ef[d]? = some x → x = v)

/-- what an instruction told, by the slots at the region's end -/
def Fact (C : Sem1) (ef : List AV) (i : AIn) (h h' : AHeap) : Prop :=
  (wantedA ef i.guard = some true ∧ ∃ args v, evalL ef i.args = some args ∧ doOp C i.op args h = some (v, h') ∧ ∀ d x, i.dst = some d → ef[d]? = some x → x = v) ∨
  (wantedA ef i.guard = some false ∧ h' = h ∧ ∀ d x, i.dst = some d → ef[d]? = some x → x = .tuple [])

def Trc (C : Sem1) (ef : List AV) : List DI → AHeap → AHeap → Prop
  | [], h, hf => h = hf
  | d :: b, h, hf => ∃ h', Fact C ef d.i h h' ∧ (∀ r, r ∈ d.rs → RFact ef r.2 h') ∧ Trc C ef b h' hf

theorem wantedA_congr {e f : List AV} {g : Option (Nat × Bool)} (h : ∀ s q, g = some (s, q) → e[s]? = f[s]?) : wantedA e g = wantedA f g := by
  cases g with
  | none => rfl
  | some p => obtain ⟨s, q⟩ := p; simp only [wantedA, h s q rfl]

theorem evalL_congr {e f : List AV} : ∀ {os : List Opd}, (∀ t, t ∈ os.flatMap Opd.slot → e[t]? = f[t]?) → evalL e os = evalL f os
  | [], _ => rfl
  | o :: os, h => by
    have h1 : o.eval e = o.eval f := by
      cases o with
      | tmp t => simp only [Opd.eval, h t (by simp [Opd.slot])]
      | lit v => rfl
    simp only [evalL, h1, evalL_congr (os := os) fun t ht => h t (by simp only [List.flatMap_cons, List.mem_append]; exact .inr ht)]

theorem setDst_get {e : List AV} {d : Option Nat} {v : AV} {t : Nat} (h : t ∉ d.toList) : (setDst e d v)[t]? = e[t]? := by
  cases d with
  | none => rfl
  | some i =>
    simp only [setDst, List.getElem?_set]
    rw [if_neg (fun e => h (by simp [e]))]

theorem setDst_length {e : List AV} {d : Option Nat} {v : AV} : (setDst e d v).length = e.length := by cases d <;> simp [setDst]

theorem runIn_env {i : AIn} {e e' : List AV} {h h' : AHeap} (hr : runIn C i e h = some (e', h')) : (∀ t, t ∉ i.dsts → e'[t]? = e[t]?) ∧ e'.length = e.length := by
  unfold runIn at hr
  split at hr
  · split at hr
    · split at hr
      · cases hr; exact ⟨fun t ht => setDst_get ht, setDst_length⟩
      · cases hr
    · cases hr
  · cases hr; exact ⟨fun t ht => setDst_get ht, setDst_length⟩
  · cases hr

theorem runDraw_env : ∀ {l : List DI} {e ef : List AV} {h hf : AHeap}, runDraw C l e h = some (ef, hf) → (∀ t, (∀ x, x ∈ l → t ∉ x.i.dsts) → ef[t]? = e[t]?) ∧ ef.length = e.length
  | [], e, ef, h, hf, hr => by simp only [runDraw] at hr; cases hr; exact ⟨fun _ _ => rfl, rfl⟩
  | d :: l, e, ef, h, hf, hr => by
    simp only [runDraw] at hr
    split at hr
    · rename_i e1 h1 h2
      split at hr
      · obtain ⟨p, q⟩ := runIn_env h2
        obtain ⟨p', q'⟩ := runDraw_env hr
        exact ⟨fun t ht => by rw [p' t (fun x hx => ht x (by simp [hx])), p t (ht d (by simp))], by rw [q', q]⟩
      · cases hr
    · cases hr

theorem fact_of_run {i : AIn} {e e1 ef : List AV} {h h1 : AHeap} (hr : runIn C i e h = some (e1, h1)) (hreads : ∀ t, t ∈ i.reads → ef[t]? = e[t]?) (hdst : ∀ t, t ∈ i.dsts → ef[t]? = e1[t]?) : Fact C ef i h h1 := by
  have hw : wantedA ef i.guard = wantedA e i.guard := wantedA_congr fun s q hg => hreads s (by simp [AIn.reads, hg])
  have ha : evalL ef i.args = evalL e i.args := evalL_congr fun t ht => hreads t (by simp only [AIn.reads, List.mem_append]; exact .inl ht)
  unfold runIn at hr
  split at hr
  · rename_i h0
    split at hr
    · rename_i args h2
      split at hr
      · rename_i v h' h3
        cases hr
        refine .inl ⟨hw.trans h0, args, v, ha.trans h2, h3, fun d x hd hx => ?_⟩
        rw [hdst d (by simp [AIn.dsts, hd]), hd] at hx
        simp only [setDst, List.getElem?_set] at hx
        simp only [if_true] at hx
        split at hx
        · cases hx; rfl
        · cases hx
      · cases hr
    · cases hr
  · rename_i h0
    cases hr
    refine .inr ⟨hw.trans h0, rfl, fun d x hd hx => ?_⟩
    rw [hdst d (by simp [AIn.dsts, hd]), hd] at hx
    simp only [setDst, List.getElem?_set] at hx
    simp only [if_true] at hx
    split at hx
    · cases hx; rfl
    · cases hx
  · cases hr

theorem fact_of_again {r : AIn} {e ef : List AV} {h : AHeap} (hr : again r e h = true) (hreads : ∀ t, t ∈ r.reads → ef[t]? = e[t]?) (hdst : ∀ t, t ∈ r.dsts → ef[t]? = e[t]?) : RFact ef r h := by
  have hw : wantedA ef r.guard = wantedA e r.guard := wantedA_congr fun s q hg => hreads s (by simp [AIn.reads, hg])
  have ha : evalL ef r.args = evalL e r.args := evalL_congr fun t ht => hreads t (by simp only [AIn.reads, List.mem_append]; exact .inl ht)
  unfold again at hr
  split at hr
  · rename_i h0
    exact .inl (hw.trans h0)
  · rename_i h0
    split at hr
    · rename_i args h2
      split at hr
      · rename_i v h' h3
        refine .inr ⟨hw.trans h0, args, v, h', ha.trans h2, h3, fun d x hd hx => ?_⟩
        rw [hdst d (by simp [AIn.dsts, hd])] at hx
        rw [hd] at hr
        simp only [hx] at hr
        exact (AV.same_eq _ _ hr).symm
      · cases hr
    · cases hr
  · cases hr

/-- the checks of one instruction against those ahead of it and those behind it -/
structure Chk (pre : List (List Nat)) (done : List DI) (d : DI) (b : List DI) : Prop where
  out : ∀ t, t ∈ d.i.reads ∨ t ∈ d.i.dsts → ∀ x, x ∈ b → t ∉ x.i.dsts
  self : ∀ t, t ∈ d.i.reads → t ∉ d.i.dsts
  wait : ∀ t, t ∈ d.i.reads → ∀ x, x ∈ done → t ∈ x.i.dsts → x.j ∈ (pre[d.j]?).getD []
  eff : cls d.i.op ≠ 0 → ∀ x, x ∈ done → cls x.i.op = 2 → x.j ∈ (pre[d.j]?).getD []
  red : cls d.i.op = 2 → ∀ x, x ∈ done → cls x.i.op = 1 → x.j ∈ (pre[d.j]?).getD [] ∨ ∃ r, r ∈ d.rs ∧ r.1 = x.j
  rsd : ∀ r, r ∈ d.rs → ∃ x, x ∈ done ∧ x.j = r.1
  rsc : ∀ r, r ∈ d.rs → cls r.2.op ≠ 2
  once : ∀ x, x ∈ done → x.j ≠ d.j

theorem okGo_chk {pre : List (List Nat)} {done : List DI} {d : DI} {b : List DI} (h : okGo pre done (d :: b) = true) : Chk pre done d b ∧ okGo pre (d :: done) b = true := by
  simp only [okGo, Bool.and_eq_true, List.all_eq_true, List.mem_append, Bool.not_eq_true', Bool.or_eq_true, List.any_eq_true, beq_iff_eq, bne_iff_ne, List.contains_iff_mem, ne_eq] at h
  obtain ⟨⟨⟨⟨⟨⟨⟨⟨h1, h2⟩, h3⟩, h4⟩, h5⟩, h6⟩, h7⟩, h8⟩, h9⟩ := h
  refine ⟨⟨fun t ht x hx hc => ?_, fun t ht hc => ?_, fun t ht x hx hc => ?_, fun hc x hx hx2 => ?_, fun hc x hx hx1 => ?_, h6, h7, h8⟩, h9⟩
  · have := h1 t ht x hx; simp [hc] at this
  · have := h2 t ht; simp [hc] at this
  · rcases h3 t ht x hx with h | h
    · simp [hc] at h
    · exact h
  · rcases h4 with h | h
    · exact absurd h hc
    · rcases h x hx with h | h
      · exact absurd hx2 h
      · exact h
  · rcases h5 with h | h
    · exact absurd hc h
    · rcases h x hx with (h | h) | ⟨r, hr, he⟩
      · exact absurd hx1 h
      · exact .inl h
      · exact .inr ⟨r, hr, he⟩

theorem trc_of_run {pre : List (List Nat)} {I : List AIn} : ∀ {l : List DI} {done : List DI} {e ef : List AV} {h hf : AHeap}, okGo pre done l = true → runDraw C l e h = some (ef, hf) → (∀ x, x ∈ l → I[x.j]? = some x.i ∧ ∀ r, r ∈ x.rs → I[r.1]? = some r.2) → (∀ x, x ∈ done → I[x.j]? = some x.i) →
    (∀ x, x ∈ done → ∀ t, t ∈ x.i.reads ∨ t ∈ x.i.dsts → ∀ y, y ∈ l → t ∉ y.i.dsts) → Trc C ef l h hf
  | [], done, e, ef, h, hf, _, hr, _, _, _ => by simp only [runDraw] at hr; cases hr; rfl
  | d :: b, done, e, ef, h, hf, hok, hr, hI, hdI, hdone => by
    obtain ⟨chk, hok'⟩ := okGo_chk hok
    simp only [runDraw] at hr
    split at hr
    · rename_i e1 h1 h2
      split at hr
      · rename_i hall
        have hlater := runDraw_env hr
        obtain ⟨p1, p2⟩ := runIn_env h2
        have hfact : Fact C ef d.i h h1 := fact_of_run h2 (fun t ht => by rw [hlater.1 t (fun x hx => chk.out t (.inl ht) x hx), p1 t (chk.self t ht)]) (fun t ht => hlater.1 t (fun x hx => chk.out t (.inr ht) x hx))
        refine ⟨h1, hfact, fun r hrm => ?_, trc_of_run hok' hr (fun x hx => hI x (by simp [hx])) (fun x hx => ?_) (fun x hx t ht y hy => ?_)⟩
        · obtain ⟨x, hx, hxj⟩ := chk.rsd r hrm
          have hxr : x.i = r.2 := by
            have a1 := hdI x hx
            have a2 := (hI d (by simp)).2 r hrm
            rw [hxj, a2] at a1
            exact (Option.some.inj a1).symm
          have hag := (List.all_eq_true.1 hall) r hrm
          exact fact_of_again hag (fun t ht => hlater.1 t fun y hy => hdone x hx t (.inl (by rw [hxr]; exact ht)) y (by simp [hy])) (fun t ht => hlater.1 t fun y hy => hdone x hx t (.inr (by rw [hxr]; exact ht)) y (by simp [hy]))
        · rcases List.mem_cons.1 hx with rfl | hx
          · exact (hI x (by simp)).1
          · exact hdI x hx
        · rcases List.mem_cons.1 hx with rfl | hx
          · exact chk.out t ht y hy
          · exact hdone x hx t ht y (by simp [hy])
      · cases hr
    · cases hr

end
end Go.Proofs.Ytjmocbadnclldaa
