/- A region whose order is open: what its instructions tell, in the canonical order. -/
import Derived.Test.YtjdemlagmamlbaaM17
import Derived.Orders
namespace Go.Proofs.Ytjdemlagmamlbaa

section
variable {P : Program} {C : SemW}

theorem map_pure {α : Type} {X : Option α} {g : α → AV} {h h' : AHeap} {v : AV} (e : X.map (fun x => (g x, h)) = some (v, h')) : h' = h ∧ ∀ h2 : AHeap, X.map (fun x => (g x, h2)) = some (v, h2) := by
  cases X with
  | none => cases e
  | some x => cases e; exact ⟨rfl, fun _ => rfl⟩

theorem aop_pure {o : AOp} (hc : cls o = 0) {args : List AV} {h h' : AHeap} {v : AV} (e : aop o args h = some (v, h')) : h' = h ∧ ∀ h2, aop o args h2 = some (v, h2) := by
  cases o <;> simp only [cls] at hc <;> first | (exact absurd hc (by decide)) | skip
  all_goals
    simp only [aop] at e ⊢
    (repeat' split at e) <;> first
      | (cases e; done)
      | (cases e; simp_all; done)
      | exact map_pure e
      | (have hneg := ‹¬_›; simp only [hneg, if_false]; exact map_pure e)
      | (have hpos := ‹_ = true›; simp only [hpos, if_true]; exact map_pure e)
      | (have hes := ‹_ = _›; simp only [hes, if_true]; exact map_pure e)
      | skip
  · rename_i hes mx0
    obtain ⟨x, hx, e2⟩ := Option.bind_eq_some_iff.1 e
    refine ⟨by split at e2 <;> cases e2 <;> rfl, fun h2 => ?_⟩
    rw [if_pos hes, hx, Option.bind_some]
    split at e2
    · rename_i hc2; rw [if_pos hc2]; cases e2; rfl
    · rename_i hc2; rw [if_neg hc2]; cases e2; rfl
  · rename_i hes mx0
    refine ⟨(map_pure e).1, fun h2 => ?_⟩
    rw [if_pos hes]; exact (map_pure e).2 h2
  · rename_i hh
    refine ⟨(map_pure e).1, fun h2 => ?_⟩
    rw [if_pos hh]; exact (map_pure e).2 h2
  · rename_i hh
    cases e; exact ⟨rfl, fun h2 => by rw [if_neg hh]⟩
  · rename_i hh
    cases e; exact ⟨rfl, fun h2 => by rw [if_neg hh]⟩

theorem aop_read {o : AOp} (hc : cls o = 1) {args : List AV} {h h' : AHeap} {v : AV} (e : aop o args h = some (v, h')) : h' = h := by
  cases o <;> simp only [cls] at hc <;> first | (exact absurd hc (by decide)) | skip
  all_goals
    simp only [aop] at e
    (repeat' split at e) <;> first
      | (cases e; done)
      | (cases e; rfl)
      | (simp only [Option.map_eq_some_iff, Prod.mk.injEq] at e; obtain ⟨x, h1, h2, rfl⟩ := e; rfl)

theorem wantedA_congr {e f : List AV} {g : Option (Nat × Bool)} (h : ∀ s q, g = some (s, q) → e[s]? = f[s]?) : wantedA e g = wantedA f g := by
  cases g with
  | none => rfl
  | some p => obtain ⟨s, q⟩ := p; simp only [wantedA, h s q rfl]

theorem evalL_congr {e f : List AV} : ∀ {os : List Opd}, (∀ t, t ∈ os.flatMap Opd.slot → e[t]? = f[t]?) → evalL e os = evalL f os
  | [], _ => rfl
  | o :: os, h => by
    have h1 : o.eval e = o.eval f := by
      cases o with
      | tmp t => simp only [Opd.eval, h t (by simp [Opd.slot])]
      | lit v => rfl
    simp only [evalL, h1, evalL_congr (os := os) fun t ht => h t (by simp only [List.flatMap_cons, List.mem_append]; exact .inr ht)]

theorem setDst_get {e : List AV} {d : Option Nat} {v : AV} {t : Nat} (h : t ∉ d.toList) : (setDst e d v)[t]? = e[t]? := by
  cases d with
  | none => rfl
  | some i =>
    simp only [setDst, List.getElem?_set]
    rw [if_neg (fun e => h (by simp [e]))]

theorem setDst_length {e : List AV} {d : Option Nat} {v : AV} : (setDst e d v).length = e.length := by cases d <;> simp [setDst]

/-- the checks of one instruction against those ahead of it and those behind it -/
structure Chk (pre : List (List Nat)) (done : List DI) (d : DI) (b : List DI) : Prop where
  out : ∀ t, t ∈ d.i.reads ∨ t ∈ d.i.dsts → ∀ x, x ∈ b → x.fin = false → t ∉ x.i.dsts
  self : ∀ t, t ∈ d.i.reads → t ∉ d.i.dsts
  wait : ∀ t, t ∈ d.i.reads → ∀ x, x ∈ done → t ∈ x.i.dsts → x.j ∈ (pre[d.j]?).getD []
  bar : ∀ x, x ∈ done → x.fin = true → x.j ∈ (pre[d.j]?).getD []
  eff : d.eff = false → ∀ x, done.find? DI.eff = some x → x.j ∈ (pre[d.j]?).getD []
  fin : d.fin = true → ∀ x, x ∈ done → x.j ∈ (pre[d.j]?).getD []
  red : d.eff = true → ∀ x, x ∈ done → cls x.i.op = 1 → x.j ∈ (pre[d.j]?).getD [] ∨ ∃ r, r ∈ d.rs ∧ r.1 = x.j
  rsd : ∀ r, r ∈ d.rs → ∃ x, x ∈ done ∧ x.j = r.1
  rsc : ∀ r, r ∈ d.rs → cls r.2.op ≠ 2
  once : ∀ x, x ∈ done → x.j ≠ d.j

theorem okGo_chk {pre : List (List Nat)} {done : List DI} {d : DI} {b : List DI} (h : okGo pre done (d :: b) = true) : Chk pre done d b ∧ okGo pre (d :: done) b = true := by
  simp only [okGo, Bool.and_eq_true, List.all_eq_true, List.mem_append, Bool.not_eq_true', Bool.or_eq_true, List.any_eq_true, beq_iff_eq, bne_iff_ne, List.contains_iff_mem, ne_eq] at h
  obtain ⟨⟨⟨⟨⟨⟨⟨⟨⟨⟨h1, h2⟩, h3⟩, h4⟩, h44⟩, h45⟩, h5⟩, h6⟩, h7⟩, h8⟩, h9⟩ := h
  refine ⟨⟨fun t ht x hx hf hc => ?_, fun t ht hc => ?_, fun t ht x hx hc => ?_, fun x hx hf => ?_, fun hd x hx => ?_, fun hf x hx => ?_, fun hc x hx hx1 => ?_, h6, h7, h8⟩, h9⟩
  · rcases h1 t ht x hx with h | h
    · simp [hc] at h
    · rw [hf] at h; cases h
  · have := h2 t ht; simp [hc] at this
  · rcases h3 t ht x hx with h | h
    · simp [hc] at h
    · exact h
  · rcases h4 x hx with h | h
    · rw [hf] at h; cases h
    · exact h
  · rcases h44 with h | h
    · rw [hd] at h; cases h
    · rw [hx] at h; exact List.contains_iff_mem.1 h
  · rcases h45 with h | h
    · rw [hf] at h; cases h
    · exact h x hx
  · rcases h5 with h | h
    · rw [hc] at h; cases h
    · rcases h x hx with (h | h) | ⟨r, hr, he⟩
      · exact absurd hx1 h
      · exact .inl h
      · exact .inr ⟨r, hr, he⟩

theorem DI.bar_false {d : DI} : d.bar = false ↔ cls d.i.op ≠ 2 ∧ d.fin = false := by
  unfold DI.bar DI.eff
  cases d.fin <;> simp

/-- what an instruction that makes and writes nothing tells -/
def QFact (e : List AV) (i : AIn) (h : AHeap) : Prop :=
  (wantedA e i.guard = some true ∧ ∃ args v, evalL e i.args = some args ∧ aop i.op args h = some (v, h) ∧ ∀ d x, i.dst = some d → e[d]? = some x → x = v) ∨
  (wantedA e i.guard = some false ∧ ∀ d x, i.dst = some d → e[d]? = some x → x = .tuple [])

theorem cls_le (o : AOp) : cls o ≤ 2 := by cases o <;> simp [cls]

theorem aop_quiet {o : AOp} (hc : cls o ≠ 2) {args : List AV} {h h' : AHeap} {v : AV} (e : aop o args h = some (v, h')) : h' = h := by
  by_cases h0 : cls o = 0
  · exact (aop_pure h0 e).1
  · exact aop_read (by have := cls_le o; omega) e

theorem QFact.congr {e f : List AV} {i : AIn} {h : AHeap} (q : QFact e i h) (hr : ∀ t, t ∈ i.reads → f[t]? = e[t]?) (hd : ∀ t, t ∈ i.dsts → f[t]? = e[t]?) : QFact f i h := by
  have hw : wantedA f i.guard = wantedA e i.guard := wantedA_congr fun s q hg => hr s (by simp [AIn.reads, hg])
  have ha : evalL f i.args = evalL e i.args := evalL_congr fun t ht => hr t (by simp only [AIn.reads, List.mem_append]; exact .inl ht)
  rcases q with ⟨q0, args, v, q1, q2, q3⟩ | ⟨q0, q3⟩
  · exact .inl ⟨hw.trans q0, args, v, ha.trans q1, q2, fun d x h1 h2 => q3 d x h1 (by rw [← hd d (by simp [AIn.dsts, h1])]; exact h2)⟩
  · exact .inr ⟨hw.trans q0, fun d x h1 h2 => q3 d x h1 (by rw [← hd d (by simp [AIn.dsts, h1])]; exact h2)⟩

theorem QFact.pure {e : List AV} {i : AIn} {h : AHeap} (q : QFact e i h) (hc : cls i.op = 0) (h2 : AHeap) : QFact e i h2 := by
  rcases q with ⟨q0, args, v, q1, q2, q3⟩ | q
  · exact .inl ⟨q0, args, v, q1, (aop_pure hc q2).2 h2, q3⟩
  · exact .inr q

theorem QFact.again {e : List AV} {i : AIn} {h h' : AHeap} (q : QFact e i h) (hc : cls i.op ≠ 2) (ha : again i e h' = true) : QFact e i h' := by
  unfold Go.Proofs.Ytjdemlagmamlbaa.again at ha
  split at ha
  · rename_i h0
    rcases q with ⟨q0, _⟩ | ⟨q0, q3⟩
    · rw [q0] at h0; cases h0
    · exact .inr ⟨h0, q3⟩
  · rename_i h0
    split at ha
    · rename_i args h1
      split at ha
      · rename_i v h2 h3
        have e2 := aop_quiet hc h3
        subst e2
        refine .inl ⟨h0, args, v, h1, h3, fun d x hd hx => ?_⟩
        rw [hd] at ha
        simp only [hx] at ha
        exact (AV.same_eq _ _ ha).symm
      · cases ha
    · cases ha
  · cases ha

theorem setDst_dst {e : List AV} {d : Nat} {v x : AV} (h : (setDst e (some d) v)[d]? = some x) : x = v := by
  simp only [setDst, List.getElem?_set, if_true] at h
  split at h
  · cases h; rfl
  · cases h

/-- an instruction that makes and writes nothing -/
theorem runIn_quiet {i : AIn} {e : List AV} {h : AHeap} {K : List AV → AHeap → Prop} (hc : cls i.op ≠ 2) (hself : ∀ t, t ∈ i.reads → t ∉ i.dsts) (hr : runInW C i e h K) :
    ∃ v, K (setDst e i.dst v) h ∧ QFact (setDst e i.dst v) i h := by
  have key : ∀ v, (∀ t, t ∈ i.reads → (setDst e i.dst v)[t]? = e[t]?) := fun v t ht => setDst_get (hself t ht)
  have hw : ∀ v, wantedA (setDst e i.dst v) i.guard = wantedA e i.guard := fun v => wantedA_congr fun s q hg => key v s (by simp [AIn.reads, hg])
  have ha : ∀ v, evalL (setDst e i.dst v) i.args = evalL e i.args := fun v => evalL_congr fun t ht => key v t (by simp only [AIn.reads, List.mem_append]; exact .inl ht)
  unfold runInW at hr
  split at hr
  · rename_i h0
    split at hr
    · rename_i args h1
      rcases doOpW_cases hr with hcall | hnext | ⟨_, v, h', h2, h3⟩
      · rw [hcall] at hc; exact absurd rfl hc
      · rw [hnext] at hc; exact absurd rfl hc
      · have e2 := aop_quiet hc h2
        subst e2
        refine ⟨v, h3, .inl ⟨(hw v).trans h0, args, v, (ha v).trans h1, h2, fun d x hd hx => ?_⟩⟩
        rw [hd] at hx
        exact setDst_dst hx
    · exact hr.elim
  · rename_i h0
    refine ⟨_, hr, .inr ⟨(hw _).trans h0, fun d x hd hx => ?_⟩⟩
    rw [hd] at hx
    exact setDst_dst hx
  · exact hr.elim

/-- a stretch that makes and writes nothing, up to the next that does -/
theorem quiet_run {pre : List (List Nat)} : ∀ {l done : List DI} {e : List AV} {h : AHeap} {Q : List AV → AHeap → Prop}, okGo pre done l = true → runDrawW C l e h Q →
    ∃ qs l2 e', l = qs ++ l2 ∧ (∀ x, x ∈ qs → x.bar = false) ∧ (∀ d b, l2 = d :: b → d.bar = true) ∧ runDrawW C l2 e' h Q ∧ (∀ x, x ∈ qs → QFact e' x.i h) ∧ (∀ t, (∀ x, x ∈ qs → t ∉ x.i.dsts) → e'[t]? = e[t]?) ∧ e'.length = e.length
  | [], done, e, h, Q, _, hr => ⟨[], [], e, rfl, by simp, (fun d b h => by cases h), hr, by simp, fun _ _ => rfl, rfl⟩
  | d :: b, done, e, h, Q, hok, hr => by
    obtain ⟨chk, hok'⟩ := okGo_chk hok
    cases hc : d.bar with
    | true => exact ⟨[], d :: b, e, rfl, by simp, (fun d' b' h => by cases h; exact hc), hr, by simp, fun _ _ => rfl, rfl⟩
    | false =>
      obtain ⟨hc2, _⟩ := DI.bar_false.1 hc
      simp only [runDrawW] at hr
      obtain ⟨v, ⟨_, hk⟩, hq⟩ := runIn_quiet hc2 chk.self hr
      obtain ⟨qs, l2, e', h1, h2, h3, h4, h5, h6, h7⟩ := quiet_run hok' hk
      have hqs : ∀ x, x ∈ qs → x ∈ b := fun x hx => by rw [h1]; simp [hx]
      have hqf : ∀ x, x ∈ qs → x.fin = false := fun x hx => (DI.bar_false.1 (h2 x hx)).2
      refine ⟨d :: qs, l2, e', by rw [h1]; rfl, fun x hx => ?_, h3, h4, fun x hx => ?_, fun t ht => ?_, by rw [h7, setDst_length]⟩
      · rcases List.mem_cons.1 hx with rfl | hx
        · exact hc
        · exact h2 x hx
      · rcases List.mem_cons.1 hx with rfl | hx
        · exact hq.congr (fun t ht => h6 t fun x hx => chk.out t (.inl ht) x (hqs x hx) (hqf x hx)) (fun t ht => h6 t fun x hx => chk.out t (.inr ht) x (hqs x hx) (hqf x hx))
        · exact h5 x hx
      · rw [h6 t fun x hx => ht x (by simp [hx])]
        exact setDst_get (ht d (by simp))

end
end Go.Proofs.Ytjdemlagmamlbaa
