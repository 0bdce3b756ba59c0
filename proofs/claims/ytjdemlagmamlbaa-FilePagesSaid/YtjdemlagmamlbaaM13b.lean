/- Soundness of the operations: loops over maps. -/
import Derived.Test.YtjdemlagmamlbaaM13
namespace Go.Proofs.Ytjdemlagmamlbaa
variable {Λ : Lam}

section
variable {P : Program} {o : Oper} {ρ : Operand → Value} {μ : Mu} {h h' : AHeap} {w : World} {args : List AV} {r : AV}

theorem op_range {t k el : TypeId} {x : Operand} (ho : o.op = .range t x) (ht : P.underlying t = some (.map k el)) (e : aop .range args h = some (r, h')) (ha : VRL μ args [ρ x]) (hr : Rel Λ μ h w) : OpS Λ P (execOp ρ o) μ h w r h' := by
  simp only [aop] at e
  split at e
  · cases e
    obtain ⟨a, ea, v⟩ := VRL.one ha
    simp only [List.cons.injEq, and_true] at ea
    rw [← ea] at v
    simp only [VR] at v
    obtain ⟨q, s⟩ := hr.new (.iter none 0 [] 0) (.mapIter none 0 #[] 0) ⟨w.heap.size, 0, 0⟩ rfl (fun μ' _ => ⟨rfl, none, by simp, rfl⟩)
    simp only [execOp, ho]
    refine opS_val (cv := .pointer (some ⟨w.heap.size, 0, none⟩)) ?_ (by simp only [VR]; exact ⟨_, Mu.with_same _ _ _, rfl⟩) q s
    simp [Instr.range, run_und ht, v]
  · rename_i id
    split at e
    · rename_i es clock hg
      cases e
      obtain ⟨a, ea, v⟩ := VRL.one ha
      simp only [List.cons.injEq, and_true] at ea
      rw [← ea] at v
      simp only [VR] at v
      obtain ⟨l', hl', hx⟩ := v
      obtain ⟨l, cs, hl, p, _⟩ := hr.map hg
      obtain rfl : l' = l := Option.some.inj (hl'.symm.trans hl)
      obtain ⟨q, s⟩ := hr.new (.iter (some id) clock [] clock) (.mapIter (some l'.block) clock #[] clock) ⟨w.heap.size, 0, 0⟩ rfl (fun μ' hx => ⟨rfl, some l'.block, by simp, l', hx _ _ hl, rfl⟩)
      simp only [execOp, ho]
      refine opS_val (cv := .pointer (some ⟨w.heap.size, 0, none⟩)) ?_ (by simp only [VR]; exact ⟨_, Mu.with_same _ _ _, rfl⟩) q s
      rw [hx]
      simp [Instr.range, run_und ht, run_getMap p]
    · cases e
  · cases e

theorem EntR.mem {μ : Mu} : ∀ {es : List (AV × AV × Nat)} {cs : List MapEntry}, EntR μ es cs → (∀ c, c ∈ cs → ∃ e, e ∈ es ∧ VR μ e.1 c.key ∧ VR μ e.2.1 c.val ∧ c.born = e.2.2) ∧ (∀ e, e ∈ es → ∃ c, c ∈ cs ∧ VR μ e.1 c.key ∧ VR μ e.2.1 c.val ∧ c.born = e.2.2) ∧ (es = [] ↔ cs = [])
  | [], cs, h => by simp only [EntR] at h; subst h; simp
  | (k, v, b) :: es, cs, h => by
    simp only [EntR] at h
    obtain ⟨c, cs', rfl, h1, h2, h3, h4⟩ := h
    obtain ⟨m1, m2, _⟩ := EntR.mem h4
    refine ⟨fun c' hc => ?_, fun e he => ?_, by simp⟩
    · rcases List.mem_cons.1 hc with rfl | hc
      · exact ⟨_, List.mem_cons_self, h1, h2, h3⟩
      · obtain ⟨e, he, q⟩ := m1 c' hc; exact ⟨e, List.mem_cons_of_mem _ he, q⟩
    · rcases List.mem_cons.1 he with rfl | he
      · exact ⟨_, List.mem_cons_self, h1, h2, h3⟩
      · obtain ⟨c', hc, q⟩ := m2 e he; exact ⟨c', List.mem_cons_of_mem _ hc, q⟩

theorem choose_mapNext {n : Nat} (hn : 0 < n) (w : World) : ∃ k w', (choose (.mapNext n)).run P w = .ok k w' ∧ k < n ∧ ∃ d, w' = { w with drawn := d } := by
  by_cases h1 : n ≤ 1
  · exact ⟨0, w, by simp [choose, Sem.run, Question.forced, h1], hn, w.drawn, rfl⟩
  · exact ⟨w.tape w.drawn (.mapNext n) % n, { w with drawn := w.drawn + 1 }, by simp [choose, Sem.run, Question.forced, Question.cut, h1], Nat.mod_lt _ hn, _, rfl⟩

theorem op_entry {x : Operand} (ho : o.op = .entry x) (e : aop .entry args h = some (r, h')) (ha : VRL μ args [ρ x]) (hr : Rel Λ μ h w) : OpS Λ P (execOp ρ o) μ h w r h' := by
  simp only [aop] at e
  split at e
  · rename_i id
    split at e
    · rename_i m since seen stepped hg
      split at e
      · rename_i es clock hm
        split at e
        · rename_i stamp hst
          split at e
          · rename_i hcl
            cases hf : es.find? (fun e => e.2.2 == stamp) with
            | none => rw [hf] at e; cases e
            | some x0 =>
              rw [hf] at e
              cases e
              obtain ⟨a, ea, v⟩ := VRL.one ha
              simp only [List.cons.injEq, and_true] at ea
              rw [← ea] at v
              simp only [VR] at v
              obtain ⟨l', hl', hx⟩ := v
              obtain ⟨l, hl, hob⟩ := hr.obj _ _ hg
              obtain rfl : l = l' := Option.some.inj (hl.symm.trans hl')
              obtain ⟨hoff, r0, hit, k, hk, hrk⟩ := hob
              obtain ⟨lm, cs, hlm, pm, qm⟩ := hr.map hm
              obtain rfl : k = lm := Option.some.inj (hk.symm.trans hlm)
              subst hrk
              have hfind : ∀ {es : List (AV × AV × Nat)} {cs : List MapEntry}, EntR μ es cs → es.find? (fun e => e.2.2 == stamp) = some x0 → ∃ c, cs.find? (·.born == stamp) = some c ∧ VR μ x0.1 c.key ∧ VR μ x0.2.1 c.val := by
                intro es
                induction es with
                | nil => intro cs _ h; cases h
                | cons y ys ih =>
                  intro cs hE h
                  obtain ⟨k0, v0, b0⟩ := y
                  simp only [EntR] at hE
                  obtain ⟨c, cs', rfl, h1, h2, h3, h4⟩ := hE
                  rw [List.find?_cons] at h ⊢
                  simp only [h3] at h ⊢
                  cases hb : (b0 == stamp) with
                  | true => rw [hb] at h; cases h; exact ⟨c, rfl, h1, h2⟩
                  | false => rw [hb] at h; exact ih h4 h
              obtain ⟨c, hc, hc1, hc2⟩ := hfind qm hf
              simp only [execOp, ho]
              refine opS_pval hr (cv := .tuple #[c.key, c.val]) ?_ (by simp only [VR, VRL]; exact ⟨[c.key, c.val], ⟨_, _, rfl, hc1, _, _, rfl, hc2, rfl⟩, rfl⟩)
              rw [hx]
              have hgo : (getObj l.block).run P w = .ok (.mapIter (some k.block) since seen.toArray stepped) w := by simp [getObj, Sem.run, hit]
              have hgm : (getObj k.block).run P w = .ok (.map cs clock) w := by simp [getObj, Sem.run, pm]
              have hb : seen.toArray.back? = some stamp := by simpa using hst
              simp only [Instr.entry, hoff, Nat.add_zero]
              simp only [Sem.run_bind, hgo, Result.andThen_ok, hb, hgm, hcl, bne_self_eq_false, Bool.false_eq_true, if_false, ← Array.find?_toList, hc, Sem.run_pure]
          · cases e
        · cases e
      · cases e
    · cases e
  · cases e

theorem op_next {x : Operand} {Q : AV → AHeap → Prop} (ho : o.op = .next x false) (hq : nextW args h Q) (ha : VRL μ args [ρ x]) (hr : Rel Λ μ h w) : ∃ r h', Q r h' ∧ OpS Λ P (execOp ρ o) μ h w r h' := by
  unfold nextW at hq
  split at hq
  · rename_i id
    obtain ⟨a, ea, v⟩ := VRL.one ha
    simp only [List.cons.injEq, and_true] at ea
    rw [← ea] at v
    simp only [VR] at v
    obtain ⟨l, hl, hx⟩ := v
    split at hq
    · rename_i s1 s2 s3 hg
      obtain ⟨l', hl', hob⟩ := hr.obj _ _ hg
      obtain rfl : l = l' := Option.some.inj (hl.symm.trans hl')
      obtain ⟨hoff, r0, hit, hr0⟩ := hob
      subst hr0
      refine ⟨_, _, hq, ?_⟩
      simp only [execOp, ho]
      refine opS_pval hr (cv := .tuple #[.bool false]) ?_ (by simp only [VR, VRL]; exact ⟨[.bool false], ⟨_, _, rfl, rfl, rfl⟩, rfl⟩)
      have hgo : (getObj l.block).run P w = .ok (.mapIter none s1 s2.toArray s3) w := by simp [getObj, Sem.run, hit]
      rw [hx]
      simp only [Instr.next, hoff, Nat.add_zero, Sem.run_bind, hgo, Result.andThen_ok, Sem.run_pure]
    · rename_i m since seen last hg
      split at hq
      · rename_i es clock hm
        obtain ⟨q1, q2, q3⟩ := hq
        obtain ⟨l', hl', hob⟩ := hr.obj _ _ hg
        obtain rfl : l = l' := Option.some.inj (hl.symm.trans hl')
        obtain ⟨hoff, r0, hit, k, hk, hrk⟩ := hob
        subst hrk
        obtain ⟨lm, cs, hlm, pm, qm⟩ := hr.map hm
        obtain rfl : k = lm := Option.some.inj (hk.symm.trans hlm)
        obtain ⟨m1, m2, m3⟩ := qm.mem
        have hgo : (getObj l.block).run P w = .ok (.mapIter (some k.block) since seen.toArray last) w := by simp [getObj, Sem.run, hit]
        have hgm : (getObj k.block).run P w = .ok (.map cs clock) w := by simp [getObj, Sem.run, pm]
        have hcond : (!seen.toArray.isEmpty && !cs.isEmpty && cs.all (fun e => decide (e.born ≥ last))) = false := by
          cases hb : (!seen.toArray.isEmpty && !cs.isEmpty && cs.all (fun e => decide (e.born ≥ last))) with
          | false => rfl
          | true =>
            exfalso
            simp only [Bool.and_eq_true, Bool.not_eq_true', Array.isEmpty_eq_false_iff, ← Array.all_toList, List.all_eq_true, decide_eq_true_eq] at hb
            obtain ⟨⟨b1, b2⟩, b3⟩ := hb
            rcases q1 with h1 | h1 | ⟨e0, h1, h2⟩
            · exact b1 (by rw [h1])
            · exact b2 (Array.toList_eq_nil_iff.1 (m3.1 h1))
            · obtain ⟨c, hc, _, _, hcb⟩ := m2 e0 h1
              have := b3 c hc
              omega
        generalize hcand : (if ((cs.filter fun e => !seen.toArray.contains e.born).filter (fun e => decide (e.born < since))).isEmpty = true then (#[none] : Array (Option MapEntry)) else #[]) ++ (((cs.filter fun e => !seen.toArray.contains e.born).filter (fun e => decide (e.born < since))) ++ ((cs.filter fun e => !seen.toArray.contains e.born).filter (fun e => decide (e.born ≥ since)))).map some = cand
        have hmem : ∀ c, c ∈ cand → (∀ e, c = some e → e ∈ cs.toList ∧ e.born ∉ seen) ∧ (c = none → ∀ e, e ∈ cs.toList → e.born < since → e.born ∈ seen) := by
          intro c hc
          rw [← hcand, Array.mem_append] at hc
          rcases hc with hc | hc
          · split at hc
            · rename_i hemp
              simp only [List.mem_toArray, List.mem_singleton] at hc
              subst hc
              refine ⟨fun e he => (by cases he), fun _ e he hlt => ?_⟩
              rw [Array.isEmpty_iff, Array.filter_eq_empty_iff] at hemp
              apply Classical.byContradiction
              intro hn
              have := hemp e (by simp [Array.mem_toList_iff.1 he, hn])
              simp [hlt] at this
            · simp at hc
          · simp only [Array.mem_map, Array.mem_append, Array.mem_filter] at hc
            obtain ⟨e, he, rfl⟩ := hc
            refine ⟨fun e' he' => ?_, fun he' => (by cases he')⟩
            cases he'
            rcases he with ⟨⟨h1, h2⟩, _⟩ | ⟨⟨h1, h2⟩, _⟩ <;> exact ⟨Array.mem_toList_iff.2 h1, by simpa using h2⟩
        have hpos : 0 < cand.size := by
          rw [← hcand, Array.size_append]
          split
          · simp; omega
          · rename_i hemp
            have : ((cs.filter fun e => !seen.toArray.contains e.born).filter (fun e => decide (e.born < since))) ≠ #[] := by
              intro e; apply hemp; rw [e]; rfl
            have := Array.size_pos_iff.2 this
            simp only [Array.size_map, Array.size_append]
            omega
        obtain ⟨n, w', hch, hn, d, rfl⟩ := choose_mapNext (P := P) hpos w
        have hget : cand[n]? = some cand[n] := by simp [hn]
        obtain ⟨c1, c2⟩ := hmem cand[n] (Array.getElem_mem hn)
        have hr' : Rel Λ μ h { w with drawn := d } := hr.drew d
        have st0 : Step μ h w μ h { w with drawn := d } := Step.drew μ h w d
        cases hcn : cand[n] with
        | none =>
          refine ⟨_, _, q3 (fun e he hlt => ?_), μ, { w with drawn := d }, .tuple #[.bool false], .inl ?_, by simp only [VR, VRL]; exact ⟨[.bool false], ⟨_, _, rfl, rfl, rfl⟩, rfl⟩, hr', st0⟩
          · obtain ⟨c, hc, _, _, hcb⟩ := m2 e he
            rw [← hcb]; exact c2 hcn c hc (by omega)
          · rw [hcn] at hget
            simp only [execOp, ho, hx]
            simp only [Instr.next, hoff, Nat.add_zero, Sem.run_bind, hgo, Result.andThen_ok, hgm, hcond, Bool.false_eq_true, if_false, hcand, hch, hget, Sem.run_pure]
        | some e0 =>
          obtain ⟨d1, d2⟩ := c1 e0 hcn
          obtain ⟨e1, he1, v1, v2, hb⟩ := m1 e0 d1
          have hlt : l.block < w.heap.size := (hr.dom _ _ hl).2
          have hput := Rel.put (w' := { w with drawn := d, heap := w.heap.setIfInBounds l.block (.mapIter (some k.block) since (seen.toArray.push e0.born) clock) }) hr' hg rfl hl rfl rfl rfl (by simp) (fun b hb => by simp [Ne.symm hb])
            (o' := .iter (some m) since (seen ++ [e1.2.2]) clock) ⟨hoff, some k.block, by simp [hlt, hb], k, hk, rfl⟩
          refine ⟨_, _, q2 e1 he1 (by rw [← hb]; exact d2), μ, _, .tuple #[.bool true, e0.key, e0.val], .inl ?_, by simp only [VR, VRL]; exact ⟨[.bool true, e0.key, e0.val], ⟨_, _, rfl, rfl, _, _, rfl, v1, _, _, rfl, v2, rfl⟩, rfl⟩, hput.1, st0.trans hput.2⟩
          rw [hcn] at hget
          simp only [execOp, ho, hx]
          simp only [Instr.next, hoff, Nat.add_zero, Sem.run_bind, hgo, Result.andThen_ok, hgm, hcond, Bool.false_eq_true, if_false, hcand, hch, hget, Sem.run_pure]
          simp [setObj, Sem.run, hit]
      · exact hq.elim
    · exact hq.elim
  · exact hq.elim

end
end Go.Proofs.Ytjdemlagmamlbaa
