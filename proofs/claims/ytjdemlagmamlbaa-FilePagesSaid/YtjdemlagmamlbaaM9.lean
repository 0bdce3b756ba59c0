/- Soundness of the operations: slice expressions, len, min, max, maps' look-ups. -/
import Derived.Test.YtjdemlagmamlbaaM8
namespace Go.Proofs.Ytjdemlagmamlbaa
variable {Λ : Lam}

theorem bounds3_inv {len cap : Nat} {lo hi mx : Bool} {args : List AV} {l r m : Nat} (h : bounds3 len cap lo hi mx args = some (l, r, m)) (hle : len ≤ cap) : l ≤ r ∧ r ≤ cap ∧ m ≤ cap := by
  cases lo <;> cases hi <;> cases mx <;> simp only [bounds3] at h <;> (repeat' split at h) <;> first
    | (simp only [Option.some.injEq, Prod.mk.injEq] at h; obtain ⟨rfl, rfl, rfl⟩ := h; omega)
    | cases h

theorem bounds3_mono {len cap : Nat} {lo hi mx : Bool} {args : List AV} {l r m : Nat} (h : bounds3 len len lo hi mx args = some (l, r, m)) (hle : len ≤ cap) :
    bounds3 len cap lo hi mx args = some (l, r, if mx then m else cap) ∧ l ≤ r ∧ r ≤ len := by
  cases lo <;> cases hi <;> cases mx <;> simp only [bounds3] at h ⊢ <;> (repeat' split at h) <;> first
    | (simp only [Option.some.injEq, Prod.mk.injEq] at h; obtain ⟨rfl, rfl, rfl⟩ := h; refine ⟨?_, by omega, by omega⟩; first | rfl | (rw [if_pos (by omega)]; rfl))
    | cases h

section
variable {P : Program} {o : Oper} {ρ : Operand → Value} {μ : Mu} {h h' : AHeap} {w : World} {args : List AV} {r : AV}

theorem optOps (lo hi mx : Option Operand) : ((lo.toArray ++ hi.toArray ++ mx.toArray).toList.map ρ) = optVals (lo.map ρ) (hi.map ρ) (mx.map ρ) := by
  cases lo <;> cases hi <;> cases mx <;> simp [optVals]

theorem sliceAt_slice {t el : TypeId} (ht : P.underlying t = some (.slice el)) {x : Value} {lo hi mx : Option Value} (w : World) :
    (Instr.sliceAt t x lo hi mx).run P w = (Instr.slice t x lo hi mx).run P w := by
  simp [Instr.sliceAt, run_und ht]

theorem op_slice {t el : TypeId} {x : Operand} {lo hi mx : Option Operand} {n : Nat} (ho : o.op = .slice t x lo hi mx) (ht : P.underlying t = some (.slice el)) (hn : sizeT P el = some n)
    (e : aop (.slice n lo.isSome hi.isSome mx.isSome) args h = some (r, h')) (ha : VRL μ args (ρ x :: optVals (lo.map ρ) (hi.map ρ) (mx.map ρ))) (hr : Rel Λ μ h w) : OpS Λ P (execOp ρ o) μ h w r h' := by
  simp only [aop] at e
  split at e
  · rename_i x0 rest
    simp only [VRL] at ha
    obtain ⟨c, cs, hc, v, vs⟩ := ha
    simp only [List.cons.injEq] at hc
    obtain ⟨hc1, hc2⟩ := hc
    rw [← hc1] at v; rw [← hc2] at vs
    have hlo : lo.isSome = (lo.map ρ).isSome := by cases lo <;> rfl
    have hhi : hi.isSome = (hi.map ρ).isSome := by cases hi <;> rfl
    have hmx : mx.isSome = (mx.map ρ).isSome := by cases mx <;> rfl
    rw [hlo, hhi, hmx] at e
    split at e
    · cases hb : bounds3 0 0 (lo.map ρ).isSome (hi.map ρ).isSome (mx.map ρ).isSome rest with
      | none => rw [hb] at e; cases e
      | some b =>
        obtain ⟨l, r0, m⟩ := b
        rw [hb] at e; cases e
        have hrun := bounds_ok (P := P) (isSlice := true) hb vs w
        simp only [VR] at v
        simp only [execOp, ho]
        refine opS_pval hr (cv := .slice none 0 0) ?_ (by simp [VR])
        have hm : m = 0 ∧ r0 = 0 ∧ l = 0 := by have := bounds3_inv hb (Nat.le_refl _); omega
        obtain ⟨rfl, rfl, rfl⟩ := hm
        rw [v, sliceAt_slice ht]
        simp [Instr.slice, run_und ht, hrun, run_size hn]
    · split at e
      · cases e
      · rename_i hnm
        cases hb : bounds3 0 0 (lo.map ρ).isSome (hi.map ρ).isSome (mx.map ρ).isSome rest with
        | none => rw [hb] at e; cases e
        | some b =>
          obtain ⟨l, r0, m⟩ := b
          rw [hb] at e; cases e
          simp only [VR] at v
          obtain ⟨a, c0, v⟩ := v
          have hnm : (mx.map ρ).isSome = false := by simpa using hnm
          have hmx0 : mx.map ρ = none := by simpa using hnm
          obtain ⟨hb2, hlr, hrl⟩ := bounds3_mono hb (Nat.zero_le c0)
          have hl0 : l = 0 ∧ r0 = 0 := by omega
          obtain ⟨rfl, rfl⟩ := hl0
          rw [hnm] at hb2
          simp only [Bool.false_eq_true, if_false] at hb2
          rw [← hnm] at hb2
          have hrun := bounds_ok (P := P) (isSlice := true) hb2 vs w
          simp only [execOp, ho]
          refine opS_pval hr (cv := .slice (some a) 0 c0) ?_ (by simp only [VR]; exact ⟨a, c0, rfl⟩)
          rw [v, sliceAt_slice ht]
          simp [Instr.slice, run_und ht, hrun, run_size hn, Addr.add]
    · rename_i id off len cap
      cases hb : bounds3 len cap (lo.map ρ).isSome (hi.map ρ).isSome (mx.map ρ).isSome rest with
      | none => rw [hb] at e; cases e
      | some b =>
        obtain ⟨l, r0, m⟩ := b
        rw [hb] at e; cases e
        have hrun := bounds_ok (P := P) (isSlice := true) hb vs w
        simp only [VR] at v
        obtain ⟨k, hk, v⟩ := v
        simp only [execOp, ho]
        refine opS_pval hr (cv := .slice (some ⟨k.block, k.off + (if m = l then off else off + l * n), none⟩) (r0 - l) (m - l)) ?_ (by simp only [VR]; exact ⟨k, hk, rfl⟩)
        rw [v, sliceAt_slice ht]
        simp only [Instr.slice, Sem.run_bind, run_und ht, Result.andThen_ok, hrun, run_size hn, Sem.run_pure]
        by_cases hml : m = l <;> simp [hml, add_at, Nat.add_assoc]
    · rename_i id idx es' len
      split at e
      · rename_i hes
        have hes := hes.symm
        subst hes
        simp only [VR] at v
        obtain ⟨k, hk, hcap, v⟩ := v
        split at e
        · rename_i hnm
          cases hb : bounds3 len len (lo.map ρ).isSome (hi.map ρ).isSome false rest with
          | none => rw [hb] at e; cases e
          | some b =>
            obtain ⟨l, r0, m⟩ := b
            rw [hb] at e
            simp only [Option.bind_some] at e
            obtain ⟨hb2, hlr, hrl⟩ := bounds3_mono hb (cap := k.cap - idx) (by omega)
            simp only [Bool.false_eq_true, if_false] at hb2
            rw [← hnm] at hb2
            have hrun := bounds_ok (P := P) (isSlice := true) hb2 vs w
            simp only [execOp, ho]
            split at e
            · rename_i hll
              cases e
              refine opS_pval hr (cv := .slice (some ⟨k.block, k.off + (idx + l) * n, none⟩) (r0 - l) (k.cap - (idx + l))) ?_ (by simp only [VR]; exact ⟨k, hk, by omega, rfl⟩)
              rw [v, sliceAt_slice ht]
              simp only [Instr.slice, Sem.run_bind, run_und ht, Result.andThen_ok, hrun, run_size hn, Sem.run_pure]
              have hcc : k.cap - idx - l = k.cap - (idx + l) := by omega
              by_cases hml : k.cap - idx = l
              · have hl0 : l = 0 := by omega
                subst hl0
                simp [hml]
              · simp [hml, add_at, hcc, Nat.add_mul, Nat.add_assoc]
            · rename_i hll
              cases e
              have hr0 : r0 = l := by omega
              subst hr0
              refine opS_pval hr (cv := .slice (some (if k.cap - idx = r0 then ⟨k.block, k.off + idx * n, none⟩ else (⟨k.block, k.off + idx * n, none⟩ : Addr).add (r0 * n))) 0 (k.cap - idx - r0)) ?_ (by simp only [VR]; exact ⟨_, _, rfl⟩)
              rw [v, sliceAt_slice ht]
              simp only [Instr.slice, Sem.run_bind, run_und ht, Result.andThen_ok, hrun, run_size hn, Sem.run_pure]
              by_cases hml : k.cap - idx = r0 <;> simp [hml]
        · rename_i hmm
          cases hb : bounds3 len len (lo.map ρ).isSome (hi.map ρ).isSome true rest with
          | none => rw [hb] at e; cases e
          | some b =>
            obtain ⟨l, r0, m⟩ := b
            rw [hb] at e; cases e
            obtain ⟨hb2, hlr, hrl⟩ := bounds3_mono hb (cap := k.cap - idx) (by omega)
            simp only [if_true] at hb2
            rw [← hmm] at hb2
            have hrun := bounds_ok (P := P) (isSlice := true) hb2 vs w
            simp only [execOp, ho]
            refine opS_pval hr (cv := .slice (some ⟨k.block, k.off + (if m = l then idx * n else (idx + l) * n), none⟩) (r0 - l) (m - l)) ?_ (by simp only [VR]; exact ⟨k, hk, rfl⟩)
            rw [v, sliceAt_slice ht]
            simp only [Instr.slice, Sem.run_bind, run_und ht, Result.andThen_ok, hrun, run_size hn, Sem.run_pure]
            by_cases hml : m = l <;> simp [hml, add_at, Nat.add_assoc, Nat.add_mul]
      · cases e
    · cases e
  · cases e

theorem op_slicea {t el : TypeId} {x : Operand} {lo hi mx : Option Operand} {n k : Nat} (ho : o.op = .slice t x lo hi mx) (ht : P.underlying t = some (.array k el)) (hn : sizeT P el = some n)
    (e : aop (.slicea k n lo.isSome hi.isSome mx.isSome) args h = some (r, h')) (ha : VRL μ args (ρ x :: optVals (lo.map ρ) (hi.map ρ) (mx.map ρ))) (hr : Rel Λ μ h w) : OpS Λ P (execOp ρ o) μ h w r h' := by
  simp only [aop] at e
  split at e
  · rename_i id off rest
    simp only [VRL] at ha
    obtain ⟨c, cs, hc, v, vs⟩ := ha
    simp only [List.cons.injEq] at hc
    obtain ⟨hc1, hc2⟩ := hc
    rw [← hc1] at v; rw [← hc2] at vs
    have hlo : lo.isSome = (lo.map ρ).isSome := by cases lo <;> rfl
    have hhi : hi.isSome = (hi.map ρ).isSome := by cases hi <;> rfl
    have hmx : mx.isSome = (mx.map ρ).isSome := by cases mx <;> rfl
    rw [hlo, hhi, hmx] at e
    cases hb : bounds3 k k (lo.map ρ).isSome (hi.map ρ).isSome (mx.map ρ).isSome rest with
    | none => rw [hb] at e; cases e
    | some b =>
      obtain ⟨l, r0, m⟩ := b
      rw [hb] at e; cases e
      have hrun := bounds_ok (P := P) (isSlice := false) hb vs w
      simp only [VR] at v
      obtain ⟨q, hq, v⟩ := v
      simp only [execOp, ho]
      refine opS_pval hr (cv := .slice (some ⟨q.block, q.off + (if m = l then off else off + l * n), none⟩) (r0 - l) (m - l)) ?_ (by simp only [VR]; exact ⟨q, hq, rfl⟩)
      rw [v]
      simp only [Instr.sliceAt, Sem.run_bind, run_und ht, Result.andThen_ok, Instr.sureAddr, hrun, run_size hn, Sem.run_pure]
      by_cases hml : m = l <;> simp [hml, add_at, Nat.add_assoc]
  · cases e

theorem sliceLen_ok {x : AV} {c : Value} {n : Nat} (hx : sliceLen x = some n) (v : VR μ x c) : ∃ a k, c = .slice a n k := by
  cases x <;> simp only [sliceLen] at hx <;> try cases hx
  · simp only [VR] at v; obtain ⟨l, _, rfl⟩ := v; exact ⟨_, _, rfl⟩
  · simp only [VR] at v; obtain ⟨l, _, _, rfl⟩ := v; exact ⟨_, _, rfl⟩
  · simp only [VR] at v; subst v; exact ⟨_, _, rfl⟩
  · simp only [VR] at v; obtain ⟨a, k, rfl⟩ := v; exact ⟨_, _, rfl⟩

theorem exec_builtin {c : Call} {b : Builtin} (ho : o.op = .call c) (hb : c.callee = .builtin b) {s : Sem Value} {cv : Value} {w' : World}
    (hs : ∀ cs, builtin b c.argTypes o.type cs (c.args.map ρ) = (do pure (Next.value (← s)))) (e : s.run P w = .ok cv w') :
    (execOp ρ o).run P w = .ok (.value cv) w' := by
  simp only [execOp, ho, resolve, hb, Sem.run_bind, Sem.run_pure, Result.andThen_ok, invoke]
  rw [hs]
  simp [e]

theorem opS_builtin {c : Call} {b : Builtin} (ho : o.op = .call c) (hb : c.callee = .builtin b) {s : Sem Value} {cv : Value}
    (hs : ∀ cs, builtin b c.argTypes o.type cs (c.args.map ρ) = (do pure (Next.value (← s)))) (hr : Rel Λ μ h w) (e : s.run P w = .ok cv w) (v : VR μ r cv) : OpS Λ P (execOp ρ o) μ h w r h :=
  OpS.pure hr (exec_builtin ho hb hs e) v

theorem args_one {c : Call} {a : Value} (h : c.args.toList.map ρ = [a]) : c.args.map ρ = #[a] := by apply Array.ext'; simpa using h
theorem args_two {c : Call} {a b : Value} (h : c.args.toList.map ρ = [a, b]) : c.args.map ρ = #[a, b] := by apply Array.ext'; simpa using h

theorem op_lens {c : Call} {t el : TypeId} (ho : o.op = .call c) (hb : c.callee = .builtin .len) (h0 : c.argTypes[0]? = some t) (ht : P.underlying t = some (.slice el)) (e : aop .lens args h = some (r, h')) (ha : VRL μ args (c.args.toList.map ρ)) (hr : Rel Λ μ h w) :
    OpS Λ P (execOp ρ o) μ h w r h' := by
  simp only [aop] at e
  split at e
  · rename_i x
    cases hx : sliceLen x with
    | none => rw [hx] at e; cases e
    | some n =>
      rw [hx] at e; cases e
      obtain ⟨a, ea, v⟩ := VRL.one ha
      obtain ⟨a', k, rfl⟩ := sliceLen_ok hx v
      refine opS_builtin (cv := goInt n) ho hb (fun _ => rfl) hr ?_ (by simp [VR, goInt])
      rw [args_one ea]
      simp [Builtin.len_, h0, run_und ht]
  · cases e

theorem op_cap {c : Call} {t el : TypeId} (ho : o.op = .call c) (hb : c.callee = .builtin .cap) (h0 : c.argTypes[0]? = some t) (ht : P.underlying t = some (.slice el)) (e : aop .cap args h = some (r, h')) (ha : VRL μ args (c.args.toList.map ρ)) (hr : Rel Λ μ h w) :
    OpS Λ P (execOp ρ o) μ h w r h' := by
  simp only [aop] at e
  split at e
  · cases e
    obtain ⟨a, ea, v⟩ := VRL.one ha
    simp only [VR] at v; subst v
    refine opS_builtin (cv := goInt 0) ho hb (fun _ => rfl) hr ?_ (by simp [VR, goInt])
    rw [args_one ea]
    simp [Builtin.cap_, h0, run_und ht]
  · rename_i cap
    cases e
    obtain ⟨a, ea, v⟩ := VRL.one ha
    simp only [VR] at v; obtain ⟨l, _, rfl⟩ := v
    refine opS_builtin (cv := goInt cap) ho hb (fun _ => rfl) hr ?_ (by simp [VR, goInt])
    rw [args_one ea]
    simp [Builtin.cap_, h0, run_und ht]
  · cases e

theorem op_lenc {c : Call} {t el : TypeId} {n : Nat} (ho : o.op = .call c) (hb : c.callee = .builtin .len) (h0 : c.argTypes[0]? = some t) (ht : P.underlying t = some (.array n el)) (e : aop (.lenc n) args h = some (r, h')) (ha : VRL μ args (c.args.toList.map ρ)) (hr : Rel Λ μ h w) :
    OpS Λ P (execOp ρ o) μ h w r h' := by
  simp only [aop] at e
  split at e
  · cases e
    obtain ⟨a, ea, v⟩ := VRL.one ha
    refine opS_builtin (cv := goInt n) ho hb (fun _ => rfl) hr ?_ (by simp [VR, goInt])
    rw [args_one ea]
    simp [Builtin.len_, h0, run_und ht]
  · cases e

theorem EntR.length {μ : Mu} : ∀ {es : List (AV × AV × Nat)} {cs : List MapEntry}, EntR μ es cs → cs.length = es.length
  | [], cs, h => by simp only [EntR] at h; simp [h]
  | (k, v, b) :: es, cs, h => by obtain ⟨c, l, rfl, _, _, _, t⟩ := h; simp [EntR.length t]

theorem Rel.map {id es clock} (hr : Rel Λ μ h w) (hg : h.get id = some (.map es clock)) : ∃ l cs, μ id = some l ∧ w.heap[l.block]? = some (.map cs clock) ∧ EntR μ es cs.toList := by
  obtain ⟨l, hl, cs, p, q⟩ := hr.obj id _ hg
  exact ⟨l, cs.toArray, hl, p, by simpa using q⟩

theorem run_getMap {b : Nat} {cs : Array MapEntry} {clock : Nat} (hb : w.heap[b]? = some (.map cs clock)) : (getObj b).run P w = .ok (.map cs clock) w := by
  simp [getObj, Sem.run, hb]

theorem op_lenm {c : Call} {t k el : TypeId} (ho : o.op = .call c) (hb : c.callee = .builtin .len) (h0 : c.argTypes[0]? = some t) (ht : P.underlying t = some (.map k el)) (e : aop .lenm args h = some (r, h')) (ha : VRL μ args (c.args.toList.map ρ)) (hr : Rel Λ μ h w) :
    OpS Λ P (execOp ρ o) μ h w r h' := by
  simp only [aop] at e
  split at e
  · cases e
    obtain ⟨a, ea, v⟩ := VRL.one ha
    simp only [VR] at v; subst v
    refine opS_builtin (cv := goInt 0) ho hb (fun _ => rfl) hr ?_ (by simp [VR, goInt])
    rw [args_one ea]
    simp [Builtin.len_, h0, run_und ht]
  · split at e
    · rename_i id es clock hg
      cases e
      obtain ⟨a, ea, v⟩ := VRL.one ha
      obtain ⟨l, cs, hl, p, q⟩ := hr.map hg
      simp only [VR] at v; obtain ⟨l', hl', rfl⟩ := v
      rw [hl] at hl'; cases hl'
      refine opS_builtin (cv := goInt es.length) ho hb (fun _ => rfl) hr ?_ (by simp [VR, goInt])
      rw [args_one ea]
      have := EntR.length q
      simp only [Array.length_toList] at this
      simp [Builtin.len_, h0, run_und ht, run_getMap p, this]
    · cases e
  · cases e

theorem op_min {c : Call} (ho : o.op = .call c) (hb : c.callee = .builtin .min) (e : aop .min args h = some (r, h')) (ha : VRL μ args (c.args.toList.map ρ)) (hr : Rel Λ μ h w) : OpS Λ P (execOp ρ o) μ h w r h' := by
  simp only [aop] at e
  split at e
  · rename_i k a k' b
    cases e
    obtain ⟨x, y, ea, v, v'⟩ := VRL.two ha
    refine opS_builtin (cv := .int k (if b < a then b else a)) ho hb (fun _ => rfl) hr ?_ (by simp [VR])
    rw [args_two ea, VR.int v, VR.int v']
    simp [Builtin.min_, Builtin.min2]
  · cases e

theorem op_max {c : Call} (ho : o.op = .call c) (hb : c.callee = .builtin .max) (e : aop .max args h = some (r, h')) (ha : VRL μ args (c.args.toList.map ρ)) (hr : Rel Λ μ h w) : OpS Λ P (execOp ρ o) μ h w r h' := by
  simp only [aop] at e
  split at e
  · rename_i k a k' b
    cases e
    obtain ⟨x, y, ea, v, v'⟩ := VRL.two ha
    refine opS_builtin (cv := .int k (if b > a then b else a)) ho hb (fun _ => rfl) hr ?_ (by simp [VR])
    rw [args_two ea, VR.int v, VR.int v']
    simp [Builtin.max_, Builtin.max2]
  · cases e

end
end Go.Proofs.Ytjdemlagmamlbaa
