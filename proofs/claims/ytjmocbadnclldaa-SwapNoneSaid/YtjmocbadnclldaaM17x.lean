/- Soundness of code, whole. -/
import Derived.Test.YtjmocbadnclldaaM17e
namespace Go.Proofs.Ytjmocbadnclldaa

section
variable {P : Program} {C : Sem1}

theorem exec_sound (hC : CSound P C) : ∀ (c : Code) (K K' : List Hint) (ac : ACode) (e e' : List AV) (h h' : AHeap) (x : AExit) (μ : Mu) (w : World) (a : Act) (b : Frame) (k : List Item) (cs : List Frame), trCode P c K = some (ac, K') → exec C ac e h = some (x, e', h') → Rel μ h w → EnvR μ e a.tmps →
    Ends P (lone (Fat b a (.code c :: k)) cs w) b k cs a.defers μ h w x e' h'
  | .skip, K, K', ac, e, e', h, h', x, μ, w, a, b, k, cs, ht, hx, hr, he => by
    simp only [trCode] at ht; cases ht
    simp only [exec] at hx; cases hx
    exact ⟨a, w, μ, Steps.one st_skip, rfl, he, hr, Step.refl _ _ _⟩
  | .region id ops true, [], K', ac, e, e', h, h', x, μ, w, a, b, k, cs, ht, hx, hr, he => by simp [trCode] at ht
  | .region id ops true, .mask _ :: _, K', ac, e, e', h, h', x, μ, w, a, b, k, cs, ht, hx, hr, he => by simp [trCode] at ht
  | .region id ops true, .ord l pre :: K, K', ac, e, e', h, h', x, μ, w, a, b, k, cs, ht, hx, hr, he => by
    simp only [trCode] at ht
    split at ht
    · rename_i is hi
      split at ht
      · rename_i ds hds
        split at ht
        · rename_i hok
          simp only [Bool.and_eq_true] at hok
          cases ht
          simp only [exec] at hx
          split at hx
          · rename_i e1 h1 hrun
            cases hx
            exact draw_sound hC hi hds hok.1 hok.2 hrun hr he cs
          · cases hx
        · cases ht
      · cases ht
    · cases ht
  | .region id ops false, K, K', ac, e, e', h, h', x, μ, w, a, b, k, cs, ht, hx, hr, he => by
    simp only [trCode] at ht
    cases hi : trIns P ops ops.toList with
    | none => rw [hi] at ht; cases ht
    | some is =>
      rw [hi] at ht; cases ht
      simp only [exec] at hx
      split at hx
      · rename_i e1 h1 hrun
        cases hx
        obtain ⟨a', w', μ', s, d, v, r, t⟩ := ins_sound (b := b) (k := k) hC cs ops.toList is 0 e e' h h' μ w a (by simp) hi hrun hr he
        refine ⟨a', w', μ', ?_, d, v, r, t⟩
        rw [Nat.sub_zero, ← List.range_eq_range'] at s
        exact (Steps.one st_region).trans s
      · cases hx
  | .seq c1 c2, K, K', ac, e, e', h, h', x, μ, w, a, b, k, cs, ht, hx, hr, he => by
    simp only [trCode] at ht
    split at ht
    · rename_i x1 k1 h1
      split at ht
      · rename_i x2 k2 h2
        cases ht
        simp only [exec] at hx
        split at hx
        · rename_i e1 h3 hx1
          obtain ⟨a1, w1, μ1, s1, d1, v1, r1, t1⟩ := exec_sound hC c1 _ _ _ e e1 h h3 _ μ w a b (.code c2 :: k) cs h1 hx1 hr he
          obtain ⟨a2, w2, μ2, s2, d2, v2, r2, t2⟩ := exec_sound hC c2 _ _ _ e1 e' h3 h' x μ1 w1 a1 b k cs h2 hx r1 v1
          refine ⟨a2, w2, μ2, Arr.of_steps ((Steps.one st_seq).trans s1) s2, d2.trans d1, v2, r2, t1.trans t2⟩
        · rename_i hne
          obtain ⟨a1, w1, μ1, s1, d1, v1, r1, t1⟩ := exec_sound hC c1 _ _ _ e e' h h' x μ w a b (.code c2 :: k) cs h1 hx hr he
          refine ⟨a1, w1, μ1, ?_, d1, v1, r1, t1⟩
          refine Arr.of_steps (Steps.one st_seq) ?_
          cases x with
          | normal => exact absurd hx (hne _ _)
          | exit id => obtain ⟨k0, s, q⟩ := s1; exact ⟨k0, s, q⟩
          | ret => exact s1
      · cases ht
    · cases ht
  | .cond c c1 c2, K, K', ac, e, e', h, h', x, μ, w, a, b, k, cs, ht, hx, hr, he => by
    simp only [trCode] at ht
    split at ht
    · rename_i o x1 k1 hc h1
      split at ht
      · rename_i x2 k2 h2
        cases ht
        simp only [exec] at hx
        split at hx
        · rename_i hb
          have hv := VR.bool (opd_ok he hc hb)
          obtain ⟨a1, w1, μ1, s1, d1, v1, r1, t1⟩ := exec_sound hC c1 _ _ _ e e' h h' x μ w a b k cs h1 hx hr he
          exact ⟨a1, w1, μ1, Arr.of_steps (Steps.one (st_cond (t := true) hv)) s1, d1, v1, r1, t1⟩
        · rename_i hb
          have hv := VR.bool (opd_ok he hc hb)
          obtain ⟨a1, w1, μ1, s1, d1, v1, r1, t1⟩ := exec_sound hC c2 _ _ _ e e' h h' x μ w a b k cs h2 hx hr he
          exact ⟨a1, w1, μ1, Arr.of_steps (Steps.one (st_cond (t := false) hv)) s1, d1, v1, r1, t1⟩
        · cases hx
      · cases ht
    · cases ht
  | .block id c, K, K', ac, e, e', h, h', x, μ, w, a, b, k, cs, ht, hx, hr, he => by
    simp only [trCode] at ht
    split at ht
    · rename_i x1 k1 h1
      cases ht
      simp only [exec] at hx
      split at hx
      · rename_i i e1 h3 hx1
        obtain ⟨a1, w1, μ1, s1, d1, v1, r1, t1⟩ := exec_sound hC c _ _ _ e e1 h h3 _ μ w a b (.inBlock id :: k) cs h1 hx1 hr he
        obtain ⟨k0, s0, q0⟩ := s1
        split at hx
        · rename_i hid
          cases hx
          refine ⟨a1, w1, μ1, ?_, d1, v1, r1, t1⟩
          have hex : exitTo i k0 = some k := by rw [q0]; simp [exitTo, hid]
          exact (Steps.one st_block).trans (s0.trans (Steps.one (st_exit hex)))
        · rename_i hid
          cases hx
          refine ⟨a1, w1, μ1, ⟨k0, (Steps.one st_block).trans s0, ?_⟩, d1, v1, r1, t1⟩
          rw [q0]
          have : (id == i) = false := by simp; exact fun h => hid h.symm
          simp [exitTo, this]
      · rename_i hne
        obtain ⟨a1, w1, μ1, s1, d1, v1, r1, t1⟩ := exec_sound hC c _ _ _ e e' h h' x μ w a b (.inBlock id :: k) cs h1 hx hr he
        refine ⟨a1, w1, μ1, Arr.of_steps (Steps.one st_block) ?_, d1, v1, r1, t1⟩
        cases x with
        | normal => exact Steps.trans s1 (Steps.one st_inBlock)
        | exit i => exact absurd hx (hne i _ _)
        | ret => exact s1
    · cases ht
  | .loop c, [], K', ac, e, e', h, h', x, μ, w, a, b, k, cs, ht, hx, hr, he => by simp [trCode] at ht
  | .loop c, .ord _ _ :: _, K', ac, e, e', h, h', x, μ, w, a, b, k, cs, ht, hx, hr, he => by simp [trCode] at ht
  | .loop c, .mask m :: K, K', ac, e, e', h, h', x, μ, w, a, b, k, cs, ht, hx, hr, he => by
    · simp only [trCode] at ht
      split at ht
      · rename_i x1 k1 h1
        cases ht
        simp only [exec] at hx
        have key : ∀ (n : Nat) (e : List AV) (h : AHeap) (μ : Mu) (w : World) (a : Act), iterN (exec C x1) m n e h = some (x, e', h') → Rel μ h w → EnvR μ e a.tmps →
            Ends P (lone (Fat b a (.code c :: .inLoop c :: k)) cs w) b k cs a.defers μ h w x e' h' := by
          intro n
          induction n with
          | zero => intro e h μ w a hx; simp [iterN] at hx
          | succ n ih =>
            intro e h μ w a hx hr he
            simp only [iterN] at hx
            split at hx
            · rename_i e1 h3 hx1
              obtain ⟨a1, w1, μ1, s1, d1, v1, r1, t1⟩ := exec_sound hC c _ _ _ _ e1 h h3 _ μ w a b (.inLoop c :: k) cs h1 hx1 hr (he.keep m)
              obtain ⟨a2, w2, μ2, s2, d2, v2, r2, t2⟩ := ih e1 h3 μ1 w1 a1 hx r1 v1
              exact ⟨a2, w2, μ2, Arr.of_steps (Steps.trans s1 (Steps.one st_inLoop)) s2, d2.trans d1, v2, r2, t1.trans t2⟩
            · rename_i hne
              obtain ⟨a1, w1, μ1, s1, d1, v1, r1, t1⟩ := exec_sound hC c _ _ _ _ e' h h' x μ w a b (.inLoop c :: k) cs h1 hx hr (he.keep m)
              refine ⟨a1, w1, μ1, ?_, d1, v1, r1, t1⟩
              cases x with
              | normal => exact absurd hx (hne _ _)
              | exit i => obtain ⟨k0, s, q⟩ := s1; exact ⟨k0, s, q⟩
              | ret => exact s1
        obtain ⟨a1, w1, μ1, s1, d1, v1, r1, t1⟩ := key _ e h μ w a hx hr he
        exact ⟨a1, w1, μ1, Arr.of_steps (Steps.one st_loop) s1, d1, v1, r1, t1⟩
      · cases ht
  | .exit id, K, K', ac, e, e', h, h', x, μ, w, a, b, k, cs, ht, hx, hr, he => by
    simp only [trCode] at ht; cases ht
    simp only [exec] at hx; cases hx
    exact ⟨a, w, μ, ⟨k, Steps.refl _ _, rfl⟩, rfl, he, hr, Step.refl _ _ _⟩
  | .ret, K, K', ac, e, e', h, h', x, μ, w, a, b, k, cs, ht, hx, hr, he => by
    simp only [trCode] at ht; cases ht
    simp only [exec] at hx; cases hx
    exact ⟨a, w, μ, ⟨k, Steps.refl _ _⟩, rfl, he, hr, Step.refl _ _ _⟩
  | .rangeFunc .., K, K', ac, e, e', h, h', x, μ, w, a, b, k, cs, ht, hx, hr, he => by simp [trCode] at ht
  | .scope .., K, K', ac, e, e', h, h', x, μ, w, a, b, k, cs, ht, hx, hr, he => by simp [trCode] at ht
  | .label .., K, K', ac, e, e', h, h', x, μ, w, a, b, k, cs, ht, hx, hr, he => by simp [trCode] at ht
  | .goto .., K, K', ac, e, e', h, h', x, μ, w, a, b, k, cs, ht, hx, hr, he => by simp [trCode] at ht
  | .refuse .., K, K', ac, e, e', h, h', x, μ, w, a, b, k, cs, ht, hx, hr, he => by simp [trCode] at ht

end
end Go.Proofs.Ytjmocbadnclldaa
