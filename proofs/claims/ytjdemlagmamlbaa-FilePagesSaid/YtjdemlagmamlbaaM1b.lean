/- Bytes packed in a number; what put, sub, take, app do to the cells of a row. -/
import Derived.Test.YtjdemlagmamlbaaM1
namespace Go.Proofs.Ytjdemlagmamlbaa

theorem byteAt_testBit (n i j : Nat) : (byteAt n i).testBit j = (decide (j < 8) && n.testBit (8 * i + j)) := by
  unfold byteAt
  rw [show (256 : Nat) = 2 ^ 8 from rfl, Nat.testBit_mod_two_pow, Nat.testBit_shiftRight]

theorem byteAt_lt (n i : Nat) : byteAt n i < 256 := Nat.mod_lt _ (by decide)

theorem bput_testBit (n off m v k : Nat) : (bput n off m v).testBit k =
    if k < 8 * off then n.testBit k else if k < 8 * (off + m) then v.testBit (k - 8 * off) else n.testBit k := by
  unfold bput
  rw [Nat.testBit_or, Nat.testBit_or, Nat.testBit_shiftLeft, Nat.testBit_shiftLeft, Nat.testBit_shiftRight, Nat.testBit_mod_two_pow, Nat.testBit_mod_two_pow]
  by_cases h1 : k < 8 * off
  · have h2 : ¬ k ≥ 8 * (off + m) := by omega
    have h3 : ¬ k ≥ 8 * off := by omega
    simp only [h1, h2, h3, decide_false, decide_true, Bool.false_and, Bool.true_and, Bool.false_or, if_true]
  · by_cases h2 : k < 8 * (off + m)
    · have h3 : ¬ k ≥ 8 * (off + m) := by omega
      have h4 : k ≥ 8 * off := by omega
      have h5 : k - 8 * off < 8 * m := by omega
      simp only [h1, h2, h3, h4, h5, decide_false, decide_true, Bool.false_and, Bool.true_and, Bool.false_or, Bool.or_false, if_true, if_false]
    · have h3 : k ≥ 8 * (off + m) := by omega
      have h5 : ¬ k - 8 * off < 8 * m := by omega
      have h4 : k ≥ 8 * off := by omega
      have h6 : 8 * (off + m) + (k - 8 * (off + m)) = k := by omega
      simp only [h1, h2, h3, h4, h5, h6, decide_false, decide_true, Bool.false_and, Bool.true_and, Bool.and_false, Bool.or_false, if_false]

theorem byteAt_bput (n off m v i : Nat) : byteAt (bput n off m v) i = if off ≤ i ∧ i < off + m then byteAt v (i - off) else byteAt n i := by
  apply Nat.eq_of_testBit_eq
  intro j
  by_cases h : off ≤ i ∧ i < off + m
  · rw [if_pos h, byteAt_testBit, byteAt_testBit, bput_testBit]
    by_cases hj : j < 8
    · rw [if_neg (by omega), if_pos (by omega)]
      congr 2; omega
    · simp [hj]
  · rw [if_neg h, byteAt_testBit, byteAt_testBit, bput_testBit]
    by_cases hj : j < 8
    · by_cases h1 : i < off
      · rw [if_pos (by omega)]
      · rw [if_neg (by omega), if_neg (by omega)]
    · simp [hj]

theorem byteAt_bsub (n off len i : Nat) (h : i < len) : byteAt (bsub n off len) i = byteAt n (off + i) := by
  apply Nat.eq_of_testBit_eq
  intro j
  rw [byteAt_testBit, byteAt_testBit]
  unfold bsub
  rw [Nat.testBit_mod_two_pow, Nat.testBit_shiftRight]
  by_cases hj : j < 8
  · have : 8 * i + j < 8 * len := by omega
    simp only [hj, this, decide_true, Bool.true_and]
    congr 1; omega
  · simp [hj]

theorem byteAt_small (b : Nat) (h : b < 256) : byteAt b 0 = b := by
  unfold byteAt; simp; omega

theorem byteAt_zero (i : Nat) : byteAt 0 i = 0 := by unfold byteAt; simp

/-- two packed rows of one length that agree byte by byte -/
theorem bytes_ext (a b len : Nat) (h : ∀ i, i < len → byteAt a i = byteAt b i) : a % 2 ^ (8 * len) = b % 2 ^ (8 * len) := by
  apply Nat.eq_of_testBit_eq
  intro k
  rw [Nat.testBit_mod_two_pow, Nat.testBit_mod_two_pow]
  by_cases hk : k < 8 * len
  · have := h (k / 8) (by omega)
    have h2 := congrArg (fun n => n.testBit (k % 8)) this
    simp only [byteAt_testBit] at h2
    have h3 : k % 8 < 8 := Nat.mod_lt _ (by decide)
    have h4 : 8 * (k / 8) + k % 8 = k := by omega
    simpa [hk, h3, h4] using h2
  · simp [hk]

theorem bytes_eq_of_mod {a b len : Nat} (h : a % 2 ^ (8 * len) = b % 2 ^ (8 * len)) (i : Nat) (hi : i < len) : byteAt a i = byteAt b i := by
  apply Nat.eq_of_testBit_eq
  intro j
  rw [byteAt_testBit, byteAt_testBit]
  by_cases hj : j < 8
  · have h2 := congrArg (fun n => n.testBit (8 * i + j)) h
    simp only [Nat.testBit_mod_two_pow] at h2
    have : 8 * i + j < 8 * len := by omega
    simpa [this, hj] using h2
  · simp [hj]

theorem Dat.get_lt {d : Dat} {i : Nat} {v : AV} (h : d.get i = some v) : i < d.len := by
  cases d with
  | vals cs =>
    simp only [Dat.get] at h
    rcases Nat.lt_or_ge i cs.length with g | g
    · exact g
    · rw [List.getElem?_eq_none g] at h; cases h
  | bytes l n =>
    simp only [Dat.get] at h
    split at h
    · assumption
    · cases h

theorem Dat.get_of_lt {d : Dat} {i : Nat} (h : i < d.len) : ∃ v, d.get i = some v := by
  cases d with
  | vals cs => exact ⟨cs[i]'h, by simp only [Dat.get]; exact List.getElem?_eq_getElem h⟩
  | bytes l n => exact ⟨_, by simp only [Dat.get]; exact if_pos h⟩

theorem Dat.put_len {d e d' : Dat} {off : Nat} (h : d.put off e = some d') : d'.len = d.len ∧ off + e.len ≤ d.len := by
  unfold Dat.put at h
  split at h
  · split at h
    · cases h
      simp only [Dat.len, List.length_append, List.length_take, List.length_drop]; omega
    · cases h
  · split at h
    · rename_i hle; cases h; exact ⟨rfl, hle⟩
    · cases h
  · split at h
    · rename_i hle; cases h; exact ⟨rfl, hle.1⟩
    · cases h
  · cases h

theorem Dat.get_put_in {d e d' : Dat} {off : Nat} (h : d.put off e = some d') (i : Nat) (hi : off ≤ i ∧ i < off + e.len) : d'.get i = e.get (i - off) := by
  unfold Dat.put at h
  split at h
  · rename_i cs vs
    simp only [Dat.len] at hi
    split at h
    · rename_i hle
      cases h
      simp only [Dat.get]
      rw [List.append_assoc, List.getElem?_append_right (by simp; omega), List.getElem?_append_left (by simp; omega)]
      congr 1; simp; omega
    · cases h
  · rename_i l n m v
    simp only [Dat.len] at hi
    split at h
    · cases h
      simp only [Dat.get]
      rw [if_pos (by omega), byteAt_bput, if_pos hi, if_pos (by omega)]
    · cases h
  · rename_i l n b
    simp only [Dat.len, List.length_cons, List.length_nil] at hi
    split at h
    · rename_i hb
      cases h
      simp only [Dat.get]
      have e : i - off = 0 := by omega
      rw [if_pos (by omega), byteAt_bput, if_pos (by omega), e, byteAt_small _ (by omega)]
      simp; omega
    · cases h
  · cases h

theorem Dat.get_put_out {d e d' : Dat} {off : Nat} (h : d.put off e = some d') (i : Nat) (hi : ¬ (off ≤ i ∧ i < off + e.len)) : d'.get i = d.get i := by
  unfold Dat.put at h
  split at h
  · rename_i cs vs
    simp only [Dat.len] at hi
    split at h
    · rename_i hle
      cases h
      simp only [Dat.get]
      by_cases h1 : i < off
      · rw [List.append_assoc, List.getElem?_append_left (by simp; omega), List.getElem?_take]
        simp [h1]
      · rw [List.getElem?_append_right (by simp; omega), List.getElem?_drop]
        congr 1; simp; omega
    · cases h
  · rename_i l n m v
    simp only [Dat.len] at hi
    split at h
    · cases h
      simp only [Dat.get]
      rw [byteAt_bput, if_neg hi]
    · cases h
  · rename_i l n b
    simp only [Dat.len, List.length_cons, List.length_nil] at hi
    split at h
    · rename_i hb
      cases h
      simp only [Dat.get]
      rw [byteAt_bput, if_neg hi]
    · cases h
  · cases h

theorem Dat.take_spec {d e : Dat} {off len : Nat} (h : d.take off len = some e) : e.len = len ∧ off + len ≤ d.len ∧ ∀ i, i < len → e.get i = d.get (off + i) := by
  unfold Dat.take at h
  split at h
  · split at h
    · rename_i hle
      cases h
      refine ⟨by simp only [Dat.len, List.length_take, List.length_drop]; omega, hle, fun i hi => ?_⟩
      simp only [Dat.get, List.getElem?_take, hi, if_true, List.getElem?_drop]
    · cases h
  · split at h
    · rename_i hle
      cases h
      refine ⟨rfl, hle, fun i hi => ?_⟩
      simp only [Dat.get]
      rw [if_pos hi, if_pos (by omega), byteAt_bsub _ _ _ _ hi]
    · cases h

theorem Dat.app_len {d e f : Dat} (h : d.app e = some f) : f.len = d.len + e.len := by
  unfold Dat.app at h
  split at h
  · cases h; simp [Dat.len]
  · cases h; rfl
  · split at h
    · cases h; simp [Dat.len]
    · cases h
  · cases h; simp [Dat.len]
  · cases h; simp [Dat.len]
  · cases h

theorem Dat.app_left {d e f : Dat} (h : d.app e = some f) (i : Nat) (hi : i < d.len) : f.get i = d.get i := by
  unfold Dat.app at h
  split at h
  · cases h
    simp only [Dat.len] at hi
    simp only [Dat.get]
    exact List.getElem?_append_left hi
  · rename_i l n m v
    cases h
    simp only [Dat.len] at hi
    simp only [Dat.get]
    rw [if_pos (by omega), if_pos hi, byteAt_bput, if_neg (by omega), byteAt_bsub _ _ _ _ hi]; simp
  · rename_i l n b
    simp only [Dat.len] at hi
    split at h
    · cases h
      simp only [Dat.get]
      rw [if_pos (by omega), if_pos hi, byteAt_bput, if_neg (by omega), byteAt_bsub _ _ _ _ hi]; simp
    · cases h
  · simp [Dat.len] at hi
  · cases h; rfl
  · cases h

theorem Dat.app_right {d e f : Dat} (h : d.app e = some f) (i : Nat) (hi : d.len ≤ i) : f.get i = e.get (i - d.len) := by
  unfold Dat.app at h
  split at h
  · cases h
    simp only [Dat.len] at hi
    simp only [Dat.get, Dat.len]
    exact List.getElem?_append_right hi
  · rename_i l n m v
    cases h
    simp only [Dat.len] at hi
    show (if i < l + m then some (AV.int .u8 (byteAt (bput (bsub n 0 l) l m v) i)) else none) = (if i - l < m then some (AV.int .u8 (byteAt v (i - l))) else none)
    by_cases h2 : i < l + m
    · rw [if_pos h2, if_pos (by omega), byteAt_bput, if_pos (by omega)]
    · rw [if_neg h2, if_neg (by omega)]
  · rename_i l n b
    simp only [Dat.len] at hi
    split at h
    · rename_i hb
      cases h
      simp only [Dat.get, Dat.len]
      by_cases h2 : i < l + 1
      · have e : i - l = 0 := by omega
        rw [if_pos h2, byteAt_bput, if_pos (by omega), e, byteAt_small _ (by omega)]
        simp; omega
      · rw [if_neg h2]
        have e : ∃ k, i - l = k + 1 := ⟨i - l - 1, by omega⟩
        obtain ⟨k, e⟩ := e
        rw [e]; simp
    · cases h
  · cases h; simp [Dat.len]
  · rename_i l n
    cases h
    simp only [Dat.len] at hi
    simp only [Dat.get]
    rw [if_neg (by omega)]; simp
  · cases h

theorem Dat.rep_spec (z : Dat) (n : Nat) (hz : (z.rep n).len = n * z.len) (i : Nat) (hi : i < n * z.len) : (z.rep n).get i = z.get (i % z.len) := by
  cases z with
  | vals cs =>
    simp only [Dat.rep, Dat.get, Dat.len] at *
    clear hz
    induction n generalizing i with
    | zero => omega
    | succ n ih =>
      rw [List.replicate_succ, List.flatten_cons]
      have hc : 0 < cs.length := by
        rcases Nat.eq_zero_or_pos cs.length with h | h
        · rw [h] at hi; omega
        · exact h
      by_cases h1 : i < cs.length
      · rw [List.getElem?_append_left h1, Nat.mod_eq_of_lt h1]
      · rw [List.getElem?_append_right (by omega), ih (i - cs.length) (by rw [Nat.succ_mul] at hi; omega)]
        congr 1
        exact (Nat.mod_eq_sub_mod (by omega)).symm
  | bytes l v =>
    simp only [Dat.rep, Dat.len] at *
    by_cases hv : v = 0
    · simp only [hv, if_true, Dat.get, byteAt_zero]
      rw [if_pos hi, if_pos (Nat.mod_lt _ (by
        rcases Nat.eq_zero_or_pos l with h | h
        · rw [h] at hi; omega
        · exact h))]
    · simp only [hv, if_false, List.length_nil] at hz
      omega

end Go.Proofs.Ytjdemlagmamlbaa
