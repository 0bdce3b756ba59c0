/- Bytes in the abstract heap. -/
import Derived.Test.YtjmocbadnclldaaM23
namespace Go.Proofs.Ytjmocbadnclldaa

theorem nj_bool (b : Bool) : (AV.bool b).notJunk = some (AV.bool b) := rfl
theorem nj_int (k : IntKind) (n : Int) : (AV.int k n).notJunk = some (AV.int k n) := rfl
theorem nj_str (s : ByteArray) : (AV.str s).notJunk = some (AV.str s) := rfl
theorem nj_ptr (a b : Nat) : (AV.ptr a b).notJunk = some (AV.ptr a b) := rfl
theorem nj_nilptr : AV.nilptr.notJunk = some AV.nilptr := rfl
theorem nj_sl (a b c d : Nat) : (AV.sl a b c d).notJunk = some (AV.sl a b c d) := rfl
theorem nj_ssl (a b c d : Nat) : (AV.ssl a b c d).notJunk = some (AV.ssl a b c d) := rfl
theorem nj_nilsl : AV.nilsl.notJunk = some AV.nilsl := rfl
theorem nj_esl : AV.esl.notJunk = some AV.esl := rfl
theorem nj_map (a : Nat) : (AV.map a).notJunk = some (AV.map a) := rfl
theorem nj_nilmap : AV.nilmap.notJunk = some AV.nilmap := rfl
theorem nj_func (f : Nat) (a b : List AV) : (AV.func f a b).notJunk = some (AV.func f a b) := rfl
theorem nj_yield (l : Nat) : (AV.yield l).notJunk = some (AV.yield l) := rfl
theorem nj_nilfunc : AV.nilfunc.notJunk = some AV.nilfunc := rfl
theorem nj_agg (l : List AV) : (AV.agg l).notJunk = some (AV.agg l) := rfl
theorem nj_bytes (a b : Nat) : (AV.bytes a b).notJunk = some (AV.bytes a b) := rfl
theorem nj_tuple (l : List AV) : (AV.tuple l).notJunk = some (AV.tuple l) := rfl
theorem nj_junk : AV.junk.notJunk = none := rfl

theorem len_nilsl : sliceLen .nilsl = some 0 := rfl
theorem len_esl : sliceLen .esl = some 0 := rfl
theorem len_sl (a b l c : Nat) : sliceLen (.sl a b l c) = some l := rfl
theorem len_ssl (a b c l : Nat) : sliceLen (.ssl a b c l) = some l := rfl

/-- a slice of bytes: how many, and which, packed -/
def BytesAt (h : AHeap) (v : AV) (k n : Nat) : Prop := sliceLen v = some k ∧ n < 2 ^ (8 * k) ∧ (k = 0 ∨ sliceDat h 1 v = some (.bytes k n))

theorem notJunk_of_len {v : AV} {k : Nat} (h : sliceLen v = some k) : v.notJunk = some v := by cases v <;> simp [sliceLen] at h <;> rfl

theorem bytesAt_of_arg {h : AHeap} {v : AV} (ha : AD h .bytes [v]) : ∃ k n, BytesAt h v k n := by
  simp only [AD, List.cons.injEq, and_true] at ha
  rcases ha with rfl | rfl | ⟨id, len, cap, n, e, rfl, h1, h2, h3, h4, h5⟩
  · exact ⟨0, 0, rfl, by simp, .inl rfl⟩
  · exact ⟨0, 0, rfl, by simp, .inl rfl⟩
  · refine ⟨len, n, rfl, h4, .inr ?_⟩
    simp only [sliceDat, h5, Dat.take, Nat.zero_add, Nat.mul_one, Nat.le_refl, if_true]
    simp only [bsub, Nat.mul_zero, Nat.shiftRight_zero, Nat.mod_eq_of_lt h4]

theorem BytesAt.keep {h h' : AHeap} {v : AV} {k n : Nat} (hb : BytesAt h v k n) (hk : Keep [] h h') (hwf : h.wf) : BytesAt h' v k n := by
  refine ⟨hb.1, hb.2.1, ?_⟩
  rcases hb.2.2 with h0 | h0
  · exact .inl h0
  · refine .inr ?_
    unfold sliceDat at h0 ⊢
    split at h0
    · exact h0
    · exact h0
    · rename_i id off len cap
      cases hg : h.get id with
      | none => rw [hg] at h0; cases h0
      | some o =>
        rw [hk.get hg (hwf id o hg) (by simp)]; rw [hg] at h0; exact h0
    · rename_i id idx es len
      cases hg : h.get id with
      | none => rw [hg] at h0; cases h0
      | some o =>
        rw [hk.get hg (hwf id o hg) (by simp)]; rw [hg] at h0; exact h0
    · cases h0

/-- a page that begins with some bytes -/
def pageBits : Nat := 8 * 4096
def pageOf (n : Nat) : Nat := n % 2 ^ pageBits

theorem bput_page {k n : Nat} (hn : n < 2 ^ (8 * k)) : bput 0 0 (Nat.min 4096 k) (bsub n 0 (Nat.min 4096 k)) = pageOf n := by
  have e1 : bsub n 0 (Nat.min 4096 k) = n % 2 ^ (8 * Nat.min 4096 k) := by simp only [bsub, Nat.mul_zero, Nat.shiftRight_zero]
  have e2 : ∀ m, bput 0 0 m (n % 2 ^ (8 * m)) = n % 2 ^ (8 * m) := by
    intro m
    simp [bput]
  rw [e1, e2]
  unfold pageOf
  by_cases hk : k ≤ 4096
  · have hm : Nat.min 4096 k = k := Nat.min_eq_right hk
    rw [hm, Nat.mod_eq_of_lt hn]
    have : 2 ^ (8 * k) ≤ 2 ^ pageBits := Nat.pow_le_pow_right (by decide) (by unfold pageBits; omega)
    rw [Nat.mod_eq_of_lt (Nat.lt_of_lt_of_le hn this)]
  · have hm : Nat.min 4096 k = 4096 := Nat.min_eq_left (by omega)
    have e : 8 * Nat.min 4096 k = pageBits := by rw [hm]; rfl
    rw [e]

theorem pageBits_eq : 8 * 4096 = pageBits := rfl
theorem pageOf_lt (n : Nat) : pageOf n < 2 ^ (8 * 4096) := by
  rw [pageBits_eq]
  exact Nat.mod_lt _ (Nat.two_pow_pos _)
theorem bsub_page (n : Nat) : bsub (pageOf n) 0 4096 = pageOf n := by
  unfold bsub
  rw [pageBits_eq, Nat.mul_zero, Nat.shiftRight_zero]
  exact Nat.mod_eq_of_lt (Nat.mod_lt _ (Nat.two_pow_pos _))

theorem copy_page {h : AHeap} {v : AV} {k n id e : Nat} (hv : BytesAt h v k n) (hid : h.get id = some (.row e 1 false false (.bytes 4096 0))) (hlt : id < h.next) :
    ∃ m h', aop (.copy 1) [.sl id 0 4096 4096, v] h = some (.int .i64 m, h') ∧ h'.get id = some (.row e 1 false false (.bytes 4096 (pageOf n))) ∧ Keep [id] h h' ∧ h'.next = h.next := by
  by_cases h0 : k = 0
  · subst h0
    have hn : n = 0 := by have := hv.2.1; simp at this; exact this
    subst hn
    refine ⟨0, h, ?_, ?_, Keep.refl _ _, rfl⟩
    · simp only [aop, hv.1, len_sl]
      simp
    · rw [hid]; simp [pageOf]
  · have hd := hv.2.2.resolve_left h0
    have hm : ¬ Nat.min k 4096 = 0 := by
      have : Nat.min k 4096 = min k 4096 := rfl
      omega
    have hcomm : Nat.min k 4096 = Nat.min 4096 k := Nat.min_comm _ _
    refine ⟨Nat.min k 4096, h.put id (.row e 1 false false (.bytes 4096 (pageOf n))), ?_, by rw [AHeap.get_put, if_pos rfl], (Keep.refl _ _).put _ (.inl (by simp)) hlt, rfl⟩
    simp only [aop, hv.1, len_sl, if_neg hm, hd, Dat.take, Nat.mul_one, Nat.zero_add]
    rw [if_pos (Nat.min_le_left k 4096)]
    simp only [Option.bind_some, hid, Dat.put, Nat.zero_add]
    rw [if_pos (Nat.min_le_right k 4096), hcomm, bput_page hv.2.1]
    rfl

theorem iterN_normal {body : List AV → AHeap → Out} {keep : List Bool} {n : Nat} {e e' : List AV} {h h' : AHeap} (hb : body (keepM keep e) h = some (.normal, e', h')) : iterN body keep (n + 1) e h = iterN body keep n e' h' := by
  rw [iterN, hb]
theorem iterN_stop {body : List AV → AHeap → Out} {keep : List Bool} {n : Nat} {e e' : List AV} {h h' : AHeap} {x : AExit} (hb : body (keepM keep e) h = some (x, e', h')) (hx : x ≠ .normal) : iterN body keep (n + 1) e h = some (x, e', h') := by
  rw [iterN, hb]
  cases x <;> first | rfl | exact absurd rfl hx

def isCall : AOp → Bool
  | .callv => true
  | _ => false
theorem d_aop {C : Sem1} {op : AOp} {vs : List AV} {h h1 : AHeap} {v : AV} (hn : isCall op = false) (ha : aop op vs h = some (v, h1)) : Does C op vs h v h1 := by
  cases op <;> first | exact ⟨ha⟩ | cases hn
theorem d_load1 {C : Sem1} {h : AHeap} {id off e es : Nat} {soft ro : Bool} {d : Dat} {v : AV} (hg : h.get id = some (.row e es soft ro d)) (hd : d.get off = some v) : Does C .load1 [.ptr id off] h v h :=
  ⟨by simp only [doOp, aop, hg, hd, Option.map_some]⟩
theorem d_loadn {C : Sem1} {h : AHeap} {id off e es n : Nat} {soft ro : Bool} {d : Dat} {v : AV} (hg : h.get id = some (.row e es soft ro d)) (hd : d.sub off n = some v) : Does C (.loadn n) [.ptr id off] h v h :=
  ⟨by simp only [doOp, aop, hg, hd, Option.map_some]⟩
/-- what a call is known to answer -/
structure Ret (C : Sem1) (f : Nat) (l : List AV) (h : AHeap) (v : AV) (h1 : AHeap) : Prop where
  run : C f l h = some (v, h1)
theorem d_call {C : Sem1} {f : Nat} {l : List AV} {h h1 : AHeap} {v : AV} (hc : Ret C f l h v h1) : Does C .callv (.func f [] [] :: l) h v h1 := ⟨by
  show C f ([] ++ l ++ []) h = _
  rw [List.nil_append, List.append_nil]
  exact hc.run⟩
theorem d_lens {C : Sem1} {h : AHeap} {v : AV} {k : Nat} (hk : sliceLen v = some k) : Does C .lens [v] h (.int .i64 k) h := ⟨by
  simp only [doOp, aop, hk]
  rfl⟩

theorem again_skip {s : Env} {h : AHeap} {j : Nat} {d : Option Nat} {op : AOp} {os : List Opd} {g : Option (Nat × Bool)} {rs : List (Nat × AIn)} (hw : wantS s g = some false) (k : Again s h rs) : Again s h ((j, ⟨d, op, os, g⟩) :: rs) := ⟨.inl hw, k⟩
theorem again_load1 {s : Env} {h : AHeap} {j t id off e es : Nat} {soft ro : Bool} {d : Dat} {v : AV} {os : List Opd} {g : Option (Nat × Bool)} {rs : List (Nat × AIn)} (hw : wantS s g = some true) (ha : evalLS s os = some [.ptr id off]) (hl : look s t = some v)
    (hg : h.get id = some (.row e es soft ro d)) (hd : d.get off = some v) (hs : AV.same v v = true) (k : Again s h rs) : Again s h ((j, ⟨some t, .load1, os, g⟩) :: rs) :=
  ⟨.inr ⟨hw, _, v, h, ha, (d_load1 (C := fun _ _ _ => none) hg hd).run, fun t' e => by cases e; exact hl, hs⟩, k⟩

end Go.Proofs.Ytjmocbadnclldaa
