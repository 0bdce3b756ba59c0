/- Slices as parts of the heap; bytes. -/
import Derived.Test.YtjdemlagmamlbaaM24
namespace Go.Proofs.Ytjdemlagmamlbaa

/-- what a slice of k elements is, with which parts of the heap: its cells are d; may it be written -/
def SlIs (v : AV) (e es k : Nat) (d : Dat) (w : Bool) (cs : List Chunk) : Prop :=
  (v = .nilsl ∧ k = 0 ∧ d.len = 0 ∧ cs = []) ∨ (v = .esl ∧ k = 0 ∧ d.len = 0 ∧ cs = [] ∧ w = false) ∨
  (∃ id off cap D e' es' sf, v = .sl id off k cap ∧ cs = [.pt id (.row e' es' sf (!w) D)] ∧ D.take off (k * es) = some d ∧ k ≤ cap ∧ (w = true → off + cap * es ≤ D.len)) ∨
  (∃ id idx D, v = .ssl id idx es k ∧ cs = [.pt id (.row e es true false D)] ∧ D.take (idx * es) (k * es) = some d ∧ w = true ∧ (idx + k) * es = D.len)

theorem d_aop {op : AOp} {vs : List AV} {h h1 : AHeap} {v : AV} (hn : isCall op = false) (ha : aop op vs h = some (v, h1)) : Does op vs h v h1 := ⟨hn, ha⟩

theorem wrap_id {k : IntKind} {n : Int} (h1 : k.min ≤ n) (h2 : n ≤ k.max) : k.wrap n = n := by
  cases k <;> simp only [IntKind.min, IntKind.max, IntKind.signed, IntKind.bits, IntKind.wrap] at * <;> (simp at h1 h2 ⊢) <;> (try split) <;> omega
theorem wrap64 {n : Int} (h1 : -9223372036854775808 ≤ n) (h2 : n ≤ 9223372036854775807) : IntKind.i64.wrap n = n := wrap_id h1 h2

theorem d_add {a b : Int} {h : AHeap} (h1 : -9223372036854775808 ≤ a + b) (h2 : a + b ≤ 9223372036854775807) : Does (.bin .add) [.int .i64 a, .int .i64 b] h (.int .i64 (a + b)) h := ⟨rfl, by
  simp only [aop, binInt, ne_eq, not_true, if_false, Option.map_some, wrap64 h1 h2]⟩
theorem d_sub {a b : Int} {h : AHeap} (h1 : -9223372036854775808 ≤ a - b) (h2 : a - b ≤ 9223372036854775807) : Does (.bin .sub) [.int .i64 a, .int .i64 b] h (.int .i64 (a - b)) h := ⟨rfl, by
  simp only [aop, binInt, ne_eq, not_true, if_false, Option.map_some, wrap64 h1 h2]⟩

section
variable {C : SemW} {N j : Nat} {d : Option Nat} {op : AOp} {os : List Opd} {g : Option (Nat × Bool)} {is : List AIn} {ds : List DI} {rs : List (Nat × AIn)} {fin : Bool} {s : Env} {h : AHeap} {Q : Env → AHeap → Prop}
theorem wi_unguard (hw : wantS s g = some true) (k : WI C (⟨d, op, os, none⟩ :: is) N s h Q) : WI C (⟨d, op, os, g⟩ :: is) N s h Q := .mk fun e hl hc => by
  have := k.run e hl hc
  simp only [runInsW, runInW, hc.want hw] at this ⊢
  exact this
theorem wd_unguard (hw : wantS s g = some true) (k : WD C (⟨j, ⟨d, op, os, none⟩, rs, fin⟩ :: ds) N s h Q) : WD C (⟨j, ⟨d, op, os, g⟩, rs, fin⟩ :: ds) N s h Q := .mk fun e hl hc => by
  have := k.run e hl hc
  simp only [runDrawW, runInW, hc.want hw] at this ⊢
  exact this
end

theorem d_pick_t {c : Bool} {a b : AV} {h : AHeap} (hc : c = true) : Does .pick [.bool c, a, b] h a h := ⟨rfl, by subst hc; rfl⟩
theorem d_pick_f {c : Bool} {a b : AV} {h : AHeap} (hc : c = false) : Does .pick [.bool c, a, b] h b h := ⟨rfl, by subst hc; rfl⟩

theorem again_skip {s : Env} {h : AHeap} {j : Nat} {d : Option Nat} {op : AOp} {os : List Opd} {g : Option (Nat × Bool)} {rs : List (Nat × AIn)} (hw : wantS s g = some false) (k : Again s h rs) : Again s h ((j, ⟨d, op, os, g⟩) :: rs) := ⟨.inl hw, k⟩
theorem again_load1 {s : Env} {h : AHeap} {j t id off e es : Nat} {soft ro : Bool} {d : Dat} {v : AV} {os : List Opd} {g : Option (Nat × Bool)} {rs : List (Nat × AIn)} (hw : wantS s g = some true) (ha : evalLS s os = some [.ptr id off]) (hl : look s t = some v)
    (hg : h.get id = some (.row e es soft ro d)) (hd : d.get off = some v) (hs : AV.same v v = true) (k : Again s h rs) : Again s h ((j, ⟨some t, .load1, os, g⟩) :: rs) :=
  ⟨.inr ⟨hw, _, v, h, ha, (d_load1 hg hd).run, fun t' e => by cases e; exact hl, hs⟩, k⟩

/-- a slice, as a part -/
abbrev SlC (v : AV) (e es k : Nat) (d : Dat) (w : Bool) : Chunk := pk 10 v (SlIs v e es k d w)

/-- the address of an element -/
def elemPtr (es : Nat) (v : AV) (i : Nat) : AV :=
  match v with
  | .sl id off _ _ => .ptr id (off + i * es)
  | .ssl id idx _ _ => .ptr id ((idx + i) * es)
  | _ => .junk

section
variable {h : AHeap} {L R : List Chunk} {v : AV} {e es k : Nat} {d : Dat} {w : Bool}

theorem SlIs.len {cs : List Chunk} (x : SlIs v e es k d w cs) : sliceLen v = some k := by
  rcases x with ⟨rfl, rfl, _⟩ | ⟨rfl, rfl, _⟩ | ⟨id, off, cap, D, e', es', sf, rfl, _⟩ | ⟨id, idx, D, rfl, _⟩ <;> rfl

theorem SlIs.dlen {cs : List Chunk} (x : SlIs v e es k d w cs) : d.len = k * es := by
  rcases x with ⟨rfl, rfl, h, _⟩ | ⟨rfl, rfl, h, _⟩ | ⟨id, off, cap, D, e', es', sf, rfl, _, h, _⟩ | ⟨id, idx, D, rfl, _, h, _⟩
  · simpa using h
  · simpa using h
  · exact (Dat.take_spec h).1
  · exact (Dat.take_spec h).1

theorem SlIs.nj {cs : List Chunk} (x : SlIs v e es k d w cs) : v.notJunk = some v := by
  rcases x with ⟨rfl, _⟩ | ⟨rfl, _⟩ | ⟨id, off, cap, D, e', es', sf, rfl, _⟩ | ⟨id, idx, D, rfl, _⟩ <;> rfl

/-- what a slice is, without its parts -/
theorem St.slc (st : St h L) (t : Take L (SlC v e es k d w) R) : sliceLen v = some k ∧ v.notJunk = some v ∧ d.len = k * es := by
  obtain ⟨cs, x, _⟩ := (st.take t).unpack
  exact ⟨x.len, x.nj, x.dlen⟩

theorem d_lens {k : Nat} {v : AV} (hk : sliceLen v = some k) : Does .lens [v] h (.int .i64 k) h := ⟨rfl, by simp only [aop, hk]; rfl⟩

theorem elemPtr_nj (x : sliceLen v = some k) {i : Nat} (hi : i < k) : (elemPtr es v i).notJunk = some (elemPtr es v i) := by
  cases v <;> simp [sliceLen] at x <;> first | rfl | omega

theorem d_indexs {i : Int} {kk : IntKind} (st : St h L) (t : Take L (SlC v e es k d w) R) (h0 : 0 ≤ i) (h1 : i < k) : Does (.indexs es) [v, .int kk i] h (elemPtr es v i.toNat) h := by
  obtain ⟨cs, x, _⟩ := (st.take t).unpack
  refine ⟨rfl, ?_⟩
  rcases x with ⟨rfl, rfl, _⟩ | ⟨rfl, rfl, _⟩ | ⟨id, off, cap, D, e', es', sf, rfl, _⟩ | ⟨id, idx, D, rfl, _⟩
  · omega
  · omega
  · simp only [aop, elemPtr]; rw [if_pos ⟨h0, h1⟩]
  · simp only [aop, elemPtr]; rw [if_pos ⟨h0, h1, trivial⟩]

theorem Dat.take_get {D d : Dat} {off n i : Nat} (h : D.take off n = some d) (hi : i < n) : D.get (off + i) = d.get i := ((Dat.take_spec h).2.2 i hi).symm

theorem d_loadE {i : Nat} {x : AV} (st : St h L) (t : Take L (SlC v e 1 k d w) R) (hi : i < k) (hx : d.get i = some x) : Does .load1 [elemPtr 1 v i] h x h := by
  obtain ⟨cs, y, st'⟩ := (st.take t).unpack
  rcases y with ⟨rfl, rfl, _⟩ | ⟨rfl, rfl, _⟩ | ⟨id, off, cap, D, e', es', sf, rfl, rfl, h3, _⟩ | ⟨id, idx, D, rfl, rfl, h3, _⟩
  · omega
  · omega
  · exact d_load1 st'.get (by rw [Nat.mul_one, Dat.take_get h3 (by omega)]; exact hx)
  · refine d_load1 st'.get ?_
    rw [Nat.mul_one] at *
    rw [Dat.take_get h3 (by omega)]; exact hx

theorem Dat.take_sub {D d : Dat} {off n i m : Nat} (h : D.take off n = some d) (hi : i + m ≤ n) : D.sub (off + i) m = d.sub i m := by
  unfold Dat.take at h
  unfold Dat.sub
  cases D with
  | vals cs =>
    simp only at h
    split at h
    · cases h
      simp only [List.length_take, List.length_drop]
      rw [if_pos (by omega), if_pos (by omega), List.drop_take, List.drop_drop, List.take_take, Nat.min_eq_left (by omega)]
    · cases h
  | bytes l n0 =>
    simp only at h
    split at h
    · cases h
      simp only
      rw [if_pos (by omega), if_pos (by omega)]
      congr 2
      unfold bsub
      apply Nat.eq_of_testBit_eq
      intro j
      rw [Nat.testBit_mod_two_pow, Nat.testBit_mod_two_pow, Nat.testBit_shiftRight, Nat.testBit_shiftRight, Nat.testBit_mod_two_pow, Nat.testBit_shiftRight]
      by_cases hj : j < 8 * m
      · have : 8 * i + j < 8 * n := by omega
        simp only [hj, this, decide_true, Bool.true_and]
        congr 1; omega
      · simp [hj]
    · cases h

theorem d_loadEn {i n : Nat} {x : AV} (st : St h L) (t : Take L (SlC v e es k d w) R) (hn : n = es) (hi : i < k) (hx : d.sub (i * es) es = some x) : Does (.loadn n) [elemPtr es v i] h x h := by
  subst hn
  obtain ⟨cs, y, st'⟩ := (st.take t).unpack
  have hle : i * n + n ≤ k * n := by rw [← Nat.succ_mul]; exact Nat.mul_le_mul_right n hi
  rcases y with ⟨rfl, rfl, _⟩ | ⟨rfl, rfl, _⟩ | ⟨id, off, cap, D, e', es', sf, rfl, rfl, h3, _⟩ | ⟨id, idx, D, rfl, rfl, h3, _⟩
  · omega
  · omega
  · exact d_loadn st'.get (by rw [Dat.take_sub h3 hle]; exact hx)
  · refine d_loadn st'.get ?_
    rw [Nat.add_mul, Dat.take_sub h3 hle]; exact hx

/-- a new row as a slice -/
theorem St.slice {id n cap e' es' : Nat} {sf : Bool} {D : Dat} (st : St h (.pt id (.row e' es' sf false D) :: L)) (h1 : D.take 0 (n * es) = some d) (h2 : n ≤ cap) (h3 : cap * es ≤ D.len) : St h (SlC (.sl id 0 n cap) e es n d true :: L) :=
  St.pack (cs := [.pt id (.row e' es' sf false D)]) st (.inr (.inr (.inl ⟨id, 0, cap, D, e', es', sf, rfl, rfl, h1, h2, fun _ => by omega⟩)))

theorem Dat.take_all {D : Dat} : D.take 0 D.len = some (match D with | .vals cs => .vals cs | .bytes l n => .bytes l (bsub n 0 l)) := by
  cases D with
  | vals cs => simp [Dat.take, Dat.len]
  | bytes l n => simp [Dat.take, Dat.len]

/-- no slice at all -/
theorem St.nilslice (st : St h L) (e es : Nat) (w : Bool) : St h (SlC .nilsl e es 0 (.vals []) w :: L) := St.pack (cs := []) st (.inl ⟨rfl, rfl, rfl, rfl⟩)

end

/-- an argument's bytes -/
def bytesD (k n : Nat) : Dat := .bytes k n

/- bytes packed -/
theorem bsub_self {n k : Nat} (h : n < 2 ^ (8 * k)) : bsub n 0 k = n := by
  simp only [bsub, Nat.mul_zero, Nat.shiftRight_zero, Nat.mod_eq_of_lt h]
theorem bput_all {n k v : Nat} (hv : v < 2 ^ (8 * k)) (hn : n < 2 ^ (8 * k)) : bput n 0 k v = v := by
  apply Nat.eq_of_testBit_eq
  intro j
  rw [bput_testBit]
  by_cases hj : j < 8 * (0 + k)
  · rw [if_neg (by omega), if_pos hj]; simp
  · rw [if_neg (by omega), if_neg hj]
    have h1 : n < 2 ^ j := Nat.lt_of_lt_of_le hn (Nat.pow_le_pow_right (by decide) (by omega))
    have h2 : v < 2 ^ j := Nat.lt_of_lt_of_le hv (Nat.pow_le_pow_right (by decide) (by omega))
    rw [Nat.testBit_lt_two_pow h1, Nat.testBit_lt_two_pow h2]
theorem byteAt_ext {a b k : Nat} (ha : a < 2 ^ (8 * k)) (hb : b < 2 ^ (8 * k)) (h : ∀ i, i < k → byteAt a i = byteAt b i) : a = b := by
  have := bytes_ext a b k h
  rwa [Nat.mod_eq_of_lt ha, Nat.mod_eq_of_lt hb] at this

end Go.Proofs.Ytjdemlagmamlbaa
