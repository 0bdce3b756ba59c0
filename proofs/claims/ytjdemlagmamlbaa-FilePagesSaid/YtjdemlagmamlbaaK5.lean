/- Slices of bytes. -/
import Derived.Test.YtjdemlagmamlbaaK4
namespace Go.Proofs.Ytjdemlagmamlbaa

/-- a slice of k bytes, packed -/
def ByIs (v : AV) (k n : Nat) (w : Bool) (cs : List Chunk) : Prop := SlIs v 5 1 k (.bytes k n) w cs ∧ n < 2 ^ (8 * k)
abbrev ByC (v : AV) (k n : Nat) (w : Bool) : Chunk := pk 12 v (ByIs v k n w)

theorem bsub_whole {k n : Nat} (h : n < 2 ^ (8 * k)) : bsub n 0 k = n := bsub_self h
theorem take_bytes {k n : Nat} (h : n < 2 ^ (8 * k)) : Dat.take (.bytes k n) 0 k = some (.bytes k n) := by
  simp only [Dat.take, Nat.zero_add]; rw [if_pos (Nat.le_refl _), bsub_self h]

theorem byteAt_packStr {l n i : Nat} (h : i < l) : (packStr l n).data[i]? = some (UInt8.ofNat (byteAt n i)) := by
  unfold packStr
  simp [h]

theorem packStr_eq_iff {k n m x : Nat} (hn : n < 2 ^ (8 * k)) (hx : x < 2 ^ (8 * m)) : packStr k n = packStr m x ↔ k = m ∧ n = x := by
  constructor
  · intro e
    have hs : k = m := by
      have := congrArg ByteArray.size e
      simpa [packStr, ByteArray.size] using this
    subst hs
    refine ⟨rfl, byteAt_ext hn hx fun i hi => ?_⟩
    have h1 := byteAt_packStr (n := n) hi
    rw [e, byteAt_packStr hi] at h1
    simp only [Option.some.injEq] at h1
    have := congrArg UInt8.toNat h1
    simp only [UInt8.toNat_ofNat'] at this
    have l1 := byteAt_lt n i
    have l2 := byteAt_lt x i
    omega
  · rintro ⟨rfl, rfl⟩; rfl

theorem beqStr (a b : ByteArray) : (a == b) = true ↔ a = b := by
  cases a; cases b
  simp only [ByteArray.mk.injEq]
  rw [← beq_iff_eq (α := Array UInt8)]
  exact Iff.rfl
theorem packStr_beq {k n m x : Nat} (hn : n < 2 ^ (8 * k)) (hx : x < 2 ^ (8 * m)) : (packStr k n == packStr m x) = decide (k = m ∧ n = x) := by
  rw [Bool.eq_iff_iff, beqStr, decide_eq_true_eq]
  exact packStr_eq_iff hn hx

/-- a list out of another one: in its order, what is not wanted left away -/
inductive Sel : List Chunk → List Chunk → Prop where
  | nil {L : List Chunk} : Sel L L
  | cons {L L' R : List Chunk} {c : Chunk} : Take L c L' → Sel L' R → Sel L (c :: R)
  | skip {L R : List Chunk} {c : Chunk} : Sel L R → Sel (c :: L) R
theorem semL_sel {L L' : List Chunk} (s : Sel L L') : ∀ {m : Hp}, semL L m → ∃ m', (∀ i o, m' i = some o → m i = some o) ∧ semL L' m' := by
  induction s with
  | nil => exact fun {m} h => ⟨m, fun _ _ e => e, h⟩
  | cons t _ ih =>
    intro m h
    obtain ⟨a, b, h2, h3, h4, h5⟩ := semL_perm t.perm h
    obtain ⟨b', g1, g2⟩ := ih h5
    have key : ∀ i, b' i = none ∨ b' i = b i := fun i => by
      cases hb : b' i with
      | none => exact .inl rfl
      | some o => exact .inr (g1 i o hb).symm
    refine ⟨cup a b', fun i o e => ?_, a, b', fun i => ?_, fun _ => rfl, h4, g2⟩
    · have e : (a i).or (b' i) = some o := e
      rw [h3]
      rcases key i with h | h
      · rw [h, Option.or_none] at e; rw [e]; rfl
      · rw [h] at e; exact e
    · rcases key i with h | h
      · exact .inr (.inl h)
      · have := h2 i; rw [← h] at this; exact this
  | skip _ ih =>
    intro m h
    obtain ⟨a, b, h2, h3, h4, h5⟩ := h
    obtain ⟨b', g1, g2⟩ := ih h5
    exact ⟨b', fun i o e => by rw [h3, C1.comm (h2 i), g1 i o e]; rfl, g2⟩
theorem St.sel {h : AHeap} {L L' : List Chunk} (st : St h L) (s : Sel L L') : St h L' := by
  obtain ⟨m, h1, h2⟩ := st.has
  obtain ⟨m', g1, g2⟩ := semL_sel s h2
  exact ⟨st.wf, m', fun i o e => h1 i o (g1 i o e), g2⟩

/-- parts put together, wherever they are -/
theorem St.packP {h : AHeap} {L R : List Chunk} {t : Nat} {k : AV} {P : List Chunk → Prop} {cs : List Chunk} (st : St h L) (hp : P cs) (p : Pick L cs R) : St h (pk t k P :: R) := St.pack (st.pick p) hp

section
variable {h : AHeap} {L R R' : List Chunk} {v v' : AV} {k n m x : Nat} {w w' : Bool} {C : SemW}

theorem St.by (st : St h L) (t : Take L (ByC v k n w) R) : sliceLen v = some k ∧ v.notJunk = some v ∧ n < 2 ^ (8 * k) := by
  obtain ⟨cs, x, _⟩ := (st.take t).unpack
  exact ⟨x.1.len, x.1.nj, x.2⟩

theorem St.by2 (st : St h L) (t : Take L (ByC v k n w) R) : sliceLen v = some k ∧ v.notJunk = some v := ⟨(st.by t).1, (st.by t).2.1⟩

/-- out of the packet: a slice -/
theorem St.byS (st : St h L) (t : Take L (ByC v k n w) R) : St h (SlC v 5 1 k (.bytes k n) w :: R) ∧ n < 2 ^ (8 * k) := by
  obtain ⟨cs, x, st'⟩ := (st.take t).unpack
  exact ⟨St.pack st' x.1, x.2⟩
theorem St.byP (st : St h (SlC v 5 1 k (.bytes k n) w :: R)) (hn : n < 2 ^ (8 * k)) : St h (ByC v k n w :: R) := by
  obtain ⟨cs, x, st'⟩ := st.unpack
  exact St.pack st' ⟨x, hn⟩

theorem St.byRow {id e' es' : Nat} {sf : Bool} (st : St h (.pt id (.row e' es' sf false (.bytes k n)) :: L)) (hn : n < 2 ^ (8 * k)) : St h (ByC (.sl id 0 k k) k n true :: L) :=
  St.pack (cs := [.pt id (.row e' es' sf false (.bytes k n))]) st ⟨.inr (.inr (.inl ⟨id, 0, k, .bytes k n, e', es', sf, rfl, rfl, by rw [Nat.mul_one]; exact take_bytes hn, Nat.le_refl _, fun _ => by simp [Dat.len]⟩)), hn⟩

theorem St.byRow' {id e' es' : Nat} {sf : Bool} (st : St h L) (t : Take L (.pt id (.row e' es' sf false (.bytes k n))) R) (hn : n < 2 ^ (8 * k)) : St h (ByC (.sl id 0 k k) k n true :: R) := (st.take t).byRow hn

theorem e_mkbytes {e : Nat} {kk kk' : IntKind} (st : St h L) (hk : k ≤ 2 ^ 40) : Eff C (.mkslice e 1 1 (.bytes 1 0)) [.int kk (k : Nat), .int kk' (k : Nat)] h fun x h' => ∃ id, x = .sl id 0 k k ∧ St h' (ByC x k 0 true :: L) := .mk (by
  have h1 : Dat.rep (.bytes 1 0) k = .bytes k 0 := by simp [Dat.rep]
  refine Does.do (v := .sl h.next 0 k k) (h1 := h.new (.row e 1 false false (.bytes k 0))) ⟨rfl, ?_⟩ ⟨h.next, rfl, (st.new _).byRow (Nat.two_pow_pos _)⟩
  simp only [aop, Int.toNat_natCast, h1]
  rw [if_pos ⟨by omega, by omega, by omega, by omega, rfl, by simp [Dat.len]⟩]
  rfl)

/-- what a function returns, read at its end -/
theorem res_cell {s : Env} {t : Nat} {o : AOp} {rs : List ARes} {a y : AV} {vs : List AV} (h1 : look s t = some a) (d : Does o [a] h y h) (h2 : resS s h rs = some vs) : resS s h (.cell t o :: rs) = some (y :: vs) := by
  simp only [resS, h1, d.2, h2]

theorem sl_dat {x : AV} {k : Nat} (h : sliceLen x = some k) : x.dat = .vals [x] := by
  cases x <;> first | rfl | (simp [sliceLen] at h)
/-- a store at a place that is reckoned -/
theorem e_storeV {id off i e es : Nat} {sf : Bool} {l : List AV} {x : AV} (st : St h L) (t : Take L (.pt id (.row e es sf false (.vals l))) R) (ho : off = i) (hi : i < l.length) (hx : x.dat = .vals [x]) :
    Eff C (.store 1) [.ptr id off, x] h fun q h' => q = .tuple [] ∧ St h' (.pt id (.row e es sf false (.vals (l.set i x))) :: R) := by
  subst ho
  refine e_store st t (by rw [hx]; rfl) rfl ?_
  rw [hx]
  simp only [Dat.put, List.length_cons, List.length_nil]
  rw [if_pos (by omega), List.set_eq_take_append_cons_drop, if_pos hi]
  simp
theorem d_loadV {id off i e es : Nat} {sf ro : Bool} {l : List AV} {x : AV} (st : St h L) (t : Take L (.pt id (.row e es sf ro (.vals l))) R) (ho : off = i) (hx : l[i]? = some x) : Does .load1 [.ptr id off] h x h := by
  subst ho; exact d_load1 (st.get' t) hx

/-- no bytes -/
theorem St.byNil (st : St h L) (w : Bool) : St h (ByC .nilsl 0 0 w :: L) := St.pack (cs := []) st ⟨.inl ⟨rfl, rfl, rfl, rfl⟩, by decide⟩

theorem d_tostr (st : St h L) (t : Take L (ByC v k n w) R) : Does .tostr [v] h (.str (packStr k n)) h := by
  obtain ⟨cs, ⟨y, hn⟩, st'⟩ := (st.take t).unpack
  refine ⟨rfl, ?_⟩
  obtain ⟨d0, h1, h2, h3⟩ := y.sliceDat st'
  by_cases hk : k = 0
  · subst hk
    have e0 : packStr 0 n = ByteArray.empty := rfl
    rw [e0]
    simp only [aop, h1]
    cases d0 with
    | vals cs =>
      have : cs = [] := List.length_eq_zero_iff.1 (by simpa [Dat.len] using h3)
      subst this; rfl
    | bytes l q =>
      have : l = 0 := by simpa [Dat.len] using h3
      subst this; rfl
  · rw [h2 hk] at h1
    simp only [aop, h1]

theorem d_lenb (st : St h L) (t : Take L (ByC v k n w) R) : Does .lens [v] h (.int .i64 k) h := d_lens (st.by t).1

theorem d_indexb {i : Int} {kk : IntKind} (st : St h L) (t : Take L (ByC v k n w) R) (h0 : 0 ≤ i) (h1 : i < k) : Does (.indexs 1) [v, .int kk i] h (elemPtr 1 v i.toNat) h :=
  d_indexs (st.byS t).1 Take.here h0 h1
theorem d_byte {i : Nat} (st : St h L) (t : Take L (ByC v k n w) R) (hi : i < k) : Does .load1 [elemPtr 1 v i] h (.int .u8 (byteAt n i)) h :=
  d_loadE (st.byS t).1 Take.here hi (by simp only [Dat.get]; rw [if_pos hi])

theorem d_byIdx {i : Nat} {kk : IntKind} (st : St h L) (t : Take L (ByC v k n w) R) (h1 : i < k) : Does (.indexs 1) [v, .int kk i] h (elemPtr 1 v i) h ∧ (elemPtr 1 v i).notJunk = some (elemPtr 1 v i) :=
  ⟨d_indexb (i := (i : Int)) st t (by omega) (by omega), elemPtr_nj (st.by t).1 h1⟩

theorem sub_of_take {D : Dat} {off k n m : Nat} (h : D.take off k = some (.bytes k n)) (hm : m ≤ k) : D.sub off m = some (.bytes m (bsub n 0 m)) := by
  cases D with
  | vals cs => simp only [Dat.take] at h; split at h <;> cases h
  | bytes l q =>
    simp only [Dat.take] at h
    split at h
    · rename_i hl
      simp only [Option.some.injEq, Dat.bytes.injEq, true_and] at h
      subst h
      simp only [Dat.sub]
      rw [if_pos (by omega)]
      congr 2
      apply Nat.eq_of_testBit_eq
      intro j
      simp only [bsub_testBit]
      by_cases hj : j < 8 * m
      · simp [hj, show j < 8 * k by omega]
      · simp [hj]
    · cases h

/-- the bytes as an array's -/
theorem d_page {m : Nat} (st : St h L) (t : Take L (ByC v k n w) R) (hm : m ≤ k) (hk : 0 < m) : ∃ p, Does (.sl2arr m) [v] h p h ∧ p.notJunk = some p ∧ Does (.loadn m) [p] h (.bytes m (bsub n 0 m)) h := by
  obtain ⟨cs, ⟨y, hn⟩, st'⟩ := (st.take t).unpack
  rcases y with ⟨rfl, rfl, _⟩ | ⟨rfl, rfl, _⟩ | ⟨id, off, cap, D, e', es', sf, rfl, rfl, h3, _⟩ | ⟨id, idx, D, rfl, rfl, h3, _⟩
  · omega
  · omega
  · refine ⟨.ptr id off, ⟨rfl, ?_⟩, rfl, d_loadn st'.get ?_⟩
    · simp only [aop]; rw [if_pos hm]
    · rw [Nat.mul_one] at h3; exact sub_of_take h3 hm
  · refine ⟨.ptr id (idx * 1), ⟨rfl, ?_⟩, rfl, d_loadn st'.get ?_⟩
    · simp only [aop]; rw [if_pos hm]
    · rw [Nat.mul_one k] at h3; exact sub_of_take h3 hm

theorem put_take_bytes {D d : Dat} {off k i m x n : Nat} (ht : D.take off k = some (.bytes k n)) (hd : d = .bytes m x) (hi : i + m ≤ k) : ∃ D', D.put (off + i) d = some D' ∧ D'.len = D.len ∧ D'.take off k = some (.bytes k (bput n i m x)) := by
  subst hd
  cases D with
  | vals cs => simp only [Dat.take] at ht; split at ht <;> cases ht
  | bytes l q =>
    simp only [Dat.take] at ht
    split at ht
    · rename_i hl
      simp only [Option.some.injEq, Dat.bytes.injEq, true_and] at ht
      subst ht
      refine ⟨.bytes l (bput q (off + i) m x), by simp only [Dat.put]; rw [if_pos (by omega)], rfl, ?_⟩
      simp only [Dat.take]
      rw [if_pos hl]
      congr 2
      apply Nat.eq_of_testBit_eq
      intro j
      rw [bsub_testBit, bput_testBit, bput_testBit, bsub_testBit]
      by_cases hj : j < 8 * k
      · simp only [hj, decide_true, Bool.true_and]
        by_cases h1 : j < 8 * i
        · rw [if_pos (by omega), if_pos h1]
        · by_cases h2 : j < 8 * (i + m)
          · rw [if_neg (by omega), if_pos (by omega), if_neg h1, if_pos h2]; congr 1; omega
          · rw [if_neg (by omega), if_neg (by omega), if_neg h1, if_neg h2]
      · simp only [hj, decide_false, Bool.false_and]
        rw [if_neg (by omega), if_neg (by omega)]
    · cases ht

theorem e_storeb {i b : Nat} (st : St h L) (t : Take L (ByC v k n true) R) (hi : i < k) (hb : b < 256) : Eff C (.store 1) [elemPtr 1 v i, .int .u8 b] h fun q h' => q = .tuple [] ∧ St h' (ByC v k (bput n i 1 b) true :: R) := .mk (by
  obtain ⟨cs, ⟨y, hn⟩, st'⟩ := (st.take t).unpack
  have hlt : bput n i 1 b < 2 ^ (8 * k) := bput_lt hn (by omega)
  have key : ∀ (D : Dat) (off : Nat), D.take off k = some (.bytes k n) → ∃ D', D.put (off + i) (AV.int .u8 b).dat = some D' ∧ D'.len = D.len ∧ D'.take off k = some (.bytes k (bput n i 1 b)) := by
    intro D off h
    obtain ⟨D', h1, h2, h3⟩ := put_take_bytes h (rfl : Dat.bytes 1 b = _) (show i + 1 ≤ k by omega)
    refine ⟨D', ?_, h2, h3⟩
    cases D with
    | vals cs => simp only [Dat.take] at h; split at h <;> cases h
    | bytes l q =>
      simp only [Dat.put] at h1
      split at h1
      · cases h1
        show Dat.put (.bytes l q) (off + i) (.vals [.int .u8 b]) = _
        simp only [Dat.put]
        rw [if_pos ⟨by omega, by omega, by omega⟩]
        rfl
      · cases h1
  rcases y with ⟨rfl, rfl, _⟩ | ⟨rfl, rfl, _⟩ | ⟨id, off, cap, D, e', es', sf, rfl, rfl, h3, h4, h5⟩ | ⟨id, idx, D, rfl, rfl, h3, h4, h5⟩
  · omega
  · omega
  · rw [Nat.mul_one] at h3
    obtain ⟨D', p1, p2, p3⟩ := key D off h3
    refine Does.do (v := .tuple []) (h1 := h.put id (.row e' es' sf false D')) ⟨rfl, ?_⟩ ⟨rfl, St.pack (cs := [.pt id (.row e' es' sf false D')]) (st'.put _) ⟨.inr (.inr (.inl ⟨id, off, cap, D', e', es', sf, rfl, rfl, by rw [Nat.mul_one]; exact p3, h4, fun _ => by rw [p2]; exact h5 rfl⟩)), hlt⟩⟩
    simp only [aop, elemPtr, st'.get, Bool.not_true, Nat.mul_one, p1, Option.map_some]
    rfl
  · rw [Nat.mul_one k] at h3
    obtain ⟨D', p1, p2, p3⟩ := key D (idx * 1) h3
    refine Does.do (v := .tuple []) (h1 := h.put id (.row 5 1 true false D')) ⟨rfl, ?_⟩ ⟨rfl, St.pack (cs := [.pt id (.row 5 1 true false D')]) (st'.put _) ⟨.inr (.inr (.inr ⟨id, idx, D', rfl, rfl, by rw [Nat.mul_one k]; exact p3, rfl, by rw [p2]; exact h5⟩)), hlt⟩⟩
    simp only [aop, elemPtr, st'.get, Nat.mul_one] at p1 ⊢
    rw [p1]; rfl)

/-- copy -/
theorem e_copyb (st : St h L) (t : Take L (ByC v k n true) R) (t' : Take R (ByC v' m x w') R') : Eff C (.copy 1) [v, v'] h fun q h' => q = .int .i64 (Nat.min m k) ∧ St h' (ByC v k (bput n 0 (Nat.min m k) x) true :: ByC v' m x w' :: R') := .mk (by
  have hs := (st.take t).perm (List.Perm.cons _ t'.perm)
  have hl' := (((st.take t).drop).by t').1
  obtain ⟨cs', ⟨y', hx⟩, st2⟩ := (((st.take t).drop).take t').unpack
  obtain ⟨d0, hd0, hd1, hd2⟩ := y'.sliceDat st2
  obtain ⟨cs, ⟨y, hn⟩, st'⟩ := hs.unpack
  have hl := y.len
  by_cases hz : Nat.min m k = 0
  · refine Does.do (v := .int .i64 (Nat.min m k)) (h1 := h) ⟨rfl, ?_⟩ ⟨rfl, St.pack st' ⟨?_, ?_⟩⟩
    · simp only [aop, hl, hl', hz, if_true]; rfl
    · have : bput n 0 (Nat.min m k) x = n := by
        rw [hz]; apply Nat.eq_of_testBit_eq; intro j; rw [bput_testBit]; simp
      rw [this]; exact y
    · exact bput_lt hn (by rw [hz]; omega)
  · have hm0 : m ≠ 0 := fun e => hz (by simp [e])
    have hk0 : k ≠ 0 := fun e => hz (by simp [e])
    rw [hd1 hm0] at hd0
    have hmin : Nat.min m k ≤ k := Nat.min_le_right _ _
    have hmin' : Nat.min m k ≤ m := Nat.min_le_left _ _
    have hlt : bput n 0 (Nat.min m k) x < 2 ^ (8 * k) := bput_lt hn (by omega)
    have hsrc : Dat.take (.bytes m x) 0 (Nat.min m k) = some (.bytes (Nat.min m k) (bsub x 0 (Nat.min m k))) := by
      simp only [Dat.take]; rw [if_pos (by omega)]
    have hb : bput n 0 (Nat.min m k) (bsub x 0 (Nat.min m k)) = bput n 0 (Nat.min m k) x := by
      apply Nat.eq_of_testBit_eq; intro j
      rw [bput_testBit, bput_testBit, bsub_testBit]
      by_cases h1 : j < 8 * (0 + Nat.min m k)
      · simp [show j < 8 * Nat.min m k by omega]
      · rw [if_neg h1, if_neg h1]
    rcases y with ⟨rfl, rfl, _⟩ | ⟨rfl, rfl, _⟩ | ⟨id, off, cap, D, e', es', sf, rfl, rfl, h3, h4, h5⟩ | ⟨id, idx, D, rfl, rfl, h3, h4, h5⟩
    · omega
    · omega
    · rw [Nat.mul_one] at h3
      obtain ⟨D', p1, p2, p3⟩ := put_take_bytes h3 (rfl : Dat.bytes (Nat.min m k) (bsub x 0 (Nat.min m k)) = _) (show 0 + Nat.min m k ≤ k by omega)
      refine Does.do (v := .int .i64 (Nat.min m k)) (h1 := h.put id (.row e' es' sf false D')) ⟨rfl, ?_⟩ ⟨rfl, St.pack (cs := [.pt id (.row e' es' sf false D')]) (st'.put _) ⟨.inr (.inr (.inl ⟨id, off, cap, D', e', es', sf, rfl, rfl, by rw [Nat.mul_one, ← hb]; exact p3, h4, fun _ => by rw [p2]; exact h5 rfl⟩)), hlt⟩⟩
      simp only [aop, hl, hl', if_neg hz, hd0, Nat.mul_one, hsrc, Option.bind_some, st'.get, Bool.not_true]
      rw [Nat.add_zero] at p1
      rw [p1]; rfl
    · rw [Nat.mul_one k] at h3
      obtain ⟨D', p1, p2, p3⟩ := put_take_bytes h3 (rfl : Dat.bytes (Nat.min m k) (bsub x 0 (Nat.min m k)) = _) (show 0 + Nat.min m k ≤ k by omega)
      refine Does.do (v := .int .i64 (Nat.min m k)) (h1 := h.put id (.row 5 1 true false D')) ⟨rfl, ?_⟩ ⟨rfl, St.pack (cs := [.pt id (.row 5 1 true false D')]) (st'.put _) ⟨.inr (.inr (.inr ⟨id, idx, D', rfl, rfl, by rw [Nat.mul_one k, ← hb]; exact p3, rfl, by rw [p2]; exact h5⟩)), hlt⟩⟩
      simp only [aop, hl, hl', if_neg hz, hd0]
      rw [Nat.mul_one (Nat.min m k), hsrc]
      simp only [Option.bind_some, st'.get, if_true]
      rw [Nat.add_zero] at p1
      rw [p1]; rfl)

/-- append to no bytes: new ones, the very same -/
theorem e_appb0 {v0 : AV} {z : Dat} (st : St h L) (t : Take L (ByC v0 0 0 true) R) (t' : Take R (ByC v m x w) R') (hm : m ≤ 2 ^ 40) : Eff C (.append 5 1 1 z) [v0, v] h fun q h' => q.notJunk = some q ∧ sliceLen q = some m ∧ St h' (ByC q m x true :: ByC v m x w :: R') := .mk (by
  obtain ⟨s1, _⟩ := st.byS t
  have hs : Take (SlC v0 5 1 0 (.bytes 0 0) true :: R) (ByC v m x w) (SlC v0 5 1 0 (.bytes 0 0) true :: R') := .there t'
  obtain ⟨s2, hx⟩ := s1.byS hs
  have hb : bput (bsub 0 0 0) 0 m x = x := by
    apply Nat.eq_of_testBit_eq; intro j
    rw [bput_testBit]
    by_cases hj : j < 8 * m
    · rw [if_neg (by omega), if_pos (by omega)]; simp
    · rw [if_neg (by omega), if_neg (by omega)]
      rw [Nat.testBit_lt_two_pow (Nat.lt_of_lt_of_le hx (Nat.pow_le_pow_right (by decide) (by omega)))]
      simp [bsub]
  have ha : Dat.app (.bytes 0 0) (.bytes m x) = some (.bytes m x) := by simp only [Dat.app, hb, Nat.zero_add]
  have h0 : m = 0 → Dat.bytes m x = Dat.bytes 0 0 := by
    intro e; subst e
    have : x = 0 := by simpa using hx
    rw [this]
  obtain ⟨q, h', p1, q1, q2, q3⟩ := d_append (z := z) (b := 1) s2 (Take.there Take.here) Take.here ha (.inr ⟨_, _, _, _, rfl, rfl⟩) h0 (fun _ => by rw [Nat.mul_one]; exact take_bytes hx)
    (by rw [Nat.zero_add, Nat.mul_one]; exact take_bytes hx) (by omega) (by omega) rfl
  rw [Nat.zero_add] at q2 q3
  have q4 := (q3.byP hx).perm (List.Perm.swap _ _ _)
  exact p1.do ⟨q1, q2, (q4.byP hx).perm (List.Perm.swap _ _ _)⟩)

end
end Go.Proofs.Ytjdemlagmamlbaa
