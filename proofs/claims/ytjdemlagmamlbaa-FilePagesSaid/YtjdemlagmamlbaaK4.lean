/- Slices: bytes, append, copy. -/
import Derived.Test.YtjdemlagmamlbaaK2
namespace Go.Proofs.Ytjdemlagmamlbaa

theorem bput_lt {n off m v l : Nat} (hn : n < 2 ^ (8 * l)) (h : off + m ≤ l) : bput n off m v < 2 ^ (8 * l) := by
  apply Nat.lt_pow_two_of_testBit
  intro i hi
  rw [bput_testBit, if_neg (by omega), if_neg (by omega)]
  exact Nat.testBit_lt_two_pow (Nat.lt_of_lt_of_le hn (Nat.pow_le_pow_right (by decide) hi))
theorem bsub_lt {n off l : Nat} : bsub n off l < 2 ^ (8 * l) := Nat.mod_lt _ (Nat.two_pow_pos _)
theorem bsub_testBit (n off l i : Nat) : (bsub n off l).testBit i = (decide (i < 8 * l) && n.testBit (8 * off + i)) := by
  unfold bsub
  rw [Nat.testBit_mod_two_pow, Nat.testBit_shiftRight]

/-- written behind a run: the run is longer -/
theorem Dat.put_take {D d d' d'' : Dat} {off n : Nat} (ht : D.take off n = some d) (ha : d.app d' = some d'') (hl : off + n + d'.len ≤ D.len) (hk : (∃ a b c, D = .vals a ∧ d = .vals b ∧ d' = .vals c) ∨ (∃ l a b c m e, D = .bytes l a ∧ d = .bytes b c ∧ d' = .bytes m e)) :
    ∃ D', D.put (off + n) d' = some D' ∧ D'.len = D.len ∧ D'.take off (n + d'.len) = some d'' := by
  rcases hk with ⟨a, b, c, rfl, rfl, rfl⟩ | ⟨l, a, b, c, m, e, rfl, rfl, rfl⟩
  · simp only [Dat.take] at ht
    split at ht
    · cases ht
      simp only [Dat.app, Option.some.injEq] at ha
      subst ha
      simp only [Dat.len] at hl
      refine ⟨.vals (a.take (off + n) ++ c ++ a.drop (off + n + c.length)), by simp only [Dat.put]; rw [if_pos hl], by simp [Dat.len]; omega, ?_⟩
      show Dat.take (.vals (a.take (off + n) ++ c ++ a.drop (off + n + c.length))) off (n + c.length) = _
      simp only [Dat.take]
      rw [if_pos (by simp; omega)]
      congr 2
      rw [List.take_add (l := a), List.append_assoc, List.append_assoc, List.drop_left' (by simp; omega), ← List.append_assoc, List.take_left' (by simp; omega)]
    · cases ht
  · simp only [Dat.take] at ht
    split at ht
    · cases ht
      simp only [Dat.app, Option.some.injEq] at ha
      subst ha
      simp only [Dat.len] at hl
      refine ⟨.bytes l (bput a (off + n) m e), by simp only [Dat.put]; rw [if_pos hl], rfl, ?_⟩
      show Dat.take (.bytes l (bput a (off + n) m e)) off (n + m) = _
      simp only [Dat.take]
      rw [if_pos (by omega)]
      congr 2
      apply Nat.eq_of_testBit_eq
      intro i
      rw [bsub_testBit, bput_testBit, bput_testBit, bsub_testBit, bsub_testBit]
      by_cases h1 : i < 8 * n
      · rw [if_pos (by omega), if_pos (by omega)]
        simp [show i < 8 * (n + m) by omega, h1]
      · by_cases h2 : i < 8 * (n + m)
        · rw [if_neg (by omega), if_pos (by omega), if_neg (by omega), if_pos (by omega)]
          simp only [h2, decide_true, Bool.true_and]; congr 1; omega
        · rw [if_neg (by omega), if_neg (by omega), if_neg (by omega), if_neg (by omega)]; simp [h1, h2]
    · cases ht

section
variable {h : AHeap} {L R R' : List Chunk} {s x v : AV} {e es b k m : Nat} {d d' d'' : Dat} {w : Bool} {C : SemW}

theorem SlIs.sliceDat {cs : List Chunk} (y : SlIs v e es k d w cs) (st : St h (cs ++ L)) : ∃ d0, sliceDat h es v = some d0 ∧ (k ≠ 0 → d0 = d) ∧ d0.len = k * es := by
  rcases y with ⟨rfl, rfl, hl, _⟩ | ⟨rfl, rfl, hl, _⟩ | ⟨id, off, cap, D, e', es', sf, rfl, rfl, h3, _⟩ | ⟨id, idx, D, rfl, rfl, h3, _⟩
  · exact ⟨_, rfl, fun h => absurd rfl h, by simp [Dat.len]⟩
  · exact ⟨_, rfl, fun h => absurd rfl h, by simp [Dat.len]⟩
  · exact ⟨d, by simp only [Go.Proofs.Ytjdemlagmamlbaa.sliceDat, st.get, h3], fun _ => rfl, (Dat.take_spec h3).1⟩
  · exact ⟨d, by simp only [Go.Proofs.Ytjdemlagmamlbaa.sliceDat, st.get, h3, if_true], fun _ => rfl, (Dat.take_spec h3).1⟩

def Alike (d d' : Dat) : Prop := (∃ a b, d = .vals a ∧ d' = .vals b) ∨ (∃ a b c e, d = .bytes a b ∧ d' = .bytes c e)

theorem Dat.take_alike {D d : Dat} {off n : Nat} (h : D.take off n = some d) : Alike D d := by
  unfold Dat.take at h
  split at h
  · split at h
    · cases h; exact .inl ⟨_, _, rfl, rfl⟩
    · cases h
  · split at h
    · cases h; exact .inr ⟨_, _, _, _, rfl, rfl⟩
    · cases h

section
variable {h : AHeap} {e es b k : Nat} {new : Dat}
theorem ap_nil0 : appendTo h e es b .nilsl new 0 = some (.nilsl, h) := rfl
theorem ap_ssl0 {id idx es' len : Nat} : appendTo h e es b (.ssl id idx es' len) new 0 = some (.ssl id idx es' len, h) := rfl
theorem ap_sl0 {id off len cap : Nat} (hc : len ≤ cap) : appendTo h e es b (.sl id off len cap) new 0 = some (.sl id off len cap, h) := by
  show (if len ≤ cap then _ else _) = _
  rw [if_pos hc]
theorem ap_nil (hk : k ≠ 0) : appendTo h e es b .nilsl new k = if k * b ≤ 2 ^ 40 ∧ k ≤ 2 ^ 40 ∧ new.len = k * es then (newRow' h e es true new).map fun h' => (.ssl h.next 0 es k, h') else none := by
  unfold appendTo; rw [if_neg hk]
theorem ap_sl {id off len cap elem' es' : Nat} {soft ro : Bool} {d : Dat} (hk : k ≠ 0) (hg : h.get id = some (.row elem' es' soft ro d)) : appendTo h e es b (.sl id off len cap) new k = if len + k ≤ cap then
        if ro then none else (d.put (off + len * es) new).map fun d' => (.sl id off (len + k) cap, h.put id (.row elem' es' soft ro d'))
      else if (len + k) * b ≤ 2 ^ 40 ∧ len + k ≤ 2 ^ 40 ∧ new.len = k * es then
        (d.take off (len * es)).bind fun old => (old.app new).bind fun all =>
          (newRow' h e es true all).map fun h' => (.ssl h.next 0 es (len + k), h')
      else none := by
  unfold appendTo; rw [if_neg hk]; simp only [hg]
theorem ap_ssl {id idx len elem' es' es'' : Nat} {d : Dat} (hk : k ≠ 0) (hg : h.get id = some (.row elem' es'' true false d)) : appendTo h e es b (.ssl id idx es' len) new k = if es' = es ∧ es'' = es ∧ elem' = e ∧ 0 < es then
        if (idx + len + k) * es ≤ d.len then
          (d.put ((idx + len) * es) new).map fun d' => (.ssl id idx es (len + k), h.put id (.row elem' es'' true false d'))
        else if (idx + len) * es = d.len ∧ (len + k) * b ≤ 2 ^ 40 ∧ len + k ≤ 2 ^ 40 ∧ new.len = k * es then
          (d.take (idx * es) (len * es)).bind fun old => (old.app new).bind fun all =>
            (newRow' (h.kill id) e es true all).map fun h' => (.ssl h.next 0 es (len + k), h')
        else none
      else none := by
  unfold appendTo; rw [if_neg hk]; simp only [hg]
end

/-- APPEND: the slice is used up. -/
theorem d_append {z : Dat} (st : St h L) (t : Take L (SlC s e es k d true) R) (t' : Take R (SlC x e es m d' w) R') (ha : d.app d' = some d'') (hal : Alike d d') (h0 : m = 0 → d'' = d) (hnil : k = 0 → d'.take 0 (m * es) = some d'')
    (hfull : d''.take 0 ((k + m) * es) = some d'') (hb : (k + m) * b ≤ 2 ^ 40) (hk : k + m ≤ 2 ^ 40) (hes : Nat.blt 0 es = true) :
    ∃ v h', Does (.append e es b z) [s, x] h v h' ∧ v.notJunk = some v ∧ sliceLen v = some (k + m) ∧ St h' (SlC v e es (k + m) d'' true :: SlC x e es m d' w :: R') := by
  have hlt := blt_of hes
  have hx := (st.take t).perm (List.Perm.cons _ t'.perm)
  have hlx := (((st.take t).drop).slc t').1
  have hsx : ∃ d0, sliceDat h es x = some d0 ∧ (m ≠ 0 → d0 = d') ∧ d0.len = m * es := by
    obtain ⟨cs, y, st'⟩ := (((st.take t).drop).take t').unpack
    exact y.sliceDat st'
  obtain ⟨d0, hd0, hdm, hl0⟩ := hsx
  obtain ⟨cs, y, st'⟩ := hx.unpack
  have hd' : d'.len = m * es := (((st.take t).drop).slc t').2.2
  by_cases hm : m = 0
  · subst hm
    have e0 := h0 rfl
    subst e0
    refine ⟨s, h, ⟨rfl, ?_⟩, y.nj, y.len, St.pack st' y⟩
    simp only [aop, hlx, hd0]
    rcases y with ⟨rfl, _⟩ | ⟨rfl, _⟩ | ⟨id, off, cap, D, e', es', sf, rfl, _, _, hc, _⟩ | ⟨id, idx, D, rfl, _⟩
    · rfl
    · rfl
    · exact ap_sl0 hc
    · rfl
  · have e0 := hdm hm
    subst e0
    have hlen : d''.len = (k + m) * es := (Dat.take_spec hfull).1
    rcases y with ⟨rfl, rfl, hl, rfl⟩ | ⟨rfl, rfl, _, _, hw⟩ | ⟨id, off, cap, D, e', es', sf, rfl, rfl, h3, hc, hw⟩ | ⟨id, idx, D, rfl, rfl, h3, hw, hfl⟩
    · have hn := hnil rfl
      refine ⟨.ssl h.next 0 es m, h.new (.row e es true false d0), ⟨rfl, ?_⟩, rfl, by simp [sliceLen], ?_⟩
      · simp only [aop, hlx, hd0, ap_nil hm, newRow']
        rw [if_pos ⟨by simpa using hb, by simpa using hk, hd'⟩, if_pos hlt]; rfl
      · refine St.pack (cs := [.pt h.next (.row e es true false d0)]) (st'.new _) (.inr (.inr (.inr ⟨h.next, 0, d0, by simp, rfl, by simpa using hn, rfl, by simp [hd']⟩)))
    · cases hw
    · have hw' := hw rfl
      by_cases hcap : k + m ≤ cap
      · have hkk : k * es + m * es ≤ cap * es := by rw [← Nat.add_mul]; exact Nat.mul_le_mul_right _ hcap
        obtain ⟨D', p1, p2, p3⟩ := Dat.put_take h3 ha (by rw [hd']; omega) (by
          rcases hal with ⟨a, b, rfl, rfl⟩ | ⟨a, b, c, g, rfl, rfl⟩
          · rcases Dat.take_alike h3 with ⟨a', b', rfl, h⟩ | ⟨_, _, _, _, _, h⟩
            · exact .inl ⟨_, _, _, rfl, rfl, rfl⟩
            · cases h
          · rcases Dat.take_alike h3 with ⟨_, _, _, h⟩ | ⟨_, _, _, _, rfl, h⟩
            · cases h
            · exact .inr ⟨_, _, _, _, _, _, rfl, rfl, rfl⟩)
        refine ⟨.sl id off (k + m) cap, h.put id (.row e' es' sf false D'), ⟨rfl, ?_⟩, rfl, rfl, ?_⟩
        · simp only [aop, hlx, hd0, ap_sl hm st'.get]
          rw [if_pos hcap]
          simp only [Bool.not_true, Bool.false_eq_true, if_false, p1, Option.map_some]
        · refine St.pack (cs := [.pt id (.row e' es' sf false D')]) (st'.put _) (.inr (.inr (.inl ⟨id, off, cap, D', e', es', sf, rfl, rfl, ?_, hcap, fun _ => by rw [p2]; exact hw'⟩)))
          rw [Nat.add_mul, ← hd']; exact p3
      · refine ⟨.ssl h.next 0 es (k + m), h.new (.row e es true false d''), ⟨rfl, ?_⟩, rfl, rfl, ?_⟩
        · simp only [aop, hlx, hd0, ap_sl hm st'.get]
          rw [if_neg hcap, if_pos ⟨hb, hk, hd'⟩]
          simp only [h3, Option.bind_some, ha, newRow']
          rw [if_pos hlt]; rfl
        · refine St.pack (cs := [.pt h.next (.row e es true false d'')]) (st'.drop.new _) (.inr (.inr (.inr ⟨h.next, 0, d'', rfl, rfl, by simpa using hfull, rfl, by simp [hlen]⟩)))
    · refine ⟨.ssl h.next 0 es (k + m), (h.kill id).new (.row e es true false d''), ⟨rfl, ?_⟩, rfl, rfl, ?_⟩
      · simp only [aop, hlx, hd0, ap_ssl hm st'.get]
        have hmm : es ≤ m * es := Nat.le_mul_of_pos_left _ (by omega)
        rw [if_pos ⟨trivial, trivial, trivial, hlt⟩, if_neg (by rw [Nat.add_mul, hfl]; omega), if_pos ⟨hfl, hb, hk, hd'⟩]
        simp only [h3, Option.bind_some, ha, newRow']
        rw [if_pos hlt]; rfl
      · exact St.pack (cs := [.pt h.next (.row e es true false d'')]) (St.new (st'.kill) _) (.inr (.inr (.inr ⟨h.next, 0, d'', rfl, rfl, by simpa using hfull, rfl, by simp [hlen]⟩)))

theorem e_append {z : Dat} (st : St h L) (t : Take L (SlC s e es k d true) R) (t' : Take R (SlC x e es m d' w) R') (ha : d.app d' = some d'') (hal : Alike d d') (h0 : m = 0 → d'' = d) (hnil : k = 0 → d'.take 0 (m * es) = some d'')
    (hfull : d''.take 0 ((k + m) * es) = some d'') (hb : (k + m) * b ≤ 2 ^ 40) (hk : k + m ≤ 2 ^ 40) (hes : Nat.blt 0 es = true) :
    Eff C (.append e es b z) [s, x] h fun v h' => v.notJunk = some v ∧ sliceLen v = some (k + m) ∧ St h' (SlC v e es (k + m) d'' true :: SlC x e es m d' w :: R') := .mk (by
  obtain ⟨v, h', h1, h2⟩ := d_append (z := z) st t t' ha hal h0 hnil hfull hb hk hes
  exact h1.do h2)

end
end Go.Proofs.Ytjdemlagmamlbaa
