/- Soundness of the operations: append, clear. -/
import Derived.Test.YtjdemlagmamlbaaM12
namespace Go.Proofs.Ytjdemlagmamlbaa
variable {Λ : Lam}

section
variable {P : Program} {o : Oper} {ρ : Operand → Value} {μ : Mu} {h h' : AHeap} {w : World} {args : List AV} {r : AV}

/-- AN OBJECT GIVES ITS BLOCK TO A NEW ONE. -/
theorem Rel.move (hr : Rel Λ μ h w) {id : Nat} {o o' : AObj} {l l' : Loc} {w' : World} (hid : h.get id = some o) (hrw : o.rw = true) (hl : μ id = some l) (hl' : l'.block = l.block)
    (hw : Only l.block w w') (ho : ∀ μ', Ext μ μ' → ObjR Λ μ' w' l' o') :
    Rel Λ (μ.with h.next l') ((h.kill id).new o') w' ∧ Step μ h w (μ.with h.next l') ((h.kill id).new o') w' := by
  have hno : μ h.next = none := by
    cases e : μ h.next with
    | none => rfl
    | some k => have := (hr.dom _ _ e).1; omega
  have hext : Ext μ (μ.with h.next l') := Ext.with l' hno
  have hidn : id < h.next := (hr.dom _ _ hl).1
  have hlb := (hr.dom _ _ hl).2
  have hget : ∀ i, i ≠ h.next → i ≠ id → ((h.kill id).new o').get i = h.get i := fun i hi hj => by
    rw [AHeap.get_new_ne _ _ (show (h.kill id).next ≠ i from fun e => hi e.symm), AHeap.get_kill_ne h (fun e => hj e.symm)]
  have hgid : ((h.kill id).new o').get id = none := by
    rw [AHeap.get_new_ne _ _ (show (h.kill id).next ≠ id from fun e => by have : h.next = id := e; omega), AHeap.get_kill_same h id]
  have hgn : ((h.kill id).new o').get h.next = some o' := AHeap.get_new_same (h.kill id) o'
  refine ⟨⟨fun i oi e => ?_, fun i j oi oj li lj hi hj hne hrwi hli hlj => ?_, fun i k e => ?_⟩,
    ⟨hext, by simp [AHeap.new, AHeap.kill], fun i hi => Mu.with_ne _ _ (by omega), hw.os, hw.tape, hw.output, by rw [hw.size]; exact Nat.le_refl _, fun b _ hf => hw.rest b (fun e => hf id o l hid hrw hl e.symm), fun i oi k e hrwi hk => ?_⟩⟩
  · by_cases h1 : i = h.next
    · subst h1
      rw [hgn] at e; cases e
      exact ⟨l', Mu.with_same _ _ _, ho _ hext⟩
    · by_cases h2 : i = id
      · subst h2; rw [hgid] at e; cases e
      · rw [hget i h1 h2] at e
        obtain ⟨k, hk, hok⟩ := hr.obj i oi e
        refine ⟨k, by rw [Mu.with_ne _ _ h1]; exact hk, ObjR.ext hext hok (hw.rest _ fun e' => ?_)⟩
        exact hr.inj id i o oi l k hid e (fun e => h2 e.symm) hrw hl hk e'.symm
  · have hjid : j ≠ id := fun e => by subst e; rw [hgid] at hj; cases hj
    have hiid : i ≠ id := fun e => by subst e; rw [hgid] at hi; cases hi
    by_cases h1 : i = h.next
    · subst h1
      rw [Mu.with_same] at hli; cases hli
      rw [Mu.with_ne _ _ (fun e => hne e.symm)] at hlj
      rw [hget j (fun e => hne e.symm) hjid] at hj
      rw [hl']
      exact hr.inj id j o oj l lj hid hj (fun e => hjid e.symm) hrw hl hlj
    · rw [hget i h1 hiid] at hi
      rw [Mu.with_ne _ _ h1] at hli
      by_cases h2 : j = h.next
      · subst h2
        rw [Mu.with_same] at hlj; cases hlj
        rw [hl']
        exact hr.inj i id oi o li l hi hid hiid hrwi hli hl
      · rw [hget j h2 hjid] at hj
        rw [Mu.with_ne _ _ h2] at hlj
        exact hr.inj i j oi oj li lj hi hj hne hrwi hli hlj
  · by_cases h1 : i = h.next
    · subst h1
      rw [Mu.with_same] at e; cases e
      simp only [AHeap.new, AHeap.kill, hl', hw.size]
      omega
    · rw [Mu.with_ne _ _ h1] at e
      have := hr.dom _ _ e
      simp only [AHeap.new, AHeap.kill, hw.size]
      omega
  · by_cases h1 : i = h.next
    · subst h1
      rw [Mu.with_same] at hk; cases hk
      exact .inr ⟨id, o, l, hid, hrw, hl, hl'.symm⟩
    · have h2 : i ≠ id := fun e' => by subst e'; rw [hgid] at e; cases e
      rw [hget i h1 h2] at e
      rw [Mu.with_ne _ _ h1] at hk
      exact .inr ⟨i, oi, k, e, hrwi, hk, rfl⟩

theorem growBy_le (n : Nat) : ∀ (rounds c : Nat), c ≤ n + (n + 768) / 4 → Builtin.growBy n rounds c ≤ n + (n + 768) / 4
  | 0, c, h => h
  | k + 1, c, h => by
    simp only [Builtin.growBy]
    split
    · exact h
    · exact growBy_le n k _ (by omega)

theorem next_le {need old : Nat} (h : old < need) : Builtin.nextslicecap need old ≤ 2 * need + 192 := by
  unfold Builtin.nextslicecap
  split
  · omega
  · split
    · omega
    · have := growBy_le need 4 old (by omega); omega

theorem next_room {need old b : Nat} (h : old < need) (hb : need * b ≤ 2 ^ 40) : ¬ Builtin.nextslicecap need old * b > 2 ^ 48 := by
  have h1 := next_le h
  have h2 : Builtin.nextslicecap need old * b ≤ (2 * need + 192) * b := Nat.mul_le_mul_right b h1
  have h3 : b ≤ need * b := Nat.le_mul_of_pos_left b (by omega)
  rw [Nat.add_mul, Nat.mul_assoc] at h2
  omega

/-- what append does behind its operands -/
def appTail (elem size bytes : Nat) (base : Option Addr) (sLen sCap n : Nat) (appended : Sem (Array Value)) : Sem Value := do
  let need := sLen + n
  if need ≤ sCap then
    let new ← appended
    if let some a := base then storeCells (a.add (sLen * size)) new.toList
    pure (.slice base need sCap)
  else
    let newCap ← choose (.appendCap need sCap elem)
    askRoom (newCap * bytes)
    let old ← Builtin.firstCells size sLen (.slice base sLen sCap)
    let new ← appended
    let rest := Builtin.zeroCells (← zeroValue elem).cells (newCap - need)
    pure (.slice (some (← newRow elem (old ++ new ++ rest))) need newCap)

/-- a new row behind a draw: what lay there, what comes, and noughts -/
theorem app_new {elem es bytes : Nat} {d new all : Dat} {base : Option Addr} {sLen sCap k : Nat} {appended : Sem (Array Value)} {cs old : List Value} {i : TypeInfo} {zv : Value} {h₀ : AHeap} {h1 : AHeap}
    (hr : Rel Λ μ h w) (hn : newRow' h₀ elem es true all = some h1) (hnext : h₀.next = h.next) (hkill : ∀ μ' w', Rel Λ μ' h w' → Rel Λ μ' h₀ w' ∧ Step μ' h w' μ' h₀ w')
    (hi : P.info? elem = some i) (hz : i.zero = some zv) (hzs : zv.cells.size = es) (hgt : ¬ sLen + k ≤ sCap)
    (hold : ∀ d', (Builtin.firstCells es sLen (.slice base sLen sCap)).run P { w with drawn := d' } = .ok old.toArray { w with drawn := d' }) (hod : DatC μ d old) (hdl : d.len = sLen * es)
    (happ : ∀ d', appended.run P { w with drawn := d' } = .ok cs.toArray { w with drawn := d' }) (hcs : DatC μ new cs) (hnl : new.len = k * es) (hall : d.app new = some all) :
    ∃ μ' w' cv, (appTail elem es bytes base sLen sCap k appended).run P w = .ok cv w' ∧ VR μ' (.ssl h.next 0 es (sLen + k)) cv ∧ Rel Λ μ' h1 w' ∧ Step μ h w μ' h1 w' := by
  obtain ⟨newCap, hcap, hch⟩ : ∃ newCap, sLen + k ≤ newCap ∧ (choose (.appendCap (sLen + k) sCap elem)).run P w = .ok newCap { w with drawn := w.drawn + 1 } := by
    refine ⟨_, ?_, by simp only [run_choose, Question.forced, Bool.false_eq_true, if_false]; rfl⟩
    simp only [Question.cut]; omega
  obtain ⟨wd, hwd⟩ : ∃ wd : World, wd = { w with drawn := w.drawn + 1 } := ⟨_, rfl⟩
  have hrd : Rel Λ μ h wd := by rw [hwd]; exact hr.drew _
  have hsd : Step μ h w μ h wd := by rw [hwd]; exact Step.drew _ _ _ _
  obtain ⟨hr0, hs0⟩ := hkill μ wd hrd
  have hda := hod.app hcs hall
  have hal : all.len = (sLen + k) * es := by rw [Dat.app_len hall, hdl, hnl, Nat.add_mul]
  have hzc : (Builtin.zeroCells zv.cells (newCap - (sLen + k))).size = (newCap - (sLen + k)) * es := by simp [Builtin.zeroCells, hzs]
  have hsz : (old.toArray ++ cs.toArray ++ Builtin.zeroCells zv.cells (newCap - (sLen + k))).size = newCap * es := by
    have h1 := hod.1
    have h2 := hcs.1
    simp only [Array.size_append, List.size_toArray, hzc, h1, h2, hdl, hnl]
    rw [← Nat.add_mul, ← Nat.add_mul]
    congr 1; omega
  have hle : (sLen + k) * es ≤ newCap * es := Nat.mul_le_mul_right es hcap
  have hdp : DatP μ all (old.toArray ++ cs.toArray ++ Builtin.zeroCells zv.cells (newCap - (sLen + k))).toList := by
    have := hda.pre (Builtin.zeroCells zv.cells (newCap - (sLen + k))).toList
    simpa using this
  obtain ⟨p, q, s⟩ := new_row (P := P) hr0 hn hdp newCap hsz (by omega) (by simp)
  rw [hnext] at q s
  refine ⟨_, _, .slice (some ⟨wd.heap.size, 0, none⟩) (sLen + k) newCap, ?_, by simp only [VR]; exact ⟨_, Mu.with_same _ _ _, by show 0 + (sLen + k) ≤ newCap; omega, by simp⟩, q, hsd.trans (hs0.trans s)⟩
  have hold' := hold (w.drawn + 1)
  have happ' := happ (w.drawn + 1)
  rw [← hwd] at hold' happ' hch
  simp only [appTail, hgt, if_false, Sem.run_bind, hch, Result.andThen_ok, run_askRoom, hold', happ', run_zero hi hz, p, Sem.run_pure]

theorem app_in {elem es bytes : Nat} {base : Option Addr} {a : Addr} {sLen sCap k : Nat} {appended : Sem (Array Value)} {cs : List Value} {w' : World} (hle : sLen + k ≤ sCap) (hb : base = some a) (happ : appended.run P w = .ok cs.toArray w)
    (hst : (storeCells (a.add (sLen * es)) cs).run P w = .ok () w') : (appTail elem es bytes base sLen sCap k appended).run P w = .ok (.slice base (sLen + k) sCap) w' := by
  subst hb
  simp only [appTail, hle, if_true, Sem.run_bind, happ, Result.andThen_ok, hst, Sem.run_pure]

theorem append_core {elem es bytes : Nat} {s : AV} {new : Dat} {base : Option Addr} {sLen sCap k : Nat} {appended : Sem (Array Value)} {cs : List Value} {i : TypeInfo} {zv : Value}
    (hr : Rel Λ μ h w) (e : appendTo h elem es bytes s new k = some (r, h')) (v : VR μ s (.slice base sLen sCap)) (hi : P.info? elem = some i) (hz : i.zero = some zv) (hzs : zv.cells.size = es)
    (happ : ∀ d', appended.run P { w with drawn := d' } = .ok cs.toArray { w with drawn := d' }) (hcs : DatC μ new cs) (hnl : new.len = k * es) :
    (∃ μ' w' cv, (appTail elem es bytes base sLen sCap k appended).run P w = .ok cv w' ∧ VR μ' r cv ∧ Rel Λ μ' h' w' ∧ Step μ h w μ' h' w') ∧ (sLen + k ≤ sCap ∨ ((sLen + k) * bytes ≤ 2 ^ 40 ∧ sLen + k ≤ 2 ^ 40)) := by
  have happ0 : appended.run P w = .ok cs.toArray w := happ w.drawn
  unfold appendTo at e
  split at e
  · rename_i hk
    subst hk
    have hc0 : cs = [] := List.length_eq_zero_iff.1 (by rw [hcs.1, hnl]; simp)
    subst hc0
    have fin : sLen ≤ sCap → r = s → h' = h → (∃ μ' w' cv, (appTail elem es bytes base sLen sCap 0 appended).run P w = .ok cv w' ∧ VR μ' r cv ∧ Rel Λ μ' h' w' ∧ Step μ h w μ' h' w') ∧ (sLen + 0 ≤ sCap ∨ ((sLen + 0) * bytes ≤ 2 ^ 40 ∧ sLen + 0 ≤ 2 ^ 40)) := by
      intro hle e1 e2
      subst e1 e2
      refine ⟨⟨μ, w, _, ?_, v, hr, Step.refl μ _ w⟩, .inl (by omega)⟩
      cases base with
      | none => simp only [appTail, Nat.add_zero, hle, if_true, Sem.run_bind, happ0, Result.andThen_ok, Sem.run_pure]
      | some a => exact app_in (by omega) rfl happ0 (by simp [storeCells])
    split at e
    · split at e
      · cases e
        rename_i hle
        simp only [VR] at v; obtain ⟨l, _, hv⟩ := v
        cases hv
        exact fin hle rfl rfl
      · cases e
    · cases e
      simp only [VR] at v; obtain ⟨l, _, hle, hv⟩ := v; cases hv
      exact fin (by omega) rfl rfl
    · cases e
      simp only [VR] at v; cases v
      exact fin (by omega) rfl rfl
    · cases e
      simp only [VR] at v; obtain ⟨a, c, hv⟩ := v; cases hv
      exact fin (by omega) rfl rfl
    · cases e
  · rename_i hk
    split at e
    · split at e
      · rename_i hc
        cases hn : newRow' h elem es true new with
        | none => rw [hn] at e; cases e
        | some h1 =>
          rw [hn] at e; cases e
          simp only [VR] at v; cases v
          refine ⟨?_, .inr (by simpa using ⟨hc.1, hc.2.1⟩)⟩
          have := app_new (P := P) (d := .vals []) (new := new) (all := new) (base := none) (sLen := 0) (sCap := 0) (k := k) (bytes := bytes) (old := []) hr hn rfl (fun μ' w' hr' => ⟨hr', Step.refl _ _ _⟩) hi hz hzs (by omega) (fun d' => by simp [Builtin.firstCells]) ⟨rfl, fun i x hx => by simp [Dat.get] at hx⟩ (by simp [Dat.len]) happ hcs hnl (by cases new <;> simp [Dat.app])
          simpa using this
      · cases e
    · rename_i id off len cap
      split at e
      · rename_i e0 es0 soft ro d hg
        simp only [VR] at v; obtain ⟨l, hl, hv⟩ := v
        cases hv
        split at e
        · rename_i hle
          split at e
          · cases e
          · rename_i hro
            have hro : ro = false := by simpa using hro
            subst hro
            cases hp : d.put (off + sLen * es) new with
            | none => rw [hp] at e; cases e
            | some d' =>
              rw [hp] at e; cases e
              obtain ⟨w', p, q, st⟩ := put_row (P := P) hr hg hl hp hcs
              refine ⟨⟨μ, w', _, app_in hle rfl happ0 ?_, by simp only [VR]; exact ⟨l, hl, rfl⟩, q, st⟩, .inl hle⟩
              rw [add_at, Nat.add_assoc]; exact p
        · rename_i hgt
          split at e
          · rename_i hc
            cases ht : d.take off (sLen * es) with
            | none => rw [ht] at e; cases e
            | some od =>
              rw [ht] at e
              simp only [Option.bind_some] at e
              cases ha : od.app new with
              | none => rw [ha] at e; cases e
              | some all =>
                rw [ha] at e
                simp only [Option.bind_some] at e
                cases hn : newRow' h elem es true all with
                | none => rw [hn] at e; cases e
                | some h1 =>
                  rw [hn] at e; cases e
                  refine ⟨?_, .inr ⟨hc.1, hc.2.1⟩⟩
                  obtain ⟨l', hl', hrow⟩ := hr.row hg
                  rw [hl] at hl'; cases hl'
                  obtain ⟨cs0, p0, q0⟩ := hrow.take ht P
                  exact app_new (P := P) hr hn rfl (fun μ' w' hr' => ⟨hr', Step.refl _ _ _⟩) hi hz hzs hgt (fun d' => by simp only [Builtin.firstCells]; exact p0 _ rfl) q0 (Dat.take_spec ht).1 happ hcs hnl ha
          · cases e
      · cases e
    · rename_i id idx es' len
      split at e
      · rename_i e0 es0 d hg
        split at e
        · rename_i hes
          obtain ⟨k1, k2, k3, hes0⟩ := hes
          have k1 := k1.symm; have k2 := k2.symm; have k3 := k3.symm
          subst k1 k2 k3
          simp only [VR] at v; obtain ⟨l, hl, hcap, hv⟩ := v
          cases hv
          obtain ⟨l', hl', hrow⟩ := hr.row hg
          rw [hl] at hl'; cases hl'
          split at e
          · rename_i hle
            cases hp : d.put ((idx + sLen) * es) new with
            | none => rw [hp] at e; cases e
            | some d' =>
              rw [hp] at e; cases e
              obtain ⟨w', p, q, st⟩ := put_row (P := P) hr hg hl hp hcs
              have hdl : d.len ≤ l.cap * es := (hrow.choose_spec.choose_spec.2.2 rfl).2.2.1
              have hfit : idx + sLen + k ≤ l.cap := by
                have h1 : (idx + sLen + k) * es ≤ l.cap * es := Nat.le_trans hle hdl
                exact Nat.le_of_mul_le_mul_right h1 hes0
              refine ⟨⟨μ, w', _, app_in (by omega) rfl happ0 ?_, by simp only [VR]; exact ⟨l, hl, by omega, rfl⟩, q, st⟩, .inl (by omega)⟩
              rw [add_at]
              have : l.off + idx * es + sLen * es = l.off + (idx + sLen) * es := by rw [Nat.add_mul]; omega
              rw [this]; exact p
          · split at e
            · rename_i hc
              obtain ⟨hend, hb40, hk40, hnl'⟩ := hc
              cases ht : d.take (idx * es) (sLen * es) with
              | none => rw [ht] at e; cases e
              | some od =>
                rw [ht] at e
                simp only [Option.bind_some] at e
                cases ha : od.app new with
                | none => rw [ha] at e; cases e
                | some all =>
                  rw [ha] at e
                  simp only [Option.bind_some] at e
                  cases hn : newRow' (h.kill id) elem es true all with
                  | none => rw [hn] at e; cases e
                  | some h1 =>
                    rw [hn] at e; cases e
                    refine ⟨?_, .inr ⟨hb40, hk40⟩⟩
                    obtain ⟨cs0, p0, q0⟩ := hrow.take ht P
                    by_cases hfits : sLen + k ≤ l.cap - idx
                    · have hnx := newRow_with hn
                      obtain ⟨c, fr, pb, pc, pr⟩ := hrow
                      obtain ⟨rfl, hsz, hdl, _⟩ := pr rfl
                      obtain ⟨t1, t2, t3⟩ := Dat.take_spec ht
                      have hcapm : (idx + sLen + k) * es ≤ l.cap * es := Nat.mul_le_mul_right es (by omega)
                      have hexp : (idx + sLen + k) * es = idx * es + sLen * es + k * es := by rw [Nat.add_mul, Nat.add_mul]
                      obtain ⟨w', c', r1, r2, r3, r4, r5⟩ := run_storeCells P l.block (l.off + (idx * es + sLen * es)) elem cs 0 w c pb hcs.cells (by rw [hcs.1, hnl]; omega)
                      have hmv := hr.move (o' := .row elem es true false all) (l' := ⟨l.block, l.off + idx * es, l.cap - idx⟩) hg rfl hl rfl r5 (fun μ' hext => by
                        refine ⟨c', (0, 0), r2, fun i x hx => ?_, fun _ => ⟨rfl, ?_, ?_, by simp⟩⟩
                        · have hi' : i < od.len + new.len := by rw [← Dat.app_len ha]; exact Dat.get_lt hx
                          by_cases hio : i < od.len
                          · rw [Dat.app_left ha i hio, t3 i (by omega)] at hx
                            obtain ⟨y, a1, a2, a3⟩ := pc _ _ hx
                            refine ⟨y, ?_, VR.ext hext _ _ a2, a3⟩
                            rw [r4, if_neg (by simp only; omega), ← a1]
                            congr 1; simp only; omega
                          · rw [Dat.app_right ha i (by omega)] at hx
                            obtain ⟨y, a1, a2, a3⟩ := hcs.2 _ _ hx
                            refine ⟨y, ?_, VR.ext hext _ _ a2, a3⟩
                            rw [r4, if_pos (by rw [hcs.1]; simp only; omega), ← a1]
                            congr 1; simp only; omega
                        · rw [r3, hsz]; simp only; rw [Nat.sub_mul]; have : idx * es ≤ l.cap * es := Nat.mul_le_mul_right es (by omega); omega
                        · rw [Dat.app_len ha, t1, hnl]; simp only; rw [Nat.sub_mul]; omega)
                      rw [hnx]
                      refine ⟨_, w', _, app_in hfits rfl happ0 ?_, by simp only [VR]; exact ⟨_, Mu.with_same _ _ _, by show 0 + (sLen + k) ≤ l.cap - idx; omega, by simp⟩, hmv.1, hmv.2⟩
                      rw [add_at, Nat.add_assoc]; exact r1
                    · refine app_new (P := P) hr hn rfl (fun μ' w' hr' => hr'.kill hg) hi hz hzs hfits (fun d' => by simp only [Builtin.firstCells]; exact p0 _ rfl) q0 (Dat.take_spec ht).1 happ hcs hnl ha
            · cases e
        · cases e
      · cases e
    · cases e

end
end Go.Proofs.Ytjdemlagmamlbaa
