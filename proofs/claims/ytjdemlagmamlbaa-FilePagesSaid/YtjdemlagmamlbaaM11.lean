/- Soundness of the operations: composite values, make, maps. -/
import Derived.Test.YtjdemlagmamlbaaM10
import Derived.IntWalk
import Derived.WideKeyRuns
namespace Go.Proofs.Ytjdemlagmamlbaa
variable {Λ : Lam}

section
variable {P : Program} {o : Oper} {ρ : Operand → Value} {μ : Mu} {h h' : AHeap} {w : World} {args : List AV} {r : AV}

theorem run_sizes {α : Type} (w : World) (g : Nat → Nat → α) : ∀ (fs : List Field), sizesT P fs = true → (fs.mapM fun f => (do pure (g f.offset (← sizeOf f.type)) : Sem α)).run P w = .ok (fs.map fun f => g f.offset ((sizeT P f.type).getD 0)) w
  | [], _ => by simp
  | f :: fs, hs => by
    simp only [sizesT, Bool.and_eq_true] at hs
    obtain ⟨n, hn⟩ := Option.isSome_iff_exists.1 hs.1
    have ih := run_sizes w g fs hs.2
    rw [List.mapM_cons]
    simp only [Sem.run_bind, run_size hn, Result.andThen_ok, Sem.run_pure, ih, List.map_cons, hn, Option.getD_some]

theorem parts_place {fs : Array Field} : ∀ {ix : List Nat} {pl : List (Nat × Nat)}, partsT P fs ix = some pl →
    ix.map (fun i => (fs.map fun f => (f.offset, (sizeT P f.type).getD 0))[i]?) = pl.map some
  | [], pl, h => by simp only [partsT] at h; cases h; rfl
  | i :: ix, pl, h => by
    simp only [partsT] at h
    split at h
    · rename_i f hf
      split at h
      · rename_i n ps h1 h2
        cases h
        rw [List.map_cons, parts_place h2]
        simp only [List.map_cons, Array.getElem?_map, hf, Option.map_some, h1, Option.getD_some]
      · cases h
    · cases h

theorem fills_len : ∀ (pl : List (Nat × Nat)) (as : List AV) (a b : Dat), fills pl as a = some b → b.len = a.len
  | [], as, a, b, hh => by
    cases as with
    | nil => simp only [fills] at hh; cases hh; rfl
    | cons => simp [fills] at hh
  | p :: pl, as, a, b, hh => by
    cases as with
    | nil => simp [fills] at hh
    | cons x as =>
      simp only [fills] at hh
      split at hh
      · cases hp : a.put p.1 x.dat with
        | none => rw [hp] at hh; cases hh
        | some c =>
          rw [hp] at hh
          rw [fills_len pl as c b hh, (Dat.put_len hp).1]
      · cases hh

theorem zero_val {t : TypeId} {z : AV} (hz : zeroA P t = some z) (hv : z.isVal = true) (μ : Mu) : ∃ i v, P.info? t = some i ∧ i.zero = some v ∧ DatC μ z.dat v.cells.toList := by
  obtain ⟨i, v, hi, hv', hr⟩ := zeroA_ok hz
  exact ⟨i, v, hi, hv', VR.dat (reif_ok hr) hv⟩

theorem op_build {t : TypeId} {fs : Array Field} {z : AV} {pl : List (Nat × Nat)} {ps : Array (Nat × Operand)} (ho : o.op = .build t ps) (ht : P.underlying t = some (.struct fs)) (hz : zeroA P t = some z) (hzv : z.isVal = true) (hs : sizesT P fs.toList = true) (hpl : partsT P fs (ps.toList.map (·.1)) = some pl)
    (e : aop (.build z pl) args h = some (r, h')) (ha : VRL μ args ((ps.toList.map (·.2)).map ρ)) (hr : Rel Λ μ h w) : OpS Λ P (execOp ρ o) μ h w r h' := by
  simp only [aop] at e
  cases hf : fills pl args z.dat with
  | none => rw [hf] at e; cases e
  | some d =>
    rw [hf] at e; cases e
    obtain ⟨i, v, hi, hv, hd⟩ := zero_val hz hzv μ
    obtain ⟨cells', q1, q2⟩ := fills_ok (ix := ps.toList.map (·.1)) (place := fun i => (fs.map fun f => (f.offset, (sizeT P f.type).getD 0))[i]?) hf ha (parts_place hpl) hd
    simp only [execOp, ho]
    refine opS_pval hr (cv := .agg cells') ?_ (by simpa using q2.agg)
    rw [zip_parts] at q1
    simp only [Instr.build, Sem.run_bind, run_zero hi hv, Result.andThen_ok, run_und ht]
    rw [Array.mapM_eq_mapM_toList, Sem.run_map, run_sizes w (fun a b => (a, b)) _ hs]
    have e1 : (List.map (fun f => (f.offset, (sizeT P f.type).getD 0)) fs.toList).toArray = fs.map fun f => (f.offset, (sizeT P f.type).getD 0) := by apply Array.ext'; simp
    simp only [Result.andThen_ok, e1, q1, Sem.run_pure]

theorem op_builda {t el : TypeId} {len n : Nat} {z : AV} {ps : Array (Nat × Operand)} (ho : o.op = .build t ps) (ht : P.underlying t = some (.array len el)) (hz : zeroA P t = some z) (hzv : z.isVal = true) (hn : sizeT P el = some n)
    (e : aop (.build z (ps.toList.map fun p => (p.1 * n, n))) args h = some (r, h')) (ha : VRL μ args ((ps.toList.map (·.2)).map ρ)) (hr : Rel Λ μ h w) : OpS Λ P (execOp ρ o) μ h w r h' := by
  simp only [aop] at e
  cases hf : fills (ps.toList.map fun p => (p.1 * n, n)) args z.dat with
  | none => rw [hf] at e; cases e
  | some d =>
    rw [hf] at e; cases e
    obtain ⟨i, v, hi, hv, hd⟩ := zero_val hz hzv μ
    obtain ⟨cells', q1, q2⟩ := fills_ok (ix := ps.toList.map (·.1)) (place := fun i => some (i * n, n)) hf ha (by simp only [List.map_map]; rfl) hd
    simp only [execOp, ho]
    refine opS_pval hr (cv := .agg cells') ?_ (by simpa using q2.agg)
    rw [zip_parts] at q1
    simp only [Instr.build, Sem.run_bind, run_zero hi hv, Result.andThen_ok, run_und ht, run_size hn, q1, Sem.run_pure]

theorem i64_small {n : Int} (h0 : 0 ≤ n) (h1 : n ≤ 2 ^ 40) : IntKind.i64.wrap n = n := by
  rw [IntKind.wrap_i64]; omega

theorem op_mkslice {t el : TypeId} {a b : Operand} {n by' : Nat} {z : Dat} (ho : o.op = .makeSlice t a b) (ht : P.underlying t = some (.slice el)) (hz : zeroD P el = some z) (hn : sizeT P el = some n) (hby : bytesT P el = some by')
    (e : aop (.mkslice el n by' z) args h = some (r, h')) (ha : VRL μ args [ρ a, ρ b]) (hr : Rel Λ μ h w) : OpS Λ P (execOp ρ o) μ h w r h' := by
  simp only [aop] at e
  split at e
  · rename_i k l k' c
    split at e
    · rename_i hc
      obtain ⟨c1, c2, c3, c4, c5, c6⟩ := hc
      cases hnr : newRow' h el n false (z.rep c.toNat) with
      | none => rw [hnr] at e; cases e
      | some h1 =>
        rw [hnr] at e; cases e
        obtain ⟨x, y, ea, v1, v2⟩ := VRL.two ha
        simp only [List.cons.injEq, and_true] at ea
        obtain ⟨e1, e2⟩ := ea
        obtain ⟨i, v, hi, hv, hd⟩ := zeroD_ok hz μ
        have hvs : v.cells.size = n := by have := hd.1; rw [Array.length_toList] at this; omega
        have hcells := rep_cells hd c.toNat (by rw [c6, c5])
        have hsz : ((Array.range (c.toNat * v.cells.size)).map (v.cells[· % v.cells.size]!)).size = c.toNat * n := by simp [hvs]
        obtain ⟨p, q, s⟩ := new_row (P := P) hr hnr (by simpa using hcells.pre []) c.toNat hsz (by omega) (fun _ => c6)
        have hbi : ∃ ti, P.info? el = some ti ∧ ti.bytes = by' := by
          unfold bytesT at hby
          cases hti : P.info? el with
          | none => rw [hti] at hby; cases hby
          | some ti => rw [hti] at hby; cases hby; exact ⟨ti, rfl, rfl⟩
        obtain ⟨ti, hti, htb⟩ := hbi
        simp only [execOp, ho]
        refine opS_val (cv := .slice (some ⟨w.heap.size, 0, none⟩) l.toNat c.toNat) ?_ (by simp only [VR]; exact ⟨_, Mu.with_same _ _ _, rfl⟩) q s
        rw [e1, e2, VR.int v1, VR.int v2]
        have hl64 : IntKind.i64.wrap l = l := i64_small c1 (by omega)
        have hc64 : IntKind.i64.wrap c = c := i64_small (by omega) c4
        simp only [Instr.makeSlice, Sem.run_bind, run_und ht, Result.andThen_ok, asInt, asIntOf, Sem.run_pure, run_info hti, htb, hl64, hc64]
        have hcn : ¬ c < 0 := by omega
        have hln : ¬ l < 0 := by omega
        have hbig : ¬ ((by' : Int) * c > 2 ^ 48) := by rw [Int.mul_comm]; omega
        have hlc : ¬ l > c := by omega
        simp only [hcn, hln, hbig, hlc, decide_false, Bool.or_false, Bool.false_eq_true, if_false, Sem.run_bind, run_askRoom, Result.andThen_ok, run_size hn]
        by_cases h0 : c.toNat * n = 0
        · rw [hvs] at p
          have e3 : ((Array.range (c.toNat * v.cells.size)).map (v.cells[· % v.cells.size]!)) = (Array.range (c.toNat * n)).map ((#[] : Array Value)[· % (#[] : Array Value).size]!) := by
            apply Array.ext'
            rw [hvs, h0]; simp
          rw [hvs] at e3
          rw [e3] at p
          simp only [if_pos h0, Sem.run_pure, Result.andThen_ok, p, Sem.run_bind, hvs, e3]
        · rw [hvs] at p
          simp only [h0, if_false, Sem.run_bind, run_zero hi hv, Result.andThen_ok, Sem.run_pure, hvs, p]
    · cases e
  · cases e

theorem keyT_cases {t : TypeId} {k : EqK} (h : keyT P t = some k) : eqT P t = some k ∧ ((∃ s, k = .scal s) ∨ ∃ l, k = .flat l) := by
  unfold keyT at h
  split at h
  · rename_i s hs; cases h; exact ⟨hs, .inl ⟨s, rfl⟩⟩
  · rename_i s hs; cases h; exact ⟨hs, .inr ⟨s, rfl⟩⟩
  · cases h

theorem eqT_scal {t : TypeId} {s : Sc} (h : eqT P t = some (.scal s)) : scT P t = some s := by
  unfold eqT at h
  split at h
  all_goals first
    | (rename_i hu; cases h; simp [scT, hu]; done)
    | (split at h <;> first | cases h | skip)
    | cases h
  · rename_i fs _ _
    cases hf : flatT P fs.toList 0 with
    | none => rw [hf] at h; cases h
    | some l => rw [hf] at h; cases h
  · split at h <;> cases h

theorem eqT_flat {t : TypeId} {l : List Sc} (h : eqT P t = some (.flat l)) : ∃ fs, P.underlying t = some (.struct fs) ∧ flatT P fs.toList 0 = some l := by
  unfold eqT at h
  split at h
  all_goals first
    | (cases h; done)
    | skip
  · rename_i fs hu
    split at h
    · cases h
    · cases hf : flatT P fs.toList 0 with
      | none => rw [hf] at h; cases h
      | some l' => rw [hf] at h; cases h; exact ⟨fs, hu, hf⟩
  · split at h
    · cases h
    · split at h <;> cases h

theorem checkKey_scal {t : TypeId} {s : Sc} {a b : AV} {q : Bool} {x : Value} (ht : scT P t = some s) (he : scEq s a b = some q) (ha : VR μ a x) (em : Bool) (n : Nat) (w : World) : (Instr.checkKey em (n + 1) t x).run P w = .ok () w := by
  rcases scEq_inv he with ⟨rfl, k, n', m, rfl, rfl, rfl⟩ | ⟨rfl, n', m, rfl, rfl, rfl⟩ | ⟨rfl, n', m, rfl, rfl, rfl⟩
  all_goals
    unfold scT at ht
    split at ht <;> cases ht
    rename_i hu
    simp only [VR] at ha; subst ha
    simp [Instr.checkKey, run_und hu]

theorem checkKey_fields {em : Bool} {n : Nat} {xs : Array Value} : ∀ {fs : List Field} {k : Nat} {ss : List Sc} {as : List AV} {q : Bool}, flatT P fs k = some ss → eqFlat ss as as = some q →
    (∀ (i : Nat) (x : AV), as[i]? = some x → ∃ c, xs[k + i]? = some c ∧ VR μ x c) → ∀ w,
    (forIn (m := Sem) fs PUnit.unit fun f _ => do
      if f.name ≠ "_" then do
        Instr.checkKey em (n + 1) f.type (← part f.type xs f.offset)
        pure (ForInStep.yield PUnit.unit)
      else pure (ForInStep.yield PUnit.unit)).run P w = .ok PUnit.unit w
  | [], k, ss, as, q, hf, he, ha, w => by simp
  | f :: fs, k, ss, as, q, hf, he, ha, w => by
    simp only [flatT] at hf
    split at hf
    · rename_i hk
      split at hf
      · rename_i s ss' h1 h2
        cases hf
        cases as with
        | nil => simp [eqFlat] at he
        | cons a as =>
          simp only [eqFlat] at he
          obtain ⟨x, hx, vx⟩ := ha 0 a (by simp)
          simp only [Nat.add_zero] at hx
          have p1 := part_scalar h1 xs f.offset x (by rw [hk.1]; exact hx) w
          cases hs : scEq s a a with
          | none => rw [hs] at he; cases he
          | some q' =>
            have p2 := checkKey_scal h1 hs vx em n w
            have hq' : q' = true := by
              rcases scEq_inv hs with ⟨_, _, _, _, rfl, e2, rfl⟩ | ⟨_, _, _, rfl, e2, rfl⟩ | ⟨_, _, _, rfl, e2, rfl⟩ <;> cases e2 <;> first | (simp; done) | (rw [beq_toListBytes]; simp)
            subst hq'
            rw [hs] at he
            simp only at he
            have ih := checkKey_fields (em := em) (n := n) (xs := xs) h2 he (fun i z hz => by
              obtain ⟨c, p, q⟩ := ha (i + 1) z (by simpa using hz)
              exact ⟨c, by rw [show k + 1 + i = k + (i + 1) by omega]; exact p, q⟩) w
            simp only [List.forIn_cons, hk.2, ne_eq, not_false_eq_true, if_true, Sem.run_bind, p1, p2, Result.andThen_ok, Sem.run_pure]
            exact ih
      · cases hf
    · cases hf

theorem checkKey_ok {k : EqK} {a : AV} {x : Value} {t : TypeId} (hk : (avEq k a a).isSome = true) (ht : keyT P t = some k) (ha : VR μ a x) (em : Bool) (n : Nat) (w : World) : (Instr.checkKey em (n + 2) t x).run P w = .ok () w := by
  obtain ⟨q, hq⟩ := Option.isSome_iff_exists.1 hk
  obtain ⟨he, ⟨s, rfl⟩ | ⟨l, rfl⟩⟩ := keyT_cases ht
  · exact checkKey_scal (eqT_scal he) hq ha em (n + 1) w
  · obtain ⟨fs, hu, hf⟩ := eqT_flat he
    cases a with
    | agg as =>
      simp only [avEq] at hq
      simp only [VR] at ha
      obtain ⟨xs, p, _, rfl⟩ := ha
      have := checkKey_fields (P := P) (em := em) (n := n) (xs := xs.toArray) hf hq (fun i z hz => by
        obtain ⟨c, p', q'⟩ := VRL.get p i z hz; exact ⟨c, by simpa using p', q'⟩) w
      have key : ∀ n', n' = n + 1 → (Instr.checkKey em (n' + 1) t (.agg xs.toArray)).run P w = .ok () w := by
        intro n' hn'
        simp only [Instr.checkKey, Sem.run_bind, run_und hu, Result.andThen_ok]
        rw [← Array.forIn_toList, hn', this]
        rfl
      exact key _ rfl
    | _ => simp [avEq] at hq

theorem findNow_ok {t : TypeId} {s : Sc} {key : AV} {x : Value} {d : TypeDesc} (hu : P.underlying t = some d) (ht : scT P t = some s) (hx : VR μ key x) : ∀ {es : List (AV × AV × Nat)} {cs : List MapEntry} {ri : Option Nat}, findE (.scal s) key es = some ri → EntR μ es cs → ∀ (i : Nat),
    Instr.findNow d x cs i = some (ri.bind fun j => (cs[j]?).map fun e => (i + j, e.val))
  | [], cs, ri, hf, he, i => by
    simp only [findE] at hf; cases hf
    simp only [EntR] at he; subst he
    simp [Instr.findNow]
  | (k, v, b) :: es, cs, ri, hf, he, i => by
    obtain ⟨c, cs', rfl, hk, hv, hb, he'⟩ := he
    simp only [findE] at hf
    have hsame : ∀ q, avEq (.scal s) key k = some q → Instr.sameNow d x c.key = some q := by
      intro q hq
      rcases scEq_inv (show scEq s key k = some q from hq) with ⟨rfl, k0, n, m, rfl, rfl, rfl⟩ | ⟨rfl, n, m, rfl, rfl, rfl⟩ | ⟨rfl, n, m, rfl, rfl, rfl⟩
      all_goals
        unfold scT at ht
        rw [hu] at ht
        split at ht <;> cases ht
        rename_i heq
        cases heq
        simp only [VR] at hx hk
        subst hx
        simp [hk, Instr.sameNow]
    split at hf
    · rename_i heq
      cases hf
      simp [Instr.findNow, hsame _ heq]
    · rename_i heq
      cases hf2 : findE (.scal s) key es with
      | none => rw [hf2] at hf; cases hf
      | some ri' =>
        rw [hf2] at hf; cases hf
        simp only [Instr.findNow, hsame _ heq]
        rw [findNow_ok hu ht hx hf2 he' (i + 1)]
        cases ri' with
        | none => rfl
        | some j => simp [Nat.add_assoc, Nat.add_comm 1 j]
    · cases hf

theorem findAsking_ok {t : TypeId} {k : EqK} {key : AV} {x : Value} (ht : eqT P t = some k) (hx : VR μ key x) (w : World) : ∀ {es : List (AV × AV × Nat)} {cs : List MapEntry} {ri : Option Nat}, findE k key es = some ri → EntR μ es cs → ∀ (i : Nat),
    (Instr.findAsking t x cs i).run P w = .ok (ri.bind fun j => (cs[j]?).map fun e => (i + j, e.val)) w
  | [], cs, ri, hf, he, i => by
    simp only [findE] at hf; cases hf
    simp only [EntR] at he; subst he
    simp [Instr.findAsking]
  | (k0, v, b) :: es, cs, ri, hf, he, i => by
    obtain ⟨c, cs', rfl, hk, hv, hb, he'⟩ := he
    simp only [findE] at hf
    have hq : ∀ q, avEq k key k0 = some q → (Op.equal t x c.key).run P w = .ok q w := fun q h => avEq_ok h ht hx hk 9998 w
    split at hf
    · rename_i heq
      cases hf
      simp [Instr.findAsking, hq _ heq]
    · rename_i heq
      cases hf2 : findE k key es with
      | none => rw [hf2] at hf; cases hf
      | some ri' =>
        rw [hf2] at hf; cases hf
        simp only [Instr.findAsking, Sem.run_bind, hq _ heq, Result.andThen_ok, Bool.false_eq_true, if_false]
        rw [findAsking_ok ht hx w hf2 he' (i + 1)]
        cases ri' with
        | none => rfl
        | some j => simp [Nat.add_assoc, Nat.add_comm 1 j]
    · cases hf

theorem findKey_ok {t : TypeId} {k : EqK} {key : AV} {x : Value} {es : List (AV × AV × Nat)} {cs : List MapEntry} {ri : Option Nat} (ht : keyT P t = some k) (hx : VR μ key x) (hf : findE k key es = some ri) (he : EntR μ es cs) (w : World) :
    (Instr.findKey t x cs).run P w = .ok (ri.bind fun j => (cs[j]?).map fun e => (j, e.val)) w := by
  obtain ⟨hk, ⟨s, rfl⟩ | ⟨l, rfl⟩⟩ := keyT_cases ht
  · have hs := eqT_scal hk
    obtain ⟨d, hu⟩ : ∃ d, P.underlying t = some d := by
      unfold scT at hs
      split at hs <;> first | exact ⟨_, ‹_›⟩ | cases hs
    simp only [Instr.findKey, Sem.run_bind, run_und hu, Result.andThen_ok, findNow_ok hu hs hx hf he 0, Nat.zero_add, Sem.run_pure]
  · obtain ⟨fs, hu, _⟩ := eqT_flat hk
    rw [run_findKey_eq w (by rw [hu])]
    simpa using findAsking_ok hk hx w hf he 0

theorem findE_lt {k : EqK} {key : AV} : ∀ {es : List (AV × AV × Nat)} {i : Nat}, findE k key es = some (some i) → ∃ k0 v b, es[i]? = some (k0, v, b) ∧ avEq k key k0 = some true
  | [], i, h => by simp [findE] at h
  | (k0, v, b) :: es, i, h => by
    simp only [findE] at h
    split at h
    · rename_i heq; cases h; exact ⟨k0, v, b, by simp, heq⟩
    · cases hf : findE k key es with
      | none => rw [hf] at h; cases h
      | some ri =>
        rw [hf] at h
        cases ri with
        | none => cases h
        | some j =>
          cases h
          obtain ⟨a, b', c, p, q⟩ := findE_lt hf
          exact ⟨a, b', c, by simpa using p, q⟩
    · cases h

theorem EntR.get : ∀ {es : List (AV × AV × Nat)} {cs : List MapEntry}, EntR μ es cs → ∀ (i : Nat) (k v : AV) (b : Nat), es[i]? = some (k, v, b) → ∃ c, cs[i]? = some c ∧ VR μ k c.key ∧ VR μ v c.val ∧ c.born = b
  | [], cs, h, i, k, v, b, e => by simp at e
  | (k0, v0, b0) :: es, cs, h, i, k, v, b, e => by
    obtain ⟨c, cs', rfl, p, q, r, t⟩ := h
    cases i with
    | zero => simp at e; obtain ⟨rfl, rfl, rfl⟩ := e; exact ⟨c, by simp, p, q, r⟩
    | succ i =>
      simp at e
      obtain ⟨c', a, b'⟩ := EntR.get t i k v b e
      exact ⟨c', by simpa using a, b'⟩

theorem op_lookup {t k el : TypeId} {x i : Operand} {ok : Bool} {kk : EqK} {z : AV} (ho : o.op = .lookup t x i ok) (ht : P.underlying t = some (.map k el)) (hk : keyT P k = some kk) (hz : zeroA P el = some z)
    (e : aop (.lookup kk z ok) args h = some (r, h')) (ha : VRL μ args [ρ x, ρ i]) (hr : Rel Λ μ h w) : OpS Λ P (execOp ρ o) μ h w r h' := by
  simp only [aop] at e
  split at e
  · rename_i m key
    split at e
    · cases e
    · rename_i hfit
      have hfit : (avEq kk key key).isSome = true := by cases hq : avEq kk key key <;> simp_all
      obtain ⟨a, b, ea, v1, v2⟩ := VRL.two ha
      simp only [List.cons.injEq, and_true] at ea
      obtain ⟨e1, e2⟩ := ea
      rw [← e1] at v1; rw [← e2] at v2
      obtain ⟨ti, zv, hi, hzv, hre⟩ := zeroA_ok hz
      have hzr : VR μ z zv := reif_ok hre
      have back : ∀ (cv : Value) (av : AV) (is : Bool), VR μ av cv → VR μ (if ok then .tuple [av, .bool is] else av) (if ok then .tuple #[cv, .bool is] else cv) := by
        intro cv av is hv
        cases ok
        · simpa using hv
        · simp only [if_true, VR, VRL]; exact ⟨[cv, .bool is], ⟨cv, _, rfl, hv, _, _, rfl, rfl, rfl⟩, rfl⟩
      split at e
      · cases e
        simp only [VR] at v1
        simp only [execOp, ho]
        refine opS_pval hr (cv := if ok then .tuple #[zv, .bool false] else zv) ?_ (back _ _ _ hzr)
        rw [v1]
        have hck : ∀ em, (Instr.checkKey em 10000 k (ρ i)).run P w = .ok () w := fun em => checkKey_ok hfit hk v2 em 9998 w
        have hfk : (Instr.findKey k (ρ i) []).run P w = .ok none w := by
          have := findKey_ok (ri := none) (es := []) (cs := []) hk v2 (by simp [findE]) (by simp [EntR]) w
          simpa using this
        simp only [Instr.lookup, Sem.run_bind, run_und ht, Result.andThen_ok, Sem.run_pure, hck, hfk, run_zero hi hzv]
      · rename_i id
        split at e
        · rename_i es clock hg
          obtain ⟨l, cs, hl, p, q⟩ := hr.map hg
          simp only [VR] at v1; obtain ⟨l', hl', hx⟩ := v1
          rw [hl] at hl'; cases hl'
          have hck : ∀ em, (Instr.checkKey em 10000 k (ρ i)).run P w = .ok () w := fun em => checkKey_ok hfit hk v2 em 9998 w
          split at e
          · rename_i j hfj
            have hfk := findKey_ok hk v2 hfj q w
            obtain ⟨k0, v0, b0, hget, _⟩ := findE_lt hfj
            obtain ⟨c, hc, _, hv, _⟩ := EntR.get q j k0 v0 b0 hget
            rw [hget] at e; cases e
            simp only [Option.bind_some, hc, Option.map_some] at hfk
            simp only [execOp, ho]
            refine opS_pval hr (cv := if ok then .tuple #[c.val, .bool true] else c.val) ?_ (back _ _ _ hv)
            rw [hx]
            simp only [Instr.lookup, Sem.run_bind, run_und ht, Result.andThen_ok, run_getMap p, Sem.run_pure, hck, hfk]
          · rename_i hfj
            cases e
            have hfk := findKey_ok hk v2 hfj q w
            simp only [Option.bind_none] at hfk
            simp only [execOp, ho]
            refine opS_pval hr (cv := if ok then .tuple #[zv, .bool false] else zv) ?_ (back _ _ _ hzr)
            rw [hx]
            simp only [Instr.lookup, Sem.run_bind, run_und ht, Result.andThen_ok, run_getMap p, Sem.run_pure, hck, hfk, run_zero hi hzv]
          · cases e
        · cases e
      · cases e
  · cases e

end
end Go.Proofs.Ytjdemlagmamlbaa
