/- Soundness of the operations: maps are written; append, copy, clear. -/
import Derived.Test.YtjdemlagmamlbaaM11
namespace Go.Proofs.Ytjdemlagmamlbaa
variable {Λ : Lam}

section
variable {P : Program} {o : Oper} {ρ : Operand → Value} {μ : Mu} {h h' : AHeap} {w : World} {args : List AV} {r : AV}

theorem EntR.modify : ∀ {es : List (AV × AV × Nat)} {cs : List MapEntry} {i : Nat} {key v : AV} {x y : Value}, EntR μ es cs → VR μ key x → VR μ v y →
    EntR μ (es.modify i fun e => (key, v, e.2.2)) (cs.modify i fun e => { e with key := x, val := y })
  | [], cs, i, key, v, x, y, h, _, _ => by simp only [EntR] at h; subst h; simp [EntR]
  | (k0, v0, b0) :: es, cs, i, key, v, x, y, h, hk, hv => by
    obtain ⟨c, cs', rfl, p, q, r, t⟩ := h
    cases i with
    | zero => simp only [List.modify_zero_cons, EntR]; exact ⟨_, _, rfl, hk, hv, r, t⟩
    | succ i => simp only [List.modify_succ_cons, EntR]; exact ⟨_, _, rfl, p, q, r, EntR.modify t hk hv⟩

theorem EntR.append : ∀ {es es' : List (AV × AV × Nat)} {cs cs' : List MapEntry}, EntR μ es cs → EntR μ es' cs' → EntR μ (es ++ es') (cs ++ cs')
  | [], es', cs, cs', h, h' => by simp only [EntR] at h; subst h; simpa using h'
  | (k0, v0, b0) :: es, es', cs, cs', h, h' => by
    obtain ⟨c, l, rfl, p, q, r, t⟩ := h
    exact ⟨c, l ++ cs', rfl, p, q, r, EntR.append t h'⟩

theorem EntR.eraseIdx : ∀ {es : List (AV × AV × Nat)} {cs : List MapEntry} {i : Nat}, EntR μ es cs → EntR μ (es.eraseIdx i) (cs.eraseIdx i)
  | [], cs, i, h => by simp only [EntR] at h; subst h; simp [EntR]
  | (k0, v0, b0) :: es, cs, i, h => by
    obtain ⟨c, l, rfl, p, q, r, t⟩ := h
    cases i with
    | zero => simpa using t
    | succ i => exact ⟨c, l.eraseIdx i, by simp, p, q, r, EntR.eraseIdx t⟩

theorem put_map {id es clock es' clock'} {l : Loc} {cs : List MapEntry} (hr : Rel Λ μ h w) (hg : h.get id = some (.map es clock)) (hl : μ id = some l) (he : EntR μ es' cs) :
    (setObj l.block (.map cs.toArray clock')).run P w = .ok () { w with heap := w.heap.setIfInBounds l.block (.map cs.toArray clock') } ∧
    Rel Λ μ (h.put id (.map es' clock')) { w with heap := w.heap.setIfInBounds l.block (.map cs.toArray clock') } ∧ Step μ h w μ (h.put id (.map es' clock')) { w with heap := w.heap.setIfInBounds l.block (.map cs.toArray clock') } := by
  obtain ⟨l', cs0, hl', p, q⟩ := hr.map hg
  rw [hl] at hl'; cases hl'
  have hlt : l.block < w.heap.size := (hr.dom _ _ hl).2
  refine ⟨by simp [setObj, Sem.run, p], ?_⟩
  refine hr.put hg rfl hl rfl rfl rfl (by simp) (fun b hb => ?_) ⟨cs, ?_, he⟩
  · simp only [Array.getElem?_setIfInBounds]
    rw [if_neg (fun e => hb e.symm)]
  · simp [hlt]

theorem sc_same {s : Sc} {a b : AV} {x y : Value} (he : scEq s a b = some true) (ha : VR μ a x) (hb : VR μ b y) (n : Nat) : Instr.sameBits n y x = true := by
  rcases scEq_inv he with ⟨_, k, p, q, rfl, rfl, e⟩ | ⟨_, p, q, rfl, rfl, e⟩ | ⟨_, p, q, rfl, rfl, e⟩
  · rw [VR.int ha, VR.int hb]
    have : p = q := by simpa using e.symm
    cases n <;> simp [Instr.sameBits, this]
  · rw [VR.bool ha, VR.bool hb]
    have : p = q := by simpa using e.symm
    cases n <;> simp [Instr.sameBits, this]
  · simp only [VR] at ha hb; subst ha hb
    have e2 : (p == q) = true := e.symm
    have e3 : (q == p) = true := by
      rw [beq_toListBytes] at e2 ⊢
      have : p.toList = q.toList := by simpa using e2
      simp [this]
    cases n <;> simp [Instr.sameBits, e3]

theorem sameBits_flat : ∀ {ss : List Sc} {as bs : List AV} {xs ys : List Value}, eqFlat ss as bs = some true → VRL μ as xs → VRL μ bs ys → ∀ n,
    ys.length = xs.length ∧ ((ys.zip xs).all fun (x, y) => Instr.sameBits n x y) = true
  | [], as, bs, xs, ys, he, ha, hb, n => by
    cases as with
    | nil => cases bs with
      | nil => simp only [VRL] at ha hb; subst ha hb; simp
      | cons => simp [eqFlat] at he
    | cons => simp [eqFlat] at he
  | s :: ss, as, bs, xs, ys, he, ha, hb, n => by
    cases as with
    | nil => simp [eqFlat] at he
    | cons a as => cases bs with
      | nil => simp [eqFlat] at he
      | cons b bs =>
        simp only [eqFlat] at he
        simp only [VRL] at ha hb
        obtain ⟨x, xs', rfl, hx, hxs⟩ := ha
        obtain ⟨y, ys', rfl, hy, hys⟩ := hb
        split at he
        · rename_i hs
          obtain ⟨ih1, ih2⟩ := sameBits_flat he hxs hys n
          have hxy := sc_same hs hx hy n
          refine ⟨by simp [ih1], ?_⟩
          rw [List.zip_cons_cons, List.all_cons]
          simp only [hxy, Bool.true_and]
          exact ih2
        · rename_i hs
          rw [he] at hs; simp at hs

theorem keyStays {k : EqK} {a b : AV} {x y : Value} {t : TypeId} (ht : keyT P t = some k) (he : avEq k a b = some true) (ha : VR μ a x) (hb : VR μ b y) (w : World) : (Instr.keyThatStays y x).run P w = .ok x w := by
  have : Instr.sameBits 10000 y x = true := by
    obtain ⟨_, ⟨s, rfl⟩ | ⟨l, rfl⟩⟩ := keyT_cases ht
    · exact sc_same he ha hb 10000
    · cases a with
      | agg as => cases b with
        | agg bs =>
          simp only [avEq] at he
          simp only [VR] at ha hb
          obtain ⟨xs, p, _, rfl⟩ := ha
          obtain ⟨ys, q, _, rfl⟩ := hb
          obtain ⟨h1, h2⟩ := sameBits_flat he p q 9999
          have hsz : (ys.toArray.size == xs.toArray.size) = true := by simpa using h1
          show (ys.toArray.size == xs.toArray.size && (ys.toArray.toList.zip xs.toArray.toList).all fun (x, y) => Instr.sameBits 9999 x y) = true
          rw [hsz, Bool.true_and]
          exact h2
        | _ => simp [avEq] at he
      | _ => simp [avEq] at he
  simp [Instr.keyThatStays, this]

theorem op_mapput {t k el : TypeId} {m i x : Operand} {kk : EqK} (ho : o.op = .mapUpdate t m i x) (ht : P.underlying t = some (.map k el)) (hk : keyT P k = some kk)
    (e : aop (.mapput kk) args h = some (r, h')) (ha : VRL μ args [ρ m, ρ i, ρ x]) (hr : Rel Λ μ h w) : OpS Λ P (execOp ρ o) μ h w r h' := by
  simp only [aop] at e
  split at e
  · rename_i id key v
    split at e
    · cases e
    · rename_i hfit
      have hfit : (avEq kk key key).isSome = true := by cases hq : avEq kk key key <;> simp_all
      obtain ⟨a, b, c0, ea, v1, v2, v3⟩ := VRL.three ha
      simp only [List.cons.injEq, and_true] at ea
      obtain ⟨e1, e2, e3⟩ := ea
      rw [← e1] at v1; rw [← e2] at v2; rw [← e3] at v3
      have hck : ∀ em, (Instr.checkKey em 10000 k (ρ i)).run P w = .ok () w := fun em => checkKey_ok hfit hk v2 em 9998 w
      split at e
      · rename_i es clock hg
        obtain ⟨l, cs, hl, p, q⟩ := hr.map hg
        simp only [VR] at v1; obtain ⟨l', hl', hx⟩ := v1
        rw [hl] at hl'; cases hl'
        split at e
        · rename_i j hfj
          cases e
          have hfk := findKey_ok hk v2 hfj q w
          obtain ⟨k0, v0, b0, hget, heq⟩ := findE_lt hfj
          obtain ⟨c, hc, hkc, hv, _⟩ := EntR.get q j k0 v0 b0 hget
          simp only [Option.bind_some, hc, Option.map_some] at hfk
          have hst := keyStays hk heq v2 hkc w
          obtain ⟨s1, s2, s3⟩ := put_map (P := P) (clock' := clock) hr hg hl (EntR.modify (i := j) q v2 v3)
          refine ⟨μ, _, undef, .inr ⟨rfl, ?_⟩, by simp only [VR, VRL]; exact ⟨[], rfl, rfl⟩, s2, s3⟩
          have hc' : cs[j]? = some c := by simpa using hc
          have harr : cs.modify j (fun e => { e with key := ρ i, val := ρ x }) = (cs.toList.modify j fun e => { e with key := ρ i, val := ρ x }).toArray := by
            apply Array.ext'; simp [Array.toList_modify]
          simp only [execOp, ho, Instr.mapUpdate, hx, Sem.run_bind, run_und ht, Result.andThen_ok, run_getMap p, hck, hfk, hc', Option.map_some, Option.getD_some, hst, harr, s1, Sem.run_pure]
        · rename_i hfj
          cases e
          have hfk := findKey_ok hk v2 hfj q w
          simp only [Option.bind_none] at hfk
          have hnew : EntR μ (es ++ [(key, v, clock)]) (cs.toList ++ [{ key := ρ i, val := ρ x, born := clock }]) := EntR.append q ⟨_, [], rfl, v2, v3, rfl, rfl⟩
          obtain ⟨s1, s2, s3⟩ := put_map (P := P) (clock' := clock + 1) hr hg hl hnew
          refine ⟨μ, _, undef, .inr ⟨rfl, ?_⟩, by simp only [VR, VRL]; exact ⟨[], rfl, rfl⟩, s2, s3⟩
          have harr : cs.push ({ key := ρ i, val := ρ x, born := clock } : MapEntry) = (cs.toList ++ [({ key := ρ i, val := ρ x, born := clock } : MapEntry)]).toArray := by
            apply Array.ext'; simp
          simp only [execOp, ho, Instr.mapUpdate, hx, Sem.run_bind, run_und ht, Result.andThen_ok, run_getMap p, hck, hfk, harr, s1, Sem.run_pure]
        · cases e
      · cases e
  · cases e

theorem op_delete {c : Call} {t k el : TypeId} {kk : EqK} (ho : o.op = .call c) (hb : c.callee = .builtin .delete) (h0 : c.argTypes[0]? = some t) (ht : P.underlying t = some (.map k el)) (hk : keyT P k = some kk)
    (e : aop (.delete kk) args h = some (r, h')) (ha : VRL μ args (c.args.toList.map ρ)) (hr : Rel Λ μ h w) : OpS Λ P (execOp ρ o) μ h w r h' := by
  simp only [aop] at e
  split at e
  · rename_i m key
    split at e
    · cases e
    · rename_i hfit
      have hfit : (avEq kk key key).isSome = true := by cases hq : avEq kk key key <;> simp_all
      obtain ⟨a, b, ea, v1, v2⟩ := VRL.two ha
      have hck : ∀ em, (Instr.checkKey em 10000 k b).run P w = .ok () w := fun em => checkKey_ok hfit hk v2 em 9998 w
      have hun : VR μ (.tuple []) (.tuple #[]) := by simp only [VR, VRL]; exact ⟨[], rfl, rfl⟩
      split at e
      · cases e
        simp only [VR] at v1; subst v1
        refine opS_builtin (cv := .tuple #[]) ho hb (fun _ => rfl) hr ?_ hun
        rw [args_two ea]
        simp [Builtin.delete_, h0, run_und ht, hck]
      · rename_i id
        split at e
        · rename_i es clock hg
          obtain ⟨l, cs, hl, p, q⟩ := hr.map hg
          simp only [VR] at v1; obtain ⟨l', hl', rfl⟩ := v1
          rw [hl] at hl'; cases hl'
          split at e
          · rename_i j hfj
            cases e
            have hfk := findKey_ok hk v2 hfj q w
            obtain ⟨k0, v0, b0, hget, heq⟩ := findE_lt hfj
            obtain ⟨c1, hc, hkc, hv, _⟩ := EntR.get q j k0 v0 b0 hget
            simp only [Option.bind_some, hc, Option.map_some] at hfk
            obtain ⟨s1, s2, s3⟩ := put_map (P := P) (clock' := clock) hr hg hl (EntR.eraseIdx (i := j) q)
            have harr : cs.eraseIdxIfInBounds j = (cs.toList.eraseIdx j).toArray := by
              apply Array.ext'; simp [Array.toList_eraseIdxIfInBounds]
            refine ⟨μ, _, .tuple #[], .inl (exec_builtin ho hb (fun _ => rfl) ?_), hun, s2, s3⟩
            rw [args_two ea]
            simp only [Builtin.delete_, h0]
            simp [run_und ht, hck, run_getMap p, hfk, harr, s1]
          · rename_i hfj
            cases e
            have hfk := findKey_ok hk v2 hfj q w
            simp only [Option.bind_none] at hfk
            have hsame : (setObj l.block (.map cs clock)).run P w = .ok () w := by
              simp only [setObj, Sem.run, p]
              congr 1
              have : w.heap.setIfInBounds l.block (.map cs clock) = w.heap := by
                apply Array.ext_getElem?
                intro i
                rw [Array.getElem?_setIfInBounds]
                by_cases hi : l.block = i
                · subst hi
                  rw [if_pos rfl, if_pos (hr.dom _ _ hl).2, p]
                · rw [if_neg hi]
              rw [this]
            refine opS_builtin (cv := .tuple #[]) ho hb (fun _ => rfl) hr ?_ hun
            rw [args_two ea]
            simp only [Builtin.delete_, h0]
            simp [run_und ht, hck, run_getMap p, hfk, hsame]
          · cases e
        · cases e
      · cases e
  · cases e

theorem loadZero (b off : Nat) : (loadCells ⟨b, off, none⟩ 0).run P w = .ok #[] w := by simp [loadCells, loadCellsFrom]

theorem take_some {d : Dat} {off n : Nat} (h : off + n ≤ d.len) : ∃ e, d.take off n = some e := by
  cases d with
  | vals l => exact ⟨_, by simp only [Dat.take]; exact if_pos h⟩
  | bytes l v => exact ⟨_, by simp only [Dat.take]; exact if_pos h⟩

theorem DatC.congr {d e : Dat} {l : List Value} (h : DatC μ d l) (hl : e.len = d.len) (hg : ∀ i, i < d.len → e.get i = d.get i) : DatC μ e l :=
  ⟨by rw [hl]; exact h.1, fun i x hx => h.2 i x (by rw [← hg i (by rw [← hl]; exact Dat.get_lt hx)]; exact hx)⟩

/-- the first cells of a slice -/
theorem sliceDat_ok {es : Nat} {v : AV} {d src : Dat} {n m : Nat} {c : Value} (hr : Rel Λ μ h w) (hd : sliceDat h es v = some d) (hn : sliceLen v = some n) (hv : VR μ v c) (hm : m ≤ n) (hs : d.take 0 (m * es) = some src) :
    ∃ cs : List Value, (∀ w' : World, w'.heap = w.heap → (Builtin.firstCells es m c).run P w' = .ok cs.toArray w') ∧ DatC μ src cs := by
  obtain ⟨s1, s2, s3⟩ := Dat.take_spec hs
  have row : ∀ {id e0 es0 soft ro d0 off k n'} {l : Loc}, h.get id = some (.row e0 es0 soft ro d0) → μ id = some l → d0.take off n' = some d →
      ∃ cs : List Value, (∀ w' : World, w'.heap = w.heap → (Builtin.firstCells es m (.slice (some ⟨l.block, l.off + off, none⟩) n k)).run P w' = .ok cs.toArray w') ∧ DatC μ src cs := by
    intro id e0 es0 soft ro d0 off k n' l hg hl ht
    obtain ⟨l', hl', hrow⟩ := hr.row hg
    rw [hl] at hl'; cases hl'
    obtain ⟨t1, t2, t3⟩ := Dat.take_spec ht
    obtain ⟨e, he⟩ := take_some (d := d0) (off := off) (n := m * es) (by omega)
    obtain ⟨u1, u2, u3⟩ := Dat.take_spec he
    obtain ⟨cs, p, q⟩ := hrow.take he P
    refine ⟨cs, fun w' hw' => by simp only [Builtin.firstCells]; exact p w' hw', q.congr (by rw [s1, u1]) fun i hi => ?_⟩
    rw [u1] at hi
    rw [s3 i hi, u3 i hi, t3 (0 + i) (by omega)]
    congr 1; omega
  unfold sliceDat at hd
  split at hd
  · cases hd
    simp only [sliceLen] at hn; cases hn
    simp only [VR] at hv; subst hv
    have : m = 0 := by omega
    subst this
    refine ⟨[], fun w' _ => by simp [Builtin.firstCells], by simp [s1], fun i x hx => ?_⟩
    have := Dat.get_lt hx; omega
  · cases hd
    simp only [sliceLen] at hn; cases hn
    simp only [VR] at hv; obtain ⟨a, k, rfl⟩ := hv
    have : m = 0 := by omega
    subst this
    refine ⟨[], fun w' _ => by simp [Builtin.firstCells, loadCells, loadCellsFrom], by simp [s1], fun i x hx => ?_⟩
    have := Dat.get_lt hx; omega
  · simp only [sliceLen] at hn; cases hn
    split at hd
    · rename_i hg
      simp only [VR] at hv; obtain ⟨l, hl, rfl⟩ := hv
      exact row hg hl hd
    · cases hd
  · simp only [sliceLen] at hn; cases hn
    split at hd
    · rename_i hg
      split at hd
      · rename_i hes
        have hes := hes.symm
        subst hes
        simp only [VR] at hv; obtain ⟨l, hl, _, rfl⟩ := hv
        exact row hg hl hd
      · cases hd
    · cases hd
  · cases hd

theorem take_whole {d : Dat} : ∃ e, d.take 0 d.len = some e ∧ e.len = d.len ∧ ∀ i, i < d.len → e.get i = d.get i := by
  obtain ⟨e, he⟩ := take_some (d := d) (off := 0) (n := d.len) (by omega)
  obtain ⟨u1, _, u3⟩ := Dat.take_spec he
  exact ⟨e, he, u1, fun i hi => by rw [u3 i hi, Nat.zero_add]⟩

theorem sliceDat_len {es : Nat} {v : AV} {d : Dat} {n : Nat} (hd : sliceDat h es v = some d) (hn : sliceLen v = some n) : d.len = n * es := by
  unfold sliceDat at hd
  split at hd
  · cases hd; simp only [sliceLen] at hn; cases hn; simp [Dat.len]
  · cases hd; simp only [sliceLen] at hn; cases hn; simp [Dat.len]
  · simp only [sliceLen] at hn; cases hn
    split at hd
    · exact (Dat.take_spec hd).1
    · cases hd
  · simp only [sliceLen] at hn; cases hn
    split at hd
    · split at hd
      · exact (Dat.take_spec hd).1
      · cases hd
    · cases hd
  · cases hd

theorem sliceDat_all {es : Nat} {v : AV} {d : Dat} {n : Nat} {c : Value} (hr : Rel Λ μ h w) (hd : sliceDat h es v = some d) (hn : sliceLen v = some n) (hv : VR μ v c) :
    ∃ cs : List Value, (∀ w' : World, w'.heap = w.heap → (Builtin.firstCells es n c).run P w' = .ok cs.toArray w') ∧ DatC μ d cs := by
  have hl := sliceDat_len hd hn
  obtain ⟨e, he, h1, h2⟩ := take_whole (d := d)
  rw [hl] at he
  obtain ⟨cs, p, q⟩ := sliceDat_ok (P := P) hr hd hn hv (Nat.le_refl n) he
  exact ⟨cs, p, q.congr h1.symm (fun i hi => (h2 i (by rw [← h1]; exact hi)).symm)⟩

theorem op_copy {c : Call} {t el : TypeId} {es : Nat} (ho : o.op = .call c) (hb : c.callee = .builtin .copy) (h0 : c.argTypes[0]? = some t) (ht : P.underlying t = some (.slice el)) (hn : sizeT P el = some es)
    (e : aop (.copy es) args h = some (r, h')) (ha : VRL μ args (c.args.toList.map ρ)) (hr : Rel Λ μ h w) : OpS Λ P (execOp ρ o) μ h w r h' := by
  simp only [aop] at e
  split at e
  · rename_i a b
    obtain ⟨x, y, ea, v1, v2⟩ := VRL.two ha
    split at e
    · rename_i m n hm hk
      obtain ⟨a1, c1, rfl⟩ := sliceLen_ok hm v1
      obtain ⟨a2, c2, rfl⟩ := sliceLen_ok hk v2
      have hmin : Nat.min n m = Min.min n m := rfl
      split at e
      · rename_i h0m
        cases e
        refine opS_builtin (cv := goInt 0) ho hb (fun _ => rfl) hr ?_ (by simp [VR, goInt])
        rw [args_two ea]
        simp only [Builtin.copy_, h0]
        have hf : (Builtin.firstCells es 0 (.slice a2 n c2)).run P w = .ok #[] w := by cases a2 <;> simp [Builtin.firstCells, loadCells, loadCellsFrom]
        simp only [List.getElem?_toArray, List.getElem?_cons_zero, List.getElem?_cons_succ]
        simp only [Sem.run_bind, run_und ht, Result.andThen_ok, Builtin.lenOf, Sem.run_pure, run_size hn, h0m, hf]
        cases a1 <;> simp [storeCells, goInt]
      · rename_i h0m
        have fin : ∀ {id e0 es0 soft t0 t1 src} {off k1 : Nat} {l : Loc} {d : Dat}, sliceDat h es b = some d → d.take 0 (Nat.min n m * es) = some src → h.get id = some (.row e0 es0 soft false t0) → t0.put off src = some t1 → μ id = some l →
            c.args.toList.map ρ = [.slice (some ⟨l.block, l.off + off, none⟩) m k1, .slice a2 n c2] → OpS Λ P (execOp ρ o) μ h w (.int .i64 (Nat.min n m)) (h.put id (.row e0 es0 soft false t1)) := by
          intro id e0 es0 soft t0 t1 src off k1 l d hd hs hg hp hl ea
          obtain ⟨cs, p, q⟩ := sliceDat_ok (P := P) hr hd hk v2 (Nat.min_le_left n m) hs
          obtain ⟨w', p1, q1, s1⟩ := put_row (P := P) hr hg hl hp q
          refine ⟨μ, w', goInt (Nat.min n m), .inl (exec_builtin ho hb (fun _ => rfl) ?_), by simp [VR, goInt], q1, s1⟩
          rw [args_two ea]
          simp only [Builtin.copy_, h0]
          simp only [List.getElem?_toArray, List.getElem?_cons_zero, List.getElem?_cons_succ]
          simp only [Sem.run_bind, run_und ht, Result.andThen_ok, Builtin.lenOf, Sem.run_pure, run_size hn, p w rfl, p1]
        split at e
        · rename_i ax d id off k0 k1 hd
          cases hs : d.take 0 (Nat.min n m * es) with
          | none => rw [hs] at e; cases e
          | some src =>
            rw [hs] at e
            simp only [Option.bind_some] at e
            split at e
            · rename_i e0 es0 soft t0 hg
              cases hp : t0.put off src with
              | none => rw [hp] at e; cases e
              | some t1 =>
                rw [hp] at e; cases e
                simp only [VR] at v1; obtain ⟨l, hl, hx⟩ := v1
                rw [hx] at ea
                simp only [sliceLen] at hm; cases hm
                exact fin hd hs hg hp hl ea
            · cases e
        · rename_i ax d id idx es2 k0 hd
          cases hs : d.take 0 (Nat.min n m * es) with
          | none => rw [hs] at e; cases e
          | some src =>
            rw [hs] at e
            simp only [Option.bind_some] at e
            split at e
            · rename_i e0 es0 soft t0 hg
              split at e
              · rename_i hes
                cases hp : t0.put (idx * es) src with
                | none => rw [hp] at e; cases e
                | some t1 =>
                  rw [hp] at e; cases e
                  simp only [VR] at v1; obtain ⟨l, hl, _, hx⟩ := v1
                  rw [hx, hes] at ea
                  simp only [sliceLen] at hm; cases hm
                  exact fin hd hs hg hp hl ea
              · cases e
            · cases e
        · cases e
    · cases e
  · cases e

end
end Go.Proofs.Ytjdemlagmamlbaa
