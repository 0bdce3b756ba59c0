/- Soundness of the operations that make and write rows. -/
import Derived.Test.YtjdemlagmamlbaaM9
namespace Go.Proofs.Ytjdemlagmamlbaa
variable {Λ : Lam}

section
variable {P : Program} {o : Oper} {ρ : Operand → Value} {μ : Mu} {h h' : AHeap} {w : World} {args : List AV} {r : AV}

/-- the model's cells begin as a row's -/
def DatP (μ : Mu) (d : Dat) (l : List Value) : Prop :=
  ∀ (i : Nat) (x : AV), d.get i = some x → ∃ c, l[i]? = some c ∧ VR μ x c ∧ c.oneCell' = true

theorem DatC.pre {d : Dat} {l : List Value} (hd : DatC μ d l) (m : List Value) : DatP μ d (l ++ m) := fun i x hx => by
  obtain ⟨c, p, q⟩ := hd.2 i x hx
  exact ⟨c, by rw [List.getElem?_append_left (by rw [hd.1]; exact Dat.get_lt hx)]; exact p, q⟩

theorem new_row {elem es : Nat} {soft : Bool} {d : Dat} {cells : Array Value} (hr : Rel Λ μ h w) (hn : newRow' h elem es soft d = some h') (hd : DatP μ d cells.toList) (cap : Nat) (hsz : cells.size = cap * es) (hlen : d.len ≤ cap * es) (hs : soft = false → d.len = cap * es) :
    (newRow elem cells).run P w = .ok ⟨w.heap.size, 0, none⟩ { w with heap := w.heap.push (.cells cells elem) } ∧
    Rel Λ (μ.with h.next ⟨w.heap.size, 0, cap⟩) h' { w with heap := w.heap.push (.cells cells elem) } ∧ Step μ h w (μ.with h.next ⟨w.heap.size, 0, cap⟩) h' { w with heap := w.heap.push (.cells cells elem) } := by
  refine ⟨by simp [newRow], ?_⟩
  unfold newRow' at hn
  split at hn
  · cases hn
    refine hr.new _ _ _ rfl fun μ' hext => ?_
    refine ⟨cells, (0, 0), by simp, fun i v hv => ?_, fun _ => ⟨rfl, by simpa using hsz, hlen, hs⟩⟩
    obtain ⟨c, p, q, s⟩ := hd i v hv
    exact ⟨c, by simpa using p, VR.ext hext _ _ q, s⟩
  · cases hn

theorem newRow_with {elem es : Nat} {soft : Bool} {d : Dat} (hn : newRow' h elem es soft d = some h') : h' = h.new (.row elem es soft false d) := by
  unfold newRow' at hn
  split at hn
  · cases hn; rfl
  · cases hn

theorem put_row {id e es soft d d' ed} {l : Loc} {off : Nat} {vs : List Value} (hr : Rel Λ μ h w) (hg : h.get id = some (.row e es soft false d)) (hl : μ id = some l) (hp : d.put off ed = some d') (hd : DatC μ ed vs) :
    ∃ w', (storeCells ⟨l.block, l.off + off, none⟩ vs).run P w = .ok () w' ∧ Rel Λ μ (h.put id (.row e es soft false d')) w' ∧ Step μ h w μ (h.put id (.row e es soft false d')) w' := by
  obtain ⟨l', hl', c, fr, p, q, t⟩ := hr.row hg
  rw [hl] at hl'; cases hl'
  obtain ⟨rfl, t2, t3, t4⟩ := t rfl
  obtain ⟨u1, u2⟩ := Dat.put_len hp
  obtain ⟨w', c', r1, r2, r3, r4, r5⟩ := run_storeCells P l.block (l.off + off) e vs 0 w c p hd.cells (by rw [hd.1]; omega)
  refine ⟨w', r1, ?_⟩
  refine hr.put hg rfl hl r5.os r5.tape r5.output r5.size r5.rest ?_
  refine ⟨c', (0, 0), r2, fun i v hv => ?_, fun _ => ⟨rfl, by rw [r3]; exact t2, by omega, fun hs => by rw [u1]; exact t4 hs⟩⟩
  by_cases hi : off ≤ i ∧ i < off + ed.len
  · rw [Dat.get_put_in hp i hi] at hv
    obtain ⟨x, a, b⟩ := hd.2 _ _ hv
    refine ⟨x, ?_, b⟩
    rw [r4, if_pos (by rw [hd.1]; omega), ← a]
    congr 1; omega
  · rw [Dat.get_put_out hp i hi] at hv
    obtain ⟨x, a, b⟩ := q i v hv
    refine ⟨x, ?_, b⟩
    rw [r4, if_neg (by rw [hd.1]; omega)]
    exact a

theorem op_alloc {t : TypeId} {z : Dat} {n : Nat} (ho : o.op = .alloc t) (hz : zeroD P t = some z) (e : aop (.alloc t n z) args h = some (r, h')) (hr : Rel Λ μ h w) : OpS Λ P (execOp ρ o) μ h w r h' := by
  simp only [aop] at e
  split at e
  · split at e
    · rename_i hlen
      cases hn : newRow' h t n false z with
      | none => rw [hn] at e; cases e
      | some h1 =>
        rw [hn] at e; cases e
        obtain ⟨i, v, hi, hv, hd⟩ := zeroD_ok hz μ
        have hsz : v.cells.size = 1 * n := by have := hd.1; rw [Array.length_toList] at this; omega
        obtain ⟨p, q, s⟩ := new_row (P := P) hr hn (by simpa using hd.pre []) 1 hsz (by omega) (fun _ => by omega)
        simp only [execOp, ho]
        refine opS_val (cv := .pointer (some ⟨w.heap.size, 0, none⟩)) ?_ (by simp only [VR]; exact ⟨_, Mu.with_same _ _ _, rfl⟩) q s
        simp only [Instr.alloc, Sem.run_bind, run_zero hi hv, Result.andThen_ok, newVar, p, Sem.run_pure]
    · cases e
  · cases e

theorem op_box {t : TypeId} {x : Operand} {n : Nat} (ho : o.op = .box t x) (e : aop (.box t n) args h = some (r, h')) (ha : VRL μ args [ρ x]) (hr : Rel Λ μ h w) : OpS Λ P (execOp ρ o) μ h w r h' := by
  simp only [aop] at e
  split at e
  · rename_i x0
    split at e
    · rename_i hlen
      cases hn : newRow' h t n false x0.dat with
      | none => rw [hn] at e; cases e
      | some h1 =>
        rw [hn] at e; cases e
        obtain ⟨a, ea, v⟩ := VRL.one ha
        cases ea
        have hval : x0.isVal = true := by
          cases x0 <;> first | rfl | (simp [AV.dat, Dat.len] at hlen; omega)
        have hd := VR.dat v hval
        have hsz : (ρ x).cells.size = 1 * n := by have := hd.1; rw [Array.length_toList] at this; omega
        obtain ⟨p, q, s⟩ := new_row (P := P) hr hn (by simpa using hd.pre []) 1 hsz (by omega) (fun _ => by omega)
        simp only [execOp, ho]
        refine opS_val (cv := .pointer (some ⟨w.heap.size, 0, none⟩)) ?_ (by simp only [VR]; exact ⟨_, Mu.with_same _ _ _, rfl⟩) q s
        simp only [Instr.box, Sem.run_bind, newVar, p, Result.andThen_ok, Sem.run_pure]
    · cases e
  · cases e

theorem op_store {t : TypeId} {x y : Operand} {n : Nat} (ho : o.op = .store t x y) (hn : sizeT P t = some n) (e : aop (.store n) args h = some (r, h')) (ha : VRL μ args [ρ x, ρ y]) (hr : Rel Λ μ h w) : OpS Λ P (execOp ρ o) μ h w r h' := by
  simp only [aop] at e
  split at e
  · rename_i id off v
    split at e
    · rename_i e0 es soft d hg
      split at e
      · rename_i hc
        cases hp : d.put off v.dat with
        | none => rw [hp] at e; cases e
        | some d' =>
          rw [hp] at e; cases e
          obtain ⟨a, b, ea, v1, v2⟩ := VRL.two ha
          simp only [List.cons.injEq, and_true] at ea
          obtain ⟨e1, e2⟩ := ea
          rw [← e1] at v1; rw [← e2] at v2
          have hval : v.isVal = true := by
            cases v <;> first | rfl | (simp [AV.dat, Dat.len] at hc; omega)
          have hd := VR.dat v2 hval
          simp only [VR] at v1; obtain ⟨l, hl, hx⟩ := v1
          obtain ⟨w', p, q, s⟩ := put_row (P := P) hr hg hl hp hd
          refine ⟨μ, w', undef, .inr ⟨rfl, ?_⟩, by simp only [VR, VRL]; exact ⟨[], rfl, rfl⟩, q, s⟩
          have hsz : (ρ y).cells.size = n := by have := hd.1; rw [Array.length_toList] at this; omega
          simp only [execOp, ho, Instr.storeAt, hx, Instr.sureAddr, Sem.run_bind, Sem.run_pure, Result.andThen_ok, storeVar, run_size hn, hsz, ne_eq, not_true_eq_false, if_false, p]
      · cases e
    · cases e
  · cases e

theorem op_mkmap {t : TypeId} (ho : o.op = .makeMap t none) (e : aop .mkmap args h = some (r, h')) (hr : Rel Λ μ h w) : OpS Λ P (execOp ρ o) μ h w r h' := by
  simp only [aop] at e
  cases e
  obtain ⟨q, s⟩ := hr.new (.map [] 0) (.map #[] 0) ⟨w.heap.size, 0, 0⟩ rfl (fun μ' _ => ⟨[], by simp, by simp [EntR]⟩)
  simp only [execOp, ho]
  refine opS_val (cv := .map (some w.heap.size)) ?_ (by simp only [VR]; exact ⟨_, Mu.with_same _ _ _, rfl⟩) q s
  simp [Instr.makeMap]

/-- zero cells, many times -/
theorem rep_cells {z : Dat} {zs : Array Value} (hz : DatC μ z zs.toList) (n : Nat) (hl : (z.rep n).len = n * z.len) :
    DatC μ (z.rep n) ((Array.range (n * zs.size)).map (zs[· % zs.size]!)).toList := by
  have hzl : zs.size = z.len := by have := hz.1; rwa [Array.length_toList] at this
  refine ⟨by simp [hl, hzl], fun i x hx => ?_⟩
  have hi : i < n * z.len := by rw [← hl]; exact Dat.get_lt hx
  rw [Dat.rep_spec z n hl i hi] at hx
  obtain ⟨c, p, q⟩ := hz.2 _ _ hx
  refine ⟨c, ?_, q⟩
  have hzp : 0 < z.len := by
    rcases Nat.eq_zero_or_pos z.len with h0 | h0
    · rw [h0] at hi; omega
    · exact h0
  have hm : i % z.len < zs.size := by rw [hzl]; exact Nat.mod_lt _ hzp
  have hi2 : i < n * zs.size := by rw [hzl]; exact hi
  rw [Array.getElem?_toList]
  simp only [Array.getElem?_map, Array.getElem?_range, hi2, if_true, Option.map_some]
  rw [← hzl] at p
  rw [Array.getElem?_toList] at p
  have hm' : i % zs.size < zs.size := by rw [hzl] at hm ⊢; exact hm
  rw [Array.getElem?_eq_getElem hm'] at p
  rw [getElem!_pos zs (i % zs.size) hm']
  exact p

theorem fold_set (off : Nat) : ∀ (l : List Value) (s : Nat) (cells : Array Value), off + s + l.length ≤ cells.size →
    ((l.zipIdx s).foldl (fun cs (p : Value × Nat) => cs.setIfInBounds (off + p.2) p.1) cells).size = cells.size ∧
    ∀ k, ((l.zipIdx s).foldl (fun cs (p : Value × Nat) => cs.setIfInBounds (off + p.2) p.1) cells)[k]? = if off + s ≤ k ∧ k < off + s + l.length then l[k - (off + s)]? else cells[k]?
  | [], s, cells, _ => ⟨by simp, fun k => by rw [if_neg (by simp)]; simp⟩
  | v :: l, s, cells, h => by
    simp only [List.length_cons] at h
    obtain ⟨p, q⟩ := fold_set off l (s + 1) (cells.setIfInBounds (off + s) v) (by simp; omega)
    simp only [List.zipIdx_cons, List.foldl_cons]
    refine ⟨by rw [p]; simp, fun k => ?_⟩
    rw [q k]
    simp only [List.length_cons]
    by_cases h1 : off + (s + 1) ≤ k ∧ k < off + (s + 1) + l.length
    · rw [if_pos h1, if_pos (by omega), show k - (off + s) = (k - (off + (s + 1))) + 1 by omega]; simp
    · rw [if_neg h1, Array.getElem?_setIfInBounds]
      by_cases h2 : off + s = k
      · rw [if_pos h2, if_pos (by omega), if_pos (by omega), show k - (off + s) = 0 by omega]; simp
      · rw [if_neg h2, if_neg (by omega)]

theorem fold_datC {d d' e : Dat} {off : Nat} {cells vs : Array Value} (hp : d.put off e = some d') (hd : DatC μ d cells.toList) (he : DatC μ e vs.toList) :
    DatC μ d' (vs.zipIdx.foldl (fun cs (c, j) => cs.setIfInBounds (off + j) c) cells).toList := by
  obtain ⟨u1, u2⟩ := Dat.put_len hp
  have hcs : cells.size = d.len := by have := hd.1; rwa [Array.length_toList] at this
  have hvs : vs.toList.length = e.len := he.1
  obtain ⟨p, q⟩ := fold_set off vs.toList 0 cells (by omega)
  have e1 : (vs.zipIdx.foldl (fun cs (c, j) => cs.setIfInBounds (off + j) c) cells) = (vs.toList.zipIdx 0).foldl (fun cs (p : Value × Nat) => cs.setIfInBounds (off + p.2) p.1) cells := by
    rw [← Array.foldl_toList]
    simp
  rw [e1]
  refine ⟨by rw [Array.length_toList, p, hcs, u1], fun i x hx => ?_⟩
  rw [Array.getElem?_toList, q i]
  by_cases hi : off ≤ i ∧ i < off + e.len
  · rw [Dat.get_put_in hp i hi] at hx
    obtain ⟨c, a, b⟩ := he.2 _ _ hx
    exact ⟨c, by rw [if_pos (by omega)]; exact a, b⟩
  · rw [Dat.get_put_out hp i hi] at hx
    obtain ⟨c, a, b⟩ := hd.2 _ _ hx
    exact ⟨c, by rw [if_neg (by omega), ← Array.getElem?_toList]; exact a, b⟩

theorem fills_ok {place : Nat → Option (Nat × Nat)} : ∀ {pl : List (Nat × Nat)} {ix : List Nat} {as : List AV} {vs : List Value} {d d' : Dat} {cells : Array Value},
    fills pl as d = some d' → VRL μ as vs → (ix.map place = pl.map some) → DatC μ d cells.toList →
    ∃ cells', Instr.fill place cells (ix.zip vs) = some cells' ∧ DatC μ d' cells'.toList
  | [], ix, as, vs, d, d', cells, hf, hv, hi, hd => by
    cases as with
    | nil =>
      simp only [fills] at hf; cases hf
      have : ix = [] := by simpa using hi
      subst this
      exact ⟨cells, by simp [Instr.fill], hd⟩
    | cons => simp [fills] at hf
  | (off, size) :: pl, ix, as, vs, d, d', cells, hf, hv, hi, hd => by
    cases as with
    | nil => simp [fills] at hf
    | cons a as =>
      cases ix with
      | nil => simp at hi
      | cons j ix =>
        simp only [List.map_cons, List.cons.injEq] at hi
        obtain ⟨hj, hi⟩ := hi
        simp only [VRL] at hv
        obtain ⟨x, xs, rfl, hx, hxs⟩ := hv
        simp only [fills] at hf
        split at hf
        · rename_i hlen
          cases hp : d.put off a.dat with
          | none => rw [hp] at hf; cases hf
          | some d1 =>
            rw [hp] at hf
            simp only [Option.bind_some] at hf
            have hval : a.isVal = true := by
              cases a <;> first | rfl | (simp [AV.dat, Dat.len] at hlen; omega)
            have hda := VR.dat hx hval
            have hsz : x.cells.size = size := by have := hda.1; rw [Array.length_toList] at this; omega
            obtain ⟨u1, u2⟩ := Dat.put_len hp
            have hcs : cells.size = d.len := by have := hd.1; rwa [Array.length_toList] at this
            have hd1 : DatC μ d1 (x.cells.zipIdx.foldl (fun cs (c, j) => cs.setIfInBounds (off + j) c) cells).toList := fold_datC hp hd hda
            obtain ⟨cells', p, q⟩ := fills_ok hf hxs hi hd1
            refine ⟨cells', ?_, q⟩
            simp only [List.zip_cons_cons, Instr.fill, hj]
            rw [if_neg (by simp [hsz]; omega)]
            exact p
        · cases hf

theorem zip_parts (ps : Array (Nat × Operand)) : (ps.toList.map (·.1)).zip ((ps.toList.map (·.2)).map ρ) = (ps.map fun (i, x) => (i, ρ x)).toList := by
  rw [Array.toList_map]
  induction ps.toList with
  | nil => rfl
  | cons p l ih => simp only [List.map_cons, List.zip_cons_cons, ih]

theorem parts_ops {ps : Array (Nat × Operand)} : ((ps.toList.map (·.2)).toArray.toList.map ρ) = (ps.toList.map (·.2)).map ρ := by simp

theorem op_bslice {t el : TypeId} {len n : Nat} {z : Dat} {ps : Array (Nat × Operand)} (ho : o.op = .buildSlice t len ps) (ht : P.underlying t = some (.slice el)) (hz : zeroD P el = some z) (hn : sizeT P el = some n) (hlim : len * n ≤ 2 ^ 24) (hzn : z.len = n) (hn0 : 0 < n)
    (e : aop (.bslice el n len z (ps.toList.map (·.1))) args h = some (r, h')) (ha : VRL μ args ((ps.toList.map (·.2)).map ρ)) (hr : Rel Λ μ h w) : OpS Λ P (execOp ρ o) μ h w r h' := by
  simp only [aop] at e
  cases hf : fills ((ps.toList.map (·.1)).map fun i => (i * n, n)) args (z.rep len) with
  | none => rw [hf] at e; cases e
  | some d =>
    rw [hf] at e
    simp only [Option.bind_some] at e
    split at e
    · rename_i hlen
      cases hnr : newRow' h el n false d with
      | none => rw [hnr] at e; cases e
      | some h1 =>
        rw [hnr] at e; cases e
        obtain ⟨i, v, hi, hv, hd⟩ := zeroD_ok hz μ
        have hvs : v.cells.size = n := by have := hd.1; rw [Array.length_toList] at this; omega
        have hrl : (z.rep len).len = len * z.len := by
          have : ∀ (pl : List (Nat × Nat)) (as : List AV) (a b : Dat), fills pl as a = some b → b.len = a.len := by
            intro pl
            induction pl with
            | nil => intro as a b hh; cases as with
              | nil => simp only [fills] at hh; cases hh; rfl
              | cons => simp [fills] at hh
            | cons p pl ih => intro as a b hh; cases as with
              | nil => simp [fills] at hh
              | cons x as =>
                simp only [fills] at hh
                split at hh
                · cases hp : a.put p.1 x.dat with
                  | none => rw [hp] at hh; cases hh
                  | some c =>
                    rw [hp] at hh
                    rw [ih as c b hh, (Dat.put_len hp).1]
                · cases hh
          rw [← this _ _ _ _ hf, hlen, hzn]
        have hcells := rep_cells hd len hrl
        obtain ⟨cells', q1, q2⟩ := fills_ok (ix := ps.toList.map (·.1)) (place := fun i => some (i * n, n)) hf ha (by simp only [List.map_map]; rfl) hcells
        have hsz : cells'.size = len * n := by have := q2.1; rw [Array.length_toList] at this; omega
        obtain ⟨p, q, s⟩ := new_row (P := P) hr hnr (by simpa using q2.pre []) len hsz (by omega) (fun _ => by omega)
        simp only [execOp, ho]
        refine opS_val (cv := .slice (some ⟨w.heap.size, 0, none⟩) len len) ?_ (by simp only [VR]; exact ⟨_, Mu.with_same _ _ _, rfl⟩) q s
        rw [zip_parts] at q1
        have hno : ¬ len * n > 2 ^ 24 := by omega
        simp only [Instr.buildSlice, Sem.run_bind, run_und ht, Result.andThen_ok, run_size hn, hno, if_false]
        by_cases h0 : len * n = 0
        · have hl0 : len = 0 := by
            rcases Nat.eq_zero_or_pos len with h1 | h1
            · exact h1
            · have := Nat.mul_pos h1 hn0; omega
          subst hl0
          have q3 : Instr.fill (fun i => some (i * n, n)) ((Array.range (0 * n)).map fun x => (#[] : Array Value)[x % (#[] : Array Value).size]!) (ps.map fun (i, x) => (i, ρ x)).toList = some cells' := by
            rw [← q1]; congr 1; simp
          simp only [Nat.zero_mul, if_true] at q3 ⊢
          simp only [Sem.run_bind, q3, Result.andThen_ok, p, Sem.run_pure]
        · rw [hvs] at q1
          simp only [h0, if_false, Sem.run_bind, run_zero hi hv, Result.andThen_ok, Sem.run_pure, hvs, q1, p]
    · cases e

end
end Go.Proofs.Ytjdemlagmamlbaa
