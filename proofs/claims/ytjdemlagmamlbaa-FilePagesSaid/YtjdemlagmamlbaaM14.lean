/- Soundness of the operations: append's own text, clear; all operations together. -/
import Derived.Test.YtjdemlagmamlbaaM13b
import Derived.Laws.BytesArg
namespace Go.Proofs.Ytjdemlagmamlbaa
variable {Λ : Lam}

section
variable {P : Program} {o : Oper} {ρ : Operand → Value} {μ : Mu} {h h' : AHeap} {w : World} {args : List AV} {r : AV}

theorem bytesT_ok {t : TypeId} {b : Nat} (hb : bytesT P t = some b) : ∃ i, P.info? t = some i ∧ i.bytes = b := by
  unfold bytesT at hb
  cases hti : P.info? t with
  | none => rw [hti] at hb; cases hb
  | some ti => rw [hti] at hb; cases hb; exact ⟨ti, rfl, rfl⟩

theorem op_append {c : Call} {t t1 el el1 : TypeId} {n b : Nat} {z : Dat} (ho : o.op = .call c) (hb : c.callee = .builtin .append) (h0 : c.argTypes[0]? = some t) (ht : P.underlying t = some (.slice el)) (h1 : c.argTypes[1]? = some t1) (ht1 : P.underlying t1 = some (.slice el1))
    (hn : sizeT P el = some n) (hby : bytesT P el = some b) (hz : zeroD P el = some z) (hzn : z.len = n)
    (e : aop (.append el n b z) args h = some (r, h')) (ha : VRL μ args (c.args.toList.map ρ)) (hr : Rel Λ μ h w) : OpS Λ P (execOp ρ o) μ h w r h' := by
  simp only [aop] at e
  split at e
  · rename_i s x
    split at e
    · rename_i k new hk hnew
      obtain ⟨a1, a2, ea, v1, v2⟩ := VRL.two ha
      obtain ⟨xa, xc, rfl⟩ := sliceLen_ok hk v2
      obtain ⟨i, zv, hi, hzv, hd⟩ := zeroD_ok hz μ
      have hzs : zv.cells.size = n := by have := hd.1; rw [Array.length_toList] at this; omega
      obtain ⟨i', hi', hib⟩ := bytesT_ok hby
      rw [hi] at hi'; cases hi'
      obtain ⟨cs, p, q⟩ := sliceDat_all (P := P) hr hnew hk v2
      have hsl : ∃ base sLen sCap, a1 = .slice base sLen sCap := by
        unfold appendTo at e
        split at e
        · split at e
          · simp only [VR] at v1; obtain ⟨l, _, rfl⟩ := v1; exact ⟨_, _, _, rfl⟩
          · simp only [VR] at v1; obtain ⟨l, _, _, rfl⟩ := v1; exact ⟨_, _, _, rfl⟩
          · simp only [VR] at v1; exact ⟨_, _, _, v1⟩
          · simp only [VR] at v1; obtain ⟨a, c, rfl⟩ := v1; exact ⟨_, _, _, rfl⟩
          · cases e
        · split at e
          · simp only [VR] at v1; exact ⟨_, _, _, v1⟩
          · simp only [VR] at v1; obtain ⟨l, _, rfl⟩ := v1; exact ⟨_, _, _, rfl⟩
          · simp only [VR] at v1; obtain ⟨l, _, _, rfl⟩ := v1; exact ⟨_, _, _, rfl⟩
          · cases e
      obtain ⟨base, sLen, sCap, rfl⟩ := hsl
      obtain ⟨⟨μ', w', cv, r1, r2, r3, r4⟩, hroom⟩ := append_core (P := P) (appended := Builtin.firstCells n k (.slice xa k xc)) hr e v1 hi hzv hzs (fun d' => p _ rfl) q (sliceDat_len hnew hk)
      refine ⟨μ', w', cv, .inl (exec_builtin ho hb (fun _ => rfl) ?_), r2, r3, r4⟩
      rw [args_two ea]
      simp only [Builtin.append_, h0, h1]
      simp only [List.getElem?_toArray, List.getElem?_cons_zero, List.getElem?_cons_succ]
      simp only [Sem.run_bind, run_und ht, run_und ht1, Result.andThen_ok, Builtin.lenOf, Sem.run_pure, run_size hn, Bool.false_eq_true, if_false, Bool.not_false, if_true]
      rw [← r1]
      unfold appTail
      simp only
      by_cases hle : sLen + k ≤ sCap
      · simp only [hle, if_true]
        rfl
      · have hrm := hroom.resolve_left hle
        have hnx := next_room (need := sLen + k) (old := sCap) (b := b) (by omega) hrm.1
        have hmx : ¬ (((sLen + k : Nat) : Int) > IntKind.i64.max ∧ (False ∨ b = 0)) := by
          intro hh
          have : IntKind.i64.max = 9223372036854775807 := by decide
          omega
        simp only [hle, if_false, Sem.run_bind, run_info hi, Result.andThen_ok, hib, hmx, hnx]
    · cases e
  · cases e

theorem op_appendz {c : Call} {t t1 el : TypeId} {k1 : IntKind} {n b : Nat} {z : Dat} (ho : o.op = .call c) (hb : c.callee = .builtin .append) (h0 : c.argTypes[0]? = some t) (ht : P.underlying t = some (.slice el)) (h1 : c.argTypes[1]? = some t1) (ht1 : P.underlying t1 = some (.int k1))
    (hn : sizeT P el = some n) (hby : bytesT P el = some b) (hz : zeroD P el = some z) (hzn : z.len = n)
    (e : aop (.appendz el n b z) args h = some (r, h')) (ha : VRL μ args (c.args.toList.map ρ)) (hr : Rel Λ μ h w) : OpS Λ P (execOp ρ o) μ h w r h' := by
  simp only [aop] at e
  split at e
  · rename_i s kk m
    split at e
    · rename_i hc
      obtain ⟨c1, c2, c3, c4⟩ := hc
      obtain ⟨a1, a2, ea, v1, v2⟩ := VRL.two ha
      have hv2 := VR.int v2
      subst hv2
      obtain ⟨i, zv, hi, hzv, hd⟩ := zeroD_ok hz μ
      have hzs : zv.cells.size = n := by have := hd.1; rw [Array.length_toList] at this; omega
      obtain ⟨i', hi', hib⟩ := bytesT_ok hby
      rw [hi] at hi'; cases hi'
      have hcells := rep_cells hd m.toNat (by rw [c4, hzn])
      have hsl : ∃ base sLen sCap, a1 = .slice base sLen sCap := by
        unfold appendTo at e
        split at e
        · split at e
          · simp only [VR] at v1; obtain ⟨l, _, rfl⟩ := v1; exact ⟨_, _, _, rfl⟩
          · simp only [VR] at v1; obtain ⟨l, _, _, rfl⟩ := v1; exact ⟨_, _, _, rfl⟩
          · simp only [VR] at v1; exact ⟨_, _, _, v1⟩
          · simp only [VR] at v1; obtain ⟨a, c, rfl⟩ := v1; exact ⟨_, _, _, rfl⟩
          · cases e
        · split at e
          · simp only [VR] at v1; exact ⟨_, _, _, v1⟩
          · simp only [VR] at v1; obtain ⟨l, _, rfl⟩ := v1; exact ⟨_, _, _, rfl⟩
          · simp only [VR] at v1; obtain ⟨l, _, _, rfl⟩ := v1; exact ⟨_, _, _, rfl⟩
          · cases e
      obtain ⟨base, sLen, sCap, rfl⟩ := hsl
      have happ : ∀ d', (if m.toNat * n = 0 then pure #[] else do pure (Builtin.zeroCells (← zeroValue el).cells m.toNat) : Sem (Array Value)).run P { w with drawn := d' } = .ok (((Array.range (m.toNat * zv.cells.size)).map (zv.cells[· % zv.cells.size]!)).toList).toArray { w with drawn := d' } := by
        intro d'
        by_cases hz0 : m.toNat * n = 0
        · rw [if_pos hz0, hzs, hz0]; simp
        · rw [if_neg hz0]
          simp only [Sem.run_bind, run_zero hi hzv, Result.andThen_ok, Builtin.zeroCells, Sem.run_pure]
      obtain ⟨⟨μ', w', cv, r1, r2, r3, r4⟩, hroom⟩ := append_core (P := P) hr e v1 hi hzv hzs happ hcells c4
      refine ⟨μ', w', cv, .inl (exec_builtin ho hb (fun _ => rfl) ?_), r2, r3, r4⟩
      rw [args_two ea]
      simp only [Builtin.append_, h0, h1]
      simp only [List.getElem?_toArray, List.getElem?_cons_zero, List.getElem?_cons_succ]
      have h64 : IntKind.i64.wrap m = m := i64_small c1 c3
      have hml : ¬ m < 0 := by omega
      have hbig : ¬ (m * (b : Int) > 2 ^ 48) := by omega
      simp only [Sem.run_bind, run_und ht, run_und ht1, Result.andThen_ok, asInt, asIntOf, Sem.run_pure, run_size hn, run_info hi, hib, if_true, h64, hml, hbig, if_false, Bool.not_true, Bool.false_eq_true]
      rw [← r1]
      unfold appTail
      simp only
      by_cases hle : sLen + m.toNat ≤ sCap
      · simp only [hle, if_true]
        rfl
      · have hrm := hroom.resolve_left hle
        have hnx := next_room (need := sLen + m.toNat) (old := sCap) (b := b) (by omega) hrm.1
        have hmx : ¬ (((sLen + m.toNat : Nat) : Int) > IntKind.i64.max ∧ (True ∨ b = 0)) := by
          intro hh
          have : IntKind.i64.max = 9223372036854775807 := by decide
          omega
        simp only [hle, if_false, Sem.run_bind, run_info hi, Result.andThen_ok, hib, hmx, hnx]
    · cases e
  · cases e

theorem zeroCells_eq {zs : Array Value} (n : Nat) : Builtin.zeroCells zs n = (Array.range (n * zs.size)).map (zs[· % zs.size]!) := rfl

theorem op_clear {c : Call} {t el : TypeId} {n : Nat} {z : Dat} (ho : o.op = .call c) (hb : c.callee = .builtin .clear) (h0 : c.argTypes[0]? = some t) (ht : P.underlying t = some (.slice el))
    (hz : zeroD P el = some z) (hzn : z.len = n) (e : aop (.clear n z) args h = some (r, h')) (ha : VRL μ args (c.args.toList.map ρ)) (hr : Rel Λ μ h w) : OpS Λ P (execOp ρ o) μ h w r h' := by
  have hun : ∀ μ : Mu, VR μ (.tuple []) (.tuple #[]) := fun μ => by simp only [VR, VRL]; exact ⟨[], rfl, rfl⟩
  obtain ⟨i, zv, hi, hzv, hd⟩ := zeroD_ok hz μ
  have none' : ∀ {a m k}, m = 0 ∨ a = none → c.args.toList.map ρ = [Value.slice a m k] → r = .tuple [] → h' = h → OpS Λ P (execOp ρ o) μ h w r h' := by
    intro a m k hm ea e1 e2
    subst e1 e2
    refine opS_builtin (cv := .tuple #[]) ho hb (fun _ => rfl) hr ?_ (hun μ)
    have : c.args.map ρ = #[Value.slice a m k] := by apply Array.ext'; simpa using ea
    rw [this]
    simp only [Builtin.clear_, h0]
    rcases hm with rfl | rfl
    · cases a <;> simp [run_und ht]
    · cases m <;> simp [run_und ht]
  have fin : ∀ {id e0 es0 soft t0 t1} {off len k : Nat} {l : Loc}, len ≠ 0 → h.get id = some (.row e0 es0 soft false t0) → (z.rep len).len = len * n → t0.put off (z.rep len) = some t1 → μ id = some l →
      c.args.toList.map ρ = [Value.slice (some ⟨l.block, l.off + off, none⟩) len k] → OpS Λ P (execOp ρ o) μ h w (.tuple []) (h.put id (.row e0 es0 soft false t1)) := by
    intro id e0 es0 soft t0 t1 off len k l hlen hg hrl hp hl ea
    have hcells := rep_cells hd len (by rw [hrl, hzn])
    obtain ⟨w', p, q, st⟩ := put_row (P := P) hr hg hl hp hcells
    refine ⟨μ, w', .tuple #[], .inl (exec_builtin ho hb (fun _ => rfl) ?_), hun μ, q, st⟩
    have : c.args.map ρ = #[Value.slice (some ⟨l.block, l.off + off, none⟩) len k] := by apply Array.ext'; simpa using ea
    rw [this]
    simp only [Builtin.clear_, h0]
    simp only [List.getElem?_toArray, List.getElem?_cons_zero]
    obtain ⟨len', rfl⟩ : ∃ j, len = j + 1 := ⟨len - 1, by omega⟩
    simp only [Sem.run_bind, run_und ht, Result.andThen_ok, run_zero hi hzv, zeroCells_eq, p, Sem.run_pure]
  simp only [aop] at e
  split at e
  · cases e
    obtain ⟨a, ea, v⟩ := VRL.one ha
    simp only [VR] at v; subst v
    exact none' (.inl rfl) ea rfl rfl
  · cases e
    obtain ⟨a, ea, v⟩ := VRL.one ha
    simp only [VR] at v; obtain ⟨x, k, rfl⟩ := v
    exact none' (.inl rfl) ea rfl rfl
  · rename_i id off len cap
    obtain ⟨a, ea, v⟩ := VRL.one ha
    simp only [VR] at v; obtain ⟨l, hl, rfl⟩ := v
    split at e
    · rename_i h0; cases e; exact none' (.inl h0) ea rfl rfl
    · rename_i h0
      split at e
      · rename_i e0 es0 soft t0 hg
        split at e
        · rename_i hrl
          cases hp : t0.put off (z.rep len) with
          | none => rw [hp] at e; cases e
          | some t1 => rw [hp] at e; cases e; exact fin h0 hg hrl hp hl ea
        · cases e
      · cases e
  · rename_i id idx es2 len
    obtain ⟨a, ea, v⟩ := VRL.one ha
    simp only [VR] at v; obtain ⟨l, hl, _, rfl⟩ := v
    split at e
    · rename_i h0; cases e; exact none' (.inl h0) ea rfl rfl
    · rename_i h0
      split at e
      · rename_i e0 es0 soft t0 hg
        split at e
        · rename_i hrl
          cases hp : t0.put (idx * n) (z.rep len) with
          | none => rw [hp] at e; cases e
          | some t1 =>
            rw [hp] at e; cases e
            rw [hrl.1] at ea
            exact fin h0 hg hrl.2 hp hl ea
        · cases e
      · cases e
  · cases e

theorem packStr_eq (l n : Nat) : (strOfNums ((List.range l).map fun i => (byteAt n i : Int))) = packStr l n := by
  unfold strOfNums packStr
  congr 2
  rw [List.map_map]
  rfl

theorem op_tostr {s d el : TypeId} {x : Operand} (ho : o.op = .convert s d x) (hs : P.underlying s = some (.slice el)) (hel : P.underlying el = some (.int .u8)) (hd : P.underlying d = some .string)
    (e : aop .tostr args h = some (r, h')) (ha : VRL μ args [ρ x]) (hr : Rel Λ μ h w) : OpS Λ P (execOp ρ o) μ h w r h' := by
  simp only [aop] at e
  split at e
  · rename_i y
    obtain ⟨a, ea, v⟩ := VRL.one ha
    cases ea
    have key : ∀ {n : Nat} {dd : Dat} {b : ByteArray}, sliceDat h 1 y = some dd → sliceLen y = some n → (∀ cs : List Value, DatC μ dd cs → ∃ ns : List Int, cs = ns.map (Value.int .u8) ∧ strOfNums ns = b) → r = .str b → h' = h → OpS Λ P (execOp ρ o) μ h w r h' := by
      intro n dd b h1 h2 h3 h4 h5
      subst h4; subst h5
      obtain ⟨cs, p, q⟩ := sliceDat_all (P := P) hr h1 h2 v
      obtain ⟨ns, rfl, hb⟩ := h3 cs q
      obtain ⟨a1, c1, hx⟩ := sliceLen_ok h2 v
      simp only [execOp, ho]
      refine opS_pval hr (cv := .string b) ?_ (by simp [VR])
      rw [hx, run_convert_bytes_string w s d el a1 n c1 hs hel hd]
      have p' := p w rfl
      rw [hx] at p'
      cases a1 with
      | none =>
        simp only [Builtin.firstCells, Sem.run_pure, Result.ok.injEq, and_true] at p'
        have : ns = [] := by
          have := congrArg Array.size p'
          simpa using this.symm
        subst this
        rw [← hb]
        simp [Conv.bytesToString, strOfNums]
        rfl
      | some a1 =>
        simp only [Builtin.firstCells, Nat.mul_one] at p'
        rw [run_bytesToString w a1 n c1 ns p', foldl_push_bytes, ← hb]
        simp [strOfNums, ByteArray.empty, ByteArray.emptyWithCapacity]
        rfl
    have hlen : ∀ {dd}, sliceDat h 1 y = some dd → ∃ n, sliceLen y = some n := by
      intro dd hd
      unfold sliceDat at hd
      split at hd <;> first | (cases hd; done) | exact ⟨_, rfl⟩
    split at e
    · rename_i l n hsd
      cases e
      obtain ⟨k, hk⟩ := hlen hsd
      refine key hsd hk (fun cs hcs => ⟨(List.range l).map fun i => (byteAt n i : Int), ?_, packStr_eq l n⟩) rfl rfl
      apply List.ext_getElem?
      intro i
      have hl := hcs.1
      simp only [Dat.len] at hl
      by_cases hi : i < l
      · obtain ⟨c, h1, h2, _⟩ := hcs.2 i (.int .u8 (byteAt n i)) (by simp [Dat.get, hi])
        rw [h1]
        simp only [VR] at h2
        subst h2
        simp [hi]
      · rw [List.getElem?_eq_none (by omega), List.getElem?_eq_none (by simpa using hi)]
    · rename_i hsd
      cases e
      obtain ⟨k, hk⟩ := hlen hsd
      refine key hsd hk (fun cs hcs => ⟨[], ?_, rfl⟩) rfl rfl
      have := hcs.1
      simp only [Dat.len, List.length_nil] at this
      exact List.length_eq_zero_iff.1 this
    · cases e
  · cases e

theorem op_sound (e : aop (trOp P o.op) args h = some (r, h')) (ha : VRL μ args (o.op.operands.toList.map ρ)) (hr : Rel Λ μ h w) : OpS Λ P (execOp ρ o) μ h w r h' := by
  cases ho : o.op with
  | move x => rw [ho] at e ha; exact op_mv (.inl ho) e (by simpa [Op.operands] using ha) hr
  | assign x => rw [ho] at e ha; exact op_mv (.inr ho) e (by simpa [Op.operands] using ha) hr
  | pick c x y => rw [ho] at e ha; exact op_pick ho e (by simpa [Op.operands] using ha) hr
  | alloc t =>
    rw [ho] at e ha
    simp only [trOp] at e
    split at e
    · rename_i z n hz hn; exact op_alloc ho hz e hr
    · simp [aop] at e
  | box t x =>
    rw [ho] at e ha
    simp only [trOp] at e
    split at e
    · exact op_box ho e (by simpa [Op.operands] using ha) hr
    · simp [aop] at e
  | build t ps =>
    rw [ho] at e ha
    simp only [trOp] at e
    have ha' : VRL μ args ((ps.toList.map (·.2)).map ρ) := by simpa [Op.operands] using ha
    split at e
    · rename_i z fs hz ht
      split at e
      · rename_i hc
        simp only [Bool.and_eq_true] at hc
        split at e
        · rename_i pl hpl; exact op_build ho ht hz hc.2 hc.1 hpl e ha' hr
        · simp [aop] at e
      · simp [aop] at e
    · rename_i z len el hz ht
      split at e
      · rename_i n hn
        split at e
        · rename_i hv; exact op_builda ho ht hz hv hn e ha' hr
        · simp [aop] at e
      · simp [aop] at e
    · simp [aop] at e
  | buildSlice t len ps =>
    rw [ho] at e ha
    simp only [trOp] at e
    have ha' : VRL μ args ((ps.toList.map (·.2)).map ρ) := by simpa [Op.operands] using ha
    split at e
    · rename_i el ht
      split at e
      · rename_i z n hz hn
        split at e
        · rename_i hc; exact op_bslice ho ht hz hn hc.1 hc.2.1 hc.2.2 e ha' hr
        · simp [aop] at e
      · simp [aop] at e
    · simp [aop] at e
  | load t x =>
    rw [ho] at e ha
    simp only [trOp] at e
    have ha' : VRL μ args [ρ x] := by simpa [Op.operands] using ha
    split at e
    · rename_i n hb hn; exact op_loadn ho hb hn e ha' hr
    · rename_i hb; exact op_load1 ho hb e ha' hr
    · simp [aop] at e
  | store t x y =>
    rw [ho] at e ha
    simp only [trOp] at e
    split at e
    · rename_i n hn; exact op_store ho hn e (by simpa [Op.operands] using ha) hr
    · simp [aop] at e
  | nilCheck x => rw [ho] at e ha; exact op_nilCheck ho e (by simpa [Op.operands] using ha) hr
  | binOp op t x y u =>
    rw [ho] at e ha
    have ha' : VRL μ args [ρ x, ρ y] := by simpa [Op.operands] using ha
    cases op <;> simp only [trOp] at e
    case eql =>
      split at e
      · exact op_bin ho e ha' hr
      · split at e
        · rename_i k hk; exact op_eqv (neg := false) (by simpa using ho) hk e ha' hr
        · simp [aop] at e
    case neq =>
      split at e
      · exact op_bin ho e ha' hr
      · split at e
        · rename_i k hk; exact op_eqv (neg := true) (by simpa using ho) hk e ha' hr
        · simp [aop] at e
    all_goals exact op_bin ho e ha' hr
  | unOp u t x => rw [ho] at e ha; exact op_un ho e (by simpa [Op.operands] using ha) hr
  | convert s d x =>
    rw [ho] at e ha
    simp only [trOp] at e
    split at e
    · rename_i ds k hs hd; exact op_conv ho hs hd e (by simpa [Op.operands] using ha) hr
    · rename_i el hs hd
      split at e
      · rename_i he; exact op_tostr ho hs he hd e (by simpa [Op.operands] using ha) hr
      · simp [aop] at e
    · simp [aop] at e
  | sliceToArrayPointer t x =>
    rw [ho] at e ha
    simp only [trOp] at e
    split at e
    · rename_i n el ht; exact op_sl2arr ho ht e (by simpa [Op.operands] using ha) hr
    · simp [aop] at e
  | makeFunc fn first captured =>
    rw [ho] at e ha
    cases fn with
    | func f => simp only [trOp] at e; exact op_mkfunc ho e (by simpa [Op.operands] using ha) hr
    | _ => simp [trOp, aop] at e
  | makeMap t rs =>
    rw [ho] at e ha
    cases rs with
    | none => simp only [trOp] at e; exact op_mkmap ho e hr
    | some _ => simp [trOp, aop] at e
  | makeSlice t a b =>
    rw [ho] at e ha
    simp only [trOp] at e
    split at e
    · rename_i el ht
      split at e
      · rename_i z n by' hz hn hby; exact op_mkslice ho ht hz hn hby e (by simpa [Op.operands] using ha) hr
      · simp [aop] at e
    · simp [aop] at e
  | slice t x lo hi mx =>
    rw [ho] at e ha
    simp only [trOp] at e
    have ha' : VRL μ args (ρ x :: optVals (lo.map ρ) (hi.map ρ) (mx.map ρ)) := by
      rw [← optOps]
      simpa [Op.operands] using ha
    split at e
    · rename_i el ht
      split at e
      · rename_i n hn; exact op_slice ho ht hn e ha' hr
      · simp [aop] at e
    · rename_i k el ht
      split at e
      · rename_i n hn; exact op_slicea ho ht hn e ha' hr
      · simp [aop] at e
    · simp [aop] at e
  | fieldAddr s x f =>
    rw [ho] at e ha
    simp only [trOp] at e
    split at e
    · rename_i fs ht
      split at e
      · rename_i fd hf
        split at e
        · rename_i n hn
          split at e
          · simp [aop] at e
          · rename_i h0; exact op_fieldAddr ho ht hf hn h0 e (by simpa [Op.operands] using ha) hr
        · simp [aop] at e
      · simp [aop] at e
    · simp [aop] at e
  | field t x f =>
    rw [ho] at e ha
    simp only [trOp] at e
    split at e
    · rename_i fs ht
      split at e
      · rename_i fd hf
        split at e
        · rename_i n b hn hb; exact op_field ho ht hf hn hb e (by simpa [Op.operands] using ha) hr
        · simp [aop] at e
      · simp [aop] at e
    · simp [aop] at e
  | indexAddr t x i =>
    rw [ho] at e ha
    simp only [trOp] at e
    split at e
    · rename_i n el ht
      split at e
      · rename_i k hk; exact op_indexa ho ht hk e (by simpa [Op.operands] using ha) hr
      · simp [aop] at e
    · rename_i el ht
      split at e
      · rename_i k hk; exact op_indexs ho ht hk e (by simpa [Op.operands] using ha) hr
      · simp [aop] at e
    · simp [aop] at e
  | index t x i =>
    rw [ho] at e ha
    simp only [trOp] at e
    split at e
    · rename_i n el ht
      split at e
      · rename_i k b hk hb; exact op_indexv ho ht hk hb e (by simpa [Op.operands] using ha) hr
      · simp [aop] at e
    · simp [aop] at e
  | lookup t x i ok =>
    rw [ho] at e ha
    simp only [trOp] at e
    split at e
    · rename_i k el ht
      split at e
      · rename_i q z hk hz; exact op_lookup ho ht hk hz e (by simpa [Op.operands] using ha) hr
      · simp [aop] at e
    · simp [aop] at e
  | mapUpdate t m i x =>
    rw [ho] at e ha
    simp only [trOp] at e
    split at e
    · rename_i k el ht
      split at e
      · rename_i q hk; exact op_mapput ho ht hk e (by simpa [Op.operands] using ha) hr
      · simp [aop] at e
    · simp [aop] at e
  | extract x i => rw [ho] at e ha; exact op_extract ho e (by simpa [Op.operands] using ha) hr
  | call c =>
    rw [ho] at e ha
    cases hc : c.callee with
    | value f => simp [trOp, hc, aop] at e
    | invoke _ _ => simp [trOp, hc, aop] at e
    | builtin b =>
      have ha' : VRL μ args (c.args.toList.map ρ) := by simpa [Op.operands, Call.operands, hc] using ha
      have argT : ∀ {i : Nat} {d : TypeDesc}, (c.argTypes[i]?).bind P.underlying = some d → ∃ t, c.argTypes[i]? = some t ∧ P.underlying t = some d := by
        intro i d hd
        cases hi : c.argTypes[i]? with
        | none => rw [hi] at hd; cases hd
        | some t => rw [hi] at hd; exact ⟨t, rfl, hd⟩
      simp only [trOp, hc] at e
      split at e
      · rename_i el hd; obtain ⟨t, h1, h2⟩ := argT hd; exact op_lens ho hc h1 h2 e ha' hr
      · rename_i k el hd; obtain ⟨t, h1, h2⟩ := argT hd; exact op_lenm ho hc h1 h2 e ha' hr
      · rename_i n el hd; obtain ⟨t, h1, h2⟩ := argT hd; exact op_lenc ho hc h1 h2 e ha' hr
      · rename_i el hd; obtain ⟨t, h1, h2⟩ := argT hd; exact op_cap ho hc h1 h2 e ha' hr
      · rename_i el hd
        obtain ⟨t, h1, h2⟩ := argT hd
        split at e
        · rename_i n b z k hn hby hz hd1
          obtain ⟨t1, h3, h4⟩ := argT hd1
          split at e
          · rename_i hh; exact op_appendz ho hc h1 h2 h3 h4 hn hby hz hh.1 e ha' hr
          · simp [aop] at e
        · rename_i n b z k hn hby hz hd1
          obtain ⟨t1, h3, h4⟩ := argT hd1
          split at e
          · rename_i hh; exact op_append ho hc h1 h2 h3 h4 hn hby hz hh.1 e ha' hr
          · simp [aop] at e
        · simp [aop] at e
      · rename_i el hd
        obtain ⟨t, h1, h2⟩ := argT hd
        split at e
        · rename_i n hn; exact op_copy ho hc h1 h2 hn e ha' hr
        · simp [aop] at e
      · rename_i k el hd
        obtain ⟨t, h1, h2⟩ := argT hd
        split at e
        · rename_i q hk; exact op_delete ho hc h1 h2 hk e ha' hr
        · simp [aop] at e
      · rename_i el hd
        obtain ⟨t, h1, h2⟩ := argT hd
        split at e
        · rename_i n z hn hz
          split at e
          · rename_i hh; exact op_clear ho hc h1 h2 hz hh.1 e ha' hr
          · simp [aop] at e
        · simp [aop] at e
      · exact op_min ho hc e ha' hr
      · exact op_max ho hc e ha' hr
      · simp [aop] at e
  | defer c =>
    rw [ho] at e
    cases hc : c.callee <;> simp [trOp, hc, aop] at e
  | range t x =>
    rw [ho] at e ha
    simp only [trOp] at e
    split at e
    · rename_i k el ht; exact op_range ho ht e (by simpa [Op.operands] using ha) hr
    · simp [aop] at e
  | entry x => rw [ho] at e ha; exact op_entry ho e (by simpa [Op.operands] using ha) hr
  | next x b => rw [ho] at e; cases b <;> simp [trOp, aop] at e
  | _ => rw [ho] at e; simp [trOp, aop] at e

end
end Go.Proofs.Ytjdemlagmamlbaa
