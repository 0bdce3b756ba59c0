/- The arguments of a call, read into the abstract heap: rows that are not written. -/
import Derived.Test.YtjdemlagmamlbaaM19
import Derived.ChangeArms
import Derived.OpenShut
import Derived.ChangeShapes
namespace Go.Proofs.Ytjdemlagmamlbaa
variable {Λ : Lam}

/-- the shapes of arguments -/
inductive Sh where
  | int (k : IntKind)
  | bool
  | str
  | bytes
  | slice (s : Sh)
  | fields (l : List Sh)

mutual
def Sh.size : Sh → Nat
  | .fields l => Sh.sizeL l
  | _ => 1
def Sh.sizeL : List Sh → Nat
  | [] => 0
  | s :: ss => s.size + Sh.sizeL ss
end

mutual
def shOk (P : Program) : Sh → TypeId → Bool
  | .int k, t => match P.underlying t with
    | some (.int k') => decide (k' = k)
    | _ => false
  | .bool, t => match P.underlying t with
    | some .bool => true
    | _ => false
  | .str, t => match P.underlying t with
    | some .string => true
    | _ => false
  | .bytes, t => match P.underlying t with
    | some (.slice e) => P.cellsOf e == 1 && (match P.underlying e with
      | some (.int .u8) => true
      | _ => false)
    | _ => false
  | .slice s, t => match P.underlying t with
    | some (.slice e) => P.cellsOf e == s.size && decide (0 < s.size) && shOk P s e
    | _ => false
  | .fields l, t => match P.underlying t with
    | some (.struct fs) => P.cellsOf t == Sh.sizeL l && shOkF P 0 l fs.toList
    | some (.array n e) => P.cellsOf t == Sh.sizeL l && shOkN P e 0 l n
    | _ => false
def shOkF (P : Program) : Nat → List Sh → List Field → Bool
  | _, [], [] => true
  | off, s :: ss, f :: fs => f.offset == off && P.cellsOf f.type == s.size && shOk P s f.type && shOkF P (off + s.size) ss fs
  | _, _, _ => false
def shOkN (P : Program) (e : TypeId) : Nat → List Sh → Nat → Bool
  | _, [], 0 => true
  | off, s :: ss, n + 1 => P.cellsOf e == s.size && shOk P s e && shOkN P e (off + s.size) ss n
  | _, _, _ => false
end

mutual
/-- an argument, read: its cells -/
def AD (h : AHeap) : Sh → List AV → Prop
  | .int k, as => ∃ n, as = [.int k n] ∧ k.min ≤ n ∧ n ≤ k.max
  | .bool, as => ∃ b, as = [.bool b]
  | .str, as => ∃ s, as = [.str s] ∧ s.size ≤ maxLen
  | .bytes, as => as = [.nilsl] ∨ as = [.esl] ∨ ∃ id len cap n e, as = [.sl id 0 len cap] ∧ 0 < len ∧ len ≤ cap ∧ cap ≤ maxLen ∧ n < 2 ^ (8 * len) ∧ h.get id = some (.row e 1 false true (.bytes len n))
  | .slice s, as => as = [.nilsl] ∨ as = [.esl] ∨ ∃ id len cap e elems, as = [.sl id 0 len cap] ∧ 0 < len ∧ len ≤ cap ∧ cap ≤ maxLen ∧ h.get id = some (.row e s.size false true (.vals (List.flatten elems))) ∧ elems.length = len ∧
      ∀ x, x ∈ elems → AD h s x
  | .fields l, as => ADs h l as
def ADs (h : AHeap) : List Sh → List AV → Prop
  | [], as => as = []
  | s :: ss, as => ∃ x y, as = x ++ y ∧ AD h s x ∧ ADs h ss y
end

mutual
theorem AD.length {h : AHeap} : ∀ (s : Sh) (as : List AV), AD h s as → as.length = s.size
  | .int k, as, e => by simp only [AD] at e; obtain ⟨n, rfl, _⟩ := e; rfl
  | .bool, as, e => by simp only [AD] at e; obtain ⟨n, rfl⟩ := e; rfl
  | .str, as, e => by simp only [AD] at e; obtain ⟨n, rfl, _⟩ := e; rfl
  | .bytes, as, e => by
    simp only [AD] at e
    rcases e with rfl | rfl | ⟨id, len, cap, n, e', rfl, _⟩ <;> rfl
  | .slice s, as, e => by
    simp only [AD] at e
    rcases e with rfl | rfl | ⟨id, len, cap, n, e', rfl, _⟩ <;> rfl
  | .fields l, as, e => by
    simp only [AD] at e
    simp only [Sh.size]
    exact ADs.length l as e
theorem ADs.length {h : AHeap} : ∀ (l : List Sh) (as : List AV), ADs h l as → as.length = Sh.sizeL l
  | [], as, e => by simp only [ADs] at e; subst e; rfl
  | s :: ss, as, e => by
    simp only [ADs] at e
    obtain ⟨x, y, rfl, h1, h2⟩ := e
    simp only [List.length_append, Sh.sizeL, AD.length s x h1, ADs.length ss y h2]
end

mutual
theorem AD.mono {h h' : AHeap} (hg : ∀ id o, h.get id = some o → h'.get id = some o) : ∀ (s : Sh) (as : List AV), AD h s as → AD h' s as
  | .int k, as, e => by simp only [AD] at e ⊢; exact e
  | .bool, as, e => by simp only [AD] at e ⊢; exact e
  | .str, as, e => by simp only [AD] at e ⊢; exact e
  | .bytes, as, e => by
    simp only [AD] at e ⊢
    rcases e with h1 | h1 | ⟨id, len, cap, n, e', h1, h2, h3, h4, h5, h6⟩
    · exact .inl h1
    · exact .inr (.inl h1)
    · exact .inr (.inr ⟨id, len, cap, n, e', h1, h2, h3, h4, h5, hg _ _ h6⟩)
  | .slice s, as, e => by
    simp only [AD] at e ⊢
    rcases e with h1 | h1 | ⟨id, len, cap, n, e', h1, h2, h3, h4, h5, h6, h7⟩
    · exact .inl h1
    · exact .inr (.inl h1)
    · exact .inr (.inr ⟨id, len, cap, n, e', h1, h2, h3, h4, hg _ _ h5, h6, fun x hx => AD.mono hg s x (h7 x hx)⟩)
  | .fields l, as, e => by
    simp only [AD] at e ⊢
    exact ADs.mono hg l as e
theorem ADs.mono {h h' : AHeap} (hg : ∀ id o, h.get id = some o → h'.get id = some o) : ∀ (l : List Sh) (as : List AV), ADs h l as → ADs h' l as
  | [], as, e => by simp only [ADs] at e ⊢; exact e
  | s :: ss, as, e => by
    simp only [ADs] at e ⊢
    obtain ⟨x, y, h1, h2, h3⟩ := e
    exact ⟨x, y, h1, AD.mono hg s x h2, ADs.mono hg ss y h3⟩
end

def AllRo (h : AHeap) : Prop := ∀ id o, h.get id = some o → o.rw = false

/-- what reading an argument comes to -/
structure Rd (Λ : Lam) (w : World) (μ : Mu) (h : AHeap) (μ' : Mu) (h' : AHeap) : Prop where
  rel : Rel Λ μ' h' w
  ro : AllRo h'
  ext : Ext μ μ'
  old : ∀ id o, h.get id = some o → h'.get id = some o

theorem Rd.refl {w : World} {μ : Mu} {h : AHeap} (hr : Rel Λ μ h w) (ho : AllRo h) : Rd Λ w μ h μ h := ⟨hr, ho, Ext.refl μ, fun _ _ e => e⟩

theorem Rd.trans {w : World} {μ μ1 μ2 : Mu} {h h1 h2 : AHeap} (x : Rd Λ w μ h μ1 h1) (y : Rd Λ w μ1 h1 μ2 h2) : Rd Λ w μ h μ2 h2 :=
  ⟨y.rel, y.ro, x.ext.trans y.ext, fun id o e => y.old id o (x.old id o e)⟩

/-- one row more, that lies in the memory already -/
theorem Rd.row {w : World} {μ : Mu} {h : AHeap} (hr : Rel Λ μ h w) (ho : AllRo h) {l : Loc} {e es : Nat} {d : Dat} (hrow : RowR μ w l e es false true d) :
    Rd Λ w μ h (μ.with h.next l) (h.new (.row e es false true d)) ∧ (μ.with h.next l) h.next = some l ∧ (h.new (.row e es false true d)).get h.next = some (.row e es false true d) := by
  have hno : μ h.next = none := by
    cases e : μ h.next with
    | none => rfl
    | some k => have := (hr.dom _ _ e).1; omega
  have hext : Ext μ (μ.with h.next l) := Ext.with l hno
  have hsame : (h.new (.row e es false true d)).get h.next = some (.row e es false true d) := AHeap.get_new_same h _
  have hold : ∀ id o, h.get id = some o → (h.new (.row e es false true d)).get id = some o := fun id o hg => by
    rw [AHeap.get_new_ne h _ (by have := hr.lt hg; omega)]; exact hg
  have hcase : ∀ id o, (h.new (.row e es false true d)).get id = some o → (id = h.next ∧ o = .row e es false true d) ∨ (id ≠ h.next ∧ h.get id = some o) := by
    intro id o hg
    by_cases hi : id = h.next
    · subst hi; rw [hsame] at hg; cases hg; exact .inl ⟨rfl, rfl⟩
    · rw [AHeap.get_new_ne h _ (fun e => hi e.symm)] at hg; exact .inr ⟨hi, hg⟩
  have hbl : l.block < w.heap.size := by
    obtain ⟨c, fr, h1, _⟩ := hrow
    exact (Array.getElem?_eq_some_iff.1 h1).1
  refine ⟨⟨⟨fun id o hg => ?_, fun i j oi oj li lj hi hj hne hrw => ?_, fun id k hk => ?_⟩, fun id o hg => ?_, hext, hold⟩, Mu.with_same _ _ _, hsame⟩
  · rcases hcase id o hg with ⟨rfl, rfl⟩ | ⟨hi, hg⟩
    · exact ⟨l, Mu.with_same _ _ _, RowR.ext hext hrow rfl⟩
    · obtain ⟨k, hk, hobj⟩ := hr.obj id o hg
      refine ⟨k, hext _ _ hk, ?_⟩
      cases o with
      | row => exact RowR.ext hext hobj rfl
      | _ => have := ho id _ hg; cases this
  · rcases hcase i oi hi with ⟨rfl, rfl⟩ | ⟨_, hg⟩
    · cases hrw
    · rw [ho i oi hg] at hrw; cases hrw
  · by_cases hi : id = h.next
    · subst hi
      rw [Mu.with_same] at hk; cases hk
      exact ⟨by simp [AHeap.new], hbl⟩
    · rw [Mu.with_ne _ _ hi] at hk
      have := hr.dom _ _ hk
      exact ⟨by simp only [AHeap.new]; omega, this.2⟩
  · rcases hcase id o hg with ⟨rfl, rfl⟩ | ⟨_, hg⟩
    · rfl
    · exact ho id o hg

def pack : List Nat → Nat
  | [] => 0
  | b :: bs => b + 256 * pack bs

theorem byteAt_pack : ∀ (l : List Nat) (i b : Nat), (∀ x, x ∈ l → x < 256) → l[i]? = some b → byteAt (pack l) i = b
  | [], i, b, _, h => by simp at h
  | x :: xs, i, b, hl, h => by
    have hx : x < 256 := hl x (by simp)
    cases i with
    | zero =>
      simp only [List.getElem?_cons_zero, Option.some.injEq] at h
      subst h
      simp only [byteAt, pack, Nat.mul_zero, Nat.shiftRight_zero]
      omega
    | succ i =>
      simp only [List.getElem?_cons_succ] at h
      have ih := byteAt_pack xs i b (fun y hy => hl y (by simp [hy])) h
      simp only [byteAt, pack] at ih ⊢
      have : (x + 256 * pack xs) >>> (8 * (i + 1)) = pack xs >>> (8 * i) := by
        rw [show 8 * (i + 1) = 8 + 8 * i by omega, Nat.shiftRight_add]
        congr 1
        rw [Nat.shiftRight_eq_div_pow]
        omega
      rw [this]; exact ih

theorem pack_lt : ∀ (l : List Nat), (∀ x, x ∈ l → x < 256) → pack l < 2 ^ (8 * l.length)
  | [], _ => by simp [pack]
  | x :: xs, hl => by
    have hx : x < 256 := hl x (by simp)
    have ih := pack_lt xs fun y hy => hl y (by simp [hy])
    simp only [pack, List.length_cons]
    rw [show 8 * (xs.length + 1) = 8 * xs.length + 8 by omega, Nat.pow_add]
    omega

theorem VRL.extend {μ μ' : Mu} (h : Ext μ μ') {a : List AV} {x : List Value} (e : VRL μ a x) : VRL μ' a x := VRL.ext h a x e

section
variable {H : Type} {enc : TypeId × Value → H} {P : Program} {w : World} {sp : Nat → Bool}

/-- the cells of a run of parts can be read, part by part -/
def TrodC (enc : TypeId × Value → H) (P : Program) (w : World) (sp : Nat → Bool) : List Sh → List TypeId → List Value → Prop
  | [], [], cs => cs = []
  | s :: ss, t :: ts, cs => shOk P s t = true ∧ (∃ fuel x, DataW.trod enc P w 0 sp true fuel t (cs.take s.size) = some x) ∧ TrodC enc P w sp ss ts (cs.drop s.size)
  | _, _, _ => False

theorem trodC_fields {fuel : Nat} {cs : List Value} : ∀ {l : List Sh} {fs : List Field} {off : Nat}, shOkF P off l fs = true → cs.length = off + Sh.sizeL l →
    (∀ (i : Nat) (f : Field), fs[i]? = some f → ∃ x, DataW.trod enc P w 0 sp true fuel f.type ((cs.drop f.offset).take (P.cellsOf f.type)) = some x) → TrodC enc P w sp l (fs.map (·.type)) (cs.drop off)
  | [], [], off, _, hl, _ => by
    simp only [List.map_nil, TrodC]
    simp only [Sh.sizeL] at hl
    exact List.drop_eq_nil_of_le (by omega)
  | s :: ss, f :: fs, off, h, hl, hx => by
    simp only [shOkF, Bool.and_eq_true, beq_iff_eq] at h
    obtain ⟨⟨⟨h1, h2⟩, h3⟩, h4⟩ := h
    simp only [List.map_cons, TrodC]
    refine ⟨h3, ?_, ?_⟩
    · obtain ⟨x, hx0⟩ := hx 0 f rfl
      rw [h1, h2] at hx0
      exact ⟨fuel, x, hx0⟩
    · rw [List.drop_drop]
      exact trodC_fields h4 (by simp only [Sh.sizeL] at hl; omega) fun i g hg => hx (i + 1) g (by simpa using hg)
  | [], _ :: _, _, h, _, _ => by simp [shOkF] at h
  | _ :: _, [], _, h, _, _ => by simp [shOkF] at h

theorem trodC_array {fuel : Nat} {e : TypeId} {cs : List Value} : ∀ {l : List Sh} {n k : Nat} , shOkN P e (k * P.cellsOf e) l n = true → cs.length = k * P.cellsOf e + Sh.sizeL l →
    (∀ i, k ≤ i → i < k + n → ∃ x, DataW.trod enc P w 0 sp true fuel e ((cs.drop (i * P.cellsOf e)).take (P.cellsOf e)) = some x) → TrodC enc P w sp l (List.replicate n e) (cs.drop (k * P.cellsOf e))
  | [], 0, k, _, hl, _ => by
    simp only [List.replicate, TrodC]
    simp only [Sh.sizeL] at hl
    exact List.drop_eq_nil_of_le (by omega)
  | s :: ss, n + 1, k, h, hl, hx => by
    simp only [shOkN, Bool.and_eq_true, beq_iff_eq] at h
    obtain ⟨⟨h2, h3⟩, h4⟩ := h
    simp only [List.replicate_succ, TrodC]
    refine ⟨h3, ?_, ?_⟩
    · obtain ⟨x, hx0⟩ := hx k (Nat.le_refl k) (by omega)
      rw [← h2]
      exact ⟨fuel, x, hx0⟩
    · rw [List.drop_drop, ← h2]
      rw [← h2] at h4
      have e1 : k * P.cellsOf e + P.cellsOf e = (k + 1) * P.cellsOf e := by rw [Nat.add_mul, Nat.one_mul]
      rw [e1] at h4 ⊢
      exact trodC_array h4 (by simp only [Sh.sizeL] at hl; rw [← h2] at hl; omega) fun i hi hi2 => hx i (by omega) (by omega)
  | [], n + 1, _, h, _, _ => by simp [shOkN] at h
  | _ :: _, 0, _, h, _, _ => by simp [shOkN] at h

/-- what reading the cells of one argument, or of one part, gives -/
def Got (Λ : Lam) (w : World) (μ : Mu) (h : AHeap) (cs : List Value) (A : AHeap → List AV → Prop) : Prop :=
  ∃ μ' h' as, Rd Λ w μ h μ' h' ∧ VRL μ' as cs ∧ (∀ c, c ∈ cs → c.oneCell' = true) ∧ A h' as

theorem cells_at {a : Addr} {n : Nat} {cs : List Value} (h : w.cells? 0 a n = some cs) : cs.length = n ∧ ∀ i, i < n → w.cell? (a.add i) = cs[i]? := by
  unfold World.cells? at h
  rw [if_pos (Nat.zero_le _)] at h
  exact ⟨by simpa using mapM_some_length h, fun i hi => mapM_some_get h i i (by simp [hi])⟩

theorem cell_plain {a : Addr} {v : Value} (h : w.cell? a = some v) : a.spot = none ∧ ∃ c e fr, w.heap[a.block]? = some (.cells c e fr) ∧ c[a.off]? = some v := by
  unfold World.cell? at h
  split at h
  · rename_i c e fr hb
    split at h
    · cases h
    · rename_i hs
      exact ⟨by simpa using hs, c, e, fr, hb, h⟩
  · cases h

theorem add_plain {b off n : Nat} : (⟨b, off, none⟩ : Addr).add n = ⟨b, off + n, none⟩ := by
  unfold Addr.add
  split
  · rename_i h; subst h; rfl
  · rfl

/-- a row of read-only cells, from the cells that are there -/
theorem row_of_cells {μ : Mu} {b off : Nat} {d : Dat} {vs : List Value} {cap es : Nat} (h0 : 0 < vs.length) (hc : ∀ (k : Nat) (v : Value), vs[k]? = some v → w.cell? ⟨b, off + k, none⟩ = some v)
    (hd : ∀ (i : Nat) (x : AV), d.get i = some x → ∃ c, vs[i]? = some c ∧ VR μ x c ∧ c.oneCell' = true) : ∃ e, RowR μ w ⟨b, off, cap⟩ e es false true d := by
  obtain ⟨v0, hv0⟩ : ∃ v, vs[0]? = some v := ⟨vs[0], by simp [h0]⟩
  obtain ⟨_, c, e, fr, hb, _⟩ := cell_plain (hc 0 v0 hv0)
  refine ⟨e, c, fr, hb, fun i x hx => ?_, fun h => by cases h⟩
  obtain ⟨cv, h1, h2, h3⟩ := hd i x hx
  obtain ⟨_, c', e', fr', hb', h4⟩ := cell_plain (hc i cv h1)
  rw [hb] at hb'; cases hb'
  exact ⟨cv, h4, h2, h3⟩

theorem VRL.get' {μ : Mu} {as : List AV} {cs : List Value} (h : VRL μ as cs) (ho : ∀ c, c ∈ cs → c.oneCell' = true) (i : Nat) (x : AV) (hx : as[i]? = some x) : ∃ c, cs[i]? = some c ∧ VR μ x c ∧ c.oneCell' = true := by
  obtain ⟨c, h1, h2⟩ := VRL.get h i x hx
  exact ⟨c, h1, h2, ho c (List.mem_of_getElem? h1)⟩

theorem flatten_chunks {α : Type} {es : Nat} (he : 0 < es) : ∀ {C : List (List α)}, (∀ c, c ∈ C → c.length = es) → ∀ (k : Nat) (v : α), C.flatten[k]? = some v → ∃ c, C[k / es]? = some c ∧ c[k % es]? = some v
  | [], _, k, v, h => by simp at h
  | c :: C, hc, k, v, h => by
    have hl := hc c (by simp)
    rw [List.flatten_cons] at h
    by_cases hk : k < es
    · rw [List.getElem?_append_left (by omega)] at h
      exact ⟨c, by rw [Nat.div_eq_of_lt hk]; rfl, by rw [Nat.mod_eq_of_lt hk]; exact h⟩
    · rw [List.getElem?_append_right (by omega), hl] at h
      obtain ⟨c', h1, h2⟩ := flatten_chunks he (fun x hx => hc x (by simp [hx])) (k - es) v h
      have e1 : k / es = (k - es) / es + 1 := by
        have := Nat.sub_mul_div k es 1
        rw [Nat.mul_one] at this
        rw [this]
        have : 0 < k / es := Nat.div_pos (by omega) he
        omega
      have e2 : k % es = (k - es) % es := by rw [← Nat.mod_eq_sub_mod (by omega)]
      exact ⟨c', by rw [e1]; exact h1, by rw [e2]; exact h2⟩

mutual
theorem read_sh : ∀ (s : Sh) (t : TypeId) (cs : List Value) (fuel : Nat) (x : DataW H × List MemPlace) (μ : Mu) (h : AHeap), shOk P s t = true → DataW.trod enc P w 0 sp true fuel t cs = some x → Rel Λ μ h w → AllRo h →
    Got Λ w μ h cs fun h' as => AD h' s as
  | .int k, t, cs, fuel, x, μ, h, hs, ht, hr, ho => by
    simp only [shOk] at hs
    split at hs
    · rename_i k' hu
      have := of_decide_eq_true hs; subst this
      obtain ⟨n, rfl, _, hw⟩ := DataW.trod_int hu ht
      simp only [Lit.wf, Bool.and_eq_true, decide_eq_true_eq] at hw
      exact ⟨μ, h, [.int k' n], Rd.refl hr ho, by simp [VRL, VR], by simp; rfl, by simp only [AD]; exact ⟨n, rfl, hw⟩⟩
    · cases hs
  | .bool, t, cs, fuel, x, μ, h, hs, ht, hr, ho => by
    simp only [shOk] at hs
    split at hs
    · rename_i hu
      obtain ⟨b, rfl, _⟩ := DataW.trod_bool hu ht
      exact ⟨μ, h, [.bool b], Rd.refl hr ho, by simp [VRL, VR], by simp; rfl, by simp only [AD]; exact ⟨b, rfl⟩⟩
    · cases hs
  | .str, t, cs, fuel, x, μ, h, hs, ht, hr, ho => by
    simp only [shOk] at hs
    split at hs
    · rename_i hu
      obtain ⟨b, rfl, _, hb⟩ := DataW.trod_string hu ht
      exact ⟨μ, h, [.str b], Rd.refl hr ho, by simp [VRL, VR], by simp; rfl, by simp only [AD]; exact ⟨b, rfl, hb⟩⟩
    · cases hs
  | .bytes, t, cs, fuel, x, μ, h, hs, ht, hr, ho => by
    simp only [shOk] at hs
    split at hs
    · rename_i e hu
      simp only [Bool.and_eq_true, beq_iff_eq] at hs
      obtain ⟨hc, hs⟩ := hs
      split at hs
      · rename_i he
        rcases DataW.trod_slice hu ht with ⟨rfl, _⟩ | ⟨a, len, cap, elems, rest, n, _, rfl, _, _, h1, h2, h3, h4, _, _⟩
        · exact ⟨μ, h, [.nilsl], Rd.refl hr ho, by simp [VRL, VR], by simp; rfl, by simp only [AD]; exact .inl trivial⟩
        · by_cases h0 : len = 0
          · subst h0
            exact ⟨μ, h, [.esl], Rd.refl hr ho, by simp only [VRL, VR]; exact ⟨_, _, rfl, ⟨a, cap, rfl⟩, rfl⟩, by simp; rfl, by simp only [AD]; exact .inr (.inl trivial)⟩
          · have hel : ∀ i, i < len → ∃ b : Int, 0 ≤ b ∧ b < 256 ∧ w.cell? (a.add i) = some (.int .u8 b) := by
              intro i hi
              have := h4 i hi
              rw [hc, Nat.mul_one] at this
              have hex : elems[i]? = some (elems[i]'(by omega)) := by simp [h3, hi]
              rw [hex] at this
              obtain ⟨c1, hc1, hc2⟩ := Option.bind_eq_some_iff.1 this
              obtain ⟨b, rfl, _, hw⟩ := DataW.trod_int he hc2
              obtain ⟨_, hcell⟩ := cells_at hc1
              have := hcell 0 (by omega)
              have e0 : ((a.add i).add 0) = a.add i := by simp [Addr.add]
              rw [e0] at this
              simp only [Lit.wf, IntKind.min, IntKind.max, IntKind.signed, IntKind.bits, Bool.and_eq_true] at hw
              exact ⟨b, by simpa using hw.1, by have := hw.2; simp at this; omega, by simpa using this⟩
            have hel' : ∃ f : Nat → Nat, ∀ i, i < len → f i < 256 ∧ w.cell? (a.add i) = some (.int .u8 (f i)) := by
              refine ⟨fun i => if hi : i < len then (Classical.choose (hel i hi)).toNat else 0, fun i hi => ?_⟩
              obtain ⟨p1, p2, p3⟩ := Classical.choose_spec (hel i hi)
              simp only [dif_pos hi]
              refine ⟨by omega, ?_⟩
              refine p3.trans ?_
              congr 2; omega
            obtain ⟨f, hf⟩ := hel'
            have hsp := (cell_plain (hf 0 (by omega)).2).1
            have hplain : a = ⟨a.block, a.off, none⟩ := by
              have : (a.add 0) = a := by simp [Addr.add]
              rw [this] at hsp
              cases a; simp_all
            have hcell : ∀ i, i < len → w.cell? ⟨a.block, a.off + i, none⟩ = some (.int .u8 (f i)) := by
              intro i hi
              rw [← add_plain, ← hplain]; exact (hf i hi).2
            have hb256 : ∀ x, x ∈ (List.range len).map f → x < 256 := by
              intro x hx
              simp only [List.mem_map, List.mem_range] at hx
              obtain ⟨i, hi, rfl⟩ := hx
              exact (hf i hi).1
            obtain ⟨e', hrow⟩ := row_of_cells (μ := μ) (b := a.block) (off := a.off) (d := .bytes len (pack ((List.range len).map f))) (vs := (List.range len).map fun i => Value.int .u8 (f i)) (cap := cap) (es := 1) (by simp; omega)
              (fun k v hk => by
                simp only [List.getElem?_map, Option.map_eq_some_iff] at hk
                obtain ⟨i, hi, rfl⟩ := hk
                obtain ⟨hlt, rfl⟩ := List.getElem?_eq_some_iff.1 hi
                simp only [List.length_range] at hlt
                simp only [List.getElem_range]
                exact hcell k hlt)
              (fun i x hx => by
                have hi := Dat.get_lt hx
                simp only [Dat.len] at hi
                simp only [Dat.get] at hx
                rw [if_pos hi] at hx
                cases hx
                rw [byteAt_pack _ i (f i) hb256 (by simp [hi])]
                exact ⟨.int .u8 (f i), by simp [hi], by simp [VR], rfl⟩)
            obtain ⟨r1, r2, r3⟩ := Rd.row hr ho hrow
            refine ⟨_, _, [.sl h.next 0 len cap], r1, ?_, by simp; rfl, ?_⟩
            · simp only [VRL, VR]
              exact ⟨_, _, rfl, ⟨_, r2, by rw [Nat.add_zero, ← hplain]⟩, rfl⟩
            · simp only [AD]
              exact .inr (.inr ⟨h.next, len, cap, _, e', rfl, by omega, h1, h2, by have := pack_lt _ hb256; simpa using this, r3⟩)
      · cases hs
    · cases hs
  | .slice s, t, cs, fuel, x, μ, h, hs, ht, hr, ho => by
    simp only [shOk] at hs
    split at hs
    · rename_i e hu
      simp only [Bool.and_eq_true, beq_iff_eq, decide_eq_true_eq] at hs
      obtain ⟨⟨hc, hpos⟩, hs⟩ := hs
      rcases DataW.trod_slice hu ht with ⟨rfl, _⟩ | ⟨a, len, cap, elems, rest, n, _, rfl, _, _, h1, h2, h3, h4, _, _⟩
      · exact ⟨μ, h, [.nilsl], Rd.refl hr ho, by simp [VRL, VR], by simp; rfl, by simp only [AD]; exact .inl trivial⟩
      · by_cases h0 : len = 0
        · subst h0
          exact ⟨μ, h, [.esl], Rd.refl hr ho, by simp only [VRL, VR]; exact ⟨_, _, rfl, ⟨a, cap, rfl⟩, rfl⟩, by simp; rfl, by simp only [AD]; exact .inr (.inl trivial)⟩
        · have hel : ∀ i, i < len → ∃ ci y, w.cells? 0 (a.add (i * s.size)) s.size = some ci ∧ DataW.trod enc P w 0 sp true n e ci = some y := by
            intro i hi
            have := h4 i hi
            rw [hc] at this
            have hex : elems[i]? = some (elems[i]'(by omega)) := by simp [h3, hi]
            rw [hex] at this
            obtain ⟨c1, hc1, hc2⟩ := Option.bind_eq_some_iff.1 this
            exact ⟨c1, _, hc1, hc2⟩
          have key : ∀ m, m ≤ len → ∃ (μ' : Mu) (h' : AHeap) (E : List (List AV)) (C : List (List Value)), Rd Λ w μ h μ' h' ∧ E.length = m ∧ C.length = m ∧ VRL μ' E.flatten C.flatten ∧ (∀ c, c ∈ C.flatten → c.oneCell' = true) ∧
              (∀ c, c ∈ C → c.length = s.size) ∧ (∀ (i : Nat) (c : List Value), C[i]? = some c → w.cells? 0 (a.add (i * s.size)) s.size = some c) ∧ (∀ x, x ∈ E → AD h' s x) := by
            intro m
            induction m with
            | zero => intro _; exact ⟨μ, h, [], [], Rd.refl hr ho, rfl, rfl, by simp [VRL], by simp, by simp, by simp, by simp⟩
            | succ m ih =>
              intro hle
              obtain ⟨μ1, h1, E, C, r1, l1, l2, v1, o1, z1, c1, a1⟩ := ih (by omega)
              obtain ⟨ci, y, hci, hty⟩ := hel m (by omega)
              obtain ⟨μ2, h2, as, r2, v2, o2, a2⟩ := read_sh s e ci n y μ1 h1 hs hty r1.rel r1.ro
              refine ⟨μ2, h2, E ++ [as], C ++ [ci], r1.trans r2, by simp [l1], by simp [l2], ?_, ?_, ?_, ?_, ?_⟩
              · simp only [List.flatten_append, List.flatten_cons, List.flatten_nil, List.append_nil]
                exact VRL.append (VRL.extend r2.ext v1) v2
              · intro c hc
                simp only [List.flatten_append, List.flatten_cons, List.flatten_nil, List.append_nil, List.mem_append] at hc
                rcases hc with hc | hc
                · exact o1 c hc
                · exact o2 c hc
              · intro c hc
                rcases List.mem_append.1 hc with hc | hc
                · exact z1 c hc
                · rw [List.mem_singleton.1 hc]; exact (cells_at hci).1
              · intro i c hc
                by_cases hi : i < m
                · rw [List.getElem?_append_left (by omega)] at hc
                  exact c1 i c hc
                · rw [List.getElem?_append_right (by omega)] at hc
                  have : i = m := by
                    have := (List.getElem?_eq_some_iff.1 hc).1
                    simp at this; omega
                  subst this
                  rw [l2] at hc
                  simp at hc
                  subst hc; exact hci
              · intro x hx
                rcases List.mem_append.1 hx with hx | hx
                · exact AD.mono r2.old s x (a1 x hx)
                · rw [List.mem_singleton.1 hx]; exact a2
          obtain ⟨μ1, h1', E, C, r1, l1, l2, v1, o1, z1, c1, a1⟩ := key len (Nat.le_refl _)
          have hcells : ∀ (k : Nat) (v : Value), C.flatten[k]? = some v → w.cell? (a.add k) = some v := by
            intro k v hk
            obtain ⟨c, hc1, hc2⟩ := flatten_chunks hpos z1 k v hk
            have h5 := (cells_at (c1 _ c hc1)).2 (k % s.size) (Nat.mod_lt _ hpos)
            rw [hc2] at h5
            rw [← h5]
            have h6 : s.size * (k / s.size) + k % s.size = k := Nat.div_add_mod k s.size
            rw [Nat.mul_comm] at h6
            -- the same place
            unfold Addr.add
            by_cases hk0 : k = 0
            · subst hk0; simp
            · by_cases hq : k / s.size * s.size = 0
              · have : k % s.size = k := by omega
                simp [hq, this, hk0]
              · by_cases hr0 : k % s.size = 0
                · have : k / s.size * s.size = k := by omega
                  simp [hr0, this, hk0]
                · simp [hq, hr0, hk0]
                  congr 2; omega
          have hflen : C.flatten.length = len * s.size := by
            have : ∀ (C : List (List Value)), (∀ c, c ∈ C → c.length = s.size) → C.flatten.length = C.length * s.size := by
              intro C
              induction C with
              | nil => intro _; simp
              | cons c C ih =>
                intro hz
                rw [List.flatten_cons, List.length_append, ih (fun x hx => hz x (by simp [hx])), hz c (by simp), List.length_cons, Nat.add_mul, Nat.one_mul]
                omega
            rw [this C z1, l2]
          have hfl0 : 0 < C.flatten.length := by rw [hflen]; exact Nat.mul_pos (by omega) hpos
          have hsp : a.spot = none := by
            have := hcells 0 (C.flatten[0]) (by simp)
            have e0 : (a.add 0) = a := by simp [Addr.add]
            rw [e0] at this
            exact (cell_plain this).1
          have hplain : a = ⟨a.block, a.off, none⟩ := by cases a; simp_all
          obtain ⟨e', hrow⟩ := row_of_cells (w := w) (μ := μ1) (b := a.block) (off := a.off) (d := .vals E.flatten) (vs := C.flatten) (cap := cap) (es := s.size) hfl0
            (fun k v hk => by rw [← add_plain, ← hplain]; exact hcells k v hk)
            (fun i x hx => VRL.get' v1 o1 i x hx)
          obtain ⟨r2, r3, r4⟩ := Rd.row r1.rel r1.ro hrow
          refine ⟨_, _, [.sl h1'.next 0 len cap], r1.trans r2, ?_, by simp; rfl, ?_⟩
          · simp only [VRL, VR]
            exact ⟨_, _, rfl, ⟨_, r3, by rw [Nat.add_zero, ← hplain]⟩, rfl⟩
          · simp only [AD]
            exact .inr (.inr ⟨h1'.next, len, cap, e', E, rfl, by omega, h1, h2, r4, l1, fun x hx => AD.mono r2.old s x (a1 x hx)⟩)
    · cases hs
  | .fields l, t, cs, fuel, x, μ, h, hs, ht, hr, ho => by
    simp only [shOk] at hs
    simp only [AD]
    split at hs
    · rename_i fs hu
      simp only [Bool.and_eq_true, beq_iff_eq] at hs
      obtain ⟨xs, n, _, _, h1, h2, h3⟩ := DataW.trod_struct hu ht
      have htc : TrodC enc P w sp l (fs.toList.map (·.type)) cs := by
        have := trodC_fields (enc := enc) (w := w) (sp := sp) (fuel := n) (cs := cs) hs.2 (by rw [h1, hs.1]; omega) fun i f hf => by
          have hf' : fs[i]? = some f := by simpa using hf
          have hi := (Array.getElem?_eq_some_iff.1 hf').1
          have hi' : i < xs.length := by omega
          exact ⟨xs[i], by rw [h3 i f hf']; exact List.getElem?_eq_getElem hi'⟩
        simpa using this
      exact read_shs l _ cs μ h htc hr ho
    · rename_i n e hu
      simp only [Bool.and_eq_true, beq_iff_eq] at hs
      obtain ⟨xs, m, _, _, h1, h2, h3⟩ := DataW.trod_array hu ht
      have htc : TrodC enc P w sp l (List.replicate n e) cs := by
        have := trodC_array (enc := enc) (w := w) (sp := sp) (fuel := m) (cs := cs) (k := 0) (by simpa using hs.2) (by rw [h1, hs.1]; omega) fun i _ hi => by
          have hi' : i < xs.length := by omega
          exact ⟨xs[i], by rw [h3 i (by omega)]; exact List.getElem?_eq_getElem hi'⟩
        simpa using this
      exact read_shs l _ cs μ h htc hr ho
    · cases hs
theorem read_shs : ∀ (l : List Sh) (ts : List TypeId) (cs : List Value) (μ : Mu) (h : AHeap), TrodC enc P w sp l ts cs → Rel Λ μ h w → AllRo h →
    Got Λ w μ h cs fun h' as => ADs h' l as
  | [], [], cs, μ, h, ht, hr, ho => by
    simp only [TrodC] at ht
    subst ht
    exact ⟨μ, h, [], Rd.refl hr ho, by simp [VRL], by simp, by simp [ADs]⟩
  | s :: ss, t :: ts, cs, μ, h, ht, hr, ho => by
    simp only [TrodC] at ht
    obtain ⟨hs, ⟨fuel, x, hx⟩, hrest⟩ := ht
    obtain ⟨μ1, h1, as, r1, v1, o1, a1⟩ := read_sh s t _ fuel x μ h hs hx hr ho
    obtain ⟨μ2, h2, bs, r2, v2, o2, a2⟩ := read_shs ss ts _ μ1 h1 hrest r1.rel r1.ro
    refine ⟨μ2, h2, as ++ bs, r1.trans r2, ?_, ?_, ?_⟩
    · have := VRL.append (VRL.extend r2.ext v1) v2
      rwa [List.take_append_drop] at this
    · intro c hc
      rw [← List.take_append_drop s.size cs] at hc
      rcases List.mem_append.1 hc with hc | hc
      · exact o1 c hc
      · exact o2 c hc
    · simp only [ADs]
      exact ⟨as, bs, rfl, AD.mono r2.old s as a1, a2⟩
  | [], _ :: _, _, _, _, ht, _, _ => ht.elim
  | _ :: _, [], _, _, _, ht, _, _ => ht.elim
end

end
end Go.Proofs.Ytjdemlagmamlbaa
