/- Soundness of the operations that make and write nothing. -/
import Derived.Test.YtjdemlagmamlbaaM5
import Derived.Laws.StructEq
namespace Go.Proofs.Ytjdemlagmamlbaa
variable {Λ : Lam}

/-- An operation of the model does what the abstract machine says. -/
def OpS (Λ : Lam) (P : Program) (s : Sem Next) (μ : Mu) (h : AHeap) (w : World) (r : AV) (h' : AHeap) : Prop :=
  ∃ μ' w' cv, (s.run P w = .ok (.value cv) w' ∨ (cv = undef ∧ s.run P w = .ok .skip w')) ∧ VR μ' r cv ∧ Rel Λ μ' h' w' ∧ Step μ h w μ' h' w'

theorem OpS.pure {P : Program} {s : Sem Next} {μ h w r cv} (hr : Rel Λ μ h w) (e : s.run P w = .ok (.value cv) w) (v : VR μ r cv) : OpS Λ P s μ h w r h :=
  ⟨μ, w, cv, .inl e, v, hr, Step.refl μ h w⟩

theorem VRL.one {μ : Mu} {x : AV} {l : List Value} (h : VRL μ [x] l) : ∃ a, l = [a] ∧ VR μ x a := by
  simp only [VRL] at h; obtain ⟨c, cs, rfl, p, rfl⟩ := h; exact ⟨c, rfl, p⟩
theorem VRL.two {μ : Mu} {x y : AV} {l : List Value} (h : VRL μ [x, y] l) : ∃ a b, l = [a, b] ∧ VR μ x a ∧ VR μ y b := by
  simp only [VRL] at h; obtain ⟨c, cs, rfl, p, d, ds, rfl, q, rfl⟩ := h; exact ⟨c, d, rfl, p, q⟩
theorem VRL.three {μ : Mu} {x y z : AV} {l : List Value} (h : VRL μ [x, y, z] l) : ∃ a b c, l = [a, b, c] ∧ VR μ x a ∧ VR μ y b ∧ VR μ z c := by
  simp only [VRL] at h; obtain ⟨c, cs, rfl, p, d, ds, rfl, q, e, es, rfl, r, rfl⟩ := h; exact ⟨c, d, e, rfl, p, q, r⟩

theorem VR.int {μ : Mu} {k n v} (h : VR μ (.int k n) v) : v = .int k n := by simpa [VR] using h
theorem VR.bool {μ : Mu} {b v} (h : VR μ (.bool b) v) : v = .bool b := by simpa [VR] using h

theorem bin_sound {P : Program} {op : BinOp} {t : TypeId} {k k' : IntKind} {a b : Int} {r : AV} (h : binInt op k a k' b = some r) (w : World) (μ : Mu) :
    ∃ cv, (binOp op t (.int k a) (.int k' b)).run P w = .ok cv w ∧ VR μ r cv := by
  unfold binInt at h
  split at h
  · split at h
    · cases h
    · rename_i hb
      cases h
      refine ⟨.int k (k.wrap (a * 2 ^ (Nat.min b.toNat k.bits))), ?_, by simp [VR]⟩
      have : Min.min b.toNat k.bits = Nat.min b.toNat k.bits := rfl
      simp only [binOp, Op.shift, hb, if_false, this]
      rfl
  · split at h
    · cases h
    · rename_i hb
      cases h
      refine ⟨.int k (a.fdiv (2 ^ (Nat.min b.toNat k.bits))), ?_, by simp [VR]⟩
      have : Min.min b.toNat k.bits = Nat.min b.toNat k.bits := rfl
      simp only [binOp, Op.shift, hb, if_false, this]
      rfl
  · split at h
    · cases h
    · rename_i hk
      have hk : k = k' := by simpa using hk
      subst hk
      split at h <;> first
        | (cases h; done)
        | (cases h; simp [binOp, Op.intArith, Op.intBits, Op.intCmp, VR]; done)
        | (split at h
           · cases h
           · rename_i h0; cases h; simp [binOp, Op.intDiv, h0, VR]; done)

theorem scEq_ok {μ : Mu} {s : Sc} {a b : AV} {x y : Value} {r : Bool} (h : scEq s a b = some r) (ha : VR μ a x) (hb : VR μ b y) {P : Program} {t : TypeId} (ht : scT P t = some s) (d : Nat) (w : World) :
    (Op.equalIn (d + 1) t x y).run P w = .ok r w := by
  unfold scT at ht
  unfold scEq at h
  split at h
  · simp only [VR] at ha hb; subst ha hb
    split at h
    · rename_i hk; cases h; subst hk
      split at ht <;> cases ht
      rename_i k0 hu
      simp [Op.equalIn, run_und hu]
    · cases h
  · simp only [VR] at ha hb; subst ha hb
    cases h
    split at ht <;> cases ht
    rename_i hu
    simp [Op.equalIn, run_und hu]
  · simp only [VR] at ha hb; subst ha hb
    cases h
    split at ht <;> cases ht
    rename_i hu
    simp [Op.equalIn, run_und hu]
  · cases h

theorem part_scalar {P : Program} {t : TypeId} {s : Sc} (ht : scT P t = some s) (cs : Array Value) (off : Nat) (v : Value) (hv : cs[off]? = some v) (w : World) : (part t cs off).run P w = .ok v w := by
  have : isAggT P t = some false := by
    unfold scT at ht; unfold isAggT
    split at ht <;> cases ht <;> rename_i hu <;> simp [hu]
  simp [part, run_isAgg this, hv]

theorem eqFlat_ok {P : Program} {μ : Mu} (d : Nat) : ∀ {fs : List Field} {k : Nat} {ss : List Sc} {as bs : List AV} {r : Bool} {xs ys : Array Value}, flatT P fs k = some ss → eqFlat ss as bs = some r →
    (∀ (i : Nat) (x : AV), as[i]? = some x → ∃ c, xs[k + i]? = some c ∧ VR μ x c) → (∀ (i : Nat) (x : AV), bs[i]? = some x → ∃ c, ys[k + i]? = some c ∧ VR μ x c) → ∀ w,
    (Op.eqFields (d + 1) xs ys fs).run P w = .ok r w
  | [], k, ss, as, bs, r, xs, ys, hf, he, _, _, w => by
    simp only [flatT] at hf; cases hf
    cases as with
    | nil => cases bs with
      | nil => simp only [eqFlat] at he; cases he; simp [Op.eqFields]
      | cons => simp [eqFlat] at he
    | cons => simp [eqFlat] at he
  | f :: fs, k, ss, as, bs, r, xs, ys, hf, he, ha, hb, w => by
    simp only [flatT] at hf
    split at hf
    · rename_i hk
      split at hf
      · rename_i s ss' h1 h2
        cases hf
        cases as with
        | nil => simp [eqFlat] at he
        | cons a as => cases bs with
          | nil => simp [eqFlat] at he
          | cons b bs =>
            simp only [eqFlat] at he
            obtain ⟨x, hx, vx⟩ := ha 0 a (by simp)
            obtain ⟨y, hy, vy⟩ := hb 0 b (by simp)
            simp only [Nat.add_zero] at hx hy
            have p1 := part_scalar h1 xs f.offset x (by rw [hk.1]; exact hx) w
            have p2 := part_scalar h1 ys f.offset y (by rw [hk.1]; exact hy) w
            simp only [Op.eqFields, hk.2, ne_eq, not_false_eq_true, if_true, Sem.run_bind, p1, p2, Result.andThen_ok]
            split at he
            · rename_i hs
              rw [scEq_ok hs vx vy h1]
              simp only [Result.andThen_ok, Bool.not_true, Bool.false_eq_true, if_false]
              refine eqFlat_ok (μ := μ) d h2 he (fun i z hz => ?_) (fun i z hz => ?_) w
              · obtain ⟨c, p, q⟩ := ha (i + 1) z (by simpa using hz)
                exact ⟨c, by rw [show k + 1 + i = k + (i + 1) by omega]; exact p, q⟩
              · obtain ⟨c, p, q⟩ := hb (i + 1) z (by simpa using hz)
                exact ⟨c, by rw [show k + 1 + i = k + (i + 1) by omega]; exact p, q⟩
            · rename_i hs
              cases hr : scEq s a b with
              | none => rw [hr] at he; cases he
              | some q =>
                rw [hr] at he; cases he
                cases r with
                | true => exact absurd hr hs
                | false =>
                  rw [scEq_ok hr vx vy h1]
                  simp
      · cases hf
    · cases hf

theorem forIn_bytes {P : Program} (d : Nat) (e : TypeId) (k8 : IntKind) (he : P.underlying e = some (.int k8)) (hs : sizeT P e = some 1) (xs ys : Array Value) (x y : Nat) (w : World) : ∀ (l : List Nat),
    (∀ i, i ∈ l → xs[i]? = some (.int .u8 (byteAt x i)) ∧ ys[i]? = some (.int .u8 (byteAt y i))) →
    (forIn (m := Sem) l ((none, ()) : Option Bool × Unit) fun i _ => do
      if (!(← Op.equalIn (d + 1) e (← part e xs (i * 1)) (← part e ys (i * 1)))) = true then pure (ForInStep.done (some false, ())) else do pure PUnit.unit; pure (ForInStep.yield (none, ()))).run P w =
      .ok (if ∀ i, i ∈ l → byteAt x i = byteAt y i then (none, ()) else (some false, ())) w
  | [], _ => by simp
  | i :: l, h => by
    obtain ⟨h1, h2⟩ := h i (by simp)
    have hsc : scT P e = some .int := by simp [scT, he]
    have p1 := part_scalar hsc xs (i * 1) _ (by rw [Nat.mul_one]; exact h1) w
    have p2 := part_scalar hsc ys (i * 1) _ (by rw [Nat.mul_one]; exact h2) w
    have ih := forIn_bytes d e k8 he hs xs ys x y w l (fun j hj => h j (by simp [hj]))
    simp only [List.forIn_cons, Sem.run_bind, p1, p2, Result.andThen_ok, run_equalIn_int w d e .u8 k8 _ _ he]
    by_cases hb : byteAt x i = byteAt y i
    · simp only [hb, beq_self_eq_true, Bool.not_true, Bool.false_eq_true, if_false, Sem.run_pure, Result.andThen_ok]
      rw [ih]
      simp [hb]
    · have hb' : (((byteAt x i : Nat) : Int) == ((byteAt y i : Nat) : Int)) = false := by
        rw [beq_eq_false_iff_ne]; omega
      simp [hb, hb']

/-- what a value that is compared with nil is in the model -/
def NilV : EqK → Bool → Value → Prop
  | .ptr, true, v => v = .pointer none
  | .ptr, false, v => ∃ a, v = .pointer (some a)
  | .slice, true, v => v = .slice none 0 0
  | .slice, false, v => ∃ a n c, v = .slice (some a) n c
  | .map, true, v => v = .map none
  | .map, false, v => ∃ r, v = .map (some r)
  | .func, true, v => v = .nilFunc
  | .func, false, v => ∃ f a b, v = .func f a b
  | _, _, _ => False

theorem nilOf_ok {μ : Mu} {k : EqK} {a : AV} {x : Value} {r : Bool} (h : nilOf k a = some r) (ha : VR μ a x) : NilV k r x := by
  unfold nilOf at h
  split at h <;> first
    | (cases h; simp only [VR] at ha; exact ha)
    | (cases h; simp only [VR] at ha; obtain ⟨l, _, rfl⟩ := ha; exact ⟨_, rfl⟩)
    | (cases h; simp only [VR] at ha; obtain ⟨l, _, rfl⟩ := ha; exact ⟨_, _, _, rfl⟩)
    | (cases h; simp only [VR] at ha; obtain ⟨l, c, rfl⟩ := ha; exact ⟨_, _, _, rfl⟩)
    | (cases h; simp only [VR] at ha; obtain ⟨l, _, _, rfl⟩ := ha; exact ⟨_, _, _, rfl⟩)
    | (cases h; simp only [VR] at ha; obtain ⟨_, _, _, _, rfl⟩ := ha; exact ⟨_, _, _, rfl⟩)
    | cases h

theorem nilEq_cases {p q : Option Bool} {r : Bool} (h : nilEq p q = some r) : (p = some true ∧ q = some r) ∨ (p = some false ∧ q = some true ∧ r = false) := by
  unfold nilEq at h
  split at h
  · exact .inl ⟨rfl, h⟩
  · cases h; exact .inr ⟨rfl, rfl, rfl⟩
  · cases h

theorem nil_ok {P : Program} {k : EqK} {x y : Value} {p q : Bool} {t : TypeId} (ht : (k = .ptr ∧ ∃ e, P.underlying t = some (.pointer e)) ∨ (k = .slice ∧ ∃ e, P.underlying t = some (.slice e)) ∨ (k = .map ∧ ∃ e f, P.underlying t = some (.map e f)) ∨ (k = .func ∧ ∃ e f g, P.underlying t = some (.func e f g)))
    (hx : NilV k p x) (hy : NilV k q y) (hpq : p = true ∨ q = true) (d : Nat) (w : World) : (Op.equalIn (d + 1) t x y).run P w = .ok (p && q) w := by
  rcases ht with ⟨rfl, e, hu⟩ | ⟨rfl, e, hu⟩ | ⟨rfl, e, f, hu⟩ | ⟨rfl, e, f, g, hu⟩
  · cases p <;> cases q <;> simp only [NilV] at hx hy
    · simp at hpq
    · obtain ⟨a, rfl⟩ := hx; subst hy; simp [Op.equalIn, run_und hu]
    · obtain ⟨a, rfl⟩ := hy; subst hx; simp [Op.equalIn, run_und hu]
    · subst hx hy; simp [Op.equalIn, run_und hu]
  · cases p <;> cases q <;> simp only [NilV] at hx hy
    · simp at hpq
    · obtain ⟨a, n, c, rfl⟩ := hx; subst hy; simp [Op.equalIn, run_und hu]
    · obtain ⟨a, n, c, rfl⟩ := hy; subst hx; simp [Op.equalIn, run_und hu]
    · subst hx hy; simp [Op.equalIn, run_und hu]
  · cases p <;> cases q <;> simp only [NilV] at hx hy
    · simp at hpq
    · obtain ⟨a, rfl⟩ := hx; subst hy; simp [Op.equalIn, run_und hu]
    · obtain ⟨a, rfl⟩ := hy; subst hx; simp [Op.equalIn, run_und hu]
    · subst hx hy; simp [Op.equalIn, run_und hu]
  · cases p <;> cases q <;> simp only [NilV] at hx hy
    · simp at hpq
    · obtain ⟨a, n, c, rfl⟩ := hx; subst hy; simp [Op.equalIn, run_und hu]
    · obtain ⟨a, n, c, rfl⟩ := hy; subst hx; simp [Op.equalIn, run_und hu]
    · subst hx hy; simp [Op.equalIn, run_und hu]

theorem nilEq_ok {P : Program} {μ : Mu} {k : EqK} {a b : AV} {x y : Value} {r : Bool} {t : TypeId} (ht : (k = .ptr ∧ ∃ e, P.underlying t = some (.pointer e)) ∨ (k = .slice ∧ ∃ e, P.underlying t = some (.slice e)) ∨ (k = .map ∧ ∃ e f, P.underlying t = some (.map e f)) ∨ (k = .func ∧ ∃ e f g, P.underlying t = some (.func e f g)))
    (h : nilEq (nilOf k a) (nilOf k b) = some r) (ha : VR μ a x) (hb : VR μ b y) (d : Nat) (w : World) : (Op.equalIn (d + 1) t x y).run P w = .ok r w := by
  rcases nilEq_cases h with ⟨h1, h2⟩ | ⟨h1, h2, rfl⟩
  · rw [nil_ok ht (nilOf_ok h1 ha) (nilOf_ok h2 hb) (.inl rfl)]; simp
  · rw [nil_ok ht (nilOf_ok h1 ha) (nilOf_ok h2 hb) (.inr rfl)]; simp

theorem avEq_ok {P : Program} {μ : Mu} {k : EqK} {a b : AV} {x y : Value} {r : Bool} {t : TypeId} (h : avEq k a b = some r) (ht : eqT P t = some k) (ha : VR μ a x) (hb : VR μ b y) (d : Nat) (w : World) :
    (Op.equalIn (d + 2) t x y).run P w = .ok r w := by
  unfold eqT at ht
  split at ht
  · rename_i k8 hu; cases ht
    exact scEq_ok h ha hb (by simp [scT, hu]) (d + 1) w
  · rename_i hu; cases ht
    exact scEq_ok h ha hb (by simp [scT, hu]) (d + 1) w
  · rename_i hu; cases ht
    exact scEq_ok h ha hb (by simp [scT, hu]) (d + 1) w
  · rename_i e hu; cases ht
    exact nilEq_ok (.inl ⟨rfl, e, hu⟩) h ha hb (d + 1) w
  · rename_i e hu; cases ht
    exact nilEq_ok (.inr (.inl ⟨rfl, e, hu⟩)) h ha hb (d + 1) w
  · rename_i e f hu; cases ht
    exact nilEq_ok (.inr (.inr (.inl ⟨rfl, e, f, hu⟩))) h ha hb (d + 1) w
  · rename_i e f g hu; cases ht
    exact nilEq_ok (.inr (.inr (.inr ⟨rfl, e, f, g, hu⟩))) h ha hb (d + 1) w
  · rename_i fs hu
    split at ht
    · cases ht
    · rename_i hno
      simp only [Bool.or_eq_true, not_or, Bool.not_eq_true] at hno
      cases hf : flatT P fs.toList 0 with
      | none => rw [hf] at ht; cases ht
      | some l =>
        rw [hf] at ht; cases ht
        cases a with
        | agg as => cases b with
          | agg bs =>
            simp only [avEq] at h
            simp only [VR] at ha hb
            obtain ⟨xs, p, _, rfl⟩ := ha
            obtain ⟨ys, q, _, rfl⟩ := hb
            have hfo : P.fieldsOf t = fs := by simp [Program.fieldsOf, hu]
            rw [run_equalIn_struct w (d + 1) t _ _ (by rw [hfo]; exact hu) hno.1, hfo]
            refine eqFlat_ok (μ := μ) d hf h (fun i z hz => ?_) (fun i z hz => ?_) w
            · obtain ⟨c, p', q'⟩ := VRL.get p i z hz; exact ⟨c, by simpa using p', q'⟩
            · obtain ⟨c, p', q'⟩ := VRL.get q i z hz; exact ⟨c, by simpa using p', q'⟩
          | _ => simp [avEq] at h
        | _ => simp [avEq] at h
  · rename_i n e hu
    split at ht
    · cases ht
    · split at ht
      · rename_i hne he hs
        cases ht
        cases a with
        | bytes m x0 => cases b with
          | bytes m' y0 =>
            simp only [avEq] at h
            split at h
            · rename_i hm
              obtain ⟨rfl, rfl⟩ := hm
              cases h
              simp only [VR] at ha hb
              subst ha hb
              have key2 : ∀ d', d' = d + 1 → (Op.equalIn (d' + 1) t (.agg ((List.range m').map fun i => Value.int .u8 (byteAt x0 i)).toArray) (.agg ((List.range m').map fun i => Value.int .u8 (byteAt y0 i)).toArray)).run P w = .ok (x0 % 2 ^ (8 * m') == y0 % 2 ^ (8 * m')) w := ?_
              · exact key2 _ rfl
              intro d' hd'
              simp only [Op.equalIn, Sem.run_bind, run_und hu, Result.andThen_ok, run_size hs]
              have key := forIn_bytes (P := P) d e .u8 he hs ((List.range m').map fun i => Value.int .u8 (byteAt x0 i)).toArray ((List.range m').map fun i => Value.int .u8 (byteAt y0 i)).toArray x0 y0 w (List.range m')
                (fun i hi => by have := List.mem_range.1 hi; simp [this])
              simp only [Std.Legacy.Range.forIn_eq_forIn_range', Std.Legacy.Range.size]
              rw [show (m' - 0 + 1 - 1) / 1 = m' by omega, ← List.range_eq_range', hd', key]
              by_cases heq : ∀ i, i ∈ List.range m' → byteAt x0 i = byteAt y0 i
              · rw [if_pos heq]
                simp only [Result.andThen_ok, Sem.run_pure]
                have := bytes_ext x0 y0 m' (fun i hi => heq i (List.mem_range.2 hi))
                rw [this]; simp
              · rw [if_neg heq]
                simp only [Result.andThen_ok, Sem.run_pure]
                have hne : (x0 % 2 ^ (8 * m') == y0 % 2 ^ (8 * m')) = false := by
                  rw [beq_eq_false_iff_ne]
                  intro h
                  exact heq fun i hi => bytes_eq_of_mod h i (List.mem_range.1 hi)
                rw [hne]
            · cases h
          | _ => simp [avEq] at h
        | _ => simp [avEq] at h
      · cases ht
  · cases ht

end Go.Proofs.Ytjdemlagmamlbaa
