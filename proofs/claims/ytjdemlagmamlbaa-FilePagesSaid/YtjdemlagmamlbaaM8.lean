/- Soundness of the operations, one by one: those that make and write nothing. -/
import Derived.Test.YtjdemlagmamlbaaM7
namespace Go.Proofs.Ytjdemlagmamlbaa
variable {Λ : Lam}

section
variable {P : Program} {o : Oper} {ρ : Operand → Value} {μ : Mu} {h h' : AHeap} {w : World} {args : List AV} {r : AV}

theorem opS_val {s : Sem Value} {w' : World} {μ' : Mu} {cv : Value} (e : s.run P w = .ok cv w') (v : VR μ' r cv) (hr : Rel Λ μ' h' w') (st : Step μ h w μ' h' w') :
    OpS Λ P (do pure (Next.value (← s))) μ h w r h' :=
  ⟨μ', w', cv, .inl (by simp [e]), v, hr, st⟩

theorem opS_pval {s : Sem Value} {cv : Value} (hr : Rel Λ μ h w) (e : s.run P w = .ok cv w) (v : VR μ r cv) : OpS Λ P (do pure (Next.value (← s))) μ h w r h :=
  opS_val e v hr (Step.refl μ h w)

theorem op_mv {x : Operand} (ho : o.op = .move x ∨ o.op = .assign x) (e : aop .mv args h = some (r, h')) (ha : VRL μ args [ρ x]) (hr : Rel Λ μ h w) : OpS Λ P (execOp ρ o) μ h w r h' := by
  simp only [aop] at e
  split at e
  · cases e
    obtain ⟨a, e, v⟩ := VRL.one ha
    cases e
    rcases ho with ho | ho <;> exact OpS.pure hr (by simp [execOp, ho]) v
  · cases e

theorem op_pick {c x y : Operand} (ho : o.op = .pick c x y) (e : aop .pick args h = some (r, h')) (ha : VRL μ args [ρ c, ρ x, ρ y]) (hr : Rel Λ μ h w) : OpS Λ P (execOp ρ o) μ h w r h' := by
  simp only [aop] at e
  split at e
  · rename_i b a1 a2
    cases e
    obtain ⟨a, a', a'', e, v, v', v''⟩ := VRL.three ha
    simp only [List.cons.injEq, and_true] at e
    obtain ⟨e1, e2, e3⟩ := e
    rw [← e1] at v; rw [← e2] at v'; rw [← e3] at v''
    have hc := VR.bool v
    cases b
    · exact OpS.pure hr (cv := ρ y) (by simp [execOp, ho, asBool, hc]) v''
    · exact OpS.pure hr (cv := ρ x) (by simp [execOp, ho, asBool, hc]) v'
  · cases e

theorem op_nilCheck {x : Operand} (ho : o.op = .nilCheck x) (e : aop .nilCheck args h = some (r, h')) (ha : VRL μ args [ρ x]) (hr : Rel Λ μ h w) : OpS Λ P (execOp ρ o) μ h w r h' := by
  simp only [aop] at e
  split at e
  · obtain ⟨a, e', v⟩ := VRL.one ha
    cases e'
    split at e
    · cases e
      have v' := v
      simp only [VR] at v; obtain ⟨l, _, hx⟩ := v
      exact OpS.pure hr (cv := ρ x) (by simp [execOp, ho, hx]) v'
    · cases e
      have v' := v
      simp only [VR] at v; obtain ⟨p, q, _, _, hx⟩ := v
      exact OpS.pure hr (cv := ρ x) (by simp [execOp, ho, hx]) v'
    · cases e
  · cases e

theorem run_eqGuard_int {op : BinOp} {t : TypeId} {x y : Operand} {k k' : IntKind} {a b : Int} (w : World) : (eqGuard op t x y (.int k a) (.int k' b)).run P w = .ok () w := by
  cases op <;> simp [eqGuard]

theorem op_bin {op : BinOp} {t u : TypeId} {x y : Operand} (ho : o.op = .binOp op t x y u) (e : aop (.bin op) args h = some (r, h')) (ha : VRL μ args [ρ x, ρ y]) (hr : Rel Λ μ h w) : OpS Λ P (execOp ρ o) μ h w r h' := by
  simp only [aop] at e
  split at e
  · rename_i k a k' b
    cases hb : binInt op k a k' b with
    | none => rw [hb] at e; cases e
    | some r0 =>
      rw [hb] at e; cases e
      obtain ⟨c, d, e, v1, v2⟩ := VRL.two ha
      simp only [List.cons.injEq, and_true] at e
      obtain ⟨e1, e2⟩ := e
      obtain ⟨cv, hrun, hv⟩ := bin_sound (P := P) (t := t) hb w μ
      simp only [execOp, ho]
      refine opS_pval hr (cv := cv) ?_ hv
      rw [e1, e2, VR.int v1, VR.int v2]
      simp only [Sem.run_bind, run_eqGuard_int, Result.andThen_ok, hrun]
  · cases e

/-- what two values that are compared are in the model -/
def EqV (k : EqK) (q : Bool) (x y : Value) : Prop :=
  match k with
  | .scal .int => ∃ i n m, x = .int i n ∧ y = .int i m ∧ q = (n == m)
  | .scal .bool => ∃ a b, x = .bool a ∧ y = .bool b ∧ q = (a == b)
  | .scal .str => ∃ a b, x = .string a ∧ y = .string b ∧ q = (a == b)
  | .flat _ => ∃ a b, x = .agg a ∧ y = .agg b
  | .bytes _ => ∃ a b, x = .agg a ∧ y = .agg b
  | .ptr => (∃ a b, x = .pointer a ∧ y = .pointer b ∧ (a = none ∨ b = none))
  | .slice => ∃ a n c b m d, x = .slice a n c ∧ y = .slice b m d
  | .map => ∃ a b, x = .map a ∧ y = .map b
  | .func => (x = .nilFunc ∨ ∃ f a b, x = .func f a b) ∧ (y = .nilFunc ∨ ∃ f a b, y = .func f a b)

theorem NilV.ptr {q : Bool} {x : Value} (h : NilV .ptr q x) : ∃ a, x = .pointer a ∧ (q = true → a = none) := by
  cases q
  · obtain ⟨a, rfl⟩ := h; exact ⟨some a, rfl, by simp⟩
  · exact ⟨none, h, fun _ => rfl⟩
theorem NilV.slice {q : Bool} {x : Value} (h : NilV .slice q x) : ∃ a n c, x = .slice a n c := by
  cases q
  · obtain ⟨a, n, c, rfl⟩ := h; exact ⟨some a, n, c, rfl⟩
  · exact ⟨none, 0, 0, h⟩
theorem NilV.map {q : Bool} {x : Value} (h : NilV .map q x) : ∃ a, x = .map a := by
  cases q
  · obtain ⟨a, rfl⟩ := h; exact ⟨some a, rfl⟩
  · exact ⟨none, h⟩
theorem NilV.func {q : Bool} {x : Value} (h : NilV .func q x) : x = .nilFunc ∨ ∃ f a b, x = .func f a b := by
  cases q
  · exact .inr h
  · exact .inl h

theorem scEq_inv {s : Sc} {a b : AV} {q : Bool} (h : scEq s a b = some q) :
    (s = .int ∧ ∃ k n m, a = .int k n ∧ b = .int k m ∧ q = (n == m)) ∨ (s = .bool ∧ ∃ n m, a = .bool n ∧ b = .bool m ∧ q = (n == m)) ∨ (s = .str ∧ ∃ n m, a = .str n ∧ b = .str m ∧ q = (n == m)) := by
  unfold scEq at h
  split at h
  · split at h
    · rename_i hk; subst hk; cases h; exact .inl ⟨rfl, _, _, _, rfl, rfl, rfl⟩
    · cases h
  · cases h; exact .inr (.inl ⟨rfl, _, _, rfl, rfl, rfl⟩)
  · cases h; exact .inr (.inr ⟨rfl, _, _, rfl, rfl, rfl⟩)
  · cases h

theorem avEq_kind {k : EqK} {a b : AV} {x y : Value} {q : Bool} (h : avEq k a b = some q) (ha : VR μ a x) (hb : VR μ b y) : EqV k q x y := by
  cases k with
  | scal s =>
    rcases scEq_inv (show scEq s a b = some q from h) with ⟨rfl, k, n, m, rfl, rfl, rfl⟩ | ⟨rfl, n, m, rfl, rfl, rfl⟩ | ⟨rfl, n, m, rfl, rfl, rfl⟩
    · exact ⟨k, n, m, VR.int ha, VR.int hb, rfl⟩
    · exact ⟨n, m, VR.bool ha, VR.bool hb, rfl⟩
    · exact ⟨n, m, by simpa [VR] using ha, by simpa [VR] using hb, rfl⟩
  | flat l =>
    cases a with
    | agg as => cases b with
      | agg bs =>
        simp only [VR] at ha hb
        obtain ⟨xs, _, _, rfl⟩ := ha
        obtain ⟨ys, _, _, rfl⟩ := hb
        exact ⟨_, _, rfl, rfl⟩
      | _ => simp [avEq] at h
    | _ => simp [avEq] at h
  | bytes l =>
    cases a with
    | bytes m x0 => cases b with
      | bytes m' y0 =>
        simp only [VR] at ha hb
        exact ⟨_, _, ha, hb⟩
      | _ => simp [avEq] at h
    | _ => simp [avEq] at h
  | ptr =>
    rcases nilEq_cases (show nilEq (nilOf .ptr a) (nilOf .ptr b) = some q from h) with ⟨h1, h2⟩ | ⟨h1, h2, _⟩
    all_goals
      obtain ⟨p, rfl, hp⟩ := (nilOf_ok h1 ha).ptr
      obtain ⟨p', rfl, hp'⟩ := (nilOf_ok h2 hb).ptr
    · exact ⟨p, p', rfl, rfl, .inl (hp rfl)⟩
    · exact ⟨p, p', rfl, rfl, .inr (hp' rfl)⟩
  | slice =>
    rcases nilEq_cases (show nilEq (nilOf .slice a) (nilOf .slice b) = some q from h) with ⟨h1, h2⟩ | ⟨h1, h2, _⟩
    all_goals
      obtain ⟨p, n, c, rfl⟩ := (nilOf_ok h1 ha).slice
      obtain ⟨p', n', c', rfl⟩ := (nilOf_ok h2 hb).slice
      exact ⟨p, n, c, p', n', c', rfl, rfl⟩
  | map =>
    rcases nilEq_cases (show nilEq (nilOf .map a) (nilOf .map b) = some q from h) with ⟨h1, h2⟩ | ⟨h1, h2, _⟩
    all_goals
      obtain ⟨p, rfl⟩ := (nilOf_ok h1 ha).map
      obtain ⟨p', rfl⟩ := (nilOf_ok h2 hb).map
      exact ⟨p, p', rfl, rfl⟩
  | func =>
    rcases nilEq_cases (show nilEq (nilOf .func a) (nilOf .func b) = some q from h) with ⟨h1, h2⟩ | ⟨h1, h2, _⟩
    all_goals exact ⟨(nilOf_ok h1 ha).func, (nilOf_ok h2 hb).func⟩

theorem eqT_guard {t : TypeId} {k : EqK} (ht : eqT P t = some k) (hk : (∃ l, k = .flat l) ∨ ∃ n, k = .bytes n) : P.eqGuardType P.depth t = false := by
  unfold eqT at ht
  split at ht
  all_goals first
    | (cases ht; rcases hk with ⟨l, hk⟩ | ⟨n, hk⟩ <;> cases hk; done)
    | skip
  · split at ht
    · cases ht
    · rename_i hno
      simp only [Bool.or_eq_true, not_or, Bool.not_eq_true] at hno
      exact hno.2
  · split at ht
    · cases ht
    · rename_i hno
      simpa using hno
  · cases ht

theorem eq_guard {t : TypeId} {k : EqK} {q : Bool} {x y : Value} (ht : eqT P t = some k) (hk : EqV k q x y) (op : BinOp) (xo yo : Operand) (w : World) :
    (eqGuard op t xo yo x y).run P w = .ok () w := by
  cases k with
  | scal s =>
    cases s
    · obtain ⟨i, n, m, rfl, rfl, _⟩ := hk; cases op <;> simp [eqGuard]
    · obtain ⟨n, m, rfl, rfl, _⟩ := hk; cases op <;> simp [eqGuard]
    · obtain ⟨n, m, rfl, rfl, _⟩ := hk; cases op <;> simp [eqGuard]
  | flat l => obtain ⟨a, b, rfl, rfl⟩ := hk; exact run_eqGuard_agg w op t xo yo a b (eqT_guard ht (.inl ⟨l, rfl⟩))
  | bytes l => obtain ⟨a, b, rfl, rfl⟩ := hk; exact run_eqGuard_agg w op t xo yo a b (eqT_guard ht (.inr ⟨l, rfl⟩))
  | ptr => obtain ⟨a, b, rfl, rfl, _⟩ := hk; cases op <;> simp [eqGuard]
  | slice => obtain ⟨a, n, c, b, m, d, rfl, rfl⟩ := hk; cases op <;> simp [eqGuard]
  | map => obtain ⟨a, b, rfl, rfl⟩ := hk; cases op <;> simp [eqGuard]
  | func => obtain ⟨hx | ⟨f, a, b, hx⟩, hy | ⟨g, c, d, hy⟩⟩ := hk <;> subst hx hy <;> cases op <;> simp [eqGuard]

theorem binOp_eq {t : TypeId} {k : EqK} {a b : AV} {x y : Value} {q : Bool} (he : avEq k a b = some q) (ht : eqT P t = some k) (ha : VR μ a x) (hb : VR μ b y) (neg : Bool) (w : World) :
    (binOp (if neg then .neq else .eql) t x y).run P w = .ok (.bool (if neg then !q else q)) w := by
  have hq : (Op.equal t x y).run P w = .ok q w := avEq_ok he ht ha hb 9998 w
  have hk := avEq_kind he ha hb
  cases k with
  | scal s =>
    cases s
    · obtain ⟨i, n, m, rfl, rfl, rfl⟩ := hk
      cases neg
      · simp [binOp, Op.intCmp]
      · simp [binOp, Op.intCmp]; rfl
    · obtain ⟨n, m, rfl, rfl, rfl⟩ := hk
      cases neg <;> simp [binOp, hq]
    · obtain ⟨n, m, rfl, rfl, rfl⟩ := hk
      cases neg
      · simp [binOp, Op.stringOp, beq_toListBytes]
      · simp [binOp, Op.stringOp, beq_toListBytes]
  | flat l => obtain ⟨a, b, rfl, rfl⟩ := hk; cases neg <;> simp [binOp, hq]
  | bytes l => obtain ⟨a, b, rfl, rfl⟩ := hk; cases neg <;> simp [binOp, hq]
  | ptr => obtain ⟨a, b, rfl, rfl, _⟩ := hk; cases neg <;> simp [binOp, hq]
  | slice => obtain ⟨a, n, c, b, m, d, rfl, rfl⟩ := hk; cases neg <;> simp [binOp, hq]
  | map => obtain ⟨a, b, rfl, rfl⟩ := hk; cases neg <;> simp [binOp, hq]
  | func => obtain ⟨hx | ⟨f, a, b, hx⟩, hy | ⟨g, c, d, hy⟩⟩ := hk <;> subst hx hy <;> cases neg <;> simp [binOp, hq]

theorem op_eqv {t u : TypeId} {x y : Operand} {neg : Bool} {k : EqK} (ho : o.op = .binOp (if neg then .neq else .eql) t x y u) (ht : eqT P t = some k) (e : aop (.eqv neg k) args h = some (r, h')) (ha : VRL μ args [ρ x, ρ y]) (hr : Rel Λ μ h w) :
    OpS Λ P (execOp ρ o) μ h w r h' := by
  simp only [aop] at e
  split at e
  · rename_i a b
    cases hb : avEq k a b with
    | none => rw [hb] at e; cases e
    | some q =>
      rw [hb] at e; cases e
      obtain ⟨c, d, e, v1, v2⟩ := VRL.two ha
      simp only [List.cons.injEq, and_true] at e
      obtain ⟨e1, e2⟩ := e
      rw [← e1] at v1; rw [← e2] at v2
      simp only [execOp, ho]
      refine opS_pval hr (cv := .bool (if neg then !q else q)) ?_ (by simp [VR])
      simp only [Sem.run_bind, eq_guard ht (avEq_kind hb v1 v2), Result.andThen_ok, binOp_eq hb ht v1 v2]
  · cases e

theorem op_un {u : UnOp} {t : TypeId} {x : Operand} (ho : o.op = .unOp u t x) (e : aop (.un u) args h = some (r, h')) (ha : VRL μ args [ρ x]) (hr : Rel Λ μ h w) : OpS Λ P (execOp ρ o) μ h w r h' := by
  simp only [aop] at e
  split at e
  · cases e
    obtain ⟨a, e, v⟩ := VRL.one ha
    cases e
    simp only [execOp, ho]
    exact opS_pval hr (by rw [VR.int v]; simp [Op.unary, Op.intArith]; rfl) (by simp [VR])
  · cases e
    obtain ⟨a, e, v⟩ := VRL.one ha
    cases e
    simp only [execOp, ho]
    exact opS_pval hr (by rw [VR.bool v]; simp [Op.unary]; rfl) (by simp [VR])
  · cases e

theorem op_conv {s d : TypeId} {x : Operand} {k : IntKind} {ds : TypeDesc} (ho : o.op = .convert s d x) (hs : P.underlying s = some ds) (hd : P.underlying d = some (.int k)) (e : aop (.conv k) args h = some (r, h')) (ha : VRL μ args [ρ x]) (hr : Rel Λ μ h w) :
    OpS Λ P (execOp ρ o) μ h w r h' := by
  simp only [aop] at e
  split at e
  · cases e
    obtain ⟨a, e, v⟩ := VRL.one ha
    cases e
    simp only [execOp, ho]
    refine opS_pval hr (cv := .int k _) ?_ (by simp [VR]; rfl)
    rw [VR.int v]
    simp only [convert, Sem.run_bind, run_und hs, run_und hd, Result.andThen_ok]
    cases ds <;> rfl
  · cases e

theorem op_sl2arr {t e' : TypeId} {x : Operand} {n : Nat} (ho : o.op = .sliceToArrayPointer t x) (ht : P.underlying t = some (.array n e')) (e : aop (.sl2arr n) args h = some (r, h')) (ha : VRL μ args [ρ x]) (hr : Rel Λ μ h w) :
    OpS Λ P (execOp ρ o) μ h w r h' := by
  simp only [aop] at e
  split at e
  · split at e
    · rename_i id off len cap hle
      cases e
      obtain ⟨a, e, v⟩ := VRL.one ha
      cases e
      simp only [VR] at v; obtain ⟨l, hl, hx⟩ := v
      simp only [execOp, ho]
      refine opS_pval hr (cv := .pointer (some ⟨l.block, l.off + off, none⟩)) ?_ (by simp only [VR]; exact ⟨l, hl, rfl⟩)
      rw [hx]; simp [Instr.arrayAt, run_und ht]; omega
    · cases e
  · split at e
    · rename_i id idx es len hle
      cases e
      obtain ⟨a, e, v⟩ := VRL.one ha
      cases e
      simp only [VR] at v; obtain ⟨l, hl, _, hx⟩ := v
      simp only [execOp, ho]
      refine opS_pval hr (cv := .pointer (some ⟨l.block, l.off + idx * es, none⟩)) ?_ (by simp only [VR]; exact ⟨l, hl, rfl⟩)
      rw [hx]; simp [Instr.arrayAt, run_und ht]; omega
    · cases e
  · cases e

theorem VRL.take {v : List AV} {c : List Value} (hv : VRL μ v c) (n : Nat) : VRL μ (v.take n) (c.take n) := by
  induction v generalizing c n with
  | nil => simp only [VRL] at hv; subst hv; simp [VRL]
  | cons a as ih =>
    simp only [VRL] at hv; obtain ⟨x, xs, rfl, p, q⟩ := hv
    cases n with
    | zero => simp [VRL]
    | succ n => simp only [List.take_succ_cons, VRL]; exact ⟨x, _, rfl, p, ih q n⟩
theorem VRL.drop {v : List AV} {c : List Value} (hv : VRL μ v c) (n : Nat) : VRL μ (v.drop n) (c.drop n) := by
  induction v generalizing c n with
  | nil => simp only [VRL] at hv; subst hv; simp [VRL]
  | cons a as ih =>
    cases n with
    | zero => simpa using hv
    | succ n => simp only [VRL] at hv; obtain ⟨x, xs, rfl, p, q⟩ := hv; simpa using ih q n

theorem op_mkfunc {f : FuncId} {first captured : Array Operand} (ho : o.op = .makeFunc (.func f) first captured) (e : aop (.mkfunc f first.size) args h = some (r, h')) (ha : VRL μ args ((first ++ captured).toList.map ρ)) (hr : Rel Λ μ h w) :
    OpS Λ P (execOp ρ o) μ h w r h' := by
  simp only [aop] at e
  cases e
  simp only [execOp, ho]
  refine opS_pval hr (cv := .func (.func f) (first.map ρ) (captured.map ρ)) (by simp [Instr.makeFunc]) ?_
  simp only [VR]
  rw [Array.toList_append, List.map_append] at ha
  refine ⟨_, _, VRL.take ha first.size, VRL.drop ha first.size, ?_⟩
  have h1 : (first.toList.map ρ).length = first.size := by simp
  rw [← h1, List.take_left, List.drop_left]
  congr 1 <;> (apply Array.ext'; simp)

theorem op_extract {x : Operand} {i : Nat} (ho : o.op = .extract x i) (e : aop (.extract i) args h = some (r, h')) (ha : VRL μ args [ρ x]) (hr : Rel Λ μ h w) : OpS Λ P (execOp ρ o) μ h w r h' := by
  simp only [aop] at e
  split at e
  · rename_i vs
    cases hi : vs[i]? with
    | none => rw [hi] at e; cases e
    | some y =>
      rw [hi] at e; cases e
      obtain ⟨a, e, v⟩ := VRL.one ha
      cases e
      simp only [VR] at v; obtain ⟨l, hl, hx⟩ := v
      obtain ⟨c, hc, hv⟩ := VRL.get hl i _ hi
      simp only [execOp, ho]
      refine opS_pval hr (cv := c) ?_ hv
      rw [hx]; simp [Instr.extract, hc]
  · cases e

theorem op_fieldAddr {s : TypeId} {x : Operand} {f n : Nat} {fs : Array Field} {fd : Field} (ho : o.op = .fieldAddr s x f) (hs : P.underlying s = some (.struct fs)) (hf : fs[f]? = some fd) (hn : sizeT P fd.type = some n) (h0 : n ≠ 0)
    (e : aop (.fieldAddr fd.offset) args h = some (r, h')) (ha : VRL μ args [ρ x]) (hr : Rel Λ μ h w) : OpS Λ P (execOp ρ o) μ h w r h' := by
  simp only [aop] at e
  split at e
  · rename_i id off
    cases e
    obtain ⟨a, e, v⟩ := VRL.one ha
    cases e
    simp only [VR] at v; obtain ⟨l, hl, hx⟩ := v
    simp only [execOp, ho]
    refine opS_pval hr (cv := .pointer (some ⟨l.block, l.off + (off + fd.offset), none⟩)) ?_ (by simp only [VR]; exact ⟨l, hl, rfl⟩)
    rw [hx]
    simp [Instr.fieldAt, run_und hs, hf, Instr.sureAddr, fieldPlace, run_size hn, h0, add_at, Nat.add_assoc]
  · cases e

theorem run_part {t : TypeId} {d : Dat} {cs : Array Value} (hd : DatC μ d cs.toList) {off n : Nat} {agg : Bool} {v : AV} (hn : sizeT P t = some n) (hb : isAggT P t = some agg) (hv : d.part off n agg = some v) (w : World) :
    ∃ cv, (part t cs off).run P w = .ok cv w ∧ VR μ v cv := by
  unfold Dat.part at hv
  cases agg
  · simp only [Bool.false_eq_true, if_false] at hv
    obtain ⟨c, p, q, _⟩ := hd.2 _ _ hv
    exact ⟨c, by simp [part, run_isAgg hb, show cs[off]? = some c by simpa using p], q⟩
  · simp only [if_true] at hv
    obtain ⟨s, hs, rfl⟩ := Dat.sub_take hv
    have hc := hd.take hs
    refine ⟨.agg ((cs.toList.drop off).take n).toArray, ?_, hc.agg⟩
    simp only [part, Sem.run_bind, run_isAgg hb, Result.andThen_ok, if_true, run_size hn, Sem.run_pure]
    congr 2
    apply Array.ext'
    simp [List.take_drop]

theorem aggC {x : AV} {c : Value} (hx : x.isAgg = true) (v : VR μ x c) : ∃ cs : Array Value, c = .agg cs ∧ DatC μ x.dat cs.toList := by
  have hd := VR.dat v (by cases x <;> simp_all [AV.isAgg, AV.isVal])
  cases x with
  | agg l => simp only [VR] at v; obtain ⟨a, _, _, rfl⟩ := v; exact ⟨_, rfl, by simpa [Value.cells] using hd⟩
  | bytes l n => simp only [VR] at v; subst v; exact ⟨_, rfl, by simpa [Value.cells] using hd⟩
  | _ => simp [AV.isAgg] at hx

theorem op_field {t : TypeId} {x : Operand} {f n : Nat} {b : Bool} {fs : Array Field} {fd : Field} (ho : o.op = .field t x f) (hs : P.underlying t = some (.struct fs)) (hf : fs[f]? = some fd) (hn : sizeT P fd.type = some n) (hb : isAggT P fd.type = some b)
    (e : aop (.field fd.offset n b) args h = some (r, h')) (ha : VRL μ args [ρ x]) (hr : Rel Λ μ h w) : OpS Λ P (execOp ρ o) μ h w r h' := by
  simp only [aop] at e
  split at e
  · rename_i x0
    split at e
    · rename_i hagg
      cases hx : x0.dat.part fd.offset n b with
      | none => rw [hx] at e; cases e
      | some y =>
        rw [hx] at e; cases e
        obtain ⟨a, e, v⟩ := VRL.one ha
        cases e
        obtain ⟨cs, hc, hd⟩ := aggC hagg v
        obtain ⟨cv, p, q⟩ := run_part hd hn hb hx w
        simp only [execOp, ho]
        refine opS_pval hr (cv := cv) ?_ q
        rw [hc]; simp [Instr.field, run_und hs, hf, asAgg, p]
    · cases e
  · cases e

theorem op_indexv {t el : TypeId} {x i : Operand} {n len : Nat} {b : Bool} (ho : o.op = .index t x i) (hs : P.underlying t = some (.array len el)) (hn : sizeT P el = some n) (hb : isAggT P el = some b)
    (e : aop (.indexv len n b) args h = some (r, h')) (ha : VRL μ args [ρ x, ρ i]) (hr : Rel Λ μ h w) : OpS Λ P (execOp ρ o) μ h w r h' := by
  simp only [aop] at e
  split at e
  · rename_i x0 k j
    split at e
    · rename_i hc
      cases hx : x0.dat.part (j.toNat * n) n b with
      | none => rw [hx] at e; cases e
      | some y =>
        rw [hx] at e; cases e
        obtain ⟨a, a', e, v, v'⟩ := VRL.two ha
        simp only [List.cons.injEq, and_true] at e
        obtain ⟨e1, e2⟩ := e
        rw [← e1] at v; rw [← e2] at v'
        obtain ⟨cs, hcs, hd⟩ := aggC hc.2.2 v
        obtain ⟨cv, p, q⟩ := run_part hd hn hb hx w
        simp only [execOp, ho]
        refine opS_pval hr (cv := cv) ?_ q
        rw [hcs, VR.int v']
        have hlt : j < (len : Int) := hc.2.1
        simp [Instr.index, asIntOf, run_und hs, hc.1, hlt, run_size hn, p]
    · cases e
  · cases e

theorem op_indexa {t el : TypeId} {x i : Operand} {n len : Nat} (ho : o.op = .indexAddr t x i) (hs : P.underlying t = some (.array len el)) (hn : sizeT P el = some n)
    (e : aop (.indexa len n) args h = some (r, h')) (ha : VRL μ args [ρ x, ρ i]) (hr : Rel Λ μ h w) : OpS Λ P (execOp ρ o) μ h w r h' := by
  simp only [aop] at e
  split at e
  · rename_i id off k j
    split at e
    · rename_i hc
      cases e
      obtain ⟨a, a', e, v, v'⟩ := VRL.two ha
      simp only [List.cons.injEq, and_true] at e
      obtain ⟨e1, e2⟩ := e
      rw [← e1] at v; rw [← e2] at v'
      simp only [VR] at v; obtain ⟨l, hl, hx⟩ := v
      simp only [execOp, ho]
      refine opS_pval hr (cv := .pointer (some ⟨l.block, l.off + (off + j.toNat * n), none⟩)) ?_ (by simp only [VR]; exact ⟨l, hl, rfl⟩)
      have hlt : j < (len : Int) := hc.2
      rw [hx, VR.int v']
      simp [Instr.indexAt, asIntOf, run_und hs, Instr.sureAddr, hc.1, hlt, run_size hn, add_at, Nat.add_assoc]
    · cases e
  · cases e

theorem op_indexs {t el : TypeId} {x i : Operand} {n : Nat} (ho : o.op = .indexAddr t x i) (hs : P.underlying t = some (.slice el)) (hn : sizeT P el = some n)
    (e : aop (.indexs n) args h = some (r, h')) (ha : VRL μ args [ρ x, ρ i]) (hr : Rel Λ μ h w) : OpS Λ P (execOp ρ o) μ h w r h' := by
  simp only [aop] at e
  split at e
  · rename_i id off len cap k j
    split at e
    · rename_i hc
      cases e
      obtain ⟨a, a', e, v, v'⟩ := VRL.two ha
      simp only [List.cons.injEq, and_true] at e
      obtain ⟨e1, e2⟩ := e
      rw [← e1] at v; rw [← e2] at v'
      simp only [VR] at v; obtain ⟨l, hl, hx⟩ := v
      simp only [execOp, ho]
      refine opS_pval hr (cv := .pointer (some ⟨l.block, l.off + (off + j.toNat * n), none⟩)) ?_ (by simp only [VR]; exact ⟨l, hl, rfl⟩)
      have hlt : j < (len : Int) := hc.2
      rw [hx, VR.int v']
      simp [Instr.indexAt, asIntOf, run_und hs, hc.1, hlt, run_size hn, add_at, Nat.add_assoc]
    · cases e
  · rename_i id idx es len k j
    split at e
    · rename_i hc
      cases e
      obtain ⟨a, a', e, v, v'⟩ := VRL.two ha
      simp only [List.cons.injEq, and_true] at e
      obtain ⟨e1, e2⟩ := e
      rw [← e1] at v; rw [← e2] at v'
      simp only [VR] at v; obtain ⟨l, hl, _, hx⟩ := v
      simp only [execOp, ho]
      refine opS_pval hr (cv := .pointer (some ⟨l.block, l.off + (idx + j.toNat) * n, none⟩)) ?_ (by simp only [VR]; exact ⟨l, hl, rfl⟩)
      have hlt : j < (len : Int) := hc.2.1
      rw [hx, VR.int v', hc.2.2]
      simp [Instr.indexAt, asIntOf, run_und hs, hc.1, hlt, run_size hn, add_at, Nat.add_assoc, Nat.add_mul]
    · cases e
  · cases e

theorem op_load1 {t : TypeId} {x : Operand} (ho : o.op = .load t x) (hb : isAggT P t = some false) (e : aop .load1 args h = some (r, h')) (ha : VRL μ args [ρ x]) (hr : Rel Λ μ h w) : OpS Λ P (execOp ρ o) μ h w r h' := by
  simp only [aop] at e
  split at e
  · rename_i id off
    split at e
    · rename_i e0 es soft ro d hg
      cases hd : d.get off with
      | none => rw [hd] at e; cases e
      | some y =>
        rw [hd] at e; cases e
        obtain ⟨a, e, v⟩ := VRL.one ha
        cases e
        simp only [VR] at v; obtain ⟨l, hl, hx⟩ := v
        obtain ⟨l', hl', hrow⟩ := hr.row hg
        rw [hl] at hl'; cases hl'
        obtain ⟨cv, p, q, _⟩ := hrow.get hd
        simp only [execOp, ho]
        refine opS_pval hr (cv := cv) ?_ q
        rw [hx]; simp [Instr.loadAt, Instr.sureAddr, loadVar, run_isAgg hb, p]
    · cases e
  · cases e

theorem op_loadn {t : TypeId} {x : Operand} {n : Nat} (ho : o.op = .load t x) (hb : isAggT P t = some true) (hn : sizeT P t = some n) (e : aop (.loadn n) args h = some (r, h')) (ha : VRL μ args [ρ x]) (hr : Rel Λ μ h w) : OpS Λ P (execOp ρ o) μ h w r h' := by
  simp only [aop] at e
  split at e
  · rename_i id off
    split at e
    · rename_i e0 es soft ro d hg
      cases hd : d.sub off n with
      | none => rw [hd] at e; cases e
      | some y =>
        rw [hd] at e; cases e
        obtain ⟨a, e, v⟩ := VRL.one ha
        cases e
        simp only [VR] at v; obtain ⟨l, hl, hx⟩ := v
        obtain ⟨l', hl', hrow⟩ := hr.row hg
        rw [hl] at hl'; cases hl'
        obtain ⟨s, hs, rfl⟩ := Dat.sub_take hd
        obtain ⟨cs, p, q⟩ := hrow.take hs P
        simp only [execOp, ho]
        refine opS_pval hr (cv := .agg cs.toArray) ?_ q.agg
        rw [hx]; simp [Instr.loadAt, Instr.sureAddr, loadVar, run_isAgg hb, run_size hn, p w rfl]
    · cases e
  · cases e

end
end Go.Proofs.Ytjdemlagmamlbaa
