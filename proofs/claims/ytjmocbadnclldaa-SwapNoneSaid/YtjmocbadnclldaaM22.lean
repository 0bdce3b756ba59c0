/- What is known of functions put in their code's place; what to walk the abstract machine with. -/
import Derived.Test.YtjmocbadnclldaaM21
namespace Go.Proofs.Ytjmocbadnclldaa

abbrev FSpec := List AV → AHeap → Option (AV × AHeap)

/-- the functions' code, called at most so deep; some of them by what is known of them -/
def progO (O : Nat → Option FSpec) (T : BT) : Nat → Sem1
  | 0 => fun f args h => match O f with
    | some F => F args h
    | none => none
  | d + 1 => fun f args h => match O f with
    | some F => F args h
    | none => match T.get f with
      | some af => callA (progO O T d) af args h
      | none => none

def OSound (P : Program) (O : Nat → Option FSpec) : Prop := ∀ f F, O f = some F → FSound P f F ∧ Enters P f

theorem progO_sound {P : Program} {O : Nat → Option FSpec} {T : BT} (hO : OSound P O) (hT : AllB (Is P) T) : ∀ d, CSound P (progO O T d)
  | 0 => by
    refine ⟨fun f args h r hc => ?_, fun f args h r h' μ w cargs hc => ?_⟩
    · simp only [progO] at hc
      split at hc
      · rename_i F hF; exact (hO f F hF).2
      · cases hc
    · simp only [progO] at hc
      split at hc
      · rename_i F hF; exact (hO f F hF).1 args h r h' μ w cargs hc
      · cases hc
  | d + 1 => by
    have ih := progO_sound hO hT d
    refine ⟨fun f args h r hc => ?_, fun f args h r h' μ w cargs hc => ?_⟩
    · simp only [progO] at hc
      split at hc
      · rename_i F hF; exact (hO f F hF).2
      · split at hc
        · rename_i af hf
          obtain ⟨fn, K, h1, h2, h3⟩ := BT.get_of hT hf
          exact h3
        · cases hc
    · simp only [progO] at hc
      split at hc
      · rename_i F hF; exact (hO f F hF).1 args h r h' μ w cargs hc
      · split at hc
        · rename_i af hf
          obtain ⟨fn, K, h1, h2, h3⟩ := BT.get_of hT hf
          exact fn_sound h1 h2 ih args h r h' μ w cargs hc
        · cases hc

theorem ObjR.same {μ : Mu} {w w' : World} {l : Loc} {o : AObj} (h : ObjR μ w l o) (hb : w'.heap[l.block]? = w.heap[l.block]?) : ObjR μ w' l o := by
  cases o with
  | row => exact RowR.ext (Ext.refl μ) h hb
  | map es clock =>
    obtain ⟨cs, h1, h2⟩ := h
    exact ⟨cs, hb.trans h1, h2⟩
  | iter m since seen stepped =>
    obtain ⟨r, h1, h2⟩ := h
    exact ⟨r, hb.trans h1, h2⟩
  | loop => trivial

/-- what a function without arguments answers whatever the memory is, if it answers so in none -/
def constF (v : AV) : FSpec := fun args h => match args with
  | [] => some (v, h)
  | _ => none

theorem FSound.closed {P : Program} {f : FuncId} {F : FSpec} (hs : FSound P f F) {b : Bool} {h0 : AHeap} (hc : F [] ⟨0, .leaf⟩ = some (.bool b, h0)) : FSound P f (constF (.bool b)) := by
  intro args h r h' μ w cargs hF hr hargs cs
  unfold constF at hF
  split at hF
  · cases hF
    simp only [VRL] at hargs
    subst hargs
    obtain ⟨fr, w', μ', cv, s, hf, hl, hv, _, hst⟩ := hs [] ⟨0, .leaf⟩ _ h0 _ w [] hc (rel_empty w) (by simp [VRL]) cs
    have hb := hst.below ro_empty
    simp only [VR] at hv
    subst hv
    refine ⟨fr, w', μ, .bool b, s, hf, hl, by simp [VR], ⟨fun id o hg => ?_, hr.inj, fun id l hl => ?_⟩, ⟨Ext.refl μ, Nat.le_refl _, fun _ _ => rfl, hb.os, hb.tape, hb.output, hb.size, fun b hb' _ => hb.block b hb', fun id o l h1 h2 h3 => .inr ⟨id, o, l, h1, h2, h3, rfl⟩⟩⟩
    · obtain ⟨l, hl, hobj⟩ := hr.obj id o hg
      exact ⟨l, hl, hobj.same (hb.block _ (hr.dom _ _ hl).2)⟩
    · have := hr.dom id l hl
      exact ⟨this.1, Nat.lt_of_lt_of_le this.2 hb.size⟩
  · cases hF

theorem FSound.mono {P : Program} {f : FuncId} {F G : FSpec} (hs : FSound P f F) (hG : ∀ args h r, G args h = some r → F args h = some r) : FSound P f G :=
  fun args h r h' μ w cargs hc => hs args h r h' μ w cargs (hG args h _ hc)

theorem AHeap.get_put (h : AHeap) (i j : Nat) (o : AObj) : (h.put i o).get j = if i = j then some o else h.get j := by
  split
  · rename_i e; subst e; exact AHeap.get_put_same h i o
  · rename_i e; exact AHeap.get_put_ne h o e
theorem AHeap.get_new (h : AHeap) (j : Nat) (o : AObj) : (h.new o).get j = if h.next = j then some o else h.get j := by
  split
  · rename_i e; subst e; exact AHeap.get_new_same h o
  · rename_i e; exact AHeap.get_new_ne h o e
theorem AHeap.next_put (h : AHeap) (i : Nat) (o : AObj) : (h.put i o).next = h.next := rfl
theorem AHeap.next_new (h : AHeap) (o : AObj) : (h.new o).next = h.next + 1 := rfl

/-- all objects have numbers below the next one -/
def AHeap.wf (h : AHeap) : Prop := ∀ id o, h.get id = some o → id < h.next

theorem AHeap.wf_put {h : AHeap} (hw : h.wf) {i : Nat} (o : AObj) (hi : i < h.next) : (h.put i o).wf := by
  intro id x hg
  rw [AHeap.get_put] at hg
  rw [AHeap.next_put]
  split at hg
  · omega
  · exact hw id x hg
theorem AHeap.wf_new {h : AHeap} (hw : h.wf) (o : AObj) : (h.new o).wf := by
  intro id x hg
  rw [AHeap.get_new] at hg
  rw [AHeap.next_new]
  split at hg
  · omega
  · have := hw id x hg; omega

/-- all but some objects are as they were; there are not fewer -/
def Keep (S : List Nat) (h h' : AHeap) : Prop := h.next ≤ h'.next ∧ (∀ i, i < h.next → i ∉ S → h'.get i = h.get i) ∧ (h.wf → h'.wf)

theorem Keep.refl (S : List Nat) (h : AHeap) : Keep S h h := ⟨Nat.le_refl _, fun _ _ _ => rfl, fun e => e⟩
theorem Keep.trans {S : List Nat} {a b c : AHeap} (x : Keep S a b) (y : Keep S b c) : Keep S a c :=
  ⟨Nat.le_trans x.1 y.1, fun i hi hs => (y.2.1 i (Nat.lt_of_lt_of_le hi x.1) hs).trans (x.2.1 i hi hs), fun e => y.2.2 (x.2.2 e)⟩
theorem Keep.mono {S T : List Nat} {a b : AHeap} (x : Keep S a b) (h : ∀ i, i ∈ S → i ∈ T ∨ a.next ≤ i) : Keep T a b := ⟨x.1, fun i hi ht => x.2.1 i hi fun hs => (h i hs).elim ht fun hl => by omega, x.2.2⟩
theorem Keep.then {S T U : List Nat} {a b c : AHeap} (x : Keep S a b) (y : Keep T b c) (hS : ∀ i, i ∈ S → i ∈ U ∨ a.next ≤ i) (hT : ∀ i, i ∈ T → i ∈ U ∨ a.next ≤ i) : Keep U a c :=
  ⟨Nat.le_trans x.1 y.1, fun i hi hu => by
    rw [y.2.1 i (Nat.lt_of_lt_of_le hi x.1) fun ht => (hT i ht).elim hu fun hl => by omega]
    exact x.2.1 i hi fun hs => (hS i hs).elim hu fun hl => by omega, fun e => y.2.2 (x.2.2 e)⟩
theorem Keep.put {S : List Nat} {a b : AHeap} (x : Keep S a b) {i : Nat} (o : AObj) (hi : i ∈ S ∨ a.next ≤ i) (hl : i < b.next) : Keep S a (b.put i o) :=
  ⟨x.1, fun j hj hs => by
    rw [AHeap.get_put]
    split
    · rename_i e; subst e
      rcases hi with h | h
      · exact absurd h hs
      · omega
    · exact x.2.1 j hj hs, fun e => AHeap.wf_put (x.2.2 e) o hl⟩
theorem Keep.new {S : List Nat} {a b : AHeap} (x : Keep S a b) (o : AObj) : Keep S a (b.new o) :=
  ⟨by have := x.1; simp only [AHeap.next_new]; omega, fun j hj hs => by
    rw [AHeap.get_new]
    split
    · have := x.1; omega
    · exact x.2.1 j hj hs, fun e => AHeap.wf_new (x.2.2 e) o⟩
theorem Keep.get {S : List Nat} {a b : AHeap} (x : Keep S a b) {i : Nat} {o : AObj} (h : a.get i = some o) (hi : i < a.next) (hs : i ∉ S) : b.get i = some o := by rw [x.2.1 i hi hs]; exact h

theorem wrap_id {k : IntKind} {n : Int} (h1 : k.min ≤ n) (h2 : n ≤ k.max) : k.wrap n = n := by
  cases k <;> simp only [IntKind.min, IntKind.max, IntKind.signed, IntKind.bits, IntKind.wrap] at * <;> (simp at h1 h2 ⊢) <;> (try split) <;> omega

theorem wrap64 {n : Int} (h1 : -9223372036854775808 ≤ n) (h2 : n ≤ 9223372036854775807) : IntKind.i64.wrap n = n := wrap_id h1 h2

end Go.Proofs.Ytjmocbadnclldaa
