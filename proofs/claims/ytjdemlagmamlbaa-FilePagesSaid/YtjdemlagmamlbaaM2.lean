/- The relation between the abstract heap and a world of the model, and what a step may change. -/
import Derived.Test.YtjdemlagmamlbaaM1
import Derived.Laws.Sem
import Derived.Laws.Cells
import Derived.Laws.World
namespace Go.Proofs.Ytjdemlagmamlbaa

def AObj.rw : AObj → Bool
  | .row _ _ _ ro _ => !ro
  | _ => true

/-- A row lies in a block. -/
def RowR (μ : Mu) (w : World) (l : Loc) (elem es : Nat) (soft ro : Bool) (d : Dat) : Prop :=
  ∃ c fr, w.heap[l.block]? = some (.cells c elem fr) ∧ (∀ (i : Nat) (v : AV), d.get i = some v → ∃ cv, c[l.off + i]? = some cv ∧ VR μ v cv ∧ cv.oneCell' = true) ∧
    (ro = false → fr = (0, 0) ∧ c.size = l.off + l.cap * es ∧ d.len ≤ l.cap * es ∧ (soft = false → d.len = l.cap * es))

def EntR (μ : Mu) : List (AV × AV × Nat) → List MapEntry → Prop
  | [], l => l = []
  | (k, v, b) :: es, l => ∃ c cs, l = c :: cs ∧ VR μ k c.key ∧ VR μ v c.val ∧ c.born = b ∧ EntR μ es cs

/-- a frame's slots are what the abstract machine holds for them -/
def EnvR (μ : Mu) (e : List AV) (tmps : Array Value) : Prop :=
  e.length ≤ tmps.size ∧ ∀ (i : Nat) (v : AV), (e[i]?).bind AV.notJunk = some v → ∃ c, tmps[i]? = some c ∧ VR μ v c

theorem notJunk_some {v x : AV} (h : v.notJunk = some x) : v = x := by cases v <;> simp_all [AV.notJunk]

theorem EnvR.ext {μ μ' : Mu} {e : List AV} {t : Array Value} (h : EnvR μ e t) (hx : Ext μ μ') : EnvR μ' e t :=
  ⟨h.1, fun i v hv => by obtain ⟨c, p, q⟩ := h.2 i v hv; exact ⟨c, p, VR.ext hx _ _ q⟩⟩

/-- which codes of the model stand for which of the machine's -/
abbrev Lam := Code → ACode → Prop

/-- what a loop broke off for -/
def AExit.code : AExit → Code
  | .normal => .skip
  | .exit id => .exit id
  | .ret => .ret

def ObjR (Λ : Lam) (μ : Mu) (w : World) (l : Loc) : AObj → Prop
  | .row elem es soft ro d => RowR μ w l elem es soft ro d
  | .map es clock => ∃ cs : List MapEntry, w.heap[l.block]? = some (.map cs.toArray clock) ∧ EntR μ es cs
  | .iter m since seen stepped => l.off = 0 ∧ ∃ r, w.heap[l.block]? = some (.mapIter r since seen.toArray stepped) ∧
      (match m with | none => r = none | some id => ∃ k, μ id = some k ∧ r = some k.block)
  | .loop st j tmps ps asg body => ∃ r : Go.Loop, w.heap[l.block]? = some (.loop r) ∧ r.state = st ∧ r.pending = j.map AExit.code ∧ EnvR μ tmps r.tmps ∧ r.params.toList = ps ∧ Λ r.assign asg ∧ Λ r.body body

structure Rel (Λ : Lam) (μ : Mu) (h : AHeap) (w : World) : Prop where
  obj : ∀ id o, h.get id = some o → ∃ l, μ id = some l ∧ ObjR Λ μ w l o
  inj : ∀ i j oi oj li lj, h.get i = some oi → h.get j = some oj → i ≠ j → oi.rw = true → μ i = some li → μ j = some lj → li.block ≠ lj.block
  dom : ∀ id l, μ id = some l → id < h.next ∧ l.block < w.heap.size

structure Step (μ : Mu) (h : AHeap) (w : World) (μ' : Mu) (h' : AHeap) (w' : World) : Prop where
  ext : Ext μ μ'
  next : h.next ≤ h'.next
  low : ∀ id, id < h.next → μ' id = μ id
  os : w'.os = w.os
  tape : w'.tape = w.tape
  output : w'.output = w.output
  size : w.heap.size ≤ w'.heap.size
  frame : ∀ b, b < w.heap.size → (∀ id o l, h.get id = some o → o.rw = true → μ id = some l → l.block ≠ b) → w'.heap[b]? = w.heap[b]?
  own : ∀ id o l, h'.get id = some o → o.rw = true → μ' id = some l →
    w.heap.size ≤ l.block ∨ ∃ id0 o0 l0, h.get id0 = some o0 ∧ o0.rw = true ∧ μ id0 = some l0 ∧ l0.block = l.block

theorem Step.refl (μ : Mu) (h : AHeap) (w : World) : Step μ h w μ h w :=
  ⟨Ext.refl μ, Nat.le_refl _, fun _ _ => rfl, rfl, rfl, rfl, Nat.le_refl _, fun _ _ _ => rfl, fun id o l a b c => .inr ⟨id, o, l, a, b, c, rfl⟩⟩

theorem Step.trans {μ₁ h₁ w₁ μ₂ h₂ w₂ μ₃ h₃ w₃} (a : Step μ₁ h₁ w₁ μ₂ h₂ w₂) (b : Step μ₂ h₂ w₂ μ₃ h₃ w₃) : Step μ₁ h₁ w₁ μ₃ h₃ w₃ := by
  refine ⟨a.ext.trans b.ext, Nat.le_trans a.next b.next, fun id hid => ?_, b.os.trans a.os, b.tape.trans a.tape, b.output.trans a.output, Nat.le_trans a.size b.size, fun k hk hf => ?_, fun id o l ho hr hm => ?_⟩
  · rw [b.low id (Nat.lt_of_lt_of_le hid a.next), a.low id hid]
  · rw [b.frame k (Nat.lt_of_lt_of_le hk a.size) ?_, a.frame k hk hf]
    intro id o l ho hr hm e
    rcases a.own id o l ho hr hm with h | ⟨i0, o0, l0, p, q, r, s⟩
    · omega
    · exact hf i0 o0 l0 p q r (s.trans e)
  · rcases b.own id o l ho hr hm with h | ⟨i0, o0, l0, p, q, r, s⟩
    · exact .inl (Nat.le_trans a.size h)
    · rcases a.own i0 o0 l0 p q r with h' | ⟨i1, o1, l1, p', q', r', s'⟩
      · exact .inl (s ▸ h')
      · exact .inr ⟨i1, o1, l1, p', q', r', s'.trans s⟩

variable {Λ : Lam}

/-- a draw changes nothing -/
theorem Rel.drew {μ h w} (r : Rel Λ μ h w) (n : Nat) : Rel Λ μ h { w with drawn := n } :=
  ⟨fun id o e => by
    obtain ⟨l, hl, ho⟩ := r.obj id o e
    refine ⟨l, hl, ?_⟩
    cases o <;> exact ho, r.inj, r.dom⟩
theorem Step.drew (μ : Mu) (h : AHeap) (w : World) (n : Nat) : Step μ h w μ h { w with drawn := n } :=
  ⟨Ext.refl μ, Nat.le_refl _, fun _ _ => rfl, rfl, rfl, rfl, Nat.le_refl _, fun _ _ _ => rfl, fun id o l a b c => .inr ⟨id, o, l, a, b, c, rfl⟩⟩

theorem EntR.ext {μ μ' : Mu} (h : Ext μ μ') : ∀ (a : List (AV × AV × Nat)) (b : List MapEntry), EntR μ a b → EntR μ' a b
  | [], _, e => e
  | (k, v, b) :: es, l, e => by
    obtain ⟨c, cs, r, p, q, s, t⟩ := e
    exact ⟨c, cs, r, VR.ext h _ _ p, VR.ext h _ _ q, s, EntR.ext h es cs t⟩

theorem RowR.ext {μ μ' : Mu} (h : Ext μ μ') {w w' : World} {l elem es soft ro d} (e : RowR μ w l elem es soft ro d) (hb : w'.heap[l.block]? = w.heap[l.block]?) :
    RowR μ' w' l elem es soft ro d := by
  obtain ⟨c, fr, p, q, r⟩ := e
  refine ⟨c, fr, hb.trans p, fun i v hv => ?_, r⟩
  obtain ⟨cv, a, b, d⟩ := q i v hv
  exact ⟨cv, a, VR.ext h _ _ b, d⟩

theorem ObjR.ext {μ μ' : Mu} (h : Ext μ μ') {w w' : World} {l : Loc} {o : AObj} (e : ObjR Λ μ w l o) (hb : w'.heap[l.block]? = w.heap[l.block]?) : ObjR Λ μ' w' l o := by
  cases o with
  | row elem es soft ro d => exact RowR.ext h e hb
  | map es clock => obtain ⟨cs, p, q⟩ := e; exact ⟨cs, hb.trans p, EntR.ext h _ _ q⟩
  | iter m since seen stepped =>
    obtain ⟨hoff, r, p, q⟩ := e
    refine ⟨hoff, r, hb.trans p, ?_⟩
    cases m with
    | none => exact q
    | some id => obtain ⟨k, a, b⟩ := q; exact ⟨k, h _ _ a, b⟩
  | loop st j tmps ps asg body =>
    obtain ⟨r, p, q1, q2, q3, q4, q5⟩ := e
    exact ⟨r, hb.trans p, q1, q2, q3.ext h, q4, q5⟩

/-- the location map with a new object -/
def Mu.with (μ : Mu) (id : Nat) (l : Loc) : Mu := fun i => if i = id then some l else μ i
theorem Mu.with_same (μ : Mu) (id : Nat) (l : Loc) : μ.with id l id = some l := by simp [Mu.with]
theorem Mu.with_ne (μ : Mu) {id i : Nat} (l : Loc) (h : i ≠ id) : μ.with id l i = μ i := by simp [Mu.with, h]
theorem Ext.with {μ : Mu} {id : Nat} (l : Loc) (h : μ id = none) : Ext μ (μ.with id l) := by
  intro i k e
  by_cases hi : i = id
  · subst hi; rw [h] at e; cases e
  · rw [Mu.with_ne _ _ hi]; exact e

theorem heap_push_lt {w : World} {o : Obj} {b : Nat} (h : b < w.heap.size) : (w.heap.push o)[b]? = w.heap[b]? := by
  rw [Array.getElem?_push, if_neg (by omega)]

/-- A NEW OBJECT: a block at the heap's end. -/
theorem Rel.new {μ h w} (r : Rel Λ μ h w) (o : AObj) (obj : Obj) (l : Loc) (hl : l.block = w.heap.size)
    (ho : ∀ μ', Ext μ μ' → ObjR Λ μ' { w with heap := w.heap.push obj } l o) :
    Rel Λ (μ.with h.next l) (h.new o) { w with heap := w.heap.push obj } ∧ Step μ h w (μ.with h.next l) (h.new o) { w with heap := w.heap.push obj } := by
  have hno : μ h.next = none := by
    cases e : μ h.next with
    | none => rfl
    | some k => have := (r.dom _ _ e).1; omega
  have hext : Ext μ (μ.with h.next l) := Ext.with l hno
  have hget : ∀ i, i ≠ h.next → (h.new o).get i = h.get i := fun i hi => AHeap.get_new_ne h o (fun e => hi e.symm)
  refine ⟨⟨fun id o' e => ?_, fun i j oi oj li lj hi hj hne hrw hli hlj => ?_, fun id k e => ?_⟩, ⟨hext, by simp [AHeap.new], fun id hid => Mu.with_ne _ _ (by omega), rfl, rfl, rfl, by simp, fun b hb _ => heap_push_lt hb, fun id o' k e hrw hk => ?_⟩⟩
  · by_cases hid : id = h.next
    · subst hid
      rw [AHeap.get_new_same h o] at e
      cases e
      exact ⟨l, Mu.with_same _ _ _, ho _ hext⟩
    · rw [hget id hid] at e
      obtain ⟨k, hk, hok⟩ := r.obj id o' e
      refine ⟨k, by rw [Mu.with_ne _ _ hid]; exact hk, ObjR.ext hext hok ?_⟩
      exact heap_push_lt (r.dom _ _ hk).2
  · by_cases hi' : i = h.next
    · subst hi'
      rw [Mu.with_same] at hli; cases hli
      rw [Mu.with_ne _ _ (fun e => hne e.symm)] at hlj
      have := (r.dom _ _ hlj).2
      omega
    · rw [hget i hi'] at hi
      rw [Mu.with_ne _ _ hi'] at hli
      by_cases hj' : j = h.next
      · subst hj'
        rw [Mu.with_same] at hlj; cases hlj
        have := (r.dom _ _ hli).2
        omega
      · rw [hget j hj'] at hj
        rw [Mu.with_ne _ _ hj'] at hlj
        exact r.inj i j oi oj li lj hi hj hne hrw hli hlj
  · by_cases hid : id = h.next
    · subst hid
      rw [Mu.with_same] at e; cases e
      simp [AHeap.new, hl]
    · rw [Mu.with_ne _ _ hid] at e
      have := r.dom _ _ e
      simp only [AHeap.new, Array.size_push]
      omega
  · by_cases hid : id = h.next
    · subst hid
      rw [Mu.with_same] at hk; cases hk
      exact .inl (by omega)
    · rw [hget id hid] at e
      rw [Mu.with_ne _ _ hid] at hk
      exact .inr ⟨id, o', k, e, hrw, hk, rfl⟩

/-- AN OBJECT IS ANOTHER ONE: its block alone changes. -/
theorem Rel.put {μ h w} (r : Rel Λ μ h w) {id : Nat} {o o' : AObj} {l : Loc} {w' : World} (hid : h.get id = some o) (hrw : o.rw = true) (hl : μ id = some l)
    (hos : w'.os = w.os) (htape : w'.tape = w.tape) (hout : w'.output = w.output) (hsz : w'.heap.size = w.heap.size)
    (hfr : ∀ b, b ≠ l.block → w'.heap[b]? = w.heap[b]?) (ho : ObjR Λ μ w' l o') :
    Rel Λ μ (h.put id o') w' ∧ Step μ h w μ (h.put id o') w' := by
  refine ⟨⟨fun i oi e => ?_, fun i j oi oj li lj hi hj hne hr hli hlj => ?_, fun i k e => ?_⟩, ⟨Ext.refl μ, Nat.le_refl _, fun _ _ => rfl, hos, htape, hout, by omega, fun b hb hf => ?_, fun i oi k e hr hk => ?_⟩⟩
  · by_cases hi : i = id
    · subst hi
      rw [AHeap.get_put_same h i o'] at e; cases e
      exact ⟨l, hl, ho⟩
    · rw [AHeap.get_put_ne h o' (fun e => hi e.symm)] at e
      obtain ⟨k, hk, hok⟩ := r.obj i oi e
      exact ⟨k, hk, ObjR.ext (Ext.refl μ) hok (hfr _ (fun e' => r.inj id i o oi l k hid e (fun e => hi e.symm) hrw hl hk e'.symm))⟩
  · by_cases hi' : i = id
    · subst hi'
      rw [hl] at hli; cases hli
      rw [AHeap.get_put_ne h o' hne] at hj
      exact r.inj i j o oj l lj hid hj hne hrw hl hlj
    · rw [AHeap.get_put_ne h o' (fun e => hi' e.symm)] at hi
      by_cases hj' : j = id
      · subst hj'
        exact r.inj i j oi o li lj hi hid hne hr hli hlj
      · rw [AHeap.get_put_ne h o' (fun e => hj' e.symm)] at hj
        exact r.inj i j oi oj li lj hi hj hne hr hli hlj
  · have := r.dom i k e; exact ⟨this.1, by omega⟩
  · exact hfr b (fun e => hf id o l hid hrw hl e.symm)
  · by_cases hi : i = id
    · subst hi
      rw [hl] at hk; cases hk
      exact .inr ⟨i, o, l, hid, hrw, hl, rfl⟩
    · rw [AHeap.get_put_ne h o' (fun e => hi e.symm)] at e
      exact .inr ⟨i, oi, k, e, hr, hk, rfl⟩

/-- an object that is gone -/
theorem Rel.kill {μ h w} (r : Rel Λ μ h w) {id : Nat} {o₀ : AObj} (h₀ : h.get id = some o₀) : Rel Λ μ (h.kill id) w ∧ Step μ h w μ (h.kill id) w := by
  have key : ∀ i o, (h.kill id).get i = some o → h.get i = some o := by
    intro i o e
    by_cases hi : i = id
    · subst hi; rw [AHeap.get_kill_same h i] at e; cases e
    · rwa [AHeap.get_kill_ne h (fun e => hi e.symm)] at e
  exact ⟨⟨fun i o e => r.obj i o (key i o e), fun i j oi oj li lj hi hj => r.inj i j oi oj li lj (key i oi hi) (key j oj hj), r.dom⟩,
    ⟨Ext.refl μ, Nat.le_refl _, fun _ _ => rfl, rfl, rfl, rfl, Nat.le_refl _, fun _ _ _ => rfl, fun i o l e hr hl => .inr ⟨i, o, l, key i o e, hr, hl, rfl⟩⟩⟩

theorem Rel.lt {μ h w} (r : Rel Λ μ h w) {id o} (e : h.get id = some o) : id < h.next := by
  obtain ⟨l, hl, _⟩ := r.obj id o e
  exact (r.dom id l hl).1

end Go.Proofs.Ytjdemlagmamlbaa
