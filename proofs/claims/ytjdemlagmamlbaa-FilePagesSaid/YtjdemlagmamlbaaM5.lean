/- The model's operations looked up: 'trOp'; the pure ones are sound. -/
import Derived.Test.YtjdemlagmamlbaaM4
import GoSem.Dispatch
namespace Go.Proofs.Ytjdemlagmamlbaa

def reifS : Value → Option AV
  | .bool b => some (.bool b)
  | .int k n => some (.int k n)
  | .string s => some (.str s)
  | .pointer none => some .nilptr
  | .slice none 0 0 => some .nilsl
  | .map none => some .nilmap
  | .nilFunc => some .nilfunc
  | _ => none

def reifL : List Value → Option (List AV)
  | [] => some []
  | v :: vs => match reifS v, reifL vs with
    | some a, some as => some (a :: as)
    | _, _ => none

def zeroU8 : List Value → Bool
  | [] => true
  | .int .u8 n :: vs => n == 0 && zeroU8 vs
  | _ => false

def reif : Value → Option AV
  | .agg cs => if zeroU8 cs.toList && decide (0 < cs.size) then some (.bytes cs.size 0) else (reifL cs.toList).map .agg
  | .tuple vs => if vs.size = 0 then some (.tuple []) else none
  | v => reifS v

theorem reifS_ok {μ : Mu} {v : Value} {a : AV} (h : reifS v = some a) : VR μ a v ∧ v.oneCell' = true ∧ a.isVal = true := by
  unfold reifS at h
  split at h <;> first | (cases h; exact ⟨by simp [VR], rfl, rfl⟩) | cases h

theorem reifL_ok {μ : Mu} : ∀ {l : List Value} {a : List AV}, reifL l = some a → VRL μ a l ∧ ∀ x, x ∈ l → x.oneCell' = true
  | [], a, h => by simp only [reifL] at h; cases h; exact ⟨by simp [VRL], by simp⟩
  | v :: vs, a, h => by
    simp only [reifL] at h
    split at h
    · rename_i x xs h1 h2
      cases h
      obtain ⟨p, q, _⟩ := reifS_ok (μ := μ) h1
      obtain ⟨r, s⟩ := reifL_ok (μ := μ) h2
      refine ⟨by simp only [VRL]; exact ⟨v, vs, rfl, p, r⟩, fun y hy => ?_⟩
      rcases List.mem_cons.1 hy with rfl | hy
      · exact q
      · exact s y hy
    · cases h

theorem zeroU8_ok : ∀ {l : List Value}, zeroU8 l = true → l = (List.range l.length).map fun i => Value.int .u8 (byteAt 0 i)
  | [], _ => by simp
  | v :: vs, h => by
    unfold zeroU8 at h
    split at h
    · rename_i heq; cases heq
    · rename_i n ws heq
      cases heq
      simp only [Bool.and_eq_true, beq_iff_eq] at h
      obtain ⟨rfl, h⟩ := h
      rw [List.length_cons, List.range_succ_eq_map, List.map_cons, List.map_map]
      congr 1
      have ih := zeroU8_ok h
      conv => lhs; rw [ih]
      apply List.map_congr_left
      intro i _
      simp [byteAt_zero]
    · cases h

theorem reif_ok {μ : Mu} {v : Value} {a : AV} (h : reif v = some a) : VR μ a v := by
  unfold reif at h
  split at h
  · rename_i cs
    split at h
    · rename_i hc
      cases h
      simp only [Bool.and_eq_true] at hc
      have := zeroU8_ok hc.1
      simp only [VR]
      congr 1
      apply Array.ext'
      simpa using this
    · cases hr : reifL cs.toList with
      | none => rw [hr] at h; cases h
      | some l =>
        rw [hr] at h; cases h
        obtain ⟨p, q⟩ := reifL_ok (μ := μ) hr
        simp only [VR]
        exact ⟨_, p, q, by simp⟩
  · rename_i vs
    split at h
    · rename_i hs
      cases h
      simp only [VR, VRL]
      exact ⟨[], rfl, by rw [Array.eq_empty_of_size_eq_zero hs]⟩
    · cases h
  · exact (reifS_ok h).1

def sizeT (P : Program) (t : TypeId) : Option Nat := (P.info? t).map (·.size)
def bytesT (P : Program) (t : TypeId) : Option Nat := (P.info? t).map (·.bytes)
def isAggT (P : Program) (t : TypeId) : Option Bool :=
  match P.underlying t with
  | some (.struct _) => some true
  | some (.array _ _) => some true
  | some _ => some false
  | none => none

/-- a type's zero, as a value -/
def zeroA (P : Program) (t : TypeId) : Option AV :=
  match P.info? t with
  | some i => i.zero.bind reif
  | none => none

/-- a type's zero, as cells: bytes for bytes -/
def zeroD (P : Program) (t : TypeId) : Option Dat :=
  match zeroA P t with
  | some (.int .u8 n) => if n = 0 then some (.bytes 1 0) else none
  | some (.tuple _) => none
  | some .junk => none
  | some v => some v.dat
  | none => none

theorem run_und {P : Program} {t : TypeId} {d : TypeDesc} (h : P.underlying t = some d) (w : World) : (underlying t).run P w = .ok d w := by
  simp [underlying, h]
theorem run_info {P : Program} {t : TypeId} {i : TypeInfo} (h : P.info? t = some i) (w : World) : (typeInfo t).run P w = .ok i w := by
  simp [typeInfo, h]
theorem run_size {P : Program} {t : TypeId} {n : Nat} (h : sizeT P t = some n) (w : World) : (sizeOf t).run P w = .ok n w := by
  unfold sizeT at h
  cases hi : P.info? t with
  | none => rw [hi] at h; cases h
  | some i => rw [hi] at h; cases h; simp [sizeOf, run_info hi]
theorem run_isAgg {P : Program} {t : TypeId} {b : Bool} (h : isAggT P t = some b) (w : World) : (isAgg t).run P w = .ok b w := by
  unfold isAggT at h
  cases hu : P.underlying t with
  | none => rw [hu] at h; cases h
  | some d =>
    rw [hu] at h
    simp only [isAgg, Sem.run_bind, run_und hu, Result.andThen_ok]
    cases d <;> simp_all
theorem zeroA_ok {P : Program} {t : TypeId} {a : AV} (h : zeroA P t = some a) : ∃ i v, P.info? t = some i ∧ i.zero = some v ∧ reif v = some a := by
  unfold zeroA at h
  cases hi : P.info? t with
  | none => rw [hi] at h; cases h
  | some i =>
    rw [hi] at h
    cases hz : i.zero with
    | none => simp [hz] at h
    | some v => exact ⟨i, v, rfl, hz, by simpa [hz] using h⟩
theorem run_zero {P : Program} {t : TypeId} {i : TypeInfo} {v : Value} (h : P.info? t = some i) (hz : i.zero = some v) (w : World) : (zeroValue t).run P w = .ok v w := by
  simp [zeroValue, run_info h, hz]
theorem zeroD_ok {P : Program} {t : TypeId} {z : Dat} (h : zeroD P t = some z) (μ : Mu) : ∃ i v, P.info? t = some i ∧ i.zero = some v ∧ DatC μ z v.cells.toList := by
  unfold zeroD at h
  cases ha : zeroA P t with
  | none => rw [ha] at h; cases h
  | some a =>
    obtain ⟨i, v, hi, hz, hr⟩ := zeroA_ok ha
    have hv := reif_ok (μ := μ) hr
    refine ⟨i, v, hi, hz, ?_⟩
    rw [ha] at h
    by_cases h8 : ∃ n, a = .int .u8 n
    · obtain ⟨n, rfl⟩ := h8
      simp only at h
      split at h
      · rename_i h0
        cases h
        subst h0
        simp only [VR] at hv; subst hv
        simpa [Value.cells, byteAt_zero] using DatC.bytes μ 1 0
      · cases h
    · by_cases ht : ∃ vs, a = .tuple vs
      · obtain ⟨vs, rfl⟩ := ht; cases h
      · by_cases hj : a = .junk
        · subst hj; cases h
        have hz' : some a.dat = some z := by
          rw [← h]
          split
          · rename_i n heq; exact absurd ⟨n, Option.some.inj heq⟩ h8
          · rename_i vs heq; exact absurd ⟨vs, Option.some.inj heq⟩ ht
          · rename_i heq; exact absurd (Option.some.inj heq) hj
          · rename_i heq; cases heq; rfl
          · rename_i heq; cases heq
        cases hz'
        refine VR.dat hv ?_
        cases a with
        | tuple vs => exact absurd ⟨vs, rfl⟩ ht
        | junk => exact absurd rfl hj
        | _ => rfl

def scT (P : Program) (t : TypeId) : Option Sc :=
  match P.underlying t with
  | some (.int _) => some .int
  | some .bool => some .bool
  | some .string => some .str
  | _ => none

/-- the fields of a flat struct, from one cell on -/
def flatT (P : Program) : List Field → Nat → Option (List Sc)
  | [], _ => some []
  | f :: fs, k => if f.offset = k ∧ f.name ≠ "_" then match scT P f.type, flatT P fs (k + 1) with
      | some s, some ss => some (s :: ss)
      | _, _ => none
    else none

def eqT (P : Program) (t : TypeId) : Option EqK :=
  match P.underlying t with
  | some (.int _) => some (.scal .int)
  | some .bool => some (.scal .bool)
  | some .string => some (.scal .str)
  | some (.pointer _) => some .ptr
  | some (.slice _) => some .slice
  | some (.map _ _) => some .map
  | some (.func _ _ _) => some .func
  | some (.struct fs) => if P.stoodInHeld t || P.eqGuardType P.depth t then none else (flatT P fs.toList 0).map .flat
  | some (.array n e) => if P.eqGuardType P.depth t then none else match P.underlying e, sizeT P e with
    | some (.int .u8), some 1 => some (.bytes n)
    | _, _ => none
  | _ => none

/-- a map's key -/
def keyT (P : Program) (t : TypeId) : Option EqK :=
  match eqT P t with
  | some (.scal s) => some (.scal s)
  | some (.flat l) => some (.flat l)
  | _ => none

def partsT (P : Program) (fs : Array Field) : List Nat → Option (List (Nat × Nat))
  | [] => some []
  | i :: is => match fs[i]? with
    | some f => match sizeT P f.type, partsT P fs is with
      | some n, some ps => some ((f.offset, n) :: ps)
      | _, _ => none
    | none => none

def sizesT (P : Program) : List Field → Bool
  | [] => true
  | f :: fs => (sizeT P f.type).isSome && sizesT P fs

/-- THE OPERATION WITH ITS TYPES LOOKED UP. -/
def trOp (P : Program) (o : Op) : AOp :=
  match o with
  | .move _ => .mv
  | .assign _ => .mv
  | .pick _ _ _ => .pick
  | .alloc e => match zeroD P e, sizeT P e with
    | some z, some n => .alloc e n z
    | _, _ => .bad
  | .box e _ => match sizeT P e with
    | some n => .box e n
    | none => .bad
  | .build t ps => match zeroA P t, P.underlying t with
    | some z, some (.struct fs) => if sizesT P fs.toList && z.isVal then match partsT P fs (ps.toList.map (·.1)) with
        | some pl => .build z pl
        | none => .bad
      else .bad
    | some z, some (.array _ e) => match sizeT P e with
      | some n => if z.isVal then .build z (ps.toList.map fun p => (p.1 * n, n)) else .bad
      | none => .bad
    | _, _ => .bad
  | .buildSlice t len ps => match P.underlying t with
    | some (.slice e) => match zeroD P e, sizeT P e with
      | some z, some n => if len * n ≤ 2 ^ 24 ∧ z.len = n ∧ 0 < n then .bslice e n len z (ps.toList.map (·.1)) else .bad
      | _, _ => .bad
    | _ => .bad
  | .load t _ => match isAggT P t, sizeT P t with
    | some true, some n => .loadn n
    | some false, _ => .load1
    | _, _ => .bad
  | .store t _ _ => match sizeT P t with
    | some n => .store n
    | none => .bad
  | .nilCheck _ => .nilCheck
  | .binOp op t _ _ _ => match op with
    | .eql => match P.underlying t with
      | some (.int _) => .bin .eql
      | _ => match eqT P t with
        | some k => .eqv false k
        | none => .bad
    | .neq => match P.underlying t with
      | some (.int _) => .bin .neq
      | _ => match eqT P t with
        | some k => .eqv true k
        | none => .bad
    | op => .bin op
  | .unOp op _ _ => .un op
  | .convert s d _ => match P.underlying s, P.underlying d with
    | some _, some (.int k) => .conv k
    | some (.slice e), some .string => match P.underlying e with
      | some (.int .u8) => .tostr
      | _ => .bad
    | _, _ => .bad
  | .sliceToArrayPointer t _ => match P.underlying t with
    | some (.array n _) => .sl2arr n
    | _ => .bad
  | .makeFunc (.func f) first _ => .mkfunc f first.size
  | .makeMap _ none => .mkmap
  | .makeSlice t _ _ => match P.underlying t with
    | some (.slice e) => match zeroD P e, sizeT P e, bytesT P e with
      | some z, some n, some b => .mkslice e n b z
      | _, _, _ => .bad
    | _ => .bad
  | .slice t _ lo hi mx => match P.underlying t with
    | some (.slice e) => match sizeT P e with
      | some n => .slice n lo.isSome hi.isSome mx.isSome
      | none => .bad
    | some (.array k e) => match sizeT P e with
      | some n => .slicea k n lo.isSome hi.isSome mx.isSome
      | none => .bad
    | _ => .bad
  | .fieldAddr s _ f => match P.underlying s with
    | some (.struct fs) => match fs[f]? with
      | some f => match sizeT P f.type with
        | some n => if n = 0 then .bad else .fieldAddr f.offset
        | none => .bad
      | none => .bad
    | _ => .bad
  | .field t _ f => match P.underlying t with
    | some (.struct fs) => match fs[f]? with
      | some f => match sizeT P f.type, isAggT P f.type with
        | some n, some b => .field f.offset n b
        | _, _ => .bad
      | none => .bad
    | _ => .bad
  | .indexAddr t _ _ => match P.underlying t with
    | some (.array n e) => match sizeT P e with
      | some k => .indexa n k
      | none => .bad
    | some (.slice e) => match sizeT P e with
      | some k => .indexs k
      | none => .bad
    | _ => .bad
  | .index t _ _ => match P.underlying t with
    | some (.array n e) => match sizeT P e, isAggT P e with
      | some k, some b => .indexv n k b
      | _, _ => .bad
    | _ => .bad
  | .lookup t _ _ ok => match P.underlying t with
    | some (.map k e) => match keyT P k, zeroA P e with
      | some q, some z => .lookup q z ok
      | _, _ => .bad
    | _ => .bad
  | .mapUpdate t _ _ _ => match P.underlying t with
    | some (.map k _) => match keyT P k with
      | some q => .mapput q
      | none => .bad
    | _ => .bad
  | .extract _ i => .extract i
  | .call c => match c.callee with
    | .value _ => .callv
    | .invoke _ _ => .bad
    | .builtin b => match b, (c.argTypes[0]?).bind P.underlying with
      | .len, some (.slice _) => .lens
      | .len, some (.map _ _) => .lenm
      | .len, some (.array n _) => .lenc n
      | .cap, some (.slice _) => .cap
      | .append, some (.slice e) => match sizeT P e, bytesT P e, zeroD P e, (c.argTypes[1]?).bind P.underlying with
        | some n, some b, some z, some (.int _) => if z.len = n ∧ 0 < n then .appendz e n b z else .bad
        | some n, some b, some z, some (.slice _) => if z.len = n ∧ 0 < n then .append e n b z else .bad
        | _, _, _, _ => .bad
      | .copy, some (.slice e) => match sizeT P e with
        | some n => .copy n
        | none => .bad
      | .delete, some (.map k _) => match keyT P k with
        | some q => .delete q
        | none => .bad
      | .clear, some (.slice e) => match sizeT P e, zeroD P e with
        | some n, some z => if z.len = n ∧ 0 < n then .clear n z else .bad
        | _, _ => .bad
      | .min, some (.int _) => .min
      | .max, some (.int _) => .max
      | _, _ => .bad
  | .defer c => match c.callee with
    | .value _ => .defer
    | _ => .bad
  | .range t _ => match P.underlying t with
    | some (.map _ _) => .range
    | _ => .bad
  | .next _ false => .next
  | .entry _ => .entry
  | _ => .bad

end Go.Proofs.Ytjdemlagmamlbaa
