/- BY PROGRAM (wip/tool/shake.py): own texts, one behind the other, without what is not needed. -/
import Derived.Control
import Derived.Calls
import Derived.KernelRfl
import Derived.Laws.Sem
import Derived.Laws.Cells
import Derived.Laws.World
import GoSem.Dispatch
import Derived.Laws.StructEq
import Derived.IntWalk
import Derived.WideKeyRuns
import Derived.Laws.BytesArg
import Derived.Orders
import Derived.ChangeArms
import Derived.OpenShut
import Derived.ChangeShapes
import Derived.ProofKit
import Derived.Test.YtjdemlagmamlbaaProg
import Derived.Test.YtjdemlagmamlbaaRows
import Derived.Test.YtjdemlagmamlbaaZAPRd5

namespace Go.Proofs.Ytjdemlagmamlbaa
/-- an amap: its object, counts, anons -/
structure AmV where
  O : Nat
  cs : List Int
  an : List Int
structure AmOk (a : AmV) : Prop where
  len : a.an.length = a.cs.length
  n1 : 1 ≤ a.cs.length
  n4 : a.cs.length ≤ 4096
  pos : ∀ x, x ∈ a.an → 0 ≤ x
abbrev oneRow (D : Nat) (v : AV) : AObj := .row ty_amap_one 2 false false (.vals [.ptr D 0, v])
def AmIs (a : AmV) (cs : List Chunk) : Prop := ∃ D v l, cs = [.pt a.O (oneRow D v), CntC D l a.cs.length, VsC v 3 (a.an.map ikey) true] ∧ expand l = a.cs ∧ AmOk a
abbrev AmC (a : AmV) : Chunk := pk 40 (.ptr a.O 0) (AmIs a)
def zptr : Option AmV → AV
  | some a => .ptr a.O 0
  | none => .nilptr
theorem zptr_nj (z : Option AmV) : (zptr z).notJunk = some (zptr z) := by cases z <;> rfl
theorem zptr_ok (z : Option AmV) : okSame (zptr z) = true := by cases z <;> rfl
def zG : Option AmV → List Chunk
  | some a => [AmC a]
  | none => []
def cntZ (zs : List (Option AmV)) : Nat := (zs.filter Option.isSome).length
structure PoOk (most : Nat) (zs : List (Option AmV)) : Prop where
  m : most ≤ 4096
  c : cntZ zs ≤ most
  l : zs.length ≤ most
abbrev poolRow (most : Nat) (sv : AV) (n : Nat) : AObj := .row ty_amap_Pool 4 false false (.vals [.int .i64 most, .bool true, sv, .int .i64 n])
def PoIs (P most : Nat) (zs : List (Option AmV)) (cs : List Chunk) : Prop := ∃ sv, cs = [.pt P (poolRow most sv (cntZ zs)), VsC sv 177 (zs.map zptr) true, SepC (.ptr P 0) zG zs] ∧ PoOk most zs
abbrev PoC (P most : Nat) (zs : List (Option AmV)) : Chunk := pk 41 (.ptr P 0) (PoIs P most zs)
/-- without what is at a number -/
def PoXIs (P most : Nat) (zs : List (Option AmV)) (i : Nat) (cs : List Chunk) : Prop := ∃ sv, cs = [.pt P (poolRow most sv (cntZ zs)), VsC sv 177 (zs.map zptr) true, SepC (.ptr P 0) zG (zs.eraseIdx i)] ∧ PoOk most zs
abbrev PoXC (P most : Nat) (zs : List (Option AmV)) (i : Nat) : Chunk := pk 42 (.ptr P 0) (PoXIs P most zs i)
section
variable {P most : Nat} {zs : List (Option AmV)} {h : AHeap} {L R F : List Chunk} {i : Nat} {a : AmV}
theorem St.am (st : St h L) (t : Take L (AmC a) R) : AmOk a := by
  obtain ⟨cs, ⟨D, v, l, _, _, hk⟩, _⟩ := (st.take t).unpack
  exact hk
theorem St.po (st : St h L) (t : Take L (PoC P most zs) R) : PoOk most zs := by
  obtain ⟨cs, ⟨sv, _, hk⟩, _⟩ := (st.take t).unpack
  exact hk
theorem St.poOut (st : St h L) (t : Take L (PoC P most zs) R) (hi : zs[i]? = some (some a)) : St h (AmC a :: PoXC P most zs i :: R) := by
  obtain ⟨cs, ⟨sv, rfl, hk⟩, st'⟩ := (st.take t).unpack
  have st1 : St h (AmC a :: SepC (.ptr P 0) zG (zs.eraseIdx i) :: .pt P (poolRow most sv (cntZ zs)) :: VsC sv 177 (zs.map zptr) true :: R) := St.sepOut (G := zG) (a := some a) st' Tk hi
  have st2 := St.packP (t := 42) (k := .ptr P 0) (P := PoXIs P most zs i) (cs := [.pt P (poolRow most sv (cntZ zs)), VsC sv 177 (zs.map zptr) true, SepC (.ptr P 0) zG (zs.eraseIdx i)]) st1 ⟨sv, rfl, hk⟩ Pks
  exact st2.sel Sels
theorem cntZ_set {b : AmV} : ∀ {zs : List (Option AmV)} {i : Nat}, zs[i]? = some (some a) → cntZ (zs.set i (some b)) = cntZ zs
  | [], i, h => by simp at h
  | z :: zs, 0, h => by simp at h; subst h; simp [cntZ]
  | z :: zs, i + 1, h => by
    simp only [List.getElem?_cons_succ] at h
    have := cntZ_set (b := b) h
    simp only [cntZ, List.set_cons_succ, List.filter_cons] at this ⊢
    split <;> simp [this]
/-- what is at a number, changed -/
theorem St.poIn {b : AmV} (hb : b.O = a.O) (hi : zs[i]? = some (some a)) (st : St h L) {R' : List Chunk} (t : Take L (AmC b) R) (t' : Take R (PoXC P most zs i) R') : St h (PoC P most (zs.set i (some b)) :: R') := by
  have st1 := (st.take t).perm (List.Perm.cons _ t'.perm)
  have st2 := st1.sel (L' := PoXC P most zs i :: AmC b :: R') Sels
  obtain ⟨cs, ⟨sv, rfl, hk⟩, st3⟩ := st2.unpack
  have hl := (List.getElem?_eq_some_iff.1 hi).1
  have st4 : St h (SepC (.ptr P 0) zG (zs.set i (some b)) :: .pt P (poolRow most sv (cntZ zs)) :: VsC sv 177 (zs.map zptr) true :: R') := St.sepIn (G := zG) (a := some b) (st3.sel Sels) hl
  have e1 : (zs.set i (some b)).map zptr = zs.map zptr := by
    rw [List.map_set]
    refine set_same' ?_
    rw [List.getElem?_map, hi]
    simp [zptr, hb]
  have e2 := cntZ_set (b := b) hi
  refine St.pack (cs := [.pt P (poolRow most sv (cntZ zs)), VsC sv 177 (zs.map zptr) true, SepC (.ptr P 0) zG (zs.set i (some b))]) (st4.sel Sels) ⟨sv, by rw [e1, e2], hk.m, by rw [e2]; exact hk.c, by rw [List.length_set]; exact hk.l⟩
theorem St.poBack (hi : zs[i]? = some (some a)) (st : St h L) {R' : List Chunk} (t : Take L (AmC a) R) (t' : Take R (PoXC P most zs i) R') : St h (PoC P most zs :: R') := by
  have := st.poIn (b := a) rfl hi t t'
  rwa [set_same' hi] at this
end
/-- what has a number -/
def atZ (zs : List (Option AmV)) (id : Int) : Option AmV := if 1 ≤ id ∧ id ≤ zs.length then (zs[(id - 1).toNat]?).join else none
theorem atZ_some {zs : List (Option AmV)} {id : Int} {a : AmV} (h : atZ zs id = some a) : 1 ≤ id ∧ id ≤ zs.length ∧ zs[(id - 1).toNat]? = some (some a) := by
  unfold atZ at h
  split at h
  · rename_i hh
    refine ⟨hh.1, hh.2, ?_⟩
    cases hz : zs[(id - 1).toNat]? with
    | none => rw [hz] at h; cases h
    | some z => rw [hz] at h; simp at h; rw [h]
  · cases h
variable {P most : Nat} {zs : List (Option AmV)} {a : AmV}
theorem po_made : Spec R (.f n_amap_Pool_made) [.ptr P 0] [PoC P most zs] fun v Rs => v = .bool true ∧ Rs = [PoC P most zs] := by
  refine spec_w (fun _ _ _ x => progI_call rfl rfl x) Njs rfl (fun h F st => ?_); dsimp only [List.cons_append, List.nil_append] at st
  obtain ⟨_, ⟨sv, rfl, hok⟩, st⟩ := St.unpack st; dsimp only [List.cons_append, List.nil_append] at st
  (repeat (first | (show W _ _ _ _ _ _ (.code (cond _ _ _) :: _) _ _; first | refine W.ct ?_ | refine W.cf ?_) | (show W _ _ _ _ _ _ (.ins (cond _ _ _ :: _) :: _) _ _; first | refine W.gt ?_ | refine W.gf ?_) | (show W _ _ _ _ _ _ [] _ _; refine W.of (.done ?_)) | (apply W.of; constructor <;> first | (show W _ _ _ _ _ _ _ _ _) | (intro (al : Nat) h st; show W _ _ _ _ _ _ _ _ _) | (intro _ h st; show W _ _ _ _ _ _ _ _ _) | exact Sd)))
  exact ⟨_, rfl, _, ⟨rfl, rfl⟩, St.packP (cs := [_, _, _]) st ⟨sv, rfl, hok⟩ Pks⟩
theorem po_of {id : Int} : Spec R (.f n_amap_Pool_of) [.ptr P 0, .int .i64 id] [PoC P most zs] fun v Rs => v = zptr (atZ zs id) ∧ Rs = [PoC P most zs] := by
  refine spec_w (fun _ _ _ x => progI_call rfl rfl x) Njs rfl (fun h F st => ?_); dsimp only [List.cons_append, List.nil_append] at st
  (repeat (first | (show W _ _ _ _ _ _ (.code (cond _ _ _) :: _) _ _; first | refine W.ct ?_ | refine W.cf ?_) | (show W _ _ _ _ _ _ (.ins (cond _ _ _ :: _) :: _) _ _; first | refine W.gt ?_ | refine W.gf ?_) | (show W _ _ _ _ _ _ [] _ _; refine W.of (.done ?_)) | (apply W.of; constructor <;> first | (show W _ _ _ _ _ _ _ _ _) | (intro (al : Nat) h st; show W _ _ _ _ _ _ _ _ _) | (intro _ h st; show W _ _ _ _ _ _ _ _ _) | exact Sd))); refine W.call (hs := po_made) (w := ?_); rintro vv _ ⟨rfl, rfl⟩ h st; refine nj ?_; dsimp only [List.cons_append, List.nil_append] at st
  obtain ⟨_, ⟨sv, rfl, hok⟩, st⟩ := St.unpack st; dsimp only [List.cons_append, List.nil_append] at st
  obtain ⟨sl, sj, ss⟩ := St.vs (v := sv) (l := zs.map zptr) st Tk
  rw [List.length_map] at sl
  have hl := hok.l
  have hm := hok.m
  by_cases h1 : 1 ≤ id
  · by_cases h2 : id ≤ zs.length
    · obtain ⟨i, rfl⟩ : ∃ i : Nat, id = (i : Int) + 1 := ⟨(id - 1).toNat, by omega⟩
      obtain ⟨gp, gq⟩ := d_vsIdx (v := sv) (l := zs.map zptr) (i := i) (kk := .i64) st Tk (by rw [List.length_map]; omega)
      obtain ⟨z, hz⟩ : ∃ z, zs[i]? = some z := ⟨zs[i]'(by omega), by simp⟩
      have e : atZ zs ((i : Int) + 1) = z := by
        rw [atZ, if_pos ⟨h1, h2⟩, show ((i : Int) + 1 - 1).toNat = i by omega, hz]; cases z <;> rfl
      have znj := zptr_nj z
      have zok := zptr_ok z
      (repeat (first | (show W _ _ _ _ _ _ (.code (cond _ _ _) :: _) _ _; first | refine W.ct ?_ | refine W.cf ?_) | (show W _ _ _ _ _ _ (.ins (cond _ _ _ :: _) :: _) _ _; first | refine W.gt ?_ | refine W.gf ?_) | (show W _ _ _ _ _ _ [] _ _; refine W.of (.done ?_)) | (apply W.of; constructor <;> first | (show W _ _ _ _ _ _ _ _ _) | (intro (al : Nat) h st; show W _ _ _ _ _ _ _ _ _) | (intro _ h st; show W _ _ _ _ _ _ _ _ _) | exact Sd)))
      rw [show (i : Int) + 1 - 1 = i by omega]
      (repeat (first | (show W _ _ _ _ _ _ (.code (cond _ _ _) :: _) _ _; first | refine W.ct ?_ | refine W.cf ?_) | (show W _ _ _ _ _ _ (.ins (cond _ _ _ :: _) :: _) _ _; first | refine W.gt ?_ | refine W.gf ?_) | (show W _ _ _ _ _ _ [] _ _; refine W.of (.done ?_)) | (apply W.of; constructor <;> first | (show W _ _ _ _ _ _ _ _ _) | (intro (al : Nat) h st; show W _ _ _ _ _ _ _ _ _) | (intro _ h st; show W _ _ _ _ _ _ _ _ _) | exact Sd))); refine W.do (ho := gp) (w := ?_)
      (repeat (first | (show W _ _ _ _ _ _ (.code (cond _ _ _) :: _) _ _; first | refine W.ct ?_ | refine W.cf ?_) | (show W _ _ _ _ _ _ (.ins (cond _ _ _ :: _) :: _) _ _; first | refine W.gt ?_ | refine W.gf ?_) | (show W _ _ _ _ _ _ [] _ _; refine W.of (.done ?_)) | (apply W.of; constructor <;> first | (show W _ _ _ _ _ _ _ _ _) | (intro (al : Nat) h st; show W _ _ _ _ _ _ _ _ _) | (intro _ h st; show W _ _ _ _ _ _ _ _ _) | exact Sd))); refine W.do (ho := (d_vsLoad (v := sv) (l := zs.map zptr) (x := zptr z) st Tk (by rw [List.getElem?_map, hz]; rfl))) (w := ?_)
      (repeat (first | (show W _ _ _ _ _ _ (.code (cond _ _ _) :: _) _ _; first | refine W.ct ?_ | refine W.cf ?_) | (show W _ _ _ _ _ _ (.ins (cond _ _ _ :: _) :: _) _ _; first | refine W.gt ?_ | refine W.gf ?_) | (show W _ _ _ _ _ _ [] _ _; refine W.of (.done ?_)) | (apply W.of; constructor <;> first | (show W _ _ _ _ _ _ _ _ _) | (intro (al : Nat) h st; show W _ _ _ _ _ _ _ _ _) | (intro _ h st; show W _ _ _ _ _ _ _ _ _) | exact Sd)))
      exact ⟨_, rfl, _, ⟨by rw [e]; rfl, rfl⟩, St.packP (t := 41) (P := PoIs P most zs) (cs := [_, _, _]) st ⟨sv, rfl, hok⟩ Pks⟩
    · (repeat (first | (show W _ _ _ _ _ _ (.code (cond _ _ _) :: _) _ _; first | refine W.ct ?_ | refine W.cf ?_) | (show W _ _ _ _ _ _ (.ins (cond _ _ _ :: _) :: _) _ _; first | refine W.gt ?_ | refine W.gf ?_) | (show W _ _ _ _ _ _ [] _ _; refine W.of (.done ?_)) | (apply W.of; constructor <;> first | (show W _ _ _ _ _ _ _ _ _) | (intro (al : Nat) h st; show W _ _ _ _ _ _ _ _ _) | (intro _ h st; show W _ _ _ _ _ _ _ _ _) | exact Sd)))
      exact ⟨_, rfl, _, ⟨by rw [atZ, if_neg (by omega)]; rfl, rfl⟩, St.packP (t := 41) (P := PoIs P most zs) (cs := [_, _, _]) st ⟨sv, rfl, hok⟩ Pks⟩
  · (repeat (first | (show W _ _ _ _ _ _ (.code (cond _ _ _) :: _) _ _; first | refine W.ct ?_ | refine W.cf ?_) | (show W _ _ _ _ _ _ (.ins (cond _ _ _ :: _) :: _) _ _; first | refine W.gt ?_ | refine W.gf ?_) | (show W _ _ _ _ _ _ [] _ _; refine W.of (.done ?_)) | (apply W.of; constructor <;> first | (show W _ _ _ _ _ _ _ _ _) | (intro (al : Nat) h st; show W _ _ _ _ _ _ _ _ _) | (intro _ h st; show W _ _ _ _ _ _ _ _ _) | exact Sd)))
    exact ⟨_, rfl, _, ⟨by rw [atZ, if_neg (by omega)]; rfl, rfl⟩, St.packP (t := 41) (P := PoIs P most zs) (cs := [_, _, _]) st ⟨sv, rfl, hok⟩ Pks⟩
def knownV : Option AmV → AV
  | some a => .tuple [.ptr a.O 0, .int .i64 0]
  | none => .tuple [.nilptr, .int .i64 7]
theorem knownV_nj (z : Option AmV) : (knownV z).notJunk = some (knownV z) := by cases z <;> rfl
theorem knownV_ok (z : Option AmV) : okSame (knownV z) = true := by cases z <;> rfl
theorem po_known {id : Int} : Spec R (.f n_amap_Pool_known) [.ptr P 0, .int .i64 id] [PoC P most zs] fun v Rs => v = knownV (atZ zs id) ∧ Rs = [PoC P most zs] := by
  refine spec_w (fun _ _ _ x => progI_call rfl rfl x) Njs rfl (fun h F st => ?_); dsimp only [List.cons_append, List.nil_append] at st
  (repeat (first | (show W _ _ _ _ _ _ (.code (cond _ _ _) :: _) _ _; first | refine W.ct ?_ | refine W.cf ?_) | (show W _ _ _ _ _ _ (.ins (cond _ _ _ :: _) :: _) _ _; first | refine W.gt ?_ | refine W.gf ?_) | (show W _ _ _ _ _ _ [] _ _; refine W.of (.done ?_)) | (apply W.of; constructor <;> first | (show W _ _ _ _ _ _ _ _ _) | (intro (al : Nat) h st; show W _ _ _ _ _ _ _ _ _) | (intro _ h st; show W _ _ _ _ _ _ _ _ _) | exact Sd))); refine W.call (hs := po_made) (w := ?_); rintro vv _ ⟨rfl, rfl⟩ h st; refine nj ?_; dsimp only [List.cons_append, List.nil_append] at st
  have znj := zptr_nj (atZ zs id)
  have zok := zptr_ok (atZ zs id)
  (repeat (first | (show W _ _ _ _ _ _ (.code (cond _ _ _) :: _) _ _; first | refine W.ct ?_ | refine W.cf ?_) | (show W _ _ _ _ _ _ (.ins (cond _ _ _ :: _) :: _) _ _; first | refine W.gt ?_ | refine W.gf ?_) | (show W _ _ _ _ _ _ [] _ _; refine W.of (.done ?_)) | (apply W.of; constructor <;> first | (show W _ _ _ _ _ _ _ _ _) | (intro (al : Nat) h st; show W _ _ _ _ _ _ _ _ _) | (intro _ h st; show W _ _ _ _ _ _ _ _ _) | exact Sd))); refine W.call (hs := po_of) (w := ?_); rintro vv _ ⟨rfl, rfl⟩ h st; refine nj ?_; dsimp only [List.cons_append, List.nil_append] at st
  cases atZ zs id with
  | some a =>
    dsimp only [zptr]
    (repeat (first | (show W _ _ _ _ _ _ (.code (cond _ _ _) :: _) _ _; first | refine W.ct ?_ | refine W.cf ?_) | (show W _ _ _ _ _ _ (.ins (cond _ _ _ :: _) :: _) _ _; first | refine W.gt ?_ | refine W.gf ?_) | (show W _ _ _ _ _ _ [] _ _; refine W.of (.done ?_)) | (apply W.of; constructor <;> first | (show W _ _ _ _ _ _ _ _ _) | (intro (al : Nat) h st; show W _ _ _ _ _ _ _ _ _) | (intro _ h st; show W _ _ _ _ _ _ _ _ _) | exact Sd)))
    exact ⟨_, rfl, _, ⟨rfl, rfl⟩, st⟩
  | none =>
    dsimp only [zptr]
    (repeat (first | (show W _ _ _ _ _ _ (.code (cond _ _ _) :: _) _ _; first | refine W.ct ?_ | refine W.cf ?_) | (show W _ _ _ _ _ _ (.ins (cond _ _ _ :: _) :: _) _ _; first | refine W.gt ?_ | refine W.gf ?_) | (show W _ _ _ _ _ _ [] _ _; refine W.of (.done ?_)) | (apply W.of; constructor <;> first | (show W _ _ _ _ _ _ _ _ _) | (intro (al : Nat) h st; show W _ _ _ _ _ _ _ _ _) | (intro _ h st; show W _ _ _ _ _ _ _ _ _) | exact Sd)))
    exact ⟨_, rfl, _, ⟨rfl, rfl⟩, st⟩
theorem am_within {lo hi : Int} : Spec R (.f n_amap_one_within) [.ptr a.O 0, .int .i64 lo, .int .i64 hi] [AmC a] fun v Rs => v = .bool (decide (0 ≤ lo ∧ lo < hi ∧ hi ≤ a.an.length)) ∧ Rs = [AmC a] := by
  refine spec_w (fun _ _ _ x => progI_call rfl rfl x) Njs rfl (fun h F st => ?_); dsimp only [List.cons_append, List.nil_append] at st
  obtain ⟨_, ⟨D, v, l, rfl, he, hok⟩, st⟩ := St.unpack st; dsimp only [List.cons_append, List.nil_append] at st
  obtain ⟨vl, vj, vs⟩ := St.ivs (v := v) (cs := a.an) st Tk
  have h1 := hok.len
  have h4 := hok.n4
  by_cases c1 : 0 ≤ lo
  · by_cases c2 : lo < hi
    · (repeat (first | (show W _ _ _ _ _ _ (.code (cond _ _ _) :: _) _ _; first | refine W.ct ?_ | refine W.cf ?_) | (show W _ _ _ _ _ _ (.ins (cond _ _ _ :: _) :: _) _ _; first | refine W.gt ?_ | refine W.gf ?_) | (show W _ _ _ _ _ _ [] _ _; refine W.of (.done ?_)) | (apply W.of; constructor <;> first | (show W _ _ _ _ _ _ _ _ _) | (intro (al : Nat) h st; show W _ _ _ _ _ _ _ _ _) | (intro _ h st; show W _ _ _ _ _ _ _ _ _) | exact Sd)))
      exact ⟨_, rfl, _, ⟨congrArg AV.bool (show decide (hi ≤ (a.an.length : Int)) = decide (0 ≤ lo ∧ lo < hi ∧ hi ≤ a.an.length) by simp [c1, c2]), rfl⟩, St.packP (t := 40) (P := AmIs a) (cs := [_, _, _]) st ⟨D, v, l, rfl, he, hok⟩ Pks⟩
    · (repeat (first | (show W _ _ _ _ _ _ (.code (cond _ _ _) :: _) _ _; first | refine W.ct ?_ | refine W.cf ?_) | (show W _ _ _ _ _ _ (.ins (cond _ _ _ :: _) :: _) _ _; first | refine W.gt ?_ | refine W.gf ?_) | (show W _ _ _ _ _ _ [] _ _; refine W.of (.done ?_)) | (apply W.of; constructor <;> first | (show W _ _ _ _ _ _ _ _ _) | (intro (al : Nat) h st; show W _ _ _ _ _ _ _ _ _) | (intro _ h st; show W _ _ _ _ _ _ _ _ _) | exact Sd)))
      exact ⟨_, rfl, _, ⟨congrArg AV.bool (show false = decide (0 ≤ lo ∧ lo < hi ∧ hi ≤ a.an.length) by simp [c2]), rfl⟩, St.packP (t := 40) (P := AmIs a) (cs := [_, _, _]) st ⟨D, v, l, rfl, he, hok⟩ Pks⟩
  · (repeat (first | (show W _ _ _ _ _ _ (.code (cond _ _ _) :: _) _ _; first | refine W.ct ?_ | refine W.cf ?_) | (show W _ _ _ _ _ _ (.ins (cond _ _ _ :: _) :: _) _ _; first | refine W.gt ?_ | refine W.gf ?_) | (show W _ _ _ _ _ _ [] _ _; refine W.of (.done ?_)) | (apply W.of; constructor <;> first | (show W _ _ _ _ _ _ _ _ _) | (intro (al : Nat) h st; show W _ _ _ _ _ _ _ _ _) | (intro _ h st; show W _ _ _ _ _ _ _ _ _) | exact Sd)))
    exact ⟨_, rfl, _, ⟨congrArg AV.bool (show false = decide (0 ≤ lo ∧ lo < hi ∧ hi ≤ a.an.length) by simp [c1]), rfl⟩, St.packP (t := 40) (P := AmIs a) (cs := [_, _, _]) st ⟨D, v, l, rfl, he, hok⟩ Pks⟩
theorem po_New {m : Int} : Spec R (.f n_amap_New) [.int .i64 m] [] fun v Rs => (0 ≤ m ∧ m ≤ 4096 ∧ ∃ P, v = .ptr P 0 ∧ Rs = [PoC P m.toNat []]) ∨ (¬ (0 ≤ m ∧ m ≤ 4096) ∧ v = .nilptr ∧ Rs = []) := by
  refine spec_w (fun _ _ _ x => progI_call rfl rfl x) Njs rfl (fun h F st => ?_); dsimp only [List.cons_append, List.nil_append] at st
  by_cases h0 : m < 0
  · (repeat (first | (show W _ _ _ _ _ _ (.code (cond _ _ _) :: _) _ _; first | refine W.ct ?_ | refine W.cf ?_) | (show W _ _ _ _ _ _ (.ins (cond _ _ _ :: _) :: _) _ _; first | refine W.gt ?_ | refine W.gf ?_) | (show W _ _ _ _ _ _ [] _ _; refine W.of (.done ?_)) | (apply W.of; constructor <;> first | (show W _ _ _ _ _ _ _ _ _) | (intro (al : Nat) h st; show W _ _ _ _ _ _ _ _ _) | (intro _ h st; show W _ _ _ _ _ _ _ _ _) | exact Sd)))
    exact ⟨_, rfl, _, .inr ⟨by omega, rfl, rfl⟩, st⟩
  · by_cases h1 : m > 4096
    · (repeat (first | (show W _ _ _ _ _ _ (.code (cond _ _ _) :: _) _ _; first | refine W.ct ?_ | refine W.cf ?_) | (show W _ _ _ _ _ _ (.ins (cond _ _ _ :: _) :: _) _ _; first | refine W.gt ?_ | refine W.gf ?_) | (show W _ _ _ _ _ _ [] _ _; refine W.of (.done ?_)) | (apply W.of; constructor <;> first | (show W _ _ _ _ _ _ _ _ _) | (intro (al : Nat) h st; show W _ _ _ _ _ _ _ _ _) | (intro _ h st; show W _ _ _ _ _ _ _ _ _) | exact Sd)))
      exact ⟨_, rfl, _, .inr ⟨by omega, rfl, rfl⟩, st⟩
    · obtain ⟨k, rfl⟩ : ∃ k : Nat, m = (k : Int) := ⟨m.toNat, by omega⟩
      (repeat (first | (show W _ _ _ _ _ _ (.code (cond _ _ _) :: _) _ _; first | refine W.ct ?_ | refine W.cf ?_) | (show W _ _ _ _ _ _ (.ins (cond _ _ _ :: _) :: _) _ _; first | refine W.gt ?_ | refine W.gf ?_) | (show W _ _ _ _ _ _ [] _ _; refine W.of (.done ?_)) | (apply W.of; constructor <;> first | (show W _ _ _ _ _ _ _ _ _) | (intro (al : Nat) h st; show W _ _ _ _ _ _ _ _ _) | (intro _ h st; show W _ _ _ _ _ _ _ _ _) | exact Sd)))
      obtain ⟨P, rfl⟩ : ∃ y, y = al := ⟨_, rfl⟩
      have st := st.vsNil 177 true
      have st := st.sepNil (.ptr P 0) zG
      have st := St.packP (t := 41) (k := .ptr P 0) (P := PoIs P k []) (cs := [.pt P (poolRow k .nilsl 0), VsC .nilsl 177 [] true, SepC (.ptr P 0) zG []]) st ⟨.nilsl, rfl, by omega, by simp [cntZ], by simp⟩ Pks
      exact ⟨_, rfl, _, .inl ⟨by omega, by omega, P, rfl, rfl⟩, st⟩
def slotsZ (zs : List (Option AmV)) (id : Int) : Nat := match atZ zs id with | some a => a.an.length | none => 0
theorem po_Slots {id : Int} : Spec R (.f n_amap_Pool_Slots) [.ptr P 0, .int .i64 id] [PoC P most zs] fun v Rs => v = .int .i64 (slotsZ zs id) ∧ Rs = [PoC P most zs] := by
  refine spec_w (fun _ _ _ x => progI_call rfl rfl x) Njs rfl (fun h F st => ?_); dsimp only [List.cons_append, List.nil_append] at st
  have znj := zptr_nj (atZ zs id)
  have zok := zptr_ok (atZ zs id)
  (repeat (first | (show W _ _ _ _ _ _ (.code (cond _ _ _) :: _) _ _; first | refine W.ct ?_ | refine W.cf ?_) | (show W _ _ _ _ _ _ (.ins (cond _ _ _ :: _) :: _) _ _; first | refine W.gt ?_ | refine W.gf ?_) | (show W _ _ _ _ _ _ [] _ _; refine W.of (.done ?_)) | (apply W.of; constructor <;> first | (show W _ _ _ _ _ _ _ _ _) | (intro (al : Nat) h st; show W _ _ _ _ _ _ _ _ _) | (intro _ h st; show W _ _ _ _ _ _ _ _ _) | exact Sd))); refine W.call (hs := po_of) (w := ?_); rintro vv _ ⟨rfl, rfl⟩ h st; refine nj ?_; dsimp only [List.cons_append, List.nil_append] at st
  unfold slotsZ
  cases ha : atZ zs id with
  | some a =>
    dsimp only [zptr]
    obtain ⟨_, _, hz⟩ := atZ_some ha
    have st := st.poOut Tk hz
    obtain ⟨_, ⟨D, v, l, rfl, he, hok⟩, st⟩ := St.unpack st; dsimp only [List.cons_append, List.nil_append] at st
    obtain ⟨vl, vj, vs⟩ := St.ivs (v := v) (cs := a.an) st Tk
    (repeat (first | (show W _ _ _ _ _ _ (.code (cond _ _ _) :: _) _ _; first | refine W.ct ?_ | refine W.cf ?_) | (show W _ _ _ _ _ _ (.ins (cond _ _ _ :: _) :: _) _ _; first | refine W.gt ?_ | refine W.gf ?_) | (show W _ _ _ _ _ _ [] _ _; refine W.of (.done ?_)) | (apply W.of; constructor <;> first | (show W _ _ _ _ _ _ _ _ _) | (intro (al : Nat) h st; show W _ _ _ _ _ _ _ _ _) | (intro _ h st; show W _ _ _ _ _ _ _ _ _) | exact Sd)))
    have st := St.packP (t := 40) (k := .ptr a.O 0) (P := AmIs a) (cs := [_, _, _]) st ⟨D, v, l, rfl, he, hok⟩ Pks
    exact ⟨_, rfl, _, ⟨rfl, rfl⟩, st.poBack hz Tk Tk⟩
  | none =>
    dsimp only [zptr]
    (repeat (first | (show W _ _ _ _ _ _ (.code (cond _ _ _) :: _) _ _; first | refine W.ct ?_ | refine W.cf ?_) | (show W _ _ _ _ _ _ (.ins (cond _ _ _ :: _) :: _) _ _; first | refine W.gt ?_ | refine W.gf ?_) | (show W _ _ _ _ _ _ [] _ _; refine W.of (.done ?_)) | (apply W.of; constructor <;> first | (show W _ _ _ _ _ _ _ _ _) | (intro (al : Nat) h st; show W _ _ _ _ _ _ _ _ _) | (intro _ h st; show W _ _ _ _ _ _ _ _ _) | exact Sd)))
    exact ⟨_, rfl, _, ⟨rfl, rfl⟩, st⟩
def coverZ (zs : List (Option AmV)) (id slot : Int) : Int := match atZ zs id with | some a => if 0 > atL a.cs slot then 0 else atL a.cs slot | none => 0
theorem po_Cover {id slot : Int} : Spec R (.f n_amap_Pool_Cover) [.ptr P 0, .int .i64 id, .int .i64 slot] [PoC P most zs] fun v Rs => v = .int .i64 (coverZ zs id slot) ∧ Rs = [PoC P most zs] := by
  refine spec_w (fun _ _ _ x => progI_call rfl rfl x) Njs rfl (fun h F st => ?_); dsimp only [List.cons_append, List.nil_append] at st
  have znj := zptr_nj (atZ zs id)
  have zok := zptr_ok (atZ zs id)
  (repeat (first | (show W _ _ _ _ _ _ (.code (cond _ _ _) :: _) _ _; first | refine W.ct ?_ | refine W.cf ?_) | (show W _ _ _ _ _ _ (.ins (cond _ _ _ :: _) :: _) _ _; first | refine W.gt ?_ | refine W.gf ?_) | (show W _ _ _ _ _ _ [] _ _; refine W.of (.done ?_)) | (apply W.of; constructor <;> first | (show W _ _ _ _ _ _ _ _ _) | (intro (al : Nat) h st; show W _ _ _ _ _ _ _ _ _) | (intro _ h st; show W _ _ _ _ _ _ _ _ _) | exact Sd))); refine W.call (hs := po_of) (w := ?_); rintro vv _ ⟨rfl, rfl⟩ h st; refine nj ?_; dsimp only [List.cons_append, List.nil_append] at st
  unfold coverZ
  cases ha : atZ zs id with
  | some a =>
    dsimp only [zptr]
    obtain ⟨_, _, hz⟩ := atZ_some ha
    have st := st.poOut Tk hz
    obtain ⟨_, ⟨D, v, l, rfl, he, hok⟩, st⟩ := St.unpack st; dsimp only [List.cons_append, List.nil_append] at st
    (repeat (first | (show W _ _ _ _ _ _ (.code (cond _ _ _) :: _) _ _; first | refine W.ct ?_ | refine W.cf ?_) | (show W _ _ _ _ _ _ (.ins (cond _ _ _ :: _) :: _) _ _; first | refine W.gt ?_ | refine W.gf ?_) | (show W _ _ _ _ _ _ [] _ _; refine W.of (.done ?_)) | (apply W.of; constructor <;> first | (show W _ _ _ _ _ _ _ _ _) | (intro (al : Nat) h st; show W _ _ _ _ _ _ _ _ _) | (intro _ h st; show W _ _ _ _ _ _ _ _ _) | exact Sd))); refine W.call (hs := (cnt_At (D := D) (l := l))) (w := ?_); rintro vv _ ⟨rfl, rfl⟩ h st; refine nj ?_; dsimp only [List.cons_append, List.nil_append] at st
    rw [he]
    (repeat (first | (show W _ _ _ _ _ _ (.code (cond _ _ _) :: _) _ _; first | refine W.ct ?_ | refine W.cf ?_) | (show W _ _ _ _ _ _ (.ins (cond _ _ _ :: _) :: _) _ _; first | refine W.gt ?_ | refine W.gf ?_) | (show W _ _ _ _ _ _ [] _ _; refine W.of (.done ?_)) | (apply W.of; constructor <;> first | (show W _ _ _ _ _ _ _ _ _) | (intro (al : Nat) h st; show W _ _ _ _ _ _ _ _ _) | (intro _ h st; show W _ _ _ _ _ _ _ _ _) | exact Sd)))
    have st := St.packP (t := 40) (k := .ptr a.O 0) (P := AmIs a) (cs := [.pt a.O (oneRow D v), CntC D l a.cs.length, VsC v 3 (a.an.map ikey) true]) st ⟨D, v, l, rfl, he, hok⟩ Pks
    exact ⟨_, rfl, _, ⟨rfl, rfl⟩, st.poBack hz Tk Tk⟩
  | none =>
    dsimp only [zptr]
    (repeat (first | (show W _ _ _ _ _ _ (.code (cond _ _ _) :: _) _ _; first | refine W.ct ?_ | refine W.cf ?_) | (show W _ _ _ _ _ _ (.ins (cond _ _ _ :: _) :: _) _ _; first | refine W.gt ?_ | refine W.gf ?_) | (show W _ _ _ _ _ _ [] _ _; refine W.of (.done ?_)) | (apply W.of; constructor <;> first | (show W _ _ _ _ _ _ _ _ _) | (intro (al : Nat) h st; show W _ _ _ _ _ _ _ _ _) | (intro _ h st; show W _ _ _ _ _ _ _ _ _) | exact Sd)))
    exact ⟨_, rfl, _, ⟨rfl, rfl⟩, st⟩
def getZ (zs : List (Option AmV)) (id slot : Int) : Int := match atZ zs id with | some a => if 0 ≤ slot ∧ slot < a.an.length then (a.an[slot.toNat]?).getD 0 else 0 | none => 0
theorem po_Get {id slot : Int} : Spec R (.f n_amap_Pool_Get) [.ptr P 0, .int .i64 id, .int .i64 slot] [PoC P most zs] fun v Rs => v = .int .i64 (getZ zs id slot) ∧ Rs = [PoC P most zs] := by
  refine spec_w (fun _ _ _ x => progI_call rfl rfl x) Njs rfl (fun h F st => ?_); dsimp only [List.cons_append, List.nil_append] at st
  by_cases h0 : slot < 0
  · (repeat (first | (show W _ _ _ _ _ _ (.code (cond _ _ _) :: _) _ _; first | refine W.ct ?_ | refine W.cf ?_) | (show W _ _ _ _ _ _ (.ins (cond _ _ _ :: _) :: _) _ _; first | refine W.gt ?_ | refine W.gf ?_) | (show W _ _ _ _ _ _ [] _ _; refine W.of (.done ?_)) | (apply W.of; constructor <;> first | (show W _ _ _ _ _ _ _ _ _) | (intro (al : Nat) h st; show W _ _ _ _ _ _ _ _ _) | (intro _ h st; show W _ _ _ _ _ _ _ _ _) | exact Sd)))
    refine ⟨_, rfl, _, ⟨congrArg (AV.int .i64) ?_, rfl⟩, st⟩
    unfold getZ
    cases atZ zs id with
    | none => rfl
    | some a => dsimp only; rw [if_neg (by omega)]
  · have hpo := st.po Tk
    have znj := zptr_nj (atZ zs id)
    have zok := zptr_ok (atZ zs id)
    (repeat (first | (show W _ _ _ _ _ _ (.code (cond _ _ _) :: _) _ _; first | refine W.ct ?_ | refine W.cf ?_) | (show W _ _ _ _ _ _ (.ins (cond _ _ _ :: _) :: _) _ _; first | refine W.gt ?_ | refine W.gf ?_) | (show W _ _ _ _ _ _ [] _ _; refine W.of (.done ?_)) | (apply W.of; constructor <;> first | (show W _ _ _ _ _ _ _ _ _) | (intro (al : Nat) h st; show W _ _ _ _ _ _ _ _ _) | (intro _ h st; show W _ _ _ _ _ _ _ _ _) | exact Sd))); refine W.call (hs := po_Slots) (w := ?_); rintro vv _ ⟨rfl, rfl⟩ h st; refine nj ?_; dsimp only [List.cons_append, List.nil_append] at st
    unfold slotsZ getZ
    cases ha : atZ zs id with
    | none =>
      dsimp only
      (repeat (first | (show W _ _ _ _ _ _ (.code (cond _ _ _) :: _) _ _; first | refine W.ct ?_ | refine W.cf ?_) | (show W _ _ _ _ _ _ (.ins (cond _ _ _ :: _) :: _) _ _; first | refine W.gt ?_ | refine W.gf ?_) | (show W _ _ _ _ _ _ [] _ _; refine W.of (.done ?_)) | (apply W.of; constructor <;> first | (show W _ _ _ _ _ _ _ _ _) | (intro (al : Nat) h st; show W _ _ _ _ _ _ _ _ _) | (intro _ h st; show W _ _ _ _ _ _ _ _ _) | exact Sd)))
      exact ⟨_, rfl, _, ⟨rfl, rfl⟩, st⟩
    | some a =>
      dsimp only
      by_cases h1 : slot < a.an.length
      · have znj := zptr_nj (atZ zs id)
        (repeat (first | (show W _ _ _ _ _ _ (.code (cond _ _ _) :: _) _ _; first | refine W.ct ?_ | refine W.cf ?_) | (show W _ _ _ _ _ _ (.ins (cond _ _ _ :: _) :: _) _ _; first | refine W.gt ?_ | refine W.gf ?_) | (show W _ _ _ _ _ _ [] _ _; refine W.of (.done ?_)) | (apply W.of; constructor <;> first | (show W _ _ _ _ _ _ _ _ _) | (intro (al : Nat) h st; show W _ _ _ _ _ _ _ _ _) | (intro _ h st; show W _ _ _ _ _ _ _ _ _) | exact Sd))); refine W.call (hs := po_of) (w := ?_); rintro vv _ ⟨rfl, rfl⟩ h st; refine nj ?_; dsimp only [List.cons_append, List.nil_append] at st
        rw [ha]
        dsimp only [zptr]
        obtain ⟨_, _, hz⟩ := atZ_some ha
        have st := st.poOut Tk hz
        obtain ⟨_, ⟨D, v, l, rfl, he, hok⟩, st⟩ := St.unpack st; dsimp only [List.cons_append, List.nil_append] at st
        obtain ⟨vl, vj, vs⟩ := St.ivs (v := v) (cs := a.an) st Tk
        obtain ⟨i, rfl⟩ : ∃ i : Nat, slot = (i : Int) := ⟨slot.toNat, by omega⟩
        obtain ⟨x, hx⟩ : ∃ x, a.an[i]? = some x := ⟨a.an[i]'(by omega), by simp⟩
        obtain ⟨gp, gq⟩ := d_vsIdx (v := v) (l := a.an.map ikey) (i := i) (kk := .i64) st Tk (by rw [List.length_map]; omega)
        (repeat (first | (show W _ _ _ _ _ _ (.code (cond _ _ _) :: _) _ _; first | refine W.ct ?_ | refine W.cf ?_) | (show W _ _ _ _ _ _ (.ins (cond _ _ _ :: _) :: _) _ _; first | refine W.gt ?_ | refine W.gf ?_) | (show W _ _ _ _ _ _ [] _ _; refine W.of (.done ?_)) | (apply W.of; constructor <;> first | (show W _ _ _ _ _ _ _ _ _) | (intro (al : Nat) h st; show W _ _ _ _ _ _ _ _ _) | (intro _ h st; show W _ _ _ _ _ _ _ _ _) | exact Sd))); refine W.do (ho := gp) (w := ?_)
        (repeat (first | (show W _ _ _ _ _ _ (.code (cond _ _ _) :: _) _ _; first | refine W.ct ?_ | refine W.cf ?_) | (show W _ _ _ _ _ _ (.ins (cond _ _ _ :: _) :: _) _ _; first | refine W.gt ?_ | refine W.gf ?_) | (show W _ _ _ _ _ _ [] _ _; refine W.of (.done ?_)) | (apply W.of; constructor <;> first | (show W _ _ _ _ _ _ _ _ _) | (intro (al : Nat) h st; show W _ _ _ _ _ _ _ _ _) | (intro _ h st; show W _ _ _ _ _ _ _ _ _) | exact Sd))); refine W.do (ho := (d_vsLoad (v := v) (l := a.an.map ikey) (x := ikey x) st Tk (by rw [List.getElem?_map, hx]; rfl))) (w := ?_)
        (repeat (first | (show W _ _ _ _ _ _ (.code (cond _ _ _) :: _) _ _; first | refine W.ct ?_ | refine W.cf ?_) | (show W _ _ _ _ _ _ (.ins (cond _ _ _ :: _) :: _) _ _; first | refine W.gt ?_ | refine W.gf ?_) | (show W _ _ _ _ _ _ [] _ _; refine W.of (.done ?_)) | (apply W.of; constructor <;> first | (show W _ _ _ _ _ _ _ _ _) | (intro (al : Nat) h st; show W _ _ _ _ _ _ _ _ _) | (intro _ h st; show W _ _ _ _ _ _ _ _ _) | exact Sd)))
        have st := St.packP (t := 40) (k := .ptr a.O 0) (P := AmIs a) (cs := [.pt a.O (oneRow D v), CntC D l a.cs.length, VsC v 3 (a.an.map ikey) true]) st ⟨D, v, l, rfl, he, hok⟩ Pks
        exact ⟨_, rfl, _, ⟨by rw [if_pos ⟨by omega, h1⟩, Int.toNat_natCast, hx]; rfl, rfl⟩, st.poBack hz Tk Tk⟩
      · (repeat (first | (show W _ _ _ _ _ _ (.code (cond _ _ _) :: _) _ _; first | refine W.ct ?_ | refine W.cf ?_) | (show W _ _ _ _ _ _ (.ins (cond _ _ _ :: _) :: _) _ _; first | refine W.gt ?_ | refine W.gf ?_) | (show W _ _ _ _ _ _ [] _ _; refine W.of (.done ?_)) | (apply W.of; constructor <;> first | (show W _ _ _ _ _ _ _ _ _) | (intro (al : Nat) h st; show W _ _ _ _ _ _ _ _ _) | (intro _ h st; show W _ _ _ _ _ _ _ _ _) | exact Sd)))
        exact ⟨_, rfl, _, ⟨by rw [if_neg (by omega)]; rfl, rfl⟩, st⟩
/-- what Set leaves -/
def setZ (zs : List (Option AmV)) (id slot x : Int) : List (Option AmV) := match atZ zs id with | some a => zs.set (id - 1).toNat (some { a with an := a.an.set slot.toNat x }) | none => zs
theorem po_Set {id slot x : Int} : Spec R (.f n_amap_Pool_Set) [.ptr P 0, .int .i64 id, .int .i64 slot, .int .i64 x] [PoC P most zs] fun v Rs =>
    (atZ zs id = none ∧ v = .tuple [.int .i64 0, .int .i64 7] ∧ Rs = [PoC P most zs]) ∨
    (∃ a, atZ zs id = some a ∧ (coverZ zs id slot = 0 ∨ x < 0) ∧ v = .tuple [.int .i64 0, .int .i64 2] ∧ Rs = [PoC P most zs]) ∨
    (∃ a, atZ zs id = some a ∧ ¬ (coverZ zs id slot = 0 ∨ x < 0) ∧ v = .tuple [.int .i64 (getZ zs id slot), .int .i64 0] ∧ Rs = [PoC P most (setZ zs id slot x)]) := by
  refine spec_w (fun _ _ _ x => progI_call rfl rfl x) Njs rfl (fun h F st => ?_); dsimp only [List.cons_append, List.nil_append] at st
  have knj := knownV_nj (atZ zs id)
  have kok := knownV_ok (atZ zs id)
  (repeat (first | (show W _ _ _ _ _ _ (.code (cond _ _ _) :: _) _ _; first | refine W.ct ?_ | refine W.cf ?_) | (show W _ _ _ _ _ _ (.ins (cond _ _ _ :: _) :: _) _ _; first | refine W.gt ?_ | refine W.gf ?_) | (show W _ _ _ _ _ _ [] _ _; refine W.of (.done ?_)) | (apply W.of; constructor <;> first | (show W _ _ _ _ _ _ _ _ _) | (intro (al : Nat) h st; show W _ _ _ _ _ _ _ _ _) | (intro _ h st; show W _ _ _ _ _ _ _ _ _) | exact Sd))); refine W.call (hs := po_known) (w := ?_); rintro vv _ ⟨rfl, rfl⟩ h st; refine nj ?_; dsimp only [List.cons_append, List.nil_append] at st
  cases ha : atZ zs id with
  | none =>
    dsimp only [knownV]
    (repeat (first | (show W _ _ _ _ _ _ (.code (cond _ _ _) :: _) _ _; first | refine W.ct ?_ | refine W.cf ?_) | (show W _ _ _ _ _ _ (.ins (cond _ _ _ :: _) :: _) _ _; first | refine W.gt ?_ | refine W.gf ?_) | (show W _ _ _ _ _ _ [] _ _; refine W.of (.done ?_)) | (apply W.of; constructor <;> first | (show W _ _ _ _ _ _ _ _ _) | (intro (al : Nat) h st; show W _ _ _ _ _ _ _ _ _) | (intro _ h st; show W _ _ _ _ _ _ _ _ _) | exact Sd)))
    exact ⟨_, rfl, _, .inl ⟨rfl, rfl, rfl⟩, st⟩
  | some a =>
    dsimp only [knownV]
    obtain ⟨_, _, hz⟩ := atZ_some ha
    (repeat (first | (show W _ _ _ _ _ _ (.code (cond _ _ _) :: _) _ _; first | refine W.ct ?_ | refine W.cf ?_) | (show W _ _ _ _ _ _ (.ins (cond _ _ _ :: _) :: _) _ _; first | refine W.gt ?_ | refine W.gf ?_) | (show W _ _ _ _ _ _ [] _ _; refine W.of (.done ?_)) | (apply W.of; constructor <;> first | (show W _ _ _ _ _ _ _ _ _) | (intro (al : Nat) h st; show W _ _ _ _ _ _ _ _ _) | (intro _ h st; show W _ _ _ _ _ _ _ _ _) | exact Sd))); refine W.call (hs := po_Cover) (w := ?_); rintro vv _ ⟨rfl, rfl⟩ h st; refine nj ?_; dsimp only [List.cons_append, List.nil_append] at st
    by_cases h0 : coverZ zs id slot = 0
    · rw [h0]
      (repeat (first | (show W _ _ _ _ _ _ (.code (cond _ _ _) :: _) _ _; first | refine W.ct ?_ | refine W.cf ?_) | (show W _ _ _ _ _ _ (.ins (cond _ _ _ :: _) :: _) _ _; first | refine W.gt ?_ | refine W.gf ?_) | (show W _ _ _ _ _ _ [] _ _; refine W.of (.done ?_)) | (apply W.of; constructor <;> first | (show W _ _ _ _ _ _ _ _ _) | (intro (al : Nat) h st; show W _ _ _ _ _ _ _ _ _) | (intro _ h st; show W _ _ _ _ _ _ _ _ _) | exact Sd)))
      exact ⟨_, rfl, _, .inr (.inl ⟨a, rfl, .inl rfl, rfl, rfl⟩), st⟩
    · by_cases h1 : x < 0
      · (repeat (first | (show W _ _ _ _ _ _ (.code (cond _ _ _) :: _) _ _; first | refine W.ct ?_ | refine W.cf ?_) | (show W _ _ _ _ _ _ (.ins (cond _ _ _ :: _) :: _) _ _; first | refine W.gt ?_ | refine W.gf ?_) | (show W _ _ _ _ _ _ [] _ _; refine W.of (.done ?_)) | (apply W.of; constructor <;> first | (show W _ _ _ _ _ _ _ _ _) | (intro (al : Nat) h st; show W _ _ _ _ _ _ _ _ _) | (intro _ h st; show W _ _ _ _ _ _ _ _ _) | exact Sd)))
        exact ⟨_, rfl, _, .inr (.inl ⟨a, rfl, .inr h1, rfl, rfl⟩), st⟩
      · have hin : 0 ≤ slot ∧ slot < a.cs.length := by
          unfold coverZ atL at h0
          rw [ha] at h0
          dsimp only at h0
          split at h0
          · assumption
          · exact absurd rfl h0
        obtain ⟨i, rfl⟩ : ∃ i : Nat, slot = (i : Int) := ⟨slot.toNat, by omega⟩
        have st := st.poOut Tk hz
        obtain ⟨_, ⟨D, v, l, rfl, he, hok⟩, st⟩ := St.unpack st; dsimp only [List.cons_append, List.nil_append] at st
        have hlen := hok.len
        obtain ⟨vl, vj, vs⟩ := St.ivs (v := v) (cs := a.an) st Tk
        obtain ⟨y, hy⟩ : ∃ y, a.an[i]? = some y := ⟨a.an[i]'(by omega), by simp⟩
        obtain ⟨gp, gq⟩ := d_vsIdx (v := v) (l := a.an.map ikey) (i := i) (kk := .i64) st Tk (by rw [List.length_map]; omega)
        (repeat (first | (show W _ _ _ _ _ _ (.code (cond _ _ _) :: _) _ _; first | refine W.ct ?_ | refine W.cf ?_) | (show W _ _ _ _ _ _ (.ins (cond _ _ _ :: _) :: _) _ _; first | refine W.gt ?_ | refine W.gf ?_) | (show W _ _ _ _ _ _ [] _ _; refine W.of (.done ?_)) | (apply W.of; constructor <;> first | (show W _ _ _ _ _ _ _ _ _) | (intro (al : Nat) h st; show W _ _ _ _ _ _ _ _ _) | (intro _ h st; show W _ _ _ _ _ _ _ _ _) | exact Sd))); refine W.do (ho := gp) (w := ?_)
        (repeat (first | (show W _ _ _ _ _ _ (.code (cond _ _ _) :: _) _ _; first | refine W.ct ?_ | refine W.cf ?_) | (show W _ _ _ _ _ _ (.ins (cond _ _ _ :: _) :: _) _ _; first | refine W.gt ?_ | refine W.gf ?_) | (show W _ _ _ _ _ _ [] _ _; refine W.of (.done ?_)) | (apply W.of; constructor <;> first | (show W _ _ _ _ _ _ _ _ _) | (intro (al : Nat) h st; show W _ _ _ _ _ _ _ _ _) | (intro _ h st; show W _ _ _ _ _ _ _ _ _) | exact Sd))); refine W.do (ho := (d_vsLoad (v := v) (l := a.an.map ikey) (x := ikey y) st Tk (by rw [List.getElem?_map, hy]; rfl))) (w := ?_)
        (repeat (first | (show W _ _ _ _ _ _ (.code (cond _ _ _) :: _) _ _; first | refine W.ct ?_ | refine W.cf ?_) | (show W _ _ _ _ _ _ (.ins (cond _ _ _ :: _) :: _) _ _; first | refine W.gt ?_ | refine W.gf ?_) | (show W _ _ _ _ _ _ [] _ _; refine W.of (.done ?_)) | (apply W.of; constructor <;> first | (show W _ _ _ _ _ _ _ _ _) | (intro (al : Nat) h st; show W _ _ _ _ _ _ _ _ _) | (intro _ h st; show W _ _ _ _ _ _ _ _ _) | exact Sd))); refine W.do (ho := gp) (w := ?_)
        (repeat (first | (show W _ _ _ _ _ _ (.code (cond _ _ _) :: _) _ _; first | refine W.ct ?_ | refine W.cf ?_) | (show W _ _ _ _ _ _ (.ins (cond _ _ _ :: _) :: _) _ _; first | refine W.gt ?_ | refine W.gf ?_) | (show W _ _ _ _ _ _ [] _ _; refine W.of (.done ?_)) | (apply W.of; constructor <;> first | (show W _ _ _ _ _ _ _ _ _) | (intro (al : Nat) h st; show W _ _ _ _ _ _ _ _ _) | (intro _ h st; show W _ _ _ _ _ _ _ _ _) | exact Sd))); refine W.ef0 (ho := (e_vsStore (v := v) (l := a.an.map ikey) (i := i) st Tk (by rw [List.length_map]; omega) rfl)) (w := ?_); rintro _ h ⟨_, st⟩
        rw [← List.map_set (f := ikey)] at st
        (repeat (first | (show W _ _ _ _ _ _ (.code (cond _ _ _) :: _) _ _; first | refine W.ct ?_ | refine W.cf ?_) | (show W _ _ _ _ _ _ (.ins (cond _ _ _ :: _) :: _) _ _; first | refine W.gt ?_ | refine W.gf ?_) | (show W _ _ _ _ _ _ [] _ _; refine W.of (.done ?_)) | (apply W.of; constructor <;> first | (show W _ _ _ _ _ _ _ _ _) | (intro (al : Nat) h st; show W _ _ _ _ _ _ _ _ _) | (intro _ h st; show W _ _ _ _ _ _ _ _ _) | exact Sd)))
        have st := St.packP (t := 40) (k := .ptr a.O 0) (P := AmIs { a with an := a.an.set i x }) (cs := [.pt a.O (oneRow D v), CntC D l a.cs.length, VsC v 3 ((a.an.set i x).map ikey) true]) st ⟨D, v, l, rfl, he, by simp [hlen], hok.n1, hok.n4, fun z hz => by
          rcases List.mem_or_eq_of_mem_set hz with hz | hz
          · exact hok.pos z hz
          · omega⟩ Pks
        have st := st.poIn (a := a) (b := { a with an := a.an.set i x }) rfl hz Tk Tk
        refine ⟨_, rfl, _, .inr (.inr ⟨a, rfl, by omega, ?_, rfl⟩), ?_⟩
        · unfold getZ
          rw [ha]
          dsimp only
          rw [if_pos (by omega), Int.toNat_natCast, hy]; rfl
        · unfold setZ
          rw [ha]
          exact st
end Go.Proofs.Ytjdemlagmamlbaa

namespace Go.Proofs.Ytjdemlagmamlbaa
/-- the first that is none -/
def firstN : List (Option AmV) → Nat
  | [] => 0
  | none :: _ => 0
  | some _ :: r => firstN r + 1
theorem firstN_le : ∀ {zs : List (Option AmV)}, firstN zs ≤ zs.length
  | [] => Nat.le_refl _
  | none :: _ => Nat.zero_le _
  | some _ :: r => by have := firstN_le (zs := r); simp only [firstN, List.length_cons]; omega
theorem firstN_some {a : AmV} : ∀ {zs : List (Option AmV)} {i : Nat}, zs[i]? = some (some a) → i ≤ firstN zs → i + 1 ≤ firstN zs
  | [], i, h, _ => by simp at h
  | none :: r, i, h, h2 => by simp only [firstN] at h2; rw [Nat.le_zero.1 h2] at h; simp at h
  | some b :: r, 0, h, h2 => by simp only [firstN]; omega
  | some b :: r, i + 1, h, h2 => by
    simp only [firstN] at h2 ⊢
    have := firstN_some (zs := r) (i := i) (by simpa using h) (by omega)
    omega
theorem firstN_none : ∀ {zs : List (Option AmV)} {i : Nat}, zs[i]? = some none → i ≤ firstN zs → firstN zs = i
  | [], i, h, _ => by simp at h
  | none :: r, i, h, h2 => by simp only [firstN] at h2 ⊢; omega
  | some b :: r, 0, h, h2 => by simp at h
  | some b :: r, i + 1, h, h2 => by
    simp only [firstN] at h2 ⊢
    have := firstN_none (zs := r) (i := i) (by simpa using h) (by omega)
    omega
theorem firstN_at : ∀ {zs : List (Option AmV)}, firstN zs < zs.length → zs[firstN zs]? = some none
  | [], h => by simp at h
  | none :: r, h => rfl
  | some b :: r, h => by
    simp only [firstN, List.length_cons] at h ⊢
    rw [List.getElem?_cons_succ]
    exact firstN_at (by omega)
theorem cntZ_full : ∀ {zs : List (Option AmV)}, firstN zs = zs.length → cntZ zs = zs.length
  | [], _ => rfl
  | none :: r, h => by simp [firstN] at h
  | some b :: r, h => by
    simp only [firstN, List.length_cons] at h
    have := cntZ_full (zs := r) (by omega)
    simp only [cntZ, List.filter_cons, Option.isSome, if_true, List.length_cons] at this ⊢
    omega
theorem cntZ_le {zs : List (Option AmV)} : cntZ zs ≤ zs.length := List.length_filter_le _ _
abbrev ixE (sv : AV) (n i : Nat) : Env := [(0, sv), (1, .nilptr), (7, .int .i64 n), (8, .int .i64 i)]
theorem po_Index {sv : AV} {zs : List (Option AmV)} (hz : zs.length ≤ 4096) : Spec R (.f n_slices_Index_amap_one_amap_one) [sv, .nilptr] [VsC sv 177 (zs.map zptr) true] fun v Rs => v = .int .i64 (if firstN zs < zs.length then (firstN zs : Int) else -1) ∧ Rs = [VsC sv 177 (zs.map zptr) true] := by
  refine spec_in fun h F st => ?_
  obtain ⟨sl, sj, ss⟩ := St.vs (v := sv) (l := zs.map zptr) st Tk
  clear st h F; refine spec_w (fun _ _ _ x => progI_call rfl rfl x) Njs rfl (fun h F st => ?_); dsimp only [List.cons_append, List.nil_append] at st
  rw [List.length_map] at sl
  (repeat (first | (show W _ _ _ _ _ _ (.code (cond _ _ _) :: _) _ _; first | refine W.ct ?_ | refine W.cf ?_) | (show W _ _ _ _ _ _ (.ins (cond _ _ _ :: _) :: _) _ _; first | refine W.gt ?_ | refine W.gf ?_) | (show W _ _ _ _ _ _ [] _ _; refine W.of (.done ?_)) | (apply W.of; constructor <;> first | (show W _ _ _ _ _ _ _ _ _) | (intro (al : Nat) h st; show W _ _ _ _ _ _ _ _ _) | (intro _ h st; show W _ _ _ _ _ _ _ _ _) | exact Sd)))
  refine W.loop (fun i : Nat => ixE sv zs.length i) (fun _ => VsC sv 177 (zs.map zptr) true :: F) (fun i => i ≤ zs.length ∧ i ≤ firstN zs) (fun i => zs.length - i) 0 (small_rounds (by omega)) Sbs st ⟨Nat.zero_le _, Nat.zero_le _⟩ ?_
  clear st
  intro i h ⟨hi, hf⟩ st
  by_cases hlt : i < zs.length
  · obtain ⟨gp, gq⟩ := d_vsIdx (v := sv) (l := zs.map zptr) (i := i) (kk := .i64) st Tk (by rw [List.length_map]; omega)
    obtain ⟨z, hz'⟩ : ∃ z, zs[i]? = some z := ⟨zs[i]'(by omega), by simp⟩
    have znj := zptr_nj z
    have zok := zptr_ok z
    (repeat (first | (show W _ _ _ _ _ _ (.code (cond _ _ _) :: _) _ _; first | refine W.ct ?_ | refine W.cf ?_) | (show W _ _ _ _ _ _ (.ins (cond _ _ _ :: _) :: _) _ _; first | refine W.gt ?_ | refine W.gf ?_) | (show W _ _ _ _ _ _ [] _ _; refine W.of (.done ?_)) | (apply W.of; constructor <;> first | (show W _ _ _ _ _ _ _ _ _) | (intro (al : Nat) h st; show W _ _ _ _ _ _ _ _ _) | (intro _ h st; show W _ _ _ _ _ _ _ _ _) | exact Sd))); refine W.do (ho := gp) (w := ?_)
    (repeat (first | (show W _ _ _ _ _ _ (.code (cond _ _ _) :: _) _ _; first | refine W.ct ?_ | refine W.cf ?_) | (show W _ _ _ _ _ _ (.ins (cond _ _ _ :: _) :: _) _ _; first | refine W.gt ?_ | refine W.gf ?_) | (show W _ _ _ _ _ _ [] _ _; refine W.of (.done ?_)) | (apply W.of; constructor <;> first | (show W _ _ _ _ _ _ _ _ _) | (intro (al : Nat) h st; show W _ _ _ _ _ _ _ _ _) | (intro _ h st; show W _ _ _ _ _ _ _ _ _) | exact Sd))); refine W.do (ho := (d_vsLoad (v := sv) (l := zs.map zptr) (x := zptr z) st Tk (by rw [List.getElem?_map, hz']; rfl))) (w := ?_)
    cases z with
    | none =>
      dsimp only [zptr]
      (repeat (first | (show W _ _ _ _ _ _ (.code (cond _ _ _) :: _) _ _; first | refine W.ct ?_ | refine W.cf ?_) | (show W _ _ _ _ _ _ (.ins (cond _ _ _ :: _) :: _) _ _; first | refine W.gt ?_ | refine W.gf ?_) | (show W _ _ _ _ _ _ [] _ _; refine W.of (.done ?_)) | (apply W.of; constructor <;> first | (show W _ _ _ _ _ _ _ _ _) | (intro (al : Nat) h st; show W _ _ _ _ _ _ _ _ _) | (intro _ h st; show W _ _ _ _ _ _ _ _ _) | exact Sd)))
      have e := firstN_none hz' hf
      exact ⟨_, rfl, _, ⟨by rw [e, if_pos hlt]; rfl, rfl⟩, st⟩
    | some a =>
      dsimp only [zptr]
      (repeat (first | (show W _ _ _ _ _ _ (.code (cond _ _ _) :: _) _ _; first | refine W.ct ?_ | refine W.cf ?_) | (show W _ _ _ _ _ _ (.ins (cond _ _ _ :: _) :: _) _ _; first | refine W.gt ?_ | refine W.gf ?_) | (show W _ _ _ _ _ _ [] _ _; refine W.of (.done ?_)) | (apply W.of; constructor <;> first | (show W _ _ _ _ _ _ _ _ _) | (intro (al : Nat) h st; show W _ _ _ _ _ _ _ _ _) | (intro _ h st; show W _ _ _ _ _ _ _ _ _) | exact Sd)))
      refine W.of (.lp ?_)
      exact ⟨i + 1, by omega, ⟨hlt, firstN_some hz' hf⟩, Sbs, st⟩
  · (repeat (first | (show W _ _ _ _ _ _ (.code (cond _ _ _) :: _) _ _; first | refine W.ct ?_ | refine W.cf ?_) | (show W _ _ _ _ _ _ (.ins (cond _ _ _ :: _) :: _) _ _; first | refine W.gt ?_ | refine W.gf ?_) | (show W _ _ _ _ _ _ [] _ _; refine W.of (.done ?_)) | (apply W.of; constructor <;> first | (show W _ _ _ _ _ _ _ _ _) | (intro (al : Nat) h st; show W _ _ _ _ _ _ _ _ _) | (intro _ h st; show W _ _ _ _ _ _ _ _ _) | exact Sd)))
    have := firstN_le (zs := zs)
    exact ⟨_, rfl, _, ⟨by rw [if_neg (by omega)]; rfl, rfl⟩, st⟩
/-- the number that Make gives, less one; what it leaves -/
def putZ (zs : List (Option AmV)) (a : AmV) : List (Option AmV) := if firstN zs < zs.length then zs.set (firstN zs) (some a) else zs ++ [some a]
theorem cntZ_put {a : AmV} : ∀ {zs : List (Option AmV)}, cntZ (putZ zs a) = cntZ zs + 1
  | [] => rfl
  | none :: r => by simp [putZ, firstN, cntZ]
  | some b :: r => by
    have := cntZ_put (a := a) (zs := r)
    simp only [putZ, firstN, List.length_cons, Nat.add_lt_add_iff_right, List.set_cons_succ] at this ⊢
    split at this <;> rename_i hh <;> simp only [hh, if_true, if_false, cntZ, List.cons_append, List.filter_cons, Option.isSome, List.length_cons] at this ⊢ <;> omega
variable {P most : Nat} {zs : List (Option AmV)} {a : AmV}
def newAm (O n : Nat) : AmV := ⟨O, List.replicate n 1, List.replicate n 0⟩
abbrev mkPost (P most : Nat) (zs : List (Option AmV)) (m : Int) (v : AV) (Rs : List Chunk) : Prop :=
  (¬ (1 ≤ m ∧ m ≤ 4096) ∧ v = .tuple [.int .i64 0, .int .i64 2] ∧ Rs = [PoC P most zs]) ∨
  ((1 ≤ m ∧ m ≤ 4096) ∧ most ≤ cntZ zs ∧ v = .tuple [.int .i64 0, .int .i64 5] ∧ Rs = [PoC P most zs]) ∨
  ((1 ≤ m ∧ m ≤ 4096) ∧ cntZ zs < most ∧ ∃ O, v = .tuple [.int .i64 ((firstN zs : Int) + 1), .int .i64 0] ∧ Rs = [PoC P most (putZ zs (newAm O m.toNat))])
theorem addL_one {k : Nat} : addL 0 (List.replicate k 0) 0 k 1 = List.replicate k 1 := by
  apply List.ext_getElem?
  intro j
  rw [addL_get]
  by_cases h : j < k
  · simp [h]
  · simp [h]
theorem addOk_one {k : Nat} : AddOk (List.replicate k 0) 0 k 1 := ⟨by omega, by simp, by omega, fun c hc => by
  rw [(List.mem_replicate.1 (List.mem_of_mem_drop (List.mem_of_mem_take hc))).2]; omega⟩
theorem po_put {h : AHeap} {L R R1 R2 R3 : List Chunk} {sv : AV} {n : Int} (st : St h L) (t : Take L (AmC a) R) (t1 : Take R (.pt P (.row ty_amap_Pool 4 false false (.vals [.int .i64 most, .bool true, sv, .int .i64 n]))) R1) (t2 : Take R1 (VsC sv 177 ((putZ zs a).map zptr) true) R2) (t3 : Take R2 (SepC (.ptr P 0) zG zs) R3)
    (hn : n = (cntZ zs : Int) + 1) (hl : firstN zs = zs.length → zs.length + 1 ≤ most) (hok : PoOk most zs) (hc : cntZ zs < most) : St h (PoC P most (putZ zs a) :: R3) := by
  obtain rfl : n = ((cntZ zs + 1 : Nat) : Int) := by rw [hn]; rfl
  have st1 := (st.take t).perm ((t1.perm.trans ((t2.perm.trans (t3.perm.cons _)).cons _)).cons _)
  have st2 : St h (SepC (.ptr P 0) zG (putZ zs a) :: .pt P (poolRow most sv (cntZ zs + 1)) :: VsC sv 177 ((putZ zs a).map zptr) true :: R3) := by
    unfold putZ
    by_cases hf : firstN zs < zs.length
    · rw [if_pos hf]
      have st3 : St h (SepC (.ptr P 0) zG zs :: AmC a :: .pt P (poolRow most sv (cntZ zs + 1)) :: VsC sv 177 ((putZ zs a).map zptr) true :: R3) := st1.sel Sels
      have st4 := St.sepOut (G := zG) (a := none) st3 Tk (firstN_at hf)
      have st5 := St.sepIn (G := zG) (a := some a) (l := zs) (i := firstN zs) (key := .ptr P 0) (R := .pt P (poolRow most sv (cntZ zs + 1)) :: VsC sv 177 ((putZ zs a).map zptr) true :: R3) (st4.sel Sels) hf
      rw [putZ, if_pos hf] at st5
      exact st5
    · rw [if_neg hf]
      have st3 : St h (SepC (.ptr P 0) zG zs :: AmC a :: .pt P (poolRow most sv (cntZ zs + 1)) :: VsC sv 177 ((putZ zs a).map zptr) true :: R3) := st1.sel Sels
      have st4 := St.sepSnoc (G := zG) (a := some a) st3 Tk Pks
      rw [putZ, if_neg hf] at st4
      exact st4
  refine St.pack (cs := [.pt P (poolRow most sv (cntZ zs + 1)), VsC sv 177 ((putZ zs a).map zptr) true, SepC (.ptr P 0) zG (putZ zs a)]) (st2.sel Sels) ⟨sv, by rw [cntZ_put], hok.m, by rw [cntZ_put]; exact hc, ?_⟩
  have := firstN_le (zs := zs)
  unfold putZ
  split
  · rw [List.length_set]; exact hok.l
  · rw [List.length_append]; exact hl (by omega)
set_option maxRecDepth 8000 in
theorem mk_tail {O D k : Nat} {v sv : AV} {l0 : List RunV} {Fr : List Chunk} {h : AHeap} (h1 : 1 ≤ k) (h2 : k ≤ 4096) (e0 : expand l0 = List.replicate k 0) (hpo : PoOk most zs) (h3 : cntZ zs < most) 
    (st : St h (.pt O (oneRow D v) :: CntC D l0 k :: VsC v 3 ((List.replicate k (0 : Int)).map ikey) true :: .pt P (poolRow most sv (cntZ zs)) :: VsC sv 177 (zs.map zptr) true :: SepC (.ptr P 0) zG zs :: Fr)) :
    W over tab none c_amap_Pool_Make.ntmps (fnQ c_amap_Pool_Make.res fun v h' => ∃ Rs, mkPost P most zs (k : Nat) v Rs ∧ St h' (Rs ++ Fr)) .normal [.ins [I 40 (.callv) [F 66, T 38, N 0, T 39, N 1]], .code (sR (sR (sR (sR c_amap_Pool_Make.body))))]
      [(0, .ptr P 0), (6, .ptr O 0), (38, .ptr D 0), (39, .int .i64 k)] h := by
  have hm := hpo.m
  have hl := hpo.l
  obtain ⟨sl, sj, ss⟩ := St.vs (v := sv) (l := zs.map zptr) st Tk
  rw [List.length_map] at sl
  have hfl := firstN_le (zs := zs)
  (repeat (first | (show W _ _ _ _ _ _ (.code (cond _ _ _) :: _) _ _; first | refine W.ct ?_ | refine W.cf ?_) | (show W _ _ _ _ _ _ (.ins (cond _ _ _ :: _) :: _) _ _; first | refine W.gt ?_ | refine W.gf ?_) | (show W _ _ _ _ _ _ [] _ _; refine W.of (.done ?_)) | (apply W.of; constructor <;> first | (show W _ _ _ _ _ _ _ _ _) | (intro (al : Nat) h st; show W _ _ _ _ _ _ _ _ _) | (intro _ h st; show W _ _ _ _ _ _ _ _ _) | exact Sd))); refine W.call (hs := (cnt_Add_ok (D := D) (l := l0) (n := (k : Nat)) (lo := 0) (hi := (k : Nat)) (by' := 1) (by rw [e0]; exact addOk_one))) (w := ?_); rintro vv _ ⟨gv, l1, rfl, gj, gl, e1, rfl⟩ h st; refine nj ?_; dsimp only [List.cons_append, List.nil_append] at st
  rw [e0, addL_one] at e1
  have st := St.packP (t := 40) (k := .ptr O 0) (P := AmIs (newAm O k)) (cs := [.pt O (oneRow D v), CntC D l1 k, VsC v 3 ((List.replicate k (0 : Int)).map ikey) true]) st ⟨D, v, l1, by simp [newAm], e1, by simp [newAm], by simpa [newAm] using h1, by simpa [newAm] using h2, fun x hx => by rw [(List.mem_replicate.1 hx).2]; exact Int.le_refl _⟩ Pks
  (repeat (first | (show W _ _ _ _ _ _ (.code (cond _ _ _) :: _) _ _; first | refine W.ct ?_ | refine W.cf ?_) | (show W _ _ _ _ _ _ (.ins (cond _ _ _ :: _) :: _) _ _; first | refine W.gt ?_ | refine W.gf ?_) | (show W _ _ _ _ _ _ [] _ _; refine W.of (.done ?_)) | (apply W.of; constructor <;> first | (show W _ _ _ _ _ _ _ _ _) | (intro (al : Nat) h st; show W _ _ _ _ _ _ _ _ _) | (intro _ h st; show W _ _ _ _ _ _ _ _ _) | exact Sd)))
  (repeat (first | (show W _ _ _ _ _ _ (.code (cond _ _ _) :: _) _ _; first | refine W.ct ?_ | refine W.cf ?_) | (show W _ _ _ _ _ _ (.ins (cond _ _ _ :: _) :: _) _ _; first | refine W.gt ?_ | refine W.gf ?_) | (show W _ _ _ _ _ _ [] _ _; refine W.of (.done ?_)) | (apply W.of; constructor <;> first | (show W _ _ _ _ _ _ _ _ _) | (intro (al : Nat) h st; show W _ _ _ _ _ _ _ _ _) | (intro _ h st; show W _ _ _ _ _ _ _ _ _) | exact Sd))); refine W.call (hs := (po_Index (sv := sv) (zs := zs) (by omega))) (w := ?_); rintro vv _ ⟨rfl, rfl⟩ h st; refine nj ?_; dsimp only [List.cons_append, List.nil_append] at st
  by_cases hf : firstN zs < zs.length
  · rw [if_pos hf]
    obtain ⟨gp, gq⟩ := d_vsIdx (v := sv) (l := zs.map zptr) (i := firstN zs) (kk := .i64) st Tk (by rw [List.length_map]; omega)
    (repeat (first | (show W _ _ _ _ _ _ (.code (cond _ _ _) :: _) _ _; first | refine W.ct ?_ | refine W.cf ?_) | (show W _ _ _ _ _ _ (.ins (cond _ _ _ :: _) :: _) _ _; first | refine W.gt ?_ | refine W.gf ?_) | (show W _ _ _ _ _ _ [] _ _; refine W.of (.done ?_)) | (apply W.of; constructor <;> first | (show W _ _ _ _ _ _ _ _ _) | (intro (al : Nat) h st; show W _ _ _ _ _ _ _ _ _) | (intro _ h st; show W _ _ _ _ _ _ _ _ _) | exact Sd))); refine W.do (ho := gp) (w := ?_)
    (repeat (first | (show W _ _ _ _ _ _ (.code (cond _ _ _) :: _) _ _; first | refine W.ct ?_ | refine W.cf ?_) | (show W _ _ _ _ _ _ (.ins (cond _ _ _ :: _) :: _) _ _; first | refine W.gt ?_ | refine W.gf ?_) | (show W _ _ _ _ _ _ [] _ _; refine W.of (.done ?_)) | (apply W.of; constructor <;> first | (show W _ _ _ _ _ _ _ _ _) | (intro (al : Nat) h st; show W _ _ _ _ _ _ _ _ _) | (intro _ h st; show W _ _ _ _ _ _ _ _ _) | exact Sd))); refine W.ef0 (ho := (e_vsStore (v := sv) (l := zs.map zptr) (i := firstN zs) st Tk (by rw [List.length_map]; omega) rfl)) (w := ?_); rintro _ h ⟨_, st⟩
    (repeat (first | (show W _ _ _ _ _ _ (.code (cond _ _ _) :: _) _ _; first | refine W.ct ?_ | refine W.cf ?_) | (show W _ _ _ _ _ _ (.ins (cond _ _ _ :: _) :: _) _ _; first | refine W.gt ?_ | refine W.gf ?_) | (show W _ _ _ _ _ _ [] _ _; refine W.of (.done ?_)) | (apply W.of; constructor <;> first | (show W _ _ _ _ _ _ _ _ _) | (intro (al : Nat) h st; show W _ _ _ _ _ _ _ _ _) | (intro _ h st; show W _ _ _ _ _ _ _ _ _) | exact Sd)))
    have ez : (zs.map zptr).set (firstN zs) (.ptr O 0) = (putZ zs (newAm O k)).map zptr := by rw [putZ, if_pos hf, List.map_set]; rfl
    rw [ez] at st
    have st := po_put (a := newAm O k) (sv := sv) st Tk Tk Tk Tk rfl (fun e => by omega) hpo h3
    exact ⟨_, rfl, _, .inr (.inr ⟨by omega, h3, O, rfl, rfl⟩), st.sel Sels⟩
  · have hfe : firstN zs = zs.length := by omega
    have hcf := cntZ_full hfe
    rw [if_neg hf]
    (repeat (first | (show W _ _ _ _ _ _ (.code (cond _ _ _) :: _) _ _; first | refine W.ct ?_ | refine W.cf ?_) | (show W _ _ _ _ _ _ (.ins (cond _ _ _ :: _) :: _) _ _; first | refine W.gt ?_ | refine W.gf ?_) | (show W _ _ _ _ _ _ [] _ _; refine W.of (.done ?_)) | (apply W.of; constructor <;> first | (show W _ _ _ _ _ _ _ _ _) | (intro (al : Nat) h st; show W _ _ _ _ _ _ _ _ _) | (intro _ h st; show W _ _ _ _ _ _ _ _ _) | exact Sd)))
    have st := St.vsRow (l := [.ptr O 0]) (e := 177) st Tk rfl
    (repeat (first | (show W _ _ _ _ _ _ (.code (cond _ _ _) :: _) _ _; first | refine W.ct ?_ | refine W.cf ?_) | (show W _ _ _ _ _ _ (.ins (cond _ _ _ :: _) :: _) _ _; first | refine W.gt ?_ | refine W.gf ?_) | (show W _ _ _ _ _ _ [] _ _; refine W.of (.done ?_)) | (apply W.of; constructor <;> first | (show W _ _ _ _ _ _ _ _ _) | (intro (al : Nat) h st; show W _ _ _ _ _ _ _ _ _) | (intro _ h st; show W _ _ _ _ _ _ _ _ _) | exact Sd))); refine W.ef (ho := (e_vsAppend (s := sv) (l := zs.map zptr) (l' := [.ptr O 0]) st Tk Tk (by simp; omega) (by simp; omega))) (w := ?_); rintro vv h ⟨cj, cl, st⟩; refine nj ?_
    obtain ⟨s2, rfl⟩ : ∃ y, y = vv := ⟨_, rfl⟩
    have ez : zs.map zptr ++ [.ptr O 0] = (putZ zs (newAm O k)).map zptr := by rw [putZ, if_neg hf, List.map_append]; rfl
    rw [ez] at st cl
    (repeat (first | (show W _ _ _ _ _ _ (.code (cond _ _ _) :: _) _ _; first | refine W.ct ?_ | refine W.cf ?_) | (show W _ _ _ _ _ _ (.ins (cond _ _ _ :: _) :: _) _ _; first | refine W.gt ?_ | refine W.gf ?_) | (show W _ _ _ _ _ _ [] _ _; refine W.of (.done ?_)) | (apply W.of; constructor <;> first | (show W _ _ _ _ _ _ _ _ _) | (intro (al : Nat) h st; show W _ _ _ _ _ _ _ _ _) | (intro _ h st; show W _ _ _ _ _ _ _ _ _) | exact Sd))); refine W.ef0 (ho := (e_storeV (i := 2) st Tk rfl (by simp) (sl_dat cl))) (w := ?_); rintro _ h ⟨_, st⟩
    have cl2 : sliceLen s2 = some (zs.length + 1) := by rw [cl, List.length_map, putZ, if_neg hf, List.length_append]; rfl
    (repeat (first | (show W _ _ _ _ _ _ (.code (cond _ _ _) :: _) _ _; first | refine W.ct ?_ | refine W.cf ?_) | (show W _ _ _ _ _ _ (.ins (cond _ _ _ :: _) :: _) _ _; first | refine W.gt ?_ | refine W.gf ?_) | (show W _ _ _ _ _ _ [] _ _; refine W.of (.done ?_)) | (apply W.of; constructor <;> first | (show W _ _ _ _ _ _ _ _ _) | (intro (al : Nat) h st; show W _ _ _ _ _ _ _ _ _) | (intro _ h st; show W _ _ _ _ _ _ _ _ _) | exact Sd)))
    have st := po_put (a := newAm O k) (sv := s2) st Tk Tk Tk Tk rfl (fun e => by omega) hpo h3
    exact ⟨_, rfl, _, .inr (.inr ⟨by omega, h3, O, by rw [hfe]; rfl, rfl⟩), st.sel Sels⟩
set_option maxRecDepth 8000 in
theorem po_Make {m : Int} : Spec R (.f n_amap_Pool_Make) [.ptr P 0, .int .i64 m] [PoC P most zs] (mkPost P most zs m) := by
  refine spec_w (fun _ _ _ x => progI_call rfl rfl x) Njs rfl (fun h F st => ?_); dsimp only [List.cons_append, List.nil_append] at st
  have hpo := st.po Tk
  have hm := hpo.m
  have hl := hpo.l
  have hc := hpo.c
  (repeat (first | (show W _ _ _ _ _ _ (.code (cond _ _ _) :: _) _ _; first | refine W.ct ?_ | refine W.cf ?_) | (show W _ _ _ _ _ _ (.ins (cond _ _ _ :: _) :: _) _ _; first | refine W.gt ?_ | refine W.gf ?_) | (show W _ _ _ _ _ _ [] _ _; refine W.of (.done ?_)) | (apply W.of; constructor <;> first | (show W _ _ _ _ _ _ _ _ _) | (intro (al : Nat) h st; show W _ _ _ _ _ _ _ _ _) | (intro _ h st; show W _ _ _ _ _ _ _ _ _) | exact Sd))); refine W.call (hs := po_made) (w := ?_); rintro vv _ ⟨rfl, rfl⟩ h st; refine nj ?_; dsimp only [List.cons_append, List.nil_append] at st
  by_cases h1 : m < 1
  · (repeat (first | (show W _ _ _ _ _ _ (.code (cond _ _ _) :: _) _ _; first | refine W.ct ?_ | refine W.cf ?_) | (show W _ _ _ _ _ _ (.ins (cond _ _ _ :: _) :: _) _ _; first | refine W.gt ?_ | refine W.gf ?_) | (show W _ _ _ _ _ _ [] _ _; refine W.of (.done ?_)) | (apply W.of; constructor <;> first | (show W _ _ _ _ _ _ _ _ _) | (intro (al : Nat) h st; show W _ _ _ _ _ _ _ _ _) | (intro _ h st; show W _ _ _ _ _ _ _ _ _) | exact Sd)))
    exact ⟨_, rfl, _, .inl ⟨by omega, rfl, rfl⟩, st⟩
  · by_cases h2 : m > 4096
    · (repeat (first | (show W _ _ _ _ _ _ (.code (cond _ _ _) :: _) _ _; first | refine W.ct ?_ | refine W.cf ?_) | (show W _ _ _ _ _ _ (.ins (cond _ _ _ :: _) :: _) _ _; first | refine W.gt ?_ | refine W.gf ?_) | (show W _ _ _ _ _ _ [] _ _; refine W.of (.done ?_)) | (apply W.of; constructor <;> first | (show W _ _ _ _ _ _ _ _ _) | (intro (al : Nat) h st; show W _ _ _ _ _ _ _ _ _) | (intro _ h st; show W _ _ _ _ _ _ _ _ _) | exact Sd)))
      exact ⟨_, rfl, _, .inl ⟨by omega, rfl, rfl⟩, st⟩
    · obtain ⟨k, rfl⟩ : ∃ k : Nat, m = (k : Int) := ⟨m.toNat, by omega⟩
      obtain ⟨_, ⟨sv, rfl, _⟩, st⟩ := St.unpack st; dsimp only [List.cons_append, List.nil_append] at st
      by_cases h3 : cntZ zs ≥ most
      · (repeat (first | (show W _ _ _ _ _ _ (.code (cond _ _ _) :: _) _ _; first | refine W.ct ?_ | refine W.cf ?_) | (show W _ _ _ _ _ _ (.ins (cond _ _ _ :: _) :: _) _ _; first | refine W.gt ?_ | refine W.gf ?_) | (show W _ _ _ _ _ _ [] _ _; refine W.of (.done ?_)) | (apply W.of; constructor <;> first | (show W _ _ _ _ _ _ _ _ _) | (intro (al : Nat) h st; show W _ _ _ _ _ _ _ _ _) | (intro _ h st; show W _ _ _ _ _ _ _ _ _) | exact Sd)))
        exact ⟨_, rfl, _, .inr (.inl ⟨by omega, h3, rfl, rfl⟩), St.packP (t := 41) (P := PoIs P most zs) (cs := [_, _, _]) st ⟨sv, rfl, hpo⟩ Pks⟩
      · (repeat (first | (show W _ _ _ _ _ _ (.code (cond _ _ _) :: _) _ _; first | refine W.ct ?_ | refine W.cf ?_) | (show W _ _ _ _ _ _ (.ins (cond _ _ _ :: _) :: _) _ _; first | refine W.gt ?_ | refine W.gf ?_) | (show W _ _ _ _ _ _ [] _ _; refine W.of (.done ?_)) | (apply W.of; constructor <;> first | (show W _ _ _ _ _ _ _ _ _) | (intro (al : Nat) h st; show W _ _ _ _ _ _ _ _ _) | (intro _ h st; show W _ _ _ _ _ _ _ _ _) | exact Sd)))
        refine W.draw2 ?_ ?_
        · (repeat (first | (show W _ _ _ _ _ _ (.code (cond _ _ _) :: _) _ _; first | refine W.ct ?_ | refine W.cf ?_) | (show W _ _ _ _ _ _ (.ins (cond _ _ _ :: _) :: _) _ _; first | refine W.gt ?_ | refine W.gf ?_) | (show W _ _ _ _ _ _ [] _ _; refine W.of (.done ?_)) | (apply W.of; constructor <;> first | (show W _ _ _ _ _ _ _ _ _) | (intro (al : Nat) h st; show W _ _ _ _ _ _ _ _ _) | (intro _ h st; show W _ _ _ _ _ _ _ _ _) | exact Sd))); refine W.call (hs := (cnt_New (m := k) (by omega) (by omega))) (w := ?_); rintro vv _ ⟨D, l0, rfl, rfl, e0⟩ h st; refine nj ?_; dsimp only [List.cons_append, List.nil_append] at st
          (repeat (first | (show W _ _ _ _ _ _ (.code (cond _ _ _) :: _) _ _; first | refine W.ct ?_ | refine W.cf ?_) | (show W _ _ _ _ _ _ (.ins (cond _ _ _ :: _) :: _) _ _; first | refine W.gt ?_ | refine W.gf ?_) | (show W _ _ _ _ _ _ [] _ _; refine W.of (.done ?_)) | (apply W.of; constructor <;> first | (show W _ _ _ _ _ _ _ _ _) | (intro (al : Nat) h st; show W _ _ _ _ _ _ _ _ _) | (intro _ h st; show W _ _ _ _ _ _ _ _ _) | exact Sd))); refine W.ef (ho := (e_mkslice (e := 3) (es := 1) (b := 8) (z := .vals [.int .i64 0]) (d := .vals ((List.replicate k (0 : Int)).map ikey)) (l := (k : Nat)) (c := (k : Nat)) st (by omega) (by omega) (by omega) (by omega) rfl (by show Dat.vals (List.replicate k [AV.int .i64 0]).flatten = _; rw [rep_ikey]) (by simp [Dat.len]) rfl)) (w := ?_); rintro vv h ⟨id, rfl, st⟩; refine nj ?_
          rw [Int.toNat_natCast]
          (repeat (first | (show W _ _ _ _ _ _ (.code (cond _ _ _) :: _) _ _; first | refine W.ct ?_ | refine W.cf ?_) | (show W _ _ _ _ _ _ (.ins (cond _ _ _ :: _) :: _) _ _; first | refine W.gt ?_ | refine W.gf ?_) | (show W _ _ _ _ _ _ [] _ _; refine W.of (.done ?_)) | (apply W.of; constructor <;> first | (show W _ _ _ _ _ _ _ _ _) | (intro (al : Nat) h st; show W _ _ _ _ _ _ _ _ _) | (intro _ h st; show W _ _ _ _ _ _ _ _ _) | exact Sd)))
          have st := St.vsRow (l := (List.replicate k (0 : Int)).map ikey) (e := 3) (n := k) st Tk (by simp)
          exact W.sub Sbs (mk_tail (by omega) (by omega) (by rw [e0, Int.toNat_natCast]) hpo (by omega) (st.sel Sels))
        · (repeat (first | (show W _ _ _ _ _ _ (.code (cond _ _ _) :: _) _ _; first | refine W.ct ?_ | refine W.cf ?_) | (show W _ _ _ _ _ _ (.ins (cond _ _ _ :: _) :: _) _ _; first | refine W.gt ?_ | refine W.gf ?_) | (show W _ _ _ _ _ _ [] _ _; refine W.of (.done ?_)) | (apply W.of; constructor <;> first | (show W _ _ _ _ _ _ _ _ _) | (intro (al : Nat) h st; show W _ _ _ _ _ _ _ _ _) | (intro _ h st; show W _ _ _ _ _ _ _ _ _) | exact Sd))); refine W.ef (ho := (e_mkslice (e := 3) (es := 1) (b := 8) (z := .vals [.int .i64 0]) (d := .vals ((List.replicate k (0 : Int)).map ikey)) (l := (k : Nat)) (c := (k : Nat)) st (by omega) (by omega) (by omega) (by omega) rfl (by show Dat.vals (List.replicate k [AV.int .i64 0]).flatten = _; rw [rep_ikey]) (by simp [Dat.len]) rfl)) (w := ?_); rintro vv h ⟨id, rfl, st⟩; refine nj ?_
          rw [Int.toNat_natCast]
          (repeat (first | (show W _ _ _ _ _ _ (.code (cond _ _ _) :: _) _ _; first | refine W.ct ?_ | refine W.cf ?_) | (show W _ _ _ _ _ _ (.ins (cond _ _ _ :: _) :: _) _ _; first | refine W.gt ?_ | refine W.gf ?_) | (show W _ _ _ _ _ _ [] _ _; refine W.of (.done ?_)) | (apply W.of; constructor <;> first | (show W _ _ _ _ _ _ _ _ _) | (intro (al : Nat) h st; show W _ _ _ _ _ _ _ _ _) | (intro _ h st; show W _ _ _ _ _ _ _ _ _) | exact Sd))); refine W.call (hs := (cnt_New (m := k) (by omega) (by omega))) (w := ?_); rintro vv _ ⟨D, l0, rfl, rfl, e0⟩ h st; refine nj ?_; dsimp only [List.cons_append, List.nil_append] at st
          (repeat (first | (show W _ _ _ _ _ _ (.code (cond _ _ _) :: _) _ _; first | refine W.ct ?_ | refine W.cf ?_) | (show W _ _ _ _ _ _ (.ins (cond _ _ _ :: _) :: _) _ _; first | refine W.gt ?_ | refine W.gf ?_) | (show W _ _ _ _ _ _ [] _ _; refine W.of (.done ?_)) | (apply W.of; constructor <;> first | (show W _ _ _ _ _ _ _ _ _) | (intro (al : Nat) h st; show W _ _ _ _ _ _ _ _ _) | (intro _ h st; show W _ _ _ _ _ _ _ _ _) | exact Sd)))
          have st := St.vsRow (l := (List.replicate k (0 : Int)).map ikey) (e := 3) (n := k) st Tk (by simp)
          exact W.sub Sbs (mk_tail (by omega) (by omega) (by rw [e0, Int.toNat_natCast]) hpo (by omega) (st.sel Sels))
end Go.Proofs.Ytjdemlagmamlbaa

namespace Go.Proofs.Ytjdemlagmamlbaa
theorem exp_get : ∀ {l : List RunV} {o n : Int}, Chain o l n → ∀ {r : RunV} {j : Nat}, r ∈ l → r.lo ≤ o + j → o + j < r.hi → (expand l)[j]? = some r.n
  | [], _, _, _, r, _, hr, _, _ => by simp at hr
  | x :: l, o, n, h, r, j, hr, h1, h2 => by
    obtain ⟨c1, c2, c3⟩ := h
    rw [expand_cons]
    by_cases hj : o + j < x.hi
    · have hrx : r = x := by
        rcases List.mem_cons.1 hr with hr | hr
        · exact hr
        · have := c3.mem r hr; omega
      subst hrx
      rw [List.getElem?_append_left (by rw [runX_len]; omega)]
      simp only [runX]
      rw [List.getElem?_replicate, if_pos (by omega)]
    · have hr : r ∈ l := by
        rcases List.mem_cons.1 hr with rfl | hr
        · omega
        · exact hr
      rw [List.getElem?_append_right (by rw [runX_len]; omega), runX_len]
      exact exp_get c3 hr (by omega) (by omega)
theorem exp_of : ∀ {l : List RunV} {o n : Int}, Chain o l n → ∀ {j : Nat} {c : Int}, (expand l)[j]? = some c → ∃ r, r ∈ l ∧ r.lo ≤ o + j ∧ o + j < r.hi ∧ r.n = c
  | [], _, _, _, j, c, hj => by simp [expand] at hj
  | x :: l, o, n, h, j, c, hj => by
    obtain ⟨c1, c2, c3⟩ := h
    rw [expand_cons] at hj
    by_cases h2 : o + j < x.hi
    · rw [List.getElem?_append_left (by rw [runX_len]; omega)] at hj
      simp only [runX] at hj
      rw [List.getElem?_replicate, if_pos (by omega)] at hj
      cases hj
      exact ⟨x, List.mem_cons_self, by omega, h2, rfl⟩
    · rw [List.getElem?_append_right (by rw [runX_len]; omega), runX_len] at hj
      obtain ⟨r, h1, h3, h4, h5⟩ := exp_of c3 hj
      exact ⟨r, List.mem_cons_of_mem _ h1, by omega, by omega, h5⟩
/-- a run that has nothing, and is in the way -/
def badH (lo hi : Int) (r : RunV) : Prop := r.n = 0 ∧ r.lo < hi ∧ lo < r.hi
theorem badH_iff {l : List RunV} {n lo hi : Int} (hk : COk l n) (h0 : 0 ≤ lo) (h1 : lo < hi) (h2 : hi ≤ n) : (∀ r, r ∈ l → ¬ badH lo hi r) ↔ ∀ c, c ∈ slc (expand l) lo hi → c ≠ 0 := by
  have hlen := hk.chain.length
  constructor
  · intro hb c hc hc0
    obtain ⟨j, g1, g2, g3⟩ := mem_slc h0 (by omega) (by omega) hc
    obtain ⟨r, q1, q2, q3, q4⟩ := exp_of hk.chain g3
    exact hb r q1 ⟨by omega, by omega, by omega⟩
  · intro hc r hr ⟨b1, b2, b3⟩
    have hm := hk.chain.mem r hr
    obtain ⟨j, hj, hj1, hj2, hj3⟩ : ∃ j : Nat, r.lo ≤ j ∧ (j : Int) < r.hi ∧ lo ≤ j ∧ (j : Int) < hi := ⟨(max lo r.lo).toNat, by omega, by omega, by omega, by omega⟩
    have hg := exp_get hk.chain hr (j := j) (by omega) (by omega)
    refine hc r.n ?_ b1
    have : (slc (expand l) lo hi)[j - lo.toNat]? = some r.n := by rw [slc_get h0 (by omega), show lo.toNat + (j - lo.toNat) = j by omega]; exact hg
    exact List.mem_of_getElem? this
structure HoldOk (a : AmV) (lo hi : Int) : Prop where
  l0 : 0 ≤ lo
  lt : lo < hi
  h0 : hi ≤ a.cs.length
  nz : ∀ c, c ∈ slc a.cs lo hi → c ≠ 0
  add : AddOk a.cs lo hi 1
def holdA (a : AmV) (lo hi : Int) : AmV := { a with cs := addL 0 a.cs lo hi 1 }
variable {P most : Nat} {zs : List (Option AmV)} {a : AmV}
abbrev holdPost (P most : Nat) (zs : List (Option AmV)) (id lo hi : Int) (v : AV) (Rs : List Chunk) : Prop :=
  (atZ zs id = none ∧ v = .int .i64 7 ∧ Rs = [PoC P most zs]) ∨
  ∃ a, atZ zs id = some a ∧ ((HoldOk a lo hi ∧ v = .int .i64 0 ∧ Rs = [PoC P most (zs.set (id - 1).toNat (some (holdA a lo hi)))]) ∨ (¬ HoldOk a lo hi ∧ v = .int .i64 2 ∧ Rs = [PoC P most zs]))
abbrev hoE (O : Nat) (lo hi : Int) (v : AV) (n i : Nat) : Env := [(2, .int .i64 lo), (3, .int .i64 hi), (9, .ptr O 0), (31, v), (32, .int .i64 n), (33, .int .i64 i)]
set_option maxRecDepth 8000 in
theorem po_Hold {id lo hi : Int} : Spec R (.f n_amap_Pool_Hold) [.ptr P 0, .int .i64 id, .int .i64 lo, .int .i64 hi] [PoC P most zs] (holdPost P most zs id lo hi) := by
  refine spec_w (fun _ _ _ x => progI_call rfl rfl x) Njs rfl (fun h F st => ?_); dsimp only [List.cons_append, List.nil_append] at st
  have knj := knownV_nj (atZ zs id)
  have kok := knownV_ok (atZ zs id)
  (repeat (first | (show W _ _ _ _ _ _ (.code (cond _ _ _) :: _) _ _; first | refine W.ct ?_ | refine W.cf ?_) | (show W _ _ _ _ _ _ (.ins (cond _ _ _ :: _) :: _) _ _; first | refine W.gt ?_ | refine W.gf ?_) | (show W _ _ _ _ _ _ [] _ _; refine W.of (.done ?_)) | (apply W.of; constructor <;> first | (show W _ _ _ _ _ _ _ _ _) | (intro (al : Nat) h st; show W _ _ _ _ _ _ _ _ _) | (intro _ h st; show W _ _ _ _ _ _ _ _ _) | exact Sd))); refine W.call (hs := po_known) (w := ?_); rintro vv _ ⟨rfl, rfl⟩ h st; refine nj ?_; dsimp only [List.cons_append, List.nil_append] at st
  cases ha : atZ zs id with
  | none =>
    dsimp only [knownV]
    (repeat (first | (show W _ _ _ _ _ _ (.code (cond _ _ _) :: _) _ _; first | refine W.ct ?_ | refine W.cf ?_) | (show W _ _ _ _ _ _ (.ins (cond _ _ _ :: _) :: _) _ _; first | refine W.gt ?_ | refine W.gf ?_) | (show W _ _ _ _ _ _ [] _ _; refine W.of (.done ?_)) | (apply W.of; constructor <;> first | (show W _ _ _ _ _ _ _ _ _) | (intro (al : Nat) h st; show W _ _ _ _ _ _ _ _ _) | (intro _ h st; show W _ _ _ _ _ _ _ _ _) | exact Sd)))
    exact ⟨_, rfl, _, .inl ⟨ha, rfl, rfl⟩, st⟩
  | some a =>
    dsimp only [knownV]
    obtain ⟨hi1, hi2, hz⟩ := atZ_some ha
    have st := st.poOut Tk hz
    have hok := st.am Tk
    have hlen := hok.len
    have hn1 := hok.n1
    have hn4 := hok.n4
    (repeat (first | (show W _ _ _ _ _ _ (.code (cond _ _ _) :: _) _ _; first | refine W.ct ?_ | refine W.cf ?_) | (show W _ _ _ _ _ _ (.ins (cond _ _ _ :: _) :: _) _ _; first | refine W.gt ?_ | refine W.gf ?_) | (show W _ _ _ _ _ _ [] _ _; refine W.of (.done ?_)) | (apply W.of; constructor <;> first | (show W _ _ _ _ _ _ _ _ _) | (intro (al : Nat) h st; show W _ _ _ _ _ _ _ _ _) | (intro _ h st; show W _ _ _ _ _ _ _ _ _) | exact Sd))); refine W.call (hs := (am_within (a := a))) (w := ?_); rintro vv _ ⟨rfl, rfl⟩ h st; refine nj ?_; dsimp only [List.cons_append, List.nil_append] at st
    by_cases hw : 0 ≤ lo ∧ lo < hi ∧ hi ≤ a.an.length
    · rw [decide_eq_true hw]
      obtain ⟨_, ⟨D, v, l, rfl, he, _⟩, st⟩ := St.unpack st; dsimp only [List.cons_append, List.nil_append] at st
      have hk := st.cnt (D := D) (l := l) Tk
      have hll := hk.len
      (repeat (first | (show W _ _ _ _ _ _ (.code (cond _ _ _) :: _) _ _; first | refine W.ct ?_ | refine W.cf ?_) | (show W _ _ _ _ _ _ (.ins (cond _ _ _ :: _) :: _) _ _; first | refine W.gt ?_ | refine W.gf ?_) | (show W _ _ _ _ _ _ [] _ _; refine W.of (.done ?_)) | (apply W.of; constructor <;> first | (show W _ _ _ _ _ _ _ _ _) | (intro (al : Nat) h st; show W _ _ _ _ _ _ _ _ _) | (intro _ h st; show W _ _ _ _ _ _ _ _ _) | exact Sd))); refine W.call (hs := (cnt_Runs (D := D) (l := l))) (w := ?_); rintro vv _ ⟨rj, rl, rfl⟩ h st; refine nj ?_; dsimp only [List.cons_append, List.nil_append] at st
      obtain ⟨r1, rfl⟩ : ∃ y, y = vv := ⟨_, rfl⟩
      (repeat (first | (show W _ _ _ _ _ _ (.code (cond _ _ _) :: _) _ _; first | refine W.ct ?_ | refine W.cf ?_) | (show W _ _ _ _ _ _ (.ins (cond _ _ _ :: _) :: _) _ _; first | refine W.gt ?_ | refine W.gf ?_) | (show W _ _ _ _ _ _ [] _ _; refine W.of (.done ?_)) | (apply W.of; constructor <;> first | (show W _ _ _ _ _ _ _ _ _) | (intro (al : Nat) h st; show W _ _ _ _ _ _ _ _ _) | (intro _ h st; show W _ _ _ _ _ _ _ _ _) | exact Sd)))
      refine W.loop (fun i : Nat => hoE a.O lo hi r1 l.length i) (fun _ => RunsC r1 l :: .pt a.O (oneRow D v) :: CntC D l a.cs.length :: VsC v 3 (a.an.map ikey) true :: PoXC P most zs (id - 1).toNat :: F)
        (fun i => i ≤ l.length ∧ ∀ r, r ∈ l.take i → ¬ badH lo hi r) (fun i => l.length - i) 0 (small_rounds (by omega)) Sbs (st.sel Sels) ⟨Nat.zero_le _, fun r hr => by simp at hr⟩ ?_
      clear st
      intro i h ⟨hi', hall⟩ st
      have hiff := badH_iff hk hw.1 hw.2.1 (by omega)
      rw [he] at hiff
      by_cases hlt : i < l.length
      · obtain ⟨r, hr⟩ : ∃ r, l[i]? = some r := ⟨l[i], by simp [hlt]⟩
        obtain ⟨gp, gq⟩ := d_rwIdx (v := r1) (l := l) (i := i) (kk := .i64) st Tk hlt
        (repeat (first | (show W _ _ _ _ _ _ (.code (cond _ _ _) :: _) _ _; first | refine W.ct ?_ | refine W.cf ?_) | (show W _ _ _ _ _ _ (.ins (cond _ _ _ :: _) :: _) _ _; first | refine W.gt ?_ | refine W.gf ?_) | (show W _ _ _ _ _ _ [] _ _; refine W.of (.done ?_)) | (apply W.of; constructor <;> first | (show W _ _ _ _ _ _ _ _ _) | (intro (al : Nat) h st; show W _ _ _ _ _ _ _ _ _) | (intro _ h st; show W _ _ _ _ _ _ _ _ _) | exact Sd))); refine W.do (ho := gp) (w := ?_)
        (repeat (first | (show W _ _ _ _ _ _ (.code (cond _ _ _) :: _) _ _; first | refine W.ct ?_ | refine W.cf ?_) | (show W _ _ _ _ _ _ (.ins (cond _ _ _ :: _) :: _) _ _; first | refine W.gt ?_ | refine W.gf ?_) | (show W _ _ _ _ _ _ [] _ _; refine W.of (.done ?_)) | (apply W.of; constructor <;> first | (show W _ _ _ _ _ _ _ _ _) | (intro (al : Nat) h st; show W _ _ _ _ _ _ _ _ _) | (intro _ h st; show W _ _ _ _ _ _ _ _ _) | exact Sd))); refine W.do (ho := (d_rwLoad (v := r1) (l := l) runCL st Tk hr)) (w := ?_)
        have hback : ∀ {h : AHeap}, St h (RunsC r1 l :: .pt a.O (oneRow D v) :: CntC D l a.cs.length :: VsC v 3 (a.an.map ikey) true :: PoXC P most zs (id - 1).toNat :: F) → St h (PoC P most zs :: F) := fun st => by
          have st := St.packP (t := 40) (k := .ptr a.O 0) (P := AmIs a) (cs := [.pt a.O (oneRow D v), CntC D l a.cs.length, VsC v 3 (a.an.map ikey) true]) st ⟨D, v, l, rfl, he, hok⟩ Pks
          have st := st.poBack hz Tk Tk
          exact st.sel Sels
        by_cases b1 : r.n = 0
        · by_cases b2 : r.lo < hi
          · by_cases b3 : lo < r.hi
            · (repeat (first | (show W _ _ _ _ _ _ (.code (cond _ _ _) :: _) _ _; first | refine W.ct ?_ | refine W.cf ?_) | (show W _ _ _ _ _ _ (.ins (cond _ _ _ :: _) :: _) _ _; first | refine W.gt ?_ | refine W.gf ?_) | (show W _ _ _ _ _ _ [] _ _; refine W.of (.done ?_)) | (apply W.of; constructor <;> first | (show W _ _ _ _ _ _ _ _ _) | (intro (al : Nat) h st; show W _ _ _ _ _ _ _ _ _) | (intro _ h st; show W _ _ _ _ _ _ _ _ _) | exact Sd)))
              exact ⟨_, rfl, _, .inr ⟨a, ha, .inr ⟨fun hh => hiff.2 hh.nz r (List.mem_of_getElem? hr) ⟨b1, b2, b3⟩, rfl, rfl⟩⟩, hback (st.sel Sels)⟩
            · (repeat (first | (show W _ _ _ _ _ _ (.code (cond _ _ _) :: _) _ _; first | refine W.ct ?_ | refine W.cf ?_) | (show W _ _ _ _ _ _ (.ins (cond _ _ _ :: _) :: _) _ _; first | refine W.gt ?_ | refine W.gf ?_) | (show W _ _ _ _ _ _ [] _ _; refine W.of (.done ?_)) | (apply W.of; constructor <;> first | (show W _ _ _ _ _ _ _ _ _) | (intro (al : Nat) h st; show W _ _ _ _ _ _ _ _ _) | (intro _ h st; show W _ _ _ _ _ _ _ _ _) | exact Sd)))
              refine W.of (.lp ?_)
              refine ⟨i + 1, by omega, ⟨hlt, fun x hx => ?_⟩, Sbs, st.sel Sels⟩
              rw [take_snoc1 hr] at hx
              rcases List.mem_append.1 hx with hx | hx
              · exact hall x hx
              · rw [List.mem_singleton.1 hx]; exact fun hb => b3 hb.2.2
          · (repeat (first | (show W _ _ _ _ _ _ (.code (cond _ _ _) :: _) _ _; first | refine W.ct ?_ | refine W.cf ?_) | (show W _ _ _ _ _ _ (.ins (cond _ _ _ :: _) :: _) _ _; first | refine W.gt ?_ | refine W.gf ?_) | (show W _ _ _ _ _ _ [] _ _; refine W.of (.done ?_)) | (apply W.of; constructor <;> first | (show W _ _ _ _ _ _ _ _ _) | (intro (al : Nat) h st; show W _ _ _ _ _ _ _ _ _) | (intro _ h st; show W _ _ _ _ _ _ _ _ _) | exact Sd)))
            refine W.of (.lp ?_)
            refine ⟨i + 1, by omega, ⟨hlt, fun x hx => ?_⟩, Sbs, st.sel Sels⟩
            rw [take_snoc1 hr] at hx
            rcases List.mem_append.1 hx with hx | hx
            · exact hall x hx
            · rw [List.mem_singleton.1 hx]; exact fun hb => b2 hb.2.1
        · (repeat (first | (show W _ _ _ _ _ _ (.code (cond _ _ _) :: _) _ _; first | refine W.ct ?_ | refine W.cf ?_) | (show W _ _ _ _ _ _ (.ins (cond _ _ _ :: _) :: _) _ _; first | refine W.gt ?_ | refine W.gf ?_) | (show W _ _ _ _ _ _ [] _ _; refine W.of (.done ?_)) | (apply W.of; constructor <;> first | (show W _ _ _ _ _ _ _ _ _) | (intro (al : Nat) h st; show W _ _ _ _ _ _ _ _ _) | (intro _ h st; show W _ _ _ _ _ _ _ _ _) | exact Sd)))
          refine W.of (.lp ?_)
          refine ⟨i + 1, by omega, ⟨hlt, fun x hx => ?_⟩, Sbs, st.sel Sels⟩
          rw [take_snoc1 hr] at hx
          rcases List.mem_append.1 hx with hx | hx
          · exact hall x hx
          · rw [List.mem_singleton.1 hx]; exact fun hb => b1 hb.1
      · have e : i = l.length := by omega
        subst e
        rw [List.take_length] at hall
        have hnz := hiff.1 hall
        (repeat (first | (show W _ _ _ _ _ _ (.code (cond _ _ _) :: _) _ _; first | refine W.ct ?_ | refine W.cf ?_) | (show W _ _ _ _ _ _ (.ins (cond _ _ _ :: _) :: _) _ _; first | refine W.gt ?_ | refine W.gf ?_) | (show W _ _ _ _ _ _ [] _ _; refine W.of (.done ?_)) | (apply W.of; constructor <;> first | (show W _ _ _ _ _ _ _ _ _) | (intro (al : Nat) h st; show W _ _ _ _ _ _ _ _ _) | (intro _ h st; show W _ _ _ _ _ _ _ _ _) | exact Sd))); refine W.call (hs := (cnt_Add (D := D) (l := l) (n := a.cs.length) (lo := lo) (hi := hi) (by' := 1))) (w := ?_); rintro vv _ (⟨ho, gv, l1, rfl, gj, gl, e1, rfl⟩ | ⟨ho, rfl, rfl⟩) h st; refine nj ?_; dsimp only [List.cons_append, List.nil_append] at st
        · (repeat (first | (show W _ _ _ _ _ _ (.code (cond _ _ _) :: _) _ _; first | refine W.ct ?_ | refine W.cf ?_) | (show W _ _ _ _ _ _ (.ins (cond _ _ _ :: _) :: _) _ _; first | refine W.gt ?_ | refine W.gf ?_) | (show W _ _ _ _ _ _ [] _ _; refine W.of (.done ?_)) | (apply W.of; constructor <;> first | (show W _ _ _ _ _ _ _ _ _) | (intro (al : Nat) h st; show W _ _ _ _ _ _ _ _ _) | (intro _ h st; show W _ _ _ _ _ _ _ _ _) | exact Sd)))
          rw [he] at ho e1
          have st := St.packP (t := 40) (k := .ptr a.O 0) (P := AmIs (holdA a lo hi)) (cs := [.pt a.O (oneRow D v), CntC D l1 a.cs.length, VsC v 3 (a.an.map ikey) true]) st ⟨D, v, l1, by simp [holdA, addL_length], e1, by simp [holdA, addL_length, hlen], by simpa [holdA, addL_length] using hn1, by simpa [holdA, addL_length] using hn4, hok.pos⟩ Pks
          have st := st.poIn (a := a) (b := holdA a lo hi) rfl hz Tk Tk
          exact ⟨_, rfl, _, .inr ⟨a, ha, .inl ⟨⟨hw.1, hw.2.1, by omega, hnz, ho⟩, rfl, rfl⟩⟩, st.sel Sels⟩
        · refine nj ?_
          dsimp only [List.cons_append, List.nil_append] at st
          (repeat (first | (show W _ _ _ _ _ _ (.code (cond _ _ _) :: _) _ _; first | refine W.ct ?_ | refine W.cf ?_) | (show W _ _ _ _ _ _ (.ins (cond _ _ _ :: _) :: _) _ _; first | refine W.gt ?_ | refine W.gf ?_) | (show W _ _ _ _ _ _ [] _ _; refine W.of (.done ?_)) | (apply W.of; constructor <;> first | (show W _ _ _ _ _ _ _ _ _) | (intro (al : Nat) h st; show W _ _ _ _ _ _ _ _ _) | (intro _ h st; show W _ _ _ _ _ _ _ _ _) | exact Sd)))
          rw [he] at ho
          have st := St.packP (t := 40) (k := .ptr a.O 0) (P := AmIs a) (cs := [.pt a.O (oneRow D v), CntC D l a.cs.length, VsC v 3 (a.an.map ikey) true]) st ⟨D, v, l, rfl, he, hok⟩ Pks
          have st := st.poBack hz Tk Tk
          exact ⟨_, rfl, _, .inr ⟨a, ha, .inr ⟨fun hh => ho hh.add, rfl, rfl⟩⟩, st.sel Sels⟩
    · rw [decide_eq_false hw]
      (repeat (first | (show W _ _ _ _ _ _ (.code (cond _ _ _) :: _) _ _; first | refine W.ct ?_ | refine W.cf ?_) | (show W _ _ _ _ _ _ (.ins (cond _ _ _ :: _) :: _) _ _; first | refine W.gt ?_ | refine W.gf ?_) | (show W _ _ _ _ _ _ [] _ _; refine W.of (.done ?_)) | (apply W.of; constructor <;> first | (show W _ _ _ _ _ _ _ _ _) | (intro (al : Nat) h st; show W _ _ _ _ _ _ _ _ _) | (intro _ h st; show W _ _ _ _ _ _ _ _ _) | exact Sd)))
      have st := st.poBack hz Tk Tk
      exact ⟨_, rfl, _, .inr ⟨a, ha, .inr ⟨fun hh => hw ⟨hh.l0, hh.lt, by have := hh.h0; omega⟩, rfl, rfl⟩⟩, st⟩
end Go.Proofs.Ytjdemlagmamlbaa

namespace Go.Proofs.Ytjdemlagmamlbaa
theorem goneP_mem {by' : Int} : ∀ {cs : List Int} {o i : Int}, i ∈ goneP o cs by' → o ≤ i ∧ i < o + cs.length
  | [], o, i, h => by simp [goneP] at h
  | c :: cs, o, i, h => by
    simp only [goneP] at h
    simp only [List.length_cons]
    split at h
    · rcases List.mem_cons.1 h with h | h
      · omega
      · have := goneP_mem h; omega
    · have := goneP_mem h; omega
/-- what is in slots that are gone, and what is left in them -/
def outG : List Int → List Int → List Int
  | _, [] => []
  | an, i :: g => (if (an[i.toNat]?).getD 0 > 0 then [(an[i.toNat]?).getD 0] else []) ++ outG (an.set i.toNat 0) g
def anG (an g : List Int) : List Int := g.foldl (fun an i => an.set i.toNat 0) an
theorem anG_snoc {an g : List Int} {i : Int} : anG an (g ++ [i]) = (anG an g).set i.toNat 0 := by simp [anG, List.foldl_append]
theorem anG_len : ∀ {g an : List Int}, (anG an g).length = an.length
  | [], an => rfl
  | i :: g, an => by
    have := anG_len (g := g) (an := an.set i.toNat 0)
    simp only [anG, List.foldl_cons] at this ⊢
    rw [this, List.length_set]
theorem outG_snoc {i : Int} : ∀ {g an : List Int}, outG an (g ++ [i]) = outG an g ++ if ((anG an g)[i.toNat]?).getD 0 > 0 then [((anG an g)[i.toNat]?).getD 0] else []
  | [], an => by simp [outG, anG]
  | j :: g, an => by
    rw [List.cons_append, outG, outG_snoc, outG, List.append_assoc]; rfl
theorem outG_len : ∀ {g an : List Int}, (outG an g).length ≤ g.length
  | [], an => by simp [outG]
  | i :: g, an => by
    have := outG_len (g := g) (an := an.set i.toNat 0)
    simp only [outG, List.length_append, List.length_cons]
    split <;> simp <;> omega
theorem anG_pos : ∀ {g an : List Int}, (∀ x, x ∈ an → 0 ≤ x) → ∀ x, x ∈ anG an g → 0 ≤ x
  | [], an, h => h
  | i :: g, an, h => by
    show ∀ x, x ∈ anG (an.set i.toNat 0) g → 0 ≤ x
    refine anG_pos fun x hx => ?_
    rcases List.mem_or_eq_of_mem_set hx with hx | hx
    · exact h x hx
    · omega
structure DropOk (a : AmV) (lo hi : Int) : Prop where
  l0 : 0 ≤ lo
  lt : lo < hi
  h0 : hi ≤ a.cs.length
  add : AddOk a.cs lo hi (-1)
def goneA (a : AmV) (lo hi : Int) : List Int := goneP lo (slc a.cs lo hi) (-1)
def dropA (a : AmV) (lo hi : Int) : AmV := ⟨a.O, addL 0 a.cs lo hi (-1), anG a.an (goneA a lo hi)⟩
def dropZ (zs : List (Option AmV)) (i : Nat) (a : AmV) (lo hi : Int) : List (Option AmV) := zs.set i (if (addL 0 a.cs lo hi (-1)).sum = 0 then none else some (dropA a lo hi))
variable {P most : Nat} {zs : List (Option AmV)} {a : AmV}
theorem cntZ_setNone : ∀ {zs : List (Option AmV)} {i : Nat}, zs[i]? = some (some a) → cntZ (zs.set i none) + 1 = cntZ zs
  | [], i, h => by simp at h
  | z :: zs, 0, h => by simp at h; subst h; simp [cntZ]
  | z :: zs, i + 1, h => by
    simp only [List.getElem?_cons_succ] at h
    have := cntZ_setNone h
    simp only [cntZ, List.set_cons_succ, List.filter_cons] at this ⊢
    split
    · simp only [List.length_cons]; omega
    · exact this
abbrev dropPost (P most : Nat) (zs : List (Option AmV)) (id lo hi : Int) (v : AV) (Rs : List Chunk) : Prop :=
  (atZ zs id = none ∧ v = .tuple [.nilsl, .int .i64 7] ∧ Rs = [PoC P most zs]) ∨
  ∃ a, atZ zs id = some a ∧ ((DropOk a lo hi ∧ ∃ ov, v = .tuple [ov, .int .i64 0] ∧ ov.notJunk = some ov ∧ sliceLen ov = some (outG a.an (goneA a lo hi)).length ∧ Rs = [VsC ov 3 ((outG a.an (goneA a lo hi)).map ikey) true, PoC P most (dropZ zs (id - 1).toNat a lo hi)]) ∨
    (¬ DropOk a lo hi ∧ v = .tuple [.nilsl, .int .i64 2] ∧ Rs = [PoC P most zs]))
structure DrS where
  i : Nat
  ov : AV
abbrev drE (P O : Nat) (id : Int) (gv : AV) (n : Nat) (ov : AV) (i : Nat) : Env := [(0, .ptr P 0), (1, .int .i64 id), (10, .ptr O 0), (13, ov), (43, gv), (44, .int .i64 n), (45, .int .i64 i)]
set_option maxRecDepth 8000 in
theorem po_Drop {id lo hi : Int} : Spec R (.f n_amap_Pool_Drop) [.ptr P 0, .int .i64 id, .int .i64 lo, .int .i64 hi] [PoC P most zs] (dropPost P most zs id lo hi) := by
  refine spec_w (fun _ _ _ x => progI_call rfl rfl x) Njs rfl (fun h F st => ?_); dsimp only [List.cons_append, List.nil_append] at st
  have knj := knownV_nj (atZ zs id)
  have kok := knownV_ok (atZ zs id)
  (repeat (first | (show W _ _ _ _ _ _ (.code (cond _ _ _) :: _) _ _; first | refine W.ct ?_ | refine W.cf ?_) | (show W _ _ _ _ _ _ (.ins (cond _ _ _ :: _) :: _) _ _; first | refine W.gt ?_ | refine W.gf ?_) | (show W _ _ _ _ _ _ [] _ _; refine W.of (.done ?_)) | (apply W.of; constructor <;> first | (show W _ _ _ _ _ _ _ _ _) | (intro (al : Nat) h st; show W _ _ _ _ _ _ _ _ _) | (intro _ h st; show W _ _ _ _ _ _ _ _ _) | exact Sd))); refine W.call (hs := po_known) (w := ?_); rintro vv _ ⟨rfl, rfl⟩ h st; refine nj ?_; dsimp only [List.cons_append, List.nil_append] at st
  cases ha : atZ zs id with
  | none =>
    dsimp only [knownV]
    (repeat (first | (show W _ _ _ _ _ _ (.code (cond _ _ _) :: _) _ _; first | refine W.ct ?_ | refine W.cf ?_) | (show W _ _ _ _ _ _ (.ins (cond _ _ _ :: _) :: _) _ _; first | refine W.gt ?_ | refine W.gf ?_) | (show W _ _ _ _ _ _ [] _ _; refine W.of (.done ?_)) | (apply W.of; constructor <;> first | (show W _ _ _ _ _ _ _ _ _) | (intro (al : Nat) h st; show W _ _ _ _ _ _ _ _ _) | (intro _ h st; show W _ _ _ _ _ _ _ _ _) | exact Sd)))
    exact ⟨_, rfl, _, .inl ⟨ha, rfl, rfl⟩, st⟩
  | some a =>
    dsimp only [knownV]
    obtain ⟨hi1, hi2, hz⟩ := atZ_some ha
    have st := st.poOut Tk hz
    have hok := st.am Tk
    have hlen := hok.len
    have hn1 := hok.n1
    have hn4 := hok.n4
    (repeat (first | (show W _ _ _ _ _ _ (.code (cond _ _ _) :: _) _ _; first | refine W.ct ?_ | refine W.cf ?_) | (show W _ _ _ _ _ _ (.ins (cond _ _ _ :: _) :: _) _ _; first | refine W.gt ?_ | refine W.gf ?_) | (show W _ _ _ _ _ _ [] _ _; refine W.of (.done ?_)) | (apply W.of; constructor <;> first | (show W _ _ _ _ _ _ _ _ _) | (intro (al : Nat) h st; show W _ _ _ _ _ _ _ _ _) | (intro _ h st; show W _ _ _ _ _ _ _ _ _) | exact Sd))); refine W.call (hs := (am_within (a := a))) (w := ?_); rintro vv _ ⟨rfl, rfl⟩ h st; refine nj ?_; dsimp only [List.cons_append, List.nil_append] at st
    by_cases hw : 0 ≤ lo ∧ lo < hi ∧ hi ≤ a.an.length
    · rw [decide_eq_true hw]
      obtain ⟨_, ⟨D, v, l, rfl, he, _⟩, st⟩ := St.unpack st; dsimp only [List.cons_append, List.nil_append] at st
      (repeat (first | (show W _ _ _ _ _ _ (.code (cond _ _ _) :: _) _ _; first | refine W.ct ?_ | refine W.cf ?_) | (show W _ _ _ _ _ _ (.ins (cond _ _ _ :: _) :: _) _ _; first | refine W.gt ?_ | refine W.gf ?_) | (show W _ _ _ _ _ _ [] _ _; refine W.of (.done ?_)) | (apply W.of; constructor <;> first | (show W _ _ _ _ _ _ _ _ _) | (intro (al : Nat) h st; show W _ _ _ _ _ _ _ _ _) | (intro _ h st; show W _ _ _ _ _ _ _ _ _) | exact Sd))); refine W.call (hs := (cnt_Add (D := D) (l := l) (n := a.cs.length) (lo := lo) (hi := hi) (by' := -1))) (w := ?_); rintro vv _ (⟨ho, gv, l1, rfl, gj, gl, e1, rfl⟩ | ⟨ho, rfl, rfl⟩) h st; refine nj ?_; dsimp only [List.cons_append, List.nil_append] at st
      · rw [he] at ho e1 gl st
        obtain ⟨g, hg⟩ : ∃ g, g = goneA a lo hi := ⟨_, rfl⟩
        have hg' : goneP lo (slc a.cs lo hi) (-1) = g := hg.symm
        rw [hg'] at gl st
        have hsl := slc_len (cs := a.cs) (lo := lo) (hi := hi) (by omega) (by omega) (by omega)
        have hgm : ∀ i, i ∈ g → lo ≤ i ∧ i < hi := fun i hi' => by
          rw [hg, goneA] at hi'
          have := goneP_mem hi'
          omega
        have hgl : g.length ≤ 4096 := by
          rw [hg]; exact Nat.le_trans goneP_len (by omega)
        (repeat (first | (show W _ _ _ _ _ _ (.code (cond _ _ _) :: _) _ _; first | refine W.ct ?_ | refine W.cf ?_) | (show W _ _ _ _ _ _ (.ins (cond _ _ _ :: _) :: _) _ _; first | refine W.gt ?_ | refine W.gf ?_) | (show W _ _ _ _ _ _ [] _ _; refine W.of (.done ?_)) | (apply W.of; constructor <;> first | (show W _ _ _ _ _ _ _ _ _) | (intro (al : Nat) h st; show W _ _ _ _ _ _ _ _ _) | (intro _ h st; show W _ _ _ _ _ _ _ _ _) | exact Sd)))
        refine W.loop (fun y : DrS => drE P a.O id gv g.length y.ov y.i) (fun y => VsC y.ov 3 ((outG a.an (g.take y.i)).map ikey) true :: VsC v 3 ((anG a.an (g.take y.i)).map ikey) true :: VsC gv 3 (g.map ikey) true :: .pt a.O (oneRow D v) :: CntC D l1 a.cs.length :: PoXC P most zs (id - 1).toNat :: F)
          (fun y => y.i ≤ g.length) (fun y => g.length - y.i) ⟨0, .nilsl⟩ (small_rounds (by simp only; omega)) Sbs ?_ (Nat.zero_le _) ?_
        · have st := st.vsNil 3 true
          exact st.sel Sels
        clear st
        intro ⟨i, ov⟩ h hi' st
        dsimp only at hi' st ⊢
        obtain ⟨ol, oj, oo⟩ := St.ivs (v := ov) (cs := outG a.an (g.take i)) st Tk
        obtain ⟨vl, vj, vs⟩ := St.ivs (v := v) (cs := anG a.an (g.take i)) st Tk
        have hol : (outG a.an (g.take i)).length ≤ 4096 := Nat.le_trans outG_len (by rw [List.length_take]; omega)
        by_cases hlt : i < g.length
        · obtain ⟨j, hj⟩ : ∃ j, g[i]? = some j := ⟨g[i], by simp [hlt]⟩
          obtain ⟨jj, rfl⟩ : ∃ jj : Nat, j = (jj : Int) := ⟨j.toNat, by have := hgm j (List.mem_of_getElem? hj); omega⟩
          have hjr := hgm _ (List.mem_of_getElem? hj)
          have hal : (anG a.an (g.take i)).length = a.an.length := anG_len
          obtain ⟨x, hx⟩ : ∃ x, (anG a.an (g.take i))[jj]? = some x := ⟨(anG a.an (g.take i))[jj]'(by omega), by simp⟩
          obtain ⟨gp, gq⟩ := d_vsIdx (v := gv) (l := g.map ikey) (i := i) (kk := .i64) st Tk (by rw [List.length_map]; omega)
          obtain ⟨fp, fq⟩ := d_vsIdx (v := v) (l := (anG a.an (g.take i)).map ikey) (i := jj) (kk := .i64) st Tk (by rw [List.length_map]; omega)
          have hld := d_vsLoad (v := v) (l := (anG a.an (g.take i)).map ikey) (x := ikey x) st Tk (by rw [List.getElem?_map, hx]; rfl)
          have es : outG a.an (g.take (i + 1)) = outG a.an (g.take i) ++ if x > 0 then [x] else [] := by
            rw [take_snoc1 hj, outG_snoc, Int.toNat_natCast, hx]; rfl
          have ea : anG a.an (g.take (i + 1)) = (anG a.an (g.take i)).set jj 0 := by
            rw [take_snoc1 hj, anG_snoc, Int.toNat_natCast]
          (repeat (first | (show W _ _ _ _ _ _ (.code (cond _ _ _) :: _) _ _; first | refine W.ct ?_ | refine W.cf ?_) | (show W _ _ _ _ _ _ (.ins (cond _ _ _ :: _) :: _) _ _; first | refine W.gt ?_ | refine W.gf ?_) | (show W _ _ _ _ _ _ [] _ _; refine W.of (.done ?_)) | (apply W.of; constructor <;> first | (show W _ _ _ _ _ _ _ _ _) | (intro (al : Nat) h st; show W _ _ _ _ _ _ _ _ _) | (intro _ h st; show W _ _ _ _ _ _ _ _ _) | exact Sd))); refine W.do (ho := gp) (w := ?_)
          (repeat (first | (show W _ _ _ _ _ _ (.code (cond _ _ _) :: _) _ _; first | refine W.ct ?_ | refine W.cf ?_) | (show W _ _ _ _ _ _ (.ins (cond _ _ _ :: _) :: _) _ _; first | refine W.gt ?_ | refine W.gf ?_) | (show W _ _ _ _ _ _ [] _ _; refine W.of (.done ?_)) | (apply W.of; constructor <;> first | (show W _ _ _ _ _ _ _ _ _) | (intro (al : Nat) h st; show W _ _ _ _ _ _ _ _ _) | (intro _ h st; show W _ _ _ _ _ _ _ _ _) | exact Sd))); refine W.do (ho := (d_vsLoad (v := gv) (l := g.map ikey) (x := ikey (jj : Int)) st Tk (by rw [List.getElem?_map, hj]; rfl))) (w := ?_)
          (repeat (first | (show W _ _ _ _ _ _ (.code (cond _ _ _) :: _) _ _; first | refine W.ct ?_ | refine W.cf ?_) | (show W _ _ _ _ _ _ (.ins (cond _ _ _ :: _) :: _) _ _; first | refine W.gt ?_ | refine W.gf ?_) | (show W _ _ _ _ _ _ [] _ _; refine W.of (.done ?_)) | (apply W.of; constructor <;> first | (show W _ _ _ _ _ _ _ _ _) | (intro (al : Nat) h st; show W _ _ _ _ _ _ _ _ _) | (intro _ h st; show W _ _ _ _ _ _ _ _ _) | exact Sd))); refine W.do (ho := fp) (w := ?_)
          (repeat (first | (show W _ _ _ _ _ _ (.code (cond _ _ _) :: _) _ _; first | refine W.ct ?_ | refine W.cf ?_) | (show W _ _ _ _ _ _ (.ins (cond _ _ _ :: _) :: _) _ _; first | refine W.gt ?_ | refine W.gf ?_) | (show W _ _ _ _ _ _ [] _ _; refine W.of (.done ?_)) | (apply W.of; constructor <;> first | (show W _ _ _ _ _ _ _ _ _) | (intro (al : Nat) h st; show W _ _ _ _ _ _ _ _ _) | (intro _ h st; show W _ _ _ _ _ _ _ _ _) | exact Sd))); refine W.do (ho := hld) (w := ?_)
          by_cases hx0 : x > 0
          · rw [if_pos hx0] at es
            (repeat (first | (show W _ _ _ _ _ _ (.code (cond _ _ _) :: _) _ _; first | refine W.ct ?_ | refine W.cf ?_) | (show W _ _ _ _ _ _ (.ins (cond _ _ _ :: _) :: _) _ _; first | refine W.gt ?_ | refine W.gf ?_) | (show W _ _ _ _ _ _ [] _ _; refine W.of (.done ?_)) | (apply W.of; constructor <;> first | (show W _ _ _ _ _ _ _ _ _) | (intro (al : Nat) h st; show W _ _ _ _ _ _ _ _ _) | (intro _ h st; show W _ _ _ _ _ _ _ _ _) | exact Sd)))
            (repeat (first | (show W _ _ _ _ _ _ (.code (cond _ _ _) :: _) _ _; first | refine W.ct ?_ | refine W.cf ?_) | (show W _ _ _ _ _ _ (.ins (cond _ _ _ :: _) :: _) _ _; first | refine W.gt ?_ | refine W.gf ?_) | (show W _ _ _ _ _ _ [] _ _; refine W.of (.done ?_)) | (apply W.of; constructor <;> first | (show W _ _ _ _ _ _ _ _ _) | (intro (al : Nat) h st; show W _ _ _ _ _ _ _ _ _) | (intro _ h st; show W _ _ _ _ _ _ _ _ _) | exact Sd))); refine W.do (ho := fp) (w := ?_)
            (repeat (first | (show W _ _ _ _ _ _ (.code (cond _ _ _) :: _) _ _; first | refine W.ct ?_ | refine W.cf ?_) | (show W _ _ _ _ _ _ (.ins (cond _ _ _ :: _) :: _) _ _; first | refine W.gt ?_ | refine W.gf ?_) | (show W _ _ _ _ _ _ [] _ _; refine W.of (.done ?_)) | (apply W.of; constructor <;> first | (show W _ _ _ _ _ _ _ _ _) | (intro (al : Nat) h st; show W _ _ _ _ _ _ _ _ _) | (intro _ h st; show W _ _ _ _ _ _ _ _ _) | exact Sd))); refine W.do (ho := hld) (w := ?_)
            (repeat (first | (show W _ _ _ _ _ _ (.code (cond _ _ _) :: _) _ _; first | refine W.ct ?_ | refine W.cf ?_) | (show W _ _ _ _ _ _ (.ins (cond _ _ _ :: _) :: _) _ _; first | refine W.gt ?_ | refine W.gf ?_) | (show W _ _ _ _ _ _ [] _ _; refine W.of (.done ?_)) | (apply W.of; constructor <;> first | (show W _ _ _ _ _ _ _ _ _) | (intro (al : Nat) h st; show W _ _ _ _ _ _ _ _ _) | (intro _ h st; show W _ _ _ _ _ _ _ _ _) | exact Sd)))
            have st := St.vsRow (l := [.int .i64 x]) (e := 3) st Tk rfl
            (repeat (first | (show W _ _ _ _ _ _ (.code (cond _ _ _) :: _) _ _; first | refine W.ct ?_ | refine W.cf ?_) | (show W _ _ _ _ _ _ (.ins (cond _ _ _ :: _) :: _) _ _; first | refine W.gt ?_ | refine W.gf ?_) | (show W _ _ _ _ _ _ [] _ _; refine W.of (.done ?_)) | (apply W.of; constructor <;> first | (show W _ _ _ _ _ _ _ _ _) | (intro (al : Nat) h st; show W _ _ _ _ _ _ _ _ _) | (intro _ h st; show W _ _ _ _ _ _ _ _ _) | exact Sd))); refine W.ef (ho := (e_vsAppend (s := ov) (l' := [.int .i64 x]) st Tk Tk (by simp; omega) (by simp; omega))) (w := ?_); rintro vv h ⟨cj, cl, st⟩; refine nj ?_
            obtain ⟨o2, rfl⟩ : ∃ y, y = vv := ⟨_, rfl⟩
            obtain ⟨fp2, _⟩ := d_vsIdx (v := v) (l := (anG a.an (g.take i)).map ikey) (i := jj) (kk := .i64) st Tk (by rw [List.length_map]; omega)
            (repeat (first | (show W _ _ _ _ _ _ (.code (cond _ _ _) :: _) _ _; first | refine W.ct ?_ | refine W.cf ?_) | (show W _ _ _ _ _ _ (.ins (cond _ _ _ :: _) :: _) _ _; first | refine W.gt ?_ | refine W.gf ?_) | (show W _ _ _ _ _ _ [] _ _; refine W.of (.done ?_)) | (apply W.of; constructor <;> first | (show W _ _ _ _ _ _ _ _ _) | (intro (al : Nat) h st; show W _ _ _ _ _ _ _ _ _) | (intro _ h st; show W _ _ _ _ _ _ _ _ _) | exact Sd))); refine W.do (ho := fp2) (w := ?_)
            (repeat (first | (show W _ _ _ _ _ _ (.code (cond _ _ _) :: _) _ _; first | refine W.ct ?_ | refine W.cf ?_) | (show W _ _ _ _ _ _ (.ins (cond _ _ _ :: _) :: _) _ _; first | refine W.gt ?_ | refine W.gf ?_) | (show W _ _ _ _ _ _ [] _ _; refine W.of (.done ?_)) | (apply W.of; constructor <;> first | (show W _ _ _ _ _ _ _ _ _) | (intro (al : Nat) h st; show W _ _ _ _ _ _ _ _ _) | (intro _ h st; show W _ _ _ _ _ _ _ _ _) | exact Sd))); refine W.ef0 (ho := (e_vsStore (v := v) (l := (anG a.an (g.take i)).map ikey) (i := jj) st Tk (by rw [List.length_map]; omega) rfl)) (w := ?_); rintro _ h ⟨_, st⟩
            rw [← List.map_set (f := ikey), ← ea] at st
            rw [show (outG a.an (g.take i)).map ikey ++ [.int .i64 x] = (outG a.an (g.take (i + 1))).map ikey by rw [es, List.map_append]; rfl] at st
            (repeat (first | (show W _ _ _ _ _ _ (.code (cond _ _ _) :: _) _ _; first | refine W.ct ?_ | refine W.cf ?_) | (show W _ _ _ _ _ _ (.ins (cond _ _ _ :: _) :: _) _ _; first | refine W.gt ?_ | refine W.gf ?_) | (show W _ _ _ _ _ _ [] _ _; refine W.of (.done ?_)) | (apply W.of; constructor <;> first | (show W _ _ _ _ _ _ _ _ _) | (intro (al : Nat) h st; show W _ _ _ _ _ _ _ _ _) | (intro _ h st; show W _ _ _ _ _ _ _ _ _) | exact Sd)))
            refine W.of (.lp ?_)
            exact ⟨⟨i + 1, o2⟩, by simp only; omega, hlt, Sbs, st.sel Sels⟩
          · rw [if_neg hx0, List.append_nil] at es
            (repeat (first | (show W _ _ _ _ _ _ (.code (cond _ _ _) :: _) _ _; first | refine W.ct ?_ | refine W.cf ?_) | (show W _ _ _ _ _ _ (.ins (cond _ _ _ :: _) :: _) _ _; first | refine W.gt ?_ | refine W.gf ?_) | (show W _ _ _ _ _ _ [] _ _; refine W.of (.done ?_)) | (apply W.of; constructor <;> first | (show W _ _ _ _ _ _ _ _ _) | (intro (al : Nat) h st; show W _ _ _ _ _ _ _ _ _) | (intro _ h st; show W _ _ _ _ _ _ _ _ _) | exact Sd)))
            (repeat (first | (show W _ _ _ _ _ _ (.code (cond _ _ _) :: _) _ _; first | refine W.ct ?_ | refine W.cf ?_) | (show W _ _ _ _ _ _ (.ins (cond _ _ _ :: _) :: _) _ _; first | refine W.gt ?_ | refine W.gf ?_) | (show W _ _ _ _ _ _ [] _ _; refine W.of (.done ?_)) | (apply W.of; constructor <;> first | (show W _ _ _ _ _ _ _ _ _) | (intro (al : Nat) h st; show W _ _ _ _ _ _ _ _ _) | (intro _ h st; show W _ _ _ _ _ _ _ _ _) | exact Sd))); refine W.do (ho := fp) (w := ?_)
            (repeat (first | (show W _ _ _ _ _ _ (.code (cond _ _ _) :: _) _ _; first | refine W.ct ?_ | refine W.cf ?_) | (show W _ _ _ _ _ _ (.ins (cond _ _ _ :: _) :: _) _ _; first | refine W.gt ?_ | refine W.gf ?_) | (show W _ _ _ _ _ _ [] _ _; refine W.of (.done ?_)) | (apply W.of; constructor <;> first | (show W _ _ _ _ _ _ _ _ _) | (intro (al : Nat) h st; show W _ _ _ _ _ _ _ _ _) | (intro _ h st; show W _ _ _ _ _ _ _ _ _) | exact Sd))); refine W.ef0 (ho := (e_vsStore (v := v) (l := (anG a.an (g.take i)).map ikey) (i := jj) st Tk (by rw [List.length_map]; omega) rfl)) (w := ?_); rintro _ h ⟨_, st⟩
            rw [← List.map_set (f := ikey), ← ea, ← es] at st
            (repeat (first | (show W _ _ _ _ _ _ (.code (cond _ _ _) :: _) _ _; first | refine W.ct ?_ | refine W.cf ?_) | (show W _ _ _ _ _ _ (.ins (cond _ _ _ :: _) :: _) _ _; first | refine W.gt ?_ | refine W.gf ?_) | (show W _ _ _ _ _ _ [] _ _; refine W.of (.done ?_)) | (apply W.of; constructor <;> first | (show W _ _ _ _ _ _ _ _ _) | (intro (al : Nat) h st; show W _ _ _ _ _ _ _ _ _) | (intro _ h st; show W _ _ _ _ _ _ _ _ _) | exact Sd)))
            refine W.of (.lp ?_)
            exact ⟨⟨i + 1, ov⟩, by simp only; omega, hlt, Sbs, st.sel Sels⟩
        · have e : i = g.length := by omega
          subst e
          rw [List.take_length] at st ol
          (repeat (first | (show W _ _ _ _ _ _ (.code (cond _ _ _) :: _) _ _; first | refine W.ct ?_ | refine W.cf ?_) | (show W _ _ _ _ _ _ (.ins (cond _ _ _ :: _) :: _) _ _; first | refine W.gt ?_ | refine W.gf ?_) | (show W _ _ _ _ _ _ [] _ _; refine W.of (.done ?_)) | (apply W.of; constructor <;> first | (show W _ _ _ _ _ _ _ _ _) | (intro (al : Nat) h st; show W _ _ _ _ _ _ _ _ _) | (intro _ h st; show W _ _ _ _ _ _ _ _ _) | exact Sd))); refine W.call (hs := (cnt_Sum (D := D) (l := l1))) (w := ?_); rintro vv _ ⟨rfl, rfl⟩ h st; refine nj ?_; dsimp only [List.cons_append, List.nil_append] at st
          rw [e1]
          have hal : (anG a.an g).length = a.an.length := anG_len
          have hmem : (dropA a lo hi).an = anG a.an g := by rw [dropA, hg]
          have hpk : ∀ {h : AHeap} {L R : List Chunk}, St h L → Pick L [.pt a.O (oneRow D v), CntC D l1 a.cs.length, VsC v 3 ((anG a.an g).map ikey) true] R → St h (AmC (dropA a lo hi) :: R) := fun st pk => by
            refine St.packP (t := 40) (k := .ptr a.O 0) (P := AmIs (dropA a lo hi)) st ⟨D, v, l1, ?_, e1, ?_⟩ pk
            · rw [hmem]; simp only [dropA, addL_length]
            · refine ⟨?_, ?_, ?_, ?_⟩
              · rw [hmem]; simp only [dropA, addL_length]; omega
              · simp only [dropA, addL_length]; exact hn1
              · simp only [dropA, addL_length]; exact hn4
              · rw [hmem]; exact anG_pos hok.pos
          have hdo : DropOk a lo hi := ⟨hw.1, hw.2.1, by omega, ho⟩
          have oj' : ov.notJunk = some ov := oj
          rw [hg] at ol
          by_cases hs : (addL 0 a.cs lo hi (-1)).sum = 0
          · obtain ⟨q, hq⟩ : ∃ q : Nat, id - 1 = (q : Int) := ⟨(id - 1).toNat, by omega⟩
            rw [hq, Int.toNat_natCast] at st hz
            have hql := (List.getElem?_eq_some_iff.1 hz).1
            have st := st.take (c := PoXC P most zs q) Tk
            obtain ⟨_, ⟨sv, rfl, hpo⟩, st⟩ := St.unpack st; dsimp only [List.cons_append, List.nil_append] at st
            have hm := hpo.m
            have hl := hpo.l
            have hc := hpo.c
            obtain ⟨sl, sj, ss⟩ := St.vs (v := sv) (l := zs.map zptr) st Tk
            rw [List.length_map] at sl
            (repeat (first | (show W _ _ _ _ _ _ (.code (cond _ _ _) :: _) _ _; first | refine W.ct ?_ | refine W.cf ?_) | (show W _ _ _ _ _ _ (.ins (cond _ _ _ :: _) :: _) _ _; first | refine W.gt ?_ | refine W.gf ?_) | (show W _ _ _ _ _ _ [] _ _; refine W.of (.done ?_)) | (apply W.of; constructor <;> first | (show W _ _ _ _ _ _ _ _ _) | (intro (al : Nat) h st; show W _ _ _ _ _ _ _ _ _) | (intro _ h st; show W _ _ _ _ _ _ _ _ _) | exact Sd)))
            rw [hq]
            obtain ⟨ap, aq⟩ := d_vsIdx (v := sv) (l := zs.map zptr) (i := q) (kk := .i64) st Tk (by rw [List.length_map]; omega)
            (repeat (first | (show W _ _ _ _ _ _ (.code (cond _ _ _) :: _) _ _; first | refine W.ct ?_ | refine W.cf ?_) | (show W _ _ _ _ _ _ (.ins (cond _ _ _ :: _) :: _) _ _; first | refine W.gt ?_ | refine W.gf ?_) | (show W _ _ _ _ _ _ [] _ _; refine W.of (.done ?_)) | (apply W.of; constructor <;> first | (show W _ _ _ _ _ _ _ _ _) | (intro (al : Nat) h st; show W _ _ _ _ _ _ _ _ _) | (intro _ h st; show W _ _ _ _ _ _ _ _ _) | exact Sd))); refine W.do (ho := ap) (w := ?_)
            (repeat (first | (show W _ _ _ _ _ _ (.code (cond _ _ _) :: _) _ _; first | refine W.ct ?_ | refine W.cf ?_) | (show W _ _ _ _ _ _ (.ins (cond _ _ _ :: _) :: _) _ _; first | refine W.gt ?_ | refine W.gf ?_) | (show W _ _ _ _ _ _ [] _ _; refine W.of (.done ?_)) | (apply W.of; constructor <;> first | (show W _ _ _ _ _ _ _ _ _) | (intro (al : Nat) h st; show W _ _ _ _ _ _ _ _ _) | (intro _ h st; show W _ _ _ _ _ _ _ _ _) | exact Sd))); refine W.ef0 (ho := (e_vsStore (v := sv) (l := zs.map zptr) (i := q) st Tk (by rw [List.length_map]; omega) rfl)) (w := ?_); rintro _ h ⟨_, st⟩
            (repeat (first | (show W _ _ _ _ _ _ (.code (cond _ _ _) :: _) _ _; first | refine W.ct ?_ | refine W.cf ?_) | (show W _ _ _ _ _ _ (.ins (cond _ _ _ :: _) :: _) _ _; first | refine W.gt ?_ | refine W.gf ?_) | (show W _ _ _ _ _ _ [] _ _; refine W.of (.done ?_)) | (apply W.of; constructor <;> first | (show W _ _ _ _ _ _ _ _ _) | (intro (al : Nat) h st; show W _ _ _ _ _ _ _ _ _) | (intro _ h st; show W _ _ _ _ _ _ _ _ _) | exact Sd)))
            have ec := cntZ_setNone hz
            have ez : (zs.map zptr).set q .nilptr = (zs.set q none).map zptr := by rw [List.map_set]; rfl
            rw [ez, show ((cntZ zs : Nat) : Int) - 1 = ((cntZ (zs.set q none) : Nat) : Int) by omega] at st
            have st : St h (SepC (.ptr P 0) zG (zs.set q none) :: .pt P (poolRow most sv (cntZ (zs.set q none))) :: VsC sv 177 ((zs.set q none).map zptr) true :: VsC ov 3 ((outG a.an g).map ikey) true :: F) := St.sepIn (G := zG) (a := none) (l := zs) (st.sel Sels) hql
            have st := St.packP (t := 41) (k := .ptr P 0) (P := PoIs P most (zs.set q none)) (cs := [.pt P (poolRow most sv (cntZ (zs.set q none))), VsC sv 177 ((zs.set q none).map zptr) true, SepC (.ptr P 0) zG (zs.set q none)]) st ⟨sv, rfl, hm, by omega, by rw [List.length_set]; exact hl⟩ Pks
            refine ⟨_, rfl, _, .inr ⟨a, ha, .inl ⟨hdo, ov, rfl, oj', ol, rfl⟩⟩, ?_⟩
            rw [dropZ, if_pos hs, ← hg, hq, Int.toNat_natCast]
            exact st.sel Sels
          · (repeat (first | (show W _ _ _ _ _ _ (.code (cond _ _ _) :: _) _ _; first | refine W.ct ?_ | refine W.cf ?_) | (show W _ _ _ _ _ _ (.ins (cond _ _ _ :: _) :: _) _ _; first | refine W.gt ?_ | refine W.gf ?_) | (show W _ _ _ _ _ _ [] _ _; refine W.of (.done ?_)) | (apply W.of; constructor <;> first | (show W _ _ _ _ _ _ _ _ _) | (intro (al : Nat) h st; show W _ _ _ _ _ _ _ _ _) | (intro _ h st; show W _ _ _ _ _ _ _ _ _) | exact Sd)))
            have st := hpk st Pks
            have st := st.poIn (a := a) (b := dropA a lo hi) rfl hz Tk Tk
            refine ⟨_, rfl, _, .inr ⟨a, ha, .inl ⟨hdo, ov, rfl, oj', ol, rfl⟩⟩, ?_⟩
            rw [dropZ, if_neg hs, ← hg]
            exact st.sel Sels
      · refine nj ?_
        dsimp only [List.cons_append, List.nil_append] at st
        (repeat (first | (show W _ _ _ _ _ _ (.code (cond _ _ _) :: _) _ _; first | refine W.ct ?_ | refine W.cf ?_) | (show W _ _ _ _ _ _ (.ins (cond _ _ _ :: _) :: _) _ _; first | refine W.gt ?_ | refine W.gf ?_) | (show W _ _ _ _ _ _ [] _ _; refine W.of (.done ?_)) | (apply W.of; constructor <;> first | (show W _ _ _ _ _ _ _ _ _) | (intro (al : Nat) h st; show W _ _ _ _ _ _ _ _ _) | (intro _ h st; show W _ _ _ _ _ _ _ _ _) | exact Sd)))
        rw [he] at ho
        have st := St.packP (t := 40) (k := .ptr a.O 0) (P := AmIs a) (cs := [.pt a.O (oneRow D v), CntC D l a.cs.length, VsC v 3 (a.an.map ikey) true]) st ⟨D, v, l, rfl, he, hok⟩ Pks
        have st := st.poBack hz Tk Tk
        exact ⟨_, rfl, _, .inr ⟨a, ha, .inr ⟨fun hh => ho hh.add, rfl, rfl⟩⟩, st.sel Sels⟩
    · rw [decide_eq_false hw]
      (repeat (first | (show W _ _ _ _ _ _ (.code (cond _ _ _) :: _) _ _; first | refine W.ct ?_ | refine W.cf ?_) | (show W _ _ _ _ _ _ (.ins (cond _ _ _ :: _) :: _) _ _; first | refine W.gt ?_ | refine W.gf ?_) | (show W _ _ _ _ _ _ [] _ _; refine W.of (.done ?_)) | (apply W.of; constructor <;> first | (show W _ _ _ _ _ _ _ _ _) | (intro (al : Nat) h st; show W _ _ _ _ _ _ _ _ _) | (intro _ h st; show W _ _ _ _ _ _ _ _ _) | exact Sd)))
      have st := st.poBack hz Tk Tk
      exact ⟨_, rfl, _, .inr ⟨a, ha, .inr ⟨fun hh => hw ⟨hh.l0, hh.lt, by have := hh.h0; omega⟩, rfl, rfl⟩⟩, st⟩
end Go.Proofs.Ytjdemlagmamlbaa

namespace Go.Proofs.Ytjdemlagmamlbaa
variable {P most : Nat} {zs : List (Option AmV)} {a : AmV}
/-- all numbers -/
def idsZ (o : Int) (zs : List (Option AmV)) : List Int :=
  match zs with
  | [] => []
  | some _ :: r => o :: idsZ (o + 1) r
  | none :: r => idsZ (o + 1) r
def oneI (z : Option AmV) (n : Int) : List Int := match z with | some _ => [n] | none => []
theorem idsZ_snoc : ∀ {zs : List (Option AmV)} {o : Int} {z : Option AmV}, idsZ o (zs ++ [z]) = idsZ o zs ++ oneI z (o + zs.length)
  | [], o, z => by cases z <;> simp [idsZ, oneI]
  | some b :: r, o, z => by
    simp only [List.cons_append, idsZ, List.length_cons]
    rw [idsZ_snoc (zs := r), show o + 1 + (r.length : Int) = o + ((r.length + 1 : Nat) : Int) by omega]
  | none :: r, o, z => by
    simp only [List.cons_append, idsZ, List.length_cons]
    rw [idsZ_snoc (zs := r), show o + 1 + (r.length : Int) = o + ((r.length + 1 : Nat) : Int) by omega]
theorem idsZ_len : ∀ {zs : List (Option AmV)} {o : Int}, (idsZ o zs).length = cntZ zs
  | [], _ => rfl
  | some b :: r, o => by simp only [idsZ, List.length_cons, idsZ_len (zs := r)]; rfl
  | none :: r, o => by simp only [idsZ, idsZ_len (zs := r)]; rfl
structure IdS where
  i : Nat
  ov : AV
theorem po_Ids : Spec R (.f n_amap_Pool_Ids) [.ptr P 0] [PoC P most zs] fun v Rs => v.notJunk = some v ∧ sliceLen v = some (idsZ 1 zs).length ∧ Rs = [VsC v 3 ((idsZ 1 zs).map ikey) true, PoC P most zs] := by
  refine spec_w (fun _ _ _ x => progI_call rfl rfl x) Njs rfl (fun h F st => ?_); dsimp only [List.cons_append, List.nil_append] at st
  (repeat (first | (show W _ _ _ _ _ _ (.code (cond _ _ _) :: _) _ _; first | refine W.ct ?_ | refine W.cf ?_) | (show W _ _ _ _ _ _ (.ins (cond _ _ _ :: _) :: _) _ _; first | refine W.gt ?_ | refine W.gf ?_) | (show W _ _ _ _ _ _ [] _ _; refine W.of (.done ?_)) | (apply W.of; constructor <;> first | (show W _ _ _ _ _ _ _ _ _) | (intro (al : Nat) h st; show W _ _ _ _ _ _ _ _ _) | (intro _ h st; show W _ _ _ _ _ _ _ _ _) | exact Sd))); refine W.call (hs := po_made) (w := ?_); rintro vv _ ⟨rfl, rfl⟩ h st; refine nj ?_; dsimp only [List.cons_append, List.nil_append] at st
  obtain ⟨_, ⟨sv, rfl, hpo⟩, st⟩ := St.unpack st; dsimp only [List.cons_append, List.nil_append] at st
  have hm := hpo.m
  have hl := hpo.l
  obtain ⟨sl, sj, ss⟩ := St.vs (v := sv) (l := zs.map zptr) st Tk
  rw [List.length_map] at sl
  (repeat (first | (show W _ _ _ _ _ _ (.code (cond _ _ _) :: _) _ _; first | refine W.ct ?_ | refine W.cf ?_) | (show W _ _ _ _ _ _ (.ins (cond _ _ _ :: _) :: _) _ _; first | refine W.gt ?_ | refine W.gf ?_) | (show W _ _ _ _ _ _ [] _ _; refine W.of (.done ?_)) | (apply W.of; constructor <;> first | (show W _ _ _ _ _ _ _ _ _) | (intro (al : Nat) h st; show W _ _ _ _ _ _ _ _ _) | (intro _ h st; show W _ _ _ _ _ _ _ _ _) | exact Sd)))
  refine W.loop (fun y : IdS => [(3, y.ov), (12, sv), (13, .int .i64 zs.length), (14, .int .i64 y.i)]) (fun y => VsC y.ov 3 ((idsZ 1 (zs.take y.i)).map ikey) true :: .pt P (poolRow most sv (cntZ zs)) :: VsC sv 177 (zs.map zptr) true :: SepC (.ptr P 0) zG zs :: F)
    (fun y => y.i ≤ zs.length) (fun y => zs.length - y.i) ⟨0, .nilsl⟩ (small_rounds (by simp only; omega)) Sbs ?_ (Nat.zero_le _) ?_
  · have st := st.vsNil 3 true
    exact st.sel Sels
  clear st
  intro ⟨i, ov⟩ h hi st
  dsimp only at hi st ⊢
  obtain ⟨ol, oj, oo⟩ := St.ivs (v := ov) (cs := idsZ 1 (zs.take i)) st Tk
  have hol : (idsZ 1 (zs.take i)).length ≤ 4096 := by rw [idsZ_len]; have := cntZ_le (zs := zs.take i); rw [List.length_take] at this; omega
  by_cases hlt : i < zs.length
  · obtain ⟨z, hz⟩ : ∃ z, zs[i]? = some z := ⟨zs[i], by simp [hlt]⟩
    have znj := zptr_nj z
    have zok := zptr_ok z
    have ep : idsZ 1 (zs.take (i + 1)) = idsZ 1 (zs.take i) ++ oneI z ((1 : Int) + i) := by
      rw [take_snoc1 hz, idsZ_snoc, List.length_take, Nat.min_eq_left (by omega)]
    obtain ⟨gp, gq⟩ := d_vsIdx (v := sv) (l := zs.map zptr) (i := i) (kk := .i64) st Tk (by rw [List.length_map]; omega)
    (repeat (first | (show W _ _ _ _ _ _ (.code (cond _ _ _) :: _) _ _; first | refine W.ct ?_ | refine W.cf ?_) | (show W _ _ _ _ _ _ (.ins (cond _ _ _ :: _) :: _) _ _; first | refine W.gt ?_ | refine W.gf ?_) | (show W _ _ _ _ _ _ [] _ _; refine W.of (.done ?_)) | (apply W.of; constructor <;> first | (show W _ _ _ _ _ _ _ _ _) | (intro (al : Nat) h st; show W _ _ _ _ _ _ _ _ _) | (intro _ h st; show W _ _ _ _ _ _ _ _ _) | exact Sd))); refine W.do (ho := gp) (w := ?_)
    (repeat (first | (show W _ _ _ _ _ _ (.code (cond _ _ _) :: _) _ _; first | refine W.ct ?_ | refine W.cf ?_) | (show W _ _ _ _ _ _ (.ins (cond _ _ _ :: _) :: _) _ _; first | refine W.gt ?_ | refine W.gf ?_) | (show W _ _ _ _ _ _ [] _ _; refine W.of (.done ?_)) | (apply W.of; constructor <;> first | (show W _ _ _ _ _ _ _ _ _) | (intro (al : Nat) h st; show W _ _ _ _ _ _ _ _ _) | (intro _ h st; show W _ _ _ _ _ _ _ _ _) | exact Sd))); refine W.do (ho := (d_vsLoad (v := sv) (l := zs.map zptr) (x := zptr z) st Tk (by rw [List.getElem?_map, hz]; rfl))) (w := ?_)
    cases z with
    | none =>
      dsimp only [zptr, oneI] at ep ⊢
      rw [List.append_nil] at ep
      (repeat (first | (show W _ _ _ _ _ _ (.code (cond _ _ _) :: _) _ _; first | refine W.ct ?_ | refine W.cf ?_) | (show W _ _ _ _ _ _ (.ins (cond _ _ _ :: _) :: _) _ _; first | refine W.gt ?_ | refine W.gf ?_) | (show W _ _ _ _ _ _ [] _ _; refine W.of (.done ?_)) | (apply W.of; constructor <;> first | (show W _ _ _ _ _ _ _ _ _) | (intro (al : Nat) h st; show W _ _ _ _ _ _ _ _ _) | (intro _ h st; show W _ _ _ _ _ _ _ _ _) | exact Sd)))
      rw [← ep] at st
      refine W.of (.lp ?_)
      exact ⟨⟨i + 1, ov⟩, by simp only; omega, hlt, Sbs, st.sel Sels⟩
    | some b =>
      dsimp only [zptr, oneI] at ep ⊢
      (repeat (first | (show W _ _ _ _ _ _ (.code (cond _ _ _) :: _) _ _; first | refine W.ct ?_ | refine W.cf ?_) | (show W _ _ _ _ _ _ (.ins (cond _ _ _ :: _) :: _) _ _; first | refine W.gt ?_ | refine W.gf ?_) | (show W _ _ _ _ _ _ [] _ _; refine W.of (.done ?_)) | (apply W.of; constructor <;> first | (show W _ _ _ _ _ _ _ _ _) | (intro (al : Nat) h st; show W _ _ _ _ _ _ _ _ _) | (intro _ h st; show W _ _ _ _ _ _ _ _ _) | exact Sd)))
      have st := St.vsRow (l := [.int .i64 ((i : Int) + 1)]) (e := 3) st Tk rfl
      (repeat (first | (show W _ _ _ _ _ _ (.code (cond _ _ _) :: _) _ _; first | refine W.ct ?_ | refine W.cf ?_) | (show W _ _ _ _ _ _ (.ins (cond _ _ _ :: _) :: _) _ _; first | refine W.gt ?_ | refine W.gf ?_) | (show W _ _ _ _ _ _ [] _ _; refine W.of (.done ?_)) | (apply W.of; constructor <;> first | (show W _ _ _ _ _ _ _ _ _) | (intro (al : Nat) h st; show W _ _ _ _ _ _ _ _ _) | (intro _ h st; show W _ _ _ _ _ _ _ _ _) | exact Sd))); refine W.ef (ho := (e_vsAppend (s := ov) (l' := [.int .i64 ((i : Int) + 1)]) st Tk Tk (by simp; omega) (by simp; omega))) (w := ?_); rintro vv h ⟨cj, cl, st⟩; refine nj ?_
      rw [show (idsZ 1 (zs.take i)).map ikey ++ [.int .i64 ((i : Int) + 1)] = (idsZ 1 (zs.take (i + 1))).map ikey by rw [ep, List.map_append, Int.add_comm]; rfl] at st
      (repeat (first | (show W _ _ _ _ _ _ (.code (cond _ _ _) :: _) _ _; first | refine W.ct ?_ | refine W.cf ?_) | (show W _ _ _ _ _ _ (.ins (cond _ _ _ :: _) :: _) _ _; first | refine W.gt ?_ | refine W.gf ?_) | (show W _ _ _ _ _ _ [] _ _; refine W.of (.done ?_)) | (apply W.of; constructor <;> first | (show W _ _ _ _ _ _ _ _ _) | (intro (al : Nat) h st; show W _ _ _ _ _ _ _ _ _) | (intro _ h st; show W _ _ _ _ _ _ _ _ _) | exact Sd)))
      refine W.of (.lp ?_)
      exact ⟨⟨i + 1, vv⟩, by simp only; omega, hlt, Sbs, st.sel Sels⟩
  · have e : i = zs.length := by omega
    subst e
    rw [List.take_length] at st ol
    (repeat (first | (show W _ _ _ _ _ _ (.code (cond _ _ _) :: _) _ _; first | refine W.ct ?_ | refine W.cf ?_) | (show W _ _ _ _ _ _ (.ins (cond _ _ _ :: _) :: _) _ _; first | refine W.gt ?_ | refine W.gf ?_) | (show W _ _ _ _ _ _ [] _ _; refine W.of (.done ?_)) | (apply W.of; constructor <;> first | (show W _ _ _ _ _ _ _ _ _) | (intro (al : Nat) h st; show W _ _ _ _ _ _ _ _ _) | (intro _ h st; show W _ _ _ _ _ _ _ _ _) | exact Sd)))
    have st := St.packP (t := 41) (k := .ptr P 0) (P := PoIs P most zs) (cs := [.pt P (poolRow most sv (cntZ zs)), VsC sv 177 (zs.map zptr) true, SepC (.ptr P 0) zG zs]) st ⟨sv, rfl, hpo⟩ Pks
    exact ⟨_, rfl, _, ⟨oj, ol, rfl⟩, st.sel Sels⟩
end Go.Proofs.Ytjdemlagmamlbaa

namespace Go.Proofs.Ytjdemlagmamlbaa
/-- is there enough? -/
def fullU (look : Int) (acc : List Int) : Prop := 0 ≤ look ∧ IntKind.i64.wrap (2 * look) ≤ acc.length
instance {look : Int} {acc : List Int} : Decidable (fullU look acc) := inferInstanceAs (Decidable (_ ∧ _))
variable {P most : Nat} {zs : List (Option AmV)}
end Go.Proofs.Ytjdemlagmamlbaa

namespace Go.Proofs.Ytjdemlagmamlbaa
variable {P most : Nat} {zs : List (Option AmV)} {a b : AmV}
theorem put_at : (putZ zs b)[firstN zs]? = some (some b) := by
  have := firstN_le (zs := zs)
  unfold putZ
  split
  · rename_i h; simp [h]
  · rw [List.getElem?_append_right (by omega), show firstN zs - zs.length = 0 by omega]; rfl
theorem put_len : firstN zs < (putZ zs b).length := (List.getElem?_eq_some_iff.1 put_at).1
theorem po_Make2 {m : Int} (hm : 1 ≤ m ∧ m ≤ 4096) : Spec R (.f n_amap_Pool_Make) [.ptr P 0, .int .i64 m] [PoC P most zs] fun v Rs =>
    (cntZ zs < most ∧ ∃ O, v = .tuple [.int .i64 ((firstN zs : Int) + 1), .int .i64 0] ∧ Rs = [PoC P most (putZ zs (newAm O m.toNat))]) ∨
    (most ≤ cntZ zs ∧ v = .tuple [.int .i64 0, .int .i64 5] ∧ Rs = [PoC P most zs]) :=
  po_Make.mono progI_mono fun v Rs h => by
    rcases h with ⟨h, _⟩ | ⟨_, h⟩ | ⟨_, h⟩
    · exact absurd hm h
    · exact .inr h
    · exact .inl h
end Go.Proofs.Ytjdemlagmamlbaa

namespace Go.Proofs.Ytjdemlagmamlbaa
variable {P most : Nat} {zs : List (Option AmV)} {a : AmV}
theorem po_New_ok {m : Nat} (hm : m ≤ 4096) : Spec R (.f n_amap_New) [.int .i64 (m : Nat)] [] fun v Rs => ∃ P, v = .ptr P 0 ∧ Rs = [PoC P m []] :=
  po_New.mono progI_mono fun v Rs h => by
    rcases h with ⟨_, _, h⟩ | ⟨h, _⟩
    · exact h
    · exact absurd ⟨by omega, by omega⟩ h
theorem po_Make_ok {m : Int} (hm : 1 ≤ m ∧ m ≤ 4096) (hc : cntZ zs < most) : Spec R (.f n_amap_Pool_Make) [.ptr P 0, .int .i64 m] [PoC P most zs] fun v Rs =>
    ∃ O, v = .tuple [.int .i64 ((firstN zs : Int) + 1), .int .i64 0] ∧ Rs = [PoC P most (putZ zs (newAm O m.toNat))] :=
  (po_Make2 hm).mono progI_mono fun v Rs h => by
    rcases h with ⟨_, h⟩ | ⟨h, _⟩
    · exact h
    · omega
theorem po_Set_ok {id slot x : Int} (ha : atZ zs id = some a) (hc : ¬ (coverZ zs id slot = 0 ∨ x < 0)) : Spec R (.f n_amap_Pool_Set) [.ptr P 0, .int .i64 id, .int .i64 slot, .int .i64 x] [PoC P most zs] fun v Rs =>
    v = .tuple [.int .i64 (getZ zs id slot), .int .i64 0] ∧ Rs = [PoC P most (setZ zs id slot x)] :=
  po_Set.mono progI_mono fun v Rs h => by
    rcases h with ⟨h, _⟩ | ⟨_, _, h, _⟩ | ⟨_, _, _, h⟩
    · rw [ha] at h; cases h
    · exact absurd h hc
    · exact h
theorem po_Set_no {id slot x : Int} (ha : atZ zs id = some a) (hc : coverZ zs id slot = 0 ∨ x < 0) : Spec R (.f n_amap_Pool_Set) [.ptr P 0, .int .i64 id, .int .i64 slot, .int .i64 x] [PoC P most zs] fun v Rs =>
    v = .tuple [.int .i64 0, .int .i64 2] ∧ Rs = [PoC P most zs] :=
  po_Set.mono progI_mono fun v Rs h => by
    rcases h with ⟨h, _⟩ | ⟨_, _, _, h⟩ | ⟨_, _, h, _⟩
    · rw [ha] at h; cases h
    · exact h
    · exact absurd hc h
theorem po_Hold_ok {id lo hi : Int} (ha : atZ zs id = some a) (hh : HoldOk a lo hi) : Spec R (.f n_amap_Pool_Hold) [.ptr P 0, .int .i64 id, .int .i64 lo, .int .i64 hi] [PoC P most zs] fun v Rs =>
    v = .int .i64 0 ∧ Rs = [PoC P most (zs.set (id - 1).toNat (some (holdA a lo hi)))] :=
  po_Hold.mono progI_mono fun v Rs h => by
    rcases h with ⟨h, _⟩ | ⟨b, hb, ⟨_, h⟩ | ⟨h, _⟩⟩
    · rw [ha] at h; cases h
    · rw [ha] at hb; cases hb; exact h
    · rw [ha] at hb; cases hb; exact absurd hh h
theorem po_Hold_no {id lo hi : Int} (ha : atZ zs id = some a) (hh : ¬ HoldOk a lo hi) : Spec R (.f n_amap_Pool_Hold) [.ptr P 0, .int .i64 id, .int .i64 lo, .int .i64 hi] [PoC P most zs] fun v Rs =>
    v = .int .i64 2 ∧ Rs = [PoC P most zs] :=
  po_Hold.mono progI_mono fun v Rs h => by
    rcases h with ⟨h, _⟩ | ⟨b, hb, ⟨h, _⟩ | ⟨_, h⟩⟩
    · rw [ha] at h; cases h
    · rw [ha] at hb; cases hb; exact absurd h hh
    · exact h
theorem po_Drop_ok {id lo hi : Int} (ha : atZ zs id = some a) (hh : DropOk a lo hi) : Spec R (.f n_amap_Pool_Drop) [.ptr P 0, .int .i64 id, .int .i64 lo, .int .i64 hi] [PoC P most zs] fun v Rs =>
    ∃ ov, v = .tuple [ov, .int .i64 0] ∧ ov.notJunk = some ov ∧ sliceLen ov = some (outG a.an (goneA a lo hi)).length ∧ Rs = [VsC ov 3 ((outG a.an (goneA a lo hi)).map ikey) true, PoC P most (dropZ zs (id - 1).toNat a lo hi)] :=
  po_Drop.mono progI_mono fun v Rs h => by
    rcases h with ⟨h, _⟩ | ⟨b, hb, ⟨_, h⟩ | ⟨h, _⟩⟩
    · rw [ha] at h; cases h
    · rw [ha] at hb; cases hb; exact h
    · rw [ha] at hb; cases hb; exact absurd hh h
theorem po_Drop_no {id lo hi : Int} (ha : atZ zs id = some a) (hh : ¬ DropOk a lo hi) : Spec R (.f n_amap_Pool_Drop) [.ptr P 0, .int .i64 id, .int .i64 lo, .int .i64 hi] [PoC P most zs] fun v Rs =>
    v = .tuple [.nilsl, .int .i64 2] ∧ Rs = [PoC P most zs] :=
  po_Drop.mono progI_mono fun v Rs h => by
    rcases h with ⟨h, _⟩ | ⟨b, hb, ⟨h, _⟩ | ⟨_, h⟩⟩
    · rw [ha] at h; cases h
    · rw [ha] at hb; cases hb; exact absurd h hh
    · exact h
theorem lives_h {O : Nat} : HoldOk ⟨O, [1, 1, 1, 1], [0, 0, 9, 0]⟩ 0 2 := ⟨by decide, by decide, by dsimp only; decide, by dsimp only; decide, by dsimp only; exact add_okD (by decide) (by decide) (by decide) (by decide)⟩
theorem lives_d {O : Nat} : DropOk ⟨O, [2, 2, 1, 1], [0, 0, 9, 0]⟩ 0 4 := ⟨by decide, by decide, by dsimp only; decide, by dsimp only; exact add_okD (by decide) (by decide) (by decide) (by decide)⟩
set_option maxRecDepth 8000 in
theorem law13_lives : Spec R (.f n_law13_lives) [] [] fun v Rs => v = .bool true ∧ Rs = [] := by
  refine spec_w (fun _ _ _ x => progI_call rfl rfl x) Njs rfl (fun h F st => ?_); dsimp only [List.cons_append, List.nil_append] at st
  (repeat (first | (show W _ _ _ _ _ _ (.code (cond _ _ _) :: _) _ _; first | refine W.ct ?_ | refine W.cf ?_) | (show W _ _ _ _ _ _ (.ins (cond _ _ _ :: _) :: _) _ _; first | refine W.gt ?_ | refine W.gf ?_) | (show W _ _ _ _ _ _ [] _ _; refine W.of (.done ?_)) | (apply W.of; constructor <;> first | (show W _ _ _ _ _ _ _ _ _) | (intro (al : Nat) h st; show W _ _ _ _ _ _ _ _ _) | (intro _ h st; show W _ _ _ _ _ _ _ _ _) | exact Sd))); refine W.call (hs := (po_New_ok (m := 9) (by decide))) (w := ?_); rintro vv _ ⟨P, rfl, rfl⟩ h st; refine nj ?_; dsimp only [List.cons_append, List.nil_append] at st
  (repeat (first | (show W _ _ _ _ _ _ (.code (cond _ _ _) :: _) _ _; first | refine W.ct ?_ | refine W.cf ?_) | (show W _ _ _ _ _ _ (.ins (cond _ _ _ :: _) :: _) _ _; first | refine W.gt ?_ | refine W.gf ?_) | (show W _ _ _ _ _ _ [] _ _; refine W.of (.done ?_)) | (apply W.of; constructor <;> first | (show W _ _ _ _ _ _ _ _ _) | (intro (al : Nat) h st; show W _ _ _ _ _ _ _ _ _) | (intro _ h st; show W _ _ _ _ _ _ _ _ _) | exact Sd))); refine W.call (hs := (po_Make_ok (P := P) (most := 9) (zs := []) (m := 4) (by decide) (by decide))) (w := ?_); rintro vv _ ⟨O, rfl, rfl⟩ h st; refine nj ?_; dsimp only [List.cons_append, List.nil_append] at st
  have e1 : putZ [] (newAm O (4 : Int).toNat) = [some ⟨O, [1, 1, 1, 1], [0, 0, 0, 0]⟩] := rfl
  rw [e1] at st
  (repeat (first | (show W _ _ _ _ _ _ (.code (cond _ _ _) :: _) _ _; first | refine W.ct ?_ | refine W.cf ?_) | (show W _ _ _ _ _ _ (.ins (cond _ _ _ :: _) :: _) _ _; first | refine W.gt ?_ | refine W.gf ?_) | (show W _ _ _ _ _ _ [] _ _; refine W.of (.done ?_)) | (apply W.of; constructor <;> first | (show W _ _ _ _ _ _ _ _ _) | (intro (al : Nat) h st; show W _ _ _ _ _ _ _ _ _) | (intro _ h st; show W _ _ _ _ _ _ _ _ _) | exact Sd))); refine W.call (hs := (po_Set_ok (P := P) (most := 9) (zs := [some ⟨O, [1, 1, 1, 1], [0, 0, 0, 0]⟩]) (a := ⟨O, [1, 1, 1, 1], [0, 0, 0, 0]⟩) (id := 1) (slot := 2) (x := 9) rfl (by show ¬ ((1 : Int) = 0 ∨ (9 : Int) < 0); decide))) (w := ?_); rintro vv _ ⟨rfl, rfl⟩ h st; refine nj ?_; dsimp only [List.cons_append, List.nil_append] at st
  have e2 : setZ [some ⟨O, [1, 1, 1, 1], [0, 0, 0, 0]⟩] 1 2 9 = [some ⟨O, [1, 1, 1, 1], [0, 0, 9, 0]⟩] := rfl
  rw [e2] at st
  (repeat (first | (show W _ _ _ _ _ _ (.code (cond _ _ _) :: _) _ _; first | refine W.ct ?_ | refine W.cf ?_) | (show W _ _ _ _ _ _ (.ins (cond _ _ _ :: _) :: _) _ _; first | refine W.gt ?_ | refine W.gf ?_) | (show W _ _ _ _ _ _ [] _ _; refine W.of (.done ?_)) | (apply W.of; constructor <;> first | (show W _ _ _ _ _ _ _ _ _) | (intro (al : Nat) h st; show W _ _ _ _ _ _ _ _ _) | (intro _ h st; show W _ _ _ _ _ _ _ _ _) | exact Sd))); refine W.call (hs := (po_Hold_ok (P := P) (most := 9) (zs := [some ⟨O, [1, 1, 1, 1], [0, 0, 9, 0]⟩]) (a := ⟨O, [1, 1, 1, 1], [0, 0, 9, 0]⟩) (id := 1) (lo := 0) (hi := 2) rfl lives_h)) (w := ?_); rintro vv _ ⟨rfl, rfl⟩ h st; refine nj ?_; dsimp only [List.cons_append, List.nil_append] at st
  have e3 : ([some ⟨O, [1, 1, 1, 1], [0, 0, 9, 0]⟩] : List (Option AmV)).set ((1 : Int) - 1).toNat (some (holdA ⟨O, [1, 1, 1, 1], [0, 0, 9, 0]⟩ 0 2)) = [some ⟨O, [2, 2, 1, 1], [0, 0, 9, 0]⟩] := rfl
  rw [e3] at st
  (repeat (first | (show W _ _ _ _ _ _ (.code (cond _ _ _) :: _) _ _; first | refine W.ct ?_ | refine W.cf ?_) | (show W _ _ _ _ _ _ (.ins (cond _ _ _ :: _) :: _) _ _; first | refine W.gt ?_ | refine W.gf ?_) | (show W _ _ _ _ _ _ [] _ _; refine W.of (.done ?_)) | (apply W.of; constructor <;> first | (show W _ _ _ _ _ _ _ _ _) | (intro (al : Nat) h st; show W _ _ _ _ _ _ _ _ _) | (intro _ h st; show W _ _ _ _ _ _ _ _ _) | exact Sd))); refine W.call (hs := (po_Drop_ok (P := P) (most := 9) (zs := [some ⟨O, [2, 2, 1, 1], [0, 0, 9, 0]⟩]) (a := ⟨O, [2, 2, 1, 1], [0, 0, 9, 0]⟩) (id := 1) (lo := 0) (hi := 4) rfl lives_d)) (w := ?_); rintro vv _ ⟨ov, rfl, oj, ol, rfl⟩ h st; refine nj ?_; dsimp only [List.cons_append, List.nil_append] at st
  have e4 : dropZ [some ⟨O, [2, 2, 1, 1], [0, 0, 9, 0]⟩] ((1 : Int) - 1).toNat ⟨O, [2, 2, 1, 1], [0, 0, 9, 0]⟩ 0 4 = [some ⟨O, [1, 1, 0, 0], [0, 0, 0, 0]⟩] := rfl
  have e5 : outG [0, 0, 9, 0] (goneA ⟨O, [2, 2, 1, 1], [0, 0, 9, 0]⟩ 0 4) = [9] := rfl
  rw [e4] at st
  dsimp only at st ol
  rw [e5] at st ol
  (repeat (first | (show W _ _ _ _ _ _ (.code (cond _ _ _) :: _) _ _; first | refine W.ct ?_ | refine W.cf ?_) | (show W _ _ _ _ _ _ (.ins (cond _ _ _ :: _) :: _) _ _; first | refine W.gt ?_ | refine W.gf ?_) | (show W _ _ _ _ _ _ [] _ _; refine W.of (.done ?_)) | (apply W.of; constructor <;> first | (show W _ _ _ _ _ _ _ _ _) | (intro (al : Nat) h st; show W _ _ _ _ _ _ _ _ _) | (intro _ h st; show W _ _ _ _ _ _ _ _ _) | exact Sd)))
  have st := St.vsRow (l := [(9 : Int)].map ikey) (e := 3) st Tk rfl
  (repeat (first | (show W _ _ _ _ _ _ (.code (cond _ _ _) :: _) _ _; first | refine W.ct ?_ | refine W.cf ?_) | (show W _ _ _ _ _ _ (.ins (cond _ _ _ :: _) :: _) _ _; first | refine W.gt ?_ | refine W.gf ?_) | (show W _ _ _ _ _ _ [] _ _; refine W.of (.done ?_)) | (apply W.of; constructor <;> first | (show W _ _ _ _ _ _ _ _ _) | (intro (al : Nat) h st; show W _ _ _ _ _ _ _ _ _) | (intro _ h st; show W _ _ _ _ _ _ _ _ _) | exact Sd))); refine W.call (hs := (ref01_Ints (a := ov) (l := [9]) (l' := [9]) (by decide))) (w := ?_); rintro vv _ ⟨rfl, rfl⟩ h st; refine nj ?_; dsimp only [List.cons_append, List.nil_append] at st
  (repeat (first | (show W _ _ _ _ _ _ (.code (cond _ _ _) :: _) _ _; first | refine W.ct ?_ | refine W.cf ?_) | (show W _ _ _ _ _ _ (.ins (cond _ _ _ :: _) :: _) _ _; first | refine W.gt ?_ | refine W.gf ?_) | (show W _ _ _ _ _ _ [] _ _; refine W.of (.done ?_)) | (apply W.of; constructor <;> first | (show W _ _ _ _ _ _ _ _ _) | (intro (al : Nat) h st; show W _ _ _ _ _ _ _ _ _) | (intro _ h st; show W _ _ _ _ _ _ _ _ _) | exact Sd))); refine W.call (hs := (po_Cover (P := P))) (w := ?_); rintro vv _ ⟨rfl, rfl⟩ h st; refine nj ?_; dsimp only [List.cons_append, List.nil_append] at st
  (repeat (first | (show W _ _ _ _ _ _ (.code (cond _ _ _) :: _) _ _; first | refine W.ct ?_ | refine W.cf ?_) | (show W _ _ _ _ _ _ (.ins (cond _ _ _ :: _) :: _) _ _; first | refine W.gt ?_ | refine W.gf ?_) | (show W _ _ _ _ _ _ [] _ _; refine W.of (.done ?_)) | (apply W.of; constructor <;> first | (show W _ _ _ _ _ _ _ _ _) | (intro (al : Nat) h st; show W _ _ _ _ _ _ _ _ _) | (intro _ h st; show W _ _ _ _ _ _ _ _ _) | exact Sd))); refine W.call (hs := (po_Cover (P := P))) (w := ?_); rintro vv _ ⟨rfl, rfl⟩ h st; refine nj ?_; dsimp only [List.cons_append, List.nil_append] at st
  (repeat (first | (show W _ _ _ _ _ _ (.code (cond _ _ _) :: _) _ _; first | refine W.ct ?_ | refine W.cf ?_) | (show W _ _ _ _ _ _ (.ins (cond _ _ _ :: _) :: _) _ _; first | refine W.gt ?_ | refine W.gf ?_) | (show W _ _ _ _ _ _ [] _ _; refine W.of (.done ?_)) | (apply W.of; constructor <;> first | (show W _ _ _ _ _ _ _ _ _) | (intro (al : Nat) h st; show W _ _ _ _ _ _ _ _ _) | (intro _ h st; show W _ _ _ _ _ _ _ _ _) | exact Sd)))
  exact ⟨_, rfl, _, ⟨rfl, rfl⟩, st.sel Sels⟩
end Go.Proofs.Ytjdemlagmamlbaa

namespace Go.Proofs.Ytjdemlagmamlbaa
variable {P most : Nat} {zs : List (Option AmV)}
/-- an amap of three, with its number in the middle -/
def numA (O n : Nat) : AmV := ⟨O, [1, 1, 1], [0, 10 + (n : Int), 0]⟩
structure NumOk (zs : List (Option AmV)) (j : Nat) : Prop where
  len : zs.length = j
  at' : ∀ k, k < j → ∃ O, zs[k]? = some (some (numA O (k + 1)))
theorem NumOk.first {j : Nat} (h : NumOk zs j) : firstN zs = j := by
  have h1 := firstN_le (zs := zs)
  have hl := h.len
  by_cases hf : firstN zs < zs.length
  · obtain ⟨O, hO⟩ := h.at' (firstN zs) (by omega)
    rw [firstN_at hf] at hO; cases hO
  · omega
theorem NumOk.cnt {j : Nat} (h : NumOk zs j) : cntZ zs = j := by
  rw [cntZ_full (by rw [h.first, h.len]), h.len]
theorem NumOk.put {j : Nat} {b : AmV} (h : NumOk zs j) : putZ zs b = zs ++ [some b] := by
  rw [putZ, if_neg (by rw [h.first, h.len]; omega)]
theorem atZ_nat {i : Nat} {z : Option AmV} (h : zs[i]? = some z) : atZ zs ((i : Int) + 1) = z := by
  have hl := (List.getElem?_eq_some_iff.1 h).1
  rw [atZ, if_pos ⟨by omega, by omega⟩, show ((i : Int) + 1 - 1).toNat = i by omega, h]; cases z <;> rfl
theorem NumOk.set {j O : Nat} (h : NumOk zs j) : setZ (putZ zs (newAm O 3)) ((j : Int) + 1) 1 (10 + ((j : Int) + 1)) = zs ++ [some (numA O (j + 1))] := by
  have ha : atZ (putZ zs (newAm O 3)) ((j : Int) + 1) = some (newAm O 3) := atZ_nat (by rw [← h.first]; exact put_at)
  unfold setZ
  rw [ha]
  dsimp only
  rw [show ((j : Int) + 1 - 1).toNat = j by omega, h.put, List.set_append_right _ _ (by rw [h.len]; omega), h.len, Nat.sub_self]
  rfl
theorem NumOk.snoc {j O : Nat} (h : NumOk zs j) : NumOk (zs ++ [some (numA O (j + 1))]) (j + 1) := ⟨by simp [h.len], fun k hk => by
  by_cases hj : k < j
  · obtain ⟨O', hO⟩ := h.at' k hj
    exact ⟨O', by rw [List.getElem?_append_left (by rw [h.len]; exact hj)]; exact hO⟩
  · obtain rfl : k = j := by omega
    exact ⟨O, by rw [List.getElem?_append_right (by rw [h.len]; omega), h.len, Nat.sub_self]; rfl⟩⟩
structure NuS where
  j : Nat
  zs : List (Option AmV)
end Go.Proofs.Ytjdemlagmamlbaa

namespace Go.Proofs.Ytjdemlagmamlbaa
variable {P most : Nat} {zs : List (Option AmV)}
theorem get1 {id : Int} {a : AmV} {j : Nat} {x : Int} (ha : atZ zs id = some a) (hx : a.an[j]? = some x) : getZ zs id (j : Int) = x := by
  have := (List.getElem?_eq_some_iff.1 hx).1
  unfold getZ
  rw [ha]
  dsimp only
  rw [if_pos (by omega), Int.toNat_natCast, hx]; rfl
structure CpS where
  i : Nat
  an : List Int
structure CqS where
  j : Nat
  wv : AV
structure CpOk (n : Nat) (an : List Int) : Prop where
  len : an.length = n
  pos : ∀ x, x ∈ an → 0 ≤ x
end Go.Proofs.Ytjdemlagmamlbaa

namespace Go.Proofs.Ytjdemlagmamlbaa
/-- an act -/
structure AcP where
  kind : Int
  id : Int
  lo : Int
  hi : Int
abbrev AcP.cells (a : AcP) : List AV := [.int .i64 a.kind, .int .i64 a.id, .int .i64 a.lo, .int .i64 a.hi]
abbrev AcP.G (_ : AcP) : List Chunk := []
abbrev AcPC (v : AV) (l : List AcP) : Chunk := ArC v 4 AcP.cells AcP.G l
variable {p : AV}
end Go.Proofs.Ytjdemlagmamlbaa

namespace Go.Proofs.Ytjdemlagmamlbaa
variable {P : Nat}
/-- the one amap, if one is covered -/
def poolOf (O : Nat) (cs an : List Int) : List (Option AmV) := [if cs.sum = 0 then none else some ⟨O, cs, an⟩]
structure CvOk (n i : Nat) (cs an : List Int) (nx : Int) : Prop where
  cl : cs.length = n
  an : an.length = n
  lo : ∀ c, c ∈ cs → 0 ≤ c
  hi : ∀ c, c ∈ cs → c ≤ 1 + i
  s : cs.sum ≠ 0
  n0 : 1 ≤ nx
  n1 : nx ≤ 1 + i
structure CvS where
  i : Nat
  O : Nat
  cs : List Int
  an : List Int
  nx : Int
abbrev cvE (P n : Nat) (cv iv v : AV) (k i : Nat) (nx : Int) : Env := [(5, .int .i64 n), (6, .ptr P 0), (7, .int .i64 1), (9, cv), (10, iv), (12, .int .i64 nx), (68, v), (69, .int .i64 k), (70, .int .i64 i)]
abbrev cvG (P : Nat) (cv iv v : AV) (acts : List AcP) (F : List Chunk) (O : Nat) (cs an : List Int) : List Chunk := PoC P 1 (poolOf O cs an) :: VsC cv 3 (cs.map ikey) true :: VsC iv 3 (an.map ikey) true :: AcPC v acts :: F
abbrev cvJ (P n : Nat) (cv iv v : AV) (acts : List AcP) (F : List Chunk) (i : Nat) : Env → AHeap → Prop := fun s' h' => ∃ z : CvS, acts.length - z.i < acts.length - i ∧ (z.i ≤ acts.length ∧ CvOk n z.i z.cs z.an z.nx) ∧ Sub (cvE P n cv iv v acts.length z.i z.nx) s' ∧ St h' (cvG P cv iv v acts F z.O z.cs z.an)
abbrev cvQ (F : List Chunk) : AExit → Env → AHeap → Prop := fnQ c_law13_AmapCovers.res fun v h' => ∃ Rs, v = .bool true ∧ St h' (Rs ++ F)
abbrev cvK : List KI := [.blk 2, .code (sR (sR (sR (sR (sR (sR (sR (sR (sR c_law13_AmapCovers.body)))))))))]
def cvTail : ACode := sR (sR (sR (sR (bB (sL (sR (sR c_law13_AmapCovers_L1)))))))
theorem sum_le {M : Int} : ∀ {l : List Int}, (∀ c, c ∈ l → 0 ≤ c ∧ c ≤ M) → 0 ≤ l.sum ∧ l.sum ≤ M * l.length
  | [], _ => by simp
  | c :: l, h => by
    have h1 := sum_le (fun d hd => h d (List.mem_cons_of_mem _ hd))
    have h2 := h c List.mem_cons_self
    simp only [List.sum_cons, List.length_cons]
    rw [show M * ((l.length + 1 : Nat) : Int) = M * l.length + M by rw [Int.natCast_add, Int.mul_add]; simp]
    omega
set_option maxRecDepth 8000 in
theorem cv_tail {n O i : Nat} {cv iv v : AV} {acts : List AcP} {F : List Chunk} {h : AHeap} {cs an : List Int} {nx : Int} (hlt : i < acts.length) (h80 : acts.length ≤ 80) (hn1 : 1 ≤ n) (hn : n ≤ 12) (h1 : cs.length = n) (h2 : an.length = n) (h3 : ∀ c, c ∈ cs → 0 ≤ c) (h4 : ∀ c, c ∈ cs → c ≤ 1 + (i + 1 : Nat)) (h5 : 1 ≤ nx) (h6 : nx ≤ 1 + (i + 1 : Nat))
    (st : St h (cvG P cv iv v acts F O cs an)) :
    W over tab none c_law13_AmapCovers.ntmps (cvQ F) .normal (.code (.loop c_law13_AmapCovers_L6) :: .blk 13 :: .code (sR (sR cvTail)) :: .blk 3 :: .code (sR (sR (sR c_law13_AmapCovers_L1))) :: .lp (cvJ P n cv iv v acts F i) :: cvK) ((29, .int .i64 0) :: (241, .int .i64 n) :: (242, .int .i64 0) :: cvE P n cv iv v acts.length i nx) h := by
  have hsum : ∀ j, 0 ≤ (cs.take j).sum ∧ (cs.take j).sum ≤ 100000 := fun j => by
    have := sum_le (M := 82) (l := cs.take j) fun c hc => by
      have hc := List.mem_of_mem_take hc
      have := h3 c hc
      have := h4 c hc
      omega
    have hl : (cs.take j).length ≤ 12 := by rw [List.length_take]; omega
    omega
  refine W.loop (fun j : Nat => (29, .int .i64 (cs.take j).sum) :: (241, .int .i64 n) :: (242, .int .i64 j) :: cvE P n cv iv v acts.length i nx) (fun _ => cvG P cv iv v acts F O cs an) (fun j => j ≤ n) (fun j => n - j) 0 (small_rounds (by omega)) Sbs st (Nat.zero_le _) ?_
  clear st
  intro j h hj st
  obtain ⟨cl, cj, cs'⟩ := St.ivs (v := cv) (cs := cs) st Tk
  obtain ⟨il, ij, is'⟩ := St.ivs (v := iv) (cs := an) st Tk
  by_cases hjn : j < n
  · obtain ⟨c, hc⟩ : ∃ c, cs[j]? = some c := ⟨cs[j]'(by omega), by simp⟩
    have s1 := hsum j
    have s2 := hsum (j + 1)
    have es : (cs.take (j + 1)).sum = (cs.take j).sum + c := by rw [take_snoc1 hc, List.sum_append]; simp
    obtain ⟨gp, gq⟩ := d_vsIdx (v := cv) (l := cs.map ikey) (i := j) (kk := .i64) st Tk (by rw [List.length_map]; omega)
    (repeat (first | (show W _ _ _ _ _ _ (.code (cond _ _ _) :: _) _ _; first | refine W.ct ?_ | refine W.cf ?_) | (show W _ _ _ _ _ _ (.ins (cond _ _ _ :: _) :: _) _ _; first | refine W.gt ?_ | refine W.gf ?_) | (show W _ _ _ _ _ _ [] _ _; refine W.of (.done ?_)) | (apply W.of; constructor <;> first | (show W _ _ _ _ _ _ _ _ _) | (intro (al : Nat) h st; show W _ _ _ _ _ _ _ _ _) | (intro _ h st; show W _ _ _ _ _ _ _ _ _) | exact Sd))); refine W.do (ho := gp) (w := ?_)
    (repeat (first | (show W _ _ _ _ _ _ (.code (cond _ _ _) :: _) _ _; first | refine W.ct ?_ | refine W.cf ?_) | (show W _ _ _ _ _ _ (.ins (cond _ _ _ :: _) :: _) _ _; first | refine W.gt ?_ | refine W.gf ?_) | (show W _ _ _ _ _ _ [] _ _; refine W.of (.done ?_)) | (apply W.of; constructor <;> first | (show W _ _ _ _ _ _ _ _ _) | (intro (al : Nat) h st; show W _ _ _ _ _ _ _ _ _) | (intro _ h st; show W _ _ _ _ _ _ _ _ _) | exact Sd))); refine W.do (ho := (d_vsLoad (v := cv) (l := cs.map ikey) (x := ikey c) st Tk (by rw [List.getElem?_map, hc]; rfl))) (w := ?_)
    (repeat (first | (show W _ _ _ _ _ _ (.code (cond _ _ _) :: _) _ _; first | refine W.ct ?_ | refine W.cf ?_) | (show W _ _ _ _ _ _ (.ins (cond _ _ _ :: _) :: _) _ _; first | refine W.gt ?_ | refine W.gf ?_) | (show W _ _ _ _ _ _ [] _ _; refine W.of (.done ?_)) | (apply W.of; constructor <;> first | (show W _ _ _ _ _ _ _ _ _) | (intro (al : Nat) h st; show W _ _ _ _ _ _ _ _ _) | (intro _ h st; show W _ _ _ _ _ _ _ _ _) | exact Sd)))
    refine W.of (.lp ?_)
    exact ⟨j + 1, by omega, hjn, ⟨by simp only [look]; rw [es], rfl, rfl, rfl, rfl, rfl, rfl, rfl, rfl, rfl, rfl, rfl, trivial⟩, st⟩
  · have e : j = n := by omega
    subst e
    rw [List.take_of_length_le (by omega)]
    have hs := hsum j
    rw [List.take_of_length_le (by omega)] at hs
    by_cases h0 : cs.sum = 0
    · have ep : poolOf O cs an = [none] := by rw [poolOf, if_pos h0]
      have st : St h (PoC P 1 [none] :: VsC cv 3 (cs.map ikey) true :: VsC iv 3 (an.map ikey) true :: AcPC v acts :: F) := by rw [← ep]; exact st
      (repeat (first | (show W _ _ _ _ _ _ (.code (cond _ _ _) :: _) _ _; first | refine W.ct ?_ | refine W.cf ?_) | (show W _ _ _ _ _ _ (.ins (cond _ _ _ :: _) :: _) _ _; first | refine W.gt ?_ | refine W.gf ?_) | (show W _ _ _ _ _ _ [] _ _; refine W.of (.done ?_)) | (apply W.of; constructor <;> first | (show W _ _ _ _ _ _ _ _ _) | (intro (al : Nat) h st; show W _ _ _ _ _ _ _ _ _) | (intro _ h st; show W _ _ _ _ _ _ _ _ _) | exact Sd)))
      (repeat (first | (show W _ _ _ _ _ _ (.code (cond _ _ _) :: _) _ _; first | refine W.ct ?_ | refine W.cf ?_) | (show W _ _ _ _ _ _ (.ins (cond _ _ _ :: _) :: _) _ _; first | refine W.gt ?_ | refine W.gf ?_) | (show W _ _ _ _ _ _ [] _ _; refine W.of (.done ?_)) | (apply W.of; constructor <;> first | (show W _ _ _ _ _ _ _ _ _) | (intro (al : Nat) h st; show W _ _ _ _ _ _ _ _ _) | (intro _ h st; show W _ _ _ _ _ _ _ _ _) | exact Sd))); refine W.call (hs := (po_Ids (P := P))) (w := ?_); rintro vv _ ⟨dj, dl, rfl⟩ h st; refine nj ?_; dsimp only [List.cons_append, List.nil_append] at st
      (repeat (first | (show W _ _ _ _ _ _ (.code (cond _ _ _) :: _) _ _; first | refine W.ct ?_ | refine W.cf ?_) | (show W _ _ _ _ _ _ (.ins (cond _ _ _ :: _) :: _) _ _; first | refine W.gt ?_ | refine W.gf ?_) | (show W _ _ _ _ _ _ [] _ _; refine W.of (.done ?_)) | (apply W.of; constructor <;> first | (show W _ _ _ _ _ _ _ _ _) | (intro (al : Nat) h st; show W _ _ _ _ _ _ _ _ _) | (intro _ h st; show W _ _ _ _ _ _ _ _ _) | exact Sd)))
      (repeat (first | (show W _ _ _ _ _ _ (.code (cond _ _ _) :: _) _ _; first | refine W.ct ?_ | refine W.cf ?_) | (show W _ _ _ _ _ _ (.ins (cond _ _ _ :: _) :: _) _ _; first | refine W.gt ?_ | refine W.gf ?_) | (show W _ _ _ _ _ _ [] _ _; refine W.of (.done ?_)) | (apply W.of; constructor <;> first | (show W _ _ _ _ _ _ _ _ _) | (intro (al : Nat) h st; show W _ _ _ _ _ _ _ _ _) | (intro _ h st; show W _ _ _ _ _ _ _ _ _) | exact Sd))); refine W.call (hs := (po_Slots (P := P))) (w := ?_); rintro vv _ ⟨rfl, rfl⟩ h st; refine nj ?_; dsimp only [List.cons_append, List.nil_append] at st
      rw [show slotsZ [none] 1 = 0 from rfl]
      (repeat (first | (show W _ _ _ _ _ _ (.code (cond _ _ _) :: _) _ _; first | refine W.ct ?_ | refine W.cf ?_) | (show W _ _ _ _ _ _ (.ins (cond _ _ _ :: _) :: _) _ _; first | refine W.gt ?_ | refine W.gf ?_) | (show W _ _ _ _ _ _ [] _ _; refine W.of (.done ?_)) | (apply W.of; constructor <;> first | (show W _ _ _ _ _ _ _ _ _) | (intro (al : Nat) h st; show W _ _ _ _ _ _ _ _ _) | (intro _ h st; show W _ _ _ _ _ _ _ _ _) | exact Sd))); refine W.call (hs := law13_lives) (w := ?_); rintro vv _ ⟨rfl, rfl⟩ h st; refine nj ?_; dsimp only [List.cons_append, List.nil_append] at st
      (repeat (first | (show W _ _ _ _ _ _ (.code (cond _ _ _) :: _) _ _; first | refine W.ct ?_ | refine W.cf ?_) | (show W _ _ _ _ _ _ (.ins (cond _ _ _ :: _) :: _) _ _; first | refine W.gt ?_ | refine W.gf ?_) | (show W _ _ _ _ _ _ [] _ _; refine W.of (.done ?_)) | (apply W.of; constructor <;> first | (show W _ _ _ _ _ _ _ _ _) | (intro (al : Nat) h st; show W _ _ _ _ _ _ _ _ _) | (intro _ h st; show W _ _ _ _ _ _ _ _ _) | exact Sd)))
      exact ⟨_, rfl, [_, _, _, _, _], rfl, st⟩
    · have ep : poolOf O cs an = [some ⟨O, cs, an⟩] := by rw [poolOf, if_neg h0]
      (repeat (first | (show W _ _ _ _ _ _ (.code (cond _ _ _) :: _) _ _; first | refine W.ct ?_ | refine W.cf ?_) | (show W _ _ _ _ _ _ (.ins (cond _ _ _ :: _) :: _) _ _; first | refine W.gt ?_ | refine W.gf ?_) | (show W _ _ _ _ _ _ [] _ _; refine W.of (.done ?_)) | (apply W.of; constructor <;> first | (show W _ _ _ _ _ _ _ _ _) | (intro (al : Nat) h st; show W _ _ _ _ _ _ _ _ _) | (intro _ h st; show W _ _ _ _ _ _ _ _ _) | exact Sd)))
      refine W.loop (fun q : Nat => (268, .int .i64 cs.length) :: (269, .int .i64 q) :: cvE P j cv iv v acts.length i nx) (fun _ => cvG P cv iv v acts F O cs an) (fun q => q ≤ j) (fun q => j - q) 0 (small_rounds (by omega)) Sbs st (Nat.zero_le _) ?_
      clear st
      intro q h hq st
      by_cases hqj : q < j
      · obtain ⟨c, hc⟩ : ∃ c, cs[q]? = some c := ⟨cs[q]'(by omega), by simp⟩
        obtain ⟨x, hx⟩ : ∃ x, an[q]? = some x := ⟨an[q]'(by omega), by simp⟩
        have hc0 := h3 c (List.mem_of_getElem? hc)
        have hcv : coverZ (poolOf O cs an) 1 (q : Nat) = c := by
          rw [ep]
          show (if 0 > atL cs (q : Nat) then 0 else atL cs (q : Nat)) = c
          have : atL cs (q : Nat) = c := by rw [atL, if_pos ⟨by omega, by omega⟩, Int.toNat_natCast, hc]; rfl
          rw [this, if_neg (by omega)]
        have hgx : getZ (poolOf O cs an) 1 (q : Nat) = x := by rw [ep]; exact get1 (a := ⟨O, cs, an⟩) rfl hx
        obtain ⟨gp, gq⟩ := d_vsIdx (v := cv) (l := cs.map ikey) (i := q) (kk := .i64) st Tk (by rw [List.length_map]; omega)
        have hcm : (cs.map ikey)[q]? = some (ikey c) := by rw [List.getElem?_map, hc]; rfl
        have hxm : (an.map ikey)[q]? = some (ikey x) := by rw [List.getElem?_map, hx]; rfl
        (repeat (first | (show W _ _ _ _ _ _ (.code (cond _ _ _) :: _) _ _; first | refine W.ct ?_ | refine W.cf ?_) | (show W _ _ _ _ _ _ (.ins (cond _ _ _ :: _) :: _) _ _; first | refine W.gt ?_ | refine W.gf ?_) | (show W _ _ _ _ _ _ [] _ _; refine W.of (.done ?_)) | (apply W.of; constructor <;> first | (show W _ _ _ _ _ _ _ _ _) | (intro (al : Nat) h st; show W _ _ _ _ _ _ _ _ _) | (intro _ h st; show W _ _ _ _ _ _ _ _ _) | exact Sd))); refine W.do (ho := gp) (w := ?_)
        (repeat (first | (show W _ _ _ _ _ _ (.code (cond _ _ _) :: _) _ _; first | refine W.ct ?_ | refine W.cf ?_) | (show W _ _ _ _ _ _ (.ins (cond _ _ _ :: _) :: _) _ _; first | refine W.gt ?_ | refine W.gf ?_) | (show W _ _ _ _ _ _ [] _ _; refine W.of (.done ?_)) | (apply W.of; constructor <;> first | (show W _ _ _ _ _ _ _ _ _) | (intro (al : Nat) h st; show W _ _ _ _ _ _ _ _ _) | (intro _ h st; show W _ _ _ _ _ _ _ _ _) | exact Sd))); refine W.do (ho := (d_vsLoad (v := cv) (l := cs.map ikey) (x := ikey c) st Tk hcm)) (w := ?_)
        (repeat (first | (show W _ _ _ _ _ _ (.code (cond _ _ _) :: _) _ _; first | refine W.ct ?_ | refine W.cf ?_) | (show W _ _ _ _ _ _ (.ins (cond _ _ _ :: _) :: _) _ _; first | refine W.gt ?_ | refine W.gf ?_) | (show W _ _ _ _ _ _ [] _ _; refine W.of (.done ?_)) | (apply W.of; constructor <;> first | (show W _ _ _ _ _ _ _ _ _) | (intro (al : Nat) h st; show W _ _ _ _ _ _ _ _ _) | (intro _ h st; show W _ _ _ _ _ _ _ _ _) | exact Sd))); refine W.call (hs := (po_Cover (P := P))) (w := ?_); rintro vv _ ⟨rfl, rfl⟩ h st; refine nj ?_; dsimp only [List.cons_append, List.nil_append] at st
        rw [hcv]
        (repeat (first | (show W _ _ _ _ _ _ (.code (cond _ _ _) :: _) _ _; first | refine W.ct ?_ | refine W.cf ?_) | (show W _ _ _ _ _ _ (.ins (cond _ _ _ :: _) :: _) _ _; first | refine W.gt ?_ | refine W.gf ?_) | (show W _ _ _ _ _ _ [] _ _; refine W.of (.done ?_)) | (apply W.of; constructor <;> first | (show W _ _ _ _ _ _ _ _ _) | (intro (al : Nat) h st; show W _ _ _ _ _ _ _ _ _) | (intro _ h st; show W _ _ _ _ _ _ _ _ _) | exact Sd))); refine W.of (.ag (.dz rfl rfl (d_vsLoad (v := cv) (l := cs.map ikey) (x := ikey c) st Tk hcm) rfl .nil) ?_)
        (repeat (first | (show W _ _ _ _ _ _ (.code (cond _ _ _) :: _) _ _; first | refine W.ct ?_ | refine W.cf ?_) | (show W _ _ _ _ _ _ (.ins (cond _ _ _ :: _) :: _) _ _; first | refine W.gt ?_ | refine W.gf ?_) | (show W _ _ _ _ _ _ [] _ _; refine W.of (.done ?_)) | (apply W.of; constructor <;> first | (show W _ _ _ _ _ _ _ _ _) | (intro (al : Nat) h st; show W _ _ _ _ _ _ _ _ _) | (intro _ h st; show W _ _ _ _ _ _ _ _ _) | exact Sd)))
        rw [neqS]
        obtain ⟨fp, fq⟩ := d_vsIdx (v := iv) (l := an.map ikey) (i := q) (kk := .i64) st Tk (by rw [List.length_map]; omega)
        (repeat (first | (show W _ _ _ _ _ _ (.code (cond _ _ _) :: _) _ _; first | refine W.ct ?_ | refine W.cf ?_) | (show W _ _ _ _ _ _ (.ins (cond _ _ _ :: _) :: _) _ _; first | refine W.gt ?_ | refine W.gf ?_) | (show W _ _ _ _ _ _ [] _ _; refine W.of (.done ?_)) | (apply W.of; constructor <;> first | (show W _ _ _ _ _ _ _ _ _) | (intro (al : Nat) h st; show W _ _ _ _ _ _ _ _ _) | (intro _ h st; show W _ _ _ _ _ _ _ _ _) | exact Sd))); refine W.do (ho := fp) (w := ?_)
        (repeat (first | (show W _ _ _ _ _ _ (.code (cond _ _ _) :: _) _ _; first | refine W.ct ?_ | refine W.cf ?_) | (show W _ _ _ _ _ _ (.ins (cond _ _ _ :: _) :: _) _ _; first | refine W.gt ?_ | refine W.gf ?_) | (show W _ _ _ _ _ _ [] _ _; refine W.of (.done ?_)) | (apply W.of; constructor <;> first | (show W _ _ _ _ _ _ _ _ _) | (intro (al : Nat) h st; show W _ _ _ _ _ _ _ _ _) | (intro _ h st; show W _ _ _ _ _ _ _ _ _) | exact Sd))); refine W.do (ho := (d_vsLoad (v := iv) (l := an.map ikey) (x := ikey x) st Tk hxm)) (w := ?_)
        (repeat (first | (show W _ _ _ _ _ _ (.code (cond _ _ _) :: _) _ _; first | refine W.ct ?_ | refine W.cf ?_) | (show W _ _ _ _ _ _ (.ins (cond _ _ _ :: _) :: _) _ _; first | refine W.gt ?_ | refine W.gf ?_) | (show W _ _ _ _ _ _ [] _ _; refine W.of (.done ?_)) | (apply W.of; constructor <;> first | (show W _ _ _ _ _ _ _ _ _) | (intro (al : Nat) h st; show W _ _ _ _ _ _ _ _ _) | (intro _ h st; show W _ _ _ _ _ _ _ _ _) | exact Sd))); refine W.call (hs := (po_Get (P := P))) (w := ?_); rintro vv _ ⟨rfl, rfl⟩ h st; refine nj ?_; dsimp only [List.cons_append, List.nil_append] at st
        rw [hgx]
        (repeat (first | (show W _ _ _ _ _ _ (.code (cond _ _ _) :: _) _ _; first | refine W.ct ?_ | refine W.cf ?_) | (show W _ _ _ _ _ _ (.ins (cond _ _ _ :: _) :: _) _ _; first | refine W.gt ?_ | refine W.gf ?_) | (show W _ _ _ _ _ _ [] _ _; refine W.of (.done ?_)) | (apply W.of; constructor <;> first | (show W _ _ _ _ _ _ _ _ _) | (intro (al : Nat) h st; show W _ _ _ _ _ _ _ _ _) | (intro _ h st; show W _ _ _ _ _ _ _ _ _) | exact Sd))); refine W.of (.ag (.gd rfl (.dz rfl rfl (d_vsLoad (v := iv) (l := an.map ikey) (x := ikey x) st Tk hxm) rfl .nil)) ?_)
        (repeat (first | (show W _ _ _ _ _ _ (.code (cond _ _ _) :: _) _ _; first | refine W.ct ?_ | refine W.cf ?_) | (show W _ _ _ _ _ _ (.ins (cond _ _ _ :: _) :: _) _ _; first | refine W.gt ?_ | refine W.gf ?_) | (show W _ _ _ _ _ _ [] _ _; refine W.of (.done ?_)) | (apply W.of; constructor <;> first | (show W _ _ _ _ _ _ _ _ _) | (intro (al : Nat) h st; show W _ _ _ _ _ _ _ _ _) | (intro _ h st; show W _ _ _ _ _ _ _ _ _) | exact Sd)))
        rw [neqS]
        (repeat (first | (show W _ _ _ _ _ _ (.code (cond _ _ _) :: _) _ _; first | refine W.ct ?_ | refine W.cf ?_) | (show W _ _ _ _ _ _ (.ins (cond _ _ _ :: _) :: _) _ _; first | refine W.gt ?_ | refine W.gf ?_) | (show W _ _ _ _ _ _ [] _ _; refine W.of (.done ?_)) | (apply W.of; constructor <;> first | (show W _ _ _ _ _ _ _ _ _) | (intro (al : Nat) h st; show W _ _ _ _ _ _ _ _ _) | (intro _ h st; show W _ _ _ _ _ _ _ _ _) | exact Sd)))
        refine W.of (.lp ?_)
        exact ⟨q + 1, by omega, hqj, Sbs, st⟩
      · (repeat (first | (show W _ _ _ _ _ _ (.code (cond _ _ _) :: _) _ _; first | refine W.ct ?_ | refine W.cf ?_) | (show W _ _ _ _ _ _ (.ins (cond _ _ _ :: _) :: _) _ _; first | refine W.gt ?_ | refine W.gf ?_) | (show W _ _ _ _ _ _ [] _ _; refine W.of (.done ?_)) | (apply W.of; constructor <;> first | (show W _ _ _ _ _ _ _ _ _) | (intro (al : Nat) h st; show W _ _ _ _ _ _ _ _ _) | (intro _ h st; show W _ _ _ _ _ _ _ _ _) | exact Sd)))
        refine W.of (.lp ?_)
        exact ⟨⟨i + 1, O, cs, an, nx⟩, by simp only; omega, ⟨hlt, h1, h2, h3, h4, h0, h5, h6⟩, Sbs, st⟩
end Go.Proofs.Ytjdemlagmamlbaa

namespace Go.Proofs.Ytjdemlagmamlbaa
variable {P : Nat}
theorem poolOf_some {O : Nat} {cs an : List Int} (h : cs.sum ≠ 0) : poolOf O cs an = [some ⟨O, cs, an⟩] := by rw [poolOf, if_neg h]
theorem atPool {O : Nat} {cs an : List Int} (h : cs.sum ≠ 0) : atZ (poolOf O cs an) 1 = some ⟨O, cs, an⟩ := by rw [poolOf_some h]; rfl
theorem covPool {O q : Nat} {cs an : List Int} {c : Int} (h : cs.sum ≠ 0) (hc : cs[q]? = some c) (h0 : 0 ≤ c) : coverZ (poolOf O cs an) 1 (q : Nat) = c := by
  have hq := (List.getElem?_eq_some_iff.1 hc).1
  rw [poolOf_some h]
  show (if 0 > atL cs (q : Nat) then 0 else atL cs (q : Nat)) = c
  have : atL cs (q : Nat) = c := by rw [atL, if_pos ⟨by omega, by omega⟩, Int.toNat_natCast, hc]; rfl
  rw [this, if_neg (by omega)]
set_option maxRecDepth 8000 in
theorem cv_k1 {n O i : Nat} {cv iv v : AV} {acts : List AcP} {F : List Chunk} {h : AHeap} {cs an : List Int} {nx : Int} {x : AcP} (hx : acts[i]? = some x) (hk : x.kind = 1) (h80 : acts.length ≤ 80) (hn1 : 1 ≤ n) (hn : n ≤ 12) (hok : CvOk n i cs an nx)
    (st : St h (cvG P cv iv v acts F O cs an)) :
    W over tab none c_law13_AmapCovers.ntmps (cvQ F) .normal (.code c_law13_AmapCovers_L1 :: .lp (cvJ P n cv iv v acts F i) :: cvK) (cvE P n cv iv v acts.length i nx) h := by
  have hlt := (List.getElem?_eq_some_iff.1 hx).1
  obtain ⟨cl, cj, cs'⟩ := St.ivs (v := cv) (cs := cs) st Tk
  obtain ⟨il, ij, is'⟩ := St.ivs (v := iv) (cs := an) st Tk
  have hcl := hok.cl
  have hal := hok.an
  obtain ⟨gp, gq⟩ := d_arIdx (kk := .i64) st Tk hlt
  obtain ⟨A, hA⟩ : ∃ A, A = uN x.lo % n := ⟨_, rfl⟩
  have hAn : A < n := by rw [hA]; exact Nat.mod_lt _ (by omega)
  obtain ⟨E, hE⟩ : ∃ E, E = uN x.hi % (n - A) := ⟨_, rfl⟩
  have hEn : E < n - A := by rw [hE]; exact Nat.mod_lt _ (by omega)
  (repeat (first | (show W _ _ _ _ _ _ (.code (cond _ _ _) :: _) _ _; first | refine W.ct ?_ | refine W.cf ?_) | (show W _ _ _ _ _ _ (.ins (cond _ _ _ :: _) :: _) _ _; first | refine W.gt ?_ | refine W.gf ?_) | (show W _ _ _ _ _ _ [] _ _; refine W.of (.done ?_)) | (apply W.of; constructor <;> first | (show W _ _ _ _ _ _ _ _ _) | (intro (al : Nat) h st; show W _ _ _ _ _ _ _ _ _) | (intro _ h st; show W _ _ _ _ _ _ _ _ _) | exact Sd))); refine W.do (ho := gp) (w := ?_)
  (repeat (first | (show W _ _ _ _ _ _ (.code (cond _ _ _) :: _) _ _; first | refine W.ct ?_ | refine W.cf ?_) | (show W _ _ _ _ _ _ (.ins (cond _ _ _ :: _) :: _) _ _; first | refine W.gt ?_ | refine W.gf ?_) | (show W _ _ _ _ _ _ [] _ _; refine W.of (.done ?_)) | (apply W.of; constructor <;> first | (show W _ _ _ _ _ _ _ _ _) | (intro (al : Nat) h st; show W _ _ _ _ _ _ _ _ _) | (intro _ h st; show W _ _ _ _ _ _ _ _ _) | exact Sd))); refine W.do (ho := (d_loadar st Tk hx)) (w := ?_)
  (repeat (first | (show W _ _ _ _ _ _ (.code (cond _ _ _) :: _) _ _; first | refine W.ct ?_ | refine W.cf ?_) | (show W _ _ _ _ _ _ (.ins (cond _ _ _ :: _) :: _) _ _; first | refine W.gt ?_ | refine W.gf ?_) | (show W _ _ _ _ _ _ [] _ _; refine W.of (.done ?_)) | (apply W.of; constructor <;> first | (show W _ _ _ _ _ _ _ _ _) | (intro (al : Nat) h st; show W _ _ _ _ _ _ _ _ _) | (intro _ h st; show W _ _ _ _ _ _ _ _ _) | exact Sd)))
  rw [uN_eq x.lo, uN_nat (n := n) (by omega)]
  (repeat (first | (show W _ _ _ _ _ _ (.code (cond _ _ _) :: _) _ _; first | refine W.ct ?_ | refine W.cf ?_) | (show W _ _ _ _ _ _ (.ins (cond _ _ _ :: _) :: _) _ _; first | refine W.gt ?_ | refine W.gf ?_) | (show W _ _ _ _ _ _ [] _ _; refine W.of (.done ?_)) | (apply W.of; constructor <;> first | (show W _ _ _ _ _ _ _ _ _) | (intro (al : Nat) h st; show W _ _ _ _ _ _ _ _ _) | (intro _ h st; show W _ _ _ _ _ _ _ _ _) | exact Sd))); refine W.do (ho := (d_remN (a := uN x.lo) (b := n) (by omega))) (w := ?_)
  rw [← hA]
  (repeat (first | (show W _ _ _ _ _ _ (.code (cond _ _ _) :: _) _ _; first | refine W.ct ?_ | refine W.cf ?_) | (show W _ _ _ _ _ _ (.ins (cond _ _ _ :: _) :: _) _ _; first | refine W.gt ?_ | refine W.gf ?_) | (show W _ _ _ _ _ _ [] _ _; refine W.of (.done ?_)) | (apply W.of; constructor <;> first | (show W _ _ _ _ _ _ _ _ _) | (intro (al : Nat) h st; show W _ _ _ _ _ _ _ _ _) | (intro _ h st; show W _ _ _ _ _ _ _ _ _) | exact Sd)))
  rw [wrap64 (n := (A : Int)) (by omega) (by omega)]
  (repeat (first | (show W _ _ _ _ _ _ (.code (cond _ _ _) :: _) _ _; first | refine W.ct ?_ | refine W.cf ?_) | (show W _ _ _ _ _ _ (.ins (cond _ _ _ :: _) :: _) _ _; first | refine W.gt ?_ | refine W.gf ?_) | (show W _ _ _ _ _ _ [] _ _; refine W.of (.done ?_)) | (apply W.of; constructor <;> first | (show W _ _ _ _ _ _ _ _ _) | (intro (al : Nat) h st; show W _ _ _ _ _ _ _ _ _) | (intro _ h st; show W _ _ _ _ _ _ _ _ _) | exact Sd)))
  rw [uN_eq x.hi, show (n : Int) - (A : Int) = ((n - A : Nat) : Int) by omega, uN_nat (n := n - A) (by omega)]
  (repeat (first | (show W _ _ _ _ _ _ (.code (cond _ _ _) :: _) _ _; first | refine W.ct ?_ | refine W.cf ?_) | (show W _ _ _ _ _ _ (.ins (cond _ _ _ :: _) :: _) _ _; first | refine W.gt ?_ | refine W.gf ?_) | (show W _ _ _ _ _ _ [] _ _; refine W.of (.done ?_)) | (apply W.of; constructor <;> first | (show W _ _ _ _ _ _ _ _ _) | (intro (al : Nat) h st; show W _ _ _ _ _ _ _ _ _) | (intro _ h st; show W _ _ _ _ _ _ _ _ _) | exact Sd))); refine W.do (ho := (d_remN (a := uN x.hi) (b := n - A) (by omega))) (w := ?_)
  rw [← hE]
  (repeat (first | (show W _ _ _ _ _ _ (.code (cond _ _ _) :: _) _ _; first | refine W.ct ?_ | refine W.cf ?_) | (show W _ _ _ _ _ _ (.ins (cond _ _ _ :: _) :: _) _ _; first | refine W.gt ?_ | refine W.gf ?_) | (show W _ _ _ _ _ _ [] _ _; refine W.of (.done ?_)) | (apply W.of; constructor <;> first | (show W _ _ _ _ _ _ _ _ _) | (intro (al : Nat) h st; show W _ _ _ _ _ _ _ _ _) | (intro _ h st; show W _ _ _ _ _ _ _ _ _) | exact Sd)))
  rw [wrap64 (n := (E : Int)) (by omega) (by omega)]
  (repeat (first | (show W _ _ _ _ _ _ (.code (cond _ _ _) :: _) _ _; first | refine W.ct ?_ | refine W.cf ?_) | (show W _ _ _ _ _ _ (.ins (cond _ _ _ :: _) :: _) _ _; first | refine W.gt ?_ | refine W.gf ?_) | (show W _ _ _ _ _ _ [] _ _; refine W.of (.done ?_)) | (apply W.of; constructor <;> first | (show W _ _ _ _ _ _ _ _ _) | (intro (al : Nat) h st; show W _ _ _ _ _ _ _ _ _) | (intro _ h st; show W _ _ _ _ _ _ _ _ _) | exact Sd)))
  obtain ⟨c, hc⟩ : ∃ c, cs[A]? = some c := ⟨cs[A]'(by omega), by simp⟩
  obtain ⟨y, hy⟩ : ∃ y, an[A]? = some y := ⟨an[A]'(by omega), by simp⟩
  have hc0 := hok.lo c (List.mem_of_getElem? hc)
  have hcv := covPool (O := O) (an := an) hok.s hc hc0
  have hcm : (cs.map ikey)[A]? = some (ikey c) := by rw [List.getElem?_map, hc]; rfl
  have hym : (an.map ikey)[A]? = some (ikey y) := by rw [List.getElem?_map, hy]; rfl
  have hnx := hok.n0
  have hnx1 := hok.n1
  by_cases hcz : c = 0
  · (repeat (first | (show W _ _ _ _ _ _ (.code (cond _ _ _) :: _) _ _; first | refine W.ct ?_ | refine W.cf ?_) | (show W _ _ _ _ _ _ (.ins (cond _ _ _ :: _) :: _) _ _; first | refine W.gt ?_ | refine W.gf ?_) | (show W _ _ _ _ _ _ [] _ _; refine W.of (.done ?_)) | (apply W.of; constructor <;> first | (show W _ _ _ _ _ _ _ _ _) | (intro (al : Nat) h st; show W _ _ _ _ _ _ _ _ _) | (intro _ h st; show W _ _ _ _ _ _ _ _ _) | exact Sd))); refine W.call (hs := (po_Set_no (P := P) (most := 1) (zs := poolOf O cs an) (a := ⟨O, cs, an⟩) (id := 1) (slot := (A : Nat)) (x := nx) (atPool hok.s) (.inl (by rw [hcv, hcz])))) (w := ?_); rintro vv _ ⟨rfl, rfl⟩ h st; refine nj ?_; dsimp only [List.cons_append, List.nil_append] at st
    (repeat (first | (show W _ _ _ _ _ _ (.code (cond _ _ _) :: _) _ _; first | refine W.ct ?_ | refine W.cf ?_) | (show W _ _ _ _ _ _ (.ins (cond _ _ _ :: _) :: _) _ _; first | refine W.gt ?_ | refine W.gf ?_) | (show W _ _ _ _ _ _ [] _ _; refine W.of (.done ?_)) | (apply W.of; constructor <;> first | (show W _ _ _ _ _ _ _ _ _) | (intro (al : Nat) h st; show W _ _ _ _ _ _ _ _ _) | (intro _ h st; show W _ _ _ _ _ _ _ _ _) | exact Sd)))
    obtain ⟨gp, gq⟩ := d_vsIdx (v := cv) (l := cs.map ikey) (i := A) (kk := .i64) st Tk (by rw [List.length_map]; omega)
    (repeat (first | (show W _ _ _ _ _ _ (.code (cond _ _ _) :: _) _ _; first | refine W.ct ?_ | refine W.cf ?_) | (show W _ _ _ _ _ _ (.ins (cond _ _ _ :: _) :: _) _ _; first | refine W.gt ?_ | refine W.gf ?_) | (show W _ _ _ _ _ _ [] _ _; refine W.of (.done ?_)) | (apply W.of; constructor <;> first | (show W _ _ _ _ _ _ _ _ _) | (intro (al : Nat) h st; show W _ _ _ _ _ _ _ _ _) | (intro _ h st; show W _ _ _ _ _ _ _ _ _) | exact Sd))); refine W.do (ho := gp) (w := ?_)
    (repeat (first | (show W _ _ _ _ _ _ (.code (cond _ _ _) :: _) _ _; first | refine W.ct ?_ | refine W.cf ?_) | (show W _ _ _ _ _ _ (.ins (cond _ _ _ :: _) :: _) _ _; first | refine W.gt ?_ | refine W.gf ?_) | (show W _ _ _ _ _ _ [] _ _; refine W.of (.done ?_)) | (apply W.of; constructor <;> first | (show W _ _ _ _ _ _ _ _ _) | (intro (al : Nat) h st; show W _ _ _ _ _ _ _ _ _) | (intro _ h st; show W _ _ _ _ _ _ _ _ _) | exact Sd))); refine W.do (ho := (d_vsLoad (v := cv) (l := cs.map ikey) (x := ikey c) st Tk hcm)) (w := ?_)
    (repeat (first | (show W _ _ _ _ _ _ (.code (cond _ _ _) :: _) _ _; first | refine W.ct ?_ | refine W.cf ?_) | (show W _ _ _ _ _ _ (.ins (cond _ _ _ :: _) :: _) _ _; first | refine W.gt ?_ | refine W.gf ?_) | (show W _ _ _ _ _ _ [] _ _; refine W.of (.done ?_)) | (apply W.of; constructor <;> first | (show W _ _ _ _ _ _ _ _ _) | (intro (al : Nat) h st; show W _ _ _ _ _ _ _ _ _) | (intro _ h st; show W _ _ _ _ _ _ _ _ _) | exact Sd)))
    rw [show decide (c > 0) = false by simp [hcz]]
    (repeat (first | (show W _ _ _ _ _ _ (.code (cond _ _ _) :: _) _ _; first | refine W.ct ?_ | refine W.cf ?_) | (show W _ _ _ _ _ _ (.ins (cond _ _ _ :: _) :: _) _ _; first | refine W.gt ?_ | refine W.gf ?_) | (show W _ _ _ _ _ _ [] _ _; refine W.of (.done ?_)) | (apply W.of; constructor <;> first | (show W _ _ _ _ _ _ _ _ _) | (intro (al : Nat) h st; show W _ _ _ _ _ _ _ _ _) | (intro _ h st; show W _ _ _ _ _ _ _ _ _) | exact Sd)))
    have hn4 : ∀ c, c ∈ cs → c ≤ 1 + ((i + 1 : Nat) : Int) := fun c hc => by have := hok.hi c hc; omega
    rw [hcl]
    exact W.sub Sbs (cv_tail (O := O) (cs := cs) (an := an) (nx := nx) hlt h80 hn1 hn hcl hal hok.lo hn4 hnx (by omega) (st.sel Sels))
  · (repeat (first | (show W _ _ _ _ _ _ (.code (cond _ _ _) :: _) _ _; first | refine W.ct ?_ | refine W.cf ?_) | (show W _ _ _ _ _ _ (.ins (cond _ _ _ :: _) :: _) _ _; first | refine W.gt ?_ | refine W.gf ?_) | (show W _ _ _ _ _ _ [] _ _; refine W.of (.done ?_)) | (apply W.of; constructor <;> first | (show W _ _ _ _ _ _ _ _ _) | (intro (al : Nat) h st; show W _ _ _ _ _ _ _ _ _) | (intro _ h st; show W _ _ _ _ _ _ _ _ _) | exact Sd))); refine W.call (hs := (po_Set_ok (P := P) (most := 1) (zs := poolOf O cs an) (a := ⟨O, cs, an⟩) (id := 1) (slot := (A : Nat)) (x := nx) (atPool hok.s) (by rw [hcv]; omega))) (w := ?_); rintro vv _ ⟨rfl, rfl⟩ h st; refine nj ?_; dsimp only [List.cons_append, List.nil_append] at st
    have hgt : getZ (poolOf O cs an) 1 (A : Nat) = y := by rw [poolOf_some hok.s]; exact get1 (a := ⟨O, cs, an⟩) rfl hy
    have es : setZ (poolOf O cs an) 1 (A : Nat) nx = poolOf O cs (an.set A nx) := by
      unfold setZ
      rw [atPool hok.s, poolOf_some hok.s, poolOf_some hok.s]; rfl
    rw [hgt]
    rw [es] at st
    (repeat (first | (show W _ _ _ _ _ _ (.code (cond _ _ _) :: _) _ _; first | refine W.ct ?_ | refine W.cf ?_) | (show W _ _ _ _ _ _ (.ins (cond _ _ _ :: _) :: _) _ _; first | refine W.gt ?_ | refine W.gf ?_) | (show W _ _ _ _ _ _ [] _ _; refine W.of (.done ?_)) | (apply W.of; constructor <;> first | (show W _ _ _ _ _ _ _ _ _) | (intro (al : Nat) h st; show W _ _ _ _ _ _ _ _ _) | (intro _ h st; show W _ _ _ _ _ _ _ _ _) | exact Sd)))
    obtain ⟨gp, gq⟩ := d_vsIdx (v := cv) (l := cs.map ikey) (i := A) (kk := .i64) st Tk (by rw [List.length_map]; omega)
    (repeat (first | (show W _ _ _ _ _ _ (.code (cond _ _ _) :: _) _ _; first | refine W.ct ?_ | refine W.cf ?_) | (show W _ _ _ _ _ _ (.ins (cond _ _ _ :: _) :: _) _ _; first | refine W.gt ?_ | refine W.gf ?_) | (show W _ _ _ _ _ _ [] _ _; refine W.of (.done ?_)) | (apply W.of; constructor <;> first | (show W _ _ _ _ _ _ _ _ _) | (intro (al : Nat) h st; show W _ _ _ _ _ _ _ _ _) | (intro _ h st; show W _ _ _ _ _ _ _ _ _) | exact Sd))); refine W.do (ho := gp) (w := ?_)
    (repeat (first | (show W _ _ _ _ _ _ (.code (cond _ _ _) :: _) _ _; first | refine W.ct ?_ | refine W.cf ?_) | (show W _ _ _ _ _ _ (.ins (cond _ _ _ :: _) :: _) _ _; first | refine W.gt ?_ | refine W.gf ?_) | (show W _ _ _ _ _ _ [] _ _; refine W.of (.done ?_)) | (apply W.of; constructor <;> first | (show W _ _ _ _ _ _ _ _ _) | (intro (al : Nat) h st; show W _ _ _ _ _ _ _ _ _) | (intro _ h st; show W _ _ _ _ _ _ _ _ _) | exact Sd))); refine W.do (ho := (d_vsLoad (v := cv) (l := cs.map ikey) (x := ikey c) st Tk hcm)) (w := ?_)
    (repeat (first | (show W _ _ _ _ _ _ (.code (cond _ _ _) :: _) _ _; first | refine W.ct ?_ | refine W.cf ?_) | (show W _ _ _ _ _ _ (.ins (cond _ _ _ :: _) :: _) _ _; first | refine W.gt ?_ | refine W.gf ?_) | (show W _ _ _ _ _ _ [] _ _; refine W.of (.done ?_)) | (apply W.of; constructor <;> first | (show W _ _ _ _ _ _ _ _ _) | (intro (al : Nat) h st; show W _ _ _ _ _ _ _ _ _) | (intro _ h st; show W _ _ _ _ _ _ _ _ _) | exact Sd)))
    rw [show decide (c > 0) = true by simp; omega]
    (repeat (first | (show W _ _ _ _ _ _ (.code (cond _ _ _) :: _) _ _; first | refine W.ct ?_ | refine W.cf ?_) | (show W _ _ _ _ _ _ (.ins (cond _ _ _ :: _) :: _) _ _; first | refine W.gt ?_ | refine W.gf ?_) | (show W _ _ _ _ _ _ [] _ _; refine W.of (.done ?_)) | (apply W.of; constructor <;> first | (show W _ _ _ _ _ _ _ _ _) | (intro (al : Nat) h st; show W _ _ _ _ _ _ _ _ _) | (intro _ h st; show W _ _ _ _ _ _ _ _ _) | exact Sd)))
    obtain ⟨fp, fq⟩ := d_vsIdx (v := iv) (l := an.map ikey) (i := A) (kk := .i64) st Tk (by rw [List.length_map]; omega)
    (repeat (first | (show W _ _ _ _ _ _ (.code (cond _ _ _) :: _) _ _; first | refine W.ct ?_ | refine W.cf ?_) | (show W _ _ _ _ _ _ (.ins (cond _ _ _ :: _) :: _) _ _; first | refine W.gt ?_ | refine W.gf ?_) | (show W _ _ _ _ _ _ [] _ _; refine W.of (.done ?_)) | (apply W.of; constructor <;> first | (show W _ _ _ _ _ _ _ _ _) | (intro (al : Nat) h st; show W _ _ _ _ _ _ _ _ _) | (intro _ h st; show W _ _ _ _ _ _ _ _ _) | exact Sd))); refine W.do (ho := fp) (w := ?_)
    (repeat (first | (show W _ _ _ _ _ _ (.code (cond _ _ _) :: _) _ _; first | refine W.ct ?_ | refine W.cf ?_) | (show W _ _ _ _ _ _ (.ins (cond _ _ _ :: _) :: _) _ _; first | refine W.gt ?_ | refine W.gf ?_) | (show W _ _ _ _ _ _ [] _ _; refine W.of (.done ?_)) | (apply W.of; constructor <;> first | (show W _ _ _ _ _ _ _ _ _) | (intro (al : Nat) h st; show W _ _ _ _ _ _ _ _ _) | (intro _ h st; show W _ _ _ _ _ _ _ _ _) | exact Sd))); refine W.do (ho := (d_vsLoad (v := iv) (l := an.map ikey) (x := ikey y) st Tk hym)) (w := ?_)
    (repeat (first | (show W _ _ _ _ _ _ (.code (cond _ _ _) :: _) _ _; first | refine W.ct ?_ | refine W.cf ?_) | (show W _ _ _ _ _ _ (.ins (cond _ _ _ :: _) :: _) _ _; first | refine W.gt ?_ | refine W.gf ?_) | (show W _ _ _ _ _ _ [] _ _; refine W.of (.done ?_)) | (apply W.of; constructor <;> first | (show W _ _ _ _ _ _ _ _ _) | (intro (al : Nat) h st; show W _ _ _ _ _ _ _ _ _) | (intro _ h st; show W _ _ _ _ _ _ _ _ _) | exact Sd)))
    rw [neqS]
    (repeat (first | (show W _ _ _ _ _ _ (.code (cond _ _ _) :: _) _ _; first | refine W.ct ?_ | refine W.cf ?_) | (show W _ _ _ _ _ _ (.ins (cond _ _ _ :: _) :: _) _ _; first | refine W.gt ?_ | refine W.gf ?_) | (show W _ _ _ _ _ _ [] _ _; refine W.of (.done ?_)) | (apply W.of; constructor <;> first | (show W _ _ _ _ _ _ _ _ _) | (intro (al : Nat) h st; show W _ _ _ _ _ _ _ _ _) | (intro _ h st; show W _ _ _ _ _ _ _ _ _) | exact Sd)))
    (repeat (first | (show W _ _ _ _ _ _ (.code (cond _ _ _) :: _) _ _; first | refine W.ct ?_ | refine W.cf ?_) | (show W _ _ _ _ _ _ (.ins (cond _ _ _ :: _) :: _) _ _; first | refine W.gt ?_ | refine W.gf ?_) | (show W _ _ _ _ _ _ [] _ _; refine W.of (.done ?_)) | (apply W.of; constructor <;> first | (show W _ _ _ _ _ _ _ _ _) | (intro (al : Nat) h st; show W _ _ _ _ _ _ _ _ _) | (intro _ h st; show W _ _ _ _ _ _ _ _ _) | exact Sd))); refine W.do (ho := fp) (w := ?_)
    (repeat (first | (show W _ _ _ _ _ _ (.code (cond _ _ _) :: _) _ _; first | refine W.ct ?_ | refine W.cf ?_) | (show W _ _ _ _ _ _ (.ins (cond _ _ _ :: _) :: _) _ _; first | refine W.gt ?_ | refine W.gf ?_) | (show W _ _ _ _ _ _ [] _ _; refine W.of (.done ?_)) | (apply W.of; constructor <;> first | (show W _ _ _ _ _ _ _ _ _) | (intro (al : Nat) h st; show W _ _ _ _ _ _ _ _ _) | (intro _ h st; show W _ _ _ _ _ _ _ _ _) | exact Sd))); refine W.ef0 (ho := (e_vsStore (v := iv) (l := an.map ikey) (i := A) st Tk (by rw [List.length_map]; omega) rfl)) (w := ?_); rintro _ h ⟨_, st⟩
    rw [← List.map_set (f := ikey)] at st
    (repeat (first | (show W _ _ _ _ _ _ (.code (cond _ _ _) :: _) _ _; first | refine W.ct ?_ | refine W.cf ?_) | (show W _ _ _ _ _ _ (.ins (cond _ _ _ :: _) :: _) _ _; first | refine W.gt ?_ | refine W.gf ?_) | (show W _ _ _ _ _ _ [] _ _; refine W.of (.done ?_)) | (apply W.of; constructor <;> first | (show W _ _ _ _ _ _ _ _ _) | (intro (al : Nat) h st; show W _ _ _ _ _ _ _ _ _) | (intro _ h st; show W _ _ _ _ _ _ _ _ _) | exact Sd)))
    have hn4 : ∀ c, c ∈ cs → c ≤ 1 + ((i + 1 : Nat) : Int) := fun c hc => by have := hok.hi c hc; omega
    rw [hcl]
    exact W.sub Sbs (cv_tail (O := O) (cs := cs) (an := an.set A nx) (nx := nx + 1) hlt h80 hn1 hn hcl (by rw [List.length_set]; exact hal) hok.lo hn4 (by omega) (by omega) (st.sel Sels))
end Go.Proofs.Ytjdemlagmamlbaa

namespace Go.Proofs.Ytjdemlagmamlbaa
variable {P : Nat}
def allB (l : List Int) : Bool := l.all fun c => decide (c > 0)
theorem allB_snoc {l : List Int} {c : Int} : allB (l ++ [c]) = (allB l && decide (c > 0)) := by simp [allB]
theorem allB_iff {l : List Int} : allB l = true ↔ ∀ c, c ∈ l → c > 0 := by simp [allB]
theorem mem_sum {c : Int} : ∀ {l : List Int}, (∀ d, d ∈ l → 0 ≤ d) → c ∈ l → c ≤ l.sum
  | [], _, h => by simp at h
  | d :: l, h0, h => by
    have h1 := (sum_le (M := l.sum) (l := []) (by simp))
    have h2 := h0 d List.mem_cons_self
    have h3 : ∀ d, d ∈ l → 0 ≤ d := fun e he => h0 e (List.mem_cons_of_mem _ he)
    have h4 : 0 ≤ l.sum := by
      clear h1 h h0 h2
      induction l with
      | nil => simp
      | cons e l ih =>
        have := ih fun d hd => h3 d (List.mem_cons_of_mem _ hd)
        have := h3 e List.mem_cons_self
        simp only [List.sum_cons]; omega
    simp only [List.sum_cons]
    rcases List.mem_cons.1 h with rfl | h
    · omega
    · have := mem_sum h3 h; omega
theorem addL_mem {lo hi by' : Int} {cs : List Int} {d : Int} (h : d ∈ addL 0 cs lo hi by') : ∃ c, c ∈ cs ∧ (d = c ∨ d = c + by') := by
  obtain ⟨j, hj, e⟩ := List.getElem_of_mem h
  have h1 : (addL 0 cs lo hi by')[j]? = some d := by rw [List.getElem?_eq_getElem hj, e]
  rw [addL_get] at h1
  cases hc : cs[j]? with
  | none => rw [hc] at h1; cases h1
  | some c =>
    rw [hc] at h1
    simp only [Option.map_some, Option.some.injEq] at h1
    refine ⟨c, List.mem_of_getElem? hc, ?_⟩
    split at h1
    · exact .inr h1.symm
    · exact .inl h1.symm
set_option maxRecDepth 8000 in
theorem cv_k2 {n O i : Nat} {cv iv v : AV} {acts : List AcP} {F : List Chunk} {h : AHeap} {cs an : List Int} {nx : Int} {x : AcP} (hx : acts[i]? = some x) (hk : x.kind = 2) (h80 : acts.length ≤ 80) (hn1 : 1 ≤ n) (hn : n ≤ 12) (hok : CvOk n i cs an nx)
    (st : St h (cvG P cv iv v acts F O cs an)) :
    W over tab none c_law13_AmapCovers.ntmps (cvQ F) .normal (.code c_law13_AmapCovers_L1 :: .lp (cvJ P n cv iv v acts F i) :: cvK) (cvE P n cv iv v acts.length i nx) h := by
  have hlt := (List.getElem?_eq_some_iff.1 hx).1
  obtain ⟨cl, cj, cs'⟩ := St.ivs (v := cv) (cs := cs) st Tk
  obtain ⟨il, ij, is'⟩ := St.ivs (v := iv) (cs := an) st Tk
  have hcl := hok.cl
  have hal := hok.an
  obtain ⟨gp, gq⟩ := d_arIdx (kk := .i64) st Tk hlt
  obtain ⟨A, hA⟩ : ∃ A, A = uN x.lo % n := ⟨_, rfl⟩
  have hAn : A < n := by rw [hA]; exact Nat.mod_lt _ (by omega)
  obtain ⟨E, hE⟩ : ∃ E, E = uN x.hi % (n - A) := ⟨_, rfl⟩
  have hEn : E < n - A := by rw [hE]; exact Nat.mod_lt _ (by omega)
  (repeat (first | (show W _ _ _ _ _ _ (.code (cond _ _ _) :: _) _ _; first | refine W.ct ?_ | refine W.cf ?_) | (show W _ _ _ _ _ _ (.ins (cond _ _ _ :: _) :: _) _ _; first | refine W.gt ?_ | refine W.gf ?_) | (show W _ _ _ _ _ _ [] _ _; refine W.of (.done ?_)) | (apply W.of; constructor <;> first | (show W _ _ _ _ _ _ _ _ _) | (intro (al : Nat) h st; show W _ _ _ _ _ _ _ _ _) | (intro _ h st; show W _ _ _ _ _ _ _ _ _) | exact Sd))); refine W.do (ho := gp) (w := ?_)
  (repeat (first | (show W _ _ _ _ _ _ (.code (cond _ _ _) :: _) _ _; first | refine W.ct ?_ | refine W.cf ?_) | (show W _ _ _ _ _ _ (.ins (cond _ _ _ :: _) :: _) _ _; first | refine W.gt ?_ | refine W.gf ?_) | (show W _ _ _ _ _ _ [] _ _; refine W.of (.done ?_)) | (apply W.of; constructor <;> first | (show W _ _ _ _ _ _ _ _ _) | (intro (al : Nat) h st; show W _ _ _ _ _ _ _ _ _) | (intro _ h st; show W _ _ _ _ _ _ _ _ _) | exact Sd))); refine W.do (ho := (d_loadar st Tk hx)) (w := ?_)
  (repeat (first | (show W _ _ _ _ _ _ (.code (cond _ _ _) :: _) _ _; first | refine W.ct ?_ | refine W.cf ?_) | (show W _ _ _ _ _ _ (.ins (cond _ _ _ :: _) :: _) _ _; first | refine W.gt ?_ | refine W.gf ?_) | (show W _ _ _ _ _ _ [] _ _; refine W.of (.done ?_)) | (apply W.of; constructor <;> first | (show W _ _ _ _ _ _ _ _ _) | (intro (al : Nat) h st; show W _ _ _ _ _ _ _ _ _) | (intro _ h st; show W _ _ _ _ _ _ _ _ _) | exact Sd)))
  rw [uN_eq x.lo, uN_nat (n := n) (by omega)]
  (repeat (first | (show W _ _ _ _ _ _ (.code (cond _ _ _) :: _) _ _; first | refine W.ct ?_ | refine W.cf ?_) | (show W _ _ _ _ _ _ (.ins (cond _ _ _ :: _) :: _) _ _; first | refine W.gt ?_ | refine W.gf ?_) | (show W _ _ _ _ _ _ [] _ _; refine W.of (.done ?_)) | (apply W.of; constructor <;> first | (show W _ _ _ _ _ _ _ _ _) | (intro (al : Nat) h st; show W _ _ _ _ _ _ _ _ _) | (intro _ h st; show W _ _ _ _ _ _ _ _ _) | exact Sd))); refine W.do (ho := (d_remN (a := uN x.lo) (b := n) (by omega))) (w := ?_)
  rw [← hA]
  (repeat (first | (show W _ _ _ _ _ _ (.code (cond _ _ _) :: _) _ _; first | refine W.ct ?_ | refine W.cf ?_) | (show W _ _ _ _ _ _ (.ins (cond _ _ _ :: _) :: _) _ _; first | refine W.gt ?_ | refine W.gf ?_) | (show W _ _ _ _ _ _ [] _ _; refine W.of (.done ?_)) | (apply W.of; constructor <;> first | (show W _ _ _ _ _ _ _ _ _) | (intro (al : Nat) h st; show W _ _ _ _ _ _ _ _ _) | (intro _ h st; show W _ _ _ _ _ _ _ _ _) | exact Sd)))
  rw [wrap64 (n := (A : Int)) (by omega) (by omega)]
  (repeat (first | (show W _ _ _ _ _ _ (.code (cond _ _ _) :: _) _ _; first | refine W.ct ?_ | refine W.cf ?_) | (show W _ _ _ _ _ _ (.ins (cond _ _ _ :: _) :: _) _ _; first | refine W.gt ?_ | refine W.gf ?_) | (show W _ _ _ _ _ _ [] _ _; refine W.of (.done ?_)) | (apply W.of; constructor <;> first | (show W _ _ _ _ _ _ _ _ _) | (intro (al : Nat) h st; show W _ _ _ _ _ _ _ _ _) | (intro _ h st; show W _ _ _ _ _ _ _ _ _) | exact Sd)))
  rw [uN_eq x.hi, show (n : Int) - (A : Int) = ((n - A : Nat) : Int) by omega, uN_nat (n := n - A) (by omega)]
  (repeat (first | (show W _ _ _ _ _ _ (.code (cond _ _ _) :: _) _ _; first | refine W.ct ?_ | refine W.cf ?_) | (show W _ _ _ _ _ _ (.ins (cond _ _ _ :: _) :: _) _ _; first | refine W.gt ?_ | refine W.gf ?_) | (show W _ _ _ _ _ _ [] _ _; refine W.of (.done ?_)) | (apply W.of; constructor <;> first | (show W _ _ _ _ _ _ _ _ _) | (intro (al : Nat) h st; show W _ _ _ _ _ _ _ _ _) | (intro _ h st; show W _ _ _ _ _ _ _ _ _) | exact Sd))); refine W.do (ho := (d_remN (a := uN x.hi) (b := n - A) (by omega))) (w := ?_)
  rw [← hE]
  (repeat (first | (show W _ _ _ _ _ _ (.code (cond _ _ _) :: _) _ _; first | refine W.ct ?_ | refine W.cf ?_) | (show W _ _ _ _ _ _ (.ins (cond _ _ _ :: _) :: _) _ _; first | refine W.gt ?_ | refine W.gf ?_) | (show W _ _ _ _ _ _ [] _ _; refine W.of (.done ?_)) | (apply W.of; constructor <;> first | (show W _ _ _ _ _ _ _ _ _) | (intro (al : Nat) h st; show W _ _ _ _ _ _ _ _ _) | (intro _ h st; show W _ _ _ _ _ _ _ _ _) | exact Sd)))
  rw [wrap64 (n := (E : Int)) (by omega) (by omega)]
  (repeat (first | (show W _ _ _ _ _ _ (.code (cond _ _ _) :: _) _ _; first | refine W.ct ?_ | refine W.cf ?_) | (show W _ _ _ _ _ _ (.ins (cond _ _ _ :: _) :: _) _ _; first | refine W.gt ?_ | refine W.gf ?_) | (show W _ _ _ _ _ _ [] _ _; refine W.of (.done ?_)) | (apply W.of; constructor <;> first | (show W _ _ _ _ _ _ _ _ _) | (intro (al : Nat) h st; show W _ _ _ _ _ _ _ _ _) | (intro _ h st; show W _ _ _ _ _ _ _ _ _) | exact Sd)))
  obtain ⟨B, hB⟩ : ∃ B : Nat, B = A + 1 + E := ⟨_, rfl⟩
  rw [show (A : Int) + 1 + (E : Int) = (B : Int) by omega]
  have hsl : (slc cs (A : Int) (B : Int)).length = B - A := by rw [slc_len (by omega) (by omega) (by omega)]; omega
  refine W.loop (fun j : Nat => (15, .int .i64 A) :: (16, .int .i64 B) :: (19, .bool (allB ((slc cs (A : Int) (B : Int)).take j))) :: (20, .int .i64 ((A + j : Nat) : Int)) :: cvE P n cv iv v acts.length i nx) (fun _ => cvG P cv iv v acts F O cs an) (fun j => j ≤ B - A) (fun j => B - A - j) 0 (small_rounds (by omega)) Sbs (st.sel Sels) (Nat.zero_le _) ?_
  clear st
  intro j h hj st
  by_cases hjn : j < B - A
  · obtain ⟨c, hc⟩ : ∃ c, cs[A + j]? = some c := ⟨cs[A + j]'(by omega), by simp⟩
    have hcs : (slc cs (A : Int) (B : Int))[j]? = some c := by rw [slc_get (by omega) (by omega), Int.toNat_natCast]; exact hc
    have hcm : (cs.map ikey)[A + j]? = some (ikey c) := by rw [List.getElem?_map, hc]; rfl
    have es : allB ((slc cs (A : Int) (B : Int)).take (j + 1)) = (allB ((slc cs (A : Int) (B : Int)).take j) && decide (c > 0)) := by rw [take_snoc1 hcs, allB_snoc]
    cases hb : allB ((slc cs (A : Int) (B : Int)).take j) with
    | false =>
      rw [hb, Bool.false_and] at es
      (repeat (first | (show W _ _ _ _ _ _ (.code (cond _ _ _) :: _) _ _; first | refine W.ct ?_ | refine W.cf ?_) | (show W _ _ _ _ _ _ (.ins (cond _ _ _ :: _) :: _) _ _; first | refine W.gt ?_ | refine W.gf ?_) | (show W _ _ _ _ _ _ [] _ _; refine W.of (.done ?_)) | (apply W.of; constructor <;> first | (show W _ _ _ _ _ _ _ _ _) | (intro (al : Nat) h st; show W _ _ _ _ _ _ _ _ _) | (intro _ h st; show W _ _ _ _ _ _ _ _ _) | exact Sd)))
      refine W.of (.lp ?_)
      exact ⟨j + 1, by omega, hjn, ⟨rfl, rfl, by simp only [look]; rw [es], rfl, rfl, rfl, rfl, rfl, rfl, rfl, rfl, rfl, rfl, trivial⟩, st⟩
    | true =>
      rw [hb, Bool.true_and] at es
      obtain ⟨gp, gq⟩ := d_vsIdx (v := cv) (l := cs.map ikey) (i := A + j) (kk := .i64) st Tk (by rw [List.length_map]; omega)
      (repeat (first | (show W _ _ _ _ _ _ (.code (cond _ _ _) :: _) _ _; first | refine W.ct ?_ | refine W.cf ?_) | (show W _ _ _ _ _ _ (.ins (cond _ _ _ :: _) :: _) _ _; first | refine W.gt ?_ | refine W.gf ?_) | (show W _ _ _ _ _ _ [] _ _; refine W.of (.done ?_)) | (apply W.of; constructor <;> first | (show W _ _ _ _ _ _ _ _ _) | (intro (al : Nat) h st; show W _ _ _ _ _ _ _ _ _) | (intro _ h st; show W _ _ _ _ _ _ _ _ _) | exact Sd))); refine W.do (ho := gp) (w := ?_)
      (repeat (first | (show W _ _ _ _ _ _ (.code (cond _ _ _) :: _) _ _; first | refine W.ct ?_ | refine W.cf ?_) | (show W _ _ _ _ _ _ (.ins (cond _ _ _ :: _) :: _) _ _; first | refine W.gt ?_ | refine W.gf ?_) | (show W _ _ _ _ _ _ [] _ _; refine W.of (.done ?_)) | (apply W.of; constructor <;> first | (show W _ _ _ _ _ _ _ _ _) | (intro (al : Nat) h st; show W _ _ _ _ _ _ _ _ _) | (intro _ h st; show W _ _ _ _ _ _ _ _ _) | exact Sd))); refine W.do (ho := (d_vsLoad (v := cv) (l := cs.map ikey) (x := ikey c) st Tk hcm)) (w := ?_)
      (repeat (first | (show W _ _ _ _ _ _ (.code (cond _ _ _) :: _) _ _; first | refine W.ct ?_ | refine W.cf ?_) | (show W _ _ _ _ _ _ (.ins (cond _ _ _ :: _) :: _) _ _; first | refine W.gt ?_ | refine W.gf ?_) | (show W _ _ _ _ _ _ [] _ _; refine W.of (.done ?_)) | (apply W.of; constructor <;> first | (show W _ _ _ _ _ _ _ _ _) | (intro (al : Nat) h st; show W _ _ _ _ _ _ _ _ _) | (intro _ h st; show W _ _ _ _ _ _ _ _ _) | exact Sd)))
      refine W.of (.lp ?_)
      exact ⟨j + 1, by omega, hjn, ⟨rfl, rfl, by simp only [look]; rw [es], rfl, rfl, rfl, rfl, rfl, rfl, rfl, rfl, rfl, rfl, trivial⟩, st⟩
  · have e : j = B - A := by omega
    subst e
    rw [List.take_of_length_le (by omega)]
    have hn4 : ∀ c, c ∈ cs → c ≤ 1 + ((i + 1 : Nat) : Int) := fun c hc => by have := hok.hi c hc; omega
    have hnx := hok.n0
    have hnx1 := hok.n1
    cases hb : allB (slc cs (A : Int) (B : Int)) with
    | false =>
      have hno : ¬ HoldOk ⟨O, cs, an⟩ A B := fun hh => by
        have : allB (slc cs (A : Int) (B : Int)) = true := allB_iff.2 fun c hc => by
          have h1 := hh.nz c hc
          obtain ⟨q, _, _, g3⟩ := mem_slc (by omega) (by omega) (by omega) hc
          have h2 := hok.lo c (List.mem_of_getElem? g3)
          omega
        rw [hb] at this; cases this
      (repeat (first | (show W _ _ _ _ _ _ (.code (cond _ _ _) :: _) _ _; first | refine W.ct ?_ | refine W.cf ?_) | (show W _ _ _ _ _ _ (.ins (cond _ _ _ :: _) :: _) _ _; first | refine W.gt ?_ | refine W.gf ?_) | (show W _ _ _ _ _ _ [] _ _; refine W.of (.done ?_)) | (apply W.of; constructor <;> first | (show W _ _ _ _ _ _ _ _ _) | (intro (al : Nat) h st; show W _ _ _ _ _ _ _ _ _) | (intro _ h st; show W _ _ _ _ _ _ _ _ _) | exact Sd))); refine W.call (hs := (po_Hold_no (P := P) (most := 1) (zs := poolOf O cs an) (a := ⟨O, cs, an⟩) (id := 1) (lo := (A : Nat)) (hi := (B : Nat)) (atPool hok.s) hno)) (w := ?_); rintro vv _ ⟨rfl, rfl⟩ h st; refine nj ?_; dsimp only [List.cons_append, List.nil_append] at st
      (repeat (first | (show W _ _ _ _ _ _ (.code (cond _ _ _) :: _) _ _; first | refine W.ct ?_ | refine W.cf ?_) | (show W _ _ _ _ _ _ (.ins (cond _ _ _ :: _) :: _) _ _; first | refine W.gt ?_ | refine W.gf ?_) | (show W _ _ _ _ _ _ [] _ _; refine W.of (.done ?_)) | (apply W.of; constructor <;> first | (show W _ _ _ _ _ _ _ _ _) | (intro (al : Nat) h st; show W _ _ _ _ _ _ _ _ _) | (intro _ h st; show W _ _ _ _ _ _ _ _ _) | exact Sd)))
      refine W.loop (fun _ : Nat => (16, .int .i64 B) :: (19, .bool false) :: (22, .int .i64 A) :: cvE P n cv iv v acts.length i nx) (fun _ => cvG P cv iv v acts F O cs an) (fun _ => True) (fun _ => 0) 0 (small_rounds (by omega)) Sbs (st.sel Sels) trivial ?_
      clear st
      intro j h _ st
      (repeat (first | (show W _ _ _ _ _ _ (.code (cond _ _ _) :: _) _ _; first | refine W.ct ?_ | refine W.cf ?_) | (show W _ _ _ _ _ _ (.ins (cond _ _ _ :: _) :: _) _ _; first | refine W.gt ?_ | refine W.gf ?_) | (show W _ _ _ _ _ _ [] _ _; refine W.of (.done ?_)) | (apply W.of; constructor <;> first | (show W _ _ _ _ _ _ _ _ _) | (intro (al : Nat) h st; show W _ _ _ _ _ _ _ _ _) | (intro _ h st; show W _ _ _ _ _ _ _ _ _) | exact Sd)))
      rw [hcl]
      exact W.sub Sbs (cv_tail (O := O) (cs := cs) (an := an) (nx := nx) hlt h80 hn1 hn hcl hal hok.lo hn4 hnx (by omega) (st.sel Sels))
    | true =>
      have hall := allB_iff.1 hb
      have hyes : HoldOk ⟨O, cs, an⟩ A B := ⟨by omega, by omega, by show (B : Int) ≤ cs.length; omega, fun c hc => by have := hall c hc; omega, by omega, by show (B : Int) ≤ cs.length; omega, by omega, fun c hc => by
        obtain ⟨q, _, _, g3⟩ := mem_slc (cs := cs) (by omega) (by omega) (by omega) hc
        have h1 := hok.hi c (List.mem_of_getElem? g3)
        have h2 := hok.lo c (List.mem_of_getElem? g3)
        omega⟩
      (repeat (first | (show W _ _ _ _ _ _ (.code (cond _ _ _) :: _) _ _; first | refine W.ct ?_ | refine W.cf ?_) | (show W _ _ _ _ _ _ (.ins (cond _ _ _ :: _) :: _) _ _; first | refine W.gt ?_ | refine W.gf ?_) | (show W _ _ _ _ _ _ [] _ _; refine W.of (.done ?_)) | (apply W.of; constructor <;> first | (show W _ _ _ _ _ _ _ _ _) | (intro (al : Nat) h st; show W _ _ _ _ _ _ _ _ _) | (intro _ h st; show W _ _ _ _ _ _ _ _ _) | exact Sd))); refine W.call (hs := (po_Hold_ok (P := P) (most := 1) (zs := poolOf O cs an) (a := ⟨O, cs, an⟩) (id := 1) (lo := (A : Nat)) (hi := (B : Nat)) (atPool hok.s) hyes)) (w := ?_); rintro vv _ ⟨rfl, rfl⟩ h st; refine nj ?_; dsimp only [List.cons_append, List.nil_append] at st
      have h0' : ∀ d, d ∈ addL 0 cs (A : Int) (B : Int) 1 → 0 ≤ d := fun d hd => by
        obtain ⟨c, hc, e⟩ := addL_mem hd
        have := hok.lo c hc
        omega
      have h1' : ∀ d, d ∈ addL 0 cs (A : Int) (B : Int) 1 → d ≤ 1 + ((i + 1 : Nat) : Int) := fun d hd => by
        obtain ⟨c, hc, e⟩ := addL_mem hd
        have := hok.hi c hc
        omega
      have hs' : (addL 0 cs (A : Int) (B : Int) 1).sum ≠ 0 := by
        obtain ⟨c, hc⟩ : ∃ c, cs[A]? = some c := ⟨cs[A]'(by omega), by simp⟩
        have h2 := hok.lo c (List.mem_of_getElem? hc)
        have h3 : (addL 0 cs (A : Int) (B : Int) 1)[A]? = some (c + 1) := by rw [addL_get, hc, Option.map_some, if_pos (by omega)]
        have := mem_sum h0' (List.mem_of_getElem? h3)
        omega
      have ez : (poolOf O cs an).set ((1 : Int) - 1).toNat (some (holdA ⟨O, cs, an⟩ A B)) = poolOf O (addL 0 cs (A : Int) (B : Int) 1) an := by
        rw [poolOf_some hok.s, poolOf_some hs']; rfl
      rw [ez] at st
      (repeat (first | (show W _ _ _ _ _ _ (.code (cond _ _ _) :: _) _ _; first | refine W.ct ?_ | refine W.cf ?_) | (show W _ _ _ _ _ _ (.ins (cond _ _ _ :: _) :: _) _ _; first | refine W.gt ?_ | refine W.gf ?_) | (show W _ _ _ _ _ _ [] _ _; refine W.of (.done ?_)) | (apply W.of; constructor <;> first | (show W _ _ _ _ _ _ _ _ _) | (intro (al : Nat) h st; show W _ _ _ _ _ _ _ _ _) | (intro _ h st; show W _ _ _ _ _ _ _ _ _) | exact Sd)))
      refine W.loop (fun j : Nat => (16, .int .i64 B) :: (19, .bool true) :: (22, .int .i64 ((A + j : Nat) : Int)) :: cvE P n cv iv v acts.length i nx) (fun j => PoC P 1 (poolOf O (addL 0 cs (A : Int) (B : Int) 1) an) :: VsC cv 3 ((addL 0 cs (A : Int) ((A + j : Nat) : Int) 1).map ikey) true :: VsC iv 3 (an.map ikey) true :: AcPC v acts :: F) (fun j => j ≤ B - A) (fun j => B - A - j) 0 (small_rounds (by omega)) Sbs ?_ (Nat.zero_le _) ?_
      · rw [Nat.add_zero, addL_same]
        exact st.sel Sels
      clear st
      intro j h hj st
      by_cases hjn2 : j < B - A
      · obtain ⟨c, hc⟩ : ∃ c, cs[A + j]? = some c := ⟨cs[A + j]'(by omega), by simp⟩
        have hac : (addL 0 cs (A : Int) ((A + j : Nat) : Int) 1)[A + j]? = some c := by rw [addL_get, hc, Option.map_some, if_neg (by omega)]
        have est := addL_step (lo := (A : Int)) (by' := 1) hc (by omega)
        have hc1 := hok.hi c (List.mem_of_getElem? hc)
        have hc2 := hok.lo c (List.mem_of_getElem? hc)
        obtain ⟨gp, gq⟩ := d_vsIdx (v := cv) (l := (addL 0 cs (A : Int) ((A + j : Nat) : Int) 1).map ikey) (i := A + j) (kk := .i64) st Tk (by rw [List.length_map, addL_length]; omega)
        (repeat (first | (show W _ _ _ _ _ _ (.code (cond _ _ _) :: _) _ _; first | refine W.ct ?_ | refine W.cf ?_) | (show W _ _ _ _ _ _ (.ins (cond _ _ _ :: _) :: _) _ _; first | refine W.gt ?_ | refine W.gf ?_) | (show W _ _ _ _ _ _ [] _ _; refine W.of (.done ?_)) | (apply W.of; constructor <;> first | (show W _ _ _ _ _ _ _ _ _) | (intro (al : Nat) h st; show W _ _ _ _ _ _ _ _ _) | (intro _ h st; show W _ _ _ _ _ _ _ _ _) | exact Sd))); refine W.do (ho := gp) (w := ?_)
        (repeat (first | (show W _ _ _ _ _ _ (.code (cond _ _ _) :: _) _ _; first | refine W.ct ?_ | refine W.cf ?_) | (show W _ _ _ _ _ _ (.ins (cond _ _ _ :: _) :: _) _ _; first | refine W.gt ?_ | refine W.gf ?_) | (show W _ _ _ _ _ _ [] _ _; refine W.of (.done ?_)) | (apply W.of; constructor <;> first | (show W _ _ _ _ _ _ _ _ _) | (intro (al : Nat) h st; show W _ _ _ _ _ _ _ _ _) | (intro _ h st; show W _ _ _ _ _ _ _ _ _) | exact Sd))); refine W.do (ho := (d_vsLoad (v := cv) (l := (addL 0 cs (A : Int) ((A + j : Nat) : Int) 1).map ikey) (x := ikey c) st Tk (by rw [List.getElem?_map, hac]; rfl))) (w := ?_)
        (repeat (first | (show W _ _ _ _ _ _ (.code (cond _ _ _) :: _) _ _; first | refine W.ct ?_ | refine W.cf ?_) | (show W _ _ _ _ _ _ (.ins (cond _ _ _ :: _) :: _) _ _; first | refine W.gt ?_ | refine W.gf ?_) | (show W _ _ _ _ _ _ [] _ _; refine W.of (.done ?_)) | (apply W.of; constructor <;> first | (show W _ _ _ _ _ _ _ _ _) | (intro (al : Nat) h st; show W _ _ _ _ _ _ _ _ _) | (intro _ h st; show W _ _ _ _ _ _ _ _ _) | exact Sd)))
        (repeat (first | (show W _ _ _ _ _ _ (.code (cond _ _ _) :: _) _ _; first | refine W.ct ?_ | refine W.cf ?_) | (show W _ _ _ _ _ _ (.ins (cond _ _ _ :: _) :: _) _ _; first | refine W.gt ?_ | refine W.gf ?_) | (show W _ _ _ _ _ _ [] _ _; refine W.of (.done ?_)) | (apply W.of; constructor <;> first | (show W _ _ _ _ _ _ _ _ _) | (intro (al : Nat) h st; show W _ _ _ _ _ _ _ _ _) | (intro _ h st; show W _ _ _ _ _ _ _ _ _) | exact Sd))); refine W.do (ho := gp) (w := ?_)
        (repeat (first | (show W _ _ _ _ _ _ (.code (cond _ _ _) :: _) _ _; first | refine W.ct ?_ | refine W.cf ?_) | (show W _ _ _ _ _ _ (.ins (cond _ _ _ :: _) :: _) _ _; first | refine W.gt ?_ | refine W.gf ?_) | (show W _ _ _ _ _ _ [] _ _; refine W.of (.done ?_)) | (apply W.of; constructor <;> first | (show W _ _ _ _ _ _ _ _ _) | (intro (al : Nat) h st; show W _ _ _ _ _ _ _ _ _) | (intro _ h st; show W _ _ _ _ _ _ _ _ _) | exact Sd))); refine W.ef0 (ho := (e_vsStore (v := cv) (l := (addL 0 cs (A : Int) ((A + j : Nat) : Int) 1).map ikey) (i := A + j) st Tk (by rw [List.length_map, addL_length]; omega) rfl)) (w := ?_); rintro _ h ⟨_, st⟩
        rw [← List.map_set (f := ikey), est, show ((A + j : Nat) : Int) + 1 = ((A + (j + 1) : Nat) : Int) by omega] at st
        (repeat (first | (show W _ _ _ _ _ _ (.code (cond _ _ _) :: _) _ _; first | refine W.ct ?_ | refine W.cf ?_) | (show W _ _ _ _ _ _ (.ins (cond _ _ _ :: _) :: _) _ _; first | refine W.gt ?_ | refine W.gf ?_) | (show W _ _ _ _ _ _ [] _ _; refine W.of (.done ?_)) | (apply W.of; constructor <;> first | (show W _ _ _ _ _ _ _ _ _) | (intro (al : Nat) h st; show W _ _ _ _ _ _ _ _ _) | (intro _ h st; show W _ _ _ _ _ _ _ _ _) | exact Sd)))
        refine W.of (.lp ?_)
        exact ⟨j + 1, by omega, hjn2, Sbs, st.sel Sels⟩
      · have e : j = B - A := by omega
        subst e
        rw [show ((A + (B - A) : Nat) : Int) = (B : Int) by omega] at st
        obtain ⟨cl2, cj2, _⟩ := St.ivs (v := cv) (cs := addL 0 cs (A : Int) (B : Int) 1) st Tk
        rw [addL_length, hcl] at cl2
        (repeat (first | (show W _ _ _ _ _ _ (.code (cond _ _ _) :: _) _ _; first | refine W.ct ?_ | refine W.cf ?_) | (show W _ _ _ _ _ _ (.ins (cond _ _ _ :: _) :: _) _ _; first | refine W.gt ?_ | refine W.gf ?_) | (show W _ _ _ _ _ _ [] _ _; refine W.of (.done ?_)) | (apply W.of; constructor <;> first | (show W _ _ _ _ _ _ _ _ _) | (intro (al : Nat) h st; show W _ _ _ _ _ _ _ _ _) | (intro _ h st; show W _ _ _ _ _ _ _ _ _) | exact Sd)))
        exact W.sub Sbs (cv_tail (O := O) (cs := addL 0 cs (A : Int) (B : Int) 1) (an := an) (nx := nx) hlt h80 hn1 hn (by rw [addL_length]; exact hcl) hal h0' h1' hnx (by omega) (st.sel Sels))
end Go.Proofs.Ytjdemlagmamlbaa

namespace Go.Proofs.Ytjdemlagmamlbaa
variable {P : Nat}
set_option maxRecDepth 8000 in
theorem cv_k3 {n O i : Nat} {cv iv v : AV} {acts : List AcP} {F : List Chunk} {h : AHeap} {cs an : List Int} {nx : Int} {x : AcP} (hx : acts[i]? = some x) (hk : x.kind = 3) (h80 : acts.length ≤ 80) (hn1 : 1 ≤ n) (hn : n ≤ 12) (hok : CvOk n i cs an nx)
    (st : St h (cvG P cv iv v acts F O cs an)) :
    W over tab none c_law13_AmapCovers.ntmps (cvQ F) .normal (.code c_law13_AmapCovers_L1 :: .lp (cvJ P n cv iv v acts F i) :: cvK) (cvE P n cv iv v acts.length i nx) h := by
  have hlt := (List.getElem?_eq_some_iff.1 hx).1
  obtain ⟨cl, cj, cs'⟩ := St.ivs (v := cv) (cs := cs) st Tk
  obtain ⟨il, ij, is'⟩ := St.ivs (v := iv) (cs := an) st Tk
  have hcl := hok.cl
  have hal := hok.an
  obtain ⟨gp, gq⟩ := d_arIdx (kk := .i64) st Tk hlt
  obtain ⟨A, hA⟩ : ∃ A, A = uN x.lo % n := ⟨_, rfl⟩
  have hAn : A < n := by rw [hA]; exact Nat.mod_lt _ (by omega)
  obtain ⟨E, hE⟩ : ∃ E, E = uN x.hi % (n - A) := ⟨_, rfl⟩
  have hEn : E < n - A := by rw [hE]; exact Nat.mod_lt _ (by omega)
  (repeat (first | (show W _ _ _ _ _ _ (.code (cond _ _ _) :: _) _ _; first | refine W.ct ?_ | refine W.cf ?_) | (show W _ _ _ _ _ _ (.ins (cond _ _ _ :: _) :: _) _ _; first | refine W.gt ?_ | refine W.gf ?_) | (show W _ _ _ _ _ _ [] _ _; refine W.of (.done ?_)) | (apply W.of; constructor <;> first | (show W _ _ _ _ _ _ _ _ _) | (intro (al : Nat) h st; show W _ _ _ _ _ _ _ _ _) | (intro _ h st; show W _ _ _ _ _ _ _ _ _) | exact Sd))); refine W.do (ho := gp) (w := ?_)
  (repeat (first | (show W _ _ _ _ _ _ (.code (cond _ _ _) :: _) _ _; first | refine W.ct ?_ | refine W.cf ?_) | (show W _ _ _ _ _ _ (.ins (cond _ _ _ :: _) :: _) _ _; first | refine W.gt ?_ | refine W.gf ?_) | (show W _ _ _ _ _ _ [] _ _; refine W.of (.done ?_)) | (apply W.of; constructor <;> first | (show W _ _ _ _ _ _ _ _ _) | (intro (al : Nat) h st; show W _ _ _ _ _ _ _ _ _) | (intro _ h st; show W _ _ _ _ _ _ _ _ _) | exact Sd))); refine W.do (ho := (d_loadar st Tk hx)) (w := ?_)
  (repeat (first | (show W _ _ _ _ _ _ (.code (cond _ _ _) :: _) _ _; first | refine W.ct ?_ | refine W.cf ?_) | (show W _ _ _ _ _ _ (.ins (cond _ _ _ :: _) :: _) _ _; first | refine W.gt ?_ | refine W.gf ?_) | (show W _ _ _ _ _ _ [] _ _; refine W.of (.done ?_)) | (apply W.of; constructor <;> first | (show W _ _ _ _ _ _ _ _ _) | (intro (al : Nat) h st; show W _ _ _ _ _ _ _ _ _) | (intro _ h st; show W _ _ _ _ _ _ _ _ _) | exact Sd)))
  rw [uN_eq x.lo, uN_nat (n := n) (by omega)]
  (repeat (first | (show W _ _ _ _ _ _ (.code (cond _ _ _) :: _) _ _; first | refine W.ct ?_ | refine W.cf ?_) | (show W _ _ _ _ _ _ (.ins (cond _ _ _ :: _) :: _) _ _; first | refine W.gt ?_ | refine W.gf ?_) | (show W _ _ _ _ _ _ [] _ _; refine W.of (.done ?_)) | (apply W.of; constructor <;> first | (show W _ _ _ _ _ _ _ _ _) | (intro (al : Nat) h st; show W _ _ _ _ _ _ _ _ _) | (intro _ h st; show W _ _ _ _ _ _ _ _ _) | exact Sd))); refine W.do (ho := (d_remN (a := uN x.lo) (b := n) (by omega))) (w := ?_)
  rw [← hA]
  (repeat (first | (show W _ _ _ _ _ _ (.code (cond _ _ _) :: _) _ _; first | refine W.ct ?_ | refine W.cf ?_) | (show W _ _ _ _ _ _ (.ins (cond _ _ _ :: _) :: _) _ _; first | refine W.gt ?_ | refine W.gf ?_) | (show W _ _ _ _ _ _ [] _ _; refine W.of (.done ?_)) | (apply W.of; constructor <;> first | (show W _ _ _ _ _ _ _ _ _) | (intro (al : Nat) h st; show W _ _ _ _ _ _ _ _ _) | (intro _ h st; show W _ _ _ _ _ _ _ _ _) | exact Sd)))
  rw [wrap64 (n := (A : Int)) (by omega) (by omega)]
  (repeat (first | (show W _ _ _ _ _ _ (.code (cond _ _ _) :: _) _ _; first | refine W.ct ?_ | refine W.cf ?_) | (show W _ _ _ _ _ _ (.ins (cond _ _ _ :: _) :: _) _ _; first | refine W.gt ?_ | refine W.gf ?_) | (show W _ _ _ _ _ _ [] _ _; refine W.of (.done ?_)) | (apply W.of; constructor <;> first | (show W _ _ _ _ _ _ _ _ _) | (intro (al : Nat) h st; show W _ _ _ _ _ _ _ _ _) | (intro _ h st; show W _ _ _ _ _ _ _ _ _) | exact Sd)))
  rw [uN_eq x.hi, show (n : Int) - (A : Int) = ((n - A : Nat) : Int) by omega, uN_nat (n := n - A) (by omega)]
  (repeat (first | (show W _ _ _ _ _ _ (.code (cond _ _ _) :: _) _ _; first | refine W.ct ?_ | refine W.cf ?_) | (show W _ _ _ _ _ _ (.ins (cond _ _ _ :: _) :: _) _ _; first | refine W.gt ?_ | refine W.gf ?_) | (show W _ _ _ _ _ _ [] _ _; refine W.of (.done ?_)) | (apply W.of; constructor <;> first | (show W _ _ _ _ _ _ _ _ _) | (intro (al : Nat) h st; show W _ _ _ _ _ _ _ _ _) | (intro _ h st; show W _ _ _ _ _ _ _ _ _) | exact Sd))); refine W.do (ho := (d_remN (a := uN x.hi) (b := n - A) (by omega))) (w := ?_)
  rw [← hE]
  (repeat (first | (show W _ _ _ _ _ _ (.code (cond _ _ _) :: _) _ _; first | refine W.ct ?_ | refine W.cf ?_) | (show W _ _ _ _ _ _ (.ins (cond _ _ _ :: _) :: _) _ _; first | refine W.gt ?_ | refine W.gf ?_) | (show W _ _ _ _ _ _ [] _ _; refine W.of (.done ?_)) | (apply W.of; constructor <;> first | (show W _ _ _ _ _ _ _ _ _) | (intro (al : Nat) h st; show W _ _ _ _ _ _ _ _ _) | (intro _ h st; show W _ _ _ _ _ _ _ _ _) | exact Sd)))
  rw [wrap64 (n := (E : Int)) (by omega) (by omega)]
  (repeat (first | (show W _ _ _ _ _ _ (.code (cond _ _ _) :: _) _ _; first | refine W.ct ?_ | refine W.cf ?_) | (show W _ _ _ _ _ _ (.ins (cond _ _ _ :: _) :: _) _ _; first | refine W.gt ?_ | refine W.gf ?_) | (show W _ _ _ _ _ _ [] _ _; refine W.of (.done ?_)) | (apply W.of; constructor <;> first | (show W _ _ _ _ _ _ _ _ _) | (intro (al : Nat) h st; show W _ _ _ _ _ _ _ _ _) | (intro _ h st; show W _ _ _ _ _ _ _ _ _) | exact Sd)))
  obtain ⟨B, hB⟩ : ∃ B : Nat, B = A + 1 + E := ⟨_, rfl⟩
  rw [show (A : Int) + 1 + (E : Int) = (B : Int) by omega]
  have hsl : (slc cs (A : Int) (B : Int)).length = B - A := by rw [slc_len (by omega) (by omega) (by omega)]; omega
  refine W.loop (fun j : Nat => (15, .int .i64 A) :: (16, .int .i64 B) :: (23, .bool (allB ((slc cs (A : Int) (B : Int)).take j))) :: (24, .int .i64 ((A + j : Nat) : Int)) :: cvE P n cv iv v acts.length i nx) (fun _ => cvG P cv iv v acts F O cs an) (fun j => j ≤ B - A) (fun j => B - A - j) 0 (small_rounds (by omega)) Sbs (st.sel Sels) (Nat.zero_le _) ?_
  clear st
  intro j h hj st
  by_cases hjn : j < B - A
  · obtain ⟨c, hc⟩ : ∃ c, cs[A + j]? = some c := ⟨cs[A + j]'(by omega), by simp⟩
    have hcs : (slc cs (A : Int) (B : Int))[j]? = some c := by rw [slc_get (by omega) (by omega), Int.toNat_natCast]; exact hc
    have hcm : (cs.map ikey)[A + j]? = some (ikey c) := by rw [List.getElem?_map, hc]; rfl
    have es : allB ((slc cs (A : Int) (B : Int)).take (j + 1)) = (allB ((slc cs (A : Int) (B : Int)).take j) && decide (c > 0)) := by rw [take_snoc1 hcs, allB_snoc]
    cases hb : allB ((slc cs (A : Int) (B : Int)).take j) with
    | false =>
      rw [hb, Bool.false_and] at es
      (repeat (first | (show W _ _ _ _ _ _ (.code (cond _ _ _) :: _) _ _; first | refine W.ct ?_ | refine W.cf ?_) | (show W _ _ _ _ _ _ (.ins (cond _ _ _ :: _) :: _) _ _; first | refine W.gt ?_ | refine W.gf ?_) | (show W _ _ _ _ _ _ [] _ _; refine W.of (.done ?_)) | (apply W.of; constructor <;> first | (show W _ _ _ _ _ _ _ _ _) | (intro (al : Nat) h st; show W _ _ _ _ _ _ _ _ _) | (intro _ h st; show W _ _ _ _ _ _ _ _ _) | exact Sd)))
      refine W.of (.lp ?_)
      exact ⟨j + 1, by omega, hjn, ⟨rfl, rfl, by simp only [look]; rw [es], rfl, rfl, rfl, rfl, rfl, rfl, rfl, rfl, rfl, rfl, trivial⟩, st⟩
    | true =>
      rw [hb, Bool.true_and] at es
      obtain ⟨gp, gq⟩ := d_vsIdx (v := cv) (l := cs.map ikey) (i := A + j) (kk := .i64) st Tk (by rw [List.length_map]; omega)
      (repeat (first | (show W _ _ _ _ _ _ (.code (cond _ _ _) :: _) _ _; first | refine W.ct ?_ | refine W.cf ?_) | (show W _ _ _ _ _ _ (.ins (cond _ _ _ :: _) :: _) _ _; first | refine W.gt ?_ | refine W.gf ?_) | (show W _ _ _ _ _ _ [] _ _; refine W.of (.done ?_)) | (apply W.of; constructor <;> first | (show W _ _ _ _ _ _ _ _ _) | (intro (al : Nat) h st; show W _ _ _ _ _ _ _ _ _) | (intro _ h st; show W _ _ _ _ _ _ _ _ _) | exact Sd))); refine W.do (ho := gp) (w := ?_)
      (repeat (first | (show W _ _ _ _ _ _ (.code (cond _ _ _) :: _) _ _; first | refine W.ct ?_ | refine W.cf ?_) | (show W _ _ _ _ _ _ (.ins (cond _ _ _ :: _) :: _) _ _; first | refine W.gt ?_ | refine W.gf ?_) | (show W _ _ _ _ _ _ [] _ _; refine W.of (.done ?_)) | (apply W.of; constructor <;> first | (show W _ _ _ _ _ _ _ _ _) | (intro (al : Nat) h st; show W _ _ _ _ _ _ _ _ _) | (intro _ h st; show W _ _ _ _ _ _ _ _ _) | exact Sd))); refine W.do (ho := (d_vsLoad (v := cv) (l := cs.map ikey) (x := ikey c) st Tk hcm)) (w := ?_)
      (repeat (first | (show W _ _ _ _ _ _ (.code (cond _ _ _) :: _) _ _; first | refine W.ct ?_ | refine W.cf ?_) | (show W _ _ _ _ _ _ (.ins (cond _ _ _ :: _) :: _) _ _; first | refine W.gt ?_ | refine W.gf ?_) | (show W _ _ _ _ _ _ [] _ _; refine W.of (.done ?_)) | (apply W.of; constructor <;> first | (show W _ _ _ _ _ _ _ _ _) | (intro (al : Nat) h st; show W _ _ _ _ _ _ _ _ _) | (intro _ h st; show W _ _ _ _ _ _ _ _ _) | exact Sd)))
      refine W.of (.lp ?_)
      exact ⟨j + 1, by omega, hjn, ⟨rfl, rfl, by simp only [look]; rw [es], rfl, rfl, rfl, rfl, rfl, rfl, rfl, rfl, rfl, rfl, trivial⟩, st⟩
  · have e : j = B - A := by omega
    subst e
    rw [List.take_of_length_le (by omega)]
    have hn4 : ∀ c, c ∈ cs → c ≤ 1 + ((i + 1 : Nat) : Int) := fun c hc => by have := hok.hi c hc; omega
    have hnx := hok.n0
    have hnx1 := hok.n1
    cases hb : allB (slc cs (A : Int) (B : Int)) with
    | false =>
      have hno : ¬ DropOk ⟨O, cs, an⟩ A B := fun hh => by
        have : allB (slc cs (A : Int) (B : Int)) = true := allB_iff.2 fun c hc => by
          have h1 := hh.add.ok c hc
          omega
        rw [hb] at this; cases this
      (repeat (first | (show W _ _ _ _ _ _ (.code (cond _ _ _) :: _) _ _; first | refine W.ct ?_ | refine W.cf ?_) | (show W _ _ _ _ _ _ (.ins (cond _ _ _ :: _) :: _) _ _; first | refine W.gt ?_ | refine W.gf ?_) | (show W _ _ _ _ _ _ [] _ _; refine W.of (.done ?_)) | (apply W.of; constructor <;> first | (show W _ _ _ _ _ _ _ _ _) | (intro (al : Nat) h st; show W _ _ _ _ _ _ _ _ _) | (intro _ h st; show W _ _ _ _ _ _ _ _ _) | exact Sd))); refine W.call (hs := (po_Drop_no (P := P) (most := 1) (zs := poolOf O cs an) (a := ⟨O, cs, an⟩) (id := 1) (lo := (A : Nat)) (hi := (B : Nat)) (atPool hok.s) hno)) (w := ?_); rintro vv _ ⟨rfl, rfl⟩ h st; refine nj ?_; dsimp only [List.cons_append, List.nil_append] at st
      (repeat (first | (show W _ _ _ _ _ _ (.code (cond _ _ _) :: _) _ _; first | refine W.ct ?_ | refine W.cf ?_) | (show W _ _ _ _ _ _ (.ins (cond _ _ _ :: _) :: _) _ _; first | refine W.gt ?_ | refine W.gf ?_) | (show W _ _ _ _ _ _ [] _ _; refine W.of (.done ?_)) | (apply W.of; constructor <;> first | (show W _ _ _ _ _ _ _ _ _) | (intro (al : Nat) h st; show W _ _ _ _ _ _ _ _ _) | (intro _ h st; show W _ _ _ _ _ _ _ _ _) | exact Sd)))
      refine W.loop (fun _ : Nat => (16, .int .i64 B) :: (23, .bool false) :: (25, .nilsl) :: (27, .nilsl) :: (28, .int .i64 A) :: cvE P n cv iv v acts.length i nx) (fun _ => cvG P cv iv v acts F O cs an) (fun _ => True) (fun _ => 0) 0 (small_rounds (by omega)) Sbs (st.sel Sels) trivial ?_
      clear st
      intro j h _ st
      (repeat (first | (show W _ _ _ _ _ _ (.code (cond _ _ _) :: _) _ _; first | refine W.ct ?_ | refine W.cf ?_) | (show W _ _ _ _ _ _ (.ins (cond _ _ _ :: _) :: _) _ _; first | refine W.gt ?_ | refine W.gf ?_) | (show W _ _ _ _ _ _ [] _ _; refine W.of (.done ?_)) | (apply W.of; constructor <;> first | (show W _ _ _ _ _ _ _ _ _) | (intro (al : Nat) h st; show W _ _ _ _ _ _ _ _ _) | (intro _ h st; show W _ _ _ _ _ _ _ _ _) | exact Sd)))
      have st := (st.vsNil 3 true).vsNil 3 true
      (repeat (first | (show W _ _ _ _ _ _ (.code (cond _ _ _) :: _) _ _; first | refine W.ct ?_ | refine W.cf ?_) | (show W _ _ _ _ _ _ (.ins (cond _ _ _ :: _) :: _) _ _; first | refine W.gt ?_ | refine W.gf ?_) | (show W _ _ _ _ _ _ [] _ _; refine W.of (.done ?_)) | (apply W.of; constructor <;> first | (show W _ _ _ _ _ _ _ _ _) | (intro (al : Nat) h st; show W _ _ _ _ _ _ _ _ _) | (intro _ h st; show W _ _ _ _ _ _ _ _ _) | exact Sd))); refine W.call (hs := (ref01_Ints (a := .nilsl) (b := .nilsl) (l := []) (l' := []) (by simp))) (w := ?_); rintro vv _ ⟨rfl, rfl⟩ h st; refine nj ?_; dsimp only [List.cons_append, List.nil_append] at st
      rw [decide_eq_true (rfl : ([] : List Int) = [])]
      (repeat (first | (show W _ _ _ _ _ _ (.code (cond _ _ _) :: _) _ _; first | refine W.ct ?_ | refine W.cf ?_) | (show W _ _ _ _ _ _ (.ins (cond _ _ _ :: _) :: _) _ _; first | refine W.gt ?_ | refine W.gf ?_) | (show W _ _ _ _ _ _ [] _ _; refine W.of (.done ?_)) | (apply W.of; constructor <;> first | (show W _ _ _ _ _ _ _ _ _) | (intro (al : Nat) h st; show W _ _ _ _ _ _ _ _ _) | (intro _ h st; show W _ _ _ _ _ _ _ _ _) | exact Sd)))
      rw [hcl]
      exact W.sub Sbs (cv_tail (O := O) (cs := cs) (an := an) (nx := nx) hlt h80 hn1 hn hcl hal hok.lo hn4 hnx (by omega) (st.sel Sels))
    | true =>
      have hall := allB_iff.1 hb
      have hyes : DropOk ⟨O, cs, an⟩ A B := ⟨by omega, by omega, by show (B : Int) ≤ cs.length; omega, by omega, by show (B : Int) ≤ cs.length; omega, by omega, fun c hc => by
        have h0 := hall c hc
        obtain ⟨q, _, _, g3⟩ := mem_slc (cs := cs) (by omega) (by omega) (by omega) hc
        have h1 := hok.hi c (List.mem_of_getElem? g3)
        omega⟩
      (repeat (first | (show W _ _ _ _ _ _ (.code (cond _ _ _) :: _) _ _; first | refine W.ct ?_ | refine W.cf ?_) | (show W _ _ _ _ _ _ (.ins (cond _ _ _ :: _) :: _) _ _; first | refine W.gt ?_ | refine W.gf ?_) | (show W _ _ _ _ _ _ [] _ _; refine W.of (.done ?_)) | (apply W.of; constructor <;> first | (show W _ _ _ _ _ _ _ _ _) | (intro (al : Nat) h st; show W _ _ _ _ _ _ _ _ _) | (intro _ h st; show W _ _ _ _ _ _ _ _ _) | exact Sd))); refine W.call (hs := (po_Drop_ok (P := P) (most := 1) (zs := poolOf O cs an) (a := ⟨O, cs, an⟩) (id := 1) (lo := (A : Nat)) (hi := (B : Nat)) (atPool hok.s) hyes)) (w := ?_); rintro vv _ ⟨ov, rfl, oj, ol, rfl⟩ h st; refine nj ?_; dsimp only [List.cons_append, List.nil_append] at st
      obtain ⟨g, hg⟩ : ∃ g, g = goneP (A : Int) (slc cs (A : Int) (B : Int)) (-1) := ⟨_, rfl⟩
      have hg2 : goneA ⟨O, cs, an⟩ (A : Int) (B : Int) = g := by rw [hg]; rfl
      have ez : dropZ (poolOf O cs an) ((1 : Int) - 1).toNat ⟨O, cs, an⟩ (A : Int) (B : Int) = poolOf O (addL 0 cs (A : Int) (B : Int) (-1)) (anG an g) := by
        rw [dropZ, dropA, hg2, poolOf_some hok.s]; rfl
      rw [ez, hg2] at st
      rw [hg2] at ol
      dsimp only at st ol
      (repeat (first | (show W _ _ _ _ _ _ (.code (cond _ _ _) :: _) _ _; first | refine W.ct ?_ | refine W.cf ?_) | (show W _ _ _ _ _ _ (.ins (cond _ _ _ :: _) :: _) _ _; first | refine W.gt ?_ | refine W.gf ?_) | (show W _ _ _ _ _ _ [] _ _; refine W.of (.done ?_)) | (apply W.of; constructor <;> first | (show W _ _ _ _ _ _ _ _ _) | (intro (al : Nat) h st; show W _ _ _ _ _ _ _ _ _) | (intro _ h st; show W _ _ _ _ _ _ _ _ _) | exact Sd)))
      refine W.loop (fun y : CqS => (16, .int .i64 B) :: (23, .bool true) :: (25, ov) :: (27, y.wv) :: (28, .int .i64 ((A + y.j : Nat) : Int)) :: cvE P n cv iv v acts.length i nx) (fun y => VsC y.wv 3 ((outG an (goneP (A : Int) ((slc cs (A : Int) (B : Int)).take y.j) (-1))).map ikey) true :: VsC ov 3 ((outG an g).map ikey) true :: PoC P 1 (poolOf O (addL 0 cs (A : Int) (B : Int) (-1)) (anG an g)) :: VsC cv 3 ((addL 0 cs (A : Int) ((A + y.j : Nat) : Int) (-1)).map ikey) true :: VsC iv 3 ((anG an (goneP (A : Int) ((slc cs (A : Int) (B : Int)).take y.j) (-1))).map ikey) true :: AcPC v acts :: F)
        (fun y => y.j ≤ B - A) (fun y => B - A - y.j) ⟨0, .nilsl⟩ (small_rounds (by simp only; omega)) Sbs ?_ (Nat.zero_le _) ?_
      · have st := st.vsNil 3 true
        rw [Nat.add_zero, addL_same]
        exact st.sel Sels
      clear st
      intro ⟨j, wv⟩ h hj st
      dsimp only at hj st ⊢
      obtain ⟨G, hG⟩ : ∃ G, G = goneP (A : Int) ((slc cs (A : Int) (B : Int)).take j) (-1) := ⟨_, rfl⟩
      rw [← hG] at st
      have hgl : G.length ≤ 4096 := by rw [hG]; exact Nat.le_trans goneP_len (by rw [List.length_take]; omega)
      obtain ⟨wl, wj, wo⟩ := St.ivs (v := wv) (cs := outG an G) st Tk
      have hwl : (outG an G).length ≤ 4096 := Nat.le_trans outG_len hgl
      have hal2 : (anG an G).length = n := by rw [anG_len, hal]
      by_cases hjn2 : j < B - A
      · obtain ⟨c, hc⟩ : ∃ c, cs[A + j]? = some c := ⟨cs[A + j]'(by omega), by simp⟩
        have hcs : (slc cs (A : Int) (B : Int))[j]? = some c := by rw [slc_get (by omega) (by omega), Int.toNat_natCast]; exact hc
        have hac : (addL 0 cs (A : Int) ((A + j : Nat) : Int) (-1))[A + j]? = some c := by rw [addL_get, hc, Option.map_some, if_neg (by omega)]
        have hac2 : (addL 0 cs (A : Int) ((A + (j + 1) : Nat) : Int) (-1))[A + j]? = some (c + -1) := by rw [addL_get, hc, Option.map_some, if_pos (by omega)]
        have est := addL_step (lo := (A : Int)) (by' := -1) hc (by omega)
        have hc1 := hok.hi c (List.mem_of_getElem? hc)
        have hc2 := hall c (List.mem_of_getElem? hcs)
        have eg : goneP (A : Int) ((slc cs (A : Int) (B : Int)).take (j + 1)) (-1) = G ++ if c ≠ 0 ∧ c + -1 = 0 then [((A + j : Nat) : Int)] else [] := by
          rw [take_snoc1 hcs, goneP_snoc, ← hG, List.length_take, hsl, Nat.min_eq_left (by omega)]
          rfl
        obtain ⟨gp, gq⟩ := d_vsIdx (v := cv) (l := (addL 0 cs (A : Int) ((A + j : Nat) : Int) (-1)).map ikey) (i := A + j) (kk := .i64) st Tk (by rw [List.length_map, addL_length]; omega)
        (repeat (first | (show W _ _ _ _ _ _ (.code (cond _ _ _) :: _) _ _; first | refine W.ct ?_ | refine W.cf ?_) | (show W _ _ _ _ _ _ (.ins (cond _ _ _ :: _) :: _) _ _; first | refine W.gt ?_ | refine W.gf ?_) | (show W _ _ _ _ _ _ [] _ _; refine W.of (.done ?_)) | (apply W.of; constructor <;> first | (show W _ _ _ _ _ _ _ _ _) | (intro (al : Nat) h st; show W _ _ _ _ _ _ _ _ _) | (intro _ h st; show W _ _ _ _ _ _ _ _ _) | exact Sd))); refine W.do (ho := gp) (w := ?_)
        (repeat (first | (show W _ _ _ _ _ _ (.code (cond _ _ _) :: _) _ _; first | refine W.ct ?_ | refine W.cf ?_) | (show W _ _ _ _ _ _ (.ins (cond _ _ _ :: _) :: _) _ _; first | refine W.gt ?_ | refine W.gf ?_) | (show W _ _ _ _ _ _ [] _ _; refine W.of (.done ?_)) | (apply W.of; constructor <;> first | (show W _ _ _ _ _ _ _ _ _) | (intro (al : Nat) h st; show W _ _ _ _ _ _ _ _ _) | (intro _ h st; show W _ _ _ _ _ _ _ _ _) | exact Sd))); refine W.do (ho := (d_vsLoad (v := cv) (l := (addL 0 cs (A : Int) ((A + j : Nat) : Int) (-1)).map ikey) (x := ikey c) st Tk (by rw [List.getElem?_map, hac]; rfl))) (w := ?_)
        (repeat (first | (show W _ _ _ _ _ _ (.code (cond _ _ _) :: _) _ _; first | refine W.ct ?_ | refine W.cf ?_) | (show W _ _ _ _ _ _ (.ins (cond _ _ _ :: _) :: _) _ _; first | refine W.gt ?_ | refine W.gf ?_) | (show W _ _ _ _ _ _ [] _ _; refine W.of (.done ?_)) | (apply W.of; constructor <;> first | (show W _ _ _ _ _ _ _ _ _) | (intro (al : Nat) h st; show W _ _ _ _ _ _ _ _ _) | (intro _ h st; show W _ _ _ _ _ _ _ _ _) | exact Sd)))
        (repeat (first | (show W _ _ _ _ _ _ (.code (cond _ _ _) :: _) _ _; first | refine W.ct ?_ | refine W.cf ?_) | (show W _ _ _ _ _ _ (.ins (cond _ _ _ :: _) :: _) _ _; first | refine W.gt ?_ | refine W.gf ?_) | (show W _ _ _ _ _ _ [] _ _; refine W.of (.done ?_)) | (apply W.of; constructor <;> first | (show W _ _ _ _ _ _ _ _ _) | (intro (al : Nat) h st; show W _ _ _ _ _ _ _ _ _) | (intro _ h st; show W _ _ _ _ _ _ _ _ _) | exact Sd))); refine W.do (ho := gp) (w := ?_)
        (repeat (first | (show W _ _ _ _ _ _ (.code (cond _ _ _) :: _) _ _; first | refine W.ct ?_ | refine W.cf ?_) | (show W _ _ _ _ _ _ (.ins (cond _ _ _ :: _) :: _) _ _; first | refine W.gt ?_ | refine W.gf ?_) | (show W _ _ _ _ _ _ [] _ _; refine W.of (.done ?_)) | (apply W.of; constructor <;> first | (show W _ _ _ _ _ _ _ _ _) | (intro (al : Nat) h st; show W _ _ _ _ _ _ _ _ _) | (intro _ h st; show W _ _ _ _ _ _ _ _ _) | exact Sd))); refine W.ef0 (ho := (e_vsStore (v := cv) (l := (addL 0 cs (A : Int) ((A + j : Nat) : Int) (-1)).map ikey) (i := A + j) st Tk (by rw [List.length_map, addL_length]; omega) rfl)) (w := ?_); rintro _ h ⟨_, st⟩
        rw [← List.map_set (f := ikey), show c - 1 = c + -1 by omega, est, show ((A + j : Nat) : Int) + 1 = ((A + (j + 1) : Nat) : Int) by omega] at st
        obtain ⟨hp, hq⟩ := d_vsIdx (v := cv) (l := (addL 0 cs (A : Int) ((A + (j + 1) : Nat) : Int) (-1)).map ikey) (i := A + j) (kk := .i64) st Tk (by rw [List.length_map, addL_length]; omega)
        (repeat (first | (show W _ _ _ _ _ _ (.code (cond _ _ _) :: _) _ _; first | refine W.ct ?_ | refine W.cf ?_) | (show W _ _ _ _ _ _ (.ins (cond _ _ _ :: _) :: _) _ _; first | refine W.gt ?_ | refine W.gf ?_) | (show W _ _ _ _ _ _ [] _ _; refine W.of (.done ?_)) | (apply W.of; constructor <;> first | (show W _ _ _ _ _ _ _ _ _) | (intro (al : Nat) h st; show W _ _ _ _ _ _ _ _ _) | (intro _ h st; show W _ _ _ _ _ _ _ _ _) | exact Sd))); refine W.do (ho := hp) (w := ?_)
        (repeat (first | (show W _ _ _ _ _ _ (.code (cond _ _ _) :: _) _ _; first | refine W.ct ?_ | refine W.cf ?_) | (show W _ _ _ _ _ _ (.ins (cond _ _ _ :: _) :: _) _ _; first | refine W.gt ?_ | refine W.gf ?_) | (show W _ _ _ _ _ _ [] _ _; refine W.of (.done ?_)) | (apply W.of; constructor <;> first | (show W _ _ _ _ _ _ _ _ _) | (intro (al : Nat) h st; show W _ _ _ _ _ _ _ _ _) | (intro _ h st; show W _ _ _ _ _ _ _ _ _) | exact Sd))); refine W.do (ho := (d_vsLoad (v := cv) (l := (addL 0 cs (A : Int) ((A + (j + 1) : Nat) : Int) (-1)).map ikey) (x := ikey (c + -1)) st Tk (by rw [List.getElem?_map, hac2]; rfl))) (w := ?_)
        by_cases hz : c + -1 = 0
        · rw [if_pos ⟨by omega, hz⟩] at eg
          obtain ⟨y, hy⟩ : ∃ y, (anG an G)[A + j]? = some y := ⟨(anG an G)[A + j]'(by omega), by simp⟩
          have hym : ((anG an G).map ikey)[A + j]? = some (ikey y) := by rw [List.getElem?_map, hy]; rfl
          have eo : outG an (goneP (A : Int) ((slc cs (A : Int) (B : Int)).take (j + 1)) (-1)) = outG an G ++ if y > 0 then [y] else [] := by
            rw [eg, outG_snoc, Int.toNat_natCast, hy]; rfl
          have ea : anG an (goneP (A : Int) ((slc cs (A : Int) (B : Int)).take (j + 1)) (-1)) = (anG an G).set (A + j) 0 := by
            rw [eg, anG_snoc, Int.toNat_natCast]
          (repeat (first | (show W _ _ _ _ _ _ (.code (cond _ _ _) :: _) _ _; first | refine W.ct ?_ | refine W.cf ?_) | (show W _ _ _ _ _ _ (.ins (cond _ _ _ :: _) :: _) _ _; first | refine W.gt ?_ | refine W.gf ?_) | (show W _ _ _ _ _ _ [] _ _; refine W.of (.done ?_)) | (apply W.of; constructor <;> first | (show W _ _ _ _ _ _ _ _ _) | (intro (al : Nat) h st; show W _ _ _ _ _ _ _ _ _) | (intro _ h st; show W _ _ _ _ _ _ _ _ _) | exact Sd)))
          obtain ⟨fp, fq⟩ := d_vsIdx (v := iv) (l := (anG an G).map ikey) (i := A + j) (kk := .i64) st Tk (by rw [List.length_map]; omega)
          (repeat (first | (show W _ _ _ _ _ _ (.code (cond _ _ _) :: _) _ _; first | refine W.ct ?_ | refine W.cf ?_) | (show W _ _ _ _ _ _ (.ins (cond _ _ _ :: _) :: _) _ _; first | refine W.gt ?_ | refine W.gf ?_) | (show W _ _ _ _ _ _ [] _ _; refine W.of (.done ?_)) | (apply W.of; constructor <;> first | (show W _ _ _ _ _ _ _ _ _) | (intro (al : Nat) h st; show W _ _ _ _ _ _ _ _ _) | (intro _ h st; show W _ _ _ _ _ _ _ _ _) | exact Sd))); refine W.do (ho := fp) (w := ?_)
          (repeat (first | (show W _ _ _ _ _ _ (.code (cond _ _ _) :: _) _ _; first | refine W.ct ?_ | refine W.cf ?_) | (show W _ _ _ _ _ _ (.ins (cond _ _ _ :: _) :: _) _ _; first | refine W.gt ?_ | refine W.gf ?_) | (show W _ _ _ _ _ _ [] _ _; refine W.of (.done ?_)) | (apply W.of; constructor <;> first | (show W _ _ _ _ _ _ _ _ _) | (intro (al : Nat) h st; show W _ _ _ _ _ _ _ _ _) | (intro _ h st; show W _ _ _ _ _ _ _ _ _) | exact Sd))); refine W.do (ho := (d_vsLoad (v := iv) (l := (anG an G).map ikey) (x := ikey y) st Tk hym)) (w := ?_)
          by_cases hy0 : y > 0
          · rw [if_pos hy0] at eo
            (repeat (first | (show W _ _ _ _ _ _ (.code (cond _ _ _) :: _) _ _; first | refine W.ct ?_ | refine W.cf ?_) | (show W _ _ _ _ _ _ (.ins (cond _ _ _ :: _) :: _) _ _; first | refine W.gt ?_ | refine W.gf ?_) | (show W _ _ _ _ _ _ [] _ _; refine W.of (.done ?_)) | (apply W.of; constructor <;> first | (show W _ _ _ _ _ _ _ _ _) | (intro (al : Nat) h st; show W _ _ _ _ _ _ _ _ _) | (intro _ h st; show W _ _ _ _ _ _ _ _ _) | exact Sd)))
            (repeat (first | (show W _ _ _ _ _ _ (.code (cond _ _ _) :: _) _ _; first | refine W.ct ?_ | refine W.cf ?_) | (show W _ _ _ _ _ _ (.ins (cond _ _ _ :: _) :: _) _ _; first | refine W.gt ?_ | refine W.gf ?_) | (show W _ _ _ _ _ _ [] _ _; refine W.of (.done ?_)) | (apply W.of; constructor <;> first | (show W _ _ _ _ _ _ _ _ _) | (intro (al : Nat) h st; show W _ _ _ _ _ _ _ _ _) | (intro _ h st; show W _ _ _ _ _ _ _ _ _) | exact Sd))); refine W.do (ho := fp) (w := ?_)
            (repeat (first | (show W _ _ _ _ _ _ (.code (cond _ _ _) :: _) _ _; first | refine W.ct ?_ | refine W.cf ?_) | (show W _ _ _ _ _ _ (.ins (cond _ _ _ :: _) :: _) _ _; first | refine W.gt ?_ | refine W.gf ?_) | (show W _ _ _ _ _ _ [] _ _; refine W.of (.done ?_)) | (apply W.of; constructor <;> first | (show W _ _ _ _ _ _ _ _ _) | (intro (al : Nat) h st; show W _ _ _ _ _ _ _ _ _) | (intro _ h st; show W _ _ _ _ _ _ _ _ _) | exact Sd))); refine W.do (ho := (d_vsLoad (v := iv) (l := (anG an G).map ikey) (x := ikey y) st Tk hym)) (w := ?_)
            (repeat (first | (show W _ _ _ _ _ _ (.code (cond _ _ _) :: _) _ _; first | refine W.ct ?_ | refine W.cf ?_) | (show W _ _ _ _ _ _ (.ins (cond _ _ _ :: _) :: _) _ _; first | refine W.gt ?_ | refine W.gf ?_) | (show W _ _ _ _ _ _ [] _ _; refine W.of (.done ?_)) | (apply W.of; constructor <;> first | (show W _ _ _ _ _ _ _ _ _) | (intro (al : Nat) h st; show W _ _ _ _ _ _ _ _ _) | (intro _ h st; show W _ _ _ _ _ _ _ _ _) | exact Sd)))
            have st := St.vsRow (l := [.int .i64 y]) (e := 3) st Tk rfl
            (repeat (first | (show W _ _ _ _ _ _ (.code (cond _ _ _) :: _) _ _; first | refine W.ct ?_ | refine W.cf ?_) | (show W _ _ _ _ _ _ (.ins (cond _ _ _ :: _) :: _) _ _; first | refine W.gt ?_ | refine W.gf ?_) | (show W _ _ _ _ _ _ [] _ _; refine W.of (.done ?_)) | (apply W.of; constructor <;> first | (show W _ _ _ _ _ _ _ _ _) | (intro (al : Nat) h st; show W _ _ _ _ _ _ _ _ _) | (intro _ h st; show W _ _ _ _ _ _ _ _ _) | exact Sd))); refine W.ef (ho := (e_vsAppend (s := wv) (l := (outG an G).map ikey) (l' := [.int .i64 y]) st Tk Tk (by simp only [List.length_map, List.length_cons, List.length_nil]; omega) (by simp only [List.length_map, List.length_cons, List.length_nil]; omega))) (w := ?_); rintro vv h ⟨dj, dl, st⟩; refine nj ?_
            obtain ⟨w2, rfl⟩ : ∃ y, y = vv := ⟨_, rfl⟩
            rw [show (outG an G).map ikey ++ [.int .i64 y] = (outG an (goneP (A : Int) ((slc cs (A : Int) (B : Int)).take (j + 1)) (-1))).map ikey by rw [eo, List.map_append]; rfl] at st
            obtain ⟨fp2, _⟩ := d_vsIdx (v := iv) (l := (anG an G).map ikey) (i := A + j) (kk := .i64) st Tk (by rw [List.length_map]; omega)
            (repeat (first | (show W _ _ _ _ _ _ (.code (cond _ _ _) :: _) _ _; first | refine W.ct ?_ | refine W.cf ?_) | (show W _ _ _ _ _ _ (.ins (cond _ _ _ :: _) :: _) _ _; first | refine W.gt ?_ | refine W.gf ?_) | (show W _ _ _ _ _ _ [] _ _; refine W.of (.done ?_)) | (apply W.of; constructor <;> first | (show W _ _ _ _ _ _ _ _ _) | (intro (al : Nat) h st; show W _ _ _ _ _ _ _ _ _) | (intro _ h st; show W _ _ _ _ _ _ _ _ _) | exact Sd))); refine W.do (ho := fp2) (w := ?_)
            (repeat (first | (show W _ _ _ _ _ _ (.code (cond _ _ _) :: _) _ _; first | refine W.ct ?_ | refine W.cf ?_) | (show W _ _ _ _ _ _ (.ins (cond _ _ _ :: _) :: _) _ _; first | refine W.gt ?_ | refine W.gf ?_) | (show W _ _ _ _ _ _ [] _ _; refine W.of (.done ?_)) | (apply W.of; constructor <;> first | (show W _ _ _ _ _ _ _ _ _) | (intro (al : Nat) h st; show W _ _ _ _ _ _ _ _ _) | (intro _ h st; show W _ _ _ _ _ _ _ _ _) | exact Sd))); refine W.ef0 (ho := (e_vsStore (v := iv) (l := (anG an G).map ikey) (i := A + j) st Tk (by rw [List.length_map]; omega) rfl)) (w := ?_); rintro _ h ⟨_, st⟩
            rw [← List.map_set (f := ikey), ← ea] at st
            (repeat (first | (show W _ _ _ _ _ _ (.code (cond _ _ _) :: _) _ _; first | refine W.ct ?_ | refine W.cf ?_) | (show W _ _ _ _ _ _ (.ins (cond _ _ _ :: _) :: _) _ _; first | refine W.gt ?_ | refine W.gf ?_) | (show W _ _ _ _ _ _ [] _ _; refine W.of (.done ?_)) | (apply W.of; constructor <;> first | (show W _ _ _ _ _ _ _ _ _) | (intro (al : Nat) h st; show W _ _ _ _ _ _ _ _ _) | (intro _ h st; show W _ _ _ _ _ _ _ _ _) | exact Sd)))
            refine W.of (.lp ?_)
            exact ⟨⟨j + 1, w2⟩, by simp only; omega, hjn2, Sbs, st.sel Sels⟩
          · rw [if_neg hy0, List.append_nil] at eo
            (repeat (first | (show W _ _ _ _ _ _ (.code (cond _ _ _) :: _) _ _; first | refine W.ct ?_ | refine W.cf ?_) | (show W _ _ _ _ _ _ (.ins (cond _ _ _ :: _) :: _) _ _; first | refine W.gt ?_ | refine W.gf ?_) | (show W _ _ _ _ _ _ [] _ _; refine W.of (.done ?_)) | (apply W.of; constructor <;> first | (show W _ _ _ _ _ _ _ _ _) | (intro (al : Nat) h st; show W _ _ _ _ _ _ _ _ _) | (intro _ h st; show W _ _ _ _ _ _ _ _ _) | exact Sd)))
            (repeat (first | (show W _ _ _ _ _ _ (.code (cond _ _ _) :: _) _ _; first | refine W.ct ?_ | refine W.cf ?_) | (show W _ _ _ _ _ _ (.ins (cond _ _ _ :: _) :: _) _ _; first | refine W.gt ?_ | refine W.gf ?_) | (show W _ _ _ _ _ _ [] _ _; refine W.of (.done ?_)) | (apply W.of; constructor <;> first | (show W _ _ _ _ _ _ _ _ _) | (intro (al : Nat) h st; show W _ _ _ _ _ _ _ _ _) | (intro _ h st; show W _ _ _ _ _ _ _ _ _) | exact Sd))); refine W.do (ho := fp) (w := ?_)
            (repeat (first | (show W _ _ _ _ _ _ (.code (cond _ _ _) :: _) _ _; first | refine W.ct ?_ | refine W.cf ?_) | (show W _ _ _ _ _ _ (.ins (cond _ _ _ :: _) :: _) _ _; first | refine W.gt ?_ | refine W.gf ?_) | (show W _ _ _ _ _ _ [] _ _; refine W.of (.done ?_)) | (apply W.of; constructor <;> first | (show W _ _ _ _ _ _ _ _ _) | (intro (al : Nat) h st; show W _ _ _ _ _ _ _ _ _) | (intro _ h st; show W _ _ _ _ _ _ _ _ _) | exact Sd))); refine W.ef0 (ho := (e_vsStore (v := iv) (l := (anG an G).map ikey) (i := A + j) st Tk (by rw [List.length_map]; omega) rfl)) (w := ?_); rintro _ h ⟨_, st⟩
            rw [← List.map_set (f := ikey), ← ea, ← eo] at st
            (repeat (first | (show W _ _ _ _ _ _ (.code (cond _ _ _) :: _) _ _; first | refine W.ct ?_ | refine W.cf ?_) | (show W _ _ _ _ _ _ (.ins (cond _ _ _ :: _) :: _) _ _; first | refine W.gt ?_ | refine W.gf ?_) | (show W _ _ _ _ _ _ [] _ _; refine W.of (.done ?_)) | (apply W.of; constructor <;> first | (show W _ _ _ _ _ _ _ _ _) | (intro (al : Nat) h st; show W _ _ _ _ _ _ _ _ _) | (intro _ h st; show W _ _ _ _ _ _ _ _ _) | exact Sd)))
            refine W.of (.lp ?_)
            exact ⟨⟨j + 1, wv⟩, by simp only; omega, hjn2, Sbs, st.sel Sels⟩
        · rw [if_neg (by omega), List.append_nil] at eg
          rw [← eg] at st
          (repeat (first | (show W _ _ _ _ _ _ (.code (cond _ _ _) :: _) _ _; first | refine W.ct ?_ | refine W.cf ?_) | (show W _ _ _ _ _ _ (.ins (cond _ _ _ :: _) :: _) _ _; first | refine W.gt ?_ | refine W.gf ?_) | (show W _ _ _ _ _ _ [] _ _; refine W.of (.done ?_)) | (apply W.of; constructor <;> first | (show W _ _ _ _ _ _ _ _ _) | (intro (al : Nat) h st; show W _ _ _ _ _ _ _ _ _) | (intro _ h st; show W _ _ _ _ _ _ _ _ _) | exact Sd)))
          refine W.of (.lp ?_)
          exact ⟨⟨j + 1, wv⟩, by simp only; omega, hjn2, Sbs, st.sel Sels⟩
      · have e : j = B - A := by omega
        subst e
        rw [List.take_of_length_le (by omega), ← hg] at hG
        subst hG
        rw [show ((A + (B - A) : Nat) : Int) = (B : Int) by omega] at st
        obtain ⟨cl2, cj2, _⟩ := St.ivs (v := cv) (cs := addL 0 cs (A : Int) (B : Int) (-1)) st Tk
        rw [addL_length, hcl] at cl2
        (repeat (first | (show W _ _ _ _ _ _ (.code (cond _ _ _) :: _) _ _; first | refine W.ct ?_ | refine W.cf ?_) | (show W _ _ _ _ _ _ (.ins (cond _ _ _ :: _) :: _) _ _; first | refine W.gt ?_ | refine W.gf ?_) | (show W _ _ _ _ _ _ [] _ _; refine W.of (.done ?_)) | (apply W.of; constructor <;> first | (show W _ _ _ _ _ _ _ _ _) | (intro (al : Nat) h st; show W _ _ _ _ _ _ _ _ _) | (intro _ h st; show W _ _ _ _ _ _ _ _ _) | exact Sd))); refine W.call (hs := (ref01_Ints (a := ov) (b := wv) (l := outG an G) (l' := outG an G) (by omega))) (w := ?_); rintro vv _ ⟨rfl, rfl⟩ h st; refine nj ?_; dsimp only [List.cons_append, List.nil_append] at st
        rw [decide_eq_true (rfl : outG an G = outG an G)]
        have h0' : ∀ d, d ∈ addL 0 cs (A : Int) (B : Int) (-1) → 0 ≤ d := fun d hd => by
          obtain ⟨q, hq, e⟩ := List.getElem_of_mem hd
          have h1 : (addL 0 cs (A : Int) (B : Int) (-1))[q]? = some d := by rw [List.getElem?_eq_getElem hq, e]
          rw [addL_get] at h1
          cases hc : cs[q]? with
          | none => rw [hc] at h1; cases h1
          | some c =>
            rw [hc] at h1
            simp only [Option.map_some, Option.some.injEq] at h1
            have := hok.lo c (List.mem_of_getElem? hc)
            split at h1
            · rename_i hr
              have hcs : (slc cs (A : Int) (B : Int))[q - A]? = some c := by rw [slc_get (by omega) (by omega), Int.toNat_natCast, show A + (q - A) = q by omega]; exact hc
              have := hall c (List.mem_of_getElem? hcs)
              omega
            · omega
        have h1' : ∀ d, d ∈ addL 0 cs (A : Int) (B : Int) (-1) → d ≤ 1 + ((i + 1 : Nat) : Int) := fun d hd => by
          obtain ⟨c, hc, e⟩ := addL_mem hd
          have := hok.hi c hc
          omega
        (repeat (first | (show W _ _ _ _ _ _ (.code (cond _ _ _) :: _) _ _; first | refine W.ct ?_ | refine W.cf ?_) | (show W _ _ _ _ _ _ (.ins (cond _ _ _ :: _) :: _) _ _; first | refine W.gt ?_ | refine W.gf ?_) | (show W _ _ _ _ _ _ [] _ _; refine W.of (.done ?_)) | (apply W.of; constructor <;> first | (show W _ _ _ _ _ _ _ _ _) | (intro (al : Nat) h st; show W _ _ _ _ _ _ _ _ _) | (intro _ h st; show W _ _ _ _ _ _ _ _ _) | exact Sd)))
        exact W.sub Sbs (cv_tail (O := O) (cs := addL 0 cs (A : Int) (B : Int) (-1)) (an := anG an G) (nx := nx) hlt h80 hn1 hn (by rw [addL_length]; exact hcl) hal2 h0' h1' hnx (by omega) (st.sel Sels))
end Go.Proofs.Ytjdemlagmamlbaa

namespace Go.Proofs.Ytjdemlagmamlbaa
variable {P : Nat}
set_option maxRecDepth 8000 in
theorem cv_k0 {n O i : Nat} {cv iv v : AV} {acts : List AcP} {F : List Chunk} {h : AHeap} {cs an : List Int} {nx : Int} {x : AcP} (hx : acts[i]? = some x) (hk1 : ¬ x.kind = 1) (hk2 : ¬ x.kind = 2) (hk3 : ¬ x.kind = 3) (h80 : acts.length ≤ 80) (hn1 : 1 ≤ n) (hn : n ≤ 12) (hok : CvOk n i cs an nx)
    (st : St h (cvG P cv iv v acts F O cs an)) :
    W over tab none c_law13_AmapCovers.ntmps (cvQ F) .normal (.code c_law13_AmapCovers_L1 :: .lp (cvJ P n cv iv v acts F i) :: cvK) (cvE P n cv iv v acts.length i nx) h := by
  have hlt := (List.getElem?_eq_some_iff.1 hx).1
  obtain ⟨cl, cj, cs'⟩ := St.ivs (v := cv) (cs := cs) st Tk
  obtain ⟨il, ij, is'⟩ := St.ivs (v := iv) (cs := an) st Tk
  have hcl := hok.cl
  have hal := hok.an
  obtain ⟨gp, gq⟩ := d_arIdx (kk := .i64) st Tk hlt
  obtain ⟨A, hA⟩ : ∃ A, A = uN x.lo % n := ⟨_, rfl⟩
  have hAn : A < n := by rw [hA]; exact Nat.mod_lt _ (by omega)
  obtain ⟨E, hE⟩ : ∃ E, E = uN x.hi % (n - A) := ⟨_, rfl⟩
  have hEn : E < n - A := by rw [hE]; exact Nat.mod_lt _ (by omega)
  (repeat (first | (show W _ _ _ _ _ _ (.code (cond _ _ _) :: _) _ _; first | refine W.ct ?_ | refine W.cf ?_) | (show W _ _ _ _ _ _ (.ins (cond _ _ _ :: _) :: _) _ _; first | refine W.gt ?_ | refine W.gf ?_) | (show W _ _ _ _ _ _ [] _ _; refine W.of (.done ?_)) | (apply W.of; constructor <;> first | (show W _ _ _ _ _ _ _ _ _) | (intro (al : Nat) h st; show W _ _ _ _ _ _ _ _ _) | (intro _ h st; show W _ _ _ _ _ _ _ _ _) | exact Sd))); refine W.do (ho := gp) (w := ?_)
  (repeat (first | (show W _ _ _ _ _ _ (.code (cond _ _ _) :: _) _ _; first | refine W.ct ?_ | refine W.cf ?_) | (show W _ _ _ _ _ _ (.ins (cond _ _ _ :: _) :: _) _ _; first | refine W.gt ?_ | refine W.gf ?_) | (show W _ _ _ _ _ _ [] _ _; refine W.of (.done ?_)) | (apply W.of; constructor <;> first | (show W _ _ _ _ _ _ _ _ _) | (intro (al : Nat) h st; show W _ _ _ _ _ _ _ _ _) | (intro _ h st; show W _ _ _ _ _ _ _ _ _) | exact Sd))); refine W.do (ho := (d_loadar st Tk hx)) (w := ?_)
  (repeat (first | (show W _ _ _ _ _ _ (.code (cond _ _ _) :: _) _ _; first | refine W.ct ?_ | refine W.cf ?_) | (show W _ _ _ _ _ _ (.ins (cond _ _ _ :: _) :: _) _ _; first | refine W.gt ?_ | refine W.gf ?_) | (show W _ _ _ _ _ _ [] _ _; refine W.of (.done ?_)) | (apply W.of; constructor <;> first | (show W _ _ _ _ _ _ _ _ _) | (intro (al : Nat) h st; show W _ _ _ _ _ _ _ _ _) | (intro _ h st; show W _ _ _ _ _ _ _ _ _) | exact Sd)))
  rw [uN_eq x.lo, uN_nat (n := n) (by omega)]
  (repeat (first | (show W _ _ _ _ _ _ (.code (cond _ _ _) :: _) _ _; first | refine W.ct ?_ | refine W.cf ?_) | (show W _ _ _ _ _ _ (.ins (cond _ _ _ :: _) :: _) _ _; first | refine W.gt ?_ | refine W.gf ?_) | (show W _ _ _ _ _ _ [] _ _; refine W.of (.done ?_)) | (apply W.of; constructor <;> first | (show W _ _ _ _ _ _ _ _ _) | (intro (al : Nat) h st; show W _ _ _ _ _ _ _ _ _) | (intro _ h st; show W _ _ _ _ _ _ _ _ _) | exact Sd))); refine W.do (ho := (d_remN (a := uN x.lo) (b := n) (by omega))) (w := ?_)
  rw [← hA]
  (repeat (first | (show W _ _ _ _ _ _ (.code (cond _ _ _) :: _) _ _; first | refine W.ct ?_ | refine W.cf ?_) | (show W _ _ _ _ _ _ (.ins (cond _ _ _ :: _) :: _) _ _; first | refine W.gt ?_ | refine W.gf ?_) | (show W _ _ _ _ _ _ [] _ _; refine W.of (.done ?_)) | (apply W.of; constructor <;> first | (show W _ _ _ _ _ _ _ _ _) | (intro (al : Nat) h st; show W _ _ _ _ _ _ _ _ _) | (intro _ h st; show W _ _ _ _ _ _ _ _ _) | exact Sd)))
  rw [wrap64 (n := (A : Int)) (by omega) (by omega)]
  (repeat (first | (show W _ _ _ _ _ _ (.code (cond _ _ _) :: _) _ _; first | refine W.ct ?_ | refine W.cf ?_) | (show W _ _ _ _ _ _ (.ins (cond _ _ _ :: _) :: _) _ _; first | refine W.gt ?_ | refine W.gf ?_) | (show W _ _ _ _ _ _ [] _ _; refine W.of (.done ?_)) | (apply W.of; constructor <;> first | (show W _ _ _ _ _ _ _ _ _) | (intro (al : Nat) h st; show W _ _ _ _ _ _ _ _ _) | (intro _ h st; show W _ _ _ _ _ _ _ _ _) | exact Sd)))
  rw [uN_eq x.hi, show (n : Int) - (A : Int) = ((n - A : Nat) : Int) by omega, uN_nat (n := n - A) (by omega)]
  (repeat (first | (show W _ _ _ _ _ _ (.code (cond _ _ _) :: _) _ _; first | refine W.ct ?_ | refine W.cf ?_) | (show W _ _ _ _ _ _ (.ins (cond _ _ _ :: _) :: _) _ _; first | refine W.gt ?_ | refine W.gf ?_) | (show W _ _ _ _ _ _ [] _ _; refine W.of (.done ?_)) | (apply W.of; constructor <;> first | (show W _ _ _ _ _ _ _ _ _) | (intro (al : Nat) h st; show W _ _ _ _ _ _ _ _ _) | (intro _ h st; show W _ _ _ _ _ _ _ _ _) | exact Sd))); refine W.do (ho := (d_remN (a := uN x.hi) (b := n - A) (by omega))) (w := ?_)
  rw [← hE]
  (repeat (first | (show W _ _ _ _ _ _ (.code (cond _ _ _) :: _) _ _; first | refine W.ct ?_ | refine W.cf ?_) | (show W _ _ _ _ _ _ (.ins (cond _ _ _ :: _) :: _) _ _; first | refine W.gt ?_ | refine W.gf ?_) | (show W _ _ _ _ _ _ [] _ _; refine W.of (.done ?_)) | (apply W.of; constructor <;> first | (show W _ _ _ _ _ _ _ _ _) | (intro (al : Nat) h st; show W _ _ _ _ _ _ _ _ _) | (intro _ h st; show W _ _ _ _ _ _ _ _ _) | exact Sd)))
  rw [wrap64 (n := (E : Int)) (by omega) (by omega)]
  (repeat (first | (show W _ _ _ _ _ _ (.code (cond _ _ _) :: _) _ _; first | refine W.ct ?_ | refine W.cf ?_) | (show W _ _ _ _ _ _ (.ins (cond _ _ _ :: _) :: _) _ _; first | refine W.gt ?_ | refine W.gf ?_) | (show W _ _ _ _ _ _ [] _ _; refine W.of (.done ?_)) | (apply W.of; constructor <;> first | (show W _ _ _ _ _ _ _ _ _) | (intro (al : Nat) h st; show W _ _ _ _ _ _ _ _ _) | (intro _ h st; show W _ _ _ _ _ _ _ _ _) | exact Sd)))
  have hn4 : ∀ c, c ∈ cs → c ≤ 1 + ((i + 1 : Nat) : Int) := fun c hc => by have := hok.hi c hc; omega
  have hnx := hok.n0
  have hnx1 := hok.n1
  rw [hcl]
  exact W.sub Sbs (cv_tail (O := O) (cs := cs) (an := an) (nx := nx) hlt h80 hn1 hn hcl hal hok.lo hn4 hnx (by omega) (st.sel Sels))
/-- some ones, then noughts -/
def onesL (n j : Nat) : List Int := List.replicate j 1 ++ List.replicate (n - j) 0
theorem onesL_len {n j : Nat} (h : j ≤ n) : (onesL n j).length = n := by simp [onesL]; omega
theorem onesL_set {n j : Nat} (h : j < n) : (onesL n j).set j 1 = onesL n (j + 1) := by
  unfold onesL
  rw [List.set_append_right _ _ (by simp), List.length_replicate, Nat.sub_self, show n - j = (n - (j + 1)) + 1 by omega, List.replicate_succ, List.set_cons_zero, List.replicate_succ' , List.append_assoc]
  rfl
theorem sum_ones {n : Nat} : (List.replicate n (1 : Int)).sum = n := by simp
set_option maxRecDepth 8000 in
theorem cv_main {P O n : Nat} {cv iv v : AV} {acts : List AcP} {F : List Chunk} {h : AHeap} (h80 : acts.length ≤ 80) (hn1 : 1 ≤ n) (hn : n ≤ 12) (hl : sliceLen v = some acts.length) (hj : v.notJunk = some v)
    (st : St h (PoC P 1 (putZ [] (newAm O n)) :: VsC cv 3 ((List.replicate n (0 : Int)).map ikey) true :: VsC iv 3 ((List.replicate n (0 : Int)).map ikey) true :: AcPC v acts :: F)) :
    W over tab none c_law13_AmapCovers.ntmps (cvQ F) .normal [.code (.loop c_law13_AmapCovers_L0), .blk 0, .code (sR (sR (sR (sR (sR (sR (sR c_law13_AmapCovers.body)))))))]
      [(1, v), (5, .int .i64 n), (6, .ptr P 0), (7, .int .i64 1), (9, cv), (10, iv), (60, .int .i64 n), (61, .int .i64 0)] h := by
  have hs0 : (List.replicate n (1 : Int)).sum ≠ 0 := by rw [sum_ones]; omega
  have ep : putZ [] (newAm O n) = poolOf O (List.replicate n 1) (List.replicate n 0) := by rw [poolOf_some hs0]; rfl
  rw [ep] at st
  refine W.loop (fun j : Nat => [(1, v), (5, .int .i64 n), (6, .ptr P 0), (7, .int .i64 1), (9, cv), (10, iv), (60, .int .i64 n), (61, .int .i64 j)]) (fun j => VsC cv 3 ((onesL n j).map ikey) true :: PoC P 1 (poolOf O (List.replicate n 1) (List.replicate n 0)) :: VsC iv 3 ((List.replicate n (0 : Int)).map ikey) true :: AcPC v acts :: F) (fun j => j ≤ n) (fun j => n - j) 0 (small_rounds (by omega)) Sbs ?_ (Nat.zero_le _) ?_
  · have e : onesL n 0 = List.replicate n 0 := rfl
    rw [e]
    exact st.sel Sels
  clear st
  intro j h hjn st
  obtain ⟨cl, cj, cs'⟩ := St.ivs (v := cv) (cs := onesL n j) st Tk
  obtain ⟨il, ij, is'⟩ := St.ivs (v := iv) (cs := List.replicate n 0) st Tk
  by_cases hlt : j < n
  · obtain ⟨gp, gq⟩ := d_vsIdx (v := cv) (l := (onesL n j).map ikey) (i := j) (kk := .i64) st Tk (by rw [List.length_map, onesL_len hjn]; omega)
    (repeat (first | (show W _ _ _ _ _ _ (.code (cond _ _ _) :: _) _ _; first | refine W.ct ?_ | refine W.cf ?_) | (show W _ _ _ _ _ _ (.ins (cond _ _ _ :: _) :: _) _ _; first | refine W.gt ?_ | refine W.gf ?_) | (show W _ _ _ _ _ _ [] _ _; refine W.of (.done ?_)) | (apply W.of; constructor <;> first | (show W _ _ _ _ _ _ _ _ _) | (intro (al : Nat) h st; show W _ _ _ _ _ _ _ _ _) | (intro _ h st; show W _ _ _ _ _ _ _ _ _) | exact Sd))); refine W.do (ho := gp) (w := ?_)
    (repeat (first | (show W _ _ _ _ _ _ (.code (cond _ _ _) :: _) _ _; first | refine W.ct ?_ | refine W.cf ?_) | (show W _ _ _ _ _ _ (.ins (cond _ _ _ :: _) :: _) _ _; first | refine W.gt ?_ | refine W.gf ?_) | (show W _ _ _ _ _ _ [] _ _; refine W.of (.done ?_)) | (apply W.of; constructor <;> first | (show W _ _ _ _ _ _ _ _ _) | (intro (al : Nat) h st; show W _ _ _ _ _ _ _ _ _) | (intro _ h st; show W _ _ _ _ _ _ _ _ _) | exact Sd))); refine W.ef0 (ho := (e_vsStore (v := cv) (l := (onesL n j).map ikey) (i := j) st Tk (by rw [List.length_map, onesL_len hjn]; omega) rfl)) (w := ?_); rintro _ h ⟨_, st⟩
    rw [show ((onesL n j).map ikey).set j (.int .i64 1) = (onesL n (j + 1)).map ikey by rw [← onesL_set hlt, List.map_set]] at st
    (repeat (first | (show W _ _ _ _ _ _ (.code (cond _ _ _) :: _) _ _; first | refine W.ct ?_ | refine W.cf ?_) | (show W _ _ _ _ _ _ (.ins (cond _ _ _ :: _) :: _) _ _; first | refine W.gt ?_ | refine W.gf ?_) | (show W _ _ _ _ _ _ [] _ _; refine W.of (.done ?_)) | (apply W.of; constructor <;> first | (show W _ _ _ _ _ _ _ _ _) | (intro (al : Nat) h st; show W _ _ _ _ _ _ _ _ _) | (intro _ h st; show W _ _ _ _ _ _ _ _ _) | exact Sd)))
    refine W.of (.lp ?_)
    exact ⟨j + 1, by omega, hlt, Sbs, st.sel Sels⟩
  · obtain rfl : j = n := by omega
    have e : onesL j j = List.replicate j 1 := by simp [onesL]
    rw [e] at st
    (repeat (first | (show W _ _ _ _ _ _ (.code (cond _ _ _) :: _) _ _; first | refine W.ct ?_ | refine W.cf ?_) | (show W _ _ _ _ _ _ (.ins (cond _ _ _ :: _) :: _) _ _; first | refine W.gt ?_ | refine W.gf ?_) | (show W _ _ _ _ _ _ [] _ _; refine W.of (.done ?_)) | (apply W.of; constructor <;> first | (show W _ _ _ _ _ _ _ _ _) | (intro (al : Nat) h st; show W _ _ _ _ _ _ _ _ _) | (intro _ h st; show W _ _ _ _ _ _ _ _ _) | exact Sd)))
    refine W.loop (fun y : CvS => cvE P j cv iv v acts.length y.i y.nx) (fun y => cvG P cv iv v acts F y.O y.cs y.an) (fun y => y.i ≤ acts.length ∧ CvOk j y.i y.cs y.an y.nx) (fun y => acts.length - y.i) ⟨0, O, List.replicate j 1, List.replicate j 0, 1⟩ (small_rounds (by simp only; omega)) Sbs (st.sel Sels) ⟨Nat.zero_le _, by simp, by simp, fun c hc => by rw [(List.mem_replicate.1 hc).2]; decide, fun c hc => by rw [(List.mem_replicate.1 hc).2]; simp, hs0, by simp, by simp⟩ ?_
    clear st
    intro ⟨i, O, cs, an, nx⟩ h ⟨hi, hok⟩ st
    dsimp only at hi hok st ⊢
    by_cases hlt2 : i < acts.length
    · obtain ⟨x, hx⟩ : ∃ x, acts[i]? = some x := ⟨acts[i], by simp [hlt2]⟩
      by_cases hk1 : x.kind = 1
      · exact cv_k1 hx hk1 h80 hn1 hn hok st
      · by_cases hk2 : x.kind = 2
        · exact cv_k2 hx hk2 h80 hn1 hn hok st
        · by_cases hk3 : x.kind = 3
          · exact cv_k3 hx hk3 h80 hn1 hn hok st
          · exact cv_k0 hx hk1 hk2 hk3 h80 hn1 hn hok st
    · have st : St h (PoC P 1 [some ⟨O, cs, an⟩] :: VsC cv 3 (cs.map ikey) true :: VsC iv 3 (an.map ikey) true :: AcPC v acts :: F) := by rw [← poolOf_some hok.s]; exact st
      (repeat (first | (show W _ _ _ _ _ _ (.code (cond _ _ _) :: _) _ _; first | refine W.ct ?_ | refine W.cf ?_) | (show W _ _ _ _ _ _ (.ins (cond _ _ _ :: _) :: _) _ _; first | refine W.gt ?_ | refine W.gf ?_) | (show W _ _ _ _ _ _ [] _ _; refine W.of (.done ?_)) | (apply W.of; constructor <;> first | (show W _ _ _ _ _ _ _ _ _) | (intro (al : Nat) h st; show W _ _ _ _ _ _ _ _ _) | (intro _ h st; show W _ _ _ _ _ _ _ _ _) | exact Sd))); refine W.call (hs := (po_Ids (P := P))) (w := ?_); rintro vv _ ⟨dj, dl, rfl⟩ h st; refine nj ?_; dsimp only [List.cons_append, List.nil_append] at st
      (repeat (first | (show W _ _ _ _ _ _ (.code (cond _ _ _) :: _) _ _; first | refine W.ct ?_ | refine W.cf ?_) | (show W _ _ _ _ _ _ (.ins (cond _ _ _ :: _) :: _) _ _; first | refine W.gt ?_ | refine W.gf ?_) | (show W _ _ _ _ _ _ [] _ _; refine W.of (.done ?_)) | (apply W.of; constructor <;> first | (show W _ _ _ _ _ _ _ _ _) | (intro (al : Nat) h st; show W _ _ _ _ _ _ _ _ _) | (intro _ h st; show W _ _ _ _ _ _ _ _ _) | exact Sd)))
      (repeat (first | (show W _ _ _ _ _ _ (.code (cond _ _ _) :: _) _ _; first | refine W.ct ?_ | refine W.cf ?_) | (show W _ _ _ _ _ _ (.ins (cond _ _ _ :: _) :: _) _ _; first | refine W.gt ?_ | refine W.gf ?_) | (show W _ _ _ _ _ _ [] _ _; refine W.of (.done ?_)) | (apply W.of; constructor <;> first | (show W _ _ _ _ _ _ _ _ _) | (intro (al : Nat) h st; show W _ _ _ _ _ _ _ _ _) | (intro _ h st; show W _ _ _ _ _ _ _ _ _) | exact Sd))); refine W.call (hs := law13_lives) (w := ?_); rintro vv _ ⟨rfl, rfl⟩ h st; refine nj ?_; dsimp only [List.cons_append, List.nil_append] at st
      (repeat (first | (show W _ _ _ _ _ _ (.code (cond _ _ _) :: _) _ _; first | refine W.ct ?_ | refine W.cf ?_) | (show W _ _ _ _ _ _ (.ins (cond _ _ _ :: _) :: _) _ _; first | refine W.gt ?_ | refine W.gf ?_) | (show W _ _ _ _ _ _ [] _ _; refine W.of (.done ?_)) | (apply W.of; constructor <;> first | (show W _ _ _ _ _ _ _ _ _) | (intro (al : Nat) h st; show W _ _ _ _ _ _ _ _ _) | (intro _ h st; show W _ _ _ _ _ _ _ _ _) | exact Sd)))
      exact ⟨_, rfl, [_, _, _, _, _], rfl, st⟩
set_option maxRecDepth 8000 in
theorem covers_w {s : Nat} {v : AV} {acts : List AcP} : Spec R (.f n_law13_AmapCovers) [.int .u64 (s : Nat), v] [AcPC v acts] fun r _ => r = .bool true := by
  obtain ⟨n, hn⟩ : ∃ n, n = 1 + s % 12 := ⟨_, rfl⟩
  refine spec_in fun h F st => ?_
  obtain ⟨hl, hj⟩ := st.ar Tk
  clear st h F; refine spec_w (fun _ _ _ x => progI_call rfl rfl x) Njs rfl (fun h F st => ?_); dsimp only [List.cons_append, List.nil_append] at st
  (repeat (first | (show W _ _ _ _ _ _ (.code (cond _ _ _) :: _) _ _; first | refine W.ct ?_ | refine W.cf ?_) | (show W _ _ _ _ _ _ (.ins (cond _ _ _ :: _) :: _) _ _; first | refine W.gt ?_ | refine W.gf ?_) | (show W _ _ _ _ _ _ [] _ _; refine W.of (.done ?_)) | (apply W.of; constructor <;> first | (show W _ _ _ _ _ _ _ _ _) | (intro (al : Nat) h st; show W _ _ _ _ _ _ _ _ _) | (intro _ h st; show W _ _ _ _ _ _ _ _ _) | exact Sd)))
  rw [show ((s : Nat) : Int).tmod 12 = ((s % 12 : Nat) : Int) from Int.ofNat_tmod _ 12, wrap64 (n := ((s % 12 : Nat) : Int)) (by omega) (by omega)]
  (repeat (first | (show W _ _ _ _ _ _ (.code (cond _ _ _) :: _) _ _; first | refine W.ct ?_ | refine W.cf ?_) | (show W _ _ _ _ _ _ (.ins (cond _ _ _ :: _) :: _) _ _; first | refine W.gt ?_ | refine W.gf ?_) | (show W _ _ _ _ _ _ [] _ _; refine W.of (.done ?_)) | (apply W.of; constructor <;> first | (show W _ _ _ _ _ _ _ _ _) | (intro (al : Nat) h st; show W _ _ _ _ _ _ _ _ _) | (intro _ h st; show W _ _ _ _ _ _ _ _ _) | exact Sd)))
  rw [show (1 : Int) + ((s % 12 : Nat) : Int) = (n : Int) by omega]
  (repeat (first | (show W _ _ _ _ _ _ (.code (cond _ _ _) :: _) _ _; first | refine W.ct ?_ | refine W.cf ?_) | (show W _ _ _ _ _ _ (.ins (cond _ _ _ :: _) :: _) _ _; first | refine W.gt ?_ | refine W.gf ?_) | (show W _ _ _ _ _ _ [] _ _; refine W.of (.done ?_)) | (apply W.of; constructor <;> first | (show W _ _ _ _ _ _ _ _ _) | (intro (al : Nat) h st; show W _ _ _ _ _ _ _ _ _) | (intro _ h st; show W _ _ _ _ _ _ _ _ _) | exact Sd))); refine W.call (hs := (po_New_ok (m := 1) (by omega))) (w := ?_); rintro vv _ ⟨P, rfl, rfl⟩ h st; refine nj ?_; dsimp only [List.cons_append, List.nil_append] at st
  (repeat (first | (show W _ _ _ _ _ _ (.code (cond _ _ _) :: _) _ _; first | refine W.ct ?_ | refine W.cf ?_) | (show W _ _ _ _ _ _ (.ins (cond _ _ _ :: _) :: _) _ _; first | refine W.gt ?_ | refine W.gf ?_) | (show W _ _ _ _ _ _ [] _ _; refine W.of (.done ?_)) | (apply W.of; constructor <;> first | (show W _ _ _ _ _ _ _ _ _) | (intro (al : Nat) h st; show W _ _ _ _ _ _ _ _ _) | (intro _ h st; show W _ _ _ _ _ _ _ _ _) | exact Sd))); refine W.call (hs := (po_Make_ok (P := P) (most := 1) (zs := []) (m := (n : Nat)) (by omega) (by decide))) (w := ?_); rintro vv _ ⟨O, rfl, rfl⟩ h st; refine nj ?_; dsimp only [List.cons_append, List.nil_append] at st
  rw [Int.toNat_natCast] at st
  rw [show ((firstN [] : Nat) : Int) + 1 = 1 from rfl]
  by_cases h80 : acts.length ≤ 80
  · (repeat (first | (show W _ _ _ _ _ _ (.code (cond _ _ _) :: _) _ _; first | refine W.ct ?_ | refine W.cf ?_) | (show W _ _ _ _ _ _ (.ins (cond _ _ _ :: _) :: _) _ _; first | refine W.gt ?_ | refine W.gf ?_) | (show W _ _ _ _ _ _ [] _ _; refine W.of (.done ?_)) | (apply W.of; constructor <;> first | (show W _ _ _ _ _ _ _ _ _) | (intro (al : Nat) h st; show W _ _ _ _ _ _ _ _ _) | (intro _ h st; show W _ _ _ _ _ _ _ _ _) | exact Sd)))
    have hmk : ∀ {h : AHeap} {L : List Chunk} (st : St h L), Eff R (.mkslice 3 1 8 (.vals [.int .i64 0])) [.int .i64 (n : Nat), .int .i64 (n : Nat)] h fun x h' => ∃ id, x = .sl id 0 ((n : Nat) : Int).toNat ((n : Nat) : Int).toNat ∧ St h' (.pt id (.row 3 1 false false (.vals ((List.replicate n (0 : Int)).map ikey))) :: L) := fun st =>
      e_mkslice (e := 3) (es := 1) (b := 8) (z := .vals [.int .i64 0]) (d := .vals ((List.replicate n (0 : Int)).map ikey)) (l := (n : Nat)) (c := (n : Nat)) st (by omega) (by omega) (by omega) (by omega) rfl (by show Dat.vals (List.replicate n [AV.int .i64 0]).flatten = _; rw [rep_ikey]) (by simp [Dat.len]) rfl
    refine W.draw2 ?_ ?_
    · (repeat (first | (show W _ _ _ _ _ _ (.code (cond _ _ _) :: _) _ _; first | refine W.ct ?_ | refine W.cf ?_) | (show W _ _ _ _ _ _ (.ins (cond _ _ _ :: _) :: _) _ _; first | refine W.gt ?_ | refine W.gf ?_) | (show W _ _ _ _ _ _ [] _ _; refine W.of (.done ?_)) | (apply W.of; constructor <;> first | (show W _ _ _ _ _ _ _ _ _) | (intro (al : Nat) h st; show W _ _ _ _ _ _ _ _ _) | (intro _ h st; show W _ _ _ _ _ _ _ _ _) | exact Sd))); refine W.ef (ho := (hmk st)) (w := ?_); rintro vv h ⟨id1, rfl, st⟩; refine nj ?_
      (repeat (first | (show W _ _ _ _ _ _ (.code (cond _ _ _) :: _) _ _; first | refine W.ct ?_ | refine W.cf ?_) | (show W _ _ _ _ _ _ (.ins (cond _ _ _ :: _) :: _) _ _; first | refine W.gt ?_ | refine W.gf ?_) | (show W _ _ _ _ _ _ [] _ _; refine W.of (.done ?_)) | (apply W.of; constructor <;> first | (show W _ _ _ _ _ _ _ _ _) | (intro (al : Nat) h st; show W _ _ _ _ _ _ _ _ _) | (intro _ h st; show W _ _ _ _ _ _ _ _ _) | exact Sd))); refine W.ef (ho := (hmk st)) (w := ?_); rintro vv h ⟨id2, rfl, st⟩; refine nj ?_
      have st := St.vsRow (id := id1) (l := (List.replicate n (0 : Int)).map ikey) (e := 3) (n := n) st Tk (by simp)
      have st := St.vsRow (id := id2) (l := (List.replicate n (0 : Int)).map ikey) (e := 3) (n := n) st Tk (by simp)
      rw [Int.toNat_natCast]
      (repeat (first | (show W _ _ _ _ _ _ (.code (cond _ _ _) :: _) _ _; first | refine W.ct ?_ | refine W.cf ?_) | (show W _ _ _ _ _ _ (.ins (cond _ _ _ :: _) :: _) _ _; first | refine W.gt ?_ | refine W.gf ?_) | (show W _ _ _ _ _ _ [] _ _; refine W.of (.done ?_)) | (apply W.of; constructor <;> first | (show W _ _ _ _ _ _ _ _ _) | (intro (al : Nat) h st; show W _ _ _ _ _ _ _ _ _) | (intro _ h st; show W _ _ _ _ _ _ _ _ _) | exact Sd)))
      exact W.sub Sbs (cv_main h80 (by omega) (by omega) hl hj (st.sel Sels))
    · (repeat (first | (show W _ _ _ _ _ _ (.code (cond _ _ _) :: _) _ _; first | refine W.ct ?_ | refine W.cf ?_) | (show W _ _ _ _ _ _ (.ins (cond _ _ _ :: _) :: _) _ _; first | refine W.gt ?_ | refine W.gf ?_) | (show W _ _ _ _ _ _ [] _ _; refine W.of (.done ?_)) | (apply W.of; constructor <;> first | (show W _ _ _ _ _ _ _ _ _) | (intro (al : Nat) h st; show W _ _ _ _ _ _ _ _ _) | (intro _ h st; show W _ _ _ _ _ _ _ _ _) | exact Sd))); refine W.ef (ho := (hmk st)) (w := ?_); rintro vv h ⟨id1, rfl, st⟩; refine nj ?_
      (repeat (first | (show W _ _ _ _ _ _ (.code (cond _ _ _) :: _) _ _; first | refine W.ct ?_ | refine W.cf ?_) | (show W _ _ _ _ _ _ (.ins (cond _ _ _ :: _) :: _) _ _; first | refine W.gt ?_ | refine W.gf ?_) | (show W _ _ _ _ _ _ [] _ _; refine W.of (.done ?_)) | (apply W.of; constructor <;> first | (show W _ _ _ _ _ _ _ _ _) | (intro (al : Nat) h st; show W _ _ _ _ _ _ _ _ _) | (intro _ h st; show W _ _ _ _ _ _ _ _ _) | exact Sd))); refine W.ef (ho := (hmk st)) (w := ?_); rintro vv h ⟨id2, rfl, st⟩; refine nj ?_
      have st := St.vsRow (id := id1) (l := (List.replicate n (0 : Int)).map ikey) (e := 3) (n := n) st Tk (by simp)
      have st := St.vsRow (id := id2) (l := (List.replicate n (0 : Int)).map ikey) (e := 3) (n := n) st Tk (by simp)
      rw [Int.toNat_natCast]
      (repeat (first | (show W _ _ _ _ _ _ (.code (cond _ _ _) :: _) _ _; first | refine W.ct ?_ | refine W.cf ?_) | (show W _ _ _ _ _ _ (.ins (cond _ _ _ :: _) :: _) _ _; first | refine W.gt ?_ | refine W.gf ?_) | (show W _ _ _ _ _ _ [] _ _; refine W.of (.done ?_)) | (apply W.of; constructor <;> first | (show W _ _ _ _ _ _ _ _ _) | (intro (al : Nat) h st; show W _ _ _ _ _ _ _ _ _) | (intro _ h st; show W _ _ _ _ _ _ _ _ _) | exact Sd)))
      exact W.sub Sbs (cv_main h80 (by omega) (by omega) hl hj (st.sel Sels))
  · (repeat (first | (show W _ _ _ _ _ _ (.code (cond _ _ _) :: _) _ _; first | refine W.ct ?_ | refine W.cf ?_) | (show W _ _ _ _ _ _ (.ins (cond _ _ _ :: _) :: _) _ _; first | refine W.gt ?_ | refine W.gf ?_) | (show W _ _ _ _ _ _ [] _ _; refine W.of (.done ?_)) | (apply W.of; constructor <;> first | (show W _ _ _ _ _ _ _ _ _) | (intro (al : Nat) h st; show W _ _ _ _ _ _ _ _ _) | (intro _ h st; show W _ _ _ _ _ _ _ _ _) | exact Sd)))
    (repeat (first | (show W _ _ _ _ _ _ (.code (cond _ _ _) :: _) _ _; first | refine W.ct ?_ | refine W.cf ?_) | (show W _ _ _ _ _ _ (.ins (cond _ _ _ :: _) :: _) _ _; first | refine W.gt ?_ | refine W.gf ?_) | (show W _ _ _ _ _ _ [] _ _; refine W.of (.done ?_)) | (apply W.of; constructor <;> first | (show W _ _ _ _ _ _ _ _ _) | (intro (al : Nat) h st; show W _ _ _ _ _ _ _ _ _) | (intro _ h st; show W _ _ _ _ _ _ _ _ _) | exact Sd))); refine W.call (hs := law13_lives) (w := ?_); rintro vv _ ⟨rfl, rfl⟩ h st; refine nj ?_; dsimp only [List.cons_append, List.nil_append] at st
    (repeat (first | (show W _ _ _ _ _ _ (.code (cond _ _ _) :: _) _ _; first | refine W.ct ?_ | refine W.cf ?_) | (show W _ _ _ _ _ _ (.ins (cond _ _ _ :: _) :: _) _ _; first | refine W.gt ?_ | refine W.gf ?_) | (show W _ _ _ _ _ _ [] _ _; refine W.of (.done ?_)) | (apply W.of; constructor <;> first | (show W _ _ _ _ _ _ _ _ _) | (intro (al : Nat) h st; show W _ _ _ _ _ _ _ _ _) | (intro _ h st; show W _ _ _ _ _ _ _ _ _) | exact Sd)))
    exact ⟨_, rfl, [_, _], rfl, st.sel Sels⟩
end Go.Proofs.Ytjdemlagmamlbaa
