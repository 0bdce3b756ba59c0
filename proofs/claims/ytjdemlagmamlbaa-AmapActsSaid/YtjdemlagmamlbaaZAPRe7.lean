/- BY PROGRAM (wip/tool/shake.py): own texts, one behind the other, without what is not needed. -/
import Derived.Control
import Derived.Calls
import Derived.KernelRfl
import Derived.Laws.Sem
import Derived.Laws.Cells
import Derived.Laws.World
import GoSem.Dispatch
import Derived.Laws.StructEq
import Derived.IntWalk
import Derived.WideKeyRuns
import Derived.Laws.BytesArg
import Derived.Orders
import Derived.ChangeArms
import Derived.OpenShut
import Derived.ChangeShapes
import Derived.ProofKit
import Derived.Test.YtjdemlagmamlbaaProg
import Derived.Test.YtjdemlagmamlbaaRows
import Derived.Test.YtjdemlagmamlbaaZAPRe6

namespace Go.Proofs.Ytjdemlagmamlbaa
variable {P most : Nat} {zs : List (Option AmV)} {a : AmV}
abbrev rholdPost (P most : Nat) (zs : List (Option AmV)) (id lo hi : Int) (v : AV) (Rs : List Chunk) : Prop :=
  (atZ zs id = none ∧ v = .int .i64 7 ∧ Rs = [RpC P most zs]) ∨
  ∃ a, atZ zs id = some a ∧ ((HoldOk a lo hi ∧ v = .int .i64 0 ∧ Rs = [RpC P most (zs.set (id - 1).toNat (some (holdA a lo hi)))]) ∨ (¬ HoldOk a lo hi ∧ v = .int .i64 2 ∧ Rs = [RpC P most zs]))
set_option maxRecDepth 8000 in
theorem rp_Hold {id lo hi : Int} : Spec R (.f n_ref13_Pool_Hold) [.ptr P 0, .int .i64 id, .int .i64 lo, .int .i64 hi] [RpC P most zs] (rholdPost P most zs id lo hi) := by
  refine spec_w (fun _ _ _ x => progI_call rfl rfl x) Njs rfl (fun h F st => ?_); dsimp only [List.cons_append, List.nil_append] at st
  have znj := zptr_nj (atZ zs id)
  have zok := zptr_ok (atZ zs id)
  (repeat (first | (show W _ _ _ _ _ _ (.code (cond _ _ _) :: _) _ _; first | refine W.ct ?_ | refine W.cf ?_) | (show W _ _ _ _ _ _ (.ins (cond _ _ _ :: _) :: _) _ _; first | refine W.gt ?_ | refine W.gf ?_) | (show W _ _ _ _ _ _ [] _ _; refine W.of (.done ?_)) | (apply W.of; constructor <;> first | (show W _ _ _ _ _ _ _ _ _) | (intro (al : Nat) h st; show W _ _ _ _ _ _ _ _ _) | (intro _ h st; show W _ _ _ _ _ _ _ _ _) | exact Sd))); refine W.call (hs := rp_of) (w := ?_); rintro vv _ ⟨rfl, rfl⟩ h st; refine nj ?_; dsimp only [List.cons_append, List.nil_append] at st
  cases ha : atZ zs id with
  | none =>
    dsimp only [zptr]
    (repeat (first | (show W _ _ _ _ _ _ (.code (cond _ _ _) :: _) _ _; first | refine W.ct ?_ | refine W.cf ?_) | (show W _ _ _ _ _ _ (.ins (cond _ _ _ :: _) :: _) _ _; first | refine W.gt ?_ | refine W.gf ?_) | (show W _ _ _ _ _ _ [] _ _; refine W.of (.done ?_)) | (apply W.of; constructor <;> first | (show W _ _ _ _ _ _ _ _ _) | (intro (al : Nat) h st; show W _ _ _ _ _ _ _ _ _) | (intro _ h st; show W _ _ _ _ _ _ _ _ _) | exact Sd)))
    exact ⟨_, rfl, _, .inl ⟨ha, rfl, rfl⟩, st⟩
  | some a =>
    dsimp only [zptr]
    obtain ⟨hi1, hi2, hz⟩ := atZ_some ha
    have st := st.rpOut Tk hz
    have hok := st.ra Tk
    have hlen := hok.len
    have hn1 := hok.n1
    have hn4 := hok.n4
    obtain ⟨_, ⟨D, v, rfl, _⟩, st⟩ := St.unpack st; dsimp only [List.cons_append, List.nil_append] at st
    obtain ⟨vl, vj, vs⟩ := St.ivs (v := v) (cs := a.an) st Tk
    have hback : ∀ {h : AHeap}, St h (.pt a.O (raRow D v) :: RcC D a.cs :: VsC v 3 (a.an.map ikey) true :: RpXC P most zs (id - 1).toNat :: F) → St h (RpC P most zs :: F) := fun st => by
      have st := St.packP (t := 50) (k := .ptr a.O 0) (P := RaIs a) (cs := [.pt a.O (raRow D v), RcC D a.cs, VsC v 3 (a.an.map ikey) true]) st ⟨D, v, rfl, hok⟩ Pks
      exact st.rpBack hz Tk Tk
    by_cases c1 : lo < 0
    · (repeat (first | (show W _ _ _ _ _ _ (.code (cond _ _ _) :: _) _ _; first | refine W.ct ?_ | refine W.cf ?_) | (show W _ _ _ _ _ _ (.ins (cond _ _ _ :: _) :: _) _ _; first | refine W.gt ?_ | refine W.gf ?_) | (show W _ _ _ _ _ _ [] _ _; refine W.of (.done ?_)) | (apply W.of; constructor <;> first | (show W _ _ _ _ _ _ _ _ _) | (intro (al : Nat) h st; show W _ _ _ _ _ _ _ _ _) | (intro _ h st; show W _ _ _ _ _ _ _ _ _) | exact Sd)))
      exact ⟨_, rfl, _, .inr ⟨a, ha, .inr ⟨fun hh => by have := hh.l0; omega, rfl, rfl⟩⟩, hback (st.sel Sels)⟩
    · by_cases c2 : lo ≥ hi
      · (repeat (first | (show W _ _ _ _ _ _ (.code (cond _ _ _) :: _) _ _; first | refine W.ct ?_ | refine W.cf ?_) | (show W _ _ _ _ _ _ (.ins (cond _ _ _ :: _) :: _) _ _; first | refine W.gt ?_ | refine W.gf ?_) | (show W _ _ _ _ _ _ [] _ _; refine W.of (.done ?_)) | (apply W.of; constructor <;> first | (show W _ _ _ _ _ _ _ _ _) | (intro (al : Nat) h st; show W _ _ _ _ _ _ _ _ _) | (intro _ h st; show W _ _ _ _ _ _ _ _ _) | exact Sd)))
        exact ⟨_, rfl, _, .inr ⟨a, ha, .inr ⟨fun hh => by have := hh.lt; omega, rfl, rfl⟩⟩, hback (st.sel Sels)⟩
      · by_cases c3 : hi > a.an.length
        · (repeat (first | (show W _ _ _ _ _ _ (.code (cond _ _ _) :: _) _ _; first | refine W.ct ?_ | refine W.cf ?_) | (show W _ _ _ _ _ _ (.ins (cond _ _ _ :: _) :: _) _ _; first | refine W.gt ?_ | refine W.gf ?_) | (show W _ _ _ _ _ _ [] _ _; refine W.of (.done ?_)) | (apply W.of; constructor <;> first | (show W _ _ _ _ _ _ _ _ _) | (intro (al : Nat) h st; show W _ _ _ _ _ _ _ _ _) | (intro _ h st; show W _ _ _ _ _ _ _ _ _) | exact Sd)))
          exact ⟨_, rfl, _, .inr ⟨a, ha, .inr ⟨fun hh => by have := hh.h0; omega, rfl, rfl⟩⟩, hback (st.sel Sels)⟩
        · obtain ⟨A, rfl⟩ : ∃ A : Nat, lo = (A : Int) := ⟨lo.toNat, by omega⟩
          obtain ⟨B, rfl⟩ : ∃ B : Nat, hi = (B : Int) := ⟨hi.toNat, by omega⟩
          have hsl : (slc a.cs (A : Int) (B : Int)).length = B - A := by rw [slc_len (by omega) (by omega) (by omega)]; omega
          (repeat (first | (show W _ _ _ _ _ _ (.code (cond _ _ _) :: _) _ _; first | refine W.ct ?_ | refine W.cf ?_) | (show W _ _ _ _ _ _ (.ins (cond _ _ _ :: _) :: _) _ _; first | refine W.gt ?_ | refine W.gf ?_) | (show W _ _ _ _ _ _ [] _ _; refine W.of (.done ?_)) | (apply W.of; constructor <;> first | (show W _ _ _ _ _ _ _ _ _) | (intro (al : Nat) h st; show W _ _ _ _ _ _ _ _ _) | (intro _ h st; show W _ _ _ _ _ _ _ _ _) | exact Sd)))
          refine W.loop (fun j : Nat => [(2, .int .i64 A), (3, .int .i64 B), (9, .ptr a.O 0), (10, .int .i64 ((A + j : Nat) : Int))]) (fun _ => .pt a.O (raRow D v) :: RcC D a.cs :: VsC v 3 (a.an.map ikey) true :: RpXC P most zs (id - 1).toNat :: F)
            (fun j => j ≤ B - A ∧ ∀ c, c ∈ (slc a.cs (A : Int) (B : Int)).take j → c ≠ 0) (fun j => B - A - j) 0 (small_rounds (by omega)) Sbs (st.sel Sels) ⟨Nat.zero_le _, fun c hc => by simp at hc⟩ ?_
          clear st
          intro j h ⟨hj, hall⟩ st
          by_cases hlt : j < B - A
          · obtain ⟨c, hc⟩ : ∃ c, a.cs[A + j]? = some c := ⟨a.cs[A + j]'(by omega), by simp⟩
            have hcs : (slc a.cs (A : Int) (B : Int))[j]? = some c := by rw [slc_get (by omega) (by omega), Int.toNat_natCast]; exact hc
            have hat : atL a.cs ((A + j : Nat) : Int) = c := by rw [atL, if_pos ⟨by omega, by omega⟩, Int.toNat_natCast, hc]; rfl
            (repeat (first | (show W _ _ _ _ _ _ (.code (cond _ _ _) :: _) _ _; first | refine W.ct ?_ | refine W.cf ?_) | (show W _ _ _ _ _ _ (.ins (cond _ _ _ :: _) :: _) _ _; first | refine W.gt ?_ | refine W.gf ?_) | (show W _ _ _ _ _ _ [] _ _; refine W.of (.done ?_)) | (apply W.of; constructor <;> first | (show W _ _ _ _ _ _ _ _ _) | (intro (al : Nat) h st; show W _ _ _ _ _ _ _ _ _) | (intro _ h st; show W _ _ _ _ _ _ _ _ _) | exact Sd))); refine W.call (hs := (rc_At (D := D) (cs := a.cs))) (w := ?_); rintro vv _ ⟨rfl, rfl⟩ h st; refine nj ?_; dsimp only [List.cons_append, List.nil_append] at st
            rw [hat]
            by_cases h0 : c = 0
            · (repeat (first | (show W _ _ _ _ _ _ (.code (cond _ _ _) :: _) _ _; first | refine W.ct ?_ | refine W.cf ?_) | (show W _ _ _ _ _ _ (.ins (cond _ _ _ :: _) :: _) _ _; first | refine W.gt ?_ | refine W.gf ?_) | (show W _ _ _ _ _ _ [] _ _; refine W.of (.done ?_)) | (apply W.of; constructor <;> first | (show W _ _ _ _ _ _ _ _ _) | (intro (al : Nat) h st; show W _ _ _ _ _ _ _ _ _) | (intro _ h st; show W _ _ _ _ _ _ _ _ _) | exact Sd)))
              exact ⟨_, rfl, _, .inr ⟨a, ha, .inr ⟨fun hh => hh.nz c (List.mem_of_getElem? hcs) h0, rfl, rfl⟩⟩, hback (st.sel Sels)⟩
            · (repeat (first | (show W _ _ _ _ _ _ (.code (cond _ _ _) :: _) _ _; first | refine W.ct ?_ | refine W.cf ?_) | (show W _ _ _ _ _ _ (.ins (cond _ _ _ :: _) :: _) _ _; first | refine W.gt ?_ | refine W.gf ?_) | (show W _ _ _ _ _ _ [] _ _; refine W.of (.done ?_)) | (apply W.of; constructor <;> first | (show W _ _ _ _ _ _ _ _ _) | (intro (al : Nat) h st; show W _ _ _ _ _ _ _ _ _) | (intro _ h st; show W _ _ _ _ _ _ _ _ _) | exact Sd)))
              refine W.of (.lp ?_)
              refine ⟨j + 1, by omega, ⟨hlt, fun d hd => ?_⟩, Sbs, st.sel Sels⟩
              rw [take_snoc1 hcs] at hd
              rcases List.mem_append.1 hd with hd | hd
              · exact hall d hd
              · rw [List.mem_singleton.1 hd]; exact h0
          · have e : j = B - A := by omega
            subst e
            rw [List.take_of_length_le (by omega)] at hall
            (repeat (first | (show W _ _ _ _ _ _ (.code (cond _ _ _) :: _) _ _; first | refine W.ct ?_ | refine W.cf ?_) | (show W _ _ _ _ _ _ (.ins (cond _ _ _ :: _) :: _) _ _; first | refine W.gt ?_ | refine W.gf ?_) | (show W _ _ _ _ _ _ [] _ _; refine W.of (.done ?_)) | (apply W.of; constructor <;> first | (show W _ _ _ _ _ _ _ _ _) | (intro (al : Nat) h st; show W _ _ _ _ _ _ _ _ _) | (intro _ h st; show W _ _ _ _ _ _ _ _ _) | exact Sd))); refine W.call (hs := (rc_Add (D := D) (cs := a.cs) (lo := (A : Nat)) (hi := (B : Nat)) (by' := 1))) (w := ?_); rintro vv _ (⟨ho, gv, rfl, gj, gl, rfl⟩ | ⟨ho, rfl, rfl⟩) h st; refine nj ?_; dsimp only [List.cons_append, List.nil_append] at st
            · (repeat (first | (show W _ _ _ _ _ _ (.code (cond _ _ _) :: _) _ _; first | refine W.ct ?_ | refine W.cf ?_) | (show W _ _ _ _ _ _ (.ins (cond _ _ _ :: _) :: _) _ _; first | refine W.gt ?_ | refine W.gf ?_) | (show W _ _ _ _ _ _ [] _ _; refine W.of (.done ?_)) | (apply W.of; constructor <;> first | (show W _ _ _ _ _ _ _ _ _) | (intro (al : Nat) h st; show W _ _ _ _ _ _ _ _ _) | (intro _ h st; show W _ _ _ _ _ _ _ _ _) | exact Sd)))
              have st := St.packP (t := 50) (k := .ptr a.O 0) (P := RaIs (holdA a A B)) (cs := [.pt a.O (raRow D v), RcC D (addL 0 a.cs A B 1), VsC v 3 (a.an.map ikey) true]) st ⟨D, v, rfl, by simp [holdA, addL_length, hlen], by simpa [holdA, addL_length] using hn1, by simpa [holdA, addL_length] using hn4, hok.pos⟩ Pks
              have st := st.rpIn (a := a) (b := holdA a A B) rfl hz Tk Tk
              exact ⟨_, rfl, _, .inr ⟨a, ha, .inl ⟨⟨by omega, by omega, by omega, hall, ho⟩, rfl, rfl⟩⟩, st.sel Sels⟩
            · refine nj ?_
              dsimp only [List.cons_append, List.nil_append] at st
              (repeat (first | (show W _ _ _ _ _ _ (.code (cond _ _ _) :: _) _ _; first | refine W.ct ?_ | refine W.cf ?_) | (show W _ _ _ _ _ _ (.ins (cond _ _ _ :: _) :: _) _ _; first | refine W.gt ?_ | refine W.gf ?_) | (show W _ _ _ _ _ _ [] _ _; refine W.of (.done ?_)) | (apply W.of; constructor <;> first | (show W _ _ _ _ _ _ _ _ _) | (intro (al : Nat) h st; show W _ _ _ _ _ _ _ _ _) | (intro _ h st; show W _ _ _ _ _ _ _ _ _) | exact Sd)))
              exact ⟨_, rfl, _, .inr ⟨a, ha, .inr ⟨fun hh => ho hh.add, rfl, rfl⟩⟩, hback (st.sel Sels)⟩
end Go.Proofs.Ytjdemlagmamlbaa

namespace Go.Proofs.Ytjdemlagmamlbaa
variable {P most : Nat} {zs : List (Option AmV)} {a : AmV}
abbrev rdropPost (P most : Nat) (zs : List (Option AmV)) (id lo hi : Int) (v : AV) (Rs : List Chunk) : Prop :=
  (atZ zs id = none ∧ v = .tuple [.nilsl, .int .i64 7] ∧ Rs = [RpC P most zs]) ∨
  ∃ a, atZ zs id = some a ∧ ((DropOk a lo hi ∧ ∃ ov, v = .tuple [ov, .int .i64 0] ∧ ov.notJunk = some ov ∧ sliceLen ov = some (outG a.an (goneA a lo hi)).length ∧ Rs = [VsC ov 3 ((outG a.an (goneA a lo hi)).map ikey) true, RpC P most (dropZ zs (id - 1).toNat a lo hi)]) ∨
    (¬ DropOk a lo hi ∧ v = .tuple [.nilsl, .int .i64 2] ∧ Rs = [RpC P most zs]))
abbrev drR (P O : Nat) (id : Int) (gv : AV) (n : Nat) (ov : AV) (i : Nat) : Env := [(0, .ptr P 0), (1, .int .i64 id), (10, .ptr O 0), (13, ov), (50, gv), (51, .int .i64 n), (52, .int .i64 i)]
set_option maxRecDepth 8000 in
theorem rp_Drop {id lo hi : Int} : Spec R (.f n_ref13_Pool_Drop) [.ptr P 0, .int .i64 id, .int .i64 lo, .int .i64 hi] [RpC P most zs] (rdropPost P most zs id lo hi) := by
  refine spec_w (fun _ _ _ x => progI_call rfl rfl x) Njs rfl (fun h F st => ?_); dsimp only [List.cons_append, List.nil_append] at st
  have znj := zptr_nj (atZ zs id)
  have zok := zptr_ok (atZ zs id)
  (repeat (first | (show W _ _ _ _ _ _ (.code (cond _ _ _) :: _) _ _; first | refine W.ct ?_ | refine W.cf ?_) | (show W _ _ _ _ _ _ (.ins (cond _ _ _ :: _) :: _) _ _; first | refine W.gt ?_ | refine W.gf ?_) | (show W _ _ _ _ _ _ [] _ _; refine W.of (.done ?_)) | (apply W.of; constructor <;> first | (show W _ _ _ _ _ _ _ _ _) | (intro (al : Nat) h st; show W _ _ _ _ _ _ _ _ _) | (intro _ h st; show W _ _ _ _ _ _ _ _ _) | exact Sd))); refine W.call (hs := rp_of) (w := ?_); rintro vv _ ⟨rfl, rfl⟩ h st; refine nj ?_; dsimp only [List.cons_append, List.nil_append] at st
  cases ha : atZ zs id with
  | none =>
    dsimp only [zptr]
    (repeat (first | (show W _ _ _ _ _ _ (.code (cond _ _ _) :: _) _ _; first | refine W.ct ?_ | refine W.cf ?_) | (show W _ _ _ _ _ _ (.ins (cond _ _ _ :: _) :: _) _ _; first | refine W.gt ?_ | refine W.gf ?_) | (show W _ _ _ _ _ _ [] _ _; refine W.of (.done ?_)) | (apply W.of; constructor <;> first | (show W _ _ _ _ _ _ _ _ _) | (intro (al : Nat) h st; show W _ _ _ _ _ _ _ _ _) | (intro _ h st; show W _ _ _ _ _ _ _ _ _) | exact Sd)))
    exact ⟨_, rfl, _, .inl ⟨ha, rfl, rfl⟩, st⟩
  | some a =>
    dsimp only [zptr]
    obtain ⟨hi1, hi2, hz⟩ := atZ_some ha
    have st := st.rpOut Tk hz
    have hok := st.ra Tk
    have hlen := hok.len
    have hn1 := hok.n1
    have hn4 := hok.n4
    obtain ⟨_, ⟨D, v, rfl, _⟩, st⟩ := St.unpack st; dsimp only [List.cons_append, List.nil_append] at st
    obtain ⟨vl, vj, vs⟩ := St.ivs (v := v) (cs := a.an) st Tk
    have hback : ∀ {h : AHeap}, St h (.pt a.O (raRow D v) :: RcC D a.cs :: VsC v 3 (a.an.map ikey) true :: RpXC P most zs (id - 1).toNat :: F) → St h (RpC P most zs :: F) := fun st => by
      have st := St.packP (t := 50) (k := .ptr a.O 0) (P := RaIs a) (cs := [.pt a.O (raRow D v), RcC D a.cs, VsC v 3 (a.an.map ikey) true]) st ⟨D, v, rfl, hok⟩ Pks
      exact st.rpBack hz Tk Tk
    by_cases c1 : lo < 0
    · (repeat (first | (show W _ _ _ _ _ _ (.code (cond _ _ _) :: _) _ _; first | refine W.ct ?_ | refine W.cf ?_) | (show W _ _ _ _ _ _ (.ins (cond _ _ _ :: _) :: _) _ _; first | refine W.gt ?_ | refine W.gf ?_) | (show W _ _ _ _ _ _ [] _ _; refine W.of (.done ?_)) | (apply W.of; constructor <;> first | (show W _ _ _ _ _ _ _ _ _) | (intro (al : Nat) h st; show W _ _ _ _ _ _ _ _ _) | (intro _ h st; show W _ _ _ _ _ _ _ _ _) | exact Sd)))
      exact ⟨_, rfl, _, .inr ⟨a, ha, .inr ⟨fun hh => by have := hh.l0; omega, rfl, rfl⟩⟩, hback (st.sel Sels)⟩
    · by_cases c2 : lo ≥ hi
      · (repeat (first | (show W _ _ _ _ _ _ (.code (cond _ _ _) :: _) _ _; first | refine W.ct ?_ | refine W.cf ?_) | (show W _ _ _ _ _ _ (.ins (cond _ _ _ :: _) :: _) _ _; first | refine W.gt ?_ | refine W.gf ?_) | (show W _ _ _ _ _ _ [] _ _; refine W.of (.done ?_)) | (apply W.of; constructor <;> first | (show W _ _ _ _ _ _ _ _ _) | (intro (al : Nat) h st; show W _ _ _ _ _ _ _ _ _) | (intro _ h st; show W _ _ _ _ _ _ _ _ _) | exact Sd)))
        exact ⟨_, rfl, _, .inr ⟨a, ha, .inr ⟨fun hh => by have := hh.lt; omega, rfl, rfl⟩⟩, hback (st.sel Sels)⟩
      · by_cases c3 : hi > a.an.length
        · (repeat (first | (show W _ _ _ _ _ _ (.code (cond _ _ _) :: _) _ _; first | refine W.ct ?_ | refine W.cf ?_) | (show W _ _ _ _ _ _ (.ins (cond _ _ _ :: _) :: _) _ _; first | refine W.gt ?_ | refine W.gf ?_) | (show W _ _ _ _ _ _ [] _ _; refine W.of (.done ?_)) | (apply W.of; constructor <;> first | (show W _ _ _ _ _ _ _ _ _) | (intro (al : Nat) h st; show W _ _ _ _ _ _ _ _ _) | (intro _ h st; show W _ _ _ _ _ _ _ _ _) | exact Sd)))
          exact ⟨_, rfl, _, .inr ⟨a, ha, .inr ⟨fun hh => by have := hh.h0; omega, rfl, rfl⟩⟩, hback (st.sel Sels)⟩
        · have hw : 0 ≤ lo ∧ lo < hi ∧ hi ≤ a.an.length := ⟨by omega, by omega, by omega⟩
          (repeat (first | (show W _ _ _ _ _ _ (.code (cond _ _ _) :: _) _ _; first | refine W.ct ?_ | refine W.cf ?_) | (show W _ _ _ _ _ _ (.ins (cond _ _ _ :: _) :: _) _ _; first | refine W.gt ?_ | refine W.gf ?_) | (show W _ _ _ _ _ _ [] _ _; refine W.of (.done ?_)) | (apply W.of; constructor <;> first | (show W _ _ _ _ _ _ _ _ _) | (intro (al : Nat) h st; show W _ _ _ _ _ _ _ _ _) | (intro _ h st; show W _ _ _ _ _ _ _ _ _) | exact Sd))); refine W.call (hs := (rc_Add (D := D) (cs := a.cs) (lo := lo) (hi := hi) (by' := -1))) (w := ?_); rintro vv _ (⟨ho, gv, rfl, gj, gl, rfl⟩ | ⟨ho, rfl, rfl⟩) h st; refine nj ?_; dsimp only [List.cons_append, List.nil_append] at st
          · obtain ⟨g, hg⟩ : ∃ g, g = goneA a lo hi := ⟨_, rfl⟩
            have hg' : goneP lo (slc a.cs lo hi) (-1) = g := hg.symm
            rw [hg'] at gl st
            have hsl := slc_len (cs := a.cs) (lo := lo) (hi := hi) (by omega) (by omega) (by omega)
            have hgm : ∀ i, i ∈ g → lo ≤ i ∧ i < hi := fun i hi' => by
              rw [hg, goneA] at hi'
              have := goneP_mem hi'
              omega
            have hgl : g.length ≤ 4096 := by
              rw [hg]; exact Nat.le_trans goneP_len (by omega)
            (repeat (first | (show W _ _ _ _ _ _ (.code (cond _ _ _) :: _) _ _; first | refine W.ct ?_ | refine W.cf ?_) | (show W _ _ _ _ _ _ (.ins (cond _ _ _ :: _) :: _) _ _; first | refine W.gt ?_ | refine W.gf ?_) | (show W _ _ _ _ _ _ [] _ _; refine W.of (.done ?_)) | (apply W.of; constructor <;> first | (show W _ _ _ _ _ _ _ _ _) | (intro (al : Nat) h st; show W _ _ _ _ _ _ _ _ _) | (intro _ h st; show W _ _ _ _ _ _ _ _ _) | exact Sd)))
            refine W.loop (fun y : DrS => drR P a.O id gv g.length y.ov y.i) (fun y => VsC y.ov 3 ((outG a.an (g.take y.i)).map ikey) true :: VsC v 3 ((anG a.an (g.take y.i)).map ikey) true :: VsC gv 3 (g.map ikey) true :: .pt a.O (raRow D v) :: RcC D (addL 0 a.cs lo hi (-1)) :: RpXC P most zs (id - 1).toNat :: F)
              (fun y => y.i ≤ g.length) (fun y => g.length - y.i) ⟨0, .nilsl⟩ (small_rounds (by simp only; omega)) Sbs ?_ (Nat.zero_le _) ?_
            · have st := st.vsNil 3 true
              exact st.sel Sels
            clear st
            intro ⟨i, ov⟩ h hi' st
            dsimp only at hi' st ⊢
            obtain ⟨ol, oj, oo⟩ := St.ivs (v := ov) (cs := outG a.an (g.take i)) st Tk
            obtain ⟨vl, vj, vs⟩ := St.ivs (v := v) (cs := anG a.an (g.take i)) st Tk
            have hol : (outG a.an (g.take i)).length ≤ 4096 := Nat.le_trans outG_len (by rw [List.length_take]; omega)
            by_cases hlt : i < g.length
            · obtain ⟨j, hj⟩ : ∃ j, g[i]? = some j := ⟨g[i], by simp [hlt]⟩
              obtain ⟨jj, rfl⟩ : ∃ jj : Nat, j = (jj : Int) := ⟨j.toNat, by have := hgm j (List.mem_of_getElem? hj); omega⟩
              have hjr := hgm _ (List.mem_of_getElem? hj)
              have hal : (anG a.an (g.take i)).length = a.an.length := anG_len
              obtain ⟨x, hx⟩ : ∃ x, (anG a.an (g.take i))[jj]? = some x := ⟨(anG a.an (g.take i))[jj]'(by omega), by simp⟩
              obtain ⟨gp, gq⟩ := d_vsIdx (v := gv) (l := g.map ikey) (i := i) (kk := .i64) st Tk (by rw [List.length_map]; omega)
              obtain ⟨fp, fq⟩ := d_vsIdx (v := v) (l := (anG a.an (g.take i)).map ikey) (i := jj) (kk := .i64) st Tk (by rw [List.length_map]; omega)
              have hld := d_vsLoad (v := v) (l := (anG a.an (g.take i)).map ikey) (x := ikey x) st Tk (by rw [List.getElem?_map, hx]; rfl)
              have es : outG a.an (g.take (i + 1)) = outG a.an (g.take i) ++ if x > 0 then [x] else [] := by
                rw [take_snoc1 hj, outG_snoc, Int.toNat_natCast, hx]; rfl
              have ea : anG a.an (g.take (i + 1)) = (anG a.an (g.take i)).set jj 0 := by
                rw [take_snoc1 hj, anG_snoc, Int.toNat_natCast]
              have hx00 := anG_pos (g := g.take i) hok.pos x (List.mem_of_getElem? hx)
              (repeat (first | (show W _ _ _ _ _ _ (.code (cond _ _ _) :: _) _ _; first | refine W.ct ?_ | refine W.cf ?_) | (show W _ _ _ _ _ _ (.ins (cond _ _ _ :: _) :: _) _ _; first | refine W.gt ?_ | refine W.gf ?_) | (show W _ _ _ _ _ _ [] _ _; refine W.of (.done ?_)) | (apply W.of; constructor <;> first | (show W _ _ _ _ _ _ _ _ _) | (intro (al : Nat) h st; show W _ _ _ _ _ _ _ _ _) | (intro _ h st; show W _ _ _ _ _ _ _ _ _) | exact Sd))); refine W.do (ho := gp) (w := ?_)
              (repeat (first | (show W _ _ _ _ _ _ (.code (cond _ _ _) :: _) _ _; first | refine W.ct ?_ | refine W.cf ?_) | (show W _ _ _ _ _ _ (.ins (cond _ _ _ :: _) :: _) _ _; first | refine W.gt ?_ | refine W.gf ?_) | (show W _ _ _ _ _ _ [] _ _; refine W.of (.done ?_)) | (apply W.of; constructor <;> first | (show W _ _ _ _ _ _ _ _ _) | (intro (al : Nat) h st; show W _ _ _ _ _ _ _ _ _) | (intro _ h st; show W _ _ _ _ _ _ _ _ _) | exact Sd))); refine W.do (ho := (d_vsLoad (v := gv) (l := g.map ikey) (x := ikey (jj : Int)) st Tk (by rw [List.getElem?_map, hj]; rfl))) (w := ?_)
              (repeat (first | (show W _ _ _ _ _ _ (.code (cond _ _ _) :: _) _ _; first | refine W.ct ?_ | refine W.cf ?_) | (show W _ _ _ _ _ _ (.ins (cond _ _ _ :: _) :: _) _ _; first | refine W.gt ?_ | refine W.gf ?_) | (show W _ _ _ _ _ _ [] _ _; refine W.of (.done ?_)) | (apply W.of; constructor <;> first | (show W _ _ _ _ _ _ _ _ _) | (intro (al : Nat) h st; show W _ _ _ _ _ _ _ _ _) | (intro _ h st; show W _ _ _ _ _ _ _ _ _) | exact Sd))); refine W.do (ho := fp) (w := ?_)
              (repeat (first | (show W _ _ _ _ _ _ (.code (cond _ _ _) :: _) _ _; first | refine W.ct ?_ | refine W.cf ?_) | (show W _ _ _ _ _ _ (.ins (cond _ _ _ :: _) :: _) _ _; first | refine W.gt ?_ | refine W.gf ?_) | (show W _ _ _ _ _ _ [] _ _; refine W.of (.done ?_)) | (apply W.of; constructor <;> first | (show W _ _ _ _ _ _ _ _ _) | (intro (al : Nat) h st; show W _ _ _ _ _ _ _ _ _) | (intro _ h st; show W _ _ _ _ _ _ _ _ _) | exact Sd))); refine W.do (ho := hld) (w := ?_)
              by_cases hx0 : x > 0
              · rw [if_pos hx0] at es
                (repeat (first | (show W _ _ _ _ _ _ (.code (cond _ _ _) :: _) _ _; first | refine W.ct ?_ | refine W.cf ?_) | (show W _ _ _ _ _ _ (.ins (cond _ _ _ :: _) :: _) _ _; first | refine W.gt ?_ | refine W.gf ?_) | (show W _ _ _ _ _ _ [] _ _; refine W.of (.done ?_)) | (apply W.of; constructor <;> first | (show W _ _ _ _ _ _ _ _ _) | (intro (al : Nat) h st; show W _ _ _ _ _ _ _ _ _) | (intro _ h st; show W _ _ _ _ _ _ _ _ _) | exact Sd)))
                (repeat (first | (show W _ _ _ _ _ _ (.code (cond _ _ _) :: _) _ _; first | refine W.ct ?_ | refine W.cf ?_) | (show W _ _ _ _ _ _ (.ins (cond _ _ _ :: _) :: _) _ _; first | refine W.gt ?_ | refine W.gf ?_) | (show W _ _ _ _ _ _ [] _ _; refine W.of (.done ?_)) | (apply W.of; constructor <;> first | (show W _ _ _ _ _ _ _ _ _) | (intro (al : Nat) h st; show W _ _ _ _ _ _ _ _ _) | (intro _ h st; show W _ _ _ _ _ _ _ _ _) | exact Sd))); refine W.do (ho := fp) (w := ?_)
                (repeat (first | (show W _ _ _ _ _ _ (.code (cond _ _ _) :: _) _ _; first | refine W.ct ?_ | refine W.cf ?_) | (show W _ _ _ _ _ _ (.ins (cond _ _ _ :: _) :: _) _ _; first | refine W.gt ?_ | refine W.gf ?_) | (show W _ _ _ _ _ _ [] _ _; refine W.of (.done ?_)) | (apply W.of; constructor <;> first | (show W _ _ _ _ _ _ _ _ _) | (intro (al : Nat) h st; show W _ _ _ _ _ _ _ _ _) | (intro _ h st; show W _ _ _ _ _ _ _ _ _) | exact Sd))); refine W.do (ho := hld) (w := ?_)
                (repeat (first | (show W _ _ _ _ _ _ (.code (cond _ _ _) :: _) _ _; first | refine W.ct ?_ | refine W.cf ?_) | (show W _ _ _ _ _ _ (.ins (cond _ _ _ :: _) :: _) _ _; first | refine W.gt ?_ | refine W.gf ?_) | (show W _ _ _ _ _ _ [] _ _; refine W.of (.done ?_)) | (apply W.of; constructor <;> first | (show W _ _ _ _ _ _ _ _ _) | (intro (al : Nat) h st; show W _ _ _ _ _ _ _ _ _) | (intro _ h st; show W _ _ _ _ _ _ _ _ _) | exact Sd)))
                have st := St.vsRow (l := [.int .i64 x]) (e := 3) st Tk rfl
                (repeat (first | (show W _ _ _ _ _ _ (.code (cond _ _ _) :: _) _ _; first | refine W.ct ?_ | refine W.cf ?_) | (show W _ _ _ _ _ _ (.ins (cond _ _ _ :: _) :: _) _ _; first | refine W.gt ?_ | refine W.gf ?_) | (show W _ _ _ _ _ _ [] _ _; refine W.of (.done ?_)) | (apply W.of; constructor <;> first | (show W _ _ _ _ _ _ _ _ _) | (intro (al : Nat) h st; show W _ _ _ _ _ _ _ _ _) | (intro _ h st; show W _ _ _ _ _ _ _ _ _) | exact Sd))); refine W.ef (ho := (e_vsAppend (s := ov) (l' := [.int .i64 x]) st Tk Tk (by simp; omega) (by simp; omega))) (w := ?_); rintro vv h ⟨cj, cl, st⟩; refine nj ?_
                obtain ⟨o2, rfl⟩ : ∃ y, y = vv := ⟨_, rfl⟩
                obtain ⟨fp2, _⟩ := d_vsIdx (v := v) (l := (anG a.an (g.take i)).map ikey) (i := jj) (kk := .i64) st Tk (by rw [List.length_map]; omega)
                (repeat (first | (show W _ _ _ _ _ _ (.code (cond _ _ _) :: _) _ _; first | refine W.ct ?_ | refine W.cf ?_) | (show W _ _ _ _ _ _ (.ins (cond _ _ _ :: _) :: _) _ _; first | refine W.gt ?_ | refine W.gf ?_) | (show W _ _ _ _ _ _ [] _ _; refine W.of (.done ?_)) | (apply W.of; constructor <;> first | (show W _ _ _ _ _ _ _ _ _) | (intro (al : Nat) h st; show W _ _ _ _ _ _ _ _ _) | (intro _ h st; show W _ _ _ _ _ _ _ _ _) | exact Sd))); refine W.do (ho := fp2) (w := ?_)
                (repeat (first | (show W _ _ _ _ _ _ (.code (cond _ _ _) :: _) _ _; first | refine W.ct ?_ | refine W.cf ?_) | (show W _ _ _ _ _ _ (.ins (cond _ _ _ :: _) :: _) _ _; first | refine W.gt ?_ | refine W.gf ?_) | (show W _ _ _ _ _ _ [] _ _; refine W.of (.done ?_)) | (apply W.of; constructor <;> first | (show W _ _ _ _ _ _ _ _ _) | (intro (al : Nat) h st; show W _ _ _ _ _ _ _ _ _) | (intro _ h st; show W _ _ _ _ _ _ _ _ _) | exact Sd))); refine W.ef0 (ho := (e_vsStore (v := v) (l := (anG a.an (g.take i)).map ikey) (i := jj) st Tk (by rw [List.length_map]; omega) rfl)) (w := ?_); rintro _ h ⟨_, st⟩
                rw [← List.map_set (f := ikey), ← ea] at st
                rw [show (outG a.an (g.take i)).map ikey ++ [.int .i64 x] = (outG a.an (g.take (i + 1))).map ikey by rw [es, List.map_append]; rfl] at st
                (repeat (first | (show W _ _ _ _ _ _ (.code (cond _ _ _) :: _) _ _; first | refine W.ct ?_ | refine W.cf ?_) | (show W _ _ _ _ _ _ (.ins (cond _ _ _ :: _) :: _) _ _; first | refine W.gt ?_ | refine W.gf ?_) | (show W _ _ _ _ _ _ [] _ _; refine W.of (.done ?_)) | (apply W.of; constructor <;> first | (show W _ _ _ _ _ _ _ _ _) | (intro (al : Nat) h st; show W _ _ _ _ _ _ _ _ _) | (intro _ h st; show W _ _ _ _ _ _ _ _ _) | exact Sd)))
                refine W.of (.lp ?_)
                exact ⟨⟨i + 1, o2⟩, by simp only; omega, hlt, Sbs, st.sel Sels⟩
              · rw [if_neg hx0, List.append_nil] at es
                (repeat (first | (show W _ _ _ _ _ _ (.code (cond _ _ _) :: _) _ _; first | refine W.ct ?_ | refine W.cf ?_) | (show W _ _ _ _ _ _ (.ins (cond _ _ _ :: _) :: _) _ _; first | refine W.gt ?_ | refine W.gf ?_) | (show W _ _ _ _ _ _ [] _ _; refine W.of (.done ?_)) | (apply W.of; constructor <;> first | (show W _ _ _ _ _ _ _ _ _) | (intro (al : Nat) h st; show W _ _ _ _ _ _ _ _ _) | (intro _ h st; show W _ _ _ _ _ _ _ _ _) | exact Sd)))
                (repeat (first | (show W _ _ _ _ _ _ (.code (cond _ _ _) :: _) _ _; first | refine W.ct ?_ | refine W.cf ?_) | (show W _ _ _ _ _ _ (.ins (cond _ _ _ :: _) :: _) _ _; first | refine W.gt ?_ | refine W.gf ?_) | (show W _ _ _ _ _ _ [] _ _; refine W.of (.done ?_)) | (apply W.of; constructor <;> first | (show W _ _ _ _ _ _ _ _ _) | (intro (al : Nat) h st; show W _ _ _ _ _ _ _ _ _) | (intro _ h st; show W _ _ _ _ _ _ _ _ _) | exact Sd))); refine W.do (ho := fp) (w := ?_)
                (repeat (first | (show W _ _ _ _ _ _ (.code (cond _ _ _) :: _) _ _; first | refine W.ct ?_ | refine W.cf ?_) | (show W _ _ _ _ _ _ (.ins (cond _ _ _ :: _) :: _) _ _; first | refine W.gt ?_ | refine W.gf ?_) | (show W _ _ _ _ _ _ [] _ _; refine W.of (.done ?_)) | (apply W.of; constructor <;> first | (show W _ _ _ _ _ _ _ _ _) | (intro (al : Nat) h st; show W _ _ _ _ _ _ _ _ _) | (intro _ h st; show W _ _ _ _ _ _ _ _ _) | exact Sd))); refine W.ef0 (ho := (e_vsStore (v := v) (l := (anG a.an (g.take i)).map ikey) (i := jj) st Tk (by rw [List.length_map]; omega) rfl)) (w := ?_); rintro _ h ⟨_, st⟩
                rw [← List.map_set (f := ikey), ← ea, ← es] at st
                (repeat (first | (show W _ _ _ _ _ _ (.code (cond _ _ _) :: _) _ _; first | refine W.ct ?_ | refine W.cf ?_) | (show W _ _ _ _ _ _ (.ins (cond _ _ _ :: _) :: _) _ _; first | refine W.gt ?_ | refine W.gf ?_) | (show W _ _ _ _ _ _ [] _ _; refine W.of (.done ?_)) | (apply W.of; constructor <;> first | (show W _ _ _ _ _ _ _ _ _) | (intro (al : Nat) h st; show W _ _ _ _ _ _ _ _ _) | (intro _ h st; show W _ _ _ _ _ _ _ _ _) | exact Sd)))
                refine W.of (.lp ?_)
                exact ⟨⟨i + 1, ov⟩, by simp only; omega, hlt, Sbs, st.sel Sels⟩
            · have e : i = g.length := by omega
              subst e
              rw [List.take_length] at st ol
              (repeat (first | (show W _ _ _ _ _ _ (.code (cond _ _ _) :: _) _ _; first | refine W.ct ?_ | refine W.cf ?_) | (show W _ _ _ _ _ _ (.ins (cond _ _ _ :: _) :: _) _ _; first | refine W.gt ?_ | refine W.gf ?_) | (show W _ _ _ _ _ _ [] _ _; refine W.of (.done ?_)) | (apply W.of; constructor <;> first | (show W _ _ _ _ _ _ _ _ _) | (intro (al : Nat) h st; show W _ _ _ _ _ _ _ _ _) | (intro _ h st; show W _ _ _ _ _ _ _ _ _) | exact Sd))); refine W.call (hs := (rc_Sum (D := D) (cs := addL 0 a.cs lo hi (-1)))) (w := ?_); rintro vv _ ⟨rfl, rfl⟩ h st; refine nj ?_; dsimp only [List.cons_append, List.nil_append] at st
              have hal : (anG a.an g).length = a.an.length := anG_len
              have hmem : (dropA a lo hi).an = anG a.an g := by rw [dropA, hg]
              have hpk : ∀ {h : AHeap} {L R : List Chunk}, St h L → Pick L [.pt a.O (raRow D v), RcC D (addL 0 a.cs lo hi (-1)), VsC v 3 ((anG a.an g).map ikey) true] R → St h (RaC (dropA a lo hi) :: R) := fun st pk => by
                refine St.packP (t := 50) (k := .ptr a.O 0) (P := RaIs (dropA a lo hi)) st ⟨D, v, ?_, ?_⟩ pk
                · rw [hmem]; rfl
                · refine ⟨?_, ?_, ?_, ?_⟩
                  · rw [hmem]; simp only [dropA, addL_length]; omega
                  · simp only [dropA, addL_length]; exact hn1
                  · simp only [dropA, addL_length]; exact hn4
                  · rw [hmem]; exact anG_pos hok.pos
              have hdo : DropOk a lo hi := ⟨hw.1, hw.2.1, by omega, ho⟩
              have oj' : ov.notJunk = some ov := oj
              rw [hg] at ol
              by_cases hs : (addL 0 a.cs lo hi (-1)).sum = 0
              · obtain ⟨q, hq⟩ : ∃ q : Nat, id - 1 = (q : Int) := ⟨(id - 1).toNat, by omega⟩
                rw [hq, Int.toNat_natCast] at st hz
                have hql := (List.getElem?_eq_some_iff.1 hz).1
                have st := st.take (c := RpXC P most zs q) Tk
                obtain ⟨_, ⟨sv, rfl, hpo⟩, st⟩ := St.unpack st; dsimp only [List.cons_append, List.nil_append] at st
                have hm := hpo.m
                have hl := hpo.l
                obtain ⟨sl, sj, ss⟩ := St.vs (v := sv) (l := zs.map zptr) st Tk
                rw [List.length_map] at sl
                (repeat (first | (show W _ _ _ _ _ _ (.code (cond _ _ _) :: _) _ _; first | refine W.ct ?_ | refine W.cf ?_) | (show W _ _ _ _ _ _ (.ins (cond _ _ _ :: _) :: _) _ _; first | refine W.gt ?_ | refine W.gf ?_) | (show W _ _ _ _ _ _ [] _ _; refine W.of (.done ?_)) | (apply W.of; constructor <;> first | (show W _ _ _ _ _ _ _ _ _) | (intro (al : Nat) h st; show W _ _ _ _ _ _ _ _ _) | (intro _ h st; show W _ _ _ _ _ _ _ _ _) | exact Sd)))
                rw [hq]
                obtain ⟨ap, aq⟩ := d_vsIdx (v := sv) (l := zs.map zptr) (i := q) (kk := .i64) st Tk (by rw [List.length_map]; omega)
                (repeat (first | (show W _ _ _ _ _ _ (.code (cond _ _ _) :: _) _ _; first | refine W.ct ?_ | refine W.cf ?_) | (show W _ _ _ _ _ _ (.ins (cond _ _ _ :: _) :: _) _ _; first | refine W.gt ?_ | refine W.gf ?_) | (show W _ _ _ _ _ _ [] _ _; refine W.of (.done ?_)) | (apply W.of; constructor <;> first | (show W _ _ _ _ _ _ _ _ _) | (intro (al : Nat) h st; show W _ _ _ _ _ _ _ _ _) | (intro _ h st; show W _ _ _ _ _ _ _ _ _) | exact Sd))); refine W.do (ho := ap) (w := ?_)
                (repeat (first | (show W _ _ _ _ _ _ (.code (cond _ _ _) :: _) _ _; first | refine W.ct ?_ | refine W.cf ?_) | (show W _ _ _ _ _ _ (.ins (cond _ _ _ :: _) :: _) _ _; first | refine W.gt ?_ | refine W.gf ?_) | (show W _ _ _ _ _ _ [] _ _; refine W.of (.done ?_)) | (apply W.of; constructor <;> first | (show W _ _ _ _ _ _ _ _ _) | (intro (al : Nat) h st; show W _ _ _ _ _ _ _ _ _) | (intro _ h st; show W _ _ _ _ _ _ _ _ _) | exact Sd))); refine W.ef0 (ho := (e_vsStore (v := sv) (l := zs.map zptr) (i := q) st Tk (by rw [List.length_map]; omega) rfl)) (w := ?_); rintro _ h ⟨_, st⟩
                (repeat (first | (show W _ _ _ _ _ _ (.code (cond _ _ _) :: _) _ _; first | refine W.ct ?_ | refine W.cf ?_) | (show W _ _ _ _ _ _ (.ins (cond _ _ _ :: _) :: _) _ _; first | refine W.gt ?_ | refine W.gf ?_) | (show W _ _ _ _ _ _ [] _ _; refine W.of (.done ?_)) | (apply W.of; constructor <;> first | (show W _ _ _ _ _ _ _ _ _) | (intro (al : Nat) h st; show W _ _ _ _ _ _ _ _ _) | (intro _ h st; show W _ _ _ _ _ _ _ _ _) | exact Sd)))
                have ez : (zs.map zptr).set q .nilptr = (zs.set q none).map zptr := by rw [List.map_set]; rfl
                rw [ez] at st
                have st : St h (SepC (.ptr P 0) rG (zs.set q none) :: .pt P (rpRow most sv) :: VsC sv 148 ((zs.set q none).map zptr) true :: VsC ov 3 ((outG a.an g).map ikey) true :: F) := St.sepIn (G := rG) (a := none) (l := zs) (st.sel Sels) hql
                have st := St.packP (t := 51) (k := .ptr P 0) (P := RpIs P most (zs.set q none)) (cs := [.pt P (rpRow most sv), VsC sv 148 ((zs.set q none).map zptr) true, SepC (.ptr P 0) rG (zs.set q none)]) st ⟨sv, rfl, hm, by rw [List.length_set]; exact hl⟩ Pks
                refine ⟨_, rfl, _, .inr ⟨a, ha, .inl ⟨hdo, ov, rfl, oj', ol, rfl⟩⟩, ?_⟩
                rw [dropZ, if_pos hs, ← hg, hq, Int.toNat_natCast]
                exact st.sel Sels
              · (repeat (first | (show W _ _ _ _ _ _ (.code (cond _ _ _) :: _) _ _; first | refine W.ct ?_ | refine W.cf ?_) | (show W _ _ _ _ _ _ (.ins (cond _ _ _ :: _) :: _) _ _; first | refine W.gt ?_ | refine W.gf ?_) | (show W _ _ _ _ _ _ [] _ _; refine W.of (.done ?_)) | (apply W.of; constructor <;> first | (show W _ _ _ _ _ _ _ _ _) | (intro (al : Nat) h st; show W _ _ _ _ _ _ _ _ _) | (intro _ h st; show W _ _ _ _ _ _ _ _ _) | exact Sd)))
                have st := hpk st Pks
                have st := st.rpIn (a := a) (b := dropA a lo hi) rfl hz Tk Tk
                refine ⟨_, rfl, _, .inr ⟨a, ha, .inl ⟨hdo, ov, rfl, oj', ol, rfl⟩⟩, ?_⟩
                rw [dropZ, if_neg hs, ← hg]
                exact st.sel Sels
          · refine nj ?_
            dsimp only [List.cons_append, List.nil_append] at st
            (repeat (first | (show W _ _ _ _ _ _ (.code (cond _ _ _) :: _) _ _; first | refine W.ct ?_ | refine W.cf ?_) | (show W _ _ _ _ _ _ (.ins (cond _ _ _ :: _) :: _) _ _; first | refine W.gt ?_ | refine W.gf ?_) | (show W _ _ _ _ _ _ [] _ _; refine W.of (.done ?_)) | (apply W.of; constructor <;> first | (show W _ _ _ _ _ _ _ _ _) | (intro (al : Nat) h st; show W _ _ _ _ _ _ _ _ _) | (intro _ h st; show W _ _ _ _ _ _ _ _ _) | exact Sd)))
            exact ⟨_, rfl, _, .inr ⟨a, ha, .inr ⟨fun hh => ho hh.add, rfl, rfl⟩⟩, hback (st.sel Sels)⟩
end Go.Proofs.Ytjdemlagmamlbaa

namespace Go.Proofs.Ytjdemlagmamlbaa
variable {P most : Nat} {zs : List (Option AmV)} {a : AmV}
abbrev rmkPost (P most : Nat) (zs : List (Option AmV)) (m : Int) (v : AV) (Rs : List Chunk) : Prop :=
  (¬ (1 ≤ m ∧ m ≤ 4096) ∧ v = .tuple [.int .i64 0, .int .i64 2] ∧ Rs = [RpC P most zs]) ∨
  ((1 ≤ m ∧ m ≤ 4096) ∧ most ≤ cntZ zs ∧ v = .tuple [.int .i64 0, .int .i64 5] ∧ Rs = [RpC P most zs]) ∨
  ((1 ≤ m ∧ m ≤ 4096) ∧ cntZ zs < most ∧ ∃ O, v = .tuple [.int .i64 ((firstN zs : Int) + 1), .int .i64 0] ∧ Rs = [RpC P most (putZ zs (newAm O m.toNat))])
theorem rp_put {h : AHeap} {L R R1 R2 R3 : List Chunk} {sv : AV} (st : St h L) (t : Take L (RaC a) R) (t1 : Take R (.pt P (rpRow most sv)) R1) (t2 : Take R1 (VsC sv 148 ((putZ zs a).map zptr) true) R2) (t3 : Take R2 (SepC (.ptr P 0) rG zs) R3)
    (hl : firstN zs = zs.length → zs.length + 1 ≤ most) (hok : RpOk most zs) : St h (RpC P most (putZ zs a) :: R3) := by
  have st1 := (st.take t).perm ((t1.perm.trans ((t2.perm.trans (t3.perm.cons _)).cons _)).cons _)
  have st2 : St h (SepC (.ptr P 0) rG (putZ zs a) :: .pt P (rpRow most sv) :: VsC sv 148 ((putZ zs a).map zptr) true :: R3) := by
    unfold putZ
    by_cases hf : firstN zs < zs.length
    · rw [if_pos hf]
      have st3 : St h (SepC (.ptr P 0) rG zs :: RaC a :: .pt P (rpRow most sv) :: VsC sv 148 ((putZ zs a).map zptr) true :: R3) := st1.sel Sels
      have st4 := St.sepOut (G := rG) (a := none) st3 Tk (firstN_at hf)
      have st5 := St.sepIn (G := rG) (a := some a) (l := zs) (i := firstN zs) (key := .ptr P 0) (R := .pt P (rpRow most sv) :: VsC sv 148 ((putZ zs a).map zptr) true :: R3) (st4.sel Sels) hf
      rw [putZ, if_pos hf] at st5
      exact st5
    · rw [if_neg hf]
      have st3 : St h (SepC (.ptr P 0) rG zs :: RaC a :: .pt P (rpRow most sv) :: VsC sv 148 ((putZ zs a).map zptr) true :: R3) := st1.sel Sels
      have st4 := St.sepSnoc (G := rG) (a := some a) st3 Tk Pks
      rw [putZ, if_neg hf] at st4
      exact st4
  refine St.pack (cs := [.pt P (rpRow most sv), VsC sv 148 ((putZ zs a).map zptr) true, SepC (.ptr P 0) rG (putZ zs a)]) (st2.sel Sels) ⟨sv, rfl, hok.m, ?_⟩
  have := firstN_le (zs := zs)
  unfold putZ
  split
  · rw [List.length_set]; exact hok.l
  · rw [List.length_append]; exact hl (by omega)
set_option maxRecDepth 8000 in
theorem rmk_tail {O D k : Nat} {v sv : AV} {Fr : List Chunk} {h : AHeap} (h1 : 1 ≤ k) (h2 : k ≤ 4096) (hpo : RpOk most zs) (h3 : cntZ zs < most)
    (st : St h (.pt O (raRow D v) :: RcC D (List.replicate k 0) :: VsC v 3 ((List.replicate k (0 : Int)).map ikey) true :: .pt P (rpRow most sv) :: VsC sv 148 (zs.map zptr) true :: SepC (.ptr P 0) rG zs :: Fr)) :
    W over tab none c_ref13_Pool_Make.ntmps (fnQ c_ref13_Pool_Make.res fun v h' => ∃ Rs, rmkPost P most zs (k : Nat) v Rs ∧ St h' (Rs ++ Fr)) .normal [.ins [I 34 (.callv) [F 67, T 32, N 0, T 33, N 1]], .code (sR (sR (sR (sR (sR c_ref13_Pool_Make.body)))))]
      [(0, .ptr P 0), (6, .ptr O 0), (32, .ptr D 0), (33, .int .i64 k)] h := by
  have hm := hpo.m
  have hl := hpo.l
  have hfl := firstN_le (zs := zs)
  (repeat (first | (show W _ _ _ _ _ _ (.code (cond _ _ _) :: _) _ _; first | refine W.ct ?_ | refine W.cf ?_) | (show W _ _ _ _ _ _ (.ins (cond _ _ _ :: _) :: _) _ _; first | refine W.gt ?_ | refine W.gf ?_) | (show W _ _ _ _ _ _ [] _ _; refine W.of (.done ?_)) | (apply W.of; constructor <;> first | (show W _ _ _ _ _ _ _ _ _) | (intro (al : Nat) h st; show W _ _ _ _ _ _ _ _ _) | (intro _ h st; show W _ _ _ _ _ _ _ _ _) | exact Sd))); refine W.call (hs := (rc_Add (D := D) (cs := List.replicate k 0) (lo := 0) (hi := (k : Nat)) (by' := 1))) (w := ?_); rintro vv _ (⟨ho, gv, rfl, gj, gl, rfl⟩ | ⟨ho, _⟩) h st; refine nj ?_; dsimp only [List.cons_append, List.nil_append] at st
  · rw [addL_one] at st
    have st := St.packP (t := 50) (k := .ptr O 0) (P := RaIs (newAm O k)) (cs := [.pt O (raRow D v), RcC D (List.replicate k 1), VsC v 3 ((List.replicate k (0 : Int)).map ikey) true]) st ⟨D, v, rfl, by simp [newAm], by simpa [newAm] using h1, by simpa [newAm] using h2, fun x hx => by rw [(List.mem_replicate.1 hx).2]; exact Int.le_refl _⟩ Pks
    obtain ⟨sl, sj, ss⟩ := St.vs (v := sv) (l := zs.map zptr) st Tk
    rw [List.length_map] at sl
    (repeat (first | (show W _ _ _ _ _ _ (.code (cond _ _ _) :: _) _ _; first | refine W.ct ?_ | refine W.cf ?_) | (show W _ _ _ _ _ _ (.ins (cond _ _ _ :: _) :: _) _ _; first | refine W.gt ?_ | refine W.gf ?_) | (show W _ _ _ _ _ _ [] _ _; refine W.of (.done ?_)) | (apply W.of; constructor <;> first | (show W _ _ _ _ _ _ _ _ _) | (intro (al : Nat) h st; show W _ _ _ _ _ _ _ _ _) | (intro _ h st; show W _ _ _ _ _ _ _ _ _) | exact Sd)))
    refine W.loop (fun i : Nat => [(0, .ptr P 0), (6, .ptr O 0), (38, sv), (39, .int .i64 zs.length), (40, .int .i64 i)]) (fun _ => RaC (newAm O k) :: .pt P (rpRow most sv) :: VsC sv 148 (zs.map zptr) true :: SepC (.ptr P 0) rG zs :: Fr) (fun i => i ≤ zs.length ∧ i ≤ firstN zs) (fun i => zs.length - i) 0 (small_rounds (by omega)) Sbs (st.sel Sels) ⟨Nat.zero_le _, Nat.zero_le _⟩ ?_
    clear st
    intro i h ⟨hi, hf⟩ st
    by_cases hlt : i < zs.length
    · obtain ⟨gp, gq⟩ := d_vsIdx (v := sv) (l := zs.map zptr) (i := i) (kk := .i64) st Tk (by rw [List.length_map]; omega)
      obtain ⟨z, hz'⟩ : ∃ z, zs[i]? = some z := ⟨zs[i]'(by omega), by simp⟩
      have znj := zptr_nj z
      have zok := zptr_ok z
      (repeat (first | (show W _ _ _ _ _ _ (.code (cond _ _ _) :: _) _ _; first | refine W.ct ?_ | refine W.cf ?_) | (show W _ _ _ _ _ _ (.ins (cond _ _ _ :: _) :: _) _ _; first | refine W.gt ?_ | refine W.gf ?_) | (show W _ _ _ _ _ _ [] _ _; refine W.of (.done ?_)) | (apply W.of; constructor <;> first | (show W _ _ _ _ _ _ _ _ _) | (intro (al : Nat) h st; show W _ _ _ _ _ _ _ _ _) | (intro _ h st; show W _ _ _ _ _ _ _ _ _) | exact Sd))); refine W.do (ho := gp) (w := ?_)
      (repeat (first | (show W _ _ _ _ _ _ (.code (cond _ _ _) :: _) _ _; first | refine W.ct ?_ | refine W.cf ?_) | (show W _ _ _ _ _ _ (.ins (cond _ _ _ :: _) :: _) _ _; first | refine W.gt ?_ | refine W.gf ?_) | (show W _ _ _ _ _ _ [] _ _; refine W.of (.done ?_)) | (apply W.of; constructor <;> first | (show W _ _ _ _ _ _ _ _ _) | (intro (al : Nat) h st; show W _ _ _ _ _ _ _ _ _) | (intro _ h st; show W _ _ _ _ _ _ _ _ _) | exact Sd))); refine W.do (ho := (d_vsLoad (v := sv) (l := zs.map zptr) (x := zptr z) st Tk (by rw [List.getElem?_map, hz']; rfl))) (w := ?_)
      cases z with
      | none =>
        dsimp only [zptr]
        have e := firstN_none hz' hf
        (repeat (first | (show W _ _ _ _ _ _ (.code (cond _ _ _) :: _) _ _; first | refine W.ct ?_ | refine W.cf ?_) | (show W _ _ _ _ _ _ (.ins (cond _ _ _ :: _) :: _) _ _; first | refine W.gt ?_ | refine W.gf ?_) | (show W _ _ _ _ _ _ [] _ _; refine W.of (.done ?_)) | (apply W.of; constructor <;> first | (show W _ _ _ _ _ _ _ _ _) | (intro (al : Nat) h st; show W _ _ _ _ _ _ _ _ _) | (intro _ h st; show W _ _ _ _ _ _ _ _ _) | exact Sd)))
        (repeat (first | (show W _ _ _ _ _ _ (.code (cond _ _ _) :: _) _ _; first | refine W.ct ?_ | refine W.cf ?_) | (show W _ _ _ _ _ _ (.ins (cond _ _ _ :: _) :: _) _ _; first | refine W.gt ?_ | refine W.gf ?_) | (show W _ _ _ _ _ _ [] _ _; refine W.of (.done ?_)) | (apply W.of; constructor <;> first | (show W _ _ _ _ _ _ _ _ _) | (intro (al : Nat) h st; show W _ _ _ _ _ _ _ _ _) | (intro _ h st; show W _ _ _ _ _ _ _ _ _) | exact Sd))); refine W.do (ho := gp) (w := ?_)
        (repeat (first | (show W _ _ _ _ _ _ (.code (cond _ _ _) :: _) _ _; first | refine W.ct ?_ | refine W.cf ?_) | (show W _ _ _ _ _ _ (.ins (cond _ _ _ :: _) :: _) _ _; first | refine W.gt ?_ | refine W.gf ?_) | (show W _ _ _ _ _ _ [] _ _; refine W.of (.done ?_)) | (apply W.of; constructor <;> first | (show W _ _ _ _ _ _ _ _ _) | (intro (al : Nat) h st; show W _ _ _ _ _ _ _ _ _) | (intro _ h st; show W _ _ _ _ _ _ _ _ _) | exact Sd))); refine W.ef0 (ho := (e_vsStore (v := sv) (l := zs.map zptr) (i := i) st Tk (by rw [List.length_map]; omega) rfl)) (w := ?_); rintro _ h ⟨_, st⟩
        (repeat (first | (show W _ _ _ _ _ _ (.code (cond _ _ _) :: _) _ _; first | refine W.ct ?_ | refine W.cf ?_) | (show W _ _ _ _ _ _ (.ins (cond _ _ _ :: _) :: _) _ _; first | refine W.gt ?_ | refine W.gf ?_) | (show W _ _ _ _ _ _ [] _ _; refine W.of (.done ?_)) | (apply W.of; constructor <;> first | (show W _ _ _ _ _ _ _ _ _) | (intro (al : Nat) h st; show W _ _ _ _ _ _ _ _ _) | (intro _ h st; show W _ _ _ _ _ _ _ _ _) | exact Sd)))
        have ez : (zs.map zptr).set i (.ptr O 0) = (putZ zs (newAm O k)).map zptr := by rw [putZ, e, if_pos hlt, List.map_set]; rfl
        rw [ez] at st
        have st := rp_put (a := newAm O k) (sv := sv) st Tk Tk Tk Tk (fun q => by omega) hpo
        exact ⟨_, rfl, _, .inr (.inr ⟨by omega, h3, O, by rw [e]; rfl, rfl⟩), st⟩
      | some b =>
        dsimp only [zptr]
        (repeat (first | (show W _ _ _ _ _ _ (.code (cond _ _ _) :: _) _ _; first | refine W.ct ?_ | refine W.cf ?_) | (show W _ _ _ _ _ _ (.ins (cond _ _ _ :: _) :: _) _ _; first | refine W.gt ?_ | refine W.gf ?_) | (show W _ _ _ _ _ _ [] _ _; refine W.of (.done ?_)) | (apply W.of; constructor <;> first | (show W _ _ _ _ _ _ _ _ _) | (intro (al : Nat) h st; show W _ _ _ _ _ _ _ _ _) | (intro _ h st; show W _ _ _ _ _ _ _ _ _) | exact Sd)))
        refine W.of (.lp ?_)
        exact ⟨i + 1, by omega, ⟨hlt, firstN_some hz' hf⟩, Sbs, st⟩
    · have hfe : firstN zs = zs.length := by omega
      have hcf := cntZ_full hfe
      (repeat (first | (show W _ _ _ _ _ _ (.code (cond _ _ _) :: _) _ _; first | refine W.ct ?_ | refine W.cf ?_) | (show W _ _ _ _ _ _ (.ins (cond _ _ _ :: _) :: _) _ _; first | refine W.gt ?_ | refine W.gf ?_) | (show W _ _ _ _ _ _ [] _ _; refine W.of (.done ?_)) | (apply W.of; constructor <;> first | (show W _ _ _ _ _ _ _ _ _) | (intro (al : Nat) h st; show W _ _ _ _ _ _ _ _ _) | (intro _ h st; show W _ _ _ _ _ _ _ _ _) | exact Sd)))
      have st := St.vsRow (l := [.ptr O 0]) (e := 148) st Tk rfl
      (repeat (first | (show W _ _ _ _ _ _ (.code (cond _ _ _) :: _) _ _; first | refine W.ct ?_ | refine W.cf ?_) | (show W _ _ _ _ _ _ (.ins (cond _ _ _ :: _) :: _) _ _; first | refine W.gt ?_ | refine W.gf ?_) | (show W _ _ _ _ _ _ [] _ _; refine W.of (.done ?_)) | (apply W.of; constructor <;> first | (show W _ _ _ _ _ _ _ _ _) | (intro (al : Nat) h st; show W _ _ _ _ _ _ _ _ _) | (intro _ h st; show W _ _ _ _ _ _ _ _ _) | exact Sd))); refine W.ef (ho := (e_vsAppend (s := sv) (l := zs.map zptr) (l' := [.ptr O 0]) st Tk Tk (by simp; omega) (by simp; omega))) (w := ?_); rintro vv h ⟨cj, cl, st⟩; refine nj ?_
      obtain ⟨s2, rfl⟩ : ∃ y, y = vv := ⟨_, rfl⟩
      have ez : zs.map zptr ++ [.ptr O 0] = (putZ zs (newAm O k)).map zptr := by rw [putZ, if_neg (by omega), List.map_append]; rfl
      rw [ez] at st cl
      (repeat (first | (show W _ _ _ _ _ _ (.code (cond _ _ _) :: _) _ _; first | refine W.ct ?_ | refine W.cf ?_) | (show W _ _ _ _ _ _ (.ins (cond _ _ _ :: _) :: _) _ _; first | refine W.gt ?_ | refine W.gf ?_) | (show W _ _ _ _ _ _ [] _ _; refine W.of (.done ?_)) | (apply W.of; constructor <;> first | (show W _ _ _ _ _ _ _ _ _) | (intro (al : Nat) h st; show W _ _ _ _ _ _ _ _ _) | (intro _ h st; show W _ _ _ _ _ _ _ _ _) | exact Sd))); refine W.ef0 (ho := (e_storeV (i := 1) st Tk rfl (by simp) (sl_dat cl))) (w := ?_); rintro _ h ⟨_, st⟩
      have cl2 : sliceLen s2 = some (zs.length + 1) := by rw [cl, List.length_map, putZ, if_neg (by omega), List.length_append]; rfl
      (repeat (first | (show W _ _ _ _ _ _ (.code (cond _ _ _) :: _) _ _; first | refine W.ct ?_ | refine W.cf ?_) | (show W _ _ _ _ _ _ (.ins (cond _ _ _ :: _) :: _) _ _; first | refine W.gt ?_ | refine W.gf ?_) | (show W _ _ _ _ _ _ [] _ _; refine W.of (.done ?_)) | (apply W.of; constructor <;> first | (show W _ _ _ _ _ _ _ _ _) | (intro (al : Nat) h st; show W _ _ _ _ _ _ _ _ _) | (intro _ h st; show W _ _ _ _ _ _ _ _ _) | exact Sd)))
      have st := rp_put (a := newAm O k) (sv := s2) st Tk Tk Tk Tk (fun q => by omega) hpo
      exact ⟨_, rfl, _, .inr (.inr ⟨by omega, h3, O, by rw [hfe]; rfl, rfl⟩), st.sel Sels⟩
  · exact absurd addOk_one ho
set_option maxRecDepth 8000 in
theorem rp_Make {m : Int} : Spec R (.f n_ref13_Pool_Make) [.ptr P 0, .int .i64 m] [RpC P most zs] (rmkPost P most zs m) := by
  refine spec_w (fun _ _ _ x => progI_call rfl rfl x) Njs rfl (fun h F st => ?_); dsimp only [List.cons_append, List.nil_append] at st
  have hpo := st.rp Tk
  have hm := hpo.m
  have hl := hpo.l
  have hcl := cntZ_le (zs := zs)
  by_cases h1 : m < 1
  · (repeat (first | (show W _ _ _ _ _ _ (.code (cond _ _ _) :: _) _ _; first | refine W.ct ?_ | refine W.cf ?_) | (show W _ _ _ _ _ _ (.ins (cond _ _ _ :: _) :: _) _ _; first | refine W.gt ?_ | refine W.gf ?_) | (show W _ _ _ _ _ _ [] _ _; refine W.of (.done ?_)) | (apply W.of; constructor <;> first | (show W _ _ _ _ _ _ _ _ _) | (intro (al : Nat) h st; show W _ _ _ _ _ _ _ _ _) | (intro _ h st; show W _ _ _ _ _ _ _ _ _) | exact Sd)))
    exact ⟨_, rfl, _, .inl ⟨by omega, rfl, rfl⟩, st⟩
  · by_cases h2 : m > 4096
    · (repeat (first | (show W _ _ _ _ _ _ (.code (cond _ _ _) :: _) _ _; first | refine W.ct ?_ | refine W.cf ?_) | (show W _ _ _ _ _ _ (.ins (cond _ _ _ :: _) :: _) _ _; first | refine W.gt ?_ | refine W.gf ?_) | (show W _ _ _ _ _ _ [] _ _; refine W.of (.done ?_)) | (apply W.of; constructor <;> first | (show W _ _ _ _ _ _ _ _ _) | (intro (al : Nat) h st; show W _ _ _ _ _ _ _ _ _) | (intro _ h st; show W _ _ _ _ _ _ _ _ _) | exact Sd)))
      exact ⟨_, rfl, _, .inl ⟨by omega, rfl, rfl⟩, st⟩
    · obtain ⟨k, rfl⟩ : ∃ k : Nat, m = (k : Int) := ⟨m.toNat, by omega⟩
      obtain ⟨_, ⟨sv, rfl, _⟩, st⟩ := St.unpack st; dsimp only [List.cons_append, List.nil_append] at st
      (repeat (first | (show W _ _ _ _ _ _ (.code (cond _ _ _) :: _) _ _; first | refine W.ct ?_ | refine W.cf ?_) | (show W _ _ _ _ _ _ (.ins (cond _ _ _ :: _) :: _) _ _; first | refine W.gt ?_ | refine W.gf ?_) | (show W _ _ _ _ _ _ [] _ _; refine W.of (.done ?_)) | (apply W.of; constructor <;> first | (show W _ _ _ _ _ _ _ _ _) | (intro (al : Nat) h st; show W _ _ _ _ _ _ _ _ _) | (intro _ h st; show W _ _ _ _ _ _ _ _ _) | exact Sd)))
      have st := St.packP (t := 51) (k := .ptr P 0) (P := RpIs P most zs) (cs := [.pt P (rpRow most sv), VsC sv 148 (zs.map zptr) true, SepC (.ptr P 0) rG zs]) st ⟨sv, rfl, hpo⟩ Pks
      (repeat (first | (show W _ _ _ _ _ _ (.code (cond _ _ _) :: _) _ _; first | refine W.ct ?_ | refine W.cf ?_) | (show W _ _ _ _ _ _ (.ins (cond _ _ _ :: _) :: _) _ _; first | refine W.gt ?_ | refine W.gf ?_) | (show W _ _ _ _ _ _ [] _ _; refine W.of (.done ?_)) | (apply W.of; constructor <;> first | (show W _ _ _ _ _ _ _ _ _) | (intro (al : Nat) h st; show W _ _ _ _ _ _ _ _ _) | (intro _ h st; show W _ _ _ _ _ _ _ _ _) | exact Sd))); refine W.call (hs := rp_Ids) (w := ?_); rintro vv _ ⟨ij, il, rfl⟩ h st; refine nj ?_; dsimp only [List.cons_append, List.nil_append] at st
      obtain ⟨iv, rfl⟩ : ∃ y, y = vv := ⟨_, rfl⟩
      rw [idsZ_len] at il
      have st := st.take (c := RpC P most zs) Tk
      obtain ⟨_, ⟨sv2, rfl, _⟩, st⟩ := St.unpack st; dsimp only [List.cons_append, List.nil_append] at st
      by_cases h3 : cntZ zs ≥ most
      · (repeat (first | (show W _ _ _ _ _ _ (.code (cond _ _ _) :: _) _ _; first | refine W.ct ?_ | refine W.cf ?_) | (show W _ _ _ _ _ _ (.ins (cond _ _ _ :: _) :: _) _ _; first | refine W.gt ?_ | refine W.gf ?_) | (show W _ _ _ _ _ _ [] _ _; refine W.of (.done ?_)) | (apply W.of; constructor <;> first | (show W _ _ _ _ _ _ _ _ _) | (intro (al : Nat) h st; show W _ _ _ _ _ _ _ _ _) | (intro _ h st; show W _ _ _ _ _ _ _ _ _) | exact Sd)))
        have st := St.packP (t := 51) (k := .ptr P 0) (P := RpIs P most zs) (cs := [.pt P (rpRow most sv2), VsC sv2 148 (zs.map zptr) true, SepC (.ptr P 0) rG zs]) st ⟨sv2, rfl, hpo⟩ Pks
        exact ⟨_, rfl, _, .inr (.inl ⟨by omega, h3, rfl, rfl⟩), st.sel Sels⟩
      · (repeat (first | (show W _ _ _ _ _ _ (.code (cond _ _ _) :: _) _ _; first | refine W.ct ?_ | refine W.cf ?_) | (show W _ _ _ _ _ _ (.ins (cond _ _ _ :: _) :: _) _ _; first | refine W.gt ?_ | refine W.gf ?_) | (show W _ _ _ _ _ _ [] _ _; refine W.of (.done ?_)) | (apply W.of; constructor <;> first | (show W _ _ _ _ _ _ _ _ _) | (intro (al : Nat) h st; show W _ _ _ _ _ _ _ _ _) | (intro _ h st; show W _ _ _ _ _ _ _ _ _) | exact Sd)))
        refine W.draw2 ?_ ?_
        · (repeat (first | (show W _ _ _ _ _ _ (.code (cond _ _ _) :: _) _ _; first | refine W.ct ?_ | refine W.cf ?_) | (show W _ _ _ _ _ _ (.ins (cond _ _ _ :: _) :: _) _ _; first | refine W.gt ?_ | refine W.gf ?_) | (show W _ _ _ _ _ _ [] _ _; refine W.of (.done ?_)) | (apply W.of; constructor <;> first | (show W _ _ _ _ _ _ _ _ _) | (intro (al : Nat) h st; show W _ _ _ _ _ _ _ _ _) | (intro _ h st; show W _ _ _ _ _ _ _ _ _) | exact Sd))); refine W.call (hs := (rc_New (m := k) (by omega))) (w := ?_); rintro vv _ ⟨D, rfl, rfl⟩ h st; refine nj ?_; dsimp only [List.cons_append, List.nil_append] at st
          (repeat (first | (show W _ _ _ _ _ _ (.code (cond _ _ _) :: _) _ _; first | refine W.ct ?_ | refine W.cf ?_) | (show W _ _ _ _ _ _ (.ins (cond _ _ _ :: _) :: _) _ _; first | refine W.gt ?_ | refine W.gf ?_) | (show W _ _ _ _ _ _ [] _ _; refine W.of (.done ?_)) | (apply W.of; constructor <;> first | (show W _ _ _ _ _ _ _ _ _) | (intro (al : Nat) h st; show W _ _ _ _ _ _ _ _ _) | (intro _ h st; show W _ _ _ _ _ _ _ _ _) | exact Sd))); refine W.ef (ho := (e_mkslice (e := 3) (es := 1) (b := 8) (z := .vals [.int .i64 0]) (d := .vals ((List.replicate k (0 : Int)).map ikey)) (l := (k : Nat)) (c := (k : Nat)) st (by omega) (by omega) (by omega) (by omega) rfl (by show Dat.vals (List.replicate k [AV.int .i64 0]).flatten = _; rw [rep_ikey]) (by simp [Dat.len]) rfl)) (w := ?_); rintro vv h ⟨id, rfl, st⟩; refine nj ?_
          rw [Int.toNat_natCast]
          (repeat (first | (show W _ _ _ _ _ _ (.code (cond _ _ _) :: _) _ _; first | refine W.ct ?_ | refine W.cf ?_) | (show W _ _ _ _ _ _ (.ins (cond _ _ _ :: _) :: _) _ _; first | refine W.gt ?_ | refine W.gf ?_) | (show W _ _ _ _ _ _ [] _ _; refine W.of (.done ?_)) | (apply W.of; constructor <;> first | (show W _ _ _ _ _ _ _ _ _) | (intro (al : Nat) h st; show W _ _ _ _ _ _ _ _ _) | (intro _ h st; show W _ _ _ _ _ _ _ _ _) | exact Sd)))
          have st := St.vsRow (l := (List.replicate k (0 : Int)).map ikey) (e := 3) (n := k) st Tk (by simp)
          exact W.sub Sbs (rmk_tail (by omega) (by omega) hpo (by omega) (st.sel Sels))
        · (repeat (first | (show W _ _ _ _ _ _ (.code (cond _ _ _) :: _) _ _; first | refine W.ct ?_ | refine W.cf ?_) | (show W _ _ _ _ _ _ (.ins (cond _ _ _ :: _) :: _) _ _; first | refine W.gt ?_ | refine W.gf ?_) | (show W _ _ _ _ _ _ [] _ _; refine W.of (.done ?_)) | (apply W.of; constructor <;> first | (show W _ _ _ _ _ _ _ _ _) | (intro (al : Nat) h st; show W _ _ _ _ _ _ _ _ _) | (intro _ h st; show W _ _ _ _ _ _ _ _ _) | exact Sd))); refine W.ef (ho := (e_mkslice (e := 3) (es := 1) (b := 8) (z := .vals [.int .i64 0]) (d := .vals ((List.replicate k (0 : Int)).map ikey)) (l := (k : Nat)) (c := (k : Nat)) st (by omega) (by omega) (by omega) (by omega) rfl (by show Dat.vals (List.replicate k [AV.int .i64 0]).flatten = _; rw [rep_ikey]) (by simp [Dat.len]) rfl)) (w := ?_); rintro vv h ⟨id, rfl, st⟩; refine nj ?_
          rw [Int.toNat_natCast]
          (repeat (first | (show W _ _ _ _ _ _ (.code (cond _ _ _) :: _) _ _; first | refine W.ct ?_ | refine W.cf ?_) | (show W _ _ _ _ _ _ (.ins (cond _ _ _ :: _) :: _) _ _; first | refine W.gt ?_ | refine W.gf ?_) | (show W _ _ _ _ _ _ [] _ _; refine W.of (.done ?_)) | (apply W.of; constructor <;> first | (show W _ _ _ _ _ _ _ _ _) | (intro (al : Nat) h st; show W _ _ _ _ _ _ _ _ _) | (intro _ h st; show W _ _ _ _ _ _ _ _ _) | exact Sd))); refine W.call (hs := (rc_New (m := k) (by omega))) (w := ?_); rintro vv _ ⟨D, rfl, rfl⟩ h st; refine nj ?_; dsimp only [List.cons_append, List.nil_append] at st
          (repeat (first | (show W _ _ _ _ _ _ (.code (cond _ _ _) :: _) _ _; first | refine W.ct ?_ | refine W.cf ?_) | (show W _ _ _ _ _ _ (.ins (cond _ _ _ :: _) :: _) _ _; first | refine W.gt ?_ | refine W.gf ?_) | (show W _ _ _ _ _ _ [] _ _; refine W.of (.done ?_)) | (apply W.of; constructor <;> first | (show W _ _ _ _ _ _ _ _ _) | (intro (al : Nat) h st; show W _ _ _ _ _ _ _ _ _) | (intro _ h st; show W _ _ _ _ _ _ _ _ _) | exact Sd)))
          have st := St.vsRow (l := (List.replicate k (0 : Int)).map ikey) (e := 3) (n := k) st Tk (by simp)
          exact W.sub Sbs (rmk_tail (by omega) (by omega) hpo (by omega) (st.sel Sels))
end Go.Proofs.Ytjdemlagmamlbaa

namespace Go.Proofs.Ytjdemlagmamlbaa
variable {P most : Nat} {zs : List (Option AmV)} {a b : AmV}
/-- without what is at two numbers -/
def RpYIs (P most : Nat) (zs : List (Option AmV)) (q : Nat) (a : AmV) (cs : List Chunk) : Prop := ∃ sv r, cs = [.pt P (rpRow most sv), VsC sv 148 (zs.map zptr) true, SepC (.ptr P 0) rG ((zs.eraseIdx q).eraseIdx r)] ∧ RpOk most zs ∧ (zs.eraseIdx q)[r]? = some (some a)
abbrev RpYC (P most : Nat) (zs : List (Option AmV)) (q : Nat) (a : AmV) : Chunk := pk 53 (.ptr P 0) (RpYIs P most zs q a)
theorem St.rpOut2 {h : AHeap} {L R : List Chunk} {i q : Nat} (st : St h L) (t : Take L (RpC P most zs) R) (hq : zs[q]? = some (some b)) (hi : zs[i]? = some (some a)) (hne : i ≠ q) : St h (RaC a :: RaC b :: RpYC P most zs q a :: R) := by
  have st1 := st.rpOut t hq
  obtain ⟨cs, ⟨sv, rfl, hk⟩, st2⟩ := (st1.take (c := RpXC P most zs q) Tk).unpack
  obtain ⟨r, hr⟩ : ∃ r, (zs.eraseIdx q)[r]? = some (some a) := List.mem_iff_getElem?.1 (List.mem_eraseIdx_iff_getElem?.2 ⟨i, hne, hi⟩)
  have st3 : St h (RaC a :: SepC (.ptr P 0) rG ((zs.eraseIdx q).eraseIdx r) :: .pt P (rpRow most sv) :: VsC sv 148 (zs.map zptr) true :: RaC b :: R) := St.sepOut (G := rG) (a := some a) st2 Tk hr
  have st4 := St.packP (t := 53) (k := .ptr P 0) (P := RpYIs P most zs q a) (cs := [.pt P (rpRow most sv), VsC sv 148 (zs.map zptr) true, SepC (.ptr P 0) rG ((zs.eraseIdx q).eraseIdx r)]) st3 ⟨sv, r, rfl, hk, hr⟩ Pks
  exact st4.sel Sels
theorem St.rpBack2 {h : AHeap} {L R R1 : List Chunk} {q : Nat} (st : St h L) (t : Take L (RaC a) R) (t' : Take R (RpYC P most zs q a) R1) : St h (RpXC P most zs q :: R1) := by
  have st1 := (st.take t).perm (List.Perm.cons _ t'.perm)
  have st2 : St h (RpYC P most zs q a :: RaC a :: R1) := st1.sel Sels
  obtain ⟨cs, ⟨sv, r, rfl, hk, hr⟩, st3⟩ := st2.unpack
  have st4 : St h (SepC (.ptr P 0) rG (zs.eraseIdx q) :: .pt P (rpRow most sv) :: VsC sv 148 (zs.map zptr) true :: R1) := St.sepBack (G := rG) (a := some a) (l := zs.eraseIdx q) (st3.sel Sels) hr
  exact St.pack (cs := [.pt P (rpRow most sv), VsC sv 148 (zs.map zptr) true, SepC (.ptr P 0) rG (zs.eraseIdx q)]) (st4.sel Sels) ⟨sv, rfl, hk⟩
theorem rp_ofY {q : Nat} {id : Int} : Spec R (.f n_ref13_Pool_Of) [.ptr P 0, .int .i64 id] [RpYC P most zs q a] fun v Rs => v = zptr (atZ zs id) ∧ Rs = [RpYC P most zs q a] := by
  refine spec_w (fun _ _ _ x => progI_call rfl rfl x) Njs rfl (fun h F st => ?_); dsimp only [List.cons_append, List.nil_append] at st
  obtain ⟨_, ⟨sv, r, rfl, hok, hr⟩, st⟩ := St.unpack st; dsimp only [List.cons_append, List.nil_append] at st
  obtain ⟨sl, sj, ss⟩ := St.vs (v := sv) (l := zs.map zptr) st Tk
  rw [List.length_map] at sl
  have hl := hok.l
  have hm := hok.m
  by_cases h1 : 1 ≤ id
  · by_cases h2 : id ≤ zs.length
    · obtain ⟨i, rfl⟩ : ∃ i : Nat, id = (i : Int) + 1 := ⟨(id - 1).toNat, by omega⟩
      obtain ⟨gp, gq⟩ := d_vsIdx (v := sv) (l := zs.map zptr) (i := i) (kk := .i64) st Tk (by rw [List.length_map]; omega)
      obtain ⟨z, hz⟩ : ∃ z, zs[i]? = some z := ⟨zs[i]'(by omega), by simp⟩
      have e : atZ zs ((i : Int) + 1) = z := by
        rw [atZ, if_pos ⟨h1, h2⟩, show ((i : Int) + 1 - 1).toNat = i by omega, hz]; cases z <;> rfl
      have znj := zptr_nj z
      have zok := zptr_ok z
      (repeat (first | (show W _ _ _ _ _ _ (.code (cond _ _ _) :: _) _ _; first | refine W.ct ?_ | refine W.cf ?_) | (show W _ _ _ _ _ _ (.ins (cond _ _ _ :: _) :: _) _ _; first | refine W.gt ?_ | refine W.gf ?_) | (show W _ _ _ _ _ _ [] _ _; refine W.of (.done ?_)) | (apply W.of; constructor <;> first | (show W _ _ _ _ _ _ _ _ _) | (intro (al : Nat) h st; show W _ _ _ _ _ _ _ _ _) | (intro _ h st; show W _ _ _ _ _ _ _ _ _) | exact Sd)))
      rw [show (i : Int) + 1 - 1 = i by omega]
      (repeat (first | (show W _ _ _ _ _ _ (.code (cond _ _ _) :: _) _ _; first | refine W.ct ?_ | refine W.cf ?_) | (show W _ _ _ _ _ _ (.ins (cond _ _ _ :: _) :: _) _ _; first | refine W.gt ?_ | refine W.gf ?_) | (show W _ _ _ _ _ _ [] _ _; refine W.of (.done ?_)) | (apply W.of; constructor <;> first | (show W _ _ _ _ _ _ _ _ _) | (intro (al : Nat) h st; show W _ _ _ _ _ _ _ _ _) | (intro _ h st; show W _ _ _ _ _ _ _ _ _) | exact Sd))); refine W.do (ho := gp) (w := ?_)
      (repeat (first | (show W _ _ _ _ _ _ (.code (cond _ _ _) :: _) _ _; first | refine W.ct ?_ | refine W.cf ?_) | (show W _ _ _ _ _ _ (.ins (cond _ _ _ :: _) :: _) _ _; first | refine W.gt ?_ | refine W.gf ?_) | (show W _ _ _ _ _ _ [] _ _; refine W.of (.done ?_)) | (apply W.of; constructor <;> first | (show W _ _ _ _ _ _ _ _ _) | (intro (al : Nat) h st; show W _ _ _ _ _ _ _ _ _) | (intro _ h st; show W _ _ _ _ _ _ _ _ _) | exact Sd))); refine W.do (ho := (d_vsLoad (v := sv) (l := zs.map zptr) (x := zptr z) st Tk (by rw [List.getElem?_map, hz]; rfl))) (w := ?_)
      (repeat (first | (show W _ _ _ _ _ _ (.code (cond _ _ _) :: _) _ _; first | refine W.ct ?_ | refine W.cf ?_) | (show W _ _ _ _ _ _ (.ins (cond _ _ _ :: _) :: _) _ _; first | refine W.gt ?_ | refine W.gf ?_) | (show W _ _ _ _ _ _ [] _ _; refine W.of (.done ?_)) | (apply W.of; constructor <;> first | (show W _ _ _ _ _ _ _ _ _) | (intro (al : Nat) h st; show W _ _ _ _ _ _ _ _ _) | (intro _ h st; show W _ _ _ _ _ _ _ _ _) | exact Sd)))
      exact ⟨_, rfl, _, ⟨by rw [e]; rfl, rfl⟩, St.packP (t := 53) (P := RpYIs P most zs q a) (cs := [_, _, _]) st ⟨sv, r, rfl, hok, hr⟩ Pks⟩
    · (repeat (first | (show W _ _ _ _ _ _ (.code (cond _ _ _) :: _) _ _; first | refine W.ct ?_ | refine W.cf ?_) | (show W _ _ _ _ _ _ (.ins (cond _ _ _ :: _) :: _) _ _; first | refine W.gt ?_ | refine W.gf ?_) | (show W _ _ _ _ _ _ [] _ _; refine W.of (.done ?_)) | (apply W.of; constructor <;> first | (show W _ _ _ _ _ _ _ _ _) | (intro (al : Nat) h st; show W _ _ _ _ _ _ _ _ _) | (intro _ h st; show W _ _ _ _ _ _ _ _ _) | exact Sd)))
      exact ⟨_, rfl, _, ⟨by rw [atZ, if_neg (by omega)]; rfl, rfl⟩, St.packP (t := 53) (P := RpYIs P most zs q a) (cs := [_, _, _]) st ⟨sv, r, rfl, hok, hr⟩ Pks⟩
  · (repeat (first | (show W _ _ _ _ _ _ (.code (cond _ _ _) :: _) _ _; first | refine W.ct ?_ | refine W.cf ?_) | (show W _ _ _ _ _ _ (.ins (cond _ _ _ :: _) :: _) _ _; first | refine W.gt ?_ | refine W.gf ?_) | (show W _ _ _ _ _ _ [] _ _; refine W.of (.done ?_)) | (apply W.of; constructor <;> first | (show W _ _ _ _ _ _ _ _ _) | (intro (al : Nat) h st; show W _ _ _ _ _ _ _ _ _) | (intro _ h st; show W _ _ _ _ _ _ _ _ _) | exact Sd)))
    exact ⟨_, rfl, _, ⟨by rw [atZ, if_neg (by omega)]; rfl, rfl⟩, St.packP (t := 53) (P := RpYIs P most zs q a) (cs := [_, _, _]) st ⟨sv, r, rfl, hok, hr⟩ Pks⟩
theorem rp_Make2 {m : Int} (hm : 1 ≤ m ∧ m ≤ 4096) : Spec R (.f n_ref13_Pool_Make) [.ptr P 0, .int .i64 m] [RpC P most zs] fun v Rs =>
    (cntZ zs < most ∧ ∃ O, v = .tuple [.int .i64 ((firstN zs : Int) + 1), .int .i64 0] ∧ Rs = [RpC P most (putZ zs (newAm O m.toNat))]) ∨
    (most ≤ cntZ zs ∧ v = .tuple [.int .i64 0, .int .i64 5] ∧ Rs = [RpC P most zs]) :=
  rp_Make.mono progI_mono fun v Rs h => by
    rcases h with ⟨h, _⟩ | ⟨_, h⟩ | ⟨_, h⟩
    · exact absurd hm h
    · exact .inr h
    · exact .inl h
abbrev rcopyPost (P most : Nat) (zs : List (Option AmV)) (id lo hi : Int) (v : AV) (Rs : List Chunk) : Prop :=
  (atZ zs id = none ∧ v = .tuple [.int .i64 0, .nilsl, .int .i64 7] ∧ Rs = [RpC P most zs]) ∨
  ∃ a, atZ zs id = some a ∧ ((¬ inA a lo hi ∧ v = .tuple [.int .i64 0, .nilsl, .int .i64 2] ∧ Rs = [RpC P most zs]) ∨
    (inA a lo hi ∧ most ≤ cntZ zs ∧ v = .tuple [.int .i64 0, .nilsl, .int .i64 5] ∧ Rs = [RpC P most zs]) ∨
    (inA a lo hi ∧ cntZ zs < most ∧ ∃ O ov, v = .tuple [.int .i64 ((firstN zs : Int) + 1), ov, .int .i64 0] ∧ ov.notJunk = some ov ∧ sliceLen ov = some (outC a lo hi).length ∧ Rs = [VsC ov 3 ((outC a lo hi).map ikey) true, RpC P most (putZ zs (copyA O a lo hi))]))
/-- a copy under way -/
def coB (O n : Nat) (l : List Int) (j : Nat) : AmV := ⟨O, List.replicate n 1, l.take j ++ List.replicate (n - j) 0⟩
theorem fill_step {l : List Int} {n j : Nat} {x : Int} (hl : l.length = n) (hx : l[j]? = some x) : (l.take j ++ List.replicate (n - j) 0).set j x = l.take (j + 1) ++ List.replicate (n - (j + 1)) 0 := by
  have hj := (List.getElem?_eq_some_iff.1 hx).1
  have ht : (l.take j).length = j := by rw [List.length_take]; omega
  rw [List.set_append_right _ _ (by omega), ht, Nat.sub_self, show n - j = (n - (j + 1)) + 1 by omega, List.replicate_succ, List.set_cons_zero, take_snoc1 hx, List.append_assoc]
  rfl
theorem outK_snoc {l : List Int} {j : Nat} {x : Int} (hx : l[j]? = some x) : (usedP 0 (l.take (j + 1))).map (·.2) = (usedP 0 (l.take j)).map (·.2) ++ if x > 0 then [x] else [] := by
  rw [take_snoc1 hx, usedP_snoc, List.map_append]
  split <;> rfl
theorem coB_ok {O n j : Nat} {l : List Int} (hl : l.length = n) (h1 : 1 ≤ n) (h4 : n ≤ 4096) (hj : j ≤ n) (hp : ∀ x, x ∈ l → 0 ≤ x) : AmOk (coB O n l j) := ⟨by simp [coB]; omega, by simpa [coB] using h1, by simpa [coB] using h4, fun x hx => by
  rcases List.mem_append.1 hx with hx | hx
  · exact hp x (List.mem_of_mem_take hx)
  · rw [(List.mem_replicate.1 hx).2]; exact Int.le_refl _⟩
structure RcoS where
  j : Nat
  ov : AV
set_option maxRecDepth 8000 in
theorem rp_Copy {id lo hi : Int} : Spec R (.f n_ref13_Pool_Copy) [.ptr P 0, .int .i64 id, .int .i64 lo, .int .i64 hi] [RpC P most zs] (rcopyPost P most zs id lo hi) := by
  refine spec_w (fun _ _ _ x => progI_call rfl rfl x) Njs rfl (fun h F st => ?_); dsimp only [List.cons_append, List.nil_append] at st
  have znj := zptr_nj (atZ zs id)
  have zok := zptr_ok (atZ zs id)
  (repeat (first | (show W _ _ _ _ _ _ (.code (cond _ _ _) :: _) _ _; first | refine W.ct ?_ | refine W.cf ?_) | (show W _ _ _ _ _ _ (.ins (cond _ _ _ :: _) :: _) _ _; first | refine W.gt ?_ | refine W.gf ?_) | (show W _ _ _ _ _ _ [] _ _; refine W.of (.done ?_)) | (apply W.of; constructor <;> first | (show W _ _ _ _ _ _ _ _ _) | (intro (al : Nat) h st; show W _ _ _ _ _ _ _ _ _) | (intro _ h st; show W _ _ _ _ _ _ _ _ _) | exact Sd))); refine W.call (hs := rp_of) (w := ?_); rintro vv _ ⟨rfl, rfl⟩ h st; refine nj ?_; dsimp only [List.cons_append, List.nil_append] at st
  cases ha : atZ zs id with
  | none =>
    dsimp only [zptr]
    (repeat (first | (show W _ _ _ _ _ _ (.code (cond _ _ _) :: _) _ _; first | refine W.ct ?_ | refine W.cf ?_) | (show W _ _ _ _ _ _ (.ins (cond _ _ _ :: _) :: _) _ _; first | refine W.gt ?_ | refine W.gf ?_) | (show W _ _ _ _ _ _ [] _ _; refine W.of (.done ?_)) | (apply W.of; constructor <;> first | (show W _ _ _ _ _ _ _ _ _) | (intro (al : Nat) h st; show W _ _ _ _ _ _ _ _ _) | (intro _ h st; show W _ _ _ _ _ _ _ _ _) | exact Sd)))
    exact ⟨_, rfl, _, .inl ⟨ha, rfl, rfl⟩, st⟩
  | some a =>
    dsimp only [zptr]
    obtain ⟨hi1, hi2, hz⟩ := atZ_some ha
    have st := st.rpOut Tk hz
    have hok := st.ra Tk
    have hlen := hok.len
    have hn1 := hok.n1
    have hn4 := hok.n4
    obtain ⟨_, ⟨D, v, rfl, _⟩, st⟩ := St.unpack st; dsimp only [List.cons_append, List.nil_append] at st
    obtain ⟨vl, vj, vs⟩ := St.ivs (v := v) (cs := a.an) st Tk
    have hback : ∀ {h : AHeap}, St h (.pt a.O (raRow D v) :: RcC D a.cs :: VsC v 3 (a.an.map ikey) true :: RpXC P most zs (id - 1).toNat :: F) → St h (RpC P most zs :: F) := fun st => by
      have st := St.packP (t := 50) (k := .ptr a.O 0) (P := RaIs a) (cs := [.pt a.O (raRow D v), RcC D a.cs, VsC v 3 (a.an.map ikey) true]) st ⟨D, v, rfl, hok⟩ Pks
      exact st.rpBack hz Tk Tk
    by_cases c1 : lo < 0
    · (repeat (first | (show W _ _ _ _ _ _ (.code (cond _ _ _) :: _) _ _; first | refine W.ct ?_ | refine W.cf ?_) | (show W _ _ _ _ _ _ (.ins (cond _ _ _ :: _) :: _) _ _; first | refine W.gt ?_ | refine W.gf ?_) | (show W _ _ _ _ _ _ [] _ _; refine W.of (.done ?_)) | (apply W.of; constructor <;> first | (show W _ _ _ _ _ _ _ _ _) | (intro (al : Nat) h st; show W _ _ _ _ _ _ _ _ _) | (intro _ h st; show W _ _ _ _ _ _ _ _ _) | exact Sd)))
      exact ⟨_, rfl, _, .inr ⟨a, ha, .inl ⟨fun hh => by have := hh.1; omega, rfl, rfl⟩⟩, hback (st.sel Sels)⟩
    · by_cases c2 : lo ≥ hi
      · (repeat (first | (show W _ _ _ _ _ _ (.code (cond _ _ _) :: _) _ _; first | refine W.ct ?_ | refine W.cf ?_) | (show W _ _ _ _ _ _ (.ins (cond _ _ _ :: _) :: _) _ _; first | refine W.gt ?_ | refine W.gf ?_) | (show W _ _ _ _ _ _ [] _ _; refine W.of (.done ?_)) | (apply W.of; constructor <;> first | (show W _ _ _ _ _ _ _ _ _) | (intro (al : Nat) h st; show W _ _ _ _ _ _ _ _ _) | (intro _ h st; show W _ _ _ _ _ _ _ _ _) | exact Sd)))
        exact ⟨_, rfl, _, .inr ⟨a, ha, .inl ⟨fun hh => by have := hh.2.1; omega, rfl, rfl⟩⟩, hback (st.sel Sels)⟩
      · by_cases c3 : hi > a.an.length
        · (repeat (first | (show W _ _ _ _ _ _ (.code (cond _ _ _) :: _) _ _; first | refine W.ct ?_ | refine W.cf ?_) | (show W _ _ _ _ _ _ (.ins (cond _ _ _ :: _) :: _) _ _; first | refine W.gt ?_ | refine W.gf ?_) | (show W _ _ _ _ _ _ [] _ _; refine W.of (.done ?_)) | (apply W.of; constructor <;> first | (show W _ _ _ _ _ _ _ _ _) | (intro (al : Nat) h st; show W _ _ _ _ _ _ _ _ _) | (intro _ h st; show W _ _ _ _ _ _ _ _ _) | exact Sd)))
          exact ⟨_, rfl, _, .inr ⟨a, ha, .inl ⟨fun hh => by have := hh.2.2; omega, rfl, rfl⟩⟩, hback (st.sel Sels)⟩
        · obtain ⟨A, rfl⟩ : ∃ A : Nat, lo = (A : Int) := ⟨lo.toNat, by omega⟩
          obtain ⟨n, hn⟩ : ∃ n : Nat, n = (hi - A).toNat := ⟨_, rfl⟩
          obtain rfl : hi = ((A + n : Nat) : Int) := by omega
          have hin : inA a (A : Int) ((A + n : Nat) : Int) := ⟨by omega, by omega, by omega⟩
          obtain ⟨l, hl⟩ : ∃ l, l = slc a.an (A : Int) ((A + n : Nat) : Int) := ⟨_, rfl⟩
          have hll : l.length = n := by rw [hl, slc_len (by omega) (by omega) (by omega)]; omega
          have hlp : ∀ x, x ∈ l → 0 ≤ x := fun x hx => hok.pos x (by rw [hl] at hx; exact List.mem_of_mem_drop (List.mem_of_mem_take hx))
          (repeat (first | (show W _ _ _ _ _ _ (.code (cond _ _ _) :: _) _ _; first | refine W.ct ?_ | refine W.cf ?_) | (show W _ _ _ _ _ _ (.ins (cond _ _ _ :: _) :: _) _ _; first | refine W.gt ?_ | refine W.gf ?_) | (show W _ _ _ _ _ _ [] _ _; refine W.of (.done ?_)) | (apply W.of; constructor <;> first | (show W _ _ _ _ _ _ _ _ _) | (intro (al : Nat) h st; show W _ _ _ _ _ _ _ _ _) | (intro _ h st; show W _ _ _ _ _ _ _ _ _) | exact Sd)))
          have st := hback (st.sel Sels)
          rw [show ((A + n : Nat) : Int) - (A : Int) = (n : Int) by omega]
          (repeat (first | (show W _ _ _ _ _ _ (.code (cond _ _ _) :: _) _ _; first | refine W.ct ?_ | refine W.cf ?_) | (show W _ _ _ _ _ _ (.ins (cond _ _ _ :: _) :: _) _ _; first | refine W.gt ?_ | refine W.gf ?_) | (show W _ _ _ _ _ _ [] _ _; refine W.of (.done ?_)) | (apply W.of; constructor <;> first | (show W _ _ _ _ _ _ _ _ _) | (intro (al : Nat) h st; show W _ _ _ _ _ _ _ _ _) | (intro _ h st; show W _ _ _ _ _ _ _ _ _) | exact Sd))); refine W.call (hs := (rp_Make2 (P := P) (most := most) (zs := zs) (m := (n : Nat)) (by omega))) (w := ?_); rintro vv _ (⟨hc, O, rfl, rfl⟩ | ⟨hc, rfl, rfl⟩) h st; refine nj ?_; dsimp only [List.cons_append, List.nil_append] at st
          · have e0 : newAm O ((n : Nat) : Int).toNat = coB O n l 0 := by simp [newAm, coB]
            rw [e0] at st
            have hpl := st.rp Tk
            have hplm := hpl.m
            have hpll := hpl.l
            have hpt := put_len (zs := zs) (b := coB O n l 0)
            (repeat (first | (show W _ _ _ _ _ _ (.code (cond _ _ _) :: _) _ _; first | refine W.ct ?_ | refine W.cf ?_) | (show W _ _ _ _ _ _ (.ins (cond _ _ _ :: _) :: _) _ _; first | refine W.gt ?_ | refine W.gf ?_) | (show W _ _ _ _ _ _ [] _ _; refine W.of (.done ?_)) | (apply W.of; constructor <;> first | (show W _ _ _ _ _ _ _ _ _) | (intro (al : Nat) h st; show W _ _ _ _ _ _ _ _ _) | (intro _ h st; show W _ _ _ _ _ _ _ _ _) | exact Sd)))
            refine W.loop (fun y : RcoS => [(0, .ptr P 0), (2, .int .i64 A), (3, .int .i64 ((A + n : Nat) : Int)), (11, .ptr a.O 0), (12, .int .i64 ((firstN zs : Int) + 1)), (14, y.ov), (15, .int .i64 ((A + y.j : Nat) : Int))])
              (fun y => VsC y.ov 3 (((usedP 0 (l.take y.j)).map (·.2)).map ikey) true :: RpC P most (putZ zs (coB O n l y.j)) :: F)
              (fun y => y.j ≤ n) (fun y => n - y.j) ⟨0, .nilsl⟩ (small_rounds (by simp only; omega)) Sbs ?_ (Nat.zero_le _) ?_
            · have st := st.vsNil 3 true
              exact st.sel Sels
            clear st
            intro ⟨j, ov⟩ h hj st
            dsimp only at hj st ⊢
            obtain ⟨ol, oj, oo⟩ := St.ivs (v := ov) (cs := (usedP 0 (l.take j)).map (·.2)) st Tk
            have hol : ((usedP 0 (l.take j)).map (·.2)).length ≤ 4096 := by
              rw [List.length_map]; exact Nat.le_trans usedP_len (by rw [List.length_take]; omega)
            by_cases hlt : j < n
            · obtain ⟨x, hx⟩ : ∃ x, a.an[A + j]? = some x := ⟨a.an[A + j]'(by omega), by simp⟩
              have hxl : l[j]? = some x := by rw [hl, slc_get (by omega) (by omega), Int.toNat_natCast]; exact hx
              have hxp := hlp x (List.mem_of_getElem? hxl)
              have eo := outK_snoc hxl
              have ef := fill_step hll hxl
              obtain ⟨hne, hza⟩ := put_other (b := coB O n l j) hz
              have st := (st.take (c := RpC P most (putZ zs (coB O n l j))) Tk).rpOut2 Tk put_at hza hne
              obtain ⟨_, ⟨D, v, rfl, _⟩, st⟩ := St.unpack st; dsimp only [List.cons_append, List.nil_append] at st
              have st := st.take (c := RaC (coB O n l j)) Tk
              obtain ⟨_, ⟨D2, w, rfl, _⟩, st⟩ := St.unpack st; dsimp only [List.cons_append, List.nil_append] at st
              obtain ⟨vl, vj, vs⟩ := St.ivs (v := v) (cs := a.an) st Tk
              obtain ⟨wl, wj, ws⟩ := St.ivs (v := w) (cs := (coB O n l j).an) st Tk
              have hwl : (coB O n l j).an.length = n := by simp [coB]; omega
              obtain ⟨gp, gq⟩ := d_vsIdx (v := v) (l := a.an.map ikey) (i := A + j) (kk := .i64) st Tk (by rw [List.length_map]; omega)
              (repeat (first | (show W _ _ _ _ _ _ (.code (cond _ _ _) :: _) _ _; first | refine W.ct ?_ | refine W.cf ?_) | (show W _ _ _ _ _ _ (.ins (cond _ _ _ :: _) :: _) _ _; first | refine W.gt ?_ | refine W.gf ?_) | (show W _ _ _ _ _ _ [] _ _; refine W.of (.done ?_)) | (apply W.of; constructor <;> first | (show W _ _ _ _ _ _ _ _ _) | (intro (al : Nat) h st; show W _ _ _ _ _ _ _ _ _) | (intro _ h st; show W _ _ _ _ _ _ _ _ _) | exact Sd)))
              rw [show ((A + j : Nat) : Int) - A = j by omega]
              (repeat (first | (show W _ _ _ _ _ _ (.code (cond _ _ _) :: _) _ _; first | refine W.ct ?_ | refine W.cf ?_) | (show W _ _ _ _ _ _ (.ins (cond _ _ _ :: _) :: _) _ _; first | refine W.gt ?_ | refine W.gf ?_) | (show W _ _ _ _ _ _ [] _ _; refine W.of (.done ?_)) | (apply W.of; constructor <;> first | (show W _ _ _ _ _ _ _ _ _) | (intro (al : Nat) h st; show W _ _ _ _ _ _ _ _ _) | (intro _ h st; show W _ _ _ _ _ _ _ _ _) | exact Sd))); refine W.do (ho := gp) (w := ?_)
              (repeat (first | (show W _ _ _ _ _ _ (.code (cond _ _ _) :: _) _ _; first | refine W.ct ?_ | refine W.cf ?_) | (show W _ _ _ _ _ _ (.ins (cond _ _ _ :: _) :: _) _ _; first | refine W.gt ?_ | refine W.gf ?_) | (show W _ _ _ _ _ _ [] _ _; refine W.of (.done ?_)) | (apply W.of; constructor <;> first | (show W _ _ _ _ _ _ _ _ _) | (intro (al : Nat) h st; show W _ _ _ _ _ _ _ _ _) | (intro _ h st; show W _ _ _ _ _ _ _ _ _) | exact Sd))); refine W.do (ho := (d_vsLoad (v := v) (l := a.an.map ikey) (x := ikey x) st Tk (by rw [List.getElem?_map, hx]; rfl))) (w := ?_)
              have znj := zptr_nj (atZ (putZ zs (coB O n l j)) ((firstN zs : Int) + 1))
              (repeat (first | (show W _ _ _ _ _ _ (.code (cond _ _ _) :: _) _ _; first | refine W.ct ?_ | refine W.cf ?_) | (show W _ _ _ _ _ _ (.ins (cond _ _ _ :: _) :: _) _ _; first | refine W.gt ?_ | refine W.gf ?_) | (show W _ _ _ _ _ _ [] _ _; refine W.of (.done ?_)) | (apply W.of; constructor <;> first | (show W _ _ _ _ _ _ _ _ _) | (intro (al : Nat) h st; show W _ _ _ _ _ _ _ _ _) | (intro _ h st; show W _ _ _ _ _ _ _ _ _) | exact Sd))); refine W.call (hs := (rp_ofY (P := P) (most := most) (zs := putZ zs (coB O n l j)) (q := firstN zs) (a := a) (id := (firstN zs : Int) + 1))) (w := ?_); rintro vv _ ⟨rfl, rfl⟩ h st; refine nj ?_; dsimp only [List.cons_append, List.nil_append] at st
              rw [atZ_put]
              dsimp only [zptr]
              (repeat (first | (show W _ _ _ _ _ _ (.code (cond _ _ _) :: _) _ _; first | refine W.ct ?_ | refine W.cf ?_) | (show W _ _ _ _ _ _ (.ins (cond _ _ _ :: _) :: _) _ _; first | refine W.gt ?_ | refine W.gf ?_) | (show W _ _ _ _ _ _ [] _ _; refine W.of (.done ?_)) | (apply W.of; constructor <;> first | (show W _ _ _ _ _ _ _ _ _) | (intro (al : Nat) h st; show W _ _ _ _ _ _ _ _ _) | (intro _ h st; show W _ _ _ _ _ _ _ _ _) | exact Sd))); refine W.of (.ag (.ld rfl rfl st Tk rfl vs (.dz rfl rfl (d_vsLoad (v := v) (l := a.an.map ikey) (x := ikey x) st Tk (by rw [List.getElem?_map, hx]; rfl)) rfl .nil)) ?_)
              obtain ⟨fp, fq⟩ := d_vsIdx (v := w) (l := (coB O n l j).an.map ikey) (i := j) (kk := .i64) st Tk (by rw [List.length_map]; omega)
              (repeat (first | (show W _ _ _ _ _ _ (.code (cond _ _ _) :: _) _ _; first | refine W.ct ?_ | refine W.cf ?_) | (show W _ _ _ _ _ _ (.ins (cond _ _ _ :: _) :: _) _ _; first | refine W.gt ?_ | refine W.gf ?_) | (show W _ _ _ _ _ _ [] _ _; refine W.of (.done ?_)) | (apply W.of; constructor <;> first | (show W _ _ _ _ _ _ _ _ _) | (intro (al : Nat) h st; show W _ _ _ _ _ _ _ _ _) | (intro _ h st; show W _ _ _ _ _ _ _ _ _) | exact Sd))); refine W.do (ho := fp) (w := ?_)
              (repeat (first | (show W _ _ _ _ _ _ (.code (cond _ _ _) :: _) _ _; first | refine W.ct ?_ | refine W.cf ?_) | (show W _ _ _ _ _ _ (.ins (cond _ _ _ :: _) :: _) _ _; first | refine W.gt ?_ | refine W.gf ?_) | (show W _ _ _ _ _ _ [] _ _; refine W.of (.done ?_)) | (apply W.of; constructor <;> first | (show W _ _ _ _ _ _ _ _ _) | (intro (al : Nat) h st; show W _ _ _ _ _ _ _ _ _) | (intro _ h st; show W _ _ _ _ _ _ _ _ _) | exact Sd))); refine W.ef0 (ho := (e_vsStore (v := w) (l := (coB O n l j).an.map ikey) (i := j) st Tk (by rw [List.length_map]; omega) rfl)) (w := ?_); rintro _ h ⟨_, st⟩
              rw [← List.map_set (f := ikey), show (coB O n l j).an.set j x = (coB O n l (j + 1)).an from ef] at st
              have hrest : ∀ {h : AHeap} {ov : AV}, St h (VsC w 3 ((coB O n l (j + 1)).an.map ikey) true :: VsC v 3 (a.an.map ikey) true :: .pt (coB O n l j).O (raRow D2 w) :: RcC D2 (coB O n l j).cs :: .pt a.O (raRow D v) :: RcC D a.cs :: RpYC P most (putZ zs (coB O n l j)) (firstN zs) a :: VsC ov 3 (((usedP 0 (l.take (j + 1))).map (·.2)).map ikey) true :: F) →
                  St h (VsC ov 3 (((usedP 0 (l.take (j + 1))).map (·.2)).map ikey) true :: RpC P most (putZ zs (coB O n l (j + 1))) :: F) := fun st => by
                have st := St.packP (t := 50) (k := .ptr a.O 0) (P := RaIs a) (cs := [.pt a.O (raRow D v), RcC D a.cs, VsC v 3 (a.an.map ikey) true]) st ⟨D, v, rfl, hok⟩ Pks
                have st := st.rpBack2 Tk Tk
                have st := St.packP (t := 50) (k := .ptr O 0) (P := RaIs (coB O n l (j + 1))) (cs := [.pt (coB O n l j).O (raRow D2 w), RcC D2 (coB O n l j).cs, VsC w 3 ((coB O n l (j + 1)).an.map ikey) true]) st ⟨D2, w, rfl, coB_ok hll (by omega) (by omega) (by omega) hlp⟩ Pks
                have st := st.rpIn (a := coB O n l j) (b := coB O n l (j + 1)) rfl put_at Tk Tk
                rw [put_set] at st
                exact st.sel Sels
              obtain ⟨gp2, _⟩ := d_vsIdx (v := v) (l := a.an.map ikey) (i := A + j) (kk := .i64) st Tk (by rw [List.length_map]; omega)
              (repeat (first | (show W _ _ _ _ _ _ (.code (cond _ _ _) :: _) _ _; first | refine W.ct ?_ | refine W.cf ?_) | (show W _ _ _ _ _ _ (.ins (cond _ _ _ :: _) :: _) _ _; first | refine W.gt ?_ | refine W.gf ?_) | (show W _ _ _ _ _ _ [] _ _; refine W.of (.done ?_)) | (apply W.of; constructor <;> first | (show W _ _ _ _ _ _ _ _ _) | (intro (al : Nat) h st; show W _ _ _ _ _ _ _ _ _) | (intro _ h st; show W _ _ _ _ _ _ _ _ _) | exact Sd)))
              (repeat (first | (show W _ _ _ _ _ _ (.code (cond _ _ _) :: _) _ _; first | refine W.ct ?_ | refine W.cf ?_) | (show W _ _ _ _ _ _ (.ins (cond _ _ _ :: _) :: _) _ _; first | refine W.gt ?_ | refine W.gf ?_) | (show W _ _ _ _ _ _ [] _ _; refine W.of (.done ?_)) | (apply W.of; constructor <;> first | (show W _ _ _ _ _ _ _ _ _) | (intro (al : Nat) h st; show W _ _ _ _ _ _ _ _ _) | (intro _ h st; show W _ _ _ _ _ _ _ _ _) | exact Sd))); refine W.do (ho := gp2) (w := ?_)
              (repeat (first | (show W _ _ _ _ _ _ (.code (cond _ _ _) :: _) _ _; first | refine W.ct ?_ | refine W.cf ?_) | (show W _ _ _ _ _ _ (.ins (cond _ _ _ :: _) :: _) _ _; first | refine W.gt ?_ | refine W.gf ?_) | (show W _ _ _ _ _ _ [] _ _; refine W.of (.done ?_)) | (apply W.of; constructor <;> first | (show W _ _ _ _ _ _ _ _ _) | (intro (al : Nat) h st; show W _ _ _ _ _ _ _ _ _) | (intro _ h st; show W _ _ _ _ _ _ _ _ _) | exact Sd))); refine W.do (ho := (d_vsLoad (v := v) (l := a.an.map ikey) (x := ikey x) st Tk (by rw [List.getElem?_map, hx]; rfl))) (w := ?_)
              by_cases hq : x > 0
              · rw [if_pos hq] at eo
                (repeat (first | (show W _ _ _ _ _ _ (.code (cond _ _ _) :: _) _ _; first | refine W.ct ?_ | refine W.cf ?_) | (show W _ _ _ _ _ _ (.ins (cond _ _ _ :: _) :: _) _ _; first | refine W.gt ?_ | refine W.gf ?_) | (show W _ _ _ _ _ _ [] _ _; refine W.of (.done ?_)) | (apply W.of; constructor <;> first | (show W _ _ _ _ _ _ _ _ _) | (intro (al : Nat) h st; show W _ _ _ _ _ _ _ _ _) | (intro _ h st; show W _ _ _ _ _ _ _ _ _) | exact Sd)))
                (repeat (first | (show W _ _ _ _ _ _ (.code (cond _ _ _) :: _) _ _; first | refine W.ct ?_ | refine W.cf ?_) | (show W _ _ _ _ _ _ (.ins (cond _ _ _ :: _) :: _) _ _; first | refine W.gt ?_ | refine W.gf ?_) | (show W _ _ _ _ _ _ [] _ _; refine W.of (.done ?_)) | (apply W.of; constructor <;> first | (show W _ _ _ _ _ _ _ _ _) | (intro (al : Nat) h st; show W _ _ _ _ _ _ _ _ _) | (intro _ h st; show W _ _ _ _ _ _ _ _ _) | exact Sd))); refine W.do (ho := gp2) (w := ?_)
                (repeat (first | (show W _ _ _ _ _ _ (.code (cond _ _ _) :: _) _ _; first | refine W.ct ?_ | refine W.cf ?_) | (show W _ _ _ _ _ _ (.ins (cond _ _ _ :: _) :: _) _ _; first | refine W.gt ?_ | refine W.gf ?_) | (show W _ _ _ _ _ _ [] _ _; refine W.of (.done ?_)) | (apply W.of; constructor <;> first | (show W _ _ _ _ _ _ _ _ _) | (intro (al : Nat) h st; show W _ _ _ _ _ _ _ _ _) | (intro _ h st; show W _ _ _ _ _ _ _ _ _) | exact Sd))); refine W.do (ho := (d_vsLoad (v := v) (l := a.an.map ikey) (x := ikey x) st Tk (by rw [List.getElem?_map, hx]; rfl))) (w := ?_)
                (repeat (first | (show W _ _ _ _ _ _ (.code (cond _ _ _) :: _) _ _; first | refine W.ct ?_ | refine W.cf ?_) | (show W _ _ _ _ _ _ (.ins (cond _ _ _ :: _) :: _) _ _; first | refine W.gt ?_ | refine W.gf ?_) | (show W _ _ _ _ _ _ [] _ _; refine W.of (.done ?_)) | (apply W.of; constructor <;> first | (show W _ _ _ _ _ _ _ _ _) | (intro (al : Nat) h st; show W _ _ _ _ _ _ _ _ _) | (intro _ h st; show W _ _ _ _ _ _ _ _ _) | exact Sd)))
                have st := St.vsRow (l := [.int .i64 x]) (e := 3) st Tk rfl
                (repeat (first | (show W _ _ _ _ _ _ (.code (cond _ _ _) :: _) _ _; first | refine W.ct ?_ | refine W.cf ?_) | (show W _ _ _ _ _ _ (.ins (cond _ _ _ :: _) :: _) _ _; first | refine W.gt ?_ | refine W.gf ?_) | (show W _ _ _ _ _ _ [] _ _; refine W.of (.done ?_)) | (apply W.of; constructor <;> first | (show W _ _ _ _ _ _ _ _ _) | (intro (al : Nat) h st; show W _ _ _ _ _ _ _ _ _) | (intro _ h st; show W _ _ _ _ _ _ _ _ _) | exact Sd))); refine W.ef (ho := (e_vsAppend (s := ov) (l' := [.int .i64 x]) st Tk Tk (by simp only [List.length_map, List.length_cons, List.length_nil] at hol ⊢; omega) (by simp only [List.length_map, List.length_cons, List.length_nil] at hol ⊢; omega))) (w := ?_); rintro vv h ⟨cj, cl, st⟩; refine nj ?_
                obtain ⟨o2, rfl⟩ : ∃ y, y = vv := ⟨_, rfl⟩
                rw [show ((usedP 0 (l.take j)).map (·.2)).map ikey ++ [.int .i64 x] = ((usedP 0 (l.take (j + 1))).map (·.2)).map ikey by rw [eo, List.map_append]; rfl] at st
                (repeat (first | (show W _ _ _ _ _ _ (.code (cond _ _ _) :: _) _ _; first | refine W.ct ?_ | refine W.cf ?_) | (show W _ _ _ _ _ _ (.ins (cond _ _ _ :: _) :: _) _ _; first | refine W.gt ?_ | refine W.gf ?_) | (show W _ _ _ _ _ _ [] _ _; refine W.of (.done ?_)) | (apply W.of; constructor <;> first | (show W _ _ _ _ _ _ _ _ _) | (intro (al : Nat) h st; show W _ _ _ _ _ _ _ _ _) | (intro _ h st; show W _ _ _ _ _ _ _ _ _) | exact Sd)))
                refine W.of (.lp ?_)
                exact ⟨⟨j + 1, o2⟩, by simp only; omega, hlt, Sbs, hrest (st.sel Sels)⟩
              · rw [if_neg hq, List.append_nil] at eo
                have hx0 : x = 0 := by omega
                rw [← eo] at st
                (repeat (first | (show W _ _ _ _ _ _ (.code (cond _ _ _) :: _) _ _; first | refine W.ct ?_ | refine W.cf ?_) | (show W _ _ _ _ _ _ (.ins (cond _ _ _ :: _) :: _) _ _; first | refine W.gt ?_ | refine W.gf ?_) | (show W _ _ _ _ _ _ [] _ _; refine W.of (.done ?_)) | (apply W.of; constructor <;> first | (show W _ _ _ _ _ _ _ _ _) | (intro (al : Nat) h st; show W _ _ _ _ _ _ _ _ _) | (intro _ h st; show W _ _ _ _ _ _ _ _ _) | exact Sd)))
                refine W.of (.lp ?_)
                exact ⟨⟨j + 1, ov⟩, by simp only; omega, hlt, Sbs, hrest (st.sel Sels)⟩
            · have e : n = j := by omega
              subst e
              rw [List.take_of_length_le (by omega)] at st ol
              have ec : coB O n l n = copyA O a (A : Int) ((A + n : Nat) : Int) := by
                rw [coB, copyA, ← hl, List.take_of_length_le (by omega), Nat.sub_self, show (((A + n : Nat) : Int) - (A : Int)).toNat = n by omega]; simp
              have eo : (usedP 0 l).map (·.2) = outC a (A : Int) ((A + n : Nat) : Int) := by rw [outC, ← hl]
              rw [ec, eo] at st
              rw [eo] at ol
              (repeat (first | (show W _ _ _ _ _ _ (.code (cond _ _ _) :: _) _ _; first | refine W.ct ?_ | refine W.cf ?_) | (show W _ _ _ _ _ _ (.ins (cond _ _ _ :: _) :: _) _ _; first | refine W.gt ?_ | refine W.gf ?_) | (show W _ _ _ _ _ _ [] _ _; refine W.of (.done ?_)) | (apply W.of; constructor <;> first | (show W _ _ _ _ _ _ _ _ _) | (intro (al : Nat) h st; show W _ _ _ _ _ _ _ _ _) | (intro _ h st; show W _ _ _ _ _ _ _ _ _) | exact Sd)))
              exact ⟨_, rfl, _, .inr ⟨a, ha, .inr (.inr ⟨hin, hc, O, ov, rfl, oj, ol, rfl⟩)⟩, st.sel Sels⟩
          · refine nj ?_
            dsimp only [List.cons_append, List.nil_append] at st
            (repeat (first | (show W _ _ _ _ _ _ (.code (cond _ _ _) :: _) _ _; first | refine W.ct ?_ | refine W.cf ?_) | (show W _ _ _ _ _ _ (.ins (cond _ _ _ :: _) :: _) _ _; first | refine W.gt ?_ | refine W.gf ?_) | (show W _ _ _ _ _ _ [] _ _; refine W.of (.done ?_)) | (apply W.of; constructor <;> first | (show W _ _ _ _ _ _ _ _ _) | (intro (al : Nat) h st; show W _ _ _ _ _ _ _ _ _) | (intro _ h st; show W _ _ _ _ _ _ _ _ _) | exact Sd)))
            exact ⟨_, rfl, _, .inr ⟨a, ha, .inr (.inl ⟨hin, hc, rfl, rfl⟩)⟩, st⟩
end Go.Proofs.Ytjdemlagmamlbaa

namespace Go.Proofs.Ytjdemlagmamlbaa
def shZ : Option AmV → Option (List Int × List Int)
  | some a => some (a.cs, a.an)
  | none => none
/-- the same, but for where they lie -/
def SameZ (zs ys : List (Option AmV)) : Prop := zs.map shZ = ys.map shZ
section
variable {zs ys : List (Option AmV)}
theorem SameZ.len (s : SameZ zs ys) : zs.length = ys.length := by
  have := congrArg List.length s
  simpa using this
theorem SameZ.get (s : SameZ zs ys) (i : Nat) : (zs[i]?).map shZ = (ys[i]?).map shZ := by
  have := congrArg (fun l => l[i]?) s
  simpa [List.getElem?_map] using this
theorem SameZ.at' (s : SameZ zs ys) (id : Int) : shZ (atZ zs id) = shZ (atZ ys id) := by
  have h1 := s.len
  have h2 := s.get (id - 1).toNat
  unfold atZ
  by_cases hc : 1 ≤ id ∧ id ≤ zs.length
  · rw [if_pos hc, if_pos (by omega)]
    cases h3 : zs[(id - 1).toNat]? with
    | none =>
      rw [h3] at h2
      cases h4 : ys[(id - 1).toNat]? with
      | none => rfl
      | some y => rw [h4] at h2; cases h2
    | some z =>
      rw [h3] at h2
      cases h4 : ys[(id - 1).toNat]? with
      | none => rw [h4] at h2; cases h2
      | some y =>
        rw [h4] at h2
        simpa using h2
  · rw [if_neg hc, if_neg (by omega)]
theorem SameZ.none (s : SameZ zs ys) {id : Int} (h : atZ zs id = none) : atZ ys id = none := by
  have := s.at' id
  rw [h] at this
  cases h2 : atZ ys id with
  | none => rfl
  | some b => rw [h2] at this; cases this
theorem SameZ.some (s : SameZ zs ys) {id : Int} {a : AmV} (h : atZ zs id = some a) : ∃ O, atZ ys id = some ⟨O, a.cs, a.an⟩ := by
  have := s.at' id
  rw [h] at this
  cases h2 : atZ ys id with
  | none => rw [h2] at this; cases this
  | some b =>
    rw [h2] at this
    simp only [shZ, Option.some.injEq, Prod.mk.injEq] at this
    exact ⟨b.O, by rw [this.1, this.2]⟩
theorem SameZ.slots (s : SameZ zs ys) {id : Int} : slotsZ zs id = slotsZ ys id := by
  unfold slotsZ
  cases h : atZ zs id with
  | none => rw [s.none h]
  | some a => obtain ⟨O, h2⟩ := s.some h; rw [h2]
theorem SameZ.cover (s : SameZ zs ys) {id x : Int} : coverZ zs id x = coverZ ys id x := by
  unfold coverZ
  cases h : atZ zs id with
  | none => rw [s.none h]
  | some a => obtain ⟨O, h2⟩ := s.some h; rw [h2]
theorem SameZ.getZ (s : SameZ zs ys) {id x : Int} : getZ zs id x = Go.Proofs.Ytjdemlagmamlbaa.getZ ys id x := by
  unfold Go.Proofs.Ytjdemlagmamlbaa.getZ
  cases h : atZ zs id with
  | none => rw [s.none h]
  | some a => obtain ⟨O, h2⟩ := s.some h; rw [h2]
theorem SameZ.used (s : SameZ zs ys) {id : Int} : usedZ zs id = usedZ ys id := by
  unfold usedZ
  cases h : atZ zs id with
  | none => rw [s.none h]
  | some a => obtain ⟨O, h2⟩ := s.some h; rw [h2]
theorem same_cons {z y : Option AmV} (h : SameZ (z :: zs) (y :: ys)) : shZ z = shZ y ∧ SameZ zs ys := by
  simpa [SameZ] using h
theorem same_first : ∀ {zs ys : List (Option AmV)}, SameZ zs ys → firstN zs = firstN ys
  | [], [], _ => rfl
  | [], y :: ys, h => by simp [SameZ] at h
  | z :: zs, [], h => by simp [SameZ] at h
  | z :: zs, y :: ys, h => by
    obtain ⟨h1, h2⟩ := same_cons h
    cases z <;> cases y <;> simp only [shZ] at h1
    · rfl
    · cases h1
    · cases h1
    · simp only [firstN, same_first h2]
theorem same_cnt : ∀ {zs ys : List (Option AmV)}, SameZ zs ys → cntZ zs = cntZ ys
  | [], [], _ => rfl
  | [], y :: ys, h => by simp [SameZ] at h
  | z :: zs, [], h => by simp [SameZ] at h
  | z :: zs, y :: ys, h => by
    obtain ⟨h1, h2⟩ := same_cons h
    have := same_cnt h2
    cases z <;> cases y <;> simp only [shZ] at h1
    · simpa [cntZ] using this
    · cases h1
    · cases h1
    · simpa [cntZ] using this
theorem same_ids : ∀ {zs ys : List (Option AmV)} {o : Int}, SameZ zs ys → idsZ o zs = idsZ o ys
  | [], [], _, _ => rfl
  | [], y :: ys, _, h => by simp [SameZ] at h
  | z :: zs, [], _, h => by simp [SameZ] at h
  | z :: zs, y :: ys, o, h => by
    obtain ⟨h1, h2⟩ := same_cons h
    cases z <;> cases y <;> simp only [shZ] at h1
    · simp only [idsZ, same_ids h2]
    · cases h1
    · cases h1
    · simp only [idsZ, same_ids h2]
theorem SameZ.setN (s : SameZ zs ys) {i : Nat} {z y : Option AmV} (h : shZ z = shZ y) : SameZ (zs.set i z) (ys.set i y) := by
  unfold SameZ at s ⊢
  rw [List.map_set, List.map_set, s, h]
theorem SameZ.put (s : SameZ zs ys) {a b : AmV} (h1 : a.cs = b.cs) (h2 : a.an = b.an) : SameZ (putZ zs a) (putZ ys b) := by
  have hs : shZ (Option.some a) = shZ (Option.some b) := by simp only [shZ, h1, h2]
  unfold putZ
  rw [same_first s, s.len]
  split
  · exact s.setN hs
  · unfold SameZ at s ⊢
    simp only [List.map_append, s, List.map_cons, List.map_nil, hs]
theorem SameZ.setZ (s : SameZ zs ys) {id x n : Int} : SameZ (setZ zs id x n) (Go.Proofs.Ytjdemlagmamlbaa.setZ ys id x n) := by
  unfold Go.Proofs.Ytjdemlagmamlbaa.setZ
  cases h : atZ zs id with
  | none => rw [s.none h]; exact s
  | some a =>
    obtain ⟨O, h2⟩ := s.some h
    rw [h2]
    exact s.setN rfl
theorem SameZ.hold (s : SameZ zs ys) {i : Nat} {a : AmV} {O : Nat} {lo hi : Int} : SameZ (zs.set i (Option.some (holdA a lo hi))) (ys.set i (Option.some (holdA ⟨O, a.cs, a.an⟩ lo hi))) := s.setN rfl
theorem SameZ.drop (s : SameZ zs ys) {i : Nat} {a : AmV} {O : Nat} {lo hi : Int} : SameZ (dropZ zs i a lo hi) (dropZ ys i ⟨O, a.cs, a.an⟩ lo hi) := by
  unfold dropZ
  refine s.setN ?_
  show shZ (if (addL 0 a.cs lo hi (-1)).sum = 0 then _ else _) = shZ (if (addL 0 a.cs lo hi (-1)).sum = 0 then _ else _)
  split <;> rfl
end
theorem holdOk_same {a : AmV} {O : Nat} {lo hi : Int} : HoldOk ⟨O, a.cs, a.an⟩ lo hi ↔ HoldOk a lo hi := ⟨fun h => ⟨h.l0, h.lt, h.h0, h.nz, h.add⟩, fun h => ⟨h.l0, h.lt, h.h0, h.nz, h.add⟩⟩
theorem dropOk_same {a : AmV} {O : Nat} {lo hi : Int} : DropOk ⟨O, a.cs, a.an⟩ lo hi ↔ DropOk a lo hi := ⟨fun h => ⟨h.l0, h.lt, h.h0, h.add⟩, fun h => ⟨h.l0, h.lt, h.h0, h.add⟩⟩
end Go.Proofs.Ytjdemlagmamlbaa

namespace Go.Proofs.Ytjdemlagmamlbaa
variable {P most : Nat} {zs : List (Option AmV)} {a : AmV} {id lo hi x m slot : Int}
theorem rp_Make_bad (hm : ¬ (1 ≤ m ∧ m ≤ 4096)) : Spec R (.f n_ref13_Pool_Make) [.ptr P 0, .int .i64 m] [RpC P most zs] fun v Rs => v = .tuple [.int .i64 0, .int .i64 2] ∧ Rs = [RpC P most zs] :=
  rp_Make.mono progI_mono fun v Rs h => by
    rcases h with ⟨_, h⟩ | ⟨h, _⟩ | ⟨h, _⟩
    · exact h
    · exact absurd h hm
    · exact absurd h hm
theorem rp_Make_full (hm : 1 ≤ m ∧ m ≤ 4096) (hc : most ≤ cntZ zs) : Spec R (.f n_ref13_Pool_Make) [.ptr P 0, .int .i64 m] [RpC P most zs] fun v Rs => v = .tuple [.int .i64 0, .int .i64 5] ∧ Rs = [RpC P most zs] :=
  rp_Make.mono progI_mono fun v Rs h => by
    rcases h with ⟨h, _⟩ | ⟨_, _, h⟩ | ⟨_, h, _⟩
    · exact absurd hm h
    · exact h
    · omega
theorem rp_Make_ok (hm : 1 ≤ m ∧ m ≤ 4096) (hc : cntZ zs < most) : Spec R (.f n_ref13_Pool_Make) [.ptr P 0, .int .i64 m] [RpC P most zs] fun v Rs => ∃ O, v = .tuple [.int .i64 ((firstN zs : Int) + 1), .int .i64 0] ∧ Rs = [RpC P most (putZ zs (newAm O m.toNat))] :=
  rp_Make.mono progI_mono fun v Rs h => by
    rcases h with ⟨h, _⟩ | ⟨_, h, _⟩ | ⟨_, _, h⟩
    · exact absurd hm h
    · omega
    · exact h
theorem rp_Set_none (ha : atZ zs id = none) : Spec R (.f n_ref13_Pool_Set) [.ptr P 0, .int .i64 id, .int .i64 slot, .int .i64 x] [RpC P most zs] fun v Rs => v = .tuple [.int .i64 0, .int .i64 7] ∧ Rs = [RpC P most zs] :=
  rp_Set.mono progI_mono fun v Rs h => by
    rcases h with ⟨_, h⟩ | ⟨b, h, _⟩ | ⟨b, h, _⟩
    · exact h
    · rw [ha] at h; cases h
    · rw [ha] at h; cases h
theorem rp_Set_bad (ha : atZ zs id = some a) (hc : coverZ zs id slot = 0 ∨ x < 0) : Spec R (.f n_ref13_Pool_Set) [.ptr P 0, .int .i64 id, .int .i64 slot, .int .i64 x] [RpC P most zs] fun v Rs => v = .tuple [.int .i64 0, .int .i64 2] ∧ Rs = [RpC P most zs] :=
  rp_Set.mono progI_mono fun v Rs h => by
    rcases h with ⟨h, _⟩ | ⟨b, _, _, h⟩ | ⟨b, _, h, _⟩
    · rw [ha] at h; cases h
    · exact h
    · exact absurd hc h
theorem rp_Set_ok (ha : atZ zs id = some a) (hc : ¬ (coverZ zs id slot = 0 ∨ x < 0)) : Spec R (.f n_ref13_Pool_Set) [.ptr P 0, .int .i64 id, .int .i64 slot, .int .i64 x] [RpC P most zs] fun v Rs => v = .tuple [.int .i64 (getZ zs id slot), .int .i64 0] ∧ Rs = [RpC P most (setZ zs id slot x)] :=
  rp_Set.mono progI_mono fun v Rs h => by
    rcases h with ⟨h, _⟩ | ⟨b, _, h, _⟩ | ⟨b, _, _, h⟩
    · rw [ha] at h; cases h
    · exact absurd h hc
    · exact h
theorem rp_Hold_none (ha : atZ zs id = none) : Spec R (.f n_ref13_Pool_Hold) [.ptr P 0, .int .i64 id, .int .i64 lo, .int .i64 hi] [RpC P most zs] fun v Rs => v = .int .i64 7 ∧ Rs = [RpC P most zs] :=
  rp_Hold.mono progI_mono fun v Rs h => by
    rcases h with ⟨_, h⟩ | ⟨b, h, _⟩
    · exact h
    · rw [ha] at h; cases h
theorem rp_Hold_ok (ha : atZ zs id = some a) (hh : HoldOk a lo hi) : Spec R (.f n_ref13_Pool_Hold) [.ptr P 0, .int .i64 id, .int .i64 lo, .int .i64 hi] [RpC P most zs] fun v Rs => v = .int .i64 0 ∧ Rs = [RpC P most (zs.set (id - 1).toNat (some (holdA a lo hi)))] :=
  rp_Hold.mono progI_mono fun v Rs h => by
    rcases h with ⟨h, _⟩ | ⟨b, hb, ⟨_, h⟩ | ⟨h, _⟩⟩
    · rw [ha] at h; cases h
    · rw [ha] at hb; cases hb; exact h
    · rw [ha] at hb; cases hb; exact absurd hh h
theorem rp_Hold_no (ha : atZ zs id = some a) (hh : ¬ HoldOk a lo hi) : Spec R (.f n_ref13_Pool_Hold) [.ptr P 0, .int .i64 id, .int .i64 lo, .int .i64 hi] [RpC P most zs] fun v Rs => v = .int .i64 2 ∧ Rs = [RpC P most zs] :=
  rp_Hold.mono progI_mono fun v Rs h => by
    rcases h with ⟨h, _⟩ | ⟨b, hb, ⟨h, _⟩ | ⟨_, h⟩⟩
    · rw [ha] at h; cases h
    · rw [ha] at hb; cases hb; exact absurd h hh
    · exact h
theorem rp_Drop_none (ha : atZ zs id = none) : Spec R (.f n_ref13_Pool_Drop) [.ptr P 0, .int .i64 id, .int .i64 lo, .int .i64 hi] [RpC P most zs] fun v Rs => v = .tuple [.nilsl, .int .i64 7] ∧ Rs = [RpC P most zs] :=
  rp_Drop.mono progI_mono fun v Rs h => by
    rcases h with ⟨_, h⟩ | ⟨b, h, _⟩
    · exact h
    · rw [ha] at h; cases h
theorem rp_Drop_ok (ha : atZ zs id = some a) (hh : DropOk a lo hi) : Spec R (.f n_ref13_Pool_Drop) [.ptr P 0, .int .i64 id, .int .i64 lo, .int .i64 hi] [RpC P most zs] fun v Rs =>
    ∃ ov, v = .tuple [ov, .int .i64 0] ∧ ov.notJunk = some ov ∧ sliceLen ov = some (outG a.an (goneA a lo hi)).length ∧ Rs = [VsC ov 3 ((outG a.an (goneA a lo hi)).map ikey) true, RpC P most (dropZ zs (id - 1).toNat a lo hi)] :=
  rp_Drop.mono progI_mono fun v Rs h => by
    rcases h with ⟨h, _⟩ | ⟨b, hb, ⟨_, h⟩ | ⟨h, _⟩⟩
    · rw [ha] at h; cases h
    · rw [ha] at hb; cases hb; exact h
    · rw [ha] at hb; cases hb; exact absurd hh h
theorem rp_Drop_no (ha : atZ zs id = some a) (hh : ¬ DropOk a lo hi) : Spec R (.f n_ref13_Pool_Drop) [.ptr P 0, .int .i64 id, .int .i64 lo, .int .i64 hi] [RpC P most zs] fun v Rs => v = .tuple [.nilsl, .int .i64 2] ∧ Rs = [RpC P most zs] :=
  rp_Drop.mono progI_mono fun v Rs h => by
    rcases h with ⟨h, _⟩ | ⟨b, hb, ⟨h, _⟩ | ⟨_, h⟩⟩
    · rw [ha] at h; cases h
    · rw [ha] at hb; cases hb; exact absurd h hh
    · exact h
theorem rp_Copy_none (ha : atZ zs id = none) : Spec R (.f n_ref13_Pool_Copy) [.ptr P 0, .int .i64 id, .int .i64 lo, .int .i64 hi] [RpC P most zs] fun v Rs => v = .tuple [.int .i64 0, .nilsl, .int .i64 7] ∧ Rs = [RpC P most zs] :=
  rp_Copy.mono progI_mono fun v Rs h => by
    rcases h with ⟨_, h⟩ | ⟨b, h, _⟩
    · exact h
    · rw [ha] at h; cases h
theorem rp_Copy_out (ha : atZ zs id = some a) (hw : ¬ inA a lo hi) : Spec R (.f n_ref13_Pool_Copy) [.ptr P 0, .int .i64 id, .int .i64 lo, .int .i64 hi] [RpC P most zs] fun v Rs => v = .tuple [.int .i64 0, .nilsl, .int .i64 2] ∧ Rs = [RpC P most zs] :=
  rp_Copy.mono progI_mono fun v Rs h => by
    rcases h with ⟨h, _⟩ | ⟨b, hb, ⟨_, h⟩ | ⟨h, _⟩ | ⟨h, _⟩⟩
    · rw [ha] at h; cases h
    · exact h
    · rw [ha] at hb; cases hb; exact absurd h hw
    · rw [ha] at hb; cases hb; exact absurd h hw
theorem rp_Copy_full (ha : atZ zs id = some a) (hw : inA a lo hi) (hc : most ≤ cntZ zs) : Spec R (.f n_ref13_Pool_Copy) [.ptr P 0, .int .i64 id, .int .i64 lo, .int .i64 hi] [RpC P most zs] fun v Rs => v = .tuple [.int .i64 0, .nilsl, .int .i64 5] ∧ Rs = [RpC P most zs] :=
  rp_Copy.mono progI_mono fun v Rs h => by
    rcases h with ⟨h, _⟩ | ⟨b, hb, ⟨h, _⟩ | ⟨_, _, h⟩ | ⟨_, h, _⟩⟩
    · rw [ha] at h; cases h
    · rw [ha] at hb; cases hb; exact absurd hw h
    · exact h
    · omega
theorem rp_Copy_ok (ha : atZ zs id = some a) (hw : inA a lo hi) (hc : cntZ zs < most) : Spec R (.f n_ref13_Pool_Copy) [.ptr P 0, .int .i64 id, .int .i64 lo, .int .i64 hi] [RpC P most zs] fun v Rs =>
    ∃ O ov, v = .tuple [.int .i64 ((firstN zs : Int) + 1), ov, .int .i64 0] ∧ ov.notJunk = some ov ∧ sliceLen ov = some (outC a lo hi).length ∧ Rs = [VsC ov 3 ((outC a lo hi).map ikey) true, RpC P most (putZ zs (copyA O a lo hi))] :=
  rp_Copy.mono progI_mono fun v Rs h => by
    rcases h with ⟨h, _⟩ | ⟨b, hb, ⟨h, _⟩ | ⟨_, h, _⟩ | ⟨_, _, h⟩⟩
    · rw [ha] at h; cases h
    · rw [ha] at hb; cases hb; exact absurd hw h
    · omega
    · rw [ha] at hb; cases hb; exact h
theorem fullU_no {look : Int} {acc : List Int} (h : look < 0 ∨ (acc.length : Int) < IntKind.i64.wrap (2 * look)) : ¬ fullU look acc := fun ⟨h1, h2⟩ => by omega
theorem fullU_yes {look : Int} {acc : List Int} (h1 : ¬ look < 0) (h2 : ¬ (acc.length : Int) < IntKind.i64.wrap (2 * look)) : fullU look acc := ⟨by omega, by omega⟩
theorem takeU_snoc_no {look : Int} {l : List Int} {j : Nat} {x : Int} (hx : l[j]? = some x) (h : ¬ x > 0 ∨ fullU look (takeU look [] (usedP 0 (l.take j)))) : takeU look [] (usedP 0 (l.take (j + 1))) = takeU look [] (usedP 0 (l.take j)) := by
  rw [take_snoc1 hx, usedP_snoc]
  split
  · rcases h with h | h
    · exact absurd ‹_› h
    · rw [takeU_append, takeU_full h]
  · rw [List.append_nil]
theorem takeU_snoc_yes {look : Int} {l : List Int} {j : Nat} {x : Int} (hx : l[j]? = some x) (hp : x > 0) (h : ¬ fullU look (takeU look [] (usedP 0 (l.take j)))) : takeU look [] (usedP 0 (l.take (j + 1))) = takeU look [] (usedP 0 (l.take j)) ++ [(j : Int), x] := by
  have hj := (List.getElem?_eq_some_iff.1 hx).1
  rw [take_snoc1 hx, usedP_snoc, if_pos hp, takeU_append, List.length_take, Nat.min_eq_left (by omega), Int.zero_add, takeU_one h]
/-- the state between two acts -/
structure AaS where
  i : Nat
  zs : List (Option AmV)
  ys : List (Option AmV)
abbrev aaE (P Q : Nat) (look : Int) (v : AV) (n i : Nat) : Env := [(2, .int .i64 look), (9, .ptr P 0), (10, .ptr Q 0), (73, v), (74, .int .i64 n), (75, .int .i64 i)]
abbrev aaG (P Q most : Nat) (v : AV) (acts : List AcP) (F : List Chunk) (zs ys : List (Option AmV)) : List Chunk := PoC P most zs :: RpC Q most ys :: AcPC v acts :: F
abbrev aaJ (P Q most : Nat) (look : Int) (v : AV) (acts : List AcP) (F : List Chunk) (i : Nat) : Env → AHeap → Prop := fun s' h' => ∃ z : AaS, acts.length - z.i < acts.length - i ∧ (z.i ≤ acts.length ∧ SameZ z.zs z.ys) ∧ Sub (aaE P Q look v acts.length z.i) s' ∧ St h' (aaG P Q most v acts F z.zs z.ys)
abbrev aaX : ACode := bB (sL (sR (sR c_law13_AmapActs_L1)))
abbrev aaT : ACode := sR (sR (sR aaX))
abbrev aaK (P Q most : Nat) (look : Int) (v : AV) (acts : List AcP) (F : List Chunk) (i : Nat) (k : List KI) : List KI :=
  .blk 3 :: .code (sR (sR (sR c_law13_AmapActs_L1))) :: .lp (aaJ P Q most look v acts F i) :: k
end Go.Proofs.Ytjdemlagmamlbaa

namespace Go.Proofs.Ytjdemlagmamlbaa
set_option maxRecDepth 8000 in
theorem aa_want {P Q most B i : Nat} {look : Int} {v : AV} {acts : List AcP} {Fr : List Chunk} {ys : List (Option AmV)} {x : AcP} {h : AHeap} {k : List KI} {Z : AExit → Env → AHeap → Prop}
    (st : St h (RpC Q most ys :: Fr))
    (w : ∀ wv s h, Sub ((32, wv) :: (13, .bool true) :: (12, .ptr B 0) :: aaE P Q look v acts.length i) s → St h (VsC wv 3 ((takeU look [] (usedZ ys x.id)).map ikey) true :: RpC Q most ys :: Fr) → W over tab none c_law13_AmapActs.ntmps Z .normal k s h) :
    W over tab none c_law13_AmapActs.ntmps Z .normal (.ins [I 230 (.callv) [F n_ref13_Pool_Of, T 227, T 229], I 33 (.mv) [T 230]] :: .code (sR (sL (sR aaT))) :: k)
      ((227, .ptr Q 0) :: (229, .int .i64 x.id) :: (32, .nilsl) :: (13, .bool true) :: (12, .ptr B 0) :: aaE P Q look v acts.length i) h := by
  have znj := zptr_nj (atZ ys x.id)
  have zok := zptr_ok (atZ ys x.id)
  (repeat (first | (show W _ _ _ _ _ _ (.code (cond _ _ _) :: _) _ _; first | refine W.ct ?_ | refine W.cf ?_) | (show W _ _ _ _ _ _ (.ins (cond _ _ _ :: _) :: _) _ _; first | refine W.gt ?_ | refine W.gf ?_) | (show W _ _ _ _ _ _ [] _ _; refine W.of (.done ?_)) | (apply W.of; constructor <;> first | (show W _ _ _ _ _ _ _ _ _) | (intro (al : Nat) h st; show W _ _ _ _ _ _ _ _ _) | (intro _ h st; show W _ _ _ _ _ _ _ _ _) | exact Sd))); refine W.call (hs := rp_of) (w := ?_); rintro vv _ ⟨rfl, rfl⟩ h st; refine nj ?_; dsimp only [List.cons_append, List.nil_append] at st
  unfold usedZ at w
  cases ha : atZ ys x.id with
  | none =>
    rw [ha] at w
    dsimp only [zptr] at w ⊢
    (repeat (first | (show W _ _ _ _ _ _ (.code (cond _ _ _) :: _) _ _; first | refine W.ct ?_ | refine W.cf ?_) | (show W _ _ _ _ _ _ (.ins (cond _ _ _ :: _) :: _) _ _; first | refine W.gt ?_ | refine W.gf ?_) | (show W _ _ _ _ _ _ [] _ _; refine W.of (.done ?_)) | (apply W.of; constructor <;> first | (show W _ _ _ _ _ _ _ _ _) | (intro (al : Nat) h st; show W _ _ _ _ _ _ _ _ _) | (intro _ h st; show W _ _ _ _ _ _ _ _ _) | exact Sd)))
    have st := st.vsNil 3 true
    exact w .nilsl _ _ Sbs (st.sel Sels)
  | some a =>
    rw [ha] at w
    dsimp only [zptr] at w ⊢
    obtain ⟨_, _, hz⟩ := atZ_some ha
    have st := st.rpOut Tk hz
    have hok := st.ra Tk
    have hlen := hok.len
    have hn4 := hok.n4
    obtain ⟨_, ⟨D, u, rfl, _⟩, st⟩ := St.unpack st; dsimp only [List.cons_append, List.nil_append] at st
    obtain ⟨ul, uj, us⟩ := St.ivs (v := u) (cs := a.an) st Tk
    (repeat (first | (show W _ _ _ _ _ _ (.code (cond _ _ _) :: _) _ _; first | refine W.ct ?_ | refine W.cf ?_) | (show W _ _ _ _ _ _ (.ins (cond _ _ _ :: _) :: _) _ _; first | refine W.gt ?_ | refine W.gf ?_) | (show W _ _ _ _ _ _ [] _ _; refine W.of (.done ?_)) | (apply W.of; constructor <;> first | (show W _ _ _ _ _ _ _ _ _) | (intro (al : Nat) h st; show W _ _ _ _ _ _ _ _ _) | (intro _ h st; show W _ _ _ _ _ _ _ _ _) | exact Sd)))
    refine W.loop (fun y : RcoS => [(236, u), (237, .int .i64 a.an.length), (238, .int .i64 y.j), (32, y.ov), (13, .bool true), (12, .ptr B 0), (2, .int .i64 look), (9, .ptr P 0), (10, .ptr Q 0), (73, v), (74, .int .i64 acts.length), (75, .int .i64 i)])
      (fun y => VsC y.ov 3 ((takeU look [] (usedP 0 (a.an.take y.j))).map ikey) true :: .pt a.O (raRow D u) :: RcC D a.cs :: VsC u 3 (a.an.map ikey) true :: RpXC Q most ys (x.id - 1).toNat :: Fr)
      (fun y => y.j ≤ a.an.length) (fun y => a.an.length - y.j) ⟨0, .nilsl⟩ (small_rounds (by simp only; omega)) Sbs ?_ (Nat.zero_le _) ?_
    · have st := st.vsNil 3 true
      exact st.sel Sels
    clear st
    intro ⟨j, wv⟩ h hj st
    dsimp only at hj st ⊢
    obtain ⟨wl, wj, ws⟩ := St.ivs (v := wv) (cs := takeU look [] (usedP 0 (a.an.take j))) st Tk
    obtain ⟨acc, hacc⟩ : ∃ acc, acc = takeU look [] (usedP 0 (a.an.take j)) := ⟨_, rfl⟩
    have hal : acc.length ≤ 10000 := by
      rw [hacc]
      have h1 := takeU_len (look := look) (l := usedP 0 (a.an.take j)) (acc := [])
      have h2 := usedP_len (an := a.an.take j) (o := 0)
      rw [List.length_take] at h2
      simp only [List.length_nil] at h1
      omega
    rw [← hacc] at wl
    by_cases hlt : j < a.an.length
    · obtain ⟨z, hz'⟩ : ∃ z, a.an[j]? = some z := ⟨a.an[j], by simp [hlt]⟩
      have hz0 := hok.pos z (List.mem_of_getElem? hz')
      obtain ⟨gp, gq⟩ := d_vsIdx (v := u) (l := a.an.map ikey) (i := j) (kk := .i64) st Tk (by rw [List.length_map]; omega)
      (repeat (first | (show W _ _ _ _ _ _ (.code (cond _ _ _) :: _) _ _; first | refine W.ct ?_ | refine W.cf ?_) | (show W _ _ _ _ _ _ (.ins (cond _ _ _ :: _) :: _) _ _; first | refine W.gt ?_ | refine W.gf ?_) | (show W _ _ _ _ _ _ [] _ _; refine W.of (.done ?_)) | (apply W.of; constructor <;> first | (show W _ _ _ _ _ _ _ _ _) | (intro (al : Nat) h st; show W _ _ _ _ _ _ _ _ _) | (intro _ h st; show W _ _ _ _ _ _ _ _ _) | exact Sd))); refine W.do (ho := gp) (w := ?_)
      (repeat (first | (show W _ _ _ _ _ _ (.code (cond _ _ _) :: _) _ _; first | refine W.ct ?_ | refine W.cf ?_) | (show W _ _ _ _ _ _ (.ins (cond _ _ _ :: _) :: _) _ _; first | refine W.gt ?_ | refine W.gf ?_) | (show W _ _ _ _ _ _ [] _ _; refine W.of (.done ?_)) | (apply W.of; constructor <;> first | (show W _ _ _ _ _ _ _ _ _) | (intro (al : Nat) h st; show W _ _ _ _ _ _ _ _ _) | (intro _ h st; show W _ _ _ _ _ _ _ _ _) | exact Sd))); refine W.do (ho := (d_vsLoad (v := u) (l := a.an.map ikey) (x := ikey z) st Tk (by rw [List.getElem?_map, hz']; rfl))) (w := ?_)
      by_cases hp : z > 0
      · by_cases hl0 : look < 0
        · have hnf : ¬ fullU look (takeU look [] (usedP 0 (a.an.take j))) := fullU_no (.inl hl0)
          have es := takeU_snoc_yes hz' hp hnf
          (repeat (first | (show W _ _ _ _ _ _ (.code (cond _ _ _) :: _) _ _; first | refine W.ct ?_ | refine W.cf ?_) | (show W _ _ _ _ _ _ (.ins (cond _ _ _ :: _) :: _) _ _; first | refine W.gt ?_ | refine W.gf ?_) | (show W _ _ _ _ _ _ [] _ _; refine W.of (.done ?_)) | (apply W.of; constructor <;> first | (show W _ _ _ _ _ _ _ _ _) | (intro (al : Nat) h st; show W _ _ _ _ _ _ _ _ _) | (intro _ h st; show W _ _ _ _ _ _ _ _ _) | exact Sd)))
          have st := St.vsRow (l := [.int .i64 j, .int .i64 z]) (e := 3) st Tk rfl
          (repeat (first | (show W _ _ _ _ _ _ (.code (cond _ _ _) :: _) _ _; first | refine W.ct ?_ | refine W.cf ?_) | (show W _ _ _ _ _ _ (.ins (cond _ _ _ :: _) :: _) _ _; first | refine W.gt ?_ | refine W.gf ?_) | (show W _ _ _ _ _ _ [] _ _; refine W.of (.done ?_)) | (apply W.of; constructor <;> first | (show W _ _ _ _ _ _ _ _ _) | (intro (al : Nat) h st; show W _ _ _ _ _ _ _ _ _) | (intro _ h st; show W _ _ _ _ _ _ _ _ _) | exact Sd))); refine W.ef (ho := (e_vsAppend (s := wv) (l' := [.int .i64 j, .int .i64 z]) st Tk Tk (by rw [List.length_map, ← hacc]; simp; omega) (by rw [List.length_map, ← hacc]; simp; omega))) (w := ?_); rintro vv h ⟨cj, cl, st⟩; refine nj ?_
          obtain ⟨o2, rfl⟩ : ∃ y, y = vv := ⟨_, rfl⟩
          rw [show (takeU look [] (usedP 0 (a.an.take j))).map ikey ++ [.int .i64 j, .int .i64 z] = (takeU look [] (usedP 0 (a.an.take (j + 1)))).map ikey by rw [es, List.map_append]; rfl] at st
          (repeat (first | (show W _ _ _ _ _ _ (.code (cond _ _ _) :: _) _ _; first | refine W.ct ?_ | refine W.cf ?_) | (show W _ _ _ _ _ _ (.ins (cond _ _ _ :: _) :: _) _ _; first | refine W.gt ?_ | refine W.gf ?_) | (show W _ _ _ _ _ _ [] _ _; refine W.of (.done ?_)) | (apply W.of; constructor <;> first | (show W _ _ _ _ _ _ _ _ _) | (intro (al : Nat) h st; show W _ _ _ _ _ _ _ _ _) | (intro _ h st; show W _ _ _ _ _ _ _ _ _) | exact Sd)))
          refine W.of (.lp ?_)
          exact ⟨⟨j + 1, o2⟩, by simp only; omega, hlt, Sbs, st.sel Sels⟩
        · by_cases hf : (acc.length : Int) < IntKind.i64.wrap (2 * look)
          · have hnf : ¬ fullU look (takeU look [] (usedP 0 (a.an.take j))) := fullU_no (.inr (by rw [← hacc]; exact hf))
            have es := takeU_snoc_yes hz' hp hnf
            (repeat (first | (show W _ _ _ _ _ _ (.code (cond _ _ _) :: _) _ _; first | refine W.ct ?_ | refine W.cf ?_) | (show W _ _ _ _ _ _ (.ins (cond _ _ _ :: _) :: _) _ _; first | refine W.gt ?_ | refine W.gf ?_) | (show W _ _ _ _ _ _ [] _ _; refine W.of (.done ?_)) | (apply W.of; constructor <;> first | (show W _ _ _ _ _ _ _ _ _) | (intro (al : Nat) h st; show W _ _ _ _ _ _ _ _ _) | (intro _ h st; show W _ _ _ _ _ _ _ _ _) | exact Sd)))
            have st := St.vsRow (l := [.int .i64 j, .int .i64 z]) (e := 3) st Tk rfl
            (repeat (first | (show W _ _ _ _ _ _ (.code (cond _ _ _) :: _) _ _; first | refine W.ct ?_ | refine W.cf ?_) | (show W _ _ _ _ _ _ (.ins (cond _ _ _ :: _) :: _) _ _; first | refine W.gt ?_ | refine W.gf ?_) | (show W _ _ _ _ _ _ [] _ _; refine W.of (.done ?_)) | (apply W.of; constructor <;> first | (show W _ _ _ _ _ _ _ _ _) | (intro (al : Nat) h st; show W _ _ _ _ _ _ _ _ _) | (intro _ h st; show W _ _ _ _ _ _ _ _ _) | exact Sd))); refine W.ef (ho := (e_vsAppend (s := wv) (l' := [.int .i64 j, .int .i64 z]) st Tk Tk (by rw [List.length_map, ← hacc]; simp; omega) (by rw [List.length_map, ← hacc]; simp; omega))) (w := ?_); rintro vv h ⟨cj, cl, st⟩; refine nj ?_
            obtain ⟨o2, rfl⟩ : ∃ y, y = vv := ⟨_, rfl⟩
            rw [show (takeU look [] (usedP 0 (a.an.take j))).map ikey ++ [.int .i64 j, .int .i64 z] = (takeU look [] (usedP 0 (a.an.take (j + 1)))).map ikey by rw [es, List.map_append]; rfl] at st
            (repeat (first | (show W _ _ _ _ _ _ (.code (cond _ _ _) :: _) _ _; first | refine W.ct ?_ | refine W.cf ?_) | (show W _ _ _ _ _ _ (.ins (cond _ _ _ :: _) :: _) _ _; first | refine W.gt ?_ | refine W.gf ?_) | (show W _ _ _ _ _ _ [] _ _; refine W.of (.done ?_)) | (apply W.of; constructor <;> first | (show W _ _ _ _ _ _ _ _ _) | (intro (al : Nat) h st; show W _ _ _ _ _ _ _ _ _) | (intro _ h st; show W _ _ _ _ _ _ _ _ _) | exact Sd)))
            refine W.of (.lp ?_)
            exact ⟨⟨j + 1, o2⟩, by simp only; omega, hlt, Sbs, st.sel Sels⟩
          · have hnf : fullU look (takeU look [] (usedP 0 (a.an.take j))) := fullU_yes hl0 (by rw [← hacc]; exact hf)
            have es := takeU_snoc_no hz' (.inr hnf)
            rw [← es] at st
            (repeat (first | (show W _ _ _ _ _ _ (.code (cond _ _ _) :: _) _ _; first | refine W.ct ?_ | refine W.cf ?_) | (show W _ _ _ _ _ _ (.ins (cond _ _ _ :: _) :: _) _ _; first | refine W.gt ?_ | refine W.gf ?_) | (show W _ _ _ _ _ _ [] _ _; refine W.of (.done ?_)) | (apply W.of; constructor <;> first | (show W _ _ _ _ _ _ _ _ _) | (intro (al : Nat) h st; show W _ _ _ _ _ _ _ _ _) | (intro _ h st; show W _ _ _ _ _ _ _ _ _) | exact Sd)))
            refine W.of (.lp ?_)
            exact ⟨⟨j + 1, wv⟩, by simp only; omega, hlt, Sbs, st.sel Sels⟩
      · have es := takeU_snoc_no (look := look) hz' (.inl hp)
        rw [← es] at st
        have hz00 : z = 0 := by omega
        (repeat (first | (show W _ _ _ _ _ _ (.code (cond _ _ _) :: _) _ _; first | refine W.ct ?_ | refine W.cf ?_) | (show W _ _ _ _ _ _ (.ins (cond _ _ _ :: _) :: _) _ _; first | refine W.gt ?_ | refine W.gf ?_) | (show W _ _ _ _ _ _ [] _ _; refine W.of (.done ?_)) | (apply W.of; constructor <;> first | (show W _ _ _ _ _ _ _ _ _) | (intro (al : Nat) h st; show W _ _ _ _ _ _ _ _ _) | (intro _ h st; show W _ _ _ _ _ _ _ _ _) | exact Sd)))
        refine W.of (.lp ?_)
        exact ⟨⟨j + 1, wv⟩, by simp only; omega, hlt, Sbs, st.sel Sels⟩
    · obtain rfl : a.an.length = j := by omega
      rw [List.take_length] at st
      (repeat (first | (show W _ _ _ _ _ _ (.code (cond _ _ _) :: _) _ _; first | refine W.ct ?_ | refine W.cf ?_) | (show W _ _ _ _ _ _ (.ins (cond _ _ _ :: _) :: _) _ _; first | refine W.gt ?_ | refine W.gf ?_) | (show W _ _ _ _ _ _ [] _ _; refine W.of (.done ?_)) | (apply W.of; constructor <;> first | (show W _ _ _ _ _ _ _ _ _) | (intro (al : Nat) h st; show W _ _ _ _ _ _ _ _ _) | (intro _ h st; show W _ _ _ _ _ _ _ _ _) | exact Sd)))
      have st := St.packP (t := 50) (k := .ptr a.O 0) (P := RaIs a) (cs := [.pt a.O (raRow D u), RcC D a.cs, VsC u 3 (a.an.map ikey) true]) st ⟨D, u, rfl, hok⟩ Pks
      have st := st.rpBack hz Tk Tk
      exact w wv _ _ Sbs (st.sel Sels)
set_option maxRecDepth 8000 in
theorem aa_look {P Q most B i : Nat} {look : Int} {v wv : AV} {acts : List AcP} {Fr : List Chunk} {zs ys : List (Option AmV)} {x : AcP} {h : AHeap} {k : List KI} {Z : AExit → Env → AHeap → Prop} (hlt : i < acts.length) (h80 : acts.length ≤ 80) (s : SameZ zs ys)
    (st : St h (PoC P most zs :: RpC Q most ys :: VsC wv 3 ((takeU look [] (usedZ ys x.id)).map ikey) true :: .pt B (acRow x) :: AcPC v acts :: Fr)) :
    W over tab none c_law13_AmapActs.ntmps Z .normal (.code (sR (sR aaT)) :: aaK P Q most look v acts Fr i k) ((32, wv) :: (13, .bool true) :: (12, .ptr B 0) :: aaE P Q look v acts.length i) h := by
  have hpo := st.po Tk
  have hm := hpo.m
  have hc := hpo.c
  have hul := usedZ_len (st.poAt Tk (id := x.id))
  have e1 : slotsZ ys x.id = slotsZ zs x.id := s.slots.symm
  have e2 : coverZ ys x.id x.lo = coverZ zs x.id x.lo := s.cover.symm
  have e3 : getZ ys x.id x.lo = getZ zs x.id x.lo := s.getZ.symm
  have e4 : idsZ 1 ys = idsZ 1 zs := (same_ids s).symm
  have e5 : usedZ ys x.id = usedZ zs x.id := s.used.symm
  obtain ⟨wl, wj, ws⟩ := St.ivs (v := wv) (cs := takeU look [] (usedZ ys x.id)) st Tk
  (repeat (first | (show W _ _ _ _ _ _ (.code (cond _ _ _) :: _) _ _; first | refine W.ct ?_ | refine W.cf ?_) | (show W _ _ _ _ _ _ (.ins (cond _ _ _ :: _) :: _) _ _; first | refine W.gt ?_ | refine W.gf ?_) | (show W _ _ _ _ _ _ [] _ _; refine W.of (.done ?_)) | (apply W.of; constructor <;> first | (show W _ _ _ _ _ _ _ _ _) | (intro (al : Nat) h st; show W _ _ _ _ _ _ _ _ _) | (intro _ h st; show W _ _ _ _ _ _ _ _ _) | exact Sd))); refine W.call (hs := (po_Slots (P := P))) (w := ?_); rintro vv _ ⟨rfl, rfl⟩ h st; refine nj ?_; dsimp only [List.cons_append, List.nil_append] at st
  (repeat (first | (show W _ _ _ _ _ _ (.code (cond _ _ _) :: _) _ _; first | refine W.ct ?_ | refine W.cf ?_) | (show W _ _ _ _ _ _ (.ins (cond _ _ _ :: _) :: _) _ _; first | refine W.gt ?_ | refine W.gf ?_) | (show W _ _ _ _ _ _ [] _ _; refine W.of (.done ?_)) | (apply W.of; constructor <;> first | (show W _ _ _ _ _ _ _ _ _) | (intro (al : Nat) h st; show W _ _ _ _ _ _ _ _ _) | (intro _ h st; show W _ _ _ _ _ _ _ _ _) | exact Sd))); refine W.call (hs := (rp_Slots (P := Q))) (w := ?_); rintro vv _ ⟨rfl, rfl⟩ h st; refine nj ?_; dsimp only [List.cons_append, List.nil_append] at st
  rw [e1]
  (repeat (first | (show W _ _ _ _ _ _ (.code (cond _ _ _) :: _) _ _; first | refine W.ct ?_ | refine W.cf ?_) | (show W _ _ _ _ _ _ (.ins (cond _ _ _ :: _) :: _) _ _; first | refine W.gt ?_ | refine W.gf ?_) | (show W _ _ _ _ _ _ [] _ _; refine W.of (.done ?_)) | (apply W.of; constructor <;> first | (show W _ _ _ _ _ _ _ _ _) | (intro (al : Nat) h st; show W _ _ _ _ _ _ _ _ _) | (intro _ h st; show W _ _ _ _ _ _ _ _ _) | exact Sd)))
  rw [neqS]
  (repeat (first | (show W _ _ _ _ _ _ (.code (cond _ _ _) :: _) _ _; first | refine W.ct ?_ | refine W.cf ?_) | (show W _ _ _ _ _ _ (.ins (cond _ _ _ :: _) :: _) _ _; first | refine W.gt ?_ | refine W.gf ?_) | (show W _ _ _ _ _ _ [] _ _; refine W.of (.done ?_)) | (apply W.of; constructor <;> first | (show W _ _ _ _ _ _ _ _ _) | (intro (al : Nat) h st; show W _ _ _ _ _ _ _ _ _) | (intro _ h st; show W _ _ _ _ _ _ _ _ _) | exact Sd))); refine W.call (hs := (po_Cover (P := P))) (w := ?_); rintro vv _ ⟨rfl, rfl⟩ h st; refine nj ?_; dsimp only [List.cons_append, List.nil_append] at st
  (repeat (first | (show W _ _ _ _ _ _ (.code (cond _ _ _) :: _) _ _; first | refine W.ct ?_ | refine W.cf ?_) | (show W _ _ _ _ _ _ (.ins (cond _ _ _ :: _) :: _) _ _; first | refine W.gt ?_ | refine W.gf ?_) | (show W _ _ _ _ _ _ [] _ _; refine W.of (.done ?_)) | (apply W.of; constructor <;> first | (show W _ _ _ _ _ _ _ _ _) | (intro (al : Nat) h st; show W _ _ _ _ _ _ _ _ _) | (intro _ h st; show W _ _ _ _ _ _ _ _ _) | exact Sd))); refine W.call (hs := (rp_Cover (P := Q))) (w := ?_); rintro vv _ ⟨rfl, rfl⟩ h st; refine nj ?_; dsimp only [List.cons_append, List.nil_append] at st
  rw [e2]
  (repeat (first | (show W _ _ _ _ _ _ (.code (cond _ _ _) :: _) _ _; first | refine W.ct ?_ | refine W.cf ?_) | (show W _ _ _ _ _ _ (.ins (cond _ _ _ :: _) :: _) _ _; first | refine W.gt ?_ | refine W.gf ?_) | (show W _ _ _ _ _ _ [] _ _; refine W.of (.done ?_)) | (apply W.of; constructor <;> first | (show W _ _ _ _ _ _ _ _ _) | (intro (al : Nat) h st; show W _ _ _ _ _ _ _ _ _) | (intro _ h st; show W _ _ _ _ _ _ _ _ _) | exact Sd)))
  rw [neqS]
  (repeat (first | (show W _ _ _ _ _ _ (.code (cond _ _ _) :: _) _ _; first | refine W.ct ?_ | refine W.cf ?_) | (show W _ _ _ _ _ _ (.ins (cond _ _ _ :: _) :: _) _ _; first | refine W.gt ?_ | refine W.gf ?_) | (show W _ _ _ _ _ _ [] _ _; refine W.of (.done ?_)) | (apply W.of; constructor <;> first | (show W _ _ _ _ _ _ _ _ _) | (intro (al : Nat) h st; show W _ _ _ _ _ _ _ _ _) | (intro _ h st; show W _ _ _ _ _ _ _ _ _) | exact Sd))); refine W.call (hs := (po_Get (P := P))) (w := ?_); rintro vv _ ⟨rfl, rfl⟩ h st; refine nj ?_; dsimp only [List.cons_append, List.nil_append] at st
  (repeat (first | (show W _ _ _ _ _ _ (.code (cond _ _ _) :: _) _ _; first | refine W.ct ?_ | refine W.cf ?_) | (show W _ _ _ _ _ _ (.ins (cond _ _ _ :: _) :: _) _ _; first | refine W.gt ?_ | refine W.gf ?_) | (show W _ _ _ _ _ _ [] _ _; refine W.of (.done ?_)) | (apply W.of; constructor <;> first | (show W _ _ _ _ _ _ _ _ _) | (intro (al : Nat) h st; show W _ _ _ _ _ _ _ _ _) | (intro _ h st; show W _ _ _ _ _ _ _ _ _) | exact Sd))); refine W.call (hs := (rp_Get (P := Q))) (w := ?_); rintro vv _ ⟨rfl, rfl⟩ h st; refine nj ?_; dsimp only [List.cons_append, List.nil_append] at st
  rw [e3]
  (repeat (first | (show W _ _ _ _ _ _ (.code (cond _ _ _) :: _) _ _; first | refine W.ct ?_ | refine W.cf ?_) | (show W _ _ _ _ _ _ (.ins (cond _ _ _ :: _) :: _) _ _; first | refine W.gt ?_ | refine W.gf ?_) | (show W _ _ _ _ _ _ [] _ _; refine W.of (.done ?_)) | (apply W.of; constructor <;> first | (show W _ _ _ _ _ _ _ _ _) | (intro (al : Nat) h st; show W _ _ _ _ _ _ _ _ _) | (intro _ h st; show W _ _ _ _ _ _ _ _ _) | exact Sd)))
  rw [neqS]
  (repeat (first | (show W _ _ _ _ _ _ (.code (cond _ _ _) :: _) _ _; first | refine W.ct ?_ | refine W.cf ?_) | (show W _ _ _ _ _ _ (.ins (cond _ _ _ :: _) :: _) _ _; first | refine W.gt ?_ | refine W.gf ?_) | (show W _ _ _ _ _ _ [] _ _; refine W.of (.done ?_)) | (apply W.of; constructor <;> first | (show W _ _ _ _ _ _ _ _ _) | (intro (al : Nat) h st; show W _ _ _ _ _ _ _ _ _) | (intro _ h st; show W _ _ _ _ _ _ _ _ _) | exact Sd))); refine W.call (hs := (po_Ids (P := P))) (w := ?_); rintro vv _ ⟨aj, al, rfl⟩ h st; refine nj ?_; dsimp only [List.cons_append, List.nil_append] at st
  obtain ⟨av, rfl⟩ : ∃ y, y = vv := ⟨_, rfl⟩
  (repeat (first | (show W _ _ _ _ _ _ (.code (cond _ _ _) :: _) _ _; first | refine W.ct ?_ | refine W.cf ?_) | (show W _ _ _ _ _ _ (.ins (cond _ _ _ :: _) :: _) _ _; first | refine W.gt ?_ | refine W.gf ?_) | (show W _ _ _ _ _ _ [] _ _; refine W.of (.done ?_)) | (apply W.of; constructor <;> first | (show W _ _ _ _ _ _ _ _ _) | (intro (al : Nat) h st; show W _ _ _ _ _ _ _ _ _) | (intro _ h st; show W _ _ _ _ _ _ _ _ _) | exact Sd))); refine W.call (hs := (rp_Ids (P := Q))) (w := ?_); rintro vv _ ⟨bj, bl, rfl⟩ h st; refine nj ?_; dsimp only [List.cons_append, List.nil_append] at st
  obtain ⟨bv, rfl⟩ : ∃ y, y = vv := ⟨_, rfl⟩
  rw [e4] at st
  have hil : (idsZ 1 zs).length ≤ 100000 := by rw [idsZ_len]; omega
  (repeat (first | (show W _ _ _ _ _ _ (.code (cond _ _ _) :: _) _ _; first | refine W.ct ?_ | refine W.cf ?_) | (show W _ _ _ _ _ _ (.ins (cond _ _ _ :: _) :: _) _ _; first | refine W.gt ?_ | refine W.gf ?_) | (show W _ _ _ _ _ _ [] _ _; refine W.of (.done ?_)) | (apply W.of; constructor <;> first | (show W _ _ _ _ _ _ _ _ _) | (intro (al : Nat) h st; show W _ _ _ _ _ _ _ _ _) | (intro _ h st; show W _ _ _ _ _ _ _ _ _) | exact Sd))); refine W.call (hs := (ref01_Ints (a := av) (b := bv) (l := idsZ 1 zs) (l' := idsZ 1 zs) hil)) (w := ?_); rintro vv _ ⟨rfl, rfl⟩ h st; refine nj ?_; dsimp only [List.cons_append, List.nil_append] at st
  rw [decide_eq_true rfl]
  (repeat (first | (show W _ _ _ _ _ _ (.code (cond _ _ _) :: _) _ _; first | refine W.ct ?_ | refine W.cf ?_) | (show W _ _ _ _ _ _ (.ins (cond _ _ _ :: _) :: _) _ _; first | refine W.gt ?_ | refine W.gf ?_) | (show W _ _ _ _ _ _ [] _ _; refine W.of (.done ?_)) | (apply W.of; constructor <;> first | (show W _ _ _ _ _ _ _ _ _) | (intro (al : Nat) h st; show W _ _ _ _ _ _ _ _ _) | (intro _ h st; show W _ _ _ _ _ _ _ _ _) | exact Sd))); refine W.call (hs := (law13_used (P := P) (zs := zs) (id := x.id) (look := look))) (w := ?_); rintro vv _ ⟨cj, cl, rfl⟩ h st; refine nj ?_; dsimp only [List.cons_append, List.nil_append] at st
  obtain ⟨cv, rfl⟩ : ∃ y, y = vv := ⟨_, rfl⟩
  rw [e5] at st
  have htl : (takeU look [] (usedZ zs x.id)).length ≤ 100000 := by
    have := takeU_len (look := look) (l := usedZ zs x.id) (acc := [])
    simp only [List.length_nil] at this
    omega
  (repeat (first | (show W _ _ _ _ _ _ (.code (cond _ _ _) :: _) _ _; first | refine W.ct ?_ | refine W.cf ?_) | (show W _ _ _ _ _ _ (.ins (cond _ _ _ :: _) :: _) _ _; first | refine W.gt ?_ | refine W.gf ?_) | (show W _ _ _ _ _ _ [] _ _; refine W.of (.done ?_)) | (apply W.of; constructor <;> first | (show W _ _ _ _ _ _ _ _ _) | (intro (al : Nat) h st; show W _ _ _ _ _ _ _ _ _) | (intro _ h st; show W _ _ _ _ _ _ _ _ _) | exact Sd))); refine W.call (hs := (ref01_Ints (a := cv) (b := wv) (l := takeU look [] (usedZ zs x.id)) (l' := takeU look [] (usedZ zs x.id)) htl)) (w := ?_); rintro vv _ ⟨rfl, rfl⟩ h st; refine nj ?_; dsimp only [List.cons_append, List.nil_append] at st
  rw [decide_eq_true rfl]
  (repeat (first | (show W _ _ _ _ _ _ (.code (cond _ _ _) :: _) _ _; first | refine W.ct ?_ | refine W.cf ?_) | (show W _ _ _ _ _ _ (.ins (cond _ _ _ :: _) :: _) _ _; first | refine W.gt ?_ | refine W.gf ?_) | (show W _ _ _ _ _ _ [] _ _; refine W.of (.done ?_)) | (apply W.of; constructor <;> first | (show W _ _ _ _ _ _ _ _ _) | (intro (al : Nat) h st; show W _ _ _ _ _ _ _ _ _) | (intro _ h st; show W _ _ _ _ _ _ _ _ _) | exact Sd)))
  refine W.of (.lp ?_)
  exact ⟨⟨i + 1, zs, ys⟩, by simp only; omega, ⟨hlt, s⟩, Sbs, st.sel Sels⟩
theorem aa_tail {P Q most B i : Nat} {look : Int} {v : AV} {acts : List AcP} {Fr : List Chunk} {zs ys : List (Option AmV)} {x : AcP} {h : AHeap} {k : List KI} {Z : AExit → Env → AHeap → Prop} (hlt : i < acts.length) (h80 : acts.length ≤ 80) (s : SameZ zs ys)
    (st : St h (PoC P most zs :: RpC Q most ys :: .pt B (acRow x) :: AcPC v acts :: Fr)) :
    W over tab none c_law13_AmapActs.ntmps Z .normal (.ins [I 230 (.callv) [F n_ref13_Pool_Of, T 227, T 229], I 33 (.mv) [T 230]] :: .code (sR (sL (sR aaT))) :: .code (sR (sR aaT)) :: aaK P Q most look v acts Fr i k)
      ((227, .ptr Q 0) :: (229, .int .i64 x.id) :: (32, .nilsl) :: (13, .bool true) :: (12, .ptr B 0) :: aaE P Q look v acts.length i) h :=
  aa_want (Fr := PoC P most zs :: .pt B (acRow x) :: AcPC v acts :: Fr) (st.sel Sels) fun wv _ h hs st => W.sub hs (aa_look hlt h80 s (st.sel Sels))
end Go.Proofs.Ytjdemlagmamlbaa

namespace Go.Proofs.Ytjdemlagmamlbaa
section
variable {P Q most i : Nat} {look : Int} {v : AV} {acts : List AcP} {Fr : List Chunk} {zs ys : List (Option AmV)} {x : AcP} {h : AHeap} {k : List KI} {Z : AExit → Env → AHeap → Prop}
set_option maxRecDepth 8000 in
theorem aa_k0 (hx : acts[i]? = some x) (h80 : acts.length ≤ 80) (s : SameZ zs ys) (hk : x.kind = 0) (st : St h (aaG P Q most v acts Fr zs ys)) :
    W over tab none c_law13_AmapActs.ntmps Z .normal (.code c_law13_AmapActs_L1 :: .lp (aaJ P Q most look v acts Fr i) :: k) (aaE P Q look v acts.length i) h := by
  have hlt := (List.getElem?_eq_some_iff.1 hx).1
  obtain ⟨gp, gq⟩ := d_arIdx (kk := .i64) st Tk hlt
  (repeat (first | (show W _ _ _ _ _ _ (.code (cond _ _ _) :: _) _ _; first | refine W.ct ?_ | refine W.cf ?_) | (show W _ _ _ _ _ _ (.ins (cond _ _ _ :: _) :: _) _ _; first | refine W.gt ?_ | refine W.gf ?_) | (show W _ _ _ _ _ _ [] _ _; refine W.of (.done ?_)) | (apply W.of; constructor <;> first | (show W _ _ _ _ _ _ _ _ _) | (intro (al : Nat) h st; show W _ _ _ _ _ _ _ _ _) | (intro _ h st; show W _ _ _ _ _ _ _ _ _) | exact Sd))); refine W.do (ho := gp) (w := ?_)
  (repeat (first | (show W _ _ _ _ _ _ (.code (cond _ _ _) :: _) _ _; first | refine W.ct ?_ | refine W.cf ?_) | (show W _ _ _ _ _ _ (.ins (cond _ _ _ :: _) :: _) _ _; first | refine W.gt ?_ | refine W.gf ?_) | (show W _ _ _ _ _ _ [] _ _; refine W.of (.done ?_)) | (apply W.of; constructor <;> first | (show W _ _ _ _ _ _ _ _ _) | (intro (al : Nat) h st; show W _ _ _ _ _ _ _ _ _) | (intro _ h st; show W _ _ _ _ _ _ _ _ _) | exact Sd))); refine W.do (ho := (d_loadar st Tk hx)) (w := ?_)
  (repeat (first | (show W _ _ _ _ _ _ (.code (cond _ _ _) :: _) _ _; first | refine W.ct ?_ | refine W.cf ?_) | (show W _ _ _ _ _ _ (.ins (cond _ _ _ :: _) :: _) _ _; first | refine W.gt ?_ | refine W.gf ?_) | (show W _ _ _ _ _ _ [] _ _; refine W.of (.done ?_)) | (apply W.of; constructor <;> first | (show W _ _ _ _ _ _ _ _ _) | (intro (al : Nat) h st; show W _ _ _ _ _ _ _ _ _) | (intro _ h st; show W _ _ _ _ _ _ _ _ _) | exact Sd)))
  obtain ⟨B, rfl⟩ : ∃ y, y = al := ⟨_, rfl⟩
  (repeat (first | (show W _ _ _ _ _ _ (.code (cond _ _ _) :: _) _ _; first | refine W.ct ?_ | refine W.cf ?_) | (show W _ _ _ _ _ _ (.ins (cond _ _ _ :: _) :: _) _ _; first | refine W.gt ?_ | refine W.gf ?_) | (show W _ _ _ _ _ _ [] _ _; refine W.of (.done ?_)) | (apply W.of; constructor <;> first | (show W _ _ _ _ _ _ _ _ _) | (intro (al : Nat) h st; show W _ _ _ _ _ _ _ _ _) | (intro _ h st; show W _ _ _ _ _ _ _ _ _) | exact Sd))); refine W.call (hs := (po_Make (P := P))) (w := ?_); rintro vv _ (⟨hm, rfl, rfl⟩ | ⟨hm, hc, rfl, rfl⟩ | ⟨hm, hc, O, rfl, rfl⟩) h st; refine nj ?_; dsimp only [List.cons_append, List.nil_append] at st
  · (repeat (first | (show W _ _ _ _ _ _ (.code (cond _ _ _) :: _) _ _; first | refine W.ct ?_ | refine W.cf ?_) | (show W _ _ _ _ _ _ (.ins (cond _ _ _ :: _) :: _) _ _; first | refine W.gt ?_ | refine W.gf ?_) | (show W _ _ _ _ _ _ [] _ _; refine W.of (.done ?_)) | (apply W.of; constructor <;> first | (show W _ _ _ _ _ _ _ _ _) | (intro (al : Nat) h st; show W _ _ _ _ _ _ _ _ _) | (intro _ h st; show W _ _ _ _ _ _ _ _ _) | exact Sd))); refine W.call (hs := (rp_Make_bad (P := Q) hm)) (w := ?_); rintro vv _ ⟨rfl, rfl⟩ h st; refine nj ?_; dsimp only [List.cons_append, List.nil_append] at st
    (repeat (first | (show W _ _ _ _ _ _ (.code (cond _ _ _) :: _) _ _; first | refine W.ct ?_ | refine W.cf ?_) | (show W _ _ _ _ _ _ (.ins (cond _ _ _ :: _) :: _) _ _; first | refine W.gt ?_ | refine W.gf ?_) | (show W _ _ _ _ _ _ [] _ _; refine W.of (.done ?_)) | (apply W.of; constructor <;> first | (show W _ _ _ _ _ _ _ _ _) | (intro (al : Nat) h st; show W _ _ _ _ _ _ _ _ _) | (intro _ h st; show W _ _ _ _ _ _ _ _ _) | exact Sd)))
    exact W.sub Sbs (aa_tail (B := B) (x := x) hlt h80 s (st.sel Sels))
  · refine nj ?_
    dsimp only [List.cons_append, List.nil_append] at st
    (repeat (first | (show W _ _ _ _ _ _ (.code (cond _ _ _) :: _) _ _; first | refine W.ct ?_ | refine W.cf ?_) | (show W _ _ _ _ _ _ (.ins (cond _ _ _ :: _) :: _) _ _; first | refine W.gt ?_ | refine W.gf ?_) | (show W _ _ _ _ _ _ [] _ _; refine W.of (.done ?_)) | (apply W.of; constructor <;> first | (show W _ _ _ _ _ _ _ _ _) | (intro (al : Nat) h st; show W _ _ _ _ _ _ _ _ _) | (intro _ h st; show W _ _ _ _ _ _ _ _ _) | exact Sd))); refine W.call (hs := (rp_Make_full (P := Q) hm (by rw [← same_cnt s]; exact hc))) (w := ?_); rintro vv _ ⟨rfl, rfl⟩ h st; refine nj ?_; dsimp only [List.cons_append, List.nil_append] at st
    (repeat (first | (show W _ _ _ _ _ _ (.code (cond _ _ _) :: _) _ _; first | refine W.ct ?_ | refine W.cf ?_) | (show W _ _ _ _ _ _ (.ins (cond _ _ _ :: _) :: _) _ _; first | refine W.gt ?_ | refine W.gf ?_) | (show W _ _ _ _ _ _ [] _ _; refine W.of (.done ?_)) | (apply W.of; constructor <;> first | (show W _ _ _ _ _ _ _ _ _) | (intro (al : Nat) h st; show W _ _ _ _ _ _ _ _ _) | (intro _ h st; show W _ _ _ _ _ _ _ _ _) | exact Sd)))
    exact W.sub Sbs (aa_tail (B := B) (x := x) hlt h80 s (st.sel Sels))
  · refine nj ?_
    dsimp only [List.cons_append, List.nil_append] at st
    (repeat (first | (show W _ _ _ _ _ _ (.code (cond _ _ _) :: _) _ _; first | refine W.ct ?_ | refine W.cf ?_) | (show W _ _ _ _ _ _ (.ins (cond _ _ _ :: _) :: _) _ _; first | refine W.gt ?_ | refine W.gf ?_) | (show W _ _ _ _ _ _ [] _ _; refine W.of (.done ?_)) | (apply W.of; constructor <;> first | (show W _ _ _ _ _ _ _ _ _) | (intro (al : Nat) h st; show W _ _ _ _ _ _ _ _ _) | (intro _ h st; show W _ _ _ _ _ _ _ _ _) | exact Sd))); refine W.call (hs := (rp_Make_ok (P := Q) hm (by rw [← same_cnt s]; exact hc))) (w := ?_); rintro vv _ ⟨O2, rfl, rfl⟩ h st; refine nj ?_; dsimp only [List.cons_append, List.nil_append] at st
    rw [← same_first s]
    (repeat (first | (show W _ _ _ _ _ _ (.code (cond _ _ _) :: _) _ _; first | refine W.ct ?_ | refine W.cf ?_) | (show W _ _ _ _ _ _ (.ins (cond _ _ _ :: _) :: _) _ _; first | refine W.gt ?_ | refine W.gf ?_) | (show W _ _ _ _ _ _ [] _ _; refine W.of (.done ?_)) | (apply W.of; constructor <;> first | (show W _ _ _ _ _ _ _ _ _) | (intro (al : Nat) h st; show W _ _ _ _ _ _ _ _ _) | (intro _ h st; show W _ _ _ _ _ _ _ _ _) | exact Sd)))
    exact W.sub Sbs (aa_tail (B := B) (x := x) hlt h80 (SameZ.put (a := newAm O x.hi.toNat) (b := newAm O2 x.hi.toNat) s rfl rfl) (st.sel Sels))
set_option maxRecDepth 8000 in
theorem aa_k1 (hx : acts[i]? = some x) (h80 : acts.length ≤ 80) (s : SameZ zs ys) (hk : x.kind = 1) (st : St h (aaG P Q most v acts Fr zs ys)) :
    W over tab none c_law13_AmapActs.ntmps Z .normal (.code c_law13_AmapActs_L1 :: .lp (aaJ P Q most look v acts Fr i) :: k) (aaE P Q look v acts.length i) h := by
  have hlt := (List.getElem?_eq_some_iff.1 hx).1
  obtain ⟨gp, gq⟩ := d_arIdx (kk := .i64) st Tk hlt
  have ec : coverZ ys x.id x.lo = coverZ zs x.id x.lo := s.cover.symm
  have eg : getZ ys x.id x.lo = getZ zs x.id x.lo := s.getZ.symm
  (repeat (first | (show W _ _ _ _ _ _ (.code (cond _ _ _) :: _) _ _; first | refine W.ct ?_ | refine W.cf ?_) | (show W _ _ _ _ _ _ (.ins (cond _ _ _ :: _) :: _) _ _; first | refine W.gt ?_ | refine W.gf ?_) | (show W _ _ _ _ _ _ [] _ _; refine W.of (.done ?_)) | (apply W.of; constructor <;> first | (show W _ _ _ _ _ _ _ _ _) | (intro (al : Nat) h st; show W _ _ _ _ _ _ _ _ _) | (intro _ h st; show W _ _ _ _ _ _ _ _ _) | exact Sd))); refine W.do (ho := gp) (w := ?_)
  (repeat (first | (show W _ _ _ _ _ _ (.code (cond _ _ _) :: _) _ _; first | refine W.ct ?_ | refine W.cf ?_) | (show W _ _ _ _ _ _ (.ins (cond _ _ _ :: _) :: _) _ _; first | refine W.gt ?_ | refine W.gf ?_) | (show W _ _ _ _ _ _ [] _ _; refine W.of (.done ?_)) | (apply W.of; constructor <;> first | (show W _ _ _ _ _ _ _ _ _) | (intro (al : Nat) h st; show W _ _ _ _ _ _ _ _ _) | (intro _ h st; show W _ _ _ _ _ _ _ _ _) | exact Sd))); refine W.do (ho := (d_loadar st Tk hx)) (w := ?_)
  (repeat (first | (show W _ _ _ _ _ _ (.code (cond _ _ _) :: _) _ _; first | refine W.ct ?_ | refine W.cf ?_) | (show W _ _ _ _ _ _ (.ins (cond _ _ _ :: _) :: _) _ _; first | refine W.gt ?_ | refine W.gf ?_) | (show W _ _ _ _ _ _ [] _ _; refine W.of (.done ?_)) | (apply W.of; constructor <;> first | (show W _ _ _ _ _ _ _ _ _) | (intro (al : Nat) h st; show W _ _ _ _ _ _ _ _ _) | (intro _ h st; show W _ _ _ _ _ _ _ _ _) | exact Sd)))
  obtain ⟨B, rfl⟩ : ∃ y, y = al := ⟨_, rfl⟩
  (repeat (first | (show W _ _ _ _ _ _ (.code (cond _ _ _) :: _) _ _; first | refine W.ct ?_ | refine W.cf ?_) | (show W _ _ _ _ _ _ (.ins (cond _ _ _ :: _) :: _) _ _; first | refine W.gt ?_ | refine W.gf ?_) | (show W _ _ _ _ _ _ [] _ _; refine W.of (.done ?_)) | (apply W.of; constructor <;> first | (show W _ _ _ _ _ _ _ _ _) | (intro (al : Nat) h st; show W _ _ _ _ _ _ _ _ _) | (intro _ h st; show W _ _ _ _ _ _ _ _ _) | exact Sd))); refine W.call (hs := (po_Set (P := P))) (w := ?_); rintro vv _ (⟨hn, rfl, rfl⟩ | ⟨a, ha, hc, rfl, rfl⟩ | ⟨a, ha, hc, rfl, rfl⟩) h st; refine nj ?_; dsimp only [List.cons_append, List.nil_append] at st
  · (repeat (first | (show W _ _ _ _ _ _ (.code (cond _ _ _) :: _) _ _; first | refine W.ct ?_ | refine W.cf ?_) | (show W _ _ _ _ _ _ (.ins (cond _ _ _ :: _) :: _) _ _; first | refine W.gt ?_ | refine W.gf ?_) | (show W _ _ _ _ _ _ [] _ _; refine W.of (.done ?_)) | (apply W.of; constructor <;> first | (show W _ _ _ _ _ _ _ _ _) | (intro (al : Nat) h st; show W _ _ _ _ _ _ _ _ _) | (intro _ h st; show W _ _ _ _ _ _ _ _ _) | exact Sd))); refine W.call (hs := (rp_Set_none (P := Q) (s.none hn))) (w := ?_); rintro vv _ ⟨rfl, rfl⟩ h st; refine nj ?_; dsimp only [List.cons_append, List.nil_append] at st
    (repeat (first | (show W _ _ _ _ _ _ (.code (cond _ _ _) :: _) _ _; first | refine W.ct ?_ | refine W.cf ?_) | (show W _ _ _ _ _ _ (.ins (cond _ _ _ :: _) :: _) _ _; first | refine W.gt ?_ | refine W.gf ?_) | (show W _ _ _ _ _ _ [] _ _; refine W.of (.done ?_)) | (apply W.of; constructor <;> first | (show W _ _ _ _ _ _ _ _ _) | (intro (al : Nat) h st; show W _ _ _ _ _ _ _ _ _) | (intro _ h st; show W _ _ _ _ _ _ _ _ _) | exact Sd)))
    exact W.sub Sbs (aa_tail (B := B) (x := x) hlt h80 s (st.sel Sels))
  · obtain ⟨O, hb⟩ := s.some ha
    refine nj ?_
    dsimp only [List.cons_append, List.nil_append] at st
    (repeat (first | (show W _ _ _ _ _ _ (.code (cond _ _ _) :: _) _ _; first | refine W.ct ?_ | refine W.cf ?_) | (show W _ _ _ _ _ _ (.ins (cond _ _ _ :: _) :: _) _ _; first | refine W.gt ?_ | refine W.gf ?_) | (show W _ _ _ _ _ _ [] _ _; refine W.of (.done ?_)) | (apply W.of; constructor <;> first | (show W _ _ _ _ _ _ _ _ _) | (intro (al : Nat) h st; show W _ _ _ _ _ _ _ _ _) | (intro _ h st; show W _ _ _ _ _ _ _ _ _) | exact Sd))); refine W.call (hs := (rp_Set_bad (P := Q) hb (by rw [ec]; exact hc))) (w := ?_); rintro vv _ ⟨rfl, rfl⟩ h st; refine nj ?_; dsimp only [List.cons_append, List.nil_append] at st
    (repeat (first | (show W _ _ _ _ _ _ (.code (cond _ _ _) :: _) _ _; first | refine W.ct ?_ | refine W.cf ?_) | (show W _ _ _ _ _ _ (.ins (cond _ _ _ :: _) :: _) _ _; first | refine W.gt ?_ | refine W.gf ?_) | (show W _ _ _ _ _ _ [] _ _; refine W.of (.done ?_)) | (apply W.of; constructor <;> first | (show W _ _ _ _ _ _ _ _ _) | (intro (al : Nat) h st; show W _ _ _ _ _ _ _ _ _) | (intro _ h st; show W _ _ _ _ _ _ _ _ _) | exact Sd)))
    exact W.sub Sbs (aa_tail (B := B) (x := x) hlt h80 s (st.sel Sels))
  · obtain ⟨O, hb⟩ := s.some ha
    refine nj ?_
    dsimp only [List.cons_append, List.nil_append] at st
    (repeat (first | (show W _ _ _ _ _ _ (.code (cond _ _ _) :: _) _ _; first | refine W.ct ?_ | refine W.cf ?_) | (show W _ _ _ _ _ _ (.ins (cond _ _ _ :: _) :: _) _ _; first | refine W.gt ?_ | refine W.gf ?_) | (show W _ _ _ _ _ _ [] _ _; refine W.of (.done ?_)) | (apply W.of; constructor <;> first | (show W _ _ _ _ _ _ _ _ _) | (intro (al : Nat) h st; show W _ _ _ _ _ _ _ _ _) | (intro _ h st; show W _ _ _ _ _ _ _ _ _) | exact Sd))); refine W.call (hs := (rp_Set_ok (P := Q) hb (by rw [ec]; exact hc))) (w := ?_); rintro vv _ ⟨rfl, rfl⟩ h st; refine nj ?_; dsimp only [List.cons_append, List.nil_append] at st
    rw [eg]
    (repeat (first | (show W _ _ _ _ _ _ (.code (cond _ _ _) :: _) _ _; first | refine W.ct ?_ | refine W.cf ?_) | (show W _ _ _ _ _ _ (.ins (cond _ _ _ :: _) :: _) _ _; first | refine W.gt ?_ | refine W.gf ?_) | (show W _ _ _ _ _ _ [] _ _; refine W.of (.done ?_)) | (apply W.of; constructor <;> first | (show W _ _ _ _ _ _ _ _ _) | (intro (al : Nat) h st; show W _ _ _ _ _ _ _ _ _) | (intro _ h st; show W _ _ _ _ _ _ _ _ _) | exact Sd)))
    exact W.sub Sbs (aa_tail (B := B) (x := x) hlt h80 s.setZ (st.sel Sels))
set_option maxRecDepth 8000 in
theorem aa_k2 (hx : acts[i]? = some x) (h80 : acts.length ≤ 80) (s : SameZ zs ys) (hk : x.kind = 2) (st : St h (aaG P Q most v acts Fr zs ys)) :
    W over tab none c_law13_AmapActs.ntmps Z .normal (.code c_law13_AmapActs_L1 :: .lp (aaJ P Q most look v acts Fr i) :: k) (aaE P Q look v acts.length i) h := by
  have hlt := (List.getElem?_eq_some_iff.1 hx).1
  obtain ⟨gp, gq⟩ := d_arIdx (kk := .i64) st Tk hlt
  (repeat (first | (show W _ _ _ _ _ _ (.code (cond _ _ _) :: _) _ _; first | refine W.ct ?_ | refine W.cf ?_) | (show W _ _ _ _ _ _ (.ins (cond _ _ _ :: _) :: _) _ _; first | refine W.gt ?_ | refine W.gf ?_) | (show W _ _ _ _ _ _ [] _ _; refine W.of (.done ?_)) | (apply W.of; constructor <;> first | (show W _ _ _ _ _ _ _ _ _) | (intro (al : Nat) h st; show W _ _ _ _ _ _ _ _ _) | (intro _ h st; show W _ _ _ _ _ _ _ _ _) | exact Sd))); refine W.do (ho := gp) (w := ?_)
  (repeat (first | (show W _ _ _ _ _ _ (.code (cond _ _ _) :: _) _ _; first | refine W.ct ?_ | refine W.cf ?_) | (show W _ _ _ _ _ _ (.ins (cond _ _ _ :: _) :: _) _ _; first | refine W.gt ?_ | refine W.gf ?_) | (show W _ _ _ _ _ _ [] _ _; refine W.of (.done ?_)) | (apply W.of; constructor <;> first | (show W _ _ _ _ _ _ _ _ _) | (intro (al : Nat) h st; show W _ _ _ _ _ _ _ _ _) | (intro _ h st; show W _ _ _ _ _ _ _ _ _) | exact Sd))); refine W.do (ho := (d_loadar st Tk hx)) (w := ?_)
  (repeat (first | (show W _ _ _ _ _ _ (.code (cond _ _ _) :: _) _ _; first | refine W.ct ?_ | refine W.cf ?_) | (show W _ _ _ _ _ _ (.ins (cond _ _ _ :: _) :: _) _ _; first | refine W.gt ?_ | refine W.gf ?_) | (show W _ _ _ _ _ _ [] _ _; refine W.of (.done ?_)) | (apply W.of; constructor <;> first | (show W _ _ _ _ _ _ _ _ _) | (intro (al : Nat) h st; show W _ _ _ _ _ _ _ _ _) | (intro _ h st; show W _ _ _ _ _ _ _ _ _) | exact Sd)))
  obtain ⟨B, rfl⟩ : ∃ y, y = al := ⟨_, rfl⟩
  (repeat (first | (show W _ _ _ _ _ _ (.code (cond _ _ _) :: _) _ _; first | refine W.ct ?_ | refine W.cf ?_) | (show W _ _ _ _ _ _ (.ins (cond _ _ _ :: _) :: _) _ _; first | refine W.gt ?_ | refine W.gf ?_) | (show W _ _ _ _ _ _ [] _ _; refine W.of (.done ?_)) | (apply W.of; constructor <;> first | (show W _ _ _ _ _ _ _ _ _) | (intro (al : Nat) h st; show W _ _ _ _ _ _ _ _ _) | (intro _ h st; show W _ _ _ _ _ _ _ _ _) | exact Sd))); refine W.call (hs := (po_Hold (P := P))) (w := ?_); rintro vv _ (⟨hn, rfl, rfl⟩ | ⟨a, ha, ⟨hh, rfl, rfl⟩ | ⟨hh, rfl, rfl⟩⟩) h st; refine nj ?_; dsimp only [List.cons_append, List.nil_append] at st
  · (repeat (first | (show W _ _ _ _ _ _ (.code (cond _ _ _) :: _) _ _; first | refine W.ct ?_ | refine W.cf ?_) | (show W _ _ _ _ _ _ (.ins (cond _ _ _ :: _) :: _) _ _; first | refine W.gt ?_ | refine W.gf ?_) | (show W _ _ _ _ _ _ [] _ _; refine W.of (.done ?_)) | (apply W.of; constructor <;> first | (show W _ _ _ _ _ _ _ _ _) | (intro (al : Nat) h st; show W _ _ _ _ _ _ _ _ _) | (intro _ h st; show W _ _ _ _ _ _ _ _ _) | exact Sd))); refine W.call (hs := (rp_Hold_none (P := Q) (s.none hn))) (w := ?_); rintro vv _ ⟨rfl, rfl⟩ h st; refine nj ?_; dsimp only [List.cons_append, List.nil_append] at st
    (repeat (first | (show W _ _ _ _ _ _ (.code (cond _ _ _) :: _) _ _; first | refine W.ct ?_ | refine W.cf ?_) | (show W _ _ _ _ _ _ (.ins (cond _ _ _ :: _) :: _) _ _; first | refine W.gt ?_ | refine W.gf ?_) | (show W _ _ _ _ _ _ [] _ _; refine W.of (.done ?_)) | (apply W.of; constructor <;> first | (show W _ _ _ _ _ _ _ _ _) | (intro (al : Nat) h st; show W _ _ _ _ _ _ _ _ _) | (intro _ h st; show W _ _ _ _ _ _ _ _ _) | exact Sd)))
    exact W.sub Sbs (aa_tail (B := B) (x := x) hlt h80 s (st.sel Sels))
  · obtain ⟨O, hb⟩ := s.some ha
    refine nj ?_
    dsimp only [List.cons_append, List.nil_append] at st
    (repeat (first | (show W _ _ _ _ _ _ (.code (cond _ _ _) :: _) _ _; first | refine W.ct ?_ | refine W.cf ?_) | (show W _ _ _ _ _ _ (.ins (cond _ _ _ :: _) :: _) _ _; first | refine W.gt ?_ | refine W.gf ?_) | (show W _ _ _ _ _ _ [] _ _; refine W.of (.done ?_)) | (apply W.of; constructor <;> first | (show W _ _ _ _ _ _ _ _ _) | (intro (al : Nat) h st; show W _ _ _ _ _ _ _ _ _) | (intro _ h st; show W _ _ _ _ _ _ _ _ _) | exact Sd))); refine W.call (hs := (rp_Hold_ok (P := Q) hb (holdOk_same.2 hh))) (w := ?_); rintro vv _ ⟨rfl, rfl⟩ h st; refine nj ?_; dsimp only [List.cons_append, List.nil_append] at st
    (repeat (first | (show W _ _ _ _ _ _ (.code (cond _ _ _) :: _) _ _; first | refine W.ct ?_ | refine W.cf ?_) | (show W _ _ _ _ _ _ (.ins (cond _ _ _ :: _) :: _) _ _; first | refine W.gt ?_ | refine W.gf ?_) | (show W _ _ _ _ _ _ [] _ _; refine W.of (.done ?_)) | (apply W.of; constructor <;> first | (show W _ _ _ _ _ _ _ _ _) | (intro (al : Nat) h st; show W _ _ _ _ _ _ _ _ _) | (intro _ h st; show W _ _ _ _ _ _ _ _ _) | exact Sd)))
    exact W.sub Sbs (aa_tail (B := B) (x := x) hlt h80 s.hold (st.sel Sels))
  · obtain ⟨O, hb⟩ := s.some ha
    refine nj ?_
    dsimp only [List.cons_append, List.nil_append] at st
    (repeat (first | (show W _ _ _ _ _ _ (.code (cond _ _ _) :: _) _ _; first | refine W.ct ?_ | refine W.cf ?_) | (show W _ _ _ _ _ _ (.ins (cond _ _ _ :: _) :: _) _ _; first | refine W.gt ?_ | refine W.gf ?_) | (show W _ _ _ _ _ _ [] _ _; refine W.of (.done ?_)) | (apply W.of; constructor <;> first | (show W _ _ _ _ _ _ _ _ _) | (intro (al : Nat) h st; show W _ _ _ _ _ _ _ _ _) | (intro _ h st; show W _ _ _ _ _ _ _ _ _) | exact Sd))); refine W.call (hs := (rp_Hold_no (P := Q) hb (fun e => hh (holdOk_same.1 e)))) (w := ?_); rintro vv _ ⟨rfl, rfl⟩ h st; refine nj ?_; dsimp only [List.cons_append, List.nil_append] at st
    (repeat (first | (show W _ _ _ _ _ _ (.code (cond _ _ _) :: _) _ _; first | refine W.ct ?_ | refine W.cf ?_) | (show W _ _ _ _ _ _ (.ins (cond _ _ _ :: _) :: _) _ _; first | refine W.gt ?_ | refine W.gf ?_) | (show W _ _ _ _ _ _ [] _ _; refine W.of (.done ?_)) | (apply W.of; constructor <;> first | (show W _ _ _ _ _ _ _ _ _) | (intro (al : Nat) h st; show W _ _ _ _ _ _ _ _ _) | (intro _ h st; show W _ _ _ _ _ _ _ _ _) | exact Sd)))
    exact W.sub Sbs (aa_tail (B := B) (x := x) hlt h80 s (st.sel Sels))
set_option maxRecDepth 8000 in
theorem aa_k3 (hx : acts[i]? = some x) (h80 : acts.length ≤ 80) (s : SameZ zs ys) (hk : x.kind = 3) (st : St h (aaG P Q most v acts Fr zs ys)) :
    W over tab none c_law13_AmapActs.ntmps Z .normal (.code c_law13_AmapActs_L1 :: .lp (aaJ P Q most look v acts Fr i) :: k) (aaE P Q look v acts.length i) h := by
  have hlt := (List.getElem?_eq_some_iff.1 hx).1
  obtain ⟨gp, gq⟩ := d_arIdx (kk := .i64) st Tk hlt
  have hok := st.poAt Tk (id := x.id)
  (repeat (first | (show W _ _ _ _ _ _ (.code (cond _ _ _) :: _) _ _; first | refine W.ct ?_ | refine W.cf ?_) | (show W _ _ _ _ _ _ (.ins (cond _ _ _ :: _) :: _) _ _; first | refine W.gt ?_ | refine W.gf ?_) | (show W _ _ _ _ _ _ [] _ _; refine W.of (.done ?_)) | (apply W.of; constructor <;> first | (show W _ _ _ _ _ _ _ _ _) | (intro (al : Nat) h st; show W _ _ _ _ _ _ _ _ _) | (intro _ h st; show W _ _ _ _ _ _ _ _ _) | exact Sd))); refine W.do (ho := gp) (w := ?_)
  (repeat (first | (show W _ _ _ _ _ _ (.code (cond _ _ _) :: _) _ _; first | refine W.ct ?_ | refine W.cf ?_) | (show W _ _ _ _ _ _ (.ins (cond _ _ _ :: _) :: _) _ _; first | refine W.gt ?_ | refine W.gf ?_) | (show W _ _ _ _ _ _ [] _ _; refine W.of (.done ?_)) | (apply W.of; constructor <;> first | (show W _ _ _ _ _ _ _ _ _) | (intro (al : Nat) h st; show W _ _ _ _ _ _ _ _ _) | (intro _ h st; show W _ _ _ _ _ _ _ _ _) | exact Sd))); refine W.do (ho := (d_loadar st Tk hx)) (w := ?_)
  (repeat (first | (show W _ _ _ _ _ _ (.code (cond _ _ _) :: _) _ _; first | refine W.ct ?_ | refine W.cf ?_) | (show W _ _ _ _ _ _ (.ins (cond _ _ _ :: _) :: _) _ _; first | refine W.gt ?_ | refine W.gf ?_) | (show W _ _ _ _ _ _ [] _ _; refine W.of (.done ?_)) | (apply W.of; constructor <;> first | (show W _ _ _ _ _ _ _ _ _) | (intro (al : Nat) h st; show W _ _ _ _ _ _ _ _ _) | (intro _ h st; show W _ _ _ _ _ _ _ _ _) | exact Sd)))
  obtain ⟨B, rfl⟩ : ∃ y, y = al := ⟨_, rfl⟩
  (repeat (first | (show W _ _ _ _ _ _ (.code (cond _ _ _) :: _) _ _; first | refine W.ct ?_ | refine W.cf ?_) | (show W _ _ _ _ _ _ (.ins (cond _ _ _ :: _) :: _) _ _; first | refine W.gt ?_ | refine W.gf ?_) | (show W _ _ _ _ _ _ [] _ _; refine W.of (.done ?_)) | (apply W.of; constructor <;> first | (show W _ _ _ _ _ _ _ _ _) | (intro (al : Nat) h st; show W _ _ _ _ _ _ _ _ _) | (intro _ h st; show W _ _ _ _ _ _ _ _ _) | exact Sd))); refine W.call (hs := (po_Drop (P := P))) (w := ?_); rintro vv _ (⟨hn, rfl, rfl⟩ | ⟨a, ha, ⟨hh, ov, rfl, oj, ol, rfl⟩ | ⟨hh, rfl, rfl⟩⟩) h st; refine nj ?_; dsimp only [List.cons_append, List.nil_append] at st
  · (repeat (first | (show W _ _ _ _ _ _ (.code (cond _ _ _) :: _) _ _; first | refine W.ct ?_ | refine W.cf ?_) | (show W _ _ _ _ _ _ (.ins (cond _ _ _ :: _) :: _) _ _; first | refine W.gt ?_ | refine W.gf ?_) | (show W _ _ _ _ _ _ [] _ _; refine W.of (.done ?_)) | (apply W.of; constructor <;> first | (show W _ _ _ _ _ _ _ _ _) | (intro (al : Nat) h st; show W _ _ _ _ _ _ _ _ _) | (intro _ h st; show W _ _ _ _ _ _ _ _ _) | exact Sd))); refine W.call (hs := (rp_Drop_none (P := Q) (s.none hn))) (w := ?_); rintro vv _ ⟨rfl, rfl⟩ h st; refine nj ?_; dsimp only [List.cons_append, List.nil_append] at st
    have st := (st.vsNil 3 true).vsNil 3 true
    (repeat (first | (show W _ _ _ _ _ _ (.code (cond _ _ _) :: _) _ _; first | refine W.ct ?_ | refine W.cf ?_) | (show W _ _ _ _ _ _ (.ins (cond _ _ _ :: _) :: _) _ _; first | refine W.gt ?_ | refine W.gf ?_) | (show W _ _ _ _ _ _ [] _ _; refine W.of (.done ?_)) | (apply W.of; constructor <;> first | (show W _ _ _ _ _ _ _ _ _) | (intro (al : Nat) h st; show W _ _ _ _ _ _ _ _ _) | (intro _ h st; show W _ _ _ _ _ _ _ _ _) | exact Sd))); refine W.call (hs := (ref01_Ints (a := .nilsl) (b := .nilsl) (l := []) (l' := []) (by simp))) (w := ?_); rintro vv _ ⟨rfl, rfl⟩ h st; refine nj ?_; dsimp only [List.cons_append, List.nil_append] at st
    rw [decide_eq_true (rfl : ([] : List Int) = [])]
    (repeat (first | (show W _ _ _ _ _ _ (.code (cond _ _ _) :: _) _ _; first | refine W.ct ?_ | refine W.cf ?_) | (show W _ _ _ _ _ _ (.ins (cond _ _ _ :: _) :: _) _ _; first | refine W.gt ?_ | refine W.gf ?_) | (show W _ _ _ _ _ _ [] _ _; refine W.of (.done ?_)) | (apply W.of; constructor <;> first | (show W _ _ _ _ _ _ _ _ _) | (intro (al : Nat) h st; show W _ _ _ _ _ _ _ _ _) | (intro _ h st; show W _ _ _ _ _ _ _ _ _) | exact Sd)))
    exact W.sub Sbs (aa_tail (B := B) (x := x) hlt h80 s (st.sel Sels))
  · obtain ⟨O, hb⟩ := s.some ha
    have hl1 := (hok a ha).n4
    have hgl : (outG a.an (goneA a x.lo x.hi)).length ≤ 100000 := by
      have h1 := outG_len (g := goneA a x.lo x.hi) (an := a.an)
      have h2 : (goneA a x.lo x.hi).length ≤ (slc a.cs x.lo x.hi).length := goneP_len
      have h3 := slc_le (cs := a.cs) (lo := x.lo) (hi := x.hi)
      omega
    refine nj ?_
    dsimp only [List.cons_append, List.nil_append] at st
    (repeat (first | (show W _ _ _ _ _ _ (.code (cond _ _ _) :: _) _ _; first | refine W.ct ?_ | refine W.cf ?_) | (show W _ _ _ _ _ _ (.ins (cond _ _ _ :: _) :: _) _ _; first | refine W.gt ?_ | refine W.gf ?_) | (show W _ _ _ _ _ _ [] _ _; refine W.of (.done ?_)) | (apply W.of; constructor <;> first | (show W _ _ _ _ _ _ _ _ _) | (intro (al : Nat) h st; show W _ _ _ _ _ _ _ _ _) | (intro _ h st; show W _ _ _ _ _ _ _ _ _) | exact Sd))); refine W.call (hs := (rp_Drop_ok (P := Q) hb (dropOk_same.2 hh))) (w := ?_); rintro vv _ ⟨pv, rfl, pj, pl, rfl⟩ h st; refine nj ?_; dsimp only [List.cons_append, List.nil_append] at st
    rw [show outG (AmV.mk O a.cs a.an).an (goneA ⟨O, a.cs, a.an⟩ x.lo x.hi) = outG a.an (goneA a x.lo x.hi) from rfl] at st pl
    (repeat (first | (show W _ _ _ _ _ _ (.code (cond _ _ _) :: _) _ _; first | refine W.ct ?_ | refine W.cf ?_) | (show W _ _ _ _ _ _ (.ins (cond _ _ _ :: _) :: _) _ _; first | refine W.gt ?_ | refine W.gf ?_) | (show W _ _ _ _ _ _ [] _ _; refine W.of (.done ?_)) | (apply W.of; constructor <;> first | (show W _ _ _ _ _ _ _ _ _) | (intro (al : Nat) h st; show W _ _ _ _ _ _ _ _ _) | (intro _ h st; show W _ _ _ _ _ _ _ _ _) | exact Sd))); refine W.call (hs := (ref01_Ints (a := ov) (b := pv) (l := outG a.an (goneA a x.lo x.hi)) (l' := outG a.an (goneA a x.lo x.hi)) hgl)) (w := ?_); rintro vv _ ⟨rfl, rfl⟩ h st; refine nj ?_; dsimp only [List.cons_append, List.nil_append] at st
    rw [decide_eq_true rfl]
    (repeat (first | (show W _ _ _ _ _ _ (.code (cond _ _ _) :: _) _ _; first | refine W.ct ?_ | refine W.cf ?_) | (show W _ _ _ _ _ _ (.ins (cond _ _ _ :: _) :: _) _ _; first | refine W.gt ?_ | refine W.gf ?_) | (show W _ _ _ _ _ _ [] _ _; refine W.of (.done ?_)) | (apply W.of; constructor <;> first | (show W _ _ _ _ _ _ _ _ _) | (intro (al : Nat) h st; show W _ _ _ _ _ _ _ _ _) | (intro _ h st; show W _ _ _ _ _ _ _ _ _) | exact Sd)))
    exact W.sub Sbs (aa_tail (B := B) (x := x) hlt h80 s.drop (st.sel Sels))
  · obtain ⟨O, hb⟩ := s.some ha
    refine nj ?_
    dsimp only [List.cons_append, List.nil_append] at st
    (repeat (first | (show W _ _ _ _ _ _ (.code (cond _ _ _) :: _) _ _; first | refine W.ct ?_ | refine W.cf ?_) | (show W _ _ _ _ _ _ (.ins (cond _ _ _ :: _) :: _) _ _; first | refine W.gt ?_ | refine W.gf ?_) | (show W _ _ _ _ _ _ [] _ _; refine W.of (.done ?_)) | (apply W.of; constructor <;> first | (show W _ _ _ _ _ _ _ _ _) | (intro (al : Nat) h st; show W _ _ _ _ _ _ _ _ _) | (intro _ h st; show W _ _ _ _ _ _ _ _ _) | exact Sd))); refine W.call (hs := (rp_Drop_no (P := Q) hb (fun e => hh (dropOk_same.1 e)))) (w := ?_); rintro vv _ ⟨rfl, rfl⟩ h st; refine nj ?_; dsimp only [List.cons_append, List.nil_append] at st
    have st := (st.vsNil 3 true).vsNil 3 true
    (repeat (first | (show W _ _ _ _ _ _ (.code (cond _ _ _) :: _) _ _; first | refine W.ct ?_ | refine W.cf ?_) | (show W _ _ _ _ _ _ (.ins (cond _ _ _ :: _) :: _) _ _; first | refine W.gt ?_ | refine W.gf ?_) | (show W _ _ _ _ _ _ [] _ _; refine W.of (.done ?_)) | (apply W.of; constructor <;> first | (show W _ _ _ _ _ _ _ _ _) | (intro (al : Nat) h st; show W _ _ _ _ _ _ _ _ _) | (intro _ h st; show W _ _ _ _ _ _ _ _ _) | exact Sd))); refine W.call (hs := (ref01_Ints (a := .nilsl) (b := .nilsl) (l := []) (l' := []) (by simp))) (w := ?_); rintro vv _ ⟨rfl, rfl⟩ h st; refine nj ?_; dsimp only [List.cons_append, List.nil_append] at st
    rw [decide_eq_true (rfl : ([] : List Int) = [])]
    (repeat (first | (show W _ _ _ _ _ _ (.code (cond _ _ _) :: _) _ _; first | refine W.ct ?_ | refine W.cf ?_) | (show W _ _ _ _ _ _ (.ins (cond _ _ _ :: _) :: _) _ _; first | refine W.gt ?_ | refine W.gf ?_) | (show W _ _ _ _ _ _ [] _ _; refine W.of (.done ?_)) | (apply W.of; constructor <;> first | (show W _ _ _ _ _ _ _ _ _) | (intro (al : Nat) h st; show W _ _ _ _ _ _ _ _ _) | (intro _ h st; show W _ _ _ _ _ _ _ _ _) | exact Sd)))
    exact W.sub Sbs (aa_tail (B := B) (x := x) hlt h80 s (st.sel Sels))
set_option maxRecDepth 8000 in
theorem aa_k4 (hx : acts[i]? = some x) (h80 : acts.length ≤ 80) (s : SameZ zs ys) (hk : x.kind = 4) (st : St h (aaG P Q most v acts Fr zs ys)) :
    W over tab none c_law13_AmapActs.ntmps Z .normal (.code c_law13_AmapActs_L1 :: .lp (aaJ P Q most look v acts Fr i) :: k) (aaE P Q look v acts.length i) h := by
  have hlt := (List.getElem?_eq_some_iff.1 hx).1
  obtain ⟨gp, gq⟩ := d_arIdx (kk := .i64) st Tk hlt
  have hok := st.poAt Tk (id := x.id)
  (repeat (first | (show W _ _ _ _ _ _ (.code (cond _ _ _) :: _) _ _; first | refine W.ct ?_ | refine W.cf ?_) | (show W _ _ _ _ _ _ (.ins (cond _ _ _ :: _) :: _) _ _; first | refine W.gt ?_ | refine W.gf ?_) | (show W _ _ _ _ _ _ [] _ _; refine W.of (.done ?_)) | (apply W.of; constructor <;> first | (show W _ _ _ _ _ _ _ _ _) | (intro (al : Nat) h st; show W _ _ _ _ _ _ _ _ _) | (intro _ h st; show W _ _ _ _ _ _ _ _ _) | exact Sd))); refine W.do (ho := gp) (w := ?_)
  (repeat (first | (show W _ _ _ _ _ _ (.code (cond _ _ _) :: _) _ _; first | refine W.ct ?_ | refine W.cf ?_) | (show W _ _ _ _ _ _ (.ins (cond _ _ _ :: _) :: _) _ _; first | refine W.gt ?_ | refine W.gf ?_) | (show W _ _ _ _ _ _ [] _ _; refine W.of (.done ?_)) | (apply W.of; constructor <;> first | (show W _ _ _ _ _ _ _ _ _) | (intro (al : Nat) h st; show W _ _ _ _ _ _ _ _ _) | (intro _ h st; show W _ _ _ _ _ _ _ _ _) | exact Sd))); refine W.do (ho := (d_loadar st Tk hx)) (w := ?_)
  (repeat (first | (show W _ _ _ _ _ _ (.code (cond _ _ _) :: _) _ _; first | refine W.ct ?_ | refine W.cf ?_) | (show W _ _ _ _ _ _ (.ins (cond _ _ _ :: _) :: _) _ _; first | refine W.gt ?_ | refine W.gf ?_) | (show W _ _ _ _ _ _ [] _ _; refine W.of (.done ?_)) | (apply W.of; constructor <;> first | (show W _ _ _ _ _ _ _ _ _) | (intro (al : Nat) h st; show W _ _ _ _ _ _ _ _ _) | (intro _ h st; show W _ _ _ _ _ _ _ _ _) | exact Sd)))
  obtain ⟨B, rfl⟩ : ∃ y, y = al := ⟨_, rfl⟩
  (repeat (first | (show W _ _ _ _ _ _ (.code (cond _ _ _) :: _) _ _; first | refine W.ct ?_ | refine W.cf ?_) | (show W _ _ _ _ _ _ (.ins (cond _ _ _ :: _) :: _) _ _; first | refine W.gt ?_ | refine W.gf ?_) | (show W _ _ _ _ _ _ [] _ _; refine W.of (.done ?_)) | (apply W.of; constructor <;> first | (show W _ _ _ _ _ _ _ _ _) | (intro (al : Nat) h st; show W _ _ _ _ _ _ _ _ _) | (intro _ h st; show W _ _ _ _ _ _ _ _ _) | exact Sd))); refine W.call (hs := (po_Copy (P := P))) (w := ?_); rintro vv _ (⟨hn, rfl, rfl⟩ | ⟨a, ha, ⟨hw, rfl, rfl⟩ | ⟨hw, hc, rfl, rfl⟩ | ⟨hw, hc, O1, ov, rfl, oj, ol, rfl⟩⟩) h st; refine nj ?_; dsimp only [List.cons_append, List.nil_append] at st
  · (repeat (first | (show W _ _ _ _ _ _ (.code (cond _ _ _) :: _) _ _; first | refine W.ct ?_ | refine W.cf ?_) | (show W _ _ _ _ _ _ (.ins (cond _ _ _ :: _) :: _) _ _; first | refine W.gt ?_ | refine W.gf ?_) | (show W _ _ _ _ _ _ [] _ _; refine W.of (.done ?_)) | (apply W.of; constructor <;> first | (show W _ _ _ _ _ _ _ _ _) | (intro (al : Nat) h st; show W _ _ _ _ _ _ _ _ _) | (intro _ h st; show W _ _ _ _ _ _ _ _ _) | exact Sd))); refine W.call (hs := (rp_Copy_none (P := Q) (s.none hn))) (w := ?_); rintro vv _ ⟨rfl, rfl⟩ h st; refine nj ?_; dsimp only [List.cons_append, List.nil_append] at st
    have st := (st.vsNil 3 true).vsNil 3 true
    (repeat (first | (show W _ _ _ _ _ _ (.code (cond _ _ _) :: _) _ _; first | refine W.ct ?_ | refine W.cf ?_) | (show W _ _ _ _ _ _ (.ins (cond _ _ _ :: _) :: _) _ _; first | refine W.gt ?_ | refine W.gf ?_) | (show W _ _ _ _ _ _ [] _ _; refine W.of (.done ?_)) | (apply W.of; constructor <;> first | (show W _ _ _ _ _ _ _ _ _) | (intro (al : Nat) h st; show W _ _ _ _ _ _ _ _ _) | (intro _ h st; show W _ _ _ _ _ _ _ _ _) | exact Sd))); refine W.call (hs := (ref01_Ints (a := .nilsl) (b := .nilsl) (l := []) (l' := []) (by simp))) (w := ?_); rintro vv _ ⟨rfl, rfl⟩ h st; refine nj ?_; dsimp only [List.cons_append, List.nil_append] at st
    rw [decide_eq_true (rfl : ([] : List Int) = [])]
    (repeat (first | (show W _ _ _ _ _ _ (.code (cond _ _ _) :: _) _ _; first | refine W.ct ?_ | refine W.cf ?_) | (show W _ _ _ _ _ _ (.ins (cond _ _ _ :: _) :: _) _ _; first | refine W.gt ?_ | refine W.gf ?_) | (show W _ _ _ _ _ _ [] _ _; refine W.of (.done ?_)) | (apply W.of; constructor <;> first | (show W _ _ _ _ _ _ _ _ _) | (intro (al : Nat) h st; show W _ _ _ _ _ _ _ _ _) | (intro _ h st; show W _ _ _ _ _ _ _ _ _) | exact Sd)))
    exact W.sub Sbs (aa_tail (B := B) (x := x) hlt h80 s (st.sel Sels))
  · obtain ⟨O, hb⟩ := s.some ha
    refine nj ?_
    dsimp only [List.cons_append, List.nil_append] at st
    (repeat (first | (show W _ _ _ _ _ _ (.code (cond _ _ _) :: _) _ _; first | refine W.ct ?_ | refine W.cf ?_) | (show W _ _ _ _ _ _ (.ins (cond _ _ _ :: _) :: _) _ _; first | refine W.gt ?_ | refine W.gf ?_) | (show W _ _ _ _ _ _ [] _ _; refine W.of (.done ?_)) | (apply W.of; constructor <;> first | (show W _ _ _ _ _ _ _ _ _) | (intro (al : Nat) h st; show W _ _ _ _ _ _ _ _ _) | (intro _ h st; show W _ _ _ _ _ _ _ _ _) | exact Sd))); refine W.call (hs := (rp_Copy_out (P := Q) hb hw)) (w := ?_); rintro vv _ ⟨rfl, rfl⟩ h st; refine nj ?_; dsimp only [List.cons_append, List.nil_append] at st
    have st := (st.vsNil 3 true).vsNil 3 true
    (repeat (first | (show W _ _ _ _ _ _ (.code (cond _ _ _) :: _) _ _; first | refine W.ct ?_ | refine W.cf ?_) | (show W _ _ _ _ _ _ (.ins (cond _ _ _ :: _) :: _) _ _; first | refine W.gt ?_ | refine W.gf ?_) | (show W _ _ _ _ _ _ [] _ _; refine W.of (.done ?_)) | (apply W.of; constructor <;> first | (show W _ _ _ _ _ _ _ _ _) | (intro (al : Nat) h st; show W _ _ _ _ _ _ _ _ _) | (intro _ h st; show W _ _ _ _ _ _ _ _ _) | exact Sd))); refine W.call (hs := (ref01_Ints (a := .nilsl) (b := .nilsl) (l := []) (l' := []) (by simp))) (w := ?_); rintro vv _ ⟨rfl, rfl⟩ h st; refine nj ?_; dsimp only [List.cons_append, List.nil_append] at st
    rw [decide_eq_true (rfl : ([] : List Int) = [])]
    (repeat (first | (show W _ _ _ _ _ _ (.code (cond _ _ _) :: _) _ _; first | refine W.ct ?_ | refine W.cf ?_) | (show W _ _ _ _ _ _ (.ins (cond _ _ _ :: _) :: _) _ _; first | refine W.gt ?_ | refine W.gf ?_) | (show W _ _ _ _ _ _ [] _ _; refine W.of (.done ?_)) | (apply W.of; constructor <;> first | (show W _ _ _ _ _ _ _ _ _) | (intro (al : Nat) h st; show W _ _ _ _ _ _ _ _ _) | (intro _ h st; show W _ _ _ _ _ _ _ _ _) | exact Sd)))
    exact W.sub Sbs (aa_tail (B := B) (x := x) hlt h80 s (st.sel Sels))
  · obtain ⟨O, hb⟩ := s.some ha
    refine nj ?_
    dsimp only [List.cons_append, List.nil_append] at st
    (repeat (first | (show W _ _ _ _ _ _ (.code (cond _ _ _) :: _) _ _; first | refine W.ct ?_ | refine W.cf ?_) | (show W _ _ _ _ _ _ (.ins (cond _ _ _ :: _) :: _) _ _; first | refine W.gt ?_ | refine W.gf ?_) | (show W _ _ _ _ _ _ [] _ _; refine W.of (.done ?_)) | (apply W.of; constructor <;> first | (show W _ _ _ _ _ _ _ _ _) | (intro (al : Nat) h st; show W _ _ _ _ _ _ _ _ _) | (intro _ h st; show W _ _ _ _ _ _ _ _ _) | exact Sd))); refine W.call (hs := (rp_Copy_full (P := Q) hb hw (by rw [← same_cnt s]; exact hc))) (w := ?_); rintro vv _ ⟨rfl, rfl⟩ h st; refine nj ?_; dsimp only [List.cons_append, List.nil_append] at st
    have st := (st.vsNil 3 true).vsNil 3 true
    (repeat (first | (show W _ _ _ _ _ _ (.code (cond _ _ _) :: _) _ _; first | refine W.ct ?_ | refine W.cf ?_) | (show W _ _ _ _ _ _ (.ins (cond _ _ _ :: _) :: _) _ _; first | refine W.gt ?_ | refine W.gf ?_) | (show W _ _ _ _ _ _ [] _ _; refine W.of (.done ?_)) | (apply W.of; constructor <;> first | (show W _ _ _ _ _ _ _ _ _) | (intro (al : Nat) h st; show W _ _ _ _ _ _ _ _ _) | (intro _ h st; show W _ _ _ _ _ _ _ _ _) | exact Sd))); refine W.call (hs := (ref01_Ints (a := .nilsl) (b := .nilsl) (l := []) (l' := []) (by simp))) (w := ?_); rintro vv _ ⟨rfl, rfl⟩ h st; refine nj ?_; dsimp only [List.cons_append, List.nil_append] at st
    rw [decide_eq_true (rfl : ([] : List Int) = [])]
    (repeat (first | (show W _ _ _ _ _ _ (.code (cond _ _ _) :: _) _ _; first | refine W.ct ?_ | refine W.cf ?_) | (show W _ _ _ _ _ _ (.ins (cond _ _ _ :: _) :: _) _ _; first | refine W.gt ?_ | refine W.gf ?_) | (show W _ _ _ _ _ _ [] _ _; refine W.of (.done ?_)) | (apply W.of; constructor <;> first | (show W _ _ _ _ _ _ _ _ _) | (intro (al : Nat) h st; show W _ _ _ _ _ _ _ _ _) | (intro _ h st; show W _ _ _ _ _ _ _ _ _) | exact Sd)))
    exact W.sub Sbs (aa_tail (B := B) (x := x) hlt h80 s (st.sel Sels))
  · obtain ⟨O, hb⟩ := s.some ha
    have hl1 := (hok a ha).n4
    have hl2 := (hok a ha).len
    have hgl : (outC a x.lo x.hi).length ≤ 100000 := by
      rw [outC, List.length_map]
      have h1 := usedP_len (an := slc a.an x.lo x.hi) (o := 0)
      have h3 := slc_le (cs := a.an) (lo := x.lo) (hi := x.hi)
      omega
    refine nj ?_
    dsimp only [List.cons_append, List.nil_append] at st
    (repeat (first | (show W _ _ _ _ _ _ (.code (cond _ _ _) :: _) _ _; first | refine W.ct ?_ | refine W.cf ?_) | (show W _ _ _ _ _ _ (.ins (cond _ _ _ :: _) :: _) _ _; first | refine W.gt ?_ | refine W.gf ?_) | (show W _ _ _ _ _ _ [] _ _; refine W.of (.done ?_)) | (apply W.of; constructor <;> first | (show W _ _ _ _ _ _ _ _ _) | (intro (al : Nat) h st; show W _ _ _ _ _ _ _ _ _) | (intro _ h st; show W _ _ _ _ _ _ _ _ _) | exact Sd))); refine W.call (hs := (rp_Copy_ok (P := Q) hb hw (by rw [← same_cnt s]; exact hc))) (w := ?_); rintro vv _ ⟨O2, pv, rfl, pj, pl, rfl⟩ h st; refine nj ?_; dsimp only [List.cons_append, List.nil_append] at st
    rw [← same_first s]
    rw [show outC (AmV.mk O a.cs a.an) x.lo x.hi = outC a x.lo x.hi from rfl] at st pl
    (repeat (first | (show W _ _ _ _ _ _ (.code (cond _ _ _) :: _) _ _; first | refine W.ct ?_ | refine W.cf ?_) | (show W _ _ _ _ _ _ (.ins (cond _ _ _ :: _) :: _) _ _; first | refine W.gt ?_ | refine W.gf ?_) | (show W _ _ _ _ _ _ [] _ _; refine W.of (.done ?_)) | (apply W.of; constructor <;> first | (show W _ _ _ _ _ _ _ _ _) | (intro (al : Nat) h st; show W _ _ _ _ _ _ _ _ _) | (intro _ h st; show W _ _ _ _ _ _ _ _ _) | exact Sd)))
    rw [eqS]
    (repeat (first | (show W _ _ _ _ _ _ (.code (cond _ _ _) :: _) _ _; first | refine W.ct ?_ | refine W.cf ?_) | (show W _ _ _ _ _ _ (.ins (cond _ _ _ :: _) :: _) _ _; first | refine W.gt ?_ | refine W.gf ?_) | (show W _ _ _ _ _ _ [] _ _; refine W.of (.done ?_)) | (apply W.of; constructor <;> first | (show W _ _ _ _ _ _ _ _ _) | (intro (al : Nat) h st; show W _ _ _ _ _ _ _ _ _) | (intro _ h st; show W _ _ _ _ _ _ _ _ _) | exact Sd))); refine W.call (hs := (ref01_Ints (a := ov) (b := pv) (l := outC a x.lo x.hi) (l' := outC a x.lo x.hi) hgl)) (w := ?_); rintro vv _ ⟨rfl, rfl⟩ h st; refine nj ?_; dsimp only [List.cons_append, List.nil_append] at st
    rw [decide_eq_true rfl]
    (repeat (first | (show W _ _ _ _ _ _ (.code (cond _ _ _) :: _) _ _; first | refine W.ct ?_ | refine W.cf ?_) | (show W _ _ _ _ _ _ (.ins (cond _ _ _ :: _) :: _) _ _; first | refine W.gt ?_ | refine W.gf ?_) | (show W _ _ _ _ _ _ [] _ _; refine W.of (.done ?_)) | (apply W.of; constructor <;> first | (show W _ _ _ _ _ _ _ _ _) | (intro (al : Nat) h st; show W _ _ _ _ _ _ _ _ _) | (intro _ h st; show W _ _ _ _ _ _ _ _ _) | exact Sd)))
    exact W.sub Sbs (aa_tail (B := B) (x := x) hlt h80 (SameZ.put (a := copyA O1 a x.lo x.hi) (b := copyA O2 ⟨O, a.cs, a.an⟩ x.lo x.hi) s rfl rfl) (st.sel Sels))
set_option maxRecDepth 8000 in
theorem aa_kz (hx : acts[i]? = some x) (h80 : acts.length ≤ 80) (s : SameZ zs ys) (hk0 : ¬ x.kind = 0) (hk1 : ¬ x.kind = 1) (hk2 : ¬ x.kind = 2) (hk3 : ¬ x.kind = 3) (hk4 : ¬ x.kind = 4) (st : St h (aaG P Q most v acts Fr zs ys)) :
    W over tab none c_law13_AmapActs.ntmps Z .normal (.code c_law13_AmapActs_L1 :: .lp (aaJ P Q most look v acts Fr i) :: k) (aaE P Q look v acts.length i) h := by
  have hlt := (List.getElem?_eq_some_iff.1 hx).1
  obtain ⟨gp, gq⟩ := d_arIdx (kk := .i64) st Tk hlt
  (repeat (first | (show W _ _ _ _ _ _ (.code (cond _ _ _) :: _) _ _; first | refine W.ct ?_ | refine W.cf ?_) | (show W _ _ _ _ _ _ (.ins (cond _ _ _ :: _) :: _) _ _; first | refine W.gt ?_ | refine W.gf ?_) | (show W _ _ _ _ _ _ [] _ _; refine W.of (.done ?_)) | (apply W.of; constructor <;> first | (show W _ _ _ _ _ _ _ _ _) | (intro (al : Nat) h st; show W _ _ _ _ _ _ _ _ _) | (intro _ h st; show W _ _ _ _ _ _ _ _ _) | exact Sd))); refine W.do (ho := gp) (w := ?_)
  (repeat (first | (show W _ _ _ _ _ _ (.code (cond _ _ _) :: _) _ _; first | refine W.ct ?_ | refine W.cf ?_) | (show W _ _ _ _ _ _ (.ins (cond _ _ _ :: _) :: _) _ _; first | refine W.gt ?_ | refine W.gf ?_) | (show W _ _ _ _ _ _ [] _ _; refine W.of (.done ?_)) | (apply W.of; constructor <;> first | (show W _ _ _ _ _ _ _ _ _) | (intro (al : Nat) h st; show W _ _ _ _ _ _ _ _ _) | (intro _ h st; show W _ _ _ _ _ _ _ _ _) | exact Sd))); refine W.do (ho := (d_loadar st Tk hx)) (w := ?_)
  (repeat (first | (show W _ _ _ _ _ _ (.code (cond _ _ _) :: _) _ _; first | refine W.ct ?_ | refine W.cf ?_) | (show W _ _ _ _ _ _ (.ins (cond _ _ _ :: _) :: _) _ _; first | refine W.gt ?_ | refine W.gf ?_) | (show W _ _ _ _ _ _ [] _ _; refine W.of (.done ?_)) | (apply W.of; constructor <;> first | (show W _ _ _ _ _ _ _ _ _) | (intro (al : Nat) h st; show W _ _ _ _ _ _ _ _ _) | (intro _ h st; show W _ _ _ _ _ _ _ _ _) | exact Sd)))
  obtain ⟨B, rfl⟩ : ∃ y, y = al := ⟨_, rfl⟩
  exact W.sub Sbs (aa_tail (B := B) (x := x) hlt h80 s (st.sel Sels))
end
end Go.Proofs.Ytjdemlagmamlbaa

namespace Go.Proofs.Ytjdemlagmamlbaa
section
variable {P Q most i : Nat} {look : Int} {v : AV} {acts : List AcP} {Fr : List Chunk} {zs ys : List (Option AmV)} {x : AcP} {h : AHeap} {k : List KI} {Z : AExit → Env → AHeap → Prop}
theorem aa_round (hx : acts[i]? = some x) (h80 : acts.length ≤ 80) (s : SameZ zs ys) (st : St h (aaG P Q most v acts Fr zs ys)) :
    W over tab none c_law13_AmapActs.ntmps Z .normal (.code c_law13_AmapActs_L1 :: .lp (aaJ P Q most look v acts Fr i) :: k) (aaE P Q look v acts.length i) h := by
  by_cases hk0 : x.kind = 0
  · exact aa_k0 hx h80 s hk0 st
  by_cases hk1 : x.kind = 1
  · exact aa_k1 hx h80 s hk1 st
  by_cases hk2 : x.kind = 2
  · exact aa_k2 hx h80 s hk2 st
  by_cases hk3 : x.kind = 3
  · exact aa_k3 hx h80 s hk3 st
  by_cases hk4 : x.kind = 4
  · exact aa_k4 hx h80 s hk4 st
  exact aa_kz hx h80 s hk0 hk1 hk2 hk3 hk4 st
end
set_option maxRecDepth 8000 in
theorem acts13_w {m look : Int} {v : AV} {acts : List AcP} : Spec R (.f n_law13_AmapActs) [.int .i64 m, v, .int .i64 look] [AcPC v acts] fun r _ => r = .bool true := by
  refine spec_in fun h F st => ?_
  obtain ⟨hl, hj⟩ := st.ar Tk
  clear st h F; refine spec_w (fun _ _ _ x => progI_call rfl rfl x) Njs rfl (fun h F st => ?_); dsimp only [List.cons_append, List.nil_append] at st
  by_cases h80 : acts.length ≤ 80
  · (repeat (first | (show W _ _ _ _ _ _ (.code (cond _ _ _) :: _) _ _; first | refine W.ct ?_ | refine W.cf ?_) | (show W _ _ _ _ _ _ (.ins (cond _ _ _ :: _) :: _) _ _; first | refine W.gt ?_ | refine W.gf ?_) | (show W _ _ _ _ _ _ [] _ _; refine W.of (.done ?_)) | (apply W.of; constructor <;> first | (show W _ _ _ _ _ _ _ _ _) | (intro (al : Nat) h st; show W _ _ _ _ _ _ _ _ _) | (intro _ h st; show W _ _ _ _ _ _ _ _ _) | exact Sd)))
    refine W.loop (fun j : Nat => [(0, .int .i64 m), (1, v), (2, .int .i64 look), (40, v), (41, .int .i64 acts.length), (42, .int .i64 j)]) (fun _ => AcPC v acts :: F) (fun j => j ≤ acts.length) (fun j => acts.length - j) 0 (small_rounds (by omega)) Sbs (st.sel Sels) (Nat.zero_le _) ?_
    clear st
    intro j h hjl st
    by_cases hlt : j < acts.length
    · obtain ⟨x, hx⟩ : ∃ x, acts[j]? = some x := ⟨acts[j], by simp [hlt]⟩
      obtain ⟨gp, gq⟩ := d_arIdx (kk := .i64) st Tk hlt
      (repeat (first | (show W _ _ _ _ _ _ (.code (cond _ _ _) :: _) _ _; first | refine W.ct ?_ | refine W.cf ?_) | (show W _ _ _ _ _ _ (.ins (cond _ _ _ :: _) :: _) _ _; first | refine W.gt ?_ | refine W.gf ?_) | (show W _ _ _ _ _ _ [] _ _; refine W.of (.done ?_)) | (apply W.of; constructor <;> first | (show W _ _ _ _ _ _ _ _ _) | (intro (al : Nat) h st; show W _ _ _ _ _ _ _ _ _) | (intro _ h st; show W _ _ _ _ _ _ _ _ _) | exact Sd))); refine W.do (ho := gp) (w := ?_)
      (repeat (first | (show W _ _ _ _ _ _ (.code (cond _ _ _) :: _) _ _; first | refine W.ct ?_ | refine W.cf ?_) | (show W _ _ _ _ _ _ (.ins (cond _ _ _ :: _) :: _) _ _; first | refine W.gt ?_ | refine W.gf ?_) | (show W _ _ _ _ _ _ [] _ _; refine W.of (.done ?_)) | (apply W.of; constructor <;> first | (show W _ _ _ _ _ _ _ _ _) | (intro (al : Nat) h st; show W _ _ _ _ _ _ _ _ _) | (intro _ h st; show W _ _ _ _ _ _ _ _ _) | exact Sd))); refine W.do (ho := (d_loadar st Tk hx)) (w := ?_)
      by_cases hk : x.kind = 0
      · by_cases h2 : x.hi > 200
        · by_cases h4 : x.hi ≤ 4096
          · (repeat (first | (show W _ _ _ _ _ _ (.code (cond _ _ _) :: _) _ _; first | refine W.ct ?_ | refine W.cf ?_) | (show W _ _ _ _ _ _ (.ins (cond _ _ _ :: _) :: _) _ _; first | refine W.gt ?_ | refine W.gf ?_) | (show W _ _ _ _ _ _ [] _ _; refine W.of (.done ?_)) | (apply W.of; constructor <;> first | (show W _ _ _ _ _ _ _ _ _) | (intro (al : Nat) h st; show W _ _ _ _ _ _ _ _ _) | (intro _ h st; show W _ _ _ _ _ _ _ _ _) | exact Sd))); refine W.call (hs := law13_lives) (w := ?_); rintro vv _ ⟨rfl, rfl⟩ h st; refine nj ?_; dsimp only [List.cons_append, List.nil_append] at st
            (repeat (first | (show W _ _ _ _ _ _ (.code (cond _ _ _) :: _) _ _; first | refine W.ct ?_ | refine W.cf ?_) | (show W _ _ _ _ _ _ (.ins (cond _ _ _ :: _) :: _) _ _; first | refine W.gt ?_ | refine W.gf ?_) | (show W _ _ _ _ _ _ [] _ _; refine W.of (.done ?_)) | (apply W.of; constructor <;> first | (show W _ _ _ _ _ _ _ _ _) | (intro (al : Nat) h st; show W _ _ _ _ _ _ _ _ _) | (intro _ h st; show W _ _ _ _ _ _ _ _ _) | exact Sd)))
            exact ⟨_, rfl, [_, _], rfl, st.sel Sels⟩
          · (repeat (first | (show W _ _ _ _ _ _ (.code (cond _ _ _) :: _) _ _; first | refine W.ct ?_ | refine W.cf ?_) | (show W _ _ _ _ _ _ (.ins (cond _ _ _ :: _) :: _) _ _; first | refine W.gt ?_ | refine W.gf ?_) | (show W _ _ _ _ _ _ [] _ _; refine W.of (.done ?_)) | (apply W.of; constructor <;> first | (show W _ _ _ _ _ _ _ _ _) | (intro (al : Nat) h st; show W _ _ _ _ _ _ _ _ _) | (intro _ h st; show W _ _ _ _ _ _ _ _ _) | exact Sd)))
            refine W.of (.lp ?_)
            exact ⟨j + 1, by omega, hlt, Sbs, st.sel Sels⟩
        · (repeat (first | (show W _ _ _ _ _ _ (.code (cond _ _ _) :: _) _ _; first | refine W.ct ?_ | refine W.cf ?_) | (show W _ _ _ _ _ _ (.ins (cond _ _ _ :: _) :: _) _ _; first | refine W.gt ?_ | refine W.gf ?_) | (show W _ _ _ _ _ _ [] _ _; refine W.of (.done ?_)) | (apply W.of; constructor <;> first | (show W _ _ _ _ _ _ _ _ _) | (intro (al : Nat) h st; show W _ _ _ _ _ _ _ _ _) | (intro _ h st; show W _ _ _ _ _ _ _ _ _) | exact Sd)))
          refine W.of (.lp ?_)
          exact ⟨j + 1, by omega, hlt, Sbs, st.sel Sels⟩
      · (repeat (first | (show W _ _ _ _ _ _ (.code (cond _ _ _) :: _) _ _; first | refine W.ct ?_ | refine W.cf ?_) | (show W _ _ _ _ _ _ (.ins (cond _ _ _ :: _) :: _) _ _; first | refine W.gt ?_ | refine W.gf ?_) | (show W _ _ _ _ _ _ [] _ _; refine W.of (.done ?_)) | (apply W.of; constructor <;> first | (show W _ _ _ _ _ _ _ _ _) | (intro (al : Nat) h st; show W _ _ _ _ _ _ _ _ _) | (intro _ h st; show W _ _ _ _ _ _ _ _ _) | exact Sd)))
        refine W.of (.lp ?_)
        exact ⟨j + 1, by omega, hlt, Sbs, st.sel Sels⟩
    · (repeat (first | (show W _ _ _ _ _ _ (.code (cond _ _ _) :: _) _ _; first | refine W.ct ?_ | refine W.cf ?_) | (show W _ _ _ _ _ _ (.ins (cond _ _ _ :: _) :: _) _ _; first | refine W.gt ?_ | refine W.gf ?_) | (show W _ _ _ _ _ _ [] _ _; refine W.of (.done ?_)) | (apply W.of; constructor <;> first | (show W _ _ _ _ _ _ _ _ _) | (intro (al : Nat) h st; show W _ _ _ _ _ _ _ _ _) | (intro _ h st; show W _ _ _ _ _ _ _ _ _) | exact Sd))); refine W.call (hs := (po_New (m := m))) (w := ?_); rintro vv _ (⟨g1, g2, P, rfl, rfl⟩ | ⟨hb, rfl, rfl⟩) h st; refine nj ?_; dsimp only [List.cons_append, List.nil_append] at st
      · (repeat (first | (show W _ _ _ _ _ _ (.code (cond _ _ _) :: _) _ _; first | refine W.ct ?_ | refine W.cf ?_) | (show W _ _ _ _ _ _ (.ins (cond _ _ _ :: _) :: _) _ _; first | refine W.gt ?_ | refine W.gf ?_) | (show W _ _ _ _ _ _ [] _ _; refine W.of (.done ?_)) | (apply W.of; constructor <;> first | (show W _ _ _ _ _ _ _ _ _) | (intro (al : Nat) h st; show W _ _ _ _ _ _ _ _ _) | (intro _ h st; show W _ _ _ _ _ _ _ _ _) | exact Sd))); refine W.call (hs := (rp_New (m := m))) (w := ?_); rintro vv _ (⟨_, _, Q, rfl, rfl⟩ | ⟨hb, _⟩) h st; refine nj ?_; dsimp only [List.cons_append, List.nil_append] at st
        · (repeat (first | (show W _ _ _ _ _ _ (.code (cond _ _ _) :: _) _ _; first | refine W.ct ?_ | refine W.cf ?_) | (show W _ _ _ _ _ _ (.ins (cond _ _ _ :: _) :: _) _ _; first | refine W.gt ?_ | refine W.gf ?_) | (show W _ _ _ _ _ _ [] _ _; refine W.of (.done ?_)) | (apply W.of; constructor <;> first | (show W _ _ _ _ _ _ _ _ _) | (intro (al : Nat) h st; show W _ _ _ _ _ _ _ _ _) | (intro _ h st; show W _ _ _ _ _ _ _ _ _) | exact Sd)))
          refine W.loop (fun y : AaS => aaE P Q look v acts.length y.i) (fun y => aaG P Q m.toNat v acts F y.zs y.ys) (fun y => y.i ≤ acts.length ∧ SameZ y.zs y.ys) (fun y => acts.length - y.i) ⟨0, [], []⟩ (small_rounds (by simp only; omega)) Sbs (st.sel Sels) ⟨Nat.zero_le _, rfl⟩ ?_
          clear st
          intro ⟨i, zs, ys⟩ h ⟨hi, s⟩ st
          dsimp only at hi s st ⊢
          by_cases hlt : i < acts.length
          · obtain ⟨x, hx⟩ : ∃ x, acts[i]? = some x := ⟨acts[i], by simp [hlt]⟩
            exact aa_round hx h80 s st
          · (repeat (first | (show W _ _ _ _ _ _ (.code (cond _ _ _) :: _) _ _; first | refine W.ct ?_ | refine W.cf ?_) | (show W _ _ _ _ _ _ (.ins (cond _ _ _ :: _) :: _) _ _; first | refine W.gt ?_ | refine W.gf ?_) | (show W _ _ _ _ _ _ [] _ _; refine W.of (.done ?_)) | (apply W.of; constructor <;> first | (show W _ _ _ _ _ _ _ _ _) | (intro (al : Nat) h st; show W _ _ _ _ _ _ _ _ _) | (intro _ h st; show W _ _ _ _ _ _ _ _ _) | exact Sd))); refine W.call (hs := law13_lives) (w := ?_); rintro vv _ ⟨rfl, rfl⟩ h st; refine nj ?_; dsimp only [List.cons_append, List.nil_append] at st
            (repeat (first | (show W _ _ _ _ _ _ (.code (cond _ _ _) :: _) _ _; first | refine W.ct ?_ | refine W.cf ?_) | (show W _ _ _ _ _ _ (.ins (cond _ _ _ :: _) :: _) _ _; first | refine W.gt ?_ | refine W.gf ?_) | (show W _ _ _ _ _ _ [] _ _; refine W.of (.done ?_)) | (apply W.of; constructor <;> first | (show W _ _ _ _ _ _ _ _ _) | (intro (al : Nat) h st; show W _ _ _ _ _ _ _ _ _) | (intro _ h st; show W _ _ _ _ _ _ _ _ _) | exact Sd)))
            exact ⟨_, rfl, [_, _, _], rfl, st.sel Sels⟩
        · exact absurd ⟨g1, g2⟩ hb
      · refine nj ?_
        dsimp only [List.cons_append, List.nil_append] at st
        (repeat (first | (show W _ _ _ _ _ _ (.code (cond _ _ _) :: _) _ _; first | refine W.ct ?_ | refine W.cf ?_) | (show W _ _ _ _ _ _ (.ins (cond _ _ _ :: _) :: _) _ _; first | refine W.gt ?_ | refine W.gf ?_) | (show W _ _ _ _ _ _ [] _ _; refine W.of (.done ?_)) | (apply W.of; constructor <;> first | (show W _ _ _ _ _ _ _ _ _) | (intro (al : Nat) h st; show W _ _ _ _ _ _ _ _ _) | (intro _ h st; show W _ _ _ _ _ _ _ _ _) | exact Sd))); refine W.call (hs := (rp_New (m := m))) (w := ?_); rintro vv _ (⟨g1, g2, Q, rfl, rfl⟩ | ⟨_, rfl, rfl⟩) h st; refine nj ?_; dsimp only [List.cons_append, List.nil_append] at st
        · exact absurd ⟨g1, g2⟩ hb
        · refine nj ?_
          dsimp only [List.cons_append, List.nil_append] at st
          (repeat (first | (show W _ _ _ _ _ _ (.code (cond _ _ _) :: _) _ _; first | refine W.ct ?_ | refine W.cf ?_) | (show W _ _ _ _ _ _ (.ins (cond _ _ _ :: _) :: _) _ _; first | refine W.gt ?_ | refine W.gf ?_) | (show W _ _ _ _ _ _ [] _ _; refine W.of (.done ?_)) | (apply W.of; constructor <;> first | (show W _ _ _ _ _ _ _ _ _) | (intro (al : Nat) h st; show W _ _ _ _ _ _ _ _ _) | (intro _ h st; show W _ _ _ _ _ _ _ _ _) | exact Sd))); refine W.call (hs := law13_lives) (w := ?_); rintro vv _ ⟨rfl, rfl⟩ h st; refine nj ?_; dsimp only [List.cons_append, List.nil_append] at st
          (repeat (first | (show W _ _ _ _ _ _ (.code (cond _ _ _) :: _) _ _; first | refine W.ct ?_ | refine W.cf ?_) | (show W _ _ _ _ _ _ (.ins (cond _ _ _ :: _) :: _) _ _; first | refine W.gt ?_ | refine W.gf ?_) | (show W _ _ _ _ _ _ [] _ _; refine W.of (.done ?_)) | (apply W.of; constructor <;> first | (show W _ _ _ _ _ _ _ _ _) | (intro (al : Nat) h st; show W _ _ _ _ _ _ _ _ _) | (intro _ h st; show W _ _ _ _ _ _ _ _ _) | exact Sd)))
          exact ⟨_, rfl, [_], rfl, st.sel Sels⟩
  · (repeat (first | (show W _ _ _ _ _ _ (.code (cond _ _ _) :: _) _ _; first | refine W.ct ?_ | refine W.cf ?_) | (show W _ _ _ _ _ _ (.ins (cond _ _ _ :: _) :: _) _ _; first | refine W.gt ?_ | refine W.gf ?_) | (show W _ _ _ _ _ _ [] _ _; refine W.of (.done ?_)) | (apply W.of; constructor <;> first | (show W _ _ _ _ _ _ _ _ _) | (intro (al : Nat) h st; show W _ _ _ _ _ _ _ _ _) | (intro _ h st; show W _ _ _ _ _ _ _ _ _) | exact Sd))); refine W.call (hs := law13_lives) (w := ?_); rintro vv _ ⟨rfl, rfl⟩ h st; refine nj ?_; dsimp only [List.cons_append, List.nil_append] at st
    (repeat (first | (show W _ _ _ _ _ _ (.code (cond _ _ _) :: _) _ _; first | refine W.ct ?_ | refine W.cf ?_) | (show W _ _ _ _ _ _ (.ins (cond _ _ _ :: _) :: _) _ _; first | refine W.gt ?_ | refine W.gf ?_) | (show W _ _ _ _ _ _ [] _ _; refine W.of (.done ?_)) | (apply W.of; constructor <;> first | (show W _ _ _ _ _ _ _ _ _) | (intro (al : Nat) h st; show W _ _ _ _ _ _ _ _ _) | (intro _ h st; show W _ _ _ _ _ _ _ _ _) | exact Sd)))
    exact ⟨_, rfl, [_], rfl, st.sel Sels⟩
end Go.Proofs.Ytjdemlagmamlbaa
