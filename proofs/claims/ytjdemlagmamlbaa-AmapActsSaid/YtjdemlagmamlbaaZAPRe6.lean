/- BY PROGRAM (wip/tool/shake.py): own texts, one behind the other, without what is not needed. -/
import Derived.Control
import Derived.Calls
import Derived.KernelRfl
import Derived.Laws.Sem
import Derived.Laws.Cells
import Derived.Laws.World
import GoSem.Dispatch
import Derived.Laws.StructEq
import Derived.IntWalk
import Derived.WideKeyRuns
import Derived.Laws.BytesArg
import Derived.Orders
import Derived.ChangeArms
import Derived.OpenShut
import Derived.ChangeShapes
import Derived.ProofKit
import Derived.Test.YtjdemlagmamlbaaProg
import Derived.Test.YtjdemlagmamlbaaRows
import Derived.Test.YtjdemlagmamlbaaZAPRe5

namespace Go.Proofs.Ytjdemlagmamlbaa
variable {D : Nat} {cs : List Int}
theorem addL_get {lo hi by' : Int} : ∀ {cs : List Int} {o : Int} {i : Nat}, (addL o cs lo hi by')[i]? = cs[i]?.map fun c => if lo ≤ o + i ∧ o + i < hi then c + by' else c
  | [], o, i => by simp [addL]
  | c :: cs, o, 0 => by simp [addL]
  | c :: cs, o, i + 1 => by
    rw [addL, List.getElem?_cons_succ, addL_get, List.getElem?_cons_succ]
    rw [show o + 1 + (i : Int) = o + ((i + 1 : Nat) : Int) by omega]
theorem addL_step {lo by' c : Int} {i : Nat} (hc : cs[i]? = some c) (hl : lo ≤ i) : (addL 0 cs lo i by').set i (c + by') = addL 0 cs lo (i + 1) by' := by
  apply List.ext_getElem?
  intro j
  rw [List.getElem?_set, addL_get, addL_get, addL_length]
  by_cases e : i = j
  · subst e
    rw [if_pos rfl, if_pos (List.getElem?_eq_some_iff.1 hc).1, hc, Option.map_some, if_pos (by omega)]
  · rw [if_neg e]
    congr 1
    funext c
    by_cases h : lo ≤ 0 + (j : Int) ∧ 0 + (j : Int) < i
    · rw [if_pos h, if_pos (by omega)]
    · rw [if_neg h, if_neg (by omega)]
theorem addL_same {lo by' : Int} : addL 0 cs lo lo by' = cs := by
  apply List.ext_getElem?
  intro j
  rw [addL_get]
  cases cs[j]? with
  | none => rfl
  | some c => rw [Option.map_some, if_neg (by omega)]
theorem slc_get {lo hi : Int} {j : Nat} (_ : 0 ≤ lo) (hj : (j : Int) < hi - lo) : (slc cs lo hi)[j]? = cs[lo.toNat + j]? := by
  unfold slc
  rw [List.getElem?_take, if_pos (by omega), List.getElem?_drop]
abbrev raPost (D : Nat) (cs : List Int) (lo hi by' : Int) (r : AV) (Rs : List Chunk) : Prop :=
    (AddOk cs lo hi by' ∧ ∃ gv, r = .tuple [gv, .int .i64 0] ∧ gv.notJunk = some gv ∧ sliceLen gv = some (goneP lo (slc cs lo hi) by').length ∧ Rs = [VsC gv 3 ((goneP lo (slc cs lo hi) by').map ikey) true, RcC D (addL 0 cs lo hi by')]) ∨
    (¬ AddOk cs lo hi by' ∧ r = .tuple [.nilsl, .int .i64 2] ∧ Rs = [RcC D cs])
structure RaS where
  j : Nat
  v : AV
theorem rc_add_cnt (hok : RcOk cs) {lo hi by' : Int} (ha : AddOk cs lo hi by') : RcOk (addL 0 cs lo hi by') := ⟨by rw [addL_length]; exact hok.len, fun c hm => by
  rw [addL_eq ha.l0 ha.le ha.h0] at hm
  rcases List.mem_append.1 hm with hm | hm
  · rcases List.mem_append.1 hm with hm | hm
    · exact hok.cnt c (List.mem_of_mem_take hm)
    · obtain ⟨d, hd, rfl⟩ := List.mem_map.1 hm
      have := ha.ok d hd
      omega
  · exact hok.cnt c (List.mem_of_mem_drop hm)⟩
theorem goneP_snoc {by' o c : Int} {a : List Int} : goneP o (a ++ [c]) by' = goneP o a by' ++ if c ≠ 0 ∧ c + by' = 0 then [o + a.length] else [] := by
  rw [goneP_append]
  congr 1
theorem goneP_len {by' : Int} : ∀ {a : List Int} {o : Int}, (goneP o a by').length ≤ a.length
  | [], _ => Nat.le_refl _
  | c :: a, o => by
    have := goneP_len (by' := by') (a := a) (o := o + 1)
    simp only [goneP]
    split <;> simp <;> omega
set_option maxRecDepth 8000 in
theorem rc_Add {lo hi by' : Int} : Spec R (.f n_ref11_Counts_Add) [.ptr D 0, .int .i64 lo, .int .i64 hi, .int .i64 by'] [RcC D cs] (raPost D cs lo hi by') := by
  refine spec_w (fun _ _ _ x => progI_call rfl rfl x) Njs rfl (fun h F st => ?_); dsimp only [List.cons_append, List.nil_append] at st
  obtain ⟨_, ⟨lv, rfl, hok⟩, st⟩ := St.unpack st; dsimp only [List.cons_append, List.nil_append] at st
  obtain ⟨vl, vj, vs⟩ := St.ivs (v := lv) (cs := cs) st Tk
  have hlen := hok.len
  have back : ∀ {h : AHeap} {L R : List Chunk}, St h L → Pick L [.pt D (rcRow lv), VsC lv 3 (cs.map ikey) true] R → St h (RcC D cs :: R) := fun st pk => St.packP (t := 36) (k := .ptr D 0) (P := RcIs D cs) st ⟨lv, rfl, hok⟩ pk
  by_cases h0 : lo < 0
  · (repeat (first | (show W _ _ _ _ _ _ (.code (cond _ _ _) :: _) _ _; first | refine W.ct ?_ | refine W.cf ?_) | (show W _ _ _ _ _ _ (.ins (cond _ _ _ :: _) :: _) _ _; first | refine W.gt ?_ | refine W.gf ?_) | (show W _ _ _ _ _ _ [] _ _; refine W.of (.done ?_)) | (apply W.of; constructor <;> first | (show W _ _ _ _ _ _ _ _ _) | (intro (al : Nat) h st; show W _ _ _ _ _ _ _ _ _) | (intro _ h st; show W _ _ _ _ _ _ _ _ _) | exact Sd)))
    exact ⟨_, rfl, _, .inr ⟨fun h => by have := h.l0; omega, rfl, rfl⟩, back st Pks⟩
  · by_cases h1 : hi > cs.length
    · (repeat (first | (show W _ _ _ _ _ _ (.code (cond _ _ _) :: _) _ _; first | refine W.ct ?_ | refine W.cf ?_) | (show W _ _ _ _ _ _ (.ins (cond _ _ _ :: _) :: _) _ _; first | refine W.gt ?_ | refine W.gf ?_) | (show W _ _ _ _ _ _ [] _ _; refine W.of (.done ?_)) | (apply W.of; constructor <;> first | (show W _ _ _ _ _ _ _ _ _) | (intro (al : Nat) h st; show W _ _ _ _ _ _ _ _ _) | (intro _ h st; show W _ _ _ _ _ _ _ _ _) | exact Sd)))
      exact ⟨_, rfl, _, .inr ⟨fun h => by have := h.h0; omega, rfl, rfl⟩, back st Pks⟩
    · by_cases h2 : lo > hi
      · (repeat (first | (show W _ _ _ _ _ _ (.code (cond _ _ _) :: _) _ _; first | refine W.ct ?_ | refine W.cf ?_) | (show W _ _ _ _ _ _ (.ins (cond _ _ _ :: _) :: _) _ _; first | refine W.gt ?_ | refine W.gf ?_) | (show W _ _ _ _ _ _ [] _ _; refine W.of (.done ?_)) | (apply W.of; constructor <;> first | (show W _ _ _ _ _ _ _ _ _) | (intro (al : Nat) h st; show W _ _ _ _ _ _ _ _ _) | (intro _ h st; show W _ _ _ _ _ _ _ _ _) | exact Sd)))
        exact ⟨_, rfl, _, .inr ⟨fun h => by have := h.le; omega, rfl, rfl⟩, back st Pks⟩
      · obtain ⟨a, rfl⟩ : ∃ a : Nat, lo = (a : Int) := ⟨lo.toNat, by omega⟩
        obtain ⟨b, rfl⟩ : ∃ b : Nat, hi = (b : Int) := ⟨hi.toNat, by omega⟩
        have hsl := slc_len (cs := cs) (lo := (a : Int)) (hi := (b : Int)) (by omega) (by omega) (by omega)
        (repeat (first | (show W _ _ _ _ _ _ (.code (cond _ _ _) :: _) _ _; first | refine W.ct ?_ | refine W.cf ?_) | (show W _ _ _ _ _ _ (.ins (cond _ _ _ :: _) :: _) _ _; first | refine W.gt ?_ | refine W.gf ?_) | (show W _ _ _ _ _ _ [] _ _; refine W.of (.done ?_)) | (apply W.of; constructor <;> first | (show W _ _ _ _ _ _ _ _ _) | (intro (al : Nat) h st; show W _ _ _ _ _ _ _ _ _) | (intro _ h st; show W _ _ _ _ _ _ _ _ _) | exact Sd)))
        obtain ⟨p, p1, p2, p3, p4⟩ := d_midV (a := a) (b := b) (k := (cs.map ikey).length) (e := 3) (l := cs.map ikey) (v := lv) (kk := .i64) (by omega) (by rw [List.length_map]; omega) st Tk
        (repeat (first | (show W _ _ _ _ _ _ (.code (cond _ _ _) :: _) _ _; first | refine W.ct ?_ | refine W.cf ?_) | (show W _ _ _ _ _ _ (.ins (cond _ _ _ :: _) :: _) _ _; first | refine W.gt ?_ | refine W.gf ?_) | (show W _ _ _ _ _ _ [] _ _; refine W.of (.done ?_)) | (apply W.of; constructor <;> first | (show W _ _ _ _ _ _ _ _ _) | (intro (al : Nat) h st; show W _ _ _ _ _ _ _ _ _) | (intro _ h st; show W _ _ _ _ _ _ _ _ _) | exact Sd))); refine W.do (ho := p1) (w := ?_)
        (repeat (first | (show W _ _ _ _ _ _ (.code (cond _ _ _) :: _) _ _; first | refine W.ct ?_ | refine W.cf ?_) | (show W _ _ _ _ _ _ (.ins (cond _ _ _ :: _) :: _) _ _; first | refine W.gt ?_ | refine W.gf ?_) | (show W _ _ _ _ _ _ [] _ _; refine W.of (.done ?_)) | (apply W.of; constructor <;> first | (show W _ _ _ _ _ _ _ _ _) | (intro (al : Nat) h st; show W _ _ _ _ _ _ _ _ _) | (intro _ h st; show W _ _ _ _ _ _ _ _ _) | exact Sd)))
        refine W.loop (fun i : Nat => [(0, .ptr D 0), (1, .int .i64 a), (2, .int .i64 b), (3, .int .i64 by'), (38, p), (39, .int .i64 (b - a : Nat)), (40, .int .i64 i)]) (fun _ => .pt D (rcRow lv) :: VsC lv 3 (cs.map ikey) true :: F)
          (fun i => i ≤ b - a ∧ okBy by' ((slc cs a b).take i)) (fun i => b - a - i) 0 (small_rounds (by omega)) Sbs st ⟨Nat.zero_le _, fun c hc => by simp at hc⟩ ?_
        clear st
        intro i h ⟨hi, hall⟩ st
        by_cases hlt : i < b - a
        · obtain ⟨c, hc⟩ : ∃ c, cs[a + i]? = some c := ⟨cs[a + i]'(by omega), by simp⟩
          have hsc : (slc cs a b)[i]? = some c := by rw [slc_get (by omega) (by omega), Int.toNat_natCast]; exact hc
          have hcn := hok.cnt c (List.mem_of_getElem? hc)
          obtain ⟨q, q1, q2, q3⟩ := (p4 h _ _ st Tk i (ikey c) hlt (by rw [List.getElem?_map, hc]; rfl)).get
          (repeat (first | (show W _ _ _ _ _ _ (.code (cond _ _ _) :: _) _ _; first | refine W.ct ?_ | refine W.cf ?_) | (show W _ _ _ _ _ _ (.ins (cond _ _ _ :: _) :: _) _ _; first | refine W.gt ?_ | refine W.gf ?_) | (show W _ _ _ _ _ _ [] _ _; refine W.of (.done ?_)) | (apply W.of; constructor <;> first | (show W _ _ _ _ _ _ _ _ _) | (intro (al : Nat) h st; show W _ _ _ _ _ _ _ _ _) | (intro _ h st; show W _ _ _ _ _ _ _ _ _) | exact Sd)))
          (repeat (first | (show W _ _ _ _ _ _ (.code (cond _ _ _) :: _) _ _; first | refine W.ct ?_ | refine W.cf ?_) | (show W _ _ _ _ _ _ (.ins (cond _ _ _ :: _) :: _) _ _; first | refine W.gt ?_ | refine W.gf ?_) | (show W _ _ _ _ _ _ [] _ _; refine W.of (.done ?_)) | (apply W.of; constructor <;> first | (show W _ _ _ _ _ _ _ _ _) | (intro (al : Nat) h st; show W _ _ _ _ _ _ _ _ _) | (intro _ h st; show W _ _ _ _ _ _ _ _ _) | exact Sd))); refine W.do (ho := (q2 .i64)) (w := ?_)
          (repeat (first | (show W _ _ _ _ _ _ (.code (cond _ _ _) :: _) _ _; first | refine W.ct ?_ | refine W.cf ?_) | (show W _ _ _ _ _ _ (.ins (cond _ _ _ :: _) :: _) _ _; first | refine W.gt ?_ | refine W.gf ?_) | (show W _ _ _ _ _ _ [] _ _; refine W.of (.done ?_)) | (apply W.of; constructor <;> first | (show W _ _ _ _ _ _ _ _ _) | (intro (al : Nat) h st; show W _ _ _ _ _ _ _ _ _) | (intro _ h st; show W _ _ _ _ _ _ _ _ _) | exact Sd))); refine W.do (ho := q3) (w := ?_)
          (repeat (first | (show W _ _ _ _ _ _ (.code (cond _ _ _) :: _) _ _; first | refine W.ct ?_ | refine W.cf ?_) | (show W _ _ _ _ _ _ (.ins (cond _ _ _ :: _) :: _) _ _; first | refine W.gt ?_ | refine W.gf ?_) | (show W _ _ _ _ _ _ [] _ _; refine W.of (.done ?_)) | (apply W.of; constructor <;> first | (show W _ _ _ _ _ _ _ _ _) | (intro (al : Nat) h st; show W _ _ _ _ _ _ _ _ _) | (intro _ h st; show W _ _ _ _ _ _ _ _ _) | exact Sd)))
          rw [wrap64 (n := 0 - c) (by omega) (by omega)]
          by_cases hb1 : by' < 0 - c
          · (repeat (first | (show W _ _ _ _ _ _ (.code (cond _ _ _) :: _) _ _; first | refine W.ct ?_ | refine W.cf ?_) | (show W _ _ _ _ _ _ (.ins (cond _ _ _ :: _) :: _) _ _; first | refine W.gt ?_ | refine W.gf ?_) | (show W _ _ _ _ _ _ [] _ _; refine W.of (.done ?_)) | (apply W.of; constructor <;> first | (show W _ _ _ _ _ _ _ _ _) | (intro (al : Nat) h st; show W _ _ _ _ _ _ _ _ _) | (intro _ h st; show W _ _ _ _ _ _ _ _ _) | exact Sd)))
            exact ⟨_, rfl, _, .inr ⟨fun h => by have := h.ok c (List.mem_of_getElem? hsc); omega, rfl, rfl⟩, back st Pks⟩
          · by_cases hb2 : by' > 1000000 - c
            · (repeat (first | (show W _ _ _ _ _ _ (.code (cond _ _ _) :: _) _ _; first | refine W.ct ?_ | refine W.cf ?_) | (show W _ _ _ _ _ _ (.ins (cond _ _ _ :: _) :: _) _ _; first | refine W.gt ?_ | refine W.gf ?_) | (show W _ _ _ _ _ _ [] _ _; refine W.of (.done ?_)) | (apply W.of; constructor <;> first | (show W _ _ _ _ _ _ _ _ _) | (intro (al : Nat) h st; show W _ _ _ _ _ _ _ _ _) | (intro _ h st; show W _ _ _ _ _ _ _ _ _) | exact Sd)))
              exact ⟨_, rfl, _, .inr ⟨fun h => by have := h.ok c (List.mem_of_getElem? hsc); omega, rfl, rfl⟩, back st Pks⟩
            · (repeat (first | (show W _ _ _ _ _ _ (.code (cond _ _ _) :: _) _ _; first | refine W.ct ?_ | refine W.cf ?_) | (show W _ _ _ _ _ _ (.ins (cond _ _ _ :: _) :: _) _ _; first | refine W.gt ?_ | refine W.gf ?_) | (show W _ _ _ _ _ _ [] _ _; refine W.of (.done ?_)) | (apply W.of; constructor <;> first | (show W _ _ _ _ _ _ _ _ _) | (intro (al : Nat) h st; show W _ _ _ _ _ _ _ _ _) | (intro _ h st; show W _ _ _ _ _ _ _ _ _) | exact Sd)))
              refine W.of (.lp ?_)
              refine ⟨i + 1, by omega, ⟨hlt, fun d hd => ?_⟩, Sbs, st.sel Sels⟩
              rw [take_snoc1 hsc] at hd
              rcases List.mem_append.1 hd with hd | hd
              · exact hall d hd
              · rw [List.mem_singleton.1 hd]; omega
        · have e : i = b - a := by omega
          subst e
          rw [List.take_of_length_le (by omega)] at hall
          have ha : AddOk cs a b by' := ⟨by omega, by omega, by omega, hall⟩
          (repeat (first | (show W _ _ _ _ _ _ (.code (cond _ _ _) :: _) _ _; first | refine W.ct ?_ | refine W.cf ?_) | (show W _ _ _ _ _ _ (.ins (cond _ _ _ :: _) :: _) _ _; first | refine W.gt ?_ | refine W.gf ?_) | (show W _ _ _ _ _ _ [] _ _; refine W.of (.done ?_)) | (apply W.of; constructor <;> first | (show W _ _ _ _ _ _ _ _ _) | (intro (al : Nat) h st; show W _ _ _ _ _ _ _ _ _) | (intro _ h st; show W _ _ _ _ _ _ _ _ _) | exact Sd)))
          have st := St.vsRow (l := []) (e := 3) st Tk rfl
          (repeat (first | (show W _ _ _ _ _ _ (.code (cond _ _ _) :: _) _ _; first | refine W.ct ?_ | refine W.cf ?_) | (show W _ _ _ _ _ _ (.ins (cond _ _ _ :: _) :: _) _ _; first | refine W.gt ?_ | refine W.gf ?_) | (show W _ _ _ _ _ _ [] _ _; refine W.of (.done ?_)) | (apply W.of; constructor <;> first | (show W _ _ _ _ _ _ _ _ _) | (intro (al : Nat) h st; show W _ _ _ _ _ _ _ _ _) | (intro _ h st; show W _ _ _ _ _ _ _ _ _) | exact Sd))); refine W.ef (ho := (e_vsAppend (l := []) (l' := cs.map ikey) st Tk Tk (by simp; omega) (by simp; omega))) (w := ?_); rintro vv h ⟨bj, bl, st⟩; refine nj ?_
          obtain ⟨v2, rfl⟩ : ∃ y, y = vv := ⟨_, rfl⟩
          rw [List.nil_append] at st
          have st := st.vsNil 3 true
          (repeat (first | (show W _ _ _ _ _ _ (.code (cond _ _ _) :: _) _ _; first | refine W.ct ?_ | refine W.cf ?_) | (show W _ _ _ _ _ _ (.ins (cond _ _ _ :: _) :: _) _ _; first | refine W.gt ?_ | refine W.gf ?_) | (show W _ _ _ _ _ _ [] _ _; refine W.of (.done ?_)) | (apply W.of; constructor <;> first | (show W _ _ _ _ _ _ _ _ _) | (intro (al : Nat) h st; show W _ _ _ _ _ _ _ _ _) | (intro _ h st; show W _ _ _ _ _ _ _ _ _) | exact Sd)))
          refine W.loop (fun y : RaS => [(0, .ptr D 0), (2, .int .i64 b), (3, .int .i64 by'), (12, v2), (13, y.v), (14, .int .i64 ((a + y.j : Nat) : Int))]) (fun y => VsC v2 3 ((addL 0 cs a ((a + y.j : Nat) : Int) by').map ikey) true :: VsC y.v 3 ((goneP a ((slc cs a b).take y.j) by').map ikey) true :: .pt D (rcRow lv) :: F)
            (fun y => y.j ≤ b - a) (fun y => b - a - y.j) ⟨0, .nilsl⟩ (small_rounds (by simp only; omega)) Sbs ?_ (Nat.zero_le _) ?_
          · dsimp only
            rw [Nat.add_zero, addL_same, List.take_zero]
            exact st.sel Sels
          clear st
          intro ⟨j, gv⟩ h hj st
          dsimp only at hj st ⊢
          have hgl : (goneP a ((slc cs a b).take j) by').length ≤ 4096 := Nat.le_trans goneP_len (by rw [List.length_take]; omega)
          obtain ⟨wl, wj, ws⟩ := St.ivs (v := v2) (cs := addL 0 cs a ((a + j : Nat) : Int) by') st Tk
          obtain ⟨gl, gj, gs⟩ := St.ivs (v := gv) (cs := goneP a ((slc cs a b).take j) by') st Tk
          rw [addL_length] at wl
          by_cases hlt : j < b - a
          · obtain ⟨c, hc⟩ : ∃ c, cs[a + j]? = some c := ⟨cs[a + j]'(by omega), by simp⟩
            have hsc : (slc cs a b)[j]? = some c := by rw [slc_get (by omega) (by omega), Int.toNat_natCast]; exact hc
            have hcn := hok.cnt c (List.mem_of_getElem? hc)
            have hby := hall c (List.mem_of_getElem? hsc)
            have hac : (addL 0 cs a ((a + j : Nat) : Int) by')[a + j]? = some c := by rw [addL_get, hc, Option.map_some, if_neg (by omega)]
            have est := addL_step (lo := (a : Int)) (by' := by') hc (by omega)
            obtain ⟨gp, gq⟩ := d_vsIdx (v := v2) (l := (addL 0 cs a ((a + j : Nat) : Int) by').map ikey) (i := a + j) (kk := .i64) st Tk (by rw [List.length_map, addL_length]; omega)
            have hld := d_vsLoad (v := v2) (l := (addL 0 cs a ((a + j : Nat) : Int) by').map ikey) (x := ikey c) st Tk (by rw [List.getElem?_map, hac]; rfl)
            (repeat (first | (show W _ _ _ _ _ _ (.code (cond _ _ _) :: _) _ _; first | refine W.ct ?_ | refine W.cf ?_) | (show W _ _ _ _ _ _ (.ins (cond _ _ _ :: _) :: _) _ _; first | refine W.gt ?_ | refine W.gf ?_) | (show W _ _ _ _ _ _ [] _ _; refine W.of (.done ?_)) | (apply W.of; constructor <;> first | (show W _ _ _ _ _ _ _ _ _) | (intro (al : Nat) h st; show W _ _ _ _ _ _ _ _ _) | (intro _ h st; show W _ _ _ _ _ _ _ _ _) | exact Sd))); refine W.do (ho := gp) (w := ?_)
            (repeat (first | (show W _ _ _ _ _ _ (.code (cond _ _ _) :: _) _ _; first | refine W.ct ?_ | refine W.cf ?_) | (show W _ _ _ _ _ _ (.ins (cond _ _ _ :: _) :: _) _ _; first | refine W.gt ?_ | refine W.gf ?_) | (show W _ _ _ _ _ _ [] _ _; refine W.of (.done ?_)) | (apply W.of; constructor <;> first | (show W _ _ _ _ _ _ _ _ _) | (intro (al : Nat) h st; show W _ _ _ _ _ _ _ _ _) | (intro _ h st; show W _ _ _ _ _ _ _ _ _) | exact Sd))); refine W.do (ho := hld) (w := ?_)
            (repeat (first | (show W _ _ _ _ _ _ (.code (cond _ _ _) :: _) _ _; first | refine W.ct ?_ | refine W.cf ?_) | (show W _ _ _ _ _ _ (.ins (cond _ _ _ :: _) :: _) _ _; first | refine W.gt ?_ | refine W.gf ?_) | (show W _ _ _ _ _ _ [] _ _; refine W.of (.done ?_)) | (apply W.of; constructor <;> first | (show W _ _ _ _ _ _ _ _ _) | (intro (al : Nat) h st; show W _ _ _ _ _ _ _ _ _) | (intro _ h st; show W _ _ _ _ _ _ _ _ _) | exact Sd))); refine W.do (ho := gp) (w := ?_)
            (repeat (first | (show W _ _ _ _ _ _ (.code (cond _ _ _) :: _) _ _; first | refine W.ct ?_ | refine W.cf ?_) | (show W _ _ _ _ _ _ (.ins (cond _ _ _ :: _) :: _) _ _; first | refine W.gt ?_ | refine W.gf ?_) | (show W _ _ _ _ _ _ [] _ _; refine W.of (.done ?_)) | (apply W.of; constructor <;> first | (show W _ _ _ _ _ _ _ _ _) | (intro (al : Nat) h st; show W _ _ _ _ _ _ _ _ _) | (intro _ h st; show W _ _ _ _ _ _ _ _ _) | exact Sd))); refine W.do (ho := hld) (w := ?_)
            (repeat (first | (show W _ _ _ _ _ _ (.code (cond _ _ _) :: _) _ _; first | refine W.ct ?_ | refine W.cf ?_) | (show W _ _ _ _ _ _ (.ins (cond _ _ _ :: _) :: _) _ _; first | refine W.gt ?_ | refine W.gf ?_) | (show W _ _ _ _ _ _ [] _ _; refine W.of (.done ?_)) | (apply W.of; constructor <;> first | (show W _ _ _ _ _ _ _ _ _) | (intro (al : Nat) h st; show W _ _ _ _ _ _ _ _ _) | (intro _ h st; show W _ _ _ _ _ _ _ _ _) | exact Sd))); refine W.do (ho := gp) (w := ?_)
            (repeat (first | (show W _ _ _ _ _ _ (.code (cond _ _ _) :: _) _ _; first | refine W.ct ?_ | refine W.cf ?_) | (show W _ _ _ _ _ _ (.ins (cond _ _ _ :: _) :: _) _ _; first | refine W.gt ?_ | refine W.gf ?_) | (show W _ _ _ _ _ _ [] _ _; refine W.of (.done ?_)) | (apply W.of; constructor <;> first | (show W _ _ _ _ _ _ _ _ _) | (intro (al : Nat) h st; show W _ _ _ _ _ _ _ _ _) | (intro _ h st; show W _ _ _ _ _ _ _ _ _) | exact Sd))); refine W.ef0 (ho := (e_vsStore (v := v2) (l := (addL 0 cs a ((a + j : Nat) : Int) by').map ikey) (i := a + j) st Tk (by rw [List.length_map, addL_length]; omega) rfl)) (w := ?_); rintro _ h ⟨_, st⟩
            rw [← List.map_set (f := ikey), est, show ((a + j : Nat) : Int) + 1 = ((a + (j + 1) : Nat) : Int) by omega] at st
            have hac2 : (addL 0 cs a ((a + (j + 1) : Nat) : Int) by')[a + j]? = some (c + by') := by rw [addL_get, hc, Option.map_some, if_pos (by omega)]
            have eg : goneP a ((slc cs a b).take (j + 1)) by' = goneP a ((slc cs a b).take j) by' ++ if c ≠ 0 ∧ c + by' = 0 then [(a : Int) + j] else [] := by
              rw [take_snoc1 hsc, goneP_snoc, List.length_take, Nat.min_eq_left (by omega)]
            by_cases hz : c = 0
            · rw [if_neg (by omega), List.append_nil] at eg
              rw [← eg] at st
              (repeat (first | (show W _ _ _ _ _ _ (.code (cond _ _ _) :: _) _ _; first | refine W.ct ?_ | refine W.cf ?_) | (show W _ _ _ _ _ _ (.ins (cond _ _ _ :: _) :: _) _ _; first | refine W.gt ?_ | refine W.gf ?_) | (show W _ _ _ _ _ _ [] _ _; refine W.of (.done ?_)) | (apply W.of; constructor <;> first | (show W _ _ _ _ _ _ _ _ _) | (intro (al : Nat) h st; show W _ _ _ _ _ _ _ _ _) | (intro _ h st; show W _ _ _ _ _ _ _ _ _) | exact Sd)))
              refine W.of (.lp ?_)
              exact ⟨⟨j + 1, gv⟩, by simp only; omega, hlt, ⟨rfl, rfl, rfl, rfl, rfl, by simp only [look]; congr 2, trivial⟩, st.sel Sels⟩
            · obtain ⟨gp2, gq2⟩ := d_vsIdx (v := v2) (l := (addL 0 cs a ((a + (j + 1) : Nat) : Int) by').map ikey) (i := a + j) (kk := .i64) st Tk (by rw [List.length_map, addL_length]; omega)
              (repeat (first | (show W _ _ _ _ _ _ (.code (cond _ _ _) :: _) _ _; first | refine W.ct ?_ | refine W.cf ?_) | (show W _ _ _ _ _ _ (.ins (cond _ _ _ :: _) :: _) _ _; first | refine W.gt ?_ | refine W.gf ?_) | (show W _ _ _ _ _ _ [] _ _; refine W.of (.done ?_)) | (apply W.of; constructor <;> first | (show W _ _ _ _ _ _ _ _ _) | (intro (al : Nat) h st; show W _ _ _ _ _ _ _ _ _) | (intro _ h st; show W _ _ _ _ _ _ _ _ _) | exact Sd)))
              (repeat (first | (show W _ _ _ _ _ _ (.code (cond _ _ _) :: _) _ _; first | refine W.ct ?_ | refine W.cf ?_) | (show W _ _ _ _ _ _ (.ins (cond _ _ _ :: _) :: _) _ _; first | refine W.gt ?_ | refine W.gf ?_) | (show W _ _ _ _ _ _ [] _ _; refine W.of (.done ?_)) | (apply W.of; constructor <;> first | (show W _ _ _ _ _ _ _ _ _) | (intro (al : Nat) h st; show W _ _ _ _ _ _ _ _ _) | (intro _ h st; show W _ _ _ _ _ _ _ _ _) | exact Sd))); refine W.do (ho := gp2) (w := ?_)
              (repeat (first | (show W _ _ _ _ _ _ (.code (cond _ _ _) :: _) _ _; first | refine W.ct ?_ | refine W.cf ?_) | (show W _ _ _ _ _ _ (.ins (cond _ _ _ :: _) :: _) _ _; first | refine W.gt ?_ | refine W.gf ?_) | (show W _ _ _ _ _ _ [] _ _; refine W.of (.done ?_)) | (apply W.of; constructor <;> first | (show W _ _ _ _ _ _ _ _ _) | (intro (al : Nat) h st; show W _ _ _ _ _ _ _ _ _) | (intro _ h st; show W _ _ _ _ _ _ _ _ _) | exact Sd))); refine W.do (ho := (d_vsLoad (v := v2) (l := (addL 0 cs a ((a + (j + 1) : Nat) : Int) by').map ikey) (x := ikey (c + by')) st Tk (by rw [List.getElem?_map, hac2]; rfl))) (w := ?_)
              (repeat (first | (show W _ _ _ _ _ _ (.code (cond _ _ _) :: _) _ _; first | refine W.ct ?_ | refine W.cf ?_) | (show W _ _ _ _ _ _ (.ins (cond _ _ _ :: _) :: _) _ _; first | refine W.gt ?_ | refine W.gf ?_) | (show W _ _ _ _ _ _ [] _ _; refine W.of (.done ?_)) | (apply W.of; constructor <;> first | (show W _ _ _ _ _ _ _ _ _) | (intro (al : Nat) h st; show W _ _ _ _ _ _ _ _ _) | (intro _ h st; show W _ _ _ _ _ _ _ _ _) | exact Sd)))
              by_cases hz2 : c + by' = 0
              · rw [if_pos ⟨hz, hz2⟩] at eg
                (repeat (first | (show W _ _ _ _ _ _ (.code (cond _ _ _) :: _) _ _; first | refine W.ct ?_ | refine W.cf ?_) | (show W _ _ _ _ _ _ (.ins (cond _ _ _ :: _) :: _) _ _; first | refine W.gt ?_ | refine W.gf ?_) | (show W _ _ _ _ _ _ [] _ _; refine W.of (.done ?_)) | (apply W.of; constructor <;> first | (show W _ _ _ _ _ _ _ _ _) | (intro (al : Nat) h st; show W _ _ _ _ _ _ _ _ _) | (intro _ h st; show W _ _ _ _ _ _ _ _ _) | exact Sd)))
                have st := St.vsRow (l := [.int .i64 ((a + j : Nat) : Int)]) (e := 3) st Tk rfl
                (repeat (first | (show W _ _ _ _ _ _ (.code (cond _ _ _) :: _) _ _; first | refine W.ct ?_ | refine W.cf ?_) | (show W _ _ _ _ _ _ (.ins (cond _ _ _ :: _) :: _) _ _; first | refine W.gt ?_ | refine W.gf ?_) | (show W _ _ _ _ _ _ [] _ _; refine W.of (.done ?_)) | (apply W.of; constructor <;> first | (show W _ _ _ _ _ _ _ _ _) | (intro (al : Nat) h st; show W _ _ _ _ _ _ _ _ _) | (intro _ h st; show W _ _ _ _ _ _ _ _ _) | exact Sd))); refine W.ef (ho := (e_vsAppend (s := gv) (l' := [.int .i64 ((a + j : Nat) : Int)]) st Tk Tk (by simp; omega) (by simp; omega))) (w := ?_); rintro vv h ⟨cj, cl, st⟩; refine nj ?_
                rw [show (goneP a ((slc cs a b).take j) by').map ikey ++ [.int .i64 ((a + j : Nat) : Int)] = (goneP a ((slc cs a b).take (j + 1)) by').map ikey by rw [eg, List.map_append]; rfl] at st
                (repeat (first | (show W _ _ _ _ _ _ (.code (cond _ _ _) :: _) _ _; first | refine W.ct ?_ | refine W.cf ?_) | (show W _ _ _ _ _ _ (.ins (cond _ _ _ :: _) :: _) _ _; first | refine W.gt ?_ | refine W.gf ?_) | (show W _ _ _ _ _ _ [] _ _; refine W.of (.done ?_)) | (apply W.of; constructor <;> first | (show W _ _ _ _ _ _ _ _ _) | (intro (al : Nat) h st; show W _ _ _ _ _ _ _ _ _) | (intro _ h st; show W _ _ _ _ _ _ _ _ _) | exact Sd)))
                refine W.of (.lp ?_)
                exact ⟨⟨j + 1, vv⟩, by simp only; omega, hlt, ⟨rfl, rfl, rfl, rfl, rfl, by simp only [look]; congr 2, trivial⟩, st.sel Sels⟩
              · rw [if_neg (by omega), List.append_nil] at eg
                rw [← eg] at st
                (repeat (first | (show W _ _ _ _ _ _ (.code (cond _ _ _) :: _) _ _; first | refine W.ct ?_ | refine W.cf ?_) | (show W _ _ _ _ _ _ (.ins (cond _ _ _ :: _) :: _) _ _; first | refine W.gt ?_ | refine W.gf ?_) | (show W _ _ _ _ _ _ [] _ _; refine W.of (.done ?_)) | (apply W.of; constructor <;> first | (show W _ _ _ _ _ _ _ _ _) | (intro (al : Nat) h st; show W _ _ _ _ _ _ _ _ _) | (intro _ h st; show W _ _ _ _ _ _ _ _ _) | exact Sd)))
                refine W.of (.lp ?_)
                exact ⟨⟨j + 1, gv⟩, by simp only; omega, hlt, ⟨rfl, rfl, rfl, rfl, rfl, by simp only [look]; congr 2, trivial⟩, st.sel Sels⟩
          · have e : j = b - a := by omega
            subst e
            rw [List.take_of_length_le (by omega)] at st gl
            rw [show ((a + (b - a) : Nat) : Int) = (b : Int) by omega] at st ⊢
            (repeat (first | (show W _ _ _ _ _ _ (.code (cond _ _ _) :: _) _ _; first | refine W.ct ?_ | refine W.cf ?_) | (show W _ _ _ _ _ _ (.ins (cond _ _ _ :: _) :: _) _ _; first | refine W.gt ?_ | refine W.gf ?_) | (show W _ _ _ _ _ _ [] _ _; refine W.of (.done ?_)) | (apply W.of; constructor <;> first | (show W _ _ _ _ _ _ _ _ _) | (intro (al : Nat) h st; show W _ _ _ _ _ _ _ _ _) | (intro _ h st; show W _ _ _ _ _ _ _ _ _) | exact Sd)))
            (repeat (first | (show W _ _ _ _ _ _ (.code (cond _ _ _) :: _) _ _; first | refine W.ct ?_ | refine W.cf ?_) | (show W _ _ _ _ _ _ (.ins (cond _ _ _ :: _) :: _) _ _; first | refine W.gt ?_ | refine W.gf ?_) | (show W _ _ _ _ _ _ [] _ _; refine W.of (.done ?_)) | (apply W.of; constructor <;> first | (show W _ _ _ _ _ _ _ _ _) | (intro (al : Nat) h st; show W _ _ _ _ _ _ _ _ _) | (intro _ h st; show W _ _ _ _ _ _ _ _ _) | exact Sd))); refine W.ef0 (ho := (e_storeV (i := 0) st Tk rfl (by simp) (sl_dat wl))) (w := ?_); rintro _ h ⟨_, st⟩
            (repeat (first | (show W _ _ _ _ _ _ (.code (cond _ _ _) :: _) _ _; first | refine W.ct ?_ | refine W.cf ?_) | (show W _ _ _ _ _ _ (.ins (cond _ _ _ :: _) :: _) _ _; first | refine W.gt ?_ | refine W.gf ?_) | (show W _ _ _ _ _ _ [] _ _; refine W.of (.done ?_)) | (apply W.of; constructor <;> first | (show W _ _ _ _ _ _ _ _ _) | (intro (al : Nat) h st; show W _ _ _ _ _ _ _ _ _) | (intro _ h st; show W _ _ _ _ _ _ _ _ _) | exact Sd)))
            have st := St.packP (t := 36) (k := .ptr D 0) (P := RcIs D (addL 0 cs a b by')) (cs := [.pt D (rcRow v2), VsC v2 3 ((addL 0 cs a b by').map ikey) true]) st ⟨v2, rfl, rc_add_cnt hok ha⟩ Pks
            exact ⟨_, rfl, _, .inl ⟨ha, gv, rfl, gj, gl, rfl⟩, st.sel Sels⟩
end Go.Proofs.Ytjdemlagmamlbaa

namespace Go.Proofs.Ytjdemlagmamlbaa
variable {D : Nat} {cs : List Int}
structure SaS where
  i : Nat
  l : List RunV
  n : Int
  cs : List Int
structure SaOk (l : List RunV) (n : Int) (cs : List Int) : Prop where
  e : expand l = cs
  n : (cs.length : Int) = n
end Go.Proofs.Ytjdemlagmamlbaa

namespace Go.Proofs.Ytjdemlagmamlbaa
theorem args1 {h : AHeap} {s : Sh} {avs : List AV} (ha : ArgsA h [s] avs) : ∃ x, avs = [x] ∧ ArgA h s x := by
  cases avs with
  | nil => exact ha.elim
  | cons x vs =>
    obtain ⟨h1, hr⟩ := ha
    cases vs with
    | cons => exact hr.elim
    | nil => exact ⟨x, rfl, h1⟩
theorem args2 {h : AHeap} {s s' : Sh} {avs : List AV} (ha : ArgsA h [s, s'] avs) : ∃ x y, avs = [x, y] ∧ ArgA h s x ∧ ArgA h s' y := by
  cases avs with
  | nil => exact ha.elim
  | cons x vs =>
    obtain ⟨h1, hr⟩ := ha
    obtain ⟨y, rfl, h2⟩ := args1 hr
    exact ⟨x, y, rfl, h1, h2⟩
theorem args3 {h : AHeap} {s s' s'' : Sh} {avs : List AV} (ha : ArgsA h [s, s', s''] avs) : ∃ x y z, avs = [x, y, z] ∧ ArgA h s x ∧ ArgA h s' y ∧ ArgA h s'' z := by
  cases avs with
  | nil => exact ha.elim
  | cons x vs =>
    obtain ⟨h1, hr⟩ := ha
    obtain ⟨y, z, rfl, h2, h3⟩ := args2 hr
    exact ⟨x, y, z, rfl, h1, h2, h3⟩
end Go.Proofs.Ytjdemlagmamlbaa

namespace Go.Proofs.Ytjdemlagmamlbaa
variable {D : Nat} {l : List RunV}
structure UpOk (k : Nat) (a : ActP) : Prop where
  l0 : 0 ≤ a.lo
  lt : a.lo < a.hi
  hi : a.hi ≤ k
  b0 : 1 ≤ a.by'
  b3 : a.by' ≤ 3
/-- how often an item is counted -/
def cntA (l : List ActP) (j : Nat) : Int := (l.map fun a => if a.lo ≤ (j : Int) ∧ (j : Int) < a.hi then a.by' else 0).sum
def cntL (k : Nat) (l : List ActP) : List Int := (List.range k).map (cntA l)
theorem mem_slc {cs : List Int} {lo hi c : Int} (h0 : 0 ≤ lo) (h1 : lo ≤ hi) (h2 : hi ≤ cs.length) (hc : c ∈ slc cs lo hi) : ∃ j : Nat, lo ≤ j ∧ (j : Int) < hi ∧ cs[j]? = some c := by
  obtain ⟨i, hi', e⟩ := List.getElem_of_mem hc
  rw [slc_len h0 h1 h2] at hi'
  have : (slc cs lo hi)[i]? = some c := by rw [List.getElem?_eq_getElem (by rw [slc_len h0 h1 h2]; exact hi'), e]
  rw [slc_get h0 (by omega)] at this
  exact ⟨lo.toNat + i, by omega, by omega, this⟩
/-- what both have behind some acts -/
structure ZeS where
  i : Nat
  l : List RunV
  l' : List RunV
structure ZeOk (k : Nat) (ups : List ActP) (y : ZeS) : Prop where
  e : expand y.l = cntL k (ups.take y.i)
  e' : expand y.l' = cntL k (ups.drop (ups.length - y.i))
end Go.Proofs.Ytjdemlagmamlbaa

namespace Go.Proofs.Ytjdemlagmamlbaa
structure ZtS where
  i : Nat
  l : List RunV
end Go.Proofs.Ytjdemlagmamlbaa

namespace Go.Proofs.Ytjdemlagmamlbaa
/-- an amap: its object, counts, anons -/
structure AmV where
  O : Nat
  cs : List Int
  an : List Int
structure AmOk (a : AmV) : Prop where
  len : a.an.length = a.cs.length
  n1 : 1 ≤ a.cs.length
  n4 : a.cs.length ≤ 4096
  pos : ∀ x, x ∈ a.an → 0 ≤ x
abbrev oneRow (D : Nat) (v : AV) : AObj := .row ty_amap_one 2 false false (.vals [.ptr D 0, v])
def AmIs (a : AmV) (cs : List Chunk) : Prop := ∃ D v l, cs = [.pt a.O (oneRow D v), CntC D l a.cs.length, VsC v 3 (a.an.map ikey) true] ∧ expand l = a.cs ∧ AmOk a
abbrev AmC (a : AmV) : Chunk := pk 40 (.ptr a.O 0) (AmIs a)
def zptr : Option AmV → AV
  | some a => .ptr a.O 0
  | none => .nilptr
theorem zptr_nj (z : Option AmV) : (zptr z).notJunk = some (zptr z) := by cases z <;> rfl
theorem zptr_ok (z : Option AmV) : okSame (zptr z) = true := by cases z <;> rfl
def zG : Option AmV → List Chunk
  | some a => [AmC a]
  | none => []
def cntZ (zs : List (Option AmV)) : Nat := (zs.filter Option.isSome).length
structure PoOk (most : Nat) (zs : List (Option AmV)) : Prop where
  m : most ≤ 4096
  c : cntZ zs ≤ most
  l : zs.length ≤ most
abbrev poolRow (most : Nat) (sv : AV) (n : Nat) : AObj := .row ty_amap_Pool 4 false false (.vals [.int .i64 most, .bool true, sv, .int .i64 n])
def PoIs (P most : Nat) (zs : List (Option AmV)) (cs : List Chunk) : Prop := ∃ sv, cs = [.pt P (poolRow most sv (cntZ zs)), VsC sv 177 (zs.map zptr) true, SepC (.ptr P 0) zG zs] ∧ PoOk most zs
abbrev PoC (P most : Nat) (zs : List (Option AmV)) : Chunk := pk 41 (.ptr P 0) (PoIs P most zs)
/-- without what is at a number -/
def PoXIs (P most : Nat) (zs : List (Option AmV)) (i : Nat) (cs : List Chunk) : Prop := ∃ sv, cs = [.pt P (poolRow most sv (cntZ zs)), VsC sv 177 (zs.map zptr) true, SepC (.ptr P 0) zG (zs.eraseIdx i)] ∧ PoOk most zs
abbrev PoXC (P most : Nat) (zs : List (Option AmV)) (i : Nat) : Chunk := pk 42 (.ptr P 0) (PoXIs P most zs i)
section
variable {P most : Nat} {zs : List (Option AmV)} {h : AHeap} {L R F : List Chunk} {i : Nat} {a : AmV}
theorem St.am (st : St h L) (t : Take L (AmC a) R) : AmOk a := by
  obtain ⟨cs, ⟨D, v, l, _, _, hk⟩, _⟩ := (st.take t).unpack
  exact hk
theorem St.po (st : St h L) (t : Take L (PoC P most zs) R) : PoOk most zs := by
  obtain ⟨cs, ⟨sv, _, hk⟩, _⟩ := (st.take t).unpack
  exact hk
theorem St.poOut (st : St h L) (t : Take L (PoC P most zs) R) (hi : zs[i]? = some (some a)) : St h (AmC a :: PoXC P most zs i :: R) := by
  obtain ⟨cs, ⟨sv, rfl, hk⟩, st'⟩ := (st.take t).unpack
  have st1 : St h (AmC a :: SepC (.ptr P 0) zG (zs.eraseIdx i) :: .pt P (poolRow most sv (cntZ zs)) :: VsC sv 177 (zs.map zptr) true :: R) := St.sepOut (G := zG) (a := some a) st' Tk hi
  have st2 := St.packP (t := 42) (k := .ptr P 0) (P := PoXIs P most zs i) (cs := [.pt P (poolRow most sv (cntZ zs)), VsC sv 177 (zs.map zptr) true, SepC (.ptr P 0) zG (zs.eraseIdx i)]) st1 ⟨sv, rfl, hk⟩ Pks
  exact st2.sel Sels
theorem cntZ_set {b : AmV} : ∀ {zs : List (Option AmV)} {i : Nat}, zs[i]? = some (some a) → cntZ (zs.set i (some b)) = cntZ zs
  | [], i, h => by simp at h
  | z :: zs, 0, h => by simp at h; subst h; simp [cntZ]
  | z :: zs, i + 1, h => by
    simp only [List.getElem?_cons_succ] at h
    have := cntZ_set (b := b) h
    simp only [cntZ, List.set_cons_succ, List.filter_cons] at this ⊢
    split <;> simp [this]
/-- what is at a number, changed -/
theorem St.poIn {b : AmV} (hb : b.O = a.O) (hi : zs[i]? = some (some a)) (st : St h L) {R' : List Chunk} (t : Take L (AmC b) R) (t' : Take R (PoXC P most zs i) R') : St h (PoC P most (zs.set i (some b)) :: R') := by
  have st1 := (st.take t).perm (List.Perm.cons _ t'.perm)
  have st2 := st1.sel (L' := PoXC P most zs i :: AmC b :: R') Sels
  obtain ⟨cs, ⟨sv, rfl, hk⟩, st3⟩ := st2.unpack
  have hl := (List.getElem?_eq_some_iff.1 hi).1
  have st4 : St h (SepC (.ptr P 0) zG (zs.set i (some b)) :: .pt P (poolRow most sv (cntZ zs)) :: VsC sv 177 (zs.map zptr) true :: R') := St.sepIn (G := zG) (a := some b) (st3.sel Sels) hl
  have e1 : (zs.set i (some b)).map zptr = zs.map zptr := by
    rw [List.map_set]
    refine set_same' ?_
    rw [List.getElem?_map, hi]
    simp [zptr, hb]
  have e2 := cntZ_set (b := b) hi
  refine St.pack (cs := [.pt P (poolRow most sv (cntZ zs)), VsC sv 177 (zs.map zptr) true, SepC (.ptr P 0) zG (zs.set i (some b))]) (st4.sel Sels) ⟨sv, by rw [e1, e2], hk.m, by rw [e2]; exact hk.c, by rw [List.length_set]; exact hk.l⟩
theorem St.poBack (hi : zs[i]? = some (some a)) (st : St h L) {R' : List Chunk} (t : Take L (AmC a) R) (t' : Take R (PoXC P most zs i) R') : St h (PoC P most zs :: R') := by
  have := st.poIn (b := a) rfl hi t t'
  rwa [set_same' hi] at this
end
/-- what has a number -/
def atZ (zs : List (Option AmV)) (id : Int) : Option AmV := if 1 ≤ id ∧ id ≤ zs.length then (zs[(id - 1).toNat]?).join else none
theorem atZ_some {zs : List (Option AmV)} {id : Int} {a : AmV} (h : atZ zs id = some a) : 1 ≤ id ∧ id ≤ zs.length ∧ zs[(id - 1).toNat]? = some (some a) := by
  unfold atZ at h
  split at h
  · rename_i hh
    refine ⟨hh.1, hh.2, ?_⟩
    cases hz : zs[(id - 1).toNat]? with
    | none => rw [hz] at h; cases h
    | some z => rw [hz] at h; simp at h; rw [h]
  · cases h
variable {P most : Nat} {zs : List (Option AmV)} {a : AmV}
theorem po_made : Spec R (.f n_amap_Pool_made) [.ptr P 0] [PoC P most zs] fun v Rs => v = .bool true ∧ Rs = [PoC P most zs] := by
  refine spec_w (fun _ _ _ x => progI_call rfl rfl x) Njs rfl (fun h F st => ?_); dsimp only [List.cons_append, List.nil_append] at st
  obtain ⟨_, ⟨sv, rfl, hok⟩, st⟩ := St.unpack st; dsimp only [List.cons_append, List.nil_append] at st
  (repeat (first | (show W _ _ _ _ _ _ (.code (cond _ _ _) :: _) _ _; first | refine W.ct ?_ | refine W.cf ?_) | (show W _ _ _ _ _ _ (.ins (cond _ _ _ :: _) :: _) _ _; first | refine W.gt ?_ | refine W.gf ?_) | (show W _ _ _ _ _ _ [] _ _; refine W.of (.done ?_)) | (apply W.of; constructor <;> first | (show W _ _ _ _ _ _ _ _ _) | (intro (al : Nat) h st; show W _ _ _ _ _ _ _ _ _) | (intro _ h st; show W _ _ _ _ _ _ _ _ _) | exact Sd)))
  exact ⟨_, rfl, _, ⟨rfl, rfl⟩, St.packP (cs := [_, _, _]) st ⟨sv, rfl, hok⟩ Pks⟩
theorem po_of {id : Int} : Spec R (.f n_amap_Pool_of) [.ptr P 0, .int .i64 id] [PoC P most zs] fun v Rs => v = zptr (atZ zs id) ∧ Rs = [PoC P most zs] := by
  refine spec_w (fun _ _ _ x => progI_call rfl rfl x) Njs rfl (fun h F st => ?_); dsimp only [List.cons_append, List.nil_append] at st
  (repeat (first | (show W _ _ _ _ _ _ (.code (cond _ _ _) :: _) _ _; first | refine W.ct ?_ | refine W.cf ?_) | (show W _ _ _ _ _ _ (.ins (cond _ _ _ :: _) :: _) _ _; first | refine W.gt ?_ | refine W.gf ?_) | (show W _ _ _ _ _ _ [] _ _; refine W.of (.done ?_)) | (apply W.of; constructor <;> first | (show W _ _ _ _ _ _ _ _ _) | (intro (al : Nat) h st; show W _ _ _ _ _ _ _ _ _) | (intro _ h st; show W _ _ _ _ _ _ _ _ _) | exact Sd))); refine W.call (hs := po_made) (w := ?_); rintro vv _ ⟨rfl, rfl⟩ h st; refine nj ?_; dsimp only [List.cons_append, List.nil_append] at st
  obtain ⟨_, ⟨sv, rfl, hok⟩, st⟩ := St.unpack st; dsimp only [List.cons_append, List.nil_append] at st
  obtain ⟨sl, sj, ss⟩ := St.vs (v := sv) (l := zs.map zptr) st Tk
  rw [List.length_map] at sl
  have hl := hok.l
  have hm := hok.m
  by_cases h1 : 1 ≤ id
  · by_cases h2 : id ≤ zs.length
    · obtain ⟨i, rfl⟩ : ∃ i : Nat, id = (i : Int) + 1 := ⟨(id - 1).toNat, by omega⟩
      obtain ⟨gp, gq⟩ := d_vsIdx (v := sv) (l := zs.map zptr) (i := i) (kk := .i64) st Tk (by rw [List.length_map]; omega)
      obtain ⟨z, hz⟩ : ∃ z, zs[i]? = some z := ⟨zs[i]'(by omega), by simp⟩
      have e : atZ zs ((i : Int) + 1) = z := by
        rw [atZ, if_pos ⟨h1, h2⟩, show ((i : Int) + 1 - 1).toNat = i by omega, hz]; cases z <;> rfl
      have znj := zptr_nj z
      have zok := zptr_ok z
      (repeat (first | (show W _ _ _ _ _ _ (.code (cond _ _ _) :: _) _ _; first | refine W.ct ?_ | refine W.cf ?_) | (show W _ _ _ _ _ _ (.ins (cond _ _ _ :: _) :: _) _ _; first | refine W.gt ?_ | refine W.gf ?_) | (show W _ _ _ _ _ _ [] _ _; refine W.of (.done ?_)) | (apply W.of; constructor <;> first | (show W _ _ _ _ _ _ _ _ _) | (intro (al : Nat) h st; show W _ _ _ _ _ _ _ _ _) | (intro _ h st; show W _ _ _ _ _ _ _ _ _) | exact Sd)))
      rw [show (i : Int) + 1 - 1 = i by omega]
      (repeat (first | (show W _ _ _ _ _ _ (.code (cond _ _ _) :: _) _ _; first | refine W.ct ?_ | refine W.cf ?_) | (show W _ _ _ _ _ _ (.ins (cond _ _ _ :: _) :: _) _ _; first | refine W.gt ?_ | refine W.gf ?_) | (show W _ _ _ _ _ _ [] _ _; refine W.of (.done ?_)) | (apply W.of; constructor <;> first | (show W _ _ _ _ _ _ _ _ _) | (intro (al : Nat) h st; show W _ _ _ _ _ _ _ _ _) | (intro _ h st; show W _ _ _ _ _ _ _ _ _) | exact Sd))); refine W.do (ho := gp) (w := ?_)
      (repeat (first | (show W _ _ _ _ _ _ (.code (cond _ _ _) :: _) _ _; first | refine W.ct ?_ | refine W.cf ?_) | (show W _ _ _ _ _ _ (.ins (cond _ _ _ :: _) :: _) _ _; first | refine W.gt ?_ | refine W.gf ?_) | (show W _ _ _ _ _ _ [] _ _; refine W.of (.done ?_)) | (apply W.of; constructor <;> first | (show W _ _ _ _ _ _ _ _ _) | (intro (al : Nat) h st; show W _ _ _ _ _ _ _ _ _) | (intro _ h st; show W _ _ _ _ _ _ _ _ _) | exact Sd))); refine W.do (ho := (d_vsLoad (v := sv) (l := zs.map zptr) (x := zptr z) st Tk (by rw [List.getElem?_map, hz]; rfl))) (w := ?_)
      (repeat (first | (show W _ _ _ _ _ _ (.code (cond _ _ _) :: _) _ _; first | refine W.ct ?_ | refine W.cf ?_) | (show W _ _ _ _ _ _ (.ins (cond _ _ _ :: _) :: _) _ _; first | refine W.gt ?_ | refine W.gf ?_) | (show W _ _ _ _ _ _ [] _ _; refine W.of (.done ?_)) | (apply W.of; constructor <;> first | (show W _ _ _ _ _ _ _ _ _) | (intro (al : Nat) h st; show W _ _ _ _ _ _ _ _ _) | (intro _ h st; show W _ _ _ _ _ _ _ _ _) | exact Sd)))
      exact ⟨_, rfl, _, ⟨by rw [e]; rfl, rfl⟩, St.packP (t := 41) (P := PoIs P most zs) (cs := [_, _, _]) st ⟨sv, rfl, hok⟩ Pks⟩
    · (repeat (first | (show W _ _ _ _ _ _ (.code (cond _ _ _) :: _) _ _; first | refine W.ct ?_ | refine W.cf ?_) | (show W _ _ _ _ _ _ (.ins (cond _ _ _ :: _) :: _) _ _; first | refine W.gt ?_ | refine W.gf ?_) | (show W _ _ _ _ _ _ [] _ _; refine W.of (.done ?_)) | (apply W.of; constructor <;> first | (show W _ _ _ _ _ _ _ _ _) | (intro (al : Nat) h st; show W _ _ _ _ _ _ _ _ _) | (intro _ h st; show W _ _ _ _ _ _ _ _ _) | exact Sd)))
      exact ⟨_, rfl, _, ⟨by rw [atZ, if_neg (by omega)]; rfl, rfl⟩, St.packP (t := 41) (P := PoIs P most zs) (cs := [_, _, _]) st ⟨sv, rfl, hok⟩ Pks⟩
  · (repeat (first | (show W _ _ _ _ _ _ (.code (cond _ _ _) :: _) _ _; first | refine W.ct ?_ | refine W.cf ?_) | (show W _ _ _ _ _ _ (.ins (cond _ _ _ :: _) :: _) _ _; first | refine W.gt ?_ | refine W.gf ?_) | (show W _ _ _ _ _ _ [] _ _; refine W.of (.done ?_)) | (apply W.of; constructor <;> first | (show W _ _ _ _ _ _ _ _ _) | (intro (al : Nat) h st; show W _ _ _ _ _ _ _ _ _) | (intro _ h st; show W _ _ _ _ _ _ _ _ _) | exact Sd)))
    exact ⟨_, rfl, _, ⟨by rw [atZ, if_neg (by omega)]; rfl, rfl⟩, St.packP (t := 41) (P := PoIs P most zs) (cs := [_, _, _]) st ⟨sv, rfl, hok⟩ Pks⟩
def knownV : Option AmV → AV
  | some a => .tuple [.ptr a.O 0, .int .i64 0]
  | none => .tuple [.nilptr, .int .i64 7]
theorem knownV_nj (z : Option AmV) : (knownV z).notJunk = some (knownV z) := by cases z <;> rfl
theorem knownV_ok (z : Option AmV) : okSame (knownV z) = true := by cases z <;> rfl
theorem po_known {id : Int} : Spec R (.f n_amap_Pool_known) [.ptr P 0, .int .i64 id] [PoC P most zs] fun v Rs => v = knownV (atZ zs id) ∧ Rs = [PoC P most zs] := by
  refine spec_w (fun _ _ _ x => progI_call rfl rfl x) Njs rfl (fun h F st => ?_); dsimp only [List.cons_append, List.nil_append] at st
  (repeat (first | (show W _ _ _ _ _ _ (.code (cond _ _ _) :: _) _ _; first | refine W.ct ?_ | refine W.cf ?_) | (show W _ _ _ _ _ _ (.ins (cond _ _ _ :: _) :: _) _ _; first | refine W.gt ?_ | refine W.gf ?_) | (show W _ _ _ _ _ _ [] _ _; refine W.of (.done ?_)) | (apply W.of; constructor <;> first | (show W _ _ _ _ _ _ _ _ _) | (intro (al : Nat) h st; show W _ _ _ _ _ _ _ _ _) | (intro _ h st; show W _ _ _ _ _ _ _ _ _) | exact Sd))); refine W.call (hs := po_made) (w := ?_); rintro vv _ ⟨rfl, rfl⟩ h st; refine nj ?_; dsimp only [List.cons_append, List.nil_append] at st
  have znj := zptr_nj (atZ zs id)
  have zok := zptr_ok (atZ zs id)
  (repeat (first | (show W _ _ _ _ _ _ (.code (cond _ _ _) :: _) _ _; first | refine W.ct ?_ | refine W.cf ?_) | (show W _ _ _ _ _ _ (.ins (cond _ _ _ :: _) :: _) _ _; first | refine W.gt ?_ | refine W.gf ?_) | (show W _ _ _ _ _ _ [] _ _; refine W.of (.done ?_)) | (apply W.of; constructor <;> first | (show W _ _ _ _ _ _ _ _ _) | (intro (al : Nat) h st; show W _ _ _ _ _ _ _ _ _) | (intro _ h st; show W _ _ _ _ _ _ _ _ _) | exact Sd))); refine W.call (hs := po_of) (w := ?_); rintro vv _ ⟨rfl, rfl⟩ h st; refine nj ?_; dsimp only [List.cons_append, List.nil_append] at st
  cases atZ zs id with
  | some a =>
    dsimp only [zptr]
    (repeat (first | (show W _ _ _ _ _ _ (.code (cond _ _ _) :: _) _ _; first | refine W.ct ?_ | refine W.cf ?_) | (show W _ _ _ _ _ _ (.ins (cond _ _ _ :: _) :: _) _ _; first | refine W.gt ?_ | refine W.gf ?_) | (show W _ _ _ _ _ _ [] _ _; refine W.of (.done ?_)) | (apply W.of; constructor <;> first | (show W _ _ _ _ _ _ _ _ _) | (intro (al : Nat) h st; show W _ _ _ _ _ _ _ _ _) | (intro _ h st; show W _ _ _ _ _ _ _ _ _) | exact Sd)))
    exact ⟨_, rfl, _, ⟨rfl, rfl⟩, st⟩
  | none =>
    dsimp only [zptr]
    (repeat (first | (show W _ _ _ _ _ _ (.code (cond _ _ _) :: _) _ _; first | refine W.ct ?_ | refine W.cf ?_) | (show W _ _ _ _ _ _ (.ins (cond _ _ _ :: _) :: _) _ _; first | refine W.gt ?_ | refine W.gf ?_) | (show W _ _ _ _ _ _ [] _ _; refine W.of (.done ?_)) | (apply W.of; constructor <;> first | (show W _ _ _ _ _ _ _ _ _) | (intro (al : Nat) h st; show W _ _ _ _ _ _ _ _ _) | (intro _ h st; show W _ _ _ _ _ _ _ _ _) | exact Sd)))
    exact ⟨_, rfl, _, ⟨rfl, rfl⟩, st⟩
theorem am_within {lo hi : Int} : Spec R (.f n_amap_one_within) [.ptr a.O 0, .int .i64 lo, .int .i64 hi] [AmC a] fun v Rs => v = .bool (decide (0 ≤ lo ∧ lo < hi ∧ hi ≤ a.an.length)) ∧ Rs = [AmC a] := by
  refine spec_w (fun _ _ _ x => progI_call rfl rfl x) Njs rfl (fun h F st => ?_); dsimp only [List.cons_append, List.nil_append] at st
  obtain ⟨_, ⟨D, v, l, rfl, he, hok⟩, st⟩ := St.unpack st; dsimp only [List.cons_append, List.nil_append] at st
  obtain ⟨vl, vj, vs⟩ := St.ivs (v := v) (cs := a.an) st Tk
  have h1 := hok.len
  have h4 := hok.n4
  by_cases c1 : 0 ≤ lo
  · by_cases c2 : lo < hi
    · (repeat (first | (show W _ _ _ _ _ _ (.code (cond _ _ _) :: _) _ _; first | refine W.ct ?_ | refine W.cf ?_) | (show W _ _ _ _ _ _ (.ins (cond _ _ _ :: _) :: _) _ _; first | refine W.gt ?_ | refine W.gf ?_) | (show W _ _ _ _ _ _ [] _ _; refine W.of (.done ?_)) | (apply W.of; constructor <;> first | (show W _ _ _ _ _ _ _ _ _) | (intro (al : Nat) h st; show W _ _ _ _ _ _ _ _ _) | (intro _ h st; show W _ _ _ _ _ _ _ _ _) | exact Sd)))
      exact ⟨_, rfl, _, ⟨congrArg AV.bool (show decide (hi ≤ (a.an.length : Int)) = decide (0 ≤ lo ∧ lo < hi ∧ hi ≤ a.an.length) by simp [c1, c2]), rfl⟩, St.packP (t := 40) (P := AmIs a) (cs := [_, _, _]) st ⟨D, v, l, rfl, he, hok⟩ Pks⟩
    · (repeat (first | (show W _ _ _ _ _ _ (.code (cond _ _ _) :: _) _ _; first | refine W.ct ?_ | refine W.cf ?_) | (show W _ _ _ _ _ _ (.ins (cond _ _ _ :: _) :: _) _ _; first | refine W.gt ?_ | refine W.gf ?_) | (show W _ _ _ _ _ _ [] _ _; refine W.of (.done ?_)) | (apply W.of; constructor <;> first | (show W _ _ _ _ _ _ _ _ _) | (intro (al : Nat) h st; show W _ _ _ _ _ _ _ _ _) | (intro _ h st; show W _ _ _ _ _ _ _ _ _) | exact Sd)))
      exact ⟨_, rfl, _, ⟨congrArg AV.bool (show false = decide (0 ≤ lo ∧ lo < hi ∧ hi ≤ a.an.length) by simp [c2]), rfl⟩, St.packP (t := 40) (P := AmIs a) (cs := [_, _, _]) st ⟨D, v, l, rfl, he, hok⟩ Pks⟩
  · (repeat (first | (show W _ _ _ _ _ _ (.code (cond _ _ _) :: _) _ _; first | refine W.ct ?_ | refine W.cf ?_) | (show W _ _ _ _ _ _ (.ins (cond _ _ _ :: _) :: _) _ _; first | refine W.gt ?_ | refine W.gf ?_) | (show W _ _ _ _ _ _ [] _ _; refine W.of (.done ?_)) | (apply W.of; constructor <;> first | (show W _ _ _ _ _ _ _ _ _) | (intro (al : Nat) h st; show W _ _ _ _ _ _ _ _ _) | (intro _ h st; show W _ _ _ _ _ _ _ _ _) | exact Sd)))
    exact ⟨_, rfl, _, ⟨congrArg AV.bool (show false = decide (0 ≤ lo ∧ lo < hi ∧ hi ≤ a.an.length) by simp [c1]), rfl⟩, St.packP (t := 40) (P := AmIs a) (cs := [_, _, _]) st ⟨D, v, l, rfl, he, hok⟩ Pks⟩
theorem po_New {m : Int} : Spec R (.f n_amap_New) [.int .i64 m] [] fun v Rs => (0 ≤ m ∧ m ≤ 4096 ∧ ∃ P, v = .ptr P 0 ∧ Rs = [PoC P m.toNat []]) ∨ (¬ (0 ≤ m ∧ m ≤ 4096) ∧ v = .nilptr ∧ Rs = []) := by
  refine spec_w (fun _ _ _ x => progI_call rfl rfl x) Njs rfl (fun h F st => ?_); dsimp only [List.cons_append, List.nil_append] at st
  by_cases h0 : m < 0
  · (repeat (first | (show W _ _ _ _ _ _ (.code (cond _ _ _) :: _) _ _; first | refine W.ct ?_ | refine W.cf ?_) | (show W _ _ _ _ _ _ (.ins (cond _ _ _ :: _) :: _) _ _; first | refine W.gt ?_ | refine W.gf ?_) | (show W _ _ _ _ _ _ [] _ _; refine W.of (.done ?_)) | (apply W.of; constructor <;> first | (show W _ _ _ _ _ _ _ _ _) | (intro (al : Nat) h st; show W _ _ _ _ _ _ _ _ _) | (intro _ h st; show W _ _ _ _ _ _ _ _ _) | exact Sd)))
    exact ⟨_, rfl, _, .inr ⟨by omega, rfl, rfl⟩, st⟩
  · by_cases h1 : m > 4096
    · (repeat (first | (show W _ _ _ _ _ _ (.code (cond _ _ _) :: _) _ _; first | refine W.ct ?_ | refine W.cf ?_) | (show W _ _ _ _ _ _ (.ins (cond _ _ _ :: _) :: _) _ _; first | refine W.gt ?_ | refine W.gf ?_) | (show W _ _ _ _ _ _ [] _ _; refine W.of (.done ?_)) | (apply W.of; constructor <;> first | (show W _ _ _ _ _ _ _ _ _) | (intro (al : Nat) h st; show W _ _ _ _ _ _ _ _ _) | (intro _ h st; show W _ _ _ _ _ _ _ _ _) | exact Sd)))
      exact ⟨_, rfl, _, .inr ⟨by omega, rfl, rfl⟩, st⟩
    · obtain ⟨k, rfl⟩ : ∃ k : Nat, m = (k : Int) := ⟨m.toNat, by omega⟩
      (repeat (first | (show W _ _ _ _ _ _ (.code (cond _ _ _) :: _) _ _; first | refine W.ct ?_ | refine W.cf ?_) | (show W _ _ _ _ _ _ (.ins (cond _ _ _ :: _) :: _) _ _; first | refine W.gt ?_ | refine W.gf ?_) | (show W _ _ _ _ _ _ [] _ _; refine W.of (.done ?_)) | (apply W.of; constructor <;> first | (show W _ _ _ _ _ _ _ _ _) | (intro (al : Nat) h st; show W _ _ _ _ _ _ _ _ _) | (intro _ h st; show W _ _ _ _ _ _ _ _ _) | exact Sd)))
      obtain ⟨P, rfl⟩ : ∃ y, y = al := ⟨_, rfl⟩
      have st := st.vsNil 177 true
      have st := st.sepNil (.ptr P 0) zG
      have st := St.packP (t := 41) (k := .ptr P 0) (P := PoIs P k []) (cs := [.pt P (poolRow k .nilsl 0), VsC .nilsl 177 [] true, SepC (.ptr P 0) zG []]) st ⟨.nilsl, rfl, by omega, by simp [cntZ], by simp⟩ Pks
      exact ⟨_, rfl, _, .inl ⟨by omega, by omega, P, rfl, rfl⟩, st⟩
def slotsZ (zs : List (Option AmV)) (id : Int) : Nat := match atZ zs id with | some a => a.an.length | none => 0
theorem po_Slots {id : Int} : Spec R (.f n_amap_Pool_Slots) [.ptr P 0, .int .i64 id] [PoC P most zs] fun v Rs => v = .int .i64 (slotsZ zs id) ∧ Rs = [PoC P most zs] := by
  refine spec_w (fun _ _ _ x => progI_call rfl rfl x) Njs rfl (fun h F st => ?_); dsimp only [List.cons_append, List.nil_append] at st
  have znj := zptr_nj (atZ zs id)
  have zok := zptr_ok (atZ zs id)
  (repeat (first | (show W _ _ _ _ _ _ (.code (cond _ _ _) :: _) _ _; first | refine W.ct ?_ | refine W.cf ?_) | (show W _ _ _ _ _ _ (.ins (cond _ _ _ :: _) :: _) _ _; first | refine W.gt ?_ | refine W.gf ?_) | (show W _ _ _ _ _ _ [] _ _; refine W.of (.done ?_)) | (apply W.of; constructor <;> first | (show W _ _ _ _ _ _ _ _ _) | (intro (al : Nat) h st; show W _ _ _ _ _ _ _ _ _) | (intro _ h st; show W _ _ _ _ _ _ _ _ _) | exact Sd))); refine W.call (hs := po_of) (w := ?_); rintro vv _ ⟨rfl, rfl⟩ h st; refine nj ?_; dsimp only [List.cons_append, List.nil_append] at st
  unfold slotsZ
  cases ha : atZ zs id with
  | some a =>
    dsimp only [zptr]
    obtain ⟨_, _, hz⟩ := atZ_some ha
    have st := st.poOut Tk hz
    obtain ⟨_, ⟨D, v, l, rfl, he, hok⟩, st⟩ := St.unpack st; dsimp only [List.cons_append, List.nil_append] at st
    obtain ⟨vl, vj, vs⟩ := St.ivs (v := v) (cs := a.an) st Tk
    (repeat (first | (show W _ _ _ _ _ _ (.code (cond _ _ _) :: _) _ _; first | refine W.ct ?_ | refine W.cf ?_) | (show W _ _ _ _ _ _ (.ins (cond _ _ _ :: _) :: _) _ _; first | refine W.gt ?_ | refine W.gf ?_) | (show W _ _ _ _ _ _ [] _ _; refine W.of (.done ?_)) | (apply W.of; constructor <;> first | (show W _ _ _ _ _ _ _ _ _) | (intro (al : Nat) h st; show W _ _ _ _ _ _ _ _ _) | (intro _ h st; show W _ _ _ _ _ _ _ _ _) | exact Sd)))
    have st := St.packP (t := 40) (k := .ptr a.O 0) (P := AmIs a) (cs := [_, _, _]) st ⟨D, v, l, rfl, he, hok⟩ Pks
    exact ⟨_, rfl, _, ⟨rfl, rfl⟩, st.poBack hz Tk Tk⟩
  | none =>
    dsimp only [zptr]
    (repeat (first | (show W _ _ _ _ _ _ (.code (cond _ _ _) :: _) _ _; first | refine W.ct ?_ | refine W.cf ?_) | (show W _ _ _ _ _ _ (.ins (cond _ _ _ :: _) :: _) _ _; first | refine W.gt ?_ | refine W.gf ?_) | (show W _ _ _ _ _ _ [] _ _; refine W.of (.done ?_)) | (apply W.of; constructor <;> first | (show W _ _ _ _ _ _ _ _ _) | (intro (al : Nat) h st; show W _ _ _ _ _ _ _ _ _) | (intro _ h st; show W _ _ _ _ _ _ _ _ _) | exact Sd)))
    exact ⟨_, rfl, _, ⟨rfl, rfl⟩, st⟩
def coverZ (zs : List (Option AmV)) (id slot : Int) : Int := match atZ zs id with | some a => if 0 > atL a.cs slot then 0 else atL a.cs slot | none => 0
theorem po_Cover {id slot : Int} : Spec R (.f n_amap_Pool_Cover) [.ptr P 0, .int .i64 id, .int .i64 slot] [PoC P most zs] fun v Rs => v = .int .i64 (coverZ zs id slot) ∧ Rs = [PoC P most zs] := by
  refine spec_w (fun _ _ _ x => progI_call rfl rfl x) Njs rfl (fun h F st => ?_); dsimp only [List.cons_append, List.nil_append] at st
  have znj := zptr_nj (atZ zs id)
  have zok := zptr_ok (atZ zs id)
  (repeat (first | (show W _ _ _ _ _ _ (.code (cond _ _ _) :: _) _ _; first | refine W.ct ?_ | refine W.cf ?_) | (show W _ _ _ _ _ _ (.ins (cond _ _ _ :: _) :: _) _ _; first | refine W.gt ?_ | refine W.gf ?_) | (show W _ _ _ _ _ _ [] _ _; refine W.of (.done ?_)) | (apply W.of; constructor <;> first | (show W _ _ _ _ _ _ _ _ _) | (intro (al : Nat) h st; show W _ _ _ _ _ _ _ _ _) | (intro _ h st; show W _ _ _ _ _ _ _ _ _) | exact Sd))); refine W.call (hs := po_of) (w := ?_); rintro vv _ ⟨rfl, rfl⟩ h st; refine nj ?_; dsimp only [List.cons_append, List.nil_append] at st
  unfold coverZ
  cases ha : atZ zs id with
  | some a =>
    dsimp only [zptr]
    obtain ⟨_, _, hz⟩ := atZ_some ha
    have st := st.poOut Tk hz
    obtain ⟨_, ⟨D, v, l, rfl, he, hok⟩, st⟩ := St.unpack st; dsimp only [List.cons_append, List.nil_append] at st
    (repeat (first | (show W _ _ _ _ _ _ (.code (cond _ _ _) :: _) _ _; first | refine W.ct ?_ | refine W.cf ?_) | (show W _ _ _ _ _ _ (.ins (cond _ _ _ :: _) :: _) _ _; first | refine W.gt ?_ | refine W.gf ?_) | (show W _ _ _ _ _ _ [] _ _; refine W.of (.done ?_)) | (apply W.of; constructor <;> first | (show W _ _ _ _ _ _ _ _ _) | (intro (al : Nat) h st; show W _ _ _ _ _ _ _ _ _) | (intro _ h st; show W _ _ _ _ _ _ _ _ _) | exact Sd))); refine W.call (hs := (cnt_At (D := D) (l := l))) (w := ?_); rintro vv _ ⟨rfl, rfl⟩ h st; refine nj ?_; dsimp only [List.cons_append, List.nil_append] at st
    rw [he]
    (repeat (first | (show W _ _ _ _ _ _ (.code (cond _ _ _) :: _) _ _; first | refine W.ct ?_ | refine W.cf ?_) | (show W _ _ _ _ _ _ (.ins (cond _ _ _ :: _) :: _) _ _; first | refine W.gt ?_ | refine W.gf ?_) | (show W _ _ _ _ _ _ [] _ _; refine W.of (.done ?_)) | (apply W.of; constructor <;> first | (show W _ _ _ _ _ _ _ _ _) | (intro (al : Nat) h st; show W _ _ _ _ _ _ _ _ _) | (intro _ h st; show W _ _ _ _ _ _ _ _ _) | exact Sd)))
    have st := St.packP (t := 40) (k := .ptr a.O 0) (P := AmIs a) (cs := [.pt a.O (oneRow D v), CntC D l a.cs.length, VsC v 3 (a.an.map ikey) true]) st ⟨D, v, l, rfl, he, hok⟩ Pks
    exact ⟨_, rfl, _, ⟨rfl, rfl⟩, st.poBack hz Tk Tk⟩
  | none =>
    dsimp only [zptr]
    (repeat (first | (show W _ _ _ _ _ _ (.code (cond _ _ _) :: _) _ _; first | refine W.ct ?_ | refine W.cf ?_) | (show W _ _ _ _ _ _ (.ins (cond _ _ _ :: _) :: _) _ _; first | refine W.gt ?_ | refine W.gf ?_) | (show W _ _ _ _ _ _ [] _ _; refine W.of (.done ?_)) | (apply W.of; constructor <;> first | (show W _ _ _ _ _ _ _ _ _) | (intro (al : Nat) h st; show W _ _ _ _ _ _ _ _ _) | (intro _ h st; show W _ _ _ _ _ _ _ _ _) | exact Sd)))
    exact ⟨_, rfl, _, ⟨rfl, rfl⟩, st⟩
def getZ (zs : List (Option AmV)) (id slot : Int) : Int := match atZ zs id with | some a => if 0 ≤ slot ∧ slot < a.an.length then (a.an[slot.toNat]?).getD 0 else 0 | none => 0
theorem po_Get {id slot : Int} : Spec R (.f n_amap_Pool_Get) [.ptr P 0, .int .i64 id, .int .i64 slot] [PoC P most zs] fun v Rs => v = .int .i64 (getZ zs id slot) ∧ Rs = [PoC P most zs] := by
  refine spec_w (fun _ _ _ x => progI_call rfl rfl x) Njs rfl (fun h F st => ?_); dsimp only [List.cons_append, List.nil_append] at st
  by_cases h0 : slot < 0
  · (repeat (first | (show W _ _ _ _ _ _ (.code (cond _ _ _) :: _) _ _; first | refine W.ct ?_ | refine W.cf ?_) | (show W _ _ _ _ _ _ (.ins (cond _ _ _ :: _) :: _) _ _; first | refine W.gt ?_ | refine W.gf ?_) | (show W _ _ _ _ _ _ [] _ _; refine W.of (.done ?_)) | (apply W.of; constructor <;> first | (show W _ _ _ _ _ _ _ _ _) | (intro (al : Nat) h st; show W _ _ _ _ _ _ _ _ _) | (intro _ h st; show W _ _ _ _ _ _ _ _ _) | exact Sd)))
    refine ⟨_, rfl, _, ⟨congrArg (AV.int .i64) ?_, rfl⟩, st⟩
    unfold getZ
    cases atZ zs id with
    | none => rfl
    | some a => dsimp only; rw [if_neg (by omega)]
  · have hpo := st.po Tk
    have znj := zptr_nj (atZ zs id)
    have zok := zptr_ok (atZ zs id)
    (repeat (first | (show W _ _ _ _ _ _ (.code (cond _ _ _) :: _) _ _; first | refine W.ct ?_ | refine W.cf ?_) | (show W _ _ _ _ _ _ (.ins (cond _ _ _ :: _) :: _) _ _; first | refine W.gt ?_ | refine W.gf ?_) | (show W _ _ _ _ _ _ [] _ _; refine W.of (.done ?_)) | (apply W.of; constructor <;> first | (show W _ _ _ _ _ _ _ _ _) | (intro (al : Nat) h st; show W _ _ _ _ _ _ _ _ _) | (intro _ h st; show W _ _ _ _ _ _ _ _ _) | exact Sd))); refine W.call (hs := po_Slots) (w := ?_); rintro vv _ ⟨rfl, rfl⟩ h st; refine nj ?_; dsimp only [List.cons_append, List.nil_append] at st
    unfold slotsZ getZ
    cases ha : atZ zs id with
    | none =>
      dsimp only
      (repeat (first | (show W _ _ _ _ _ _ (.code (cond _ _ _) :: _) _ _; first | refine W.ct ?_ | refine W.cf ?_) | (show W _ _ _ _ _ _ (.ins (cond _ _ _ :: _) :: _) _ _; first | refine W.gt ?_ | refine W.gf ?_) | (show W _ _ _ _ _ _ [] _ _; refine W.of (.done ?_)) | (apply W.of; constructor <;> first | (show W _ _ _ _ _ _ _ _ _) | (intro (al : Nat) h st; show W _ _ _ _ _ _ _ _ _) | (intro _ h st; show W _ _ _ _ _ _ _ _ _) | exact Sd)))
      exact ⟨_, rfl, _, ⟨rfl, rfl⟩, st⟩
    | some a =>
      dsimp only
      by_cases h1 : slot < a.an.length
      · have znj := zptr_nj (atZ zs id)
        (repeat (first | (show W _ _ _ _ _ _ (.code (cond _ _ _) :: _) _ _; first | refine W.ct ?_ | refine W.cf ?_) | (show W _ _ _ _ _ _ (.ins (cond _ _ _ :: _) :: _) _ _; first | refine W.gt ?_ | refine W.gf ?_) | (show W _ _ _ _ _ _ [] _ _; refine W.of (.done ?_)) | (apply W.of; constructor <;> first | (show W _ _ _ _ _ _ _ _ _) | (intro (al : Nat) h st; show W _ _ _ _ _ _ _ _ _) | (intro _ h st; show W _ _ _ _ _ _ _ _ _) | exact Sd))); refine W.call (hs := po_of) (w := ?_); rintro vv _ ⟨rfl, rfl⟩ h st; refine nj ?_; dsimp only [List.cons_append, List.nil_append] at st
        rw [ha]
        dsimp only [zptr]
        obtain ⟨_, _, hz⟩ := atZ_some ha
        have st := st.poOut Tk hz
        obtain ⟨_, ⟨D, v, l, rfl, he, hok⟩, st⟩ := St.unpack st; dsimp only [List.cons_append, List.nil_append] at st
        obtain ⟨vl, vj, vs⟩ := St.ivs (v := v) (cs := a.an) st Tk
        obtain ⟨i, rfl⟩ : ∃ i : Nat, slot = (i : Int) := ⟨slot.toNat, by omega⟩
        obtain ⟨x, hx⟩ : ∃ x, a.an[i]? = some x := ⟨a.an[i]'(by omega), by simp⟩
        obtain ⟨gp, gq⟩ := d_vsIdx (v := v) (l := a.an.map ikey) (i := i) (kk := .i64) st Tk (by rw [List.length_map]; omega)
        (repeat (first | (show W _ _ _ _ _ _ (.code (cond _ _ _) :: _) _ _; first | refine W.ct ?_ | refine W.cf ?_) | (show W _ _ _ _ _ _ (.ins (cond _ _ _ :: _) :: _) _ _; first | refine W.gt ?_ | refine W.gf ?_) | (show W _ _ _ _ _ _ [] _ _; refine W.of (.done ?_)) | (apply W.of; constructor <;> first | (show W _ _ _ _ _ _ _ _ _) | (intro (al : Nat) h st; show W _ _ _ _ _ _ _ _ _) | (intro _ h st; show W _ _ _ _ _ _ _ _ _) | exact Sd))); refine W.do (ho := gp) (w := ?_)
        (repeat (first | (show W _ _ _ _ _ _ (.code (cond _ _ _) :: _) _ _; first | refine W.ct ?_ | refine W.cf ?_) | (show W _ _ _ _ _ _ (.ins (cond _ _ _ :: _) :: _) _ _; first | refine W.gt ?_ | refine W.gf ?_) | (show W _ _ _ _ _ _ [] _ _; refine W.of (.done ?_)) | (apply W.of; constructor <;> first | (show W _ _ _ _ _ _ _ _ _) | (intro (al : Nat) h st; show W _ _ _ _ _ _ _ _ _) | (intro _ h st; show W _ _ _ _ _ _ _ _ _) | exact Sd))); refine W.do (ho := (d_vsLoad (v := v) (l := a.an.map ikey) (x := ikey x) st Tk (by rw [List.getElem?_map, hx]; rfl))) (w := ?_)
        (repeat (first | (show W _ _ _ _ _ _ (.code (cond _ _ _) :: _) _ _; first | refine W.ct ?_ | refine W.cf ?_) | (show W _ _ _ _ _ _ (.ins (cond _ _ _ :: _) :: _) _ _; first | refine W.gt ?_ | refine W.gf ?_) | (show W _ _ _ _ _ _ [] _ _; refine W.of (.done ?_)) | (apply W.of; constructor <;> first | (show W _ _ _ _ _ _ _ _ _) | (intro (al : Nat) h st; show W _ _ _ _ _ _ _ _ _) | (intro _ h st; show W _ _ _ _ _ _ _ _ _) | exact Sd)))
        have st := St.packP (t := 40) (k := .ptr a.O 0) (P := AmIs a) (cs := [.pt a.O (oneRow D v), CntC D l a.cs.length, VsC v 3 (a.an.map ikey) true]) st ⟨D, v, l, rfl, he, hok⟩ Pks
        exact ⟨_, rfl, _, ⟨by rw [if_pos ⟨by omega, h1⟩, Int.toNat_natCast, hx]; rfl, rfl⟩, st.poBack hz Tk Tk⟩
      · (repeat (first | (show W _ _ _ _ _ _ (.code (cond _ _ _) :: _) _ _; first | refine W.ct ?_ | refine W.cf ?_) | (show W _ _ _ _ _ _ (.ins (cond _ _ _ :: _) :: _) _ _; first | refine W.gt ?_ | refine W.gf ?_) | (show W _ _ _ _ _ _ [] _ _; refine W.of (.done ?_)) | (apply W.of; constructor <;> first | (show W _ _ _ _ _ _ _ _ _) | (intro (al : Nat) h st; show W _ _ _ _ _ _ _ _ _) | (intro _ h st; show W _ _ _ _ _ _ _ _ _) | exact Sd)))
        exact ⟨_, rfl, _, ⟨by rw [if_neg (by omega)]; rfl, rfl⟩, st⟩
/-- what Set leaves -/
def setZ (zs : List (Option AmV)) (id slot x : Int) : List (Option AmV) := match atZ zs id with | some a => zs.set (id - 1).toNat (some { a with an := a.an.set slot.toNat x }) | none => zs
theorem po_Set {id slot x : Int} : Spec R (.f n_amap_Pool_Set) [.ptr P 0, .int .i64 id, .int .i64 slot, .int .i64 x] [PoC P most zs] fun v Rs =>
    (atZ zs id = none ∧ v = .tuple [.int .i64 0, .int .i64 7] ∧ Rs = [PoC P most zs]) ∨
    (∃ a, atZ zs id = some a ∧ (coverZ zs id slot = 0 ∨ x < 0) ∧ v = .tuple [.int .i64 0, .int .i64 2] ∧ Rs = [PoC P most zs]) ∨
    (∃ a, atZ zs id = some a ∧ ¬ (coverZ zs id slot = 0 ∨ x < 0) ∧ v = .tuple [.int .i64 (getZ zs id slot), .int .i64 0] ∧ Rs = [PoC P most (setZ zs id slot x)]) := by
  refine spec_w (fun _ _ _ x => progI_call rfl rfl x) Njs rfl (fun h F st => ?_); dsimp only [List.cons_append, List.nil_append] at st
  have knj := knownV_nj (atZ zs id)
  have kok := knownV_ok (atZ zs id)
  (repeat (first | (show W _ _ _ _ _ _ (.code (cond _ _ _) :: _) _ _; first | refine W.ct ?_ | refine W.cf ?_) | (show W _ _ _ _ _ _ (.ins (cond _ _ _ :: _) :: _) _ _; first | refine W.gt ?_ | refine W.gf ?_) | (show W _ _ _ _ _ _ [] _ _; refine W.of (.done ?_)) | (apply W.of; constructor <;> first | (show W _ _ _ _ _ _ _ _ _) | (intro (al : Nat) h st; show W _ _ _ _ _ _ _ _ _) | (intro _ h st; show W _ _ _ _ _ _ _ _ _) | exact Sd))); refine W.call (hs := po_known) (w := ?_); rintro vv _ ⟨rfl, rfl⟩ h st; refine nj ?_; dsimp only [List.cons_append, List.nil_append] at st
  cases ha : atZ zs id with
  | none =>
    dsimp only [knownV]
    (repeat (first | (show W _ _ _ _ _ _ (.code (cond _ _ _) :: _) _ _; first | refine W.ct ?_ | refine W.cf ?_) | (show W _ _ _ _ _ _ (.ins (cond _ _ _ :: _) :: _) _ _; first | refine W.gt ?_ | refine W.gf ?_) | (show W _ _ _ _ _ _ [] _ _; refine W.of (.done ?_)) | (apply W.of; constructor <;> first | (show W _ _ _ _ _ _ _ _ _) | (intro (al : Nat) h st; show W _ _ _ _ _ _ _ _ _) | (intro _ h st; show W _ _ _ _ _ _ _ _ _) | exact Sd)))
    exact ⟨_, rfl, _, .inl ⟨rfl, rfl, rfl⟩, st⟩
  | some a =>
    dsimp only [knownV]
    obtain ⟨_, _, hz⟩ := atZ_some ha
    (repeat (first | (show W _ _ _ _ _ _ (.code (cond _ _ _) :: _) _ _; first | refine W.ct ?_ | refine W.cf ?_) | (show W _ _ _ _ _ _ (.ins (cond _ _ _ :: _) :: _) _ _; first | refine W.gt ?_ | refine W.gf ?_) | (show W _ _ _ _ _ _ [] _ _; refine W.of (.done ?_)) | (apply W.of; constructor <;> first | (show W _ _ _ _ _ _ _ _ _) | (intro (al : Nat) h st; show W _ _ _ _ _ _ _ _ _) | (intro _ h st; show W _ _ _ _ _ _ _ _ _) | exact Sd))); refine W.call (hs := po_Cover) (w := ?_); rintro vv _ ⟨rfl, rfl⟩ h st; refine nj ?_; dsimp only [List.cons_append, List.nil_append] at st
    by_cases h0 : coverZ zs id slot = 0
    · rw [h0]
      (repeat (first | (show W _ _ _ _ _ _ (.code (cond _ _ _) :: _) _ _; first | refine W.ct ?_ | refine W.cf ?_) | (show W _ _ _ _ _ _ (.ins (cond _ _ _ :: _) :: _) _ _; first | refine W.gt ?_ | refine W.gf ?_) | (show W _ _ _ _ _ _ [] _ _; refine W.of (.done ?_)) | (apply W.of; constructor <;> first | (show W _ _ _ _ _ _ _ _ _) | (intro (al : Nat) h st; show W _ _ _ _ _ _ _ _ _) | (intro _ h st; show W _ _ _ _ _ _ _ _ _) | exact Sd)))
      exact ⟨_, rfl, _, .inr (.inl ⟨a, rfl, .inl rfl, rfl, rfl⟩), st⟩
    · by_cases h1 : x < 0
      · (repeat (first | (show W _ _ _ _ _ _ (.code (cond _ _ _) :: _) _ _; first | refine W.ct ?_ | refine W.cf ?_) | (show W _ _ _ _ _ _ (.ins (cond _ _ _ :: _) :: _) _ _; first | refine W.gt ?_ | refine W.gf ?_) | (show W _ _ _ _ _ _ [] _ _; refine W.of (.done ?_)) | (apply W.of; constructor <;> first | (show W _ _ _ _ _ _ _ _ _) | (intro (al : Nat) h st; show W _ _ _ _ _ _ _ _ _) | (intro _ h st; show W _ _ _ _ _ _ _ _ _) | exact Sd)))
        exact ⟨_, rfl, _, .inr (.inl ⟨a, rfl, .inr h1, rfl, rfl⟩), st⟩
      · have hin : 0 ≤ slot ∧ slot < a.cs.length := by
          unfold coverZ atL at h0
          rw [ha] at h0
          dsimp only at h0
          split at h0
          · assumption
          · exact absurd rfl h0
        obtain ⟨i, rfl⟩ : ∃ i : Nat, slot = (i : Int) := ⟨slot.toNat, by omega⟩
        have st := st.poOut Tk hz
        obtain ⟨_, ⟨D, v, l, rfl, he, hok⟩, st⟩ := St.unpack st; dsimp only [List.cons_append, List.nil_append] at st
        have hlen := hok.len
        obtain ⟨vl, vj, vs⟩ := St.ivs (v := v) (cs := a.an) st Tk
        obtain ⟨y, hy⟩ : ∃ y, a.an[i]? = some y := ⟨a.an[i]'(by omega), by simp⟩
        obtain ⟨gp, gq⟩ := d_vsIdx (v := v) (l := a.an.map ikey) (i := i) (kk := .i64) st Tk (by rw [List.length_map]; omega)
        (repeat (first | (show W _ _ _ _ _ _ (.code (cond _ _ _) :: _) _ _; first | refine W.ct ?_ | refine W.cf ?_) | (show W _ _ _ _ _ _ (.ins (cond _ _ _ :: _) :: _) _ _; first | refine W.gt ?_ | refine W.gf ?_) | (show W _ _ _ _ _ _ [] _ _; refine W.of (.done ?_)) | (apply W.of; constructor <;> first | (show W _ _ _ _ _ _ _ _ _) | (intro (al : Nat) h st; show W _ _ _ _ _ _ _ _ _) | (intro _ h st; show W _ _ _ _ _ _ _ _ _) | exact Sd))); refine W.do (ho := gp) (w := ?_)
        (repeat (first | (show W _ _ _ _ _ _ (.code (cond _ _ _) :: _) _ _; first | refine W.ct ?_ | refine W.cf ?_) | (show W _ _ _ _ _ _ (.ins (cond _ _ _ :: _) :: _) _ _; first | refine W.gt ?_ | refine W.gf ?_) | (show W _ _ _ _ _ _ [] _ _; refine W.of (.done ?_)) | (apply W.of; constructor <;> first | (show W _ _ _ _ _ _ _ _ _) | (intro (al : Nat) h st; show W _ _ _ _ _ _ _ _ _) | (intro _ h st; show W _ _ _ _ _ _ _ _ _) | exact Sd))); refine W.do (ho := (d_vsLoad (v := v) (l := a.an.map ikey) (x := ikey y) st Tk (by rw [List.getElem?_map, hy]; rfl))) (w := ?_)
        (repeat (first | (show W _ _ _ _ _ _ (.code (cond _ _ _) :: _) _ _; first | refine W.ct ?_ | refine W.cf ?_) | (show W _ _ _ _ _ _ (.ins (cond _ _ _ :: _) :: _) _ _; first | refine W.gt ?_ | refine W.gf ?_) | (show W _ _ _ _ _ _ [] _ _; refine W.of (.done ?_)) | (apply W.of; constructor <;> first | (show W _ _ _ _ _ _ _ _ _) | (intro (al : Nat) h st; show W _ _ _ _ _ _ _ _ _) | (intro _ h st; show W _ _ _ _ _ _ _ _ _) | exact Sd))); refine W.do (ho := gp) (w := ?_)
        (repeat (first | (show W _ _ _ _ _ _ (.code (cond _ _ _) :: _) _ _; first | refine W.ct ?_ | refine W.cf ?_) | (show W _ _ _ _ _ _ (.ins (cond _ _ _ :: _) :: _) _ _; first | refine W.gt ?_ | refine W.gf ?_) | (show W _ _ _ _ _ _ [] _ _; refine W.of (.done ?_)) | (apply W.of; constructor <;> first | (show W _ _ _ _ _ _ _ _ _) | (intro (al : Nat) h st; show W _ _ _ _ _ _ _ _ _) | (intro _ h st; show W _ _ _ _ _ _ _ _ _) | exact Sd))); refine W.ef0 (ho := (e_vsStore (v := v) (l := a.an.map ikey) (i := i) st Tk (by rw [List.length_map]; omega) rfl)) (w := ?_); rintro _ h ⟨_, st⟩
        rw [← List.map_set (f := ikey)] at st
        (repeat (first | (show W _ _ _ _ _ _ (.code (cond _ _ _) :: _) _ _; first | refine W.ct ?_ | refine W.cf ?_) | (show W _ _ _ _ _ _ (.ins (cond _ _ _ :: _) :: _) _ _; first | refine W.gt ?_ | refine W.gf ?_) | (show W _ _ _ _ _ _ [] _ _; refine W.of (.done ?_)) | (apply W.of; constructor <;> first | (show W _ _ _ _ _ _ _ _ _) | (intro (al : Nat) h st; show W _ _ _ _ _ _ _ _ _) | (intro _ h st; show W _ _ _ _ _ _ _ _ _) | exact Sd)))
        have st := St.packP (t := 40) (k := .ptr a.O 0) (P := AmIs { a with an := a.an.set i x }) (cs := [.pt a.O (oneRow D v), CntC D l a.cs.length, VsC v 3 ((a.an.set i x).map ikey) true]) st ⟨D, v, l, rfl, he, by simp [hlen], hok.n1, hok.n4, fun z hz => by
          rcases List.mem_or_eq_of_mem_set hz with hz | hz
          · exact hok.pos z hz
          · omega⟩ Pks
        have st := st.poIn (a := a) (b := { a with an := a.an.set i x }) rfl hz Tk Tk
        refine ⟨_, rfl, _, .inr (.inr ⟨a, rfl, by omega, ?_, rfl⟩), ?_⟩
        · unfold getZ
          rw [ha]
          dsimp only
          rw [if_pos (by omega), Int.toNat_natCast, hy]; rfl
        · unfold setZ
          rw [ha]
          exact st
end Go.Proofs.Ytjdemlagmamlbaa

namespace Go.Proofs.Ytjdemlagmamlbaa
/-- the first that is none -/
def firstN : List (Option AmV) → Nat
  | [] => 0
  | none :: _ => 0
  | some _ :: r => firstN r + 1
theorem firstN_le : ∀ {zs : List (Option AmV)}, firstN zs ≤ zs.length
  | [] => Nat.le_refl _
  | none :: _ => Nat.zero_le _
  | some _ :: r => by have := firstN_le (zs := r); simp only [firstN, List.length_cons]; omega
theorem firstN_some {a : AmV} : ∀ {zs : List (Option AmV)} {i : Nat}, zs[i]? = some (some a) → i ≤ firstN zs → i + 1 ≤ firstN zs
  | [], i, h, _ => by simp at h
  | none :: r, i, h, h2 => by simp only [firstN] at h2; rw [Nat.le_zero.1 h2] at h; simp at h
  | some b :: r, 0, h, h2 => by simp only [firstN]; omega
  | some b :: r, i + 1, h, h2 => by
    simp only [firstN] at h2 ⊢
    have := firstN_some (zs := r) (i := i) (by simpa using h) (by omega)
    omega
theorem firstN_none : ∀ {zs : List (Option AmV)} {i : Nat}, zs[i]? = some none → i ≤ firstN zs → firstN zs = i
  | [], i, h, _ => by simp at h
  | none :: r, i, h, h2 => by simp only [firstN] at h2 ⊢; omega
  | some b :: r, 0, h, h2 => by simp at h
  | some b :: r, i + 1, h, h2 => by
    simp only [firstN] at h2 ⊢
    have := firstN_none (zs := r) (i := i) (by simpa using h) (by omega)
    omega
theorem firstN_at : ∀ {zs : List (Option AmV)}, firstN zs < zs.length → zs[firstN zs]? = some none
  | [], h => by simp at h
  | none :: r, h => rfl
  | some b :: r, h => by
    simp only [firstN, List.length_cons] at h ⊢
    rw [List.getElem?_cons_succ]
    exact firstN_at (by omega)
theorem cntZ_full : ∀ {zs : List (Option AmV)}, firstN zs = zs.length → cntZ zs = zs.length
  | [], _ => rfl
  | none :: r, h => by simp [firstN] at h
  | some b :: r, h => by
    simp only [firstN, List.length_cons] at h
    have := cntZ_full (zs := r) (by omega)
    simp only [cntZ, List.filter_cons, Option.isSome, if_true, List.length_cons] at this ⊢
    omega
theorem cntZ_le {zs : List (Option AmV)} : cntZ zs ≤ zs.length := List.length_filter_le _ _
abbrev ixE (sv : AV) (n i : Nat) : Env := [(0, sv), (1, .nilptr), (7, .int .i64 n), (8, .int .i64 i)]
theorem po_Index {sv : AV} {zs : List (Option AmV)} (hz : zs.length ≤ 4096) : Spec R (.f n_slices_Index_amap_one_amap_one) [sv, .nilptr] [VsC sv 177 (zs.map zptr) true] fun v Rs => v = .int .i64 (if firstN zs < zs.length then (firstN zs : Int) else -1) ∧ Rs = [VsC sv 177 (zs.map zptr) true] := by
  refine spec_in fun h F st => ?_
  obtain ⟨sl, sj, ss⟩ := St.vs (v := sv) (l := zs.map zptr) st Tk
  clear st h F; refine spec_w (fun _ _ _ x => progI_call rfl rfl x) Njs rfl (fun h F st => ?_); dsimp only [List.cons_append, List.nil_append] at st
  rw [List.length_map] at sl
  (repeat (first | (show W _ _ _ _ _ _ (.code (cond _ _ _) :: _) _ _; first | refine W.ct ?_ | refine W.cf ?_) | (show W _ _ _ _ _ _ (.ins (cond _ _ _ :: _) :: _) _ _; first | refine W.gt ?_ | refine W.gf ?_) | (show W _ _ _ _ _ _ [] _ _; refine W.of (.done ?_)) | (apply W.of; constructor <;> first | (show W _ _ _ _ _ _ _ _ _) | (intro (al : Nat) h st; show W _ _ _ _ _ _ _ _ _) | (intro _ h st; show W _ _ _ _ _ _ _ _ _) | exact Sd)))
  refine W.loop (fun i : Nat => ixE sv zs.length i) (fun _ => VsC sv 177 (zs.map zptr) true :: F) (fun i => i ≤ zs.length ∧ i ≤ firstN zs) (fun i => zs.length - i) 0 (small_rounds (by omega)) Sbs st ⟨Nat.zero_le _, Nat.zero_le _⟩ ?_
  clear st
  intro i h ⟨hi, hf⟩ st
  by_cases hlt : i < zs.length
  · obtain ⟨gp, gq⟩ := d_vsIdx (v := sv) (l := zs.map zptr) (i := i) (kk := .i64) st Tk (by rw [List.length_map]; omega)
    obtain ⟨z, hz'⟩ : ∃ z, zs[i]? = some z := ⟨zs[i]'(by omega), by simp⟩
    have znj := zptr_nj z
    have zok := zptr_ok z
    (repeat (first | (show W _ _ _ _ _ _ (.code (cond _ _ _) :: _) _ _; first | refine W.ct ?_ | refine W.cf ?_) | (show W _ _ _ _ _ _ (.ins (cond _ _ _ :: _) :: _) _ _; first | refine W.gt ?_ | refine W.gf ?_) | (show W _ _ _ _ _ _ [] _ _; refine W.of (.done ?_)) | (apply W.of; constructor <;> first | (show W _ _ _ _ _ _ _ _ _) | (intro (al : Nat) h st; show W _ _ _ _ _ _ _ _ _) | (intro _ h st; show W _ _ _ _ _ _ _ _ _) | exact Sd))); refine W.do (ho := gp) (w := ?_)
    (repeat (first | (show W _ _ _ _ _ _ (.code (cond _ _ _) :: _) _ _; first | refine W.ct ?_ | refine W.cf ?_) | (show W _ _ _ _ _ _ (.ins (cond _ _ _ :: _) :: _) _ _; first | refine W.gt ?_ | refine W.gf ?_) | (show W _ _ _ _ _ _ [] _ _; refine W.of (.done ?_)) | (apply W.of; constructor <;> first | (show W _ _ _ _ _ _ _ _ _) | (intro (al : Nat) h st; show W _ _ _ _ _ _ _ _ _) | (intro _ h st; show W _ _ _ _ _ _ _ _ _) | exact Sd))); refine W.do (ho := (d_vsLoad (v := sv) (l := zs.map zptr) (x := zptr z) st Tk (by rw [List.getElem?_map, hz']; rfl))) (w := ?_)
    cases z with
    | none =>
      dsimp only [zptr]
      (repeat (first | (show W _ _ _ _ _ _ (.code (cond _ _ _) :: _) _ _; first | refine W.ct ?_ | refine W.cf ?_) | (show W _ _ _ _ _ _ (.ins (cond _ _ _ :: _) :: _) _ _; first | refine W.gt ?_ | refine W.gf ?_) | (show W _ _ _ _ _ _ [] _ _; refine W.of (.done ?_)) | (apply W.of; constructor <;> first | (show W _ _ _ _ _ _ _ _ _) | (intro (al : Nat) h st; show W _ _ _ _ _ _ _ _ _) | (intro _ h st; show W _ _ _ _ _ _ _ _ _) | exact Sd)))
      have e := firstN_none hz' hf
      exact ⟨_, rfl, _, ⟨by rw [e, if_pos hlt]; rfl, rfl⟩, st⟩
    | some a =>
      dsimp only [zptr]
      (repeat (first | (show W _ _ _ _ _ _ (.code (cond _ _ _) :: _) _ _; first | refine W.ct ?_ | refine W.cf ?_) | (show W _ _ _ _ _ _ (.ins (cond _ _ _ :: _) :: _) _ _; first | refine W.gt ?_ | refine W.gf ?_) | (show W _ _ _ _ _ _ [] _ _; refine W.of (.done ?_)) | (apply W.of; constructor <;> first | (show W _ _ _ _ _ _ _ _ _) | (intro (al : Nat) h st; show W _ _ _ _ _ _ _ _ _) | (intro _ h st; show W _ _ _ _ _ _ _ _ _) | exact Sd)))
      refine W.of (.lp ?_)
      exact ⟨i + 1, by omega, ⟨hlt, firstN_some hz' hf⟩, Sbs, st⟩
  · (repeat (first | (show W _ _ _ _ _ _ (.code (cond _ _ _) :: _) _ _; first | refine W.ct ?_ | refine W.cf ?_) | (show W _ _ _ _ _ _ (.ins (cond _ _ _ :: _) :: _) _ _; first | refine W.gt ?_ | refine W.gf ?_) | (show W _ _ _ _ _ _ [] _ _; refine W.of (.done ?_)) | (apply W.of; constructor <;> first | (show W _ _ _ _ _ _ _ _ _) | (intro (al : Nat) h st; show W _ _ _ _ _ _ _ _ _) | (intro _ h st; show W _ _ _ _ _ _ _ _ _) | exact Sd)))
    have := firstN_le (zs := zs)
    exact ⟨_, rfl, _, ⟨by rw [if_neg (by omega)]; rfl, rfl⟩, st⟩
/-- the number that Make gives, less one; what it leaves -/
def putZ (zs : List (Option AmV)) (a : AmV) : List (Option AmV) := if firstN zs < zs.length then zs.set (firstN zs) (some a) else zs ++ [some a]
theorem cntZ_put {a : AmV} : ∀ {zs : List (Option AmV)}, cntZ (putZ zs a) = cntZ zs + 1
  | [] => rfl
  | none :: r => by simp [putZ, firstN, cntZ]
  | some b :: r => by
    have := cntZ_put (a := a) (zs := r)
    simp only [putZ, firstN, List.length_cons, Nat.add_lt_add_iff_right, List.set_cons_succ] at this ⊢
    split at this <;> rename_i hh <;> simp only [hh, if_true, if_false, cntZ, List.cons_append, List.filter_cons, Option.isSome, List.length_cons] at this ⊢ <;> omega
variable {P most : Nat} {zs : List (Option AmV)} {a : AmV}
def newAm (O n : Nat) : AmV := ⟨O, List.replicate n 1, List.replicate n 0⟩
abbrev mkPost (P most : Nat) (zs : List (Option AmV)) (m : Int) (v : AV) (Rs : List Chunk) : Prop :=
  (¬ (1 ≤ m ∧ m ≤ 4096) ∧ v = .tuple [.int .i64 0, .int .i64 2] ∧ Rs = [PoC P most zs]) ∨
  ((1 ≤ m ∧ m ≤ 4096) ∧ most ≤ cntZ zs ∧ v = .tuple [.int .i64 0, .int .i64 5] ∧ Rs = [PoC P most zs]) ∨
  ((1 ≤ m ∧ m ≤ 4096) ∧ cntZ zs < most ∧ ∃ O, v = .tuple [.int .i64 ((firstN zs : Int) + 1), .int .i64 0] ∧ Rs = [PoC P most (putZ zs (newAm O m.toNat))])
theorem addL_one {k : Nat} : addL 0 (List.replicate k 0) 0 k 1 = List.replicate k 1 := by
  apply List.ext_getElem?
  intro j
  rw [addL_get]
  by_cases h : j < k
  · simp [h]
  · simp [h]
theorem addOk_one {k : Nat} : AddOk (List.replicate k 0) 0 k 1 := ⟨by omega, by simp, by omega, fun c hc => by
  rw [(List.mem_replicate.1 (List.mem_of_mem_drop (List.mem_of_mem_take hc))).2]; omega⟩
theorem po_put {h : AHeap} {L R R1 R2 R3 : List Chunk} {sv : AV} {n : Int} (st : St h L) (t : Take L (AmC a) R) (t1 : Take R (.pt P (.row ty_amap_Pool 4 false false (.vals [.int .i64 most, .bool true, sv, .int .i64 n]))) R1) (t2 : Take R1 (VsC sv 177 ((putZ zs a).map zptr) true) R2) (t3 : Take R2 (SepC (.ptr P 0) zG zs) R3)
    (hn : n = (cntZ zs : Int) + 1) (hl : firstN zs = zs.length → zs.length + 1 ≤ most) (hok : PoOk most zs) (hc : cntZ zs < most) : St h (PoC P most (putZ zs a) :: R3) := by
  obtain rfl : n = ((cntZ zs + 1 : Nat) : Int) := by rw [hn]; rfl
  have st1 := (st.take t).perm ((t1.perm.trans ((t2.perm.trans (t3.perm.cons _)).cons _)).cons _)
  have st2 : St h (SepC (.ptr P 0) zG (putZ zs a) :: .pt P (poolRow most sv (cntZ zs + 1)) :: VsC sv 177 ((putZ zs a).map zptr) true :: R3) := by
    unfold putZ
    by_cases hf : firstN zs < zs.length
    · rw [if_pos hf]
      have st3 : St h (SepC (.ptr P 0) zG zs :: AmC a :: .pt P (poolRow most sv (cntZ zs + 1)) :: VsC sv 177 ((putZ zs a).map zptr) true :: R3) := st1.sel Sels
      have st4 := St.sepOut (G := zG) (a := none) st3 Tk (firstN_at hf)
      have st5 := St.sepIn (G := zG) (a := some a) (l := zs) (i := firstN zs) (key := .ptr P 0) (R := .pt P (poolRow most sv (cntZ zs + 1)) :: VsC sv 177 ((putZ zs a).map zptr) true :: R3) (st4.sel Sels) hf
      rw [putZ, if_pos hf] at st5
      exact st5
    · rw [if_neg hf]
      have st3 : St h (SepC (.ptr P 0) zG zs :: AmC a :: .pt P (poolRow most sv (cntZ zs + 1)) :: VsC sv 177 ((putZ zs a).map zptr) true :: R3) := st1.sel Sels
      have st4 := St.sepSnoc (G := zG) (a := some a) st3 Tk Pks
      rw [putZ, if_neg hf] at st4
      exact st4
  refine St.pack (cs := [.pt P (poolRow most sv (cntZ zs + 1)), VsC sv 177 ((putZ zs a).map zptr) true, SepC (.ptr P 0) zG (putZ zs a)]) (st2.sel Sels) ⟨sv, by rw [cntZ_put], hok.m, by rw [cntZ_put]; exact hc, ?_⟩
  have := firstN_le (zs := zs)
  unfold putZ
  split
  · rw [List.length_set]; exact hok.l
  · rw [List.length_append]; exact hl (by omega)
set_option maxRecDepth 8000 in
theorem mk_tail {O D k : Nat} {v sv : AV} {l0 : List RunV} {Fr : List Chunk} {h : AHeap} (h1 : 1 ≤ k) (h2 : k ≤ 4096) (e0 : expand l0 = List.replicate k 0) (hpo : PoOk most zs) (h3 : cntZ zs < most) 
    (st : St h (.pt O (oneRow D v) :: CntC D l0 k :: VsC v 3 ((List.replicate k (0 : Int)).map ikey) true :: .pt P (poolRow most sv (cntZ zs)) :: VsC sv 177 (zs.map zptr) true :: SepC (.ptr P 0) zG zs :: Fr)) :
    W over tab none c_amap_Pool_Make.ntmps (fnQ c_amap_Pool_Make.res fun v h' => ∃ Rs, mkPost P most zs (k : Nat) v Rs ∧ St h' (Rs ++ Fr)) .normal [.ins [I 40 (.callv) [F 66, T 38, N 0, T 39, N 1]], .code (sR (sR (sR (sR c_amap_Pool_Make.body))))]
      [(0, .ptr P 0), (6, .ptr O 0), (38, .ptr D 0), (39, .int .i64 k)] h := by
  have hm := hpo.m
  have hl := hpo.l
  obtain ⟨sl, sj, ss⟩ := St.vs (v := sv) (l := zs.map zptr) st Tk
  rw [List.length_map] at sl
  have hfl := firstN_le (zs := zs)
  (repeat (first | (show W _ _ _ _ _ _ (.code (cond _ _ _) :: _) _ _; first | refine W.ct ?_ | refine W.cf ?_) | (show W _ _ _ _ _ _ (.ins (cond _ _ _ :: _) :: _) _ _; first | refine W.gt ?_ | refine W.gf ?_) | (show W _ _ _ _ _ _ [] _ _; refine W.of (.done ?_)) | (apply W.of; constructor <;> first | (show W _ _ _ _ _ _ _ _ _) | (intro (al : Nat) h st; show W _ _ _ _ _ _ _ _ _) | (intro _ h st; show W _ _ _ _ _ _ _ _ _) | exact Sd))); refine W.call (hs := (cnt_Add_ok (D := D) (l := l0) (n := (k : Nat)) (lo := 0) (hi := (k : Nat)) (by' := 1) (by rw [e0]; exact addOk_one))) (w := ?_); rintro vv _ ⟨gv, l1, rfl, gj, gl, e1, rfl⟩ h st; refine nj ?_; dsimp only [List.cons_append, List.nil_append] at st
  rw [e0, addL_one] at e1
  have st := St.packP (t := 40) (k := .ptr O 0) (P := AmIs (newAm O k)) (cs := [.pt O (oneRow D v), CntC D l1 k, VsC v 3 ((List.replicate k (0 : Int)).map ikey) true]) st ⟨D, v, l1, by simp [newAm], e1, by simp [newAm], by simpa [newAm] using h1, by simpa [newAm] using h2, fun x hx => by rw [(List.mem_replicate.1 hx).2]; exact Int.le_refl _⟩ Pks
  (repeat (first | (show W _ _ _ _ _ _ (.code (cond _ _ _) :: _) _ _; first | refine W.ct ?_ | refine W.cf ?_) | (show W _ _ _ _ _ _ (.ins (cond _ _ _ :: _) :: _) _ _; first | refine W.gt ?_ | refine W.gf ?_) | (show W _ _ _ _ _ _ [] _ _; refine W.of (.done ?_)) | (apply W.of; constructor <;> first | (show W _ _ _ _ _ _ _ _ _) | (intro (al : Nat) h st; show W _ _ _ _ _ _ _ _ _) | (intro _ h st; show W _ _ _ _ _ _ _ _ _) | exact Sd)))
  (repeat (first | (show W _ _ _ _ _ _ (.code (cond _ _ _) :: _) _ _; first | refine W.ct ?_ | refine W.cf ?_) | (show W _ _ _ _ _ _ (.ins (cond _ _ _ :: _) :: _) _ _; first | refine W.gt ?_ | refine W.gf ?_) | (show W _ _ _ _ _ _ [] _ _; refine W.of (.done ?_)) | (apply W.of; constructor <;> first | (show W _ _ _ _ _ _ _ _ _) | (intro (al : Nat) h st; show W _ _ _ _ _ _ _ _ _) | (intro _ h st; show W _ _ _ _ _ _ _ _ _) | exact Sd))); refine W.call (hs := (po_Index (sv := sv) (zs := zs) (by omega))) (w := ?_); rintro vv _ ⟨rfl, rfl⟩ h st; refine nj ?_; dsimp only [List.cons_append, List.nil_append] at st
  by_cases hf : firstN zs < zs.length
  · rw [if_pos hf]
    obtain ⟨gp, gq⟩ := d_vsIdx (v := sv) (l := zs.map zptr) (i := firstN zs) (kk := .i64) st Tk (by rw [List.length_map]; omega)
    (repeat (first | (show W _ _ _ _ _ _ (.code (cond _ _ _) :: _) _ _; first | refine W.ct ?_ | refine W.cf ?_) | (show W _ _ _ _ _ _ (.ins (cond _ _ _ :: _) :: _) _ _; first | refine W.gt ?_ | refine W.gf ?_) | (show W _ _ _ _ _ _ [] _ _; refine W.of (.done ?_)) | (apply W.of; constructor <;> first | (show W _ _ _ _ _ _ _ _ _) | (intro (al : Nat) h st; show W _ _ _ _ _ _ _ _ _) | (intro _ h st; show W _ _ _ _ _ _ _ _ _) | exact Sd))); refine W.do (ho := gp) (w := ?_)
    (repeat (first | (show W _ _ _ _ _ _ (.code (cond _ _ _) :: _) _ _; first | refine W.ct ?_ | refine W.cf ?_) | (show W _ _ _ _ _ _ (.ins (cond _ _ _ :: _) :: _) _ _; first | refine W.gt ?_ | refine W.gf ?_) | (show W _ _ _ _ _ _ [] _ _; refine W.of (.done ?_)) | (apply W.of; constructor <;> first | (show W _ _ _ _ _ _ _ _ _) | (intro (al : Nat) h st; show W _ _ _ _ _ _ _ _ _) | (intro _ h st; show W _ _ _ _ _ _ _ _ _) | exact Sd))); refine W.ef0 (ho := (e_vsStore (v := sv) (l := zs.map zptr) (i := firstN zs) st Tk (by rw [List.length_map]; omega) rfl)) (w := ?_); rintro _ h ⟨_, st⟩
    (repeat (first | (show W _ _ _ _ _ _ (.code (cond _ _ _) :: _) _ _; first | refine W.ct ?_ | refine W.cf ?_) | (show W _ _ _ _ _ _ (.ins (cond _ _ _ :: _) :: _) _ _; first | refine W.gt ?_ | refine W.gf ?_) | (show W _ _ _ _ _ _ [] _ _; refine W.of (.done ?_)) | (apply W.of; constructor <;> first | (show W _ _ _ _ _ _ _ _ _) | (intro (al : Nat) h st; show W _ _ _ _ _ _ _ _ _) | (intro _ h st; show W _ _ _ _ _ _ _ _ _) | exact Sd)))
    have ez : (zs.map zptr).set (firstN zs) (.ptr O 0) = (putZ zs (newAm O k)).map zptr := by rw [putZ, if_pos hf, List.map_set]; rfl
    rw [ez] at st
    have st := po_put (a := newAm O k) (sv := sv) st Tk Tk Tk Tk rfl (fun e => by omega) hpo h3
    exact ⟨_, rfl, _, .inr (.inr ⟨by omega, h3, O, rfl, rfl⟩), st.sel Sels⟩
  · have hfe : firstN zs = zs.length := by omega
    have hcf := cntZ_full hfe
    rw [if_neg hf]
    (repeat (first | (show W _ _ _ _ _ _ (.code (cond _ _ _) :: _) _ _; first | refine W.ct ?_ | refine W.cf ?_) | (show W _ _ _ _ _ _ (.ins (cond _ _ _ :: _) :: _) _ _; first | refine W.gt ?_ | refine W.gf ?_) | (show W _ _ _ _ _ _ [] _ _; refine W.of (.done ?_)) | (apply W.of; constructor <;> first | (show W _ _ _ _ _ _ _ _ _) | (intro (al : Nat) h st; show W _ _ _ _ _ _ _ _ _) | (intro _ h st; show W _ _ _ _ _ _ _ _ _) | exact Sd)))
    have st := St.vsRow (l := [.ptr O 0]) (e := 177) st Tk rfl
    (repeat (first | (show W _ _ _ _ _ _ (.code (cond _ _ _) :: _) _ _; first | refine W.ct ?_ | refine W.cf ?_) | (show W _ _ _ _ _ _ (.ins (cond _ _ _ :: _) :: _) _ _; first | refine W.gt ?_ | refine W.gf ?_) | (show W _ _ _ _ _ _ [] _ _; refine W.of (.done ?_)) | (apply W.of; constructor <;> first | (show W _ _ _ _ _ _ _ _ _) | (intro (al : Nat) h st; show W _ _ _ _ _ _ _ _ _) | (intro _ h st; show W _ _ _ _ _ _ _ _ _) | exact Sd))); refine W.ef (ho := (e_vsAppend (s := sv) (l := zs.map zptr) (l' := [.ptr O 0]) st Tk Tk (by simp; omega) (by simp; omega))) (w := ?_); rintro vv h ⟨cj, cl, st⟩; refine nj ?_
    obtain ⟨s2, rfl⟩ : ∃ y, y = vv := ⟨_, rfl⟩
    have ez : zs.map zptr ++ [.ptr O 0] = (putZ zs (newAm O k)).map zptr := by rw [putZ, if_neg hf, List.map_append]; rfl
    rw [ez] at st cl
    (repeat (first | (show W _ _ _ _ _ _ (.code (cond _ _ _) :: _) _ _; first | refine W.ct ?_ | refine W.cf ?_) | (show W _ _ _ _ _ _ (.ins (cond _ _ _ :: _) :: _) _ _; first | refine W.gt ?_ | refine W.gf ?_) | (show W _ _ _ _ _ _ [] _ _; refine W.of (.done ?_)) | (apply W.of; constructor <;> first | (show W _ _ _ _ _ _ _ _ _) | (intro (al : Nat) h st; show W _ _ _ _ _ _ _ _ _) | (intro _ h st; show W _ _ _ _ _ _ _ _ _) | exact Sd))); refine W.ef0 (ho := (e_storeV (i := 2) st Tk rfl (by simp) (sl_dat cl))) (w := ?_); rintro _ h ⟨_, st⟩
    have cl2 : sliceLen s2 = some (zs.length + 1) := by rw [cl, List.length_map, putZ, if_neg hf, List.length_append]; rfl
    (repeat (first | (show W _ _ _ _ _ _ (.code (cond _ _ _) :: _) _ _; first | refine W.ct ?_ | refine W.cf ?_) | (show W _ _ _ _ _ _ (.ins (cond _ _ _ :: _) :: _) _ _; first | refine W.gt ?_ | refine W.gf ?_) | (show W _ _ _ _ _ _ [] _ _; refine W.of (.done ?_)) | (apply W.of; constructor <;> first | (show W _ _ _ _ _ _ _ _ _) | (intro (al : Nat) h st; show W _ _ _ _ _ _ _ _ _) | (intro _ h st; show W _ _ _ _ _ _ _ _ _) | exact Sd)))
    have st := po_put (a := newAm O k) (sv := s2) st Tk Tk Tk Tk rfl (fun e => by omega) hpo h3
    exact ⟨_, rfl, _, .inr (.inr ⟨by omega, h3, O, by rw [hfe]; rfl, rfl⟩), st.sel Sels⟩
set_option maxRecDepth 8000 in
theorem po_Make {m : Int} : Spec R (.f n_amap_Pool_Make) [.ptr P 0, .int .i64 m] [PoC P most zs] (mkPost P most zs m) := by
  refine spec_w (fun _ _ _ x => progI_call rfl rfl x) Njs rfl (fun h F st => ?_); dsimp only [List.cons_append, List.nil_append] at st
  have hpo := st.po Tk
  have hm := hpo.m
  have hl := hpo.l
  have hc := hpo.c
  (repeat (first | (show W _ _ _ _ _ _ (.code (cond _ _ _) :: _) _ _; first | refine W.ct ?_ | refine W.cf ?_) | (show W _ _ _ _ _ _ (.ins (cond _ _ _ :: _) :: _) _ _; first | refine W.gt ?_ | refine W.gf ?_) | (show W _ _ _ _ _ _ [] _ _; refine W.of (.done ?_)) | (apply W.of; constructor <;> first | (show W _ _ _ _ _ _ _ _ _) | (intro (al : Nat) h st; show W _ _ _ _ _ _ _ _ _) | (intro _ h st; show W _ _ _ _ _ _ _ _ _) | exact Sd))); refine W.call (hs := po_made) (w := ?_); rintro vv _ ⟨rfl, rfl⟩ h st; refine nj ?_; dsimp only [List.cons_append, List.nil_append] at st
  by_cases h1 : m < 1
  · (repeat (first | (show W _ _ _ _ _ _ (.code (cond _ _ _) :: _) _ _; first | refine W.ct ?_ | refine W.cf ?_) | (show W _ _ _ _ _ _ (.ins (cond _ _ _ :: _) :: _) _ _; first | refine W.gt ?_ | refine W.gf ?_) | (show W _ _ _ _ _ _ [] _ _; refine W.of (.done ?_)) | (apply W.of; constructor <;> first | (show W _ _ _ _ _ _ _ _ _) | (intro (al : Nat) h st; show W _ _ _ _ _ _ _ _ _) | (intro _ h st; show W _ _ _ _ _ _ _ _ _) | exact Sd)))
    exact ⟨_, rfl, _, .inl ⟨by omega, rfl, rfl⟩, st⟩
  · by_cases h2 : m > 4096
    · (repeat (first | (show W _ _ _ _ _ _ (.code (cond _ _ _) :: _) _ _; first | refine W.ct ?_ | refine W.cf ?_) | (show W _ _ _ _ _ _ (.ins (cond _ _ _ :: _) :: _) _ _; first | refine W.gt ?_ | refine W.gf ?_) | (show W _ _ _ _ _ _ [] _ _; refine W.of (.done ?_)) | (apply W.of; constructor <;> first | (show W _ _ _ _ _ _ _ _ _) | (intro (al : Nat) h st; show W _ _ _ _ _ _ _ _ _) | (intro _ h st; show W _ _ _ _ _ _ _ _ _) | exact Sd)))
      exact ⟨_, rfl, _, .inl ⟨by omega, rfl, rfl⟩, st⟩
    · obtain ⟨k, rfl⟩ : ∃ k : Nat, m = (k : Int) := ⟨m.toNat, by omega⟩
      obtain ⟨_, ⟨sv, rfl, _⟩, st⟩ := St.unpack st; dsimp only [List.cons_append, List.nil_append] at st
      by_cases h3 : cntZ zs ≥ most
      · (repeat (first | (show W _ _ _ _ _ _ (.code (cond _ _ _) :: _) _ _; first | refine W.ct ?_ | refine W.cf ?_) | (show W _ _ _ _ _ _ (.ins (cond _ _ _ :: _) :: _) _ _; first | refine W.gt ?_ | refine W.gf ?_) | (show W _ _ _ _ _ _ [] _ _; refine W.of (.done ?_)) | (apply W.of; constructor <;> first | (show W _ _ _ _ _ _ _ _ _) | (intro (al : Nat) h st; show W _ _ _ _ _ _ _ _ _) | (intro _ h st; show W _ _ _ _ _ _ _ _ _) | exact Sd)))
        exact ⟨_, rfl, _, .inr (.inl ⟨by omega, h3, rfl, rfl⟩), St.packP (t := 41) (P := PoIs P most zs) (cs := [_, _, _]) st ⟨sv, rfl, hpo⟩ Pks⟩
      · (repeat (first | (show W _ _ _ _ _ _ (.code (cond _ _ _) :: _) _ _; first | refine W.ct ?_ | refine W.cf ?_) | (show W _ _ _ _ _ _ (.ins (cond _ _ _ :: _) :: _) _ _; first | refine W.gt ?_ | refine W.gf ?_) | (show W _ _ _ _ _ _ [] _ _; refine W.of (.done ?_)) | (apply W.of; constructor <;> first | (show W _ _ _ _ _ _ _ _ _) | (intro (al : Nat) h st; show W _ _ _ _ _ _ _ _ _) | (intro _ h st; show W _ _ _ _ _ _ _ _ _) | exact Sd)))
        refine W.draw2 ?_ ?_
        · (repeat (first | (show W _ _ _ _ _ _ (.code (cond _ _ _) :: _) _ _; first | refine W.ct ?_ | refine W.cf ?_) | (show W _ _ _ _ _ _ (.ins (cond _ _ _ :: _) :: _) _ _; first | refine W.gt ?_ | refine W.gf ?_) | (show W _ _ _ _ _ _ [] _ _; refine W.of (.done ?_)) | (apply W.of; constructor <;> first | (show W _ _ _ _ _ _ _ _ _) | (intro (al : Nat) h st; show W _ _ _ _ _ _ _ _ _) | (intro _ h st; show W _ _ _ _ _ _ _ _ _) | exact Sd))); refine W.call (hs := (cnt_New (m := k) (by omega) (by omega))) (w := ?_); rintro vv _ ⟨D, l0, rfl, rfl, e0⟩ h st; refine nj ?_; dsimp only [List.cons_append, List.nil_append] at st
          (repeat (first | (show W _ _ _ _ _ _ (.code (cond _ _ _) :: _) _ _; first | refine W.ct ?_ | refine W.cf ?_) | (show W _ _ _ _ _ _ (.ins (cond _ _ _ :: _) :: _) _ _; first | refine W.gt ?_ | refine W.gf ?_) | (show W _ _ _ _ _ _ [] _ _; refine W.of (.done ?_)) | (apply W.of; constructor <;> first | (show W _ _ _ _ _ _ _ _ _) | (intro (al : Nat) h st; show W _ _ _ _ _ _ _ _ _) | (intro _ h st; show W _ _ _ _ _ _ _ _ _) | exact Sd))); refine W.ef (ho := (e_mkslice (e := 3) (es := 1) (b := 8) (z := .vals [.int .i64 0]) (d := .vals ((List.replicate k (0 : Int)).map ikey)) (l := (k : Nat)) (c := (k : Nat)) st (by omega) (by omega) (by omega) (by omega) rfl (by show Dat.vals (List.replicate k [AV.int .i64 0]).flatten = _; rw [rep_ikey]) (by simp [Dat.len]) rfl)) (w := ?_); rintro vv h ⟨id, rfl, st⟩; refine nj ?_
          rw [Int.toNat_natCast]
          (repeat (first | (show W _ _ _ _ _ _ (.code (cond _ _ _) :: _) _ _; first | refine W.ct ?_ | refine W.cf ?_) | (show W _ _ _ _ _ _ (.ins (cond _ _ _ :: _) :: _) _ _; first | refine W.gt ?_ | refine W.gf ?_) | (show W _ _ _ _ _ _ [] _ _; refine W.of (.done ?_)) | (apply W.of; constructor <;> first | (show W _ _ _ _ _ _ _ _ _) | (intro (al : Nat) h st; show W _ _ _ _ _ _ _ _ _) | (intro _ h st; show W _ _ _ _ _ _ _ _ _) | exact Sd)))
          have st := St.vsRow (l := (List.replicate k (0 : Int)).map ikey) (e := 3) (n := k) st Tk (by simp)
          exact W.sub Sbs (mk_tail (by omega) (by omega) (by rw [e0, Int.toNat_natCast]) hpo (by omega) (st.sel Sels))
        · (repeat (first | (show W _ _ _ _ _ _ (.code (cond _ _ _) :: _) _ _; first | refine W.ct ?_ | refine W.cf ?_) | (show W _ _ _ _ _ _ (.ins (cond _ _ _ :: _) :: _) _ _; first | refine W.gt ?_ | refine W.gf ?_) | (show W _ _ _ _ _ _ [] _ _; refine W.of (.done ?_)) | (apply W.of; constructor <;> first | (show W _ _ _ _ _ _ _ _ _) | (intro (al : Nat) h st; show W _ _ _ _ _ _ _ _ _) | (intro _ h st; show W _ _ _ _ _ _ _ _ _) | exact Sd))); refine W.ef (ho := (e_mkslice (e := 3) (es := 1) (b := 8) (z := .vals [.int .i64 0]) (d := .vals ((List.replicate k (0 : Int)).map ikey)) (l := (k : Nat)) (c := (k : Nat)) st (by omega) (by omega) (by omega) (by omega) rfl (by show Dat.vals (List.replicate k [AV.int .i64 0]).flatten = _; rw [rep_ikey]) (by simp [Dat.len]) rfl)) (w := ?_); rintro vv h ⟨id, rfl, st⟩; refine nj ?_
          rw [Int.toNat_natCast]
          (repeat (first | (show W _ _ _ _ _ _ (.code (cond _ _ _) :: _) _ _; first | refine W.ct ?_ | refine W.cf ?_) | (show W _ _ _ _ _ _ (.ins (cond _ _ _ :: _) :: _) _ _; first | refine W.gt ?_ | refine W.gf ?_) | (show W _ _ _ _ _ _ [] _ _; refine W.of (.done ?_)) | (apply W.of; constructor <;> first | (show W _ _ _ _ _ _ _ _ _) | (intro (al : Nat) h st; show W _ _ _ _ _ _ _ _ _) | (intro _ h st; show W _ _ _ _ _ _ _ _ _) | exact Sd))); refine W.call (hs := (cnt_New (m := k) (by omega) (by omega))) (w := ?_); rintro vv _ ⟨D, l0, rfl, rfl, e0⟩ h st; refine nj ?_; dsimp only [List.cons_append, List.nil_append] at st
          (repeat (first | (show W _ _ _ _ _ _ (.code (cond _ _ _) :: _) _ _; first | refine W.ct ?_ | refine W.cf ?_) | (show W _ _ _ _ _ _ (.ins (cond _ _ _ :: _) :: _) _ _; first | refine W.gt ?_ | refine W.gf ?_) | (show W _ _ _ _ _ _ [] _ _; refine W.of (.done ?_)) | (apply W.of; constructor <;> first | (show W _ _ _ _ _ _ _ _ _) | (intro (al : Nat) h st; show W _ _ _ _ _ _ _ _ _) | (intro _ h st; show W _ _ _ _ _ _ _ _ _) | exact Sd)))
          have st := St.vsRow (l := (List.replicate k (0 : Int)).map ikey) (e := 3) (n := k) st Tk (by simp)
          exact W.sub Sbs (mk_tail (by omega) (by omega) (by rw [e0, Int.toNat_natCast]) hpo (by omega) (st.sel Sels))
end Go.Proofs.Ytjdemlagmamlbaa

namespace Go.Proofs.Ytjdemlagmamlbaa
theorem exp_get : ∀ {l : List RunV} {o n : Int}, Chain o l n → ∀ {r : RunV} {j : Nat}, r ∈ l → r.lo ≤ o + j → o + j < r.hi → (expand l)[j]? = some r.n
  | [], _, _, _, r, _, hr, _, _ => by simp at hr
  | x :: l, o, n, h, r, j, hr, h1, h2 => by
    obtain ⟨c1, c2, c3⟩ := h
    rw [expand_cons]
    by_cases hj : o + j < x.hi
    · have hrx : r = x := by
        rcases List.mem_cons.1 hr with hr | hr
        · exact hr
        · have := c3.mem r hr; omega
      subst hrx
      rw [List.getElem?_append_left (by rw [runX_len]; omega)]
      simp only [runX]
      rw [List.getElem?_replicate, if_pos (by omega)]
    · have hr : r ∈ l := by
        rcases List.mem_cons.1 hr with rfl | hr
        · omega
        · exact hr
      rw [List.getElem?_append_right (by rw [runX_len]; omega), runX_len]
      exact exp_get c3 hr (by omega) (by omega)
theorem exp_of : ∀ {l : List RunV} {o n : Int}, Chain o l n → ∀ {j : Nat} {c : Int}, (expand l)[j]? = some c → ∃ r, r ∈ l ∧ r.lo ≤ o + j ∧ o + j < r.hi ∧ r.n = c
  | [], _, _, _, j, c, hj => by simp [expand] at hj
  | x :: l, o, n, h, j, c, hj => by
    obtain ⟨c1, c2, c3⟩ := h
    rw [expand_cons] at hj
    by_cases h2 : o + j < x.hi
    · rw [List.getElem?_append_left (by rw [runX_len]; omega)] at hj
      simp only [runX] at hj
      rw [List.getElem?_replicate, if_pos (by omega)] at hj
      cases hj
      exact ⟨x, List.mem_cons_self, by omega, h2, rfl⟩
    · rw [List.getElem?_append_right (by rw [runX_len]; omega), runX_len] at hj
      obtain ⟨r, h1, h3, h4, h5⟩ := exp_of c3 hj
      exact ⟨r, List.mem_cons_of_mem _ h1, by omega, by omega, h5⟩
/-- a run that has nothing, and is in the way -/
def badH (lo hi : Int) (r : RunV) : Prop := r.n = 0 ∧ r.lo < hi ∧ lo < r.hi
theorem badH_iff {l : List RunV} {n lo hi : Int} (hk : COk l n) (h0 : 0 ≤ lo) (h1 : lo < hi) (h2 : hi ≤ n) : (∀ r, r ∈ l → ¬ badH lo hi r) ↔ ∀ c, c ∈ slc (expand l) lo hi → c ≠ 0 := by
  have hlen := hk.chain.length
  constructor
  · intro hb c hc hc0
    obtain ⟨j, g1, g2, g3⟩ := mem_slc h0 (by omega) (by omega) hc
    obtain ⟨r, q1, q2, q3, q4⟩ := exp_of hk.chain g3
    exact hb r q1 ⟨by omega, by omega, by omega⟩
  · intro hc r hr ⟨b1, b2, b3⟩
    have hm := hk.chain.mem r hr
    obtain ⟨j, hj, hj1, hj2, hj3⟩ : ∃ j : Nat, r.lo ≤ j ∧ (j : Int) < r.hi ∧ lo ≤ j ∧ (j : Int) < hi := ⟨(max lo r.lo).toNat, by omega, by omega, by omega, by omega⟩
    have hg := exp_get hk.chain hr (j := j) (by omega) (by omega)
    refine hc r.n ?_ b1
    have : (slc (expand l) lo hi)[j - lo.toNat]? = some r.n := by rw [slc_get h0 (by omega), show lo.toNat + (j - lo.toNat) = j by omega]; exact hg
    exact List.mem_of_getElem? this
structure HoldOk (a : AmV) (lo hi : Int) : Prop where
  l0 : 0 ≤ lo
  lt : lo < hi
  h0 : hi ≤ a.cs.length
  nz : ∀ c, c ∈ slc a.cs lo hi → c ≠ 0
  add : AddOk a.cs lo hi 1
def holdA (a : AmV) (lo hi : Int) : AmV := { a with cs := addL 0 a.cs lo hi 1 }
variable {P most : Nat} {zs : List (Option AmV)} {a : AmV}
abbrev holdPost (P most : Nat) (zs : List (Option AmV)) (id lo hi : Int) (v : AV) (Rs : List Chunk) : Prop :=
  (atZ zs id = none ∧ v = .int .i64 7 ∧ Rs = [PoC P most zs]) ∨
  ∃ a, atZ zs id = some a ∧ ((HoldOk a lo hi ∧ v = .int .i64 0 ∧ Rs = [PoC P most (zs.set (id - 1).toNat (some (holdA a lo hi)))]) ∨ (¬ HoldOk a lo hi ∧ v = .int .i64 2 ∧ Rs = [PoC P most zs]))
abbrev hoE (O : Nat) (lo hi : Int) (v : AV) (n i : Nat) : Env := [(2, .int .i64 lo), (3, .int .i64 hi), (9, .ptr O 0), (31, v), (32, .int .i64 n), (33, .int .i64 i)]
set_option maxRecDepth 8000 in
theorem po_Hold {id lo hi : Int} : Spec R (.f n_amap_Pool_Hold) [.ptr P 0, .int .i64 id, .int .i64 lo, .int .i64 hi] [PoC P most zs] (holdPost P most zs id lo hi) := by
  refine spec_w (fun _ _ _ x => progI_call rfl rfl x) Njs rfl (fun h F st => ?_); dsimp only [List.cons_append, List.nil_append] at st
  have knj := knownV_nj (atZ zs id)
  have kok := knownV_ok (atZ zs id)
  (repeat (first | (show W _ _ _ _ _ _ (.code (cond _ _ _) :: _) _ _; first | refine W.ct ?_ | refine W.cf ?_) | (show W _ _ _ _ _ _ (.ins (cond _ _ _ :: _) :: _) _ _; first | refine W.gt ?_ | refine W.gf ?_) | (show W _ _ _ _ _ _ [] _ _; refine W.of (.done ?_)) | (apply W.of; constructor <;> first | (show W _ _ _ _ _ _ _ _ _) | (intro (al : Nat) h st; show W _ _ _ _ _ _ _ _ _) | (intro _ h st; show W _ _ _ _ _ _ _ _ _) | exact Sd))); refine W.call (hs := po_known) (w := ?_); rintro vv _ ⟨rfl, rfl⟩ h st; refine nj ?_; dsimp only [List.cons_append, List.nil_append] at st
  cases ha : atZ zs id with
  | none =>
    dsimp only [knownV]
    (repeat (first | (show W _ _ _ _ _ _ (.code (cond _ _ _) :: _) _ _; first | refine W.ct ?_ | refine W.cf ?_) | (show W _ _ _ _ _ _ (.ins (cond _ _ _ :: _) :: _) _ _; first | refine W.gt ?_ | refine W.gf ?_) | (show W _ _ _ _ _ _ [] _ _; refine W.of (.done ?_)) | (apply W.of; constructor <;> first | (show W _ _ _ _ _ _ _ _ _) | (intro (al : Nat) h st; show W _ _ _ _ _ _ _ _ _) | (intro _ h st; show W _ _ _ _ _ _ _ _ _) | exact Sd)))
    exact ⟨_, rfl, _, .inl ⟨ha, rfl, rfl⟩, st⟩
  | some a =>
    dsimp only [knownV]
    obtain ⟨hi1, hi2, hz⟩ := atZ_some ha
    have st := st.poOut Tk hz
    have hok := st.am Tk
    have hlen := hok.len
    have hn1 := hok.n1
    have hn4 := hok.n4
    (repeat (first | (show W _ _ _ _ _ _ (.code (cond _ _ _) :: _) _ _; first | refine W.ct ?_ | refine W.cf ?_) | (show W _ _ _ _ _ _ (.ins (cond _ _ _ :: _) :: _) _ _; first | refine W.gt ?_ | refine W.gf ?_) | (show W _ _ _ _ _ _ [] _ _; refine W.of (.done ?_)) | (apply W.of; constructor <;> first | (show W _ _ _ _ _ _ _ _ _) | (intro (al : Nat) h st; show W _ _ _ _ _ _ _ _ _) | (intro _ h st; show W _ _ _ _ _ _ _ _ _) | exact Sd))); refine W.call (hs := (am_within (a := a))) (w := ?_); rintro vv _ ⟨rfl, rfl⟩ h st; refine nj ?_; dsimp only [List.cons_append, List.nil_append] at st
    by_cases hw : 0 ≤ lo ∧ lo < hi ∧ hi ≤ a.an.length
    · rw [decide_eq_true hw]
      obtain ⟨_, ⟨D, v, l, rfl, he, _⟩, st⟩ := St.unpack st; dsimp only [List.cons_append, List.nil_append] at st
      have hk := st.cnt (D := D) (l := l) Tk
      have hll := hk.len
      (repeat (first | (show W _ _ _ _ _ _ (.code (cond _ _ _) :: _) _ _; first | refine W.ct ?_ | refine W.cf ?_) | (show W _ _ _ _ _ _ (.ins (cond _ _ _ :: _) :: _) _ _; first | refine W.gt ?_ | refine W.gf ?_) | (show W _ _ _ _ _ _ [] _ _; refine W.of (.done ?_)) | (apply W.of; constructor <;> first | (show W _ _ _ _ _ _ _ _ _) | (intro (al : Nat) h st; show W _ _ _ _ _ _ _ _ _) | (intro _ h st; show W _ _ _ _ _ _ _ _ _) | exact Sd))); refine W.call (hs := (cnt_Runs (D := D) (l := l))) (w := ?_); rintro vv _ ⟨rj, rl, rfl⟩ h st; refine nj ?_; dsimp only [List.cons_append, List.nil_append] at st
      obtain ⟨r1, rfl⟩ : ∃ y, y = vv := ⟨_, rfl⟩
      (repeat (first | (show W _ _ _ _ _ _ (.code (cond _ _ _) :: _) _ _; first | refine W.ct ?_ | refine W.cf ?_) | (show W _ _ _ _ _ _ (.ins (cond _ _ _ :: _) :: _) _ _; first | refine W.gt ?_ | refine W.gf ?_) | (show W _ _ _ _ _ _ [] _ _; refine W.of (.done ?_)) | (apply W.of; constructor <;> first | (show W _ _ _ _ _ _ _ _ _) | (intro (al : Nat) h st; show W _ _ _ _ _ _ _ _ _) | (intro _ h st; show W _ _ _ _ _ _ _ _ _) | exact Sd)))
      refine W.loop (fun i : Nat => hoE a.O lo hi r1 l.length i) (fun _ => RunsC r1 l :: .pt a.O (oneRow D v) :: CntC D l a.cs.length :: VsC v 3 (a.an.map ikey) true :: PoXC P most zs (id - 1).toNat :: F)
        (fun i => i ≤ l.length ∧ ∀ r, r ∈ l.take i → ¬ badH lo hi r) (fun i => l.length - i) 0 (small_rounds (by omega)) Sbs (st.sel Sels) ⟨Nat.zero_le _, fun r hr => by simp at hr⟩ ?_
      clear st
      intro i h ⟨hi', hall⟩ st
      have hiff := badH_iff hk hw.1 hw.2.1 (by omega)
      rw [he] at hiff
      by_cases hlt : i < l.length
      · obtain ⟨r, hr⟩ : ∃ r, l[i]? = some r := ⟨l[i], by simp [hlt]⟩
        obtain ⟨gp, gq⟩ := d_rwIdx (v := r1) (l := l) (i := i) (kk := .i64) st Tk hlt
        (repeat (first | (show W _ _ _ _ _ _ (.code (cond _ _ _) :: _) _ _; first | refine W.ct ?_ | refine W.cf ?_) | (show W _ _ _ _ _ _ (.ins (cond _ _ _ :: _) :: _) _ _; first | refine W.gt ?_ | refine W.gf ?_) | (show W _ _ _ _ _ _ [] _ _; refine W.of (.done ?_)) | (apply W.of; constructor <;> first | (show W _ _ _ _ _ _ _ _ _) | (intro (al : Nat) h st; show W _ _ _ _ _ _ _ _ _) | (intro _ h st; show W _ _ _ _ _ _ _ _ _) | exact Sd))); refine W.do (ho := gp) (w := ?_)
        (repeat (first | (show W _ _ _ _ _ _ (.code (cond _ _ _) :: _) _ _; first | refine W.ct ?_ | refine W.cf ?_) | (show W _ _ _ _ _ _ (.ins (cond _ _ _ :: _) :: _) _ _; first | refine W.gt ?_ | refine W.gf ?_) | (show W _ _ _ _ _ _ [] _ _; refine W.of (.done ?_)) | (apply W.of; constructor <;> first | (show W _ _ _ _ _ _ _ _ _) | (intro (al : Nat) h st; show W _ _ _ _ _ _ _ _ _) | (intro _ h st; show W _ _ _ _ _ _ _ _ _) | exact Sd))); refine W.do (ho := (d_rwLoad (v := r1) (l := l) runCL st Tk hr)) (w := ?_)
        have hback : ∀ {h : AHeap}, St h (RunsC r1 l :: .pt a.O (oneRow D v) :: CntC D l a.cs.length :: VsC v 3 (a.an.map ikey) true :: PoXC P most zs (id - 1).toNat :: F) → St h (PoC P most zs :: F) := fun st => by
          have st := St.packP (t := 40) (k := .ptr a.O 0) (P := AmIs a) (cs := [.pt a.O (oneRow D v), CntC D l a.cs.length, VsC v 3 (a.an.map ikey) true]) st ⟨D, v, l, rfl, he, hok⟩ Pks
          have st := st.poBack hz Tk Tk
          exact st.sel Sels
        by_cases b1 : r.n = 0
        · by_cases b2 : r.lo < hi
          · by_cases b3 : lo < r.hi
            · (repeat (first | (show W _ _ _ _ _ _ (.code (cond _ _ _) :: _) _ _; first | refine W.ct ?_ | refine W.cf ?_) | (show W _ _ _ _ _ _ (.ins (cond _ _ _ :: _) :: _) _ _; first | refine W.gt ?_ | refine W.gf ?_) | (show W _ _ _ _ _ _ [] _ _; refine W.of (.done ?_)) | (apply W.of; constructor <;> first | (show W _ _ _ _ _ _ _ _ _) | (intro (al : Nat) h st; show W _ _ _ _ _ _ _ _ _) | (intro _ h st; show W _ _ _ _ _ _ _ _ _) | exact Sd)))
              exact ⟨_, rfl, _, .inr ⟨a, ha, .inr ⟨fun hh => hiff.2 hh.nz r (List.mem_of_getElem? hr) ⟨b1, b2, b3⟩, rfl, rfl⟩⟩, hback (st.sel Sels)⟩
            · (repeat (first | (show W _ _ _ _ _ _ (.code (cond _ _ _) :: _) _ _; first | refine W.ct ?_ | refine W.cf ?_) | (show W _ _ _ _ _ _ (.ins (cond _ _ _ :: _) :: _) _ _; first | refine W.gt ?_ | refine W.gf ?_) | (show W _ _ _ _ _ _ [] _ _; refine W.of (.done ?_)) | (apply W.of; constructor <;> first | (show W _ _ _ _ _ _ _ _ _) | (intro (al : Nat) h st; show W _ _ _ _ _ _ _ _ _) | (intro _ h st; show W _ _ _ _ _ _ _ _ _) | exact Sd)))
              refine W.of (.lp ?_)
              refine ⟨i + 1, by omega, ⟨hlt, fun x hx => ?_⟩, Sbs, st.sel Sels⟩
              rw [take_snoc1 hr] at hx
              rcases List.mem_append.1 hx with hx | hx
              · exact hall x hx
              · rw [List.mem_singleton.1 hx]; exact fun hb => b3 hb.2.2
          · (repeat (first | (show W _ _ _ _ _ _ (.code (cond _ _ _) :: _) _ _; first | refine W.ct ?_ | refine W.cf ?_) | (show W _ _ _ _ _ _ (.ins (cond _ _ _ :: _) :: _) _ _; first | refine W.gt ?_ | refine W.gf ?_) | (show W _ _ _ _ _ _ [] _ _; refine W.of (.done ?_)) | (apply W.of; constructor <;> first | (show W _ _ _ _ _ _ _ _ _) | (intro (al : Nat) h st; show W _ _ _ _ _ _ _ _ _) | (intro _ h st; show W _ _ _ _ _ _ _ _ _) | exact Sd)))
            refine W.of (.lp ?_)
            refine ⟨i + 1, by omega, ⟨hlt, fun x hx => ?_⟩, Sbs, st.sel Sels⟩
            rw [take_snoc1 hr] at hx
            rcases List.mem_append.1 hx with hx | hx
            · exact hall x hx
            · rw [List.mem_singleton.1 hx]; exact fun hb => b2 hb.2.1
        · (repeat (first | (show W _ _ _ _ _ _ (.code (cond _ _ _) :: _) _ _; first | refine W.ct ?_ | refine W.cf ?_) | (show W _ _ _ _ _ _ (.ins (cond _ _ _ :: _) :: _) _ _; first | refine W.gt ?_ | refine W.gf ?_) | (show W _ _ _ _ _ _ [] _ _; refine W.of (.done ?_)) | (apply W.of; constructor <;> first | (show W _ _ _ _ _ _ _ _ _) | (intro (al : Nat) h st; show W _ _ _ _ _ _ _ _ _) | (intro _ h st; show W _ _ _ _ _ _ _ _ _) | exact Sd)))
          refine W.of (.lp ?_)
          refine ⟨i + 1, by omega, ⟨hlt, fun x hx => ?_⟩, Sbs, st.sel Sels⟩
          rw [take_snoc1 hr] at hx
          rcases List.mem_append.1 hx with hx | hx
          · exact hall x hx
          · rw [List.mem_singleton.1 hx]; exact fun hb => b1 hb.1
      · have e : i = l.length := by omega
        subst e
        rw [List.take_length] at hall
        have hnz := hiff.1 hall
        (repeat (first | (show W _ _ _ _ _ _ (.code (cond _ _ _) :: _) _ _; first | refine W.ct ?_ | refine W.cf ?_) | (show W _ _ _ _ _ _ (.ins (cond _ _ _ :: _) :: _) _ _; first | refine W.gt ?_ | refine W.gf ?_) | (show W _ _ _ _ _ _ [] _ _; refine W.of (.done ?_)) | (apply W.of; constructor <;> first | (show W _ _ _ _ _ _ _ _ _) | (intro (al : Nat) h st; show W _ _ _ _ _ _ _ _ _) | (intro _ h st; show W _ _ _ _ _ _ _ _ _) | exact Sd))); refine W.call (hs := (cnt_Add (D := D) (l := l) (n := a.cs.length) (lo := lo) (hi := hi) (by' := 1))) (w := ?_); rintro vv _ (⟨ho, gv, l1, rfl, gj, gl, e1, rfl⟩ | ⟨ho, rfl, rfl⟩) h st; refine nj ?_; dsimp only [List.cons_append, List.nil_append] at st
        · (repeat (first | (show W _ _ _ _ _ _ (.code (cond _ _ _) :: _) _ _; first | refine W.ct ?_ | refine W.cf ?_) | (show W _ _ _ _ _ _ (.ins (cond _ _ _ :: _) :: _) _ _; first | refine W.gt ?_ | refine W.gf ?_) | (show W _ _ _ _ _ _ [] _ _; refine W.of (.done ?_)) | (apply W.of; constructor <;> first | (show W _ _ _ _ _ _ _ _ _) | (intro (al : Nat) h st; show W _ _ _ _ _ _ _ _ _) | (intro _ h st; show W _ _ _ _ _ _ _ _ _) | exact Sd)))
          rw [he] at ho e1
          have st := St.packP (t := 40) (k := .ptr a.O 0) (P := AmIs (holdA a lo hi)) (cs := [.pt a.O (oneRow D v), CntC D l1 a.cs.length, VsC v 3 (a.an.map ikey) true]) st ⟨D, v, l1, by simp [holdA, addL_length], e1, by simp [holdA, addL_length, hlen], by simpa [holdA, addL_length] using hn1, by simpa [holdA, addL_length] using hn4, hok.pos⟩ Pks
          have st := st.poIn (a := a) (b := holdA a lo hi) rfl hz Tk Tk
          exact ⟨_, rfl, _, .inr ⟨a, ha, .inl ⟨⟨hw.1, hw.2.1, by omega, hnz, ho⟩, rfl, rfl⟩⟩, st.sel Sels⟩
        · refine nj ?_
          dsimp only [List.cons_append, List.nil_append] at st
          (repeat (first | (show W _ _ _ _ _ _ (.code (cond _ _ _) :: _) _ _; first | refine W.ct ?_ | refine W.cf ?_) | (show W _ _ _ _ _ _ (.ins (cond _ _ _ :: _) :: _) _ _; first | refine W.gt ?_ | refine W.gf ?_) | (show W _ _ _ _ _ _ [] _ _; refine W.of (.done ?_)) | (apply W.of; constructor <;> first | (show W _ _ _ _ _ _ _ _ _) | (intro (al : Nat) h st; show W _ _ _ _ _ _ _ _ _) | (intro _ h st; show W _ _ _ _ _ _ _ _ _) | exact Sd)))
          rw [he] at ho
          have st := St.packP (t := 40) (k := .ptr a.O 0) (P := AmIs a) (cs := [.pt a.O (oneRow D v), CntC D l a.cs.length, VsC v 3 (a.an.map ikey) true]) st ⟨D, v, l, rfl, he, hok⟩ Pks
          have st := st.poBack hz Tk Tk
          exact ⟨_, rfl, _, .inr ⟨a, ha, .inr ⟨fun hh => ho hh.add, rfl, rfl⟩⟩, st.sel Sels⟩
    · rw [decide_eq_false hw]
      (repeat (first | (show W _ _ _ _ _ _ (.code (cond _ _ _) :: _) _ _; first | refine W.ct ?_ | refine W.cf ?_) | (show W _ _ _ _ _ _ (.ins (cond _ _ _ :: _) :: _) _ _; first | refine W.gt ?_ | refine W.gf ?_) | (show W _ _ _ _ _ _ [] _ _; refine W.of (.done ?_)) | (apply W.of; constructor <;> first | (show W _ _ _ _ _ _ _ _ _) | (intro (al : Nat) h st; show W _ _ _ _ _ _ _ _ _) | (intro _ h st; show W _ _ _ _ _ _ _ _ _) | exact Sd)))
      have st := st.poBack hz Tk Tk
      exact ⟨_, rfl, _, .inr ⟨a, ha, .inr ⟨fun hh => hw ⟨hh.l0, hh.lt, by have := hh.h0; omega⟩, rfl, rfl⟩⟩, st⟩
end Go.Proofs.Ytjdemlagmamlbaa

namespace Go.Proofs.Ytjdemlagmamlbaa
theorem goneP_mem {by' : Int} : ∀ {cs : List Int} {o i : Int}, i ∈ goneP o cs by' → o ≤ i ∧ i < o + cs.length
  | [], o, i, h => by simp [goneP] at h
  | c :: cs, o, i, h => by
    simp only [goneP] at h
    simp only [List.length_cons]
    split at h
    · rcases List.mem_cons.1 h with h | h
      · omega
      · have := goneP_mem h; omega
    · have := goneP_mem h; omega
/-- what is in slots that are gone, and what is left in them -/
def outG : List Int → List Int → List Int
  | _, [] => []
  | an, i :: g => (if (an[i.toNat]?).getD 0 > 0 then [(an[i.toNat]?).getD 0] else []) ++ outG (an.set i.toNat 0) g
def anG (an g : List Int) : List Int := g.foldl (fun an i => an.set i.toNat 0) an
theorem anG_snoc {an g : List Int} {i : Int} : anG an (g ++ [i]) = (anG an g).set i.toNat 0 := by simp [anG, List.foldl_append]
theorem anG_len : ∀ {g an : List Int}, (anG an g).length = an.length
  | [], an => rfl
  | i :: g, an => by
    have := anG_len (g := g) (an := an.set i.toNat 0)
    simp only [anG, List.foldl_cons] at this ⊢
    rw [this, List.length_set]
theorem outG_snoc {i : Int} : ∀ {g an : List Int}, outG an (g ++ [i]) = outG an g ++ if ((anG an g)[i.toNat]?).getD 0 > 0 then [((anG an g)[i.toNat]?).getD 0] else []
  | [], an => by simp [outG, anG]
  | j :: g, an => by
    rw [List.cons_append, outG, outG_snoc, outG, List.append_assoc]; rfl
theorem outG_len : ∀ {g an : List Int}, (outG an g).length ≤ g.length
  | [], an => by simp [outG]
  | i :: g, an => by
    have := outG_len (g := g) (an := an.set i.toNat 0)
    simp only [outG, List.length_append, List.length_cons]
    split <;> simp <;> omega
theorem anG_pos : ∀ {g an : List Int}, (∀ x, x ∈ an → 0 ≤ x) → ∀ x, x ∈ anG an g → 0 ≤ x
  | [], an, h => h
  | i :: g, an, h => by
    show ∀ x, x ∈ anG (an.set i.toNat 0) g → 0 ≤ x
    refine anG_pos fun x hx => ?_
    rcases List.mem_or_eq_of_mem_set hx with hx | hx
    · exact h x hx
    · omega
structure DropOk (a : AmV) (lo hi : Int) : Prop where
  l0 : 0 ≤ lo
  lt : lo < hi
  h0 : hi ≤ a.cs.length
  add : AddOk a.cs lo hi (-1)
def goneA (a : AmV) (lo hi : Int) : List Int := goneP lo (slc a.cs lo hi) (-1)
def dropA (a : AmV) (lo hi : Int) : AmV := ⟨a.O, addL 0 a.cs lo hi (-1), anG a.an (goneA a lo hi)⟩
def dropZ (zs : List (Option AmV)) (i : Nat) (a : AmV) (lo hi : Int) : List (Option AmV) := zs.set i (if (addL 0 a.cs lo hi (-1)).sum = 0 then none else some (dropA a lo hi))
variable {P most : Nat} {zs : List (Option AmV)} {a : AmV}
theorem cntZ_setNone : ∀ {zs : List (Option AmV)} {i : Nat}, zs[i]? = some (some a) → cntZ (zs.set i none) + 1 = cntZ zs
  | [], i, h => by simp at h
  | z :: zs, 0, h => by simp at h; subst h; simp [cntZ]
  | z :: zs, i + 1, h => by
    simp only [List.getElem?_cons_succ] at h
    have := cntZ_setNone h
    simp only [cntZ, List.set_cons_succ, List.filter_cons] at this ⊢
    split
    · simp only [List.length_cons]; omega
    · exact this
abbrev dropPost (P most : Nat) (zs : List (Option AmV)) (id lo hi : Int) (v : AV) (Rs : List Chunk) : Prop :=
  (atZ zs id = none ∧ v = .tuple [.nilsl, .int .i64 7] ∧ Rs = [PoC P most zs]) ∨
  ∃ a, atZ zs id = some a ∧ ((DropOk a lo hi ∧ ∃ ov, v = .tuple [ov, .int .i64 0] ∧ ov.notJunk = some ov ∧ sliceLen ov = some (outG a.an (goneA a lo hi)).length ∧ Rs = [VsC ov 3 ((outG a.an (goneA a lo hi)).map ikey) true, PoC P most (dropZ zs (id - 1).toNat a lo hi)]) ∨
    (¬ DropOk a lo hi ∧ v = .tuple [.nilsl, .int .i64 2] ∧ Rs = [PoC P most zs]))
structure DrS where
  i : Nat
  ov : AV
abbrev drE (P O : Nat) (id : Int) (gv : AV) (n : Nat) (ov : AV) (i : Nat) : Env := [(0, .ptr P 0), (1, .int .i64 id), (10, .ptr O 0), (13, ov), (43, gv), (44, .int .i64 n), (45, .int .i64 i)]
set_option maxRecDepth 8000 in
theorem po_Drop {id lo hi : Int} : Spec R (.f n_amap_Pool_Drop) [.ptr P 0, .int .i64 id, .int .i64 lo, .int .i64 hi] [PoC P most zs] (dropPost P most zs id lo hi) := by
  refine spec_w (fun _ _ _ x => progI_call rfl rfl x) Njs rfl (fun h F st => ?_); dsimp only [List.cons_append, List.nil_append] at st
  have knj := knownV_nj (atZ zs id)
  have kok := knownV_ok (atZ zs id)
  (repeat (first | (show W _ _ _ _ _ _ (.code (cond _ _ _) :: _) _ _; first | refine W.ct ?_ | refine W.cf ?_) | (show W _ _ _ _ _ _ (.ins (cond _ _ _ :: _) :: _) _ _; first | refine W.gt ?_ | refine W.gf ?_) | (show W _ _ _ _ _ _ [] _ _; refine W.of (.done ?_)) | (apply W.of; constructor <;> first | (show W _ _ _ _ _ _ _ _ _) | (intro (al : Nat) h st; show W _ _ _ _ _ _ _ _ _) | (intro _ h st; show W _ _ _ _ _ _ _ _ _) | exact Sd))); refine W.call (hs := po_known) (w := ?_); rintro vv _ ⟨rfl, rfl⟩ h st; refine nj ?_; dsimp only [List.cons_append, List.nil_append] at st
  cases ha : atZ zs id with
  | none =>
    dsimp only [knownV]
    (repeat (first | (show W _ _ _ _ _ _ (.code (cond _ _ _) :: _) _ _; first | refine W.ct ?_ | refine W.cf ?_) | (show W _ _ _ _ _ _ (.ins (cond _ _ _ :: _) :: _) _ _; first | refine W.gt ?_ | refine W.gf ?_) | (show W _ _ _ _ _ _ [] _ _; refine W.of (.done ?_)) | (apply W.of; constructor <;> first | (show W _ _ _ _ _ _ _ _ _) | (intro (al : Nat) h st; show W _ _ _ _ _ _ _ _ _) | (intro _ h st; show W _ _ _ _ _ _ _ _ _) | exact Sd)))
    exact ⟨_, rfl, _, .inl ⟨ha, rfl, rfl⟩, st⟩
  | some a =>
    dsimp only [knownV]
    obtain ⟨hi1, hi2, hz⟩ := atZ_some ha
    have st := st.poOut Tk hz
    have hok := st.am Tk
    have hlen := hok.len
    have hn1 := hok.n1
    have hn4 := hok.n4
    (repeat (first | (show W _ _ _ _ _ _ (.code (cond _ _ _) :: _) _ _; first | refine W.ct ?_ | refine W.cf ?_) | (show W _ _ _ _ _ _ (.ins (cond _ _ _ :: _) :: _) _ _; first | refine W.gt ?_ | refine W.gf ?_) | (show W _ _ _ _ _ _ [] _ _; refine W.of (.done ?_)) | (apply W.of; constructor <;> first | (show W _ _ _ _ _ _ _ _ _) | (intro (al : Nat) h st; show W _ _ _ _ _ _ _ _ _) | (intro _ h st; show W _ _ _ _ _ _ _ _ _) | exact Sd))); refine W.call (hs := (am_within (a := a))) (w := ?_); rintro vv _ ⟨rfl, rfl⟩ h st; refine nj ?_; dsimp only [List.cons_append, List.nil_append] at st
    by_cases hw : 0 ≤ lo ∧ lo < hi ∧ hi ≤ a.an.length
    · rw [decide_eq_true hw]
      obtain ⟨_, ⟨D, v, l, rfl, he, _⟩, st⟩ := St.unpack st; dsimp only [List.cons_append, List.nil_append] at st
      (repeat (first | (show W _ _ _ _ _ _ (.code (cond _ _ _) :: _) _ _; first | refine W.ct ?_ | refine W.cf ?_) | (show W _ _ _ _ _ _ (.ins (cond _ _ _ :: _) :: _) _ _; first | refine W.gt ?_ | refine W.gf ?_) | (show W _ _ _ _ _ _ [] _ _; refine W.of (.done ?_)) | (apply W.of; constructor <;> first | (show W _ _ _ _ _ _ _ _ _) | (intro (al : Nat) h st; show W _ _ _ _ _ _ _ _ _) | (intro _ h st; show W _ _ _ _ _ _ _ _ _) | exact Sd))); refine W.call (hs := (cnt_Add (D := D) (l := l) (n := a.cs.length) (lo := lo) (hi := hi) (by' := -1))) (w := ?_); rintro vv _ (⟨ho, gv, l1, rfl, gj, gl, e1, rfl⟩ | ⟨ho, rfl, rfl⟩) h st; refine nj ?_; dsimp only [List.cons_append, List.nil_append] at st
      · rw [he] at ho e1 gl st
        obtain ⟨g, hg⟩ : ∃ g, g = goneA a lo hi := ⟨_, rfl⟩
        have hg' : goneP lo (slc a.cs lo hi) (-1) = g := hg.symm
        rw [hg'] at gl st
        have hsl := slc_len (cs := a.cs) (lo := lo) (hi := hi) (by omega) (by omega) (by omega)
        have hgm : ∀ i, i ∈ g → lo ≤ i ∧ i < hi := fun i hi' => by
          rw [hg, goneA] at hi'
          have := goneP_mem hi'
          omega
        have hgl : g.length ≤ 4096 := by
          rw [hg]; exact Nat.le_trans goneP_len (by omega)
        (repeat (first | (show W _ _ _ _ _ _ (.code (cond _ _ _) :: _) _ _; first | refine W.ct ?_ | refine W.cf ?_) | (show W _ _ _ _ _ _ (.ins (cond _ _ _ :: _) :: _) _ _; first | refine W.gt ?_ | refine W.gf ?_) | (show W _ _ _ _ _ _ [] _ _; refine W.of (.done ?_)) | (apply W.of; constructor <;> first | (show W _ _ _ _ _ _ _ _ _) | (intro (al : Nat) h st; show W _ _ _ _ _ _ _ _ _) | (intro _ h st; show W _ _ _ _ _ _ _ _ _) | exact Sd)))
        refine W.loop (fun y : DrS => drE P a.O id gv g.length y.ov y.i) (fun y => VsC y.ov 3 ((outG a.an (g.take y.i)).map ikey) true :: VsC v 3 ((anG a.an (g.take y.i)).map ikey) true :: VsC gv 3 (g.map ikey) true :: .pt a.O (oneRow D v) :: CntC D l1 a.cs.length :: PoXC P most zs (id - 1).toNat :: F)
          (fun y => y.i ≤ g.length) (fun y => g.length - y.i) ⟨0, .nilsl⟩ (small_rounds (by simp only; omega)) Sbs ?_ (Nat.zero_le _) ?_
        · have st := st.vsNil 3 true
          exact st.sel Sels
        clear st
        intro ⟨i, ov⟩ h hi' st
        dsimp only at hi' st ⊢
        obtain ⟨ol, oj, oo⟩ := St.ivs (v := ov) (cs := outG a.an (g.take i)) st Tk
        obtain ⟨vl, vj, vs⟩ := St.ivs (v := v) (cs := anG a.an (g.take i)) st Tk
        have hol : (outG a.an (g.take i)).length ≤ 4096 := Nat.le_trans outG_len (by rw [List.length_take]; omega)
        by_cases hlt : i < g.length
        · obtain ⟨j, hj⟩ : ∃ j, g[i]? = some j := ⟨g[i], by simp [hlt]⟩
          obtain ⟨jj, rfl⟩ : ∃ jj : Nat, j = (jj : Int) := ⟨j.toNat, by have := hgm j (List.mem_of_getElem? hj); omega⟩
          have hjr := hgm _ (List.mem_of_getElem? hj)
          have hal : (anG a.an (g.take i)).length = a.an.length := anG_len
          obtain ⟨x, hx⟩ : ∃ x, (anG a.an (g.take i))[jj]? = some x := ⟨(anG a.an (g.take i))[jj]'(by omega), by simp⟩
          obtain ⟨gp, gq⟩ := d_vsIdx (v := gv) (l := g.map ikey) (i := i) (kk := .i64) st Tk (by rw [List.length_map]; omega)
          obtain ⟨fp, fq⟩ := d_vsIdx (v := v) (l := (anG a.an (g.take i)).map ikey) (i := jj) (kk := .i64) st Tk (by rw [List.length_map]; omega)
          have hld := d_vsLoad (v := v) (l := (anG a.an (g.take i)).map ikey) (x := ikey x) st Tk (by rw [List.getElem?_map, hx]; rfl)
          have es : outG a.an (g.take (i + 1)) = outG a.an (g.take i) ++ if x > 0 then [x] else [] := by
            rw [take_snoc1 hj, outG_snoc, Int.toNat_natCast, hx]; rfl
          have ea : anG a.an (g.take (i + 1)) = (anG a.an (g.take i)).set jj 0 := by
            rw [take_snoc1 hj, anG_snoc, Int.toNat_natCast]
          (repeat (first | (show W _ _ _ _ _ _ (.code (cond _ _ _) :: _) _ _; first | refine W.ct ?_ | refine W.cf ?_) | (show W _ _ _ _ _ _ (.ins (cond _ _ _ :: _) :: _) _ _; first | refine W.gt ?_ | refine W.gf ?_) | (show W _ _ _ _ _ _ [] _ _; refine W.of (.done ?_)) | (apply W.of; constructor <;> first | (show W _ _ _ _ _ _ _ _ _) | (intro (al : Nat) h st; show W _ _ _ _ _ _ _ _ _) | (intro _ h st; show W _ _ _ _ _ _ _ _ _) | exact Sd))); refine W.do (ho := gp) (w := ?_)
          (repeat (first | (show W _ _ _ _ _ _ (.code (cond _ _ _) :: _) _ _; first | refine W.ct ?_ | refine W.cf ?_) | (show W _ _ _ _ _ _ (.ins (cond _ _ _ :: _) :: _) _ _; first | refine W.gt ?_ | refine W.gf ?_) | (show W _ _ _ _ _ _ [] _ _; refine W.of (.done ?_)) | (apply W.of; constructor <;> first | (show W _ _ _ _ _ _ _ _ _) | (intro (al : Nat) h st; show W _ _ _ _ _ _ _ _ _) | (intro _ h st; show W _ _ _ _ _ _ _ _ _) | exact Sd))); refine W.do (ho := (d_vsLoad (v := gv) (l := g.map ikey) (x := ikey (jj : Int)) st Tk (by rw [List.getElem?_map, hj]; rfl))) (w := ?_)
          (repeat (first | (show W _ _ _ _ _ _ (.code (cond _ _ _) :: _) _ _; first | refine W.ct ?_ | refine W.cf ?_) | (show W _ _ _ _ _ _ (.ins (cond _ _ _ :: _) :: _) _ _; first | refine W.gt ?_ | refine W.gf ?_) | (show W _ _ _ _ _ _ [] _ _; refine W.of (.done ?_)) | (apply W.of; constructor <;> first | (show W _ _ _ _ _ _ _ _ _) | (intro (al : Nat) h st; show W _ _ _ _ _ _ _ _ _) | (intro _ h st; show W _ _ _ _ _ _ _ _ _) | exact Sd))); refine W.do (ho := fp) (w := ?_)
          (repeat (first | (show W _ _ _ _ _ _ (.code (cond _ _ _) :: _) _ _; first | refine W.ct ?_ | refine W.cf ?_) | (show W _ _ _ _ _ _ (.ins (cond _ _ _ :: _) :: _) _ _; first | refine W.gt ?_ | refine W.gf ?_) | (show W _ _ _ _ _ _ [] _ _; refine W.of (.done ?_)) | (apply W.of; constructor <;> first | (show W _ _ _ _ _ _ _ _ _) | (intro (al : Nat) h st; show W _ _ _ _ _ _ _ _ _) | (intro _ h st; show W _ _ _ _ _ _ _ _ _) | exact Sd))); refine W.do (ho := hld) (w := ?_)
          by_cases hx0 : x > 0
          · rw [if_pos hx0] at es
            (repeat (first | (show W _ _ _ _ _ _ (.code (cond _ _ _) :: _) _ _; first | refine W.ct ?_ | refine W.cf ?_) | (show W _ _ _ _ _ _ (.ins (cond _ _ _ :: _) :: _) _ _; first | refine W.gt ?_ | refine W.gf ?_) | (show W _ _ _ _ _ _ [] _ _; refine W.of (.done ?_)) | (apply W.of; constructor <;> first | (show W _ _ _ _ _ _ _ _ _) | (intro (al : Nat) h st; show W _ _ _ _ _ _ _ _ _) | (intro _ h st; show W _ _ _ _ _ _ _ _ _) | exact Sd)))
            (repeat (first | (show W _ _ _ _ _ _ (.code (cond _ _ _) :: _) _ _; first | refine W.ct ?_ | refine W.cf ?_) | (show W _ _ _ _ _ _ (.ins (cond _ _ _ :: _) :: _) _ _; first | refine W.gt ?_ | refine W.gf ?_) | (show W _ _ _ _ _ _ [] _ _; refine W.of (.done ?_)) | (apply W.of; constructor <;> first | (show W _ _ _ _ _ _ _ _ _) | (intro (al : Nat) h st; show W _ _ _ _ _ _ _ _ _) | (intro _ h st; show W _ _ _ _ _ _ _ _ _) | exact Sd))); refine W.do (ho := fp) (w := ?_)
            (repeat (first | (show W _ _ _ _ _ _ (.code (cond _ _ _) :: _) _ _; first | refine W.ct ?_ | refine W.cf ?_) | (show W _ _ _ _ _ _ (.ins (cond _ _ _ :: _) :: _) _ _; first | refine W.gt ?_ | refine W.gf ?_) | (show W _ _ _ _ _ _ [] _ _; refine W.of (.done ?_)) | (apply W.of; constructor <;> first | (show W _ _ _ _ _ _ _ _ _) | (intro (al : Nat) h st; show W _ _ _ _ _ _ _ _ _) | (intro _ h st; show W _ _ _ _ _ _ _ _ _) | exact Sd))); refine W.do (ho := hld) (w := ?_)
            (repeat (first | (show W _ _ _ _ _ _ (.code (cond _ _ _) :: _) _ _; first | refine W.ct ?_ | refine W.cf ?_) | (show W _ _ _ _ _ _ (.ins (cond _ _ _ :: _) :: _) _ _; first | refine W.gt ?_ | refine W.gf ?_) | (show W _ _ _ _ _ _ [] _ _; refine W.of (.done ?_)) | (apply W.of; constructor <;> first | (show W _ _ _ _ _ _ _ _ _) | (intro (al : Nat) h st; show W _ _ _ _ _ _ _ _ _) | (intro _ h st; show W _ _ _ _ _ _ _ _ _) | exact Sd)))
            have st := St.vsRow (l := [.int .i64 x]) (e := 3) st Tk rfl
            (repeat (first | (show W _ _ _ _ _ _ (.code (cond _ _ _) :: _) _ _; first | refine W.ct ?_ | refine W.cf ?_) | (show W _ _ _ _ _ _ (.ins (cond _ _ _ :: _) :: _) _ _; first | refine W.gt ?_ | refine W.gf ?_) | (show W _ _ _ _ _ _ [] _ _; refine W.of (.done ?_)) | (apply W.of; constructor <;> first | (show W _ _ _ _ _ _ _ _ _) | (intro (al : Nat) h st; show W _ _ _ _ _ _ _ _ _) | (intro _ h st; show W _ _ _ _ _ _ _ _ _) | exact Sd))); refine W.ef (ho := (e_vsAppend (s := ov) (l' := [.int .i64 x]) st Tk Tk (by simp; omega) (by simp; omega))) (w := ?_); rintro vv h ⟨cj, cl, st⟩; refine nj ?_
            obtain ⟨o2, rfl⟩ : ∃ y, y = vv := ⟨_, rfl⟩
            obtain ⟨fp2, _⟩ := d_vsIdx (v := v) (l := (anG a.an (g.take i)).map ikey) (i := jj) (kk := .i64) st Tk (by rw [List.length_map]; omega)
            (repeat (first | (show W _ _ _ _ _ _ (.code (cond _ _ _) :: _) _ _; first | refine W.ct ?_ | refine W.cf ?_) | (show W _ _ _ _ _ _ (.ins (cond _ _ _ :: _) :: _) _ _; first | refine W.gt ?_ | refine W.gf ?_) | (show W _ _ _ _ _ _ [] _ _; refine W.of (.done ?_)) | (apply W.of; constructor <;> first | (show W _ _ _ _ _ _ _ _ _) | (intro (al : Nat) h st; show W _ _ _ _ _ _ _ _ _) | (intro _ h st; show W _ _ _ _ _ _ _ _ _) | exact Sd))); refine W.do (ho := fp2) (w := ?_)
            (repeat (first | (show W _ _ _ _ _ _ (.code (cond _ _ _) :: _) _ _; first | refine W.ct ?_ | refine W.cf ?_) | (show W _ _ _ _ _ _ (.ins (cond _ _ _ :: _) :: _) _ _; first | refine W.gt ?_ | refine W.gf ?_) | (show W _ _ _ _ _ _ [] _ _; refine W.of (.done ?_)) | (apply W.of; constructor <;> first | (show W _ _ _ _ _ _ _ _ _) | (intro (al : Nat) h st; show W _ _ _ _ _ _ _ _ _) | (intro _ h st; show W _ _ _ _ _ _ _ _ _) | exact Sd))); refine W.ef0 (ho := (e_vsStore (v := v) (l := (anG a.an (g.take i)).map ikey) (i := jj) st Tk (by rw [List.length_map]; omega) rfl)) (w := ?_); rintro _ h ⟨_, st⟩
            rw [← List.map_set (f := ikey), ← ea] at st
            rw [show (outG a.an (g.take i)).map ikey ++ [.int .i64 x] = (outG a.an (g.take (i + 1))).map ikey by rw [es, List.map_append]; rfl] at st
            (repeat (first | (show W _ _ _ _ _ _ (.code (cond _ _ _) :: _) _ _; first | refine W.ct ?_ | refine W.cf ?_) | (show W _ _ _ _ _ _ (.ins (cond _ _ _ :: _) :: _) _ _; first | refine W.gt ?_ | refine W.gf ?_) | (show W _ _ _ _ _ _ [] _ _; refine W.of (.done ?_)) | (apply W.of; constructor <;> first | (show W _ _ _ _ _ _ _ _ _) | (intro (al : Nat) h st; show W _ _ _ _ _ _ _ _ _) | (intro _ h st; show W _ _ _ _ _ _ _ _ _) | exact Sd)))
            refine W.of (.lp ?_)
            exact ⟨⟨i + 1, o2⟩, by simp only; omega, hlt, Sbs, st.sel Sels⟩
          · rw [if_neg hx0, List.append_nil] at es
            (repeat (first | (show W _ _ _ _ _ _ (.code (cond _ _ _) :: _) _ _; first | refine W.ct ?_ | refine W.cf ?_) | (show W _ _ _ _ _ _ (.ins (cond _ _ _ :: _) :: _) _ _; first | refine W.gt ?_ | refine W.gf ?_) | (show W _ _ _ _ _ _ [] _ _; refine W.of (.done ?_)) | (apply W.of; constructor <;> first | (show W _ _ _ _ _ _ _ _ _) | (intro (al : Nat) h st; show W _ _ _ _ _ _ _ _ _) | (intro _ h st; show W _ _ _ _ _ _ _ _ _) | exact Sd)))
            (repeat (first | (show W _ _ _ _ _ _ (.code (cond _ _ _) :: _) _ _; first | refine W.ct ?_ | refine W.cf ?_) | (show W _ _ _ _ _ _ (.ins (cond _ _ _ :: _) :: _) _ _; first | refine W.gt ?_ | refine W.gf ?_) | (show W _ _ _ _ _ _ [] _ _; refine W.of (.done ?_)) | (apply W.of; constructor <;> first | (show W _ _ _ _ _ _ _ _ _) | (intro (al : Nat) h st; show W _ _ _ _ _ _ _ _ _) | (intro _ h st; show W _ _ _ _ _ _ _ _ _) | exact Sd))); refine W.do (ho := fp) (w := ?_)
            (repeat (first | (show W _ _ _ _ _ _ (.code (cond _ _ _) :: _) _ _; first | refine W.ct ?_ | refine W.cf ?_) | (show W _ _ _ _ _ _ (.ins (cond _ _ _ :: _) :: _) _ _; first | refine W.gt ?_ | refine W.gf ?_) | (show W _ _ _ _ _ _ [] _ _; refine W.of (.done ?_)) | (apply W.of; constructor <;> first | (show W _ _ _ _ _ _ _ _ _) | (intro (al : Nat) h st; show W _ _ _ _ _ _ _ _ _) | (intro _ h st; show W _ _ _ _ _ _ _ _ _) | exact Sd))); refine W.ef0 (ho := (e_vsStore (v := v) (l := (anG a.an (g.take i)).map ikey) (i := jj) st Tk (by rw [List.length_map]; omega) rfl)) (w := ?_); rintro _ h ⟨_, st⟩
            rw [← List.map_set (f := ikey), ← ea, ← es] at st
            (repeat (first | (show W _ _ _ _ _ _ (.code (cond _ _ _) :: _) _ _; first | refine W.ct ?_ | refine W.cf ?_) | (show W _ _ _ _ _ _ (.ins (cond _ _ _ :: _) :: _) _ _; first | refine W.gt ?_ | refine W.gf ?_) | (show W _ _ _ _ _ _ [] _ _; refine W.of (.done ?_)) | (apply W.of; constructor <;> first | (show W _ _ _ _ _ _ _ _ _) | (intro (al : Nat) h st; show W _ _ _ _ _ _ _ _ _) | (intro _ h st; show W _ _ _ _ _ _ _ _ _) | exact Sd)))
            refine W.of (.lp ?_)
            exact ⟨⟨i + 1, ov⟩, by simp only; omega, hlt, Sbs, st.sel Sels⟩
        · have e : i = g.length := by omega
          subst e
          rw [List.take_length] at st ol
          (repeat (first | (show W _ _ _ _ _ _ (.code (cond _ _ _) :: _) _ _; first | refine W.ct ?_ | refine W.cf ?_) | (show W _ _ _ _ _ _ (.ins (cond _ _ _ :: _) :: _) _ _; first | refine W.gt ?_ | refine W.gf ?_) | (show W _ _ _ _ _ _ [] _ _; refine W.of (.done ?_)) | (apply W.of; constructor <;> first | (show W _ _ _ _ _ _ _ _ _) | (intro (al : Nat) h st; show W _ _ _ _ _ _ _ _ _) | (intro _ h st; show W _ _ _ _ _ _ _ _ _) | exact Sd))); refine W.call (hs := (cnt_Sum (D := D) (l := l1))) (w := ?_); rintro vv _ ⟨rfl, rfl⟩ h st; refine nj ?_; dsimp only [List.cons_append, List.nil_append] at st
          rw [e1]
          have hal : (anG a.an g).length = a.an.length := anG_len
          have hmem : (dropA a lo hi).an = anG a.an g := by rw [dropA, hg]
          have hpk : ∀ {h : AHeap} {L R : List Chunk}, St h L → Pick L [.pt a.O (oneRow D v), CntC D l1 a.cs.length, VsC v 3 ((anG a.an g).map ikey) true] R → St h (AmC (dropA a lo hi) :: R) := fun st pk => by
            refine St.packP (t := 40) (k := .ptr a.O 0) (P := AmIs (dropA a lo hi)) st ⟨D, v, l1, ?_, e1, ?_⟩ pk
            · rw [hmem]; simp only [dropA, addL_length]
            · refine ⟨?_, ?_, ?_, ?_⟩
              · rw [hmem]; simp only [dropA, addL_length]; omega
              · simp only [dropA, addL_length]; exact hn1
              · simp only [dropA, addL_length]; exact hn4
              · rw [hmem]; exact anG_pos hok.pos
          have hdo : DropOk a lo hi := ⟨hw.1, hw.2.1, by omega, ho⟩
          have oj' : ov.notJunk = some ov := oj
          rw [hg] at ol
          by_cases hs : (addL 0 a.cs lo hi (-1)).sum = 0
          · obtain ⟨q, hq⟩ : ∃ q : Nat, id - 1 = (q : Int) := ⟨(id - 1).toNat, by omega⟩
            rw [hq, Int.toNat_natCast] at st hz
            have hql := (List.getElem?_eq_some_iff.1 hz).1
            have st := st.take (c := PoXC P most zs q) Tk
            obtain ⟨_, ⟨sv, rfl, hpo⟩, st⟩ := St.unpack st; dsimp only [List.cons_append, List.nil_append] at st
            have hm := hpo.m
            have hl := hpo.l
            have hc := hpo.c
            obtain ⟨sl, sj, ss⟩ := St.vs (v := sv) (l := zs.map zptr) st Tk
            rw [List.length_map] at sl
            (repeat (first | (show W _ _ _ _ _ _ (.code (cond _ _ _) :: _) _ _; first | refine W.ct ?_ | refine W.cf ?_) | (show W _ _ _ _ _ _ (.ins (cond _ _ _ :: _) :: _) _ _; first | refine W.gt ?_ | refine W.gf ?_) | (show W _ _ _ _ _ _ [] _ _; refine W.of (.done ?_)) | (apply W.of; constructor <;> first | (show W _ _ _ _ _ _ _ _ _) | (intro (al : Nat) h st; show W _ _ _ _ _ _ _ _ _) | (intro _ h st; show W _ _ _ _ _ _ _ _ _) | exact Sd)))
            rw [hq]
            obtain ⟨ap, aq⟩ := d_vsIdx (v := sv) (l := zs.map zptr) (i := q) (kk := .i64) st Tk (by rw [List.length_map]; omega)
            (repeat (first | (show W _ _ _ _ _ _ (.code (cond _ _ _) :: _) _ _; first | refine W.ct ?_ | refine W.cf ?_) | (show W _ _ _ _ _ _ (.ins (cond _ _ _ :: _) :: _) _ _; first | refine W.gt ?_ | refine W.gf ?_) | (show W _ _ _ _ _ _ [] _ _; refine W.of (.done ?_)) | (apply W.of; constructor <;> first | (show W _ _ _ _ _ _ _ _ _) | (intro (al : Nat) h st; show W _ _ _ _ _ _ _ _ _) | (intro _ h st; show W _ _ _ _ _ _ _ _ _) | exact Sd))); refine W.do (ho := ap) (w := ?_)
            (repeat (first | (show W _ _ _ _ _ _ (.code (cond _ _ _) :: _) _ _; first | refine W.ct ?_ | refine W.cf ?_) | (show W _ _ _ _ _ _ (.ins (cond _ _ _ :: _) :: _) _ _; first | refine W.gt ?_ | refine W.gf ?_) | (show W _ _ _ _ _ _ [] _ _; refine W.of (.done ?_)) | (apply W.of; constructor <;> first | (show W _ _ _ _ _ _ _ _ _) | (intro (al : Nat) h st; show W _ _ _ _ _ _ _ _ _) | (intro _ h st; show W _ _ _ _ _ _ _ _ _) | exact Sd))); refine W.ef0 (ho := (e_vsStore (v := sv) (l := zs.map zptr) (i := q) st Tk (by rw [List.length_map]; omega) rfl)) (w := ?_); rintro _ h ⟨_, st⟩
            (repeat (first | (show W _ _ _ _ _ _ (.code (cond _ _ _) :: _) _ _; first | refine W.ct ?_ | refine W.cf ?_) | (show W _ _ _ _ _ _ (.ins (cond _ _ _ :: _) :: _) _ _; first | refine W.gt ?_ | refine W.gf ?_) | (show W _ _ _ _ _ _ [] _ _; refine W.of (.done ?_)) | (apply W.of; constructor <;> first | (show W _ _ _ _ _ _ _ _ _) | (intro (al : Nat) h st; show W _ _ _ _ _ _ _ _ _) | (intro _ h st; show W _ _ _ _ _ _ _ _ _) | exact Sd)))
            have ec := cntZ_setNone hz
            have ez : (zs.map zptr).set q .nilptr = (zs.set q none).map zptr := by rw [List.map_set]; rfl
            rw [ez, show ((cntZ zs : Nat) : Int) - 1 = ((cntZ (zs.set q none) : Nat) : Int) by omega] at st
            have st : St h (SepC (.ptr P 0) zG (zs.set q none) :: .pt P (poolRow most sv (cntZ (zs.set q none))) :: VsC sv 177 ((zs.set q none).map zptr) true :: VsC ov 3 ((outG a.an g).map ikey) true :: F) := St.sepIn (G := zG) (a := none) (l := zs) (st.sel Sels) hql
            have st := St.packP (t := 41) (k := .ptr P 0) (P := PoIs P most (zs.set q none)) (cs := [.pt P (poolRow most sv (cntZ (zs.set q none))), VsC sv 177 ((zs.set q none).map zptr) true, SepC (.ptr P 0) zG (zs.set q none)]) st ⟨sv, rfl, hm, by omega, by rw [List.length_set]; exact hl⟩ Pks
            refine ⟨_, rfl, _, .inr ⟨a, ha, .inl ⟨hdo, ov, rfl, oj', ol, rfl⟩⟩, ?_⟩
            rw [dropZ, if_pos hs, ← hg, hq, Int.toNat_natCast]
            exact st.sel Sels
          · (repeat (first | (show W _ _ _ _ _ _ (.code (cond _ _ _) :: _) _ _; first | refine W.ct ?_ | refine W.cf ?_) | (show W _ _ _ _ _ _ (.ins (cond _ _ _ :: _) :: _) _ _; first | refine W.gt ?_ | refine W.gf ?_) | (show W _ _ _ _ _ _ [] _ _; refine W.of (.done ?_)) | (apply W.of; constructor <;> first | (show W _ _ _ _ _ _ _ _ _) | (intro (al : Nat) h st; show W _ _ _ _ _ _ _ _ _) | (intro _ h st; show W _ _ _ _ _ _ _ _ _) | exact Sd)))
            have st := hpk st Pks
            have st := st.poIn (a := a) (b := dropA a lo hi) rfl hz Tk Tk
            refine ⟨_, rfl, _, .inr ⟨a, ha, .inl ⟨hdo, ov, rfl, oj', ol, rfl⟩⟩, ?_⟩
            rw [dropZ, if_neg hs, ← hg]
            exact st.sel Sels
      · refine nj ?_
        dsimp only [List.cons_append, List.nil_append] at st
        (repeat (first | (show W _ _ _ _ _ _ (.code (cond _ _ _) :: _) _ _; first | refine W.ct ?_ | refine W.cf ?_) | (show W _ _ _ _ _ _ (.ins (cond _ _ _ :: _) :: _) _ _; first | refine W.gt ?_ | refine W.gf ?_) | (show W _ _ _ _ _ _ [] _ _; refine W.of (.done ?_)) | (apply W.of; constructor <;> first | (show W _ _ _ _ _ _ _ _ _) | (intro (al : Nat) h st; show W _ _ _ _ _ _ _ _ _) | (intro _ h st; show W _ _ _ _ _ _ _ _ _) | exact Sd)))
        rw [he] at ho
        have st := St.packP (t := 40) (k := .ptr a.O 0) (P := AmIs a) (cs := [.pt a.O (oneRow D v), CntC D l a.cs.length, VsC v 3 (a.an.map ikey) true]) st ⟨D, v, l, rfl, he, hok⟩ Pks
        have st := st.poBack hz Tk Tk
        exact ⟨_, rfl, _, .inr ⟨a, ha, .inr ⟨fun hh => ho hh.add, rfl, rfl⟩⟩, st.sel Sels⟩
    · rw [decide_eq_false hw]
      (repeat (first | (show W _ _ _ _ _ _ (.code (cond _ _ _) :: _) _ _; first | refine W.ct ?_ | refine W.cf ?_) | (show W _ _ _ _ _ _ (.ins (cond _ _ _ :: _) :: _) _ _; first | refine W.gt ?_ | refine W.gf ?_) | (show W _ _ _ _ _ _ [] _ _; refine W.of (.done ?_)) | (apply W.of; constructor <;> first | (show W _ _ _ _ _ _ _ _ _) | (intro (al : Nat) h st; show W _ _ _ _ _ _ _ _ _) | (intro _ h st; show W _ _ _ _ _ _ _ _ _) | exact Sd)))
      have st := st.poBack hz Tk Tk
      exact ⟨_, rfl, _, .inr ⟨a, ha, .inr ⟨fun hh => hw ⟨hh.l0, hh.lt, by have := hh.h0; omega⟩, rfl, rfl⟩⟩, st⟩
end Go.Proofs.Ytjdemlagmamlbaa

namespace Go.Proofs.Ytjdemlagmamlbaa
theorem ints_Clone {v : AV} {l : List AV} (hb : l.length ≤ 100000) : Spec R (.f n_slices_Clone_int_int) [v] [VsC v 3 l true] fun x Rs => x.notJunk = some x ∧ sliceLen x = some l.length ∧ Rs = [VsC x 3 l true, VsC v 3 l true] := by
  refine spec_in fun h F st => ?_
  obtain ⟨vl, vj, vs⟩ := St.vs (v := v) (l := l) st Tk
  by_cases hn : v = .nilsl
  · subst hn
    have e0 : l = [] := List.eq_nil_of_length_eq_zero (by simpa [sliceLen] using vl.symm)
    subst e0
    clear st h F; refine spec_w (fun _ _ _ x => progI_call rfl rfl x) Njs rfl (fun h F st => ?_); dsimp only [List.cons_append, List.nil_append] at st
    (repeat (first | (show W _ _ _ _ _ _ (.code (cond _ _ _) :: _) _ _; first | refine W.ct ?_ | refine W.cf ?_) | (show W _ _ _ _ _ _ (.ins (cond _ _ _ :: _) :: _) _ _; first | refine W.gt ?_ | refine W.gf ?_) | (show W _ _ _ _ _ _ [] _ _; refine W.of (.done ?_)) | (apply W.of; constructor <;> first | (show W _ _ _ _ _ _ _ _ _) | (intro (al : Nat) h st; show W _ _ _ _ _ _ _ _ _) | (intro _ h st; show W _ _ _ _ _ _ _ _ _) | exact Sd)))
    exact ⟨_, rfl, _, ⟨rfl, rfl, rfl⟩, st.vsNil _ _⟩
  · clear st h F; refine spec_w (fun _ _ _ x => progI_call rfl rfl x) Njs rfl (fun h F st => ?_); dsimp only [List.cons_append, List.nil_append] at st
    (repeat (first | (show W _ _ _ _ _ _ (.code (cond _ _ _) :: _) _ _; first | refine W.ct ?_ | refine W.cf ?_) | (show W _ _ _ _ _ _ (.ins (cond _ _ _ :: _) :: _) _ _; first | refine W.gt ?_ | refine W.gf ?_) | (show W _ _ _ _ _ _ [] _ _; refine W.of (.done ?_)) | (apply W.of; constructor <;> first | (show W _ _ _ _ _ _ _ _ _) | (intro (al : Nat) h st; show W _ _ _ _ _ _ _ _ _) | (intro _ h st; show W _ _ _ _ _ _ _ _ _) | exact Sd)))
    (repeat (first | (show W _ _ _ _ _ _ (.code (cond _ _ _) :: _) _ _; first | refine W.ct ?_ | refine W.cf ?_) | (show W _ _ _ _ _ _ (.ins (cond _ _ _ :: _) :: _) _ _; first | refine W.gt ?_ | refine W.gf ?_) | (show W _ _ _ _ _ _ [] _ _; refine W.of (.done ?_)) | (apply W.of; constructor <;> first | (show W _ _ _ _ _ _ _ _ _) | (intro (al : Nat) h st; show W _ _ _ _ _ _ _ _ _) | (intro _ h st; show W _ _ _ _ _ _ _ _ _) | exact Sd))); refine W.do (ho := (d_isNil vl hn)) (w := ?_)
    (repeat (first | (show W _ _ _ _ _ _ (.code (cond _ _ _) :: _) _ _; first | refine W.ct ?_ | refine W.cf ?_) | (show W _ _ _ _ _ _ (.ins (cond _ _ _ :: _) :: _) _ _; first | refine W.gt ?_ | refine W.gf ?_) | (show W _ _ _ _ _ _ [] _ _; refine W.of (.done ?_)) | (apply W.of; constructor <;> first | (show W _ _ _ _ _ _ _ _ _) | (intro (al : Nat) h st; show W _ _ _ _ _ _ _ _ _) | (intro _ h st; show W _ _ _ _ _ _ _ _ _) | exact Sd)))
    have st := St.vsRow (l := []) (e := 3) st Tk rfl
    (repeat (first | (show W _ _ _ _ _ _ (.code (cond _ _ _) :: _) _ _; first | refine W.ct ?_ | refine W.cf ?_) | (show W _ _ _ _ _ _ (.ins (cond _ _ _ :: _) :: _) _ _; first | refine W.gt ?_ | refine W.gf ?_) | (show W _ _ _ _ _ _ [] _ _; refine W.of (.done ?_)) | (apply W.of; constructor <;> first | (show W _ _ _ _ _ _ _ _ _) | (intro (al : Nat) h st; show W _ _ _ _ _ _ _ _ _) | (intro _ h st; show W _ _ _ _ _ _ _ _ _) | exact Sd))); refine W.ef (ho := (e_vsAppend (l := []) (l' := l) st Tk Tk (by simp; omega) (by simp; omega))) (w := ?_); rintro vv h ⟨bj, bl, st⟩; refine nj ?_
    (repeat (first | (show W _ _ _ _ _ _ (.code (cond _ _ _) :: _) _ _; first | refine W.ct ?_ | refine W.cf ?_) | (show W _ _ _ _ _ _ (.ins (cond _ _ _ :: _) :: _) _ _; first | refine W.gt ?_ | refine W.gf ?_) | (show W _ _ _ _ _ _ [] _ _; refine W.of (.done ?_)) | (apply W.of; constructor <;> first | (show W _ _ _ _ _ _ _ _ _) | (intro (al : Nat) h st; show W _ _ _ _ _ _ _ _ _) | (intro _ h st; show W _ _ _ _ _ _ _ _ _) | exact Sd)))
    exact ⟨_, rfl, _, ⟨bj, bl, rfl⟩, st⟩
/-- the slots that have something, with it -/
def usedP (o : Int) (an : List Int) : List (Int × Int) :=
  match an with
  | [] => []
  | x :: an => if x > 0 then (o, x) :: usedP (o + 1) an else usedP (o + 1) an
theorem usedP_append : ∀ {a b : List Int} {o : Int}, usedP o (a ++ b) = usedP o a ++ usedP (o + a.length) b
  | [], b, o => by simp [usedP]
  | x :: a, b, o => by
    simp only [List.cons_append, usedP, List.length_cons]
    rw [usedP_append (a := a), show o + 1 + (a.length : Int) = o + ((a.length + 1 : Nat) : Int) by omega]
    split <;> simp
theorem usedP_snoc {o x : Int} {a : List Int} : usedP o (a ++ [x]) = usedP o a ++ if x > 0 then [(o + a.length, x)] else [] := by
  rw [usedP_append]; congr 1
theorem usedP_split {an : List Int} {i : Nat} {x : Int} (hx : an[i]? = some x) (hp : x > 0) : usedP 0 an = usedP 0 (an.take i) ++ ((i : Int), x) :: usedP ((i : Int) + 1) (an.drop (i + 1)) := by
  obtain ⟨h1, h2⟩ := List.getElem?_eq_some_iff.1 hx
  have e : an = an.take i ++ x :: an.drop (i + 1) := by rw [← h2, List.getElem_cons_drop, List.take_append_drop]
  conv => lhs; rw [e]
  rw [usedP_append, usedP, if_pos hp, List.length_take, Nat.min_eq_left (by omega), Int.zero_add]
theorem usedP_len : ∀ {an : List Int} {o : Int}, (usedP o an).length ≤ an.length
  | [], _ => Nat.le_refl _
  | x :: an, o => by
    have := usedP_len (an := an) (o := o + 1)
    simp only [usedP]
    split <;> simp <;> omega
def usedZ (zs : List (Option AmV)) (id : Int) : List (Int × Int) := match atZ zs id with | some a => usedP 0 a.an | none => []
abbrev ClU (I : Nat) (Cl : List (Int × Int) → List Chunk → Prop) (pre : List (Int × Int)) : Chunk := pk 43 (.yield I) (Cl pre)
abbrev ErU (I : Nat) (E : List Chunk → Prop) : Chunk := pk 44 (.yield I) E
def AsksU (I : Nat) (items : List (Int × Int)) (Cl : List (Int × Int) → List Chunk → Prop) (E : List Chunk → Prop) : Prop := ∀ pre i x suf, items = pre ++ (i, x) :: suf → Spec R (.y I) [.int .i64 i, .int .i64 x] [ClU I Cl pre] fun v Rs =>
  (v = .bool true ∧ Rs = [ClU I Cl (pre ++ [(i, x)])]) ∨ (v = .bool false ∧ Rs = [ErU I E])
abbrev poBox (P : Nat) : AObj := .row 129 1 false false (.vals [.ptr P 0])
variable {P most : Nat} {zs : List (Option AmV)} {a : AmV}
theorem po_Used {p : AV} {id : Int} (hp : p.notJunk = some p) (hd : p.dat = .vals [p]) : Spec R (.f n_amap_Pool_Used) [p, .int .i64 id] [] fun v Rs => ∃ a b, v = .func n_amap_Pool_Used_1 [] [.ptr a 0, .ptr b 0] ∧ Rs = [.pt a (.row 129 1 false false (.vals [p])), .pt b (ibox1 id)] := by
  refine spec_w (fun _ _ _ x => progI_call rfl rfl x) Njs rfl (fun h F st => ?_); dsimp only [List.cons_append, List.nil_append] at st
  (repeat (first | (show W _ _ _ _ _ _ (.code (cond _ _ _) :: _) _ _; first | refine W.ct ?_ | refine W.cf ?_) | (show W _ _ _ _ _ _ (.ins (cond _ _ _ :: _) :: _) _ _; first | refine W.gt ?_ | refine W.gf ?_) | (show W _ _ _ _ _ _ [] _ _; refine W.of (.done ?_)) | (apply W.of; constructor <;> first | (show W _ _ _ _ _ _ _ _ _) | (intro (al : Nat) h st; show W _ _ _ _ _ _ _ _ _) | (intro _ h st; show W _ _ _ _ _ _ _ _ _) | exact Sd))); refine W.ef (ho := (e_box (e := 129) (es := 1) (v := p) st (by rw [hd]; rfl) rfl)) (w := ?_); rintro vv h ⟨a, rfl, st⟩; refine nj ?_
  rw [hd] at st
  (repeat (first | (show W _ _ _ _ _ _ (.code (cond _ _ _) :: _) _ _; first | refine W.ct ?_ | refine W.cf ?_) | (show W _ _ _ _ _ _ (.ins (cond _ _ _ :: _) :: _) _ _; first | refine W.gt ?_ | refine W.gf ?_) | (show W _ _ _ _ _ _ [] _ _; refine W.of (.done ?_)) | (apply W.of; constructor <;> first | (show W _ _ _ _ _ _ _ _ _) | (intro (al : Nat) h st; show W _ _ _ _ _ _ _ _ _) | (intro _ h st; show W _ _ _ _ _ _ _ _ _) | exact Sd)))
  exact ⟨_, rfl, _, ⟨_, _, rfl, rfl⟩, st.sel Sels⟩
set_option maxRecDepth 8000 in
theorem po_Used_1 {I b c : Nat} {id : Int} {Cl : List (Int × Int) → List Chunk → Prop} {E : List Chunk → Prop} (hy : AsksU I (usedZ zs id) Cl E) :
    Spec R (.f n_amap_Pool_Used_1) [.yield I, .ptr b 0, .ptr c 0] [.pt b (poBox P), .pt c (ibox1 id), PoC P most zs, ClU I Cl []] fun _ Rs =>
      ∃ c', Rs = [c', .pt b (poBox P), .pt c (ibox1 id), PoC P most zs] ∧ (c' = ClU I Cl (usedZ zs id) ∨ c' = ErU I E) := by
  refine spec_w (fun _ _ _ x => progI_call rfl rfl x) Njs rfl (fun h F st => ?_); dsimp only [List.cons_append, List.nil_append] at st
  have znj := zptr_nj (atZ zs id)
  have zok := zptr_ok (atZ zs id)
  (repeat (first | (show W _ _ _ _ _ _ (.code (cond _ _ _) :: _) _ _; first | refine W.ct ?_ | refine W.cf ?_) | (show W _ _ _ _ _ _ (.ins (cond _ _ _ :: _) :: _) _ _; first | refine W.gt ?_ | refine W.gf ?_) | (show W _ _ _ _ _ _ [] _ _; refine W.of (.done ?_)) | (apply W.of; constructor <;> first | (show W _ _ _ _ _ _ _ _ _) | (intro (al : Nat) h st; show W _ _ _ _ _ _ _ _ _) | (intro _ h st; show W _ _ _ _ _ _ _ _ _) | exact Sd))); refine W.call (hs := po_of) (w := ?_); rintro vv _ ⟨rfl, rfl⟩ h st; refine nj ?_; dsimp only [List.cons_append, List.nil_append] at st
  unfold usedZ at hy ⊢
  cases ha : atZ zs id with
  | none =>
    dsimp only [zptr]
    (repeat (first | (show W _ _ _ _ _ _ (.code (cond _ _ _) :: _) _ _; first | refine W.ct ?_ | refine W.cf ?_) | (show W _ _ _ _ _ _ (.ins (cond _ _ _ :: _) :: _) _ _; first | refine W.gt ?_ | refine W.gf ?_) | (show W _ _ _ _ _ _ [] _ _; refine W.of (.done ?_)) | (apply W.of; constructor <;> first | (show W _ _ _ _ _ _ _ _ _) | (intro (al : Nat) h st; show W _ _ _ _ _ _ _ _ _) | (intro _ h st; show W _ _ _ _ _ _ _ _ _) | exact Sd)))
    exact ⟨_, rfl, _, ⟨_, rfl, .inl rfl⟩, st.sel Sels⟩
  | some a =>
    rw [ha] at hy
    dsimp only [zptr] at hy ⊢
    obtain ⟨hi1, hi2, hz⟩ := atZ_some ha
    have st := st.poOut Tk hz
    have hok := st.am Tk
    have hlen := hok.len
    have hn4 := hok.n4
    obtain ⟨_, ⟨D, v, l, rfl, he, _⟩, st⟩ := St.unpack st; dsimp only [List.cons_append, List.nil_append] at st
    obtain ⟨vl, vj, vs⟩ := St.ivs (v := v) (cs := a.an) st Tk
    (repeat (first | (show W _ _ _ _ _ _ (.code (cond _ _ _) :: _) _ _; first | refine W.ct ?_ | refine W.cf ?_) | (show W _ _ _ _ _ _ (.ins (cond _ _ _ :: _) :: _) _ _; first | refine W.gt ?_ | refine W.gf ?_) | (show W _ _ _ _ _ _ [] _ _; refine W.of (.done ?_)) | (apply W.of; constructor <;> first | (show W _ _ _ _ _ _ _ _ _) | (intro (al : Nat) h st; show W _ _ _ _ _ _ _ _ _) | (intro _ h st; show W _ _ _ _ _ _ _ _ _) | exact Sd)))
    (repeat (first | (show W _ _ _ _ _ _ (.code (cond _ _ _) :: _) _ _; first | refine W.ct ?_ | refine W.cf ?_) | (show W _ _ _ _ _ _ (.ins (cond _ _ _ :: _) :: _) _ _; first | refine W.gt ?_ | refine W.gf ?_) | (show W _ _ _ _ _ _ [] _ _; refine W.of (.done ?_)) | (apply W.of; constructor <;> first | (show W _ _ _ _ _ _ _ _ _) | (intro (al : Nat) h st; show W _ _ _ _ _ _ _ _ _) | (intro _ h st; show W _ _ _ _ _ _ _ _ _) | exact Sd))); refine W.call (hs := (ints_Clone (v := v) (l := a.an.map ikey) (by rw [List.length_map]; omega))) (w := ?_); rintro vv _ ⟨wj, wl, rfl⟩ h st; refine nj ?_; dsimp only [List.cons_append, List.nil_append] at st
    obtain ⟨w, rfl⟩ : ∃ y, y = vv := ⟨_, rfl⟩
    rw [List.length_map] at wl
    have st := St.packP (t := 40) (k := .ptr a.O 0) (P := AmIs a) (cs := [.pt a.O (oneRow D v), CntC D l a.cs.length, VsC v 3 (a.an.map ikey) true]) st ⟨D, v, l, rfl, he, hok⟩ Pks
    have st := st.poBack hz Tk Tk
    (repeat (first | (show W _ _ _ _ _ _ (.code (cond _ _ _) :: _) _ _; first | refine W.ct ?_ | refine W.cf ?_) | (show W _ _ _ _ _ _ (.ins (cond _ _ _ :: _) :: _) _ _; first | refine W.gt ?_ | refine W.gf ?_) | (show W _ _ _ _ _ _ [] _ _; refine W.of (.done ?_)) | (apply W.of; constructor <;> first | (show W _ _ _ _ _ _ _ _ _) | (intro (al : Nat) h st; show W _ _ _ _ _ _ _ _ _) | (intro _ h st; show W _ _ _ _ _ _ _ _ _) | exact Sd)))
    refine W.loop (fun i : Nat => [(0, .yield I), (16, w), (17, .int .i64 a.an.length), (18, .int .i64 i)]) (fun i => ClU I Cl (usedP 0 (a.an.take i)) :: VsC w 3 (a.an.map ikey) true :: .pt b (poBox P) :: .pt c (ibox1 id) :: PoC P most zs :: F)
      (fun i => i ≤ a.an.length) (fun i => a.an.length - i) 0 (small_rounds (by omega)) Sbs (st.sel Sels) (Nat.zero_le _) ?_
    clear st
    intro i h hi st
    by_cases hlt : i < a.an.length
    · obtain ⟨x, hx⟩ : ∃ x, a.an[i]? = some x := ⟨a.an[i], by simp [hlt]⟩
      have ep : usedP 0 (a.an.take (i + 1)) = usedP 0 (a.an.take i) ++ if x > 0 then [((i : Int), x)] else [] := by
        rw [take_snoc1 hx, usedP_snoc, List.length_take, Nat.min_eq_left (by omega), Int.zero_add]
      obtain ⟨gp, gq⟩ := d_vsIdx (v := w) (l := a.an.map ikey) (i := i) (kk := .i64) st Tk (by rw [List.length_map]; omega)
      (repeat (first | (show W _ _ _ _ _ _ (.code (cond _ _ _) :: _) _ _; first | refine W.ct ?_ | refine W.cf ?_) | (show W _ _ _ _ _ _ (.ins (cond _ _ _ :: _) :: _) _ _; first | refine W.gt ?_ | refine W.gf ?_) | (show W _ _ _ _ _ _ [] _ _; refine W.of (.done ?_)) | (apply W.of; constructor <;> first | (show W _ _ _ _ _ _ _ _ _) | (intro (al : Nat) h st; show W _ _ _ _ _ _ _ _ _) | (intro _ h st; show W _ _ _ _ _ _ _ _ _) | exact Sd))); refine W.do (ho := gp) (w := ?_)
      (repeat (first | (show W _ _ _ _ _ _ (.code (cond _ _ _) :: _) _ _; first | refine W.ct ?_ | refine W.cf ?_) | (show W _ _ _ _ _ _ (.ins (cond _ _ _ :: _) :: _) _ _; first | refine W.gt ?_ | refine W.gf ?_) | (show W _ _ _ _ _ _ [] _ _; refine W.of (.done ?_)) | (apply W.of; constructor <;> first | (show W _ _ _ _ _ _ _ _ _) | (intro (al : Nat) h st; show W _ _ _ _ _ _ _ _ _) | (intro _ h st; show W _ _ _ _ _ _ _ _ _) | exact Sd))); refine W.do (ho := (d_vsLoad (v := w) (l := a.an.map ikey) (x := ikey x) st Tk (by rw [List.getElem?_map, hx]; rfl))) (w := ?_)
      by_cases hq : x > 0
      · rw [if_pos hq] at ep
        (repeat (first | (show W _ _ _ _ _ _ (.code (cond _ _ _) :: _) _ _; first | refine W.ct ?_ | refine W.cf ?_) | (show W _ _ _ _ _ _ (.ins (cond _ _ _ :: _) :: _) _ _; first | refine W.gt ?_ | refine W.gf ?_) | (show W _ _ _ _ _ _ [] _ _; refine W.of (.done ?_)) | (apply W.of; constructor <;> first | (show W _ _ _ _ _ _ _ _ _) | (intro (al : Nat) h st; show W _ _ _ _ _ _ _ _ _) | (intro _ h st; show W _ _ _ _ _ _ _ _ _) | exact Sd)))
        refine W.ef (ho := e_yieldS progI_mono (hy _ _ _ _ (usedP_split hx hq)) st Pks) (w := ?_)
        rintro vv h ⟨_, (⟨rfl, rfl⟩ | ⟨rfl, rfl⟩), st⟩
        · refine nj ?_
          dsimp only [List.cons_append, List.nil_append] at st
          (repeat (first | (show W _ _ _ _ _ _ (.code (cond _ _ _) :: _) _ _; first | refine W.ct ?_ | refine W.cf ?_) | (show W _ _ _ _ _ _ (.ins (cond _ _ _ :: _) :: _) _ _; first | refine W.gt ?_ | refine W.gf ?_) | (show W _ _ _ _ _ _ [] _ _; refine W.of (.done ?_)) | (apply W.of; constructor <;> first | (show W _ _ _ _ _ _ _ _ _) | (intro (al : Nat) h st; show W _ _ _ _ _ _ _ _ _) | (intro _ h st; show W _ _ _ _ _ _ _ _ _) | exact Sd)))
          rw [← ep] at st
          refine W.of (.lp ?_)
          exact ⟨i + 1, by omega, hlt, Sbs, st.sel Sels⟩
        · refine nj ?_
          dsimp only [List.cons_append, List.nil_append] at st
          (repeat (first | (show W _ _ _ _ _ _ (.code (cond _ _ _) :: _) _ _; first | refine W.ct ?_ | refine W.cf ?_) | (show W _ _ _ _ _ _ (.ins (cond _ _ _ :: _) :: _) _ _; first | refine W.gt ?_ | refine W.gf ?_) | (show W _ _ _ _ _ _ [] _ _; refine W.of (.done ?_)) | (apply W.of; constructor <;> first | (show W _ _ _ _ _ _ _ _ _) | (intro (al : Nat) h st; show W _ _ _ _ _ _ _ _ _) | (intro _ h st; show W _ _ _ _ _ _ _ _ _) | exact Sd)))
          exact ⟨_, rfl, _, ⟨_, rfl, .inr rfl⟩, st.sel Sels⟩
      · rw [if_neg hq, List.append_nil] at ep
        (repeat (first | (show W _ _ _ _ _ _ (.code (cond _ _ _) :: _) _ _; first | refine W.ct ?_ | refine W.cf ?_) | (show W _ _ _ _ _ _ (.ins (cond _ _ _ :: _) :: _) _ _; first | refine W.gt ?_ | refine W.gf ?_) | (show W _ _ _ _ _ _ [] _ _; refine W.of (.done ?_)) | (apply W.of; constructor <;> first | (show W _ _ _ _ _ _ _ _ _) | (intro (al : Nat) h st; show W _ _ _ _ _ _ _ _ _) | (intro _ h st; show W _ _ _ _ _ _ _ _ _) | exact Sd)))
        rw [← ep] at st
        refine W.of (.lp ?_)
        exact ⟨i + 1, by omega, hlt, Sbs, st.sel Sels⟩
    · have e : i = a.an.length := by omega
      subst e
      rw [List.take_length] at st
      (repeat (first | (show W _ _ _ _ _ _ (.code (cond _ _ _) :: _) _ _; first | refine W.ct ?_ | refine W.cf ?_) | (show W _ _ _ _ _ _ (.ins (cond _ _ _ :: _) :: _) _ _; first | refine W.gt ?_ | refine W.gf ?_) | (show W _ _ _ _ _ _ [] _ _; refine W.of (.done ?_)) | (apply W.of; constructor <;> first | (show W _ _ _ _ _ _ _ _ _) | (intro (al : Nat) h st; show W _ _ _ _ _ _ _ _ _) | (intro _ h st; show W _ _ _ _ _ _ _ _ _) | exact Sd)))
      exact ⟨_, rfl, _, ⟨_, rfl, .inl rfl⟩, st.sel Sels⟩
/-- all numbers -/
def idsZ (o : Int) (zs : List (Option AmV)) : List Int :=
  match zs with
  | [] => []
  | some _ :: r => o :: idsZ (o + 1) r
  | none :: r => idsZ (o + 1) r
def oneI (z : Option AmV) (n : Int) : List Int := match z with | some _ => [n] | none => []
theorem idsZ_snoc : ∀ {zs : List (Option AmV)} {o : Int} {z : Option AmV}, idsZ o (zs ++ [z]) = idsZ o zs ++ oneI z (o + zs.length)
  | [], o, z => by cases z <;> simp [idsZ, oneI]
  | some b :: r, o, z => by
    simp only [List.cons_append, idsZ, List.length_cons]
    rw [idsZ_snoc (zs := r), show o + 1 + (r.length : Int) = o + ((r.length + 1 : Nat) : Int) by omega]
  | none :: r, o, z => by
    simp only [List.cons_append, idsZ, List.length_cons]
    rw [idsZ_snoc (zs := r), show o + 1 + (r.length : Int) = o + ((r.length + 1 : Nat) : Int) by omega]
theorem idsZ_len : ∀ {zs : List (Option AmV)} {o : Int}, (idsZ o zs).length = cntZ zs
  | [], _ => rfl
  | some b :: r, o => by simp only [idsZ, List.length_cons, idsZ_len (zs := r)]; rfl
  | none :: r, o => by simp only [idsZ, idsZ_len (zs := r)]; rfl
structure IdS where
  i : Nat
  ov : AV
theorem po_Ids : Spec R (.f n_amap_Pool_Ids) [.ptr P 0] [PoC P most zs] fun v Rs => v.notJunk = some v ∧ sliceLen v = some (idsZ 1 zs).length ∧ Rs = [VsC v 3 ((idsZ 1 zs).map ikey) true, PoC P most zs] := by
  refine spec_w (fun _ _ _ x => progI_call rfl rfl x) Njs rfl (fun h F st => ?_); dsimp only [List.cons_append, List.nil_append] at st
  (repeat (first | (show W _ _ _ _ _ _ (.code (cond _ _ _) :: _) _ _; first | refine W.ct ?_ | refine W.cf ?_) | (show W _ _ _ _ _ _ (.ins (cond _ _ _ :: _) :: _) _ _; first | refine W.gt ?_ | refine W.gf ?_) | (show W _ _ _ _ _ _ [] _ _; refine W.of (.done ?_)) | (apply W.of; constructor <;> first | (show W _ _ _ _ _ _ _ _ _) | (intro (al : Nat) h st; show W _ _ _ _ _ _ _ _ _) | (intro _ h st; show W _ _ _ _ _ _ _ _ _) | exact Sd))); refine W.call (hs := po_made) (w := ?_); rintro vv _ ⟨rfl, rfl⟩ h st; refine nj ?_; dsimp only [List.cons_append, List.nil_append] at st
  obtain ⟨_, ⟨sv, rfl, hpo⟩, st⟩ := St.unpack st; dsimp only [List.cons_append, List.nil_append] at st
  have hm := hpo.m
  have hl := hpo.l
  obtain ⟨sl, sj, ss⟩ := St.vs (v := sv) (l := zs.map zptr) st Tk
  rw [List.length_map] at sl
  (repeat (first | (show W _ _ _ _ _ _ (.code (cond _ _ _) :: _) _ _; first | refine W.ct ?_ | refine W.cf ?_) | (show W _ _ _ _ _ _ (.ins (cond _ _ _ :: _) :: _) _ _; first | refine W.gt ?_ | refine W.gf ?_) | (show W _ _ _ _ _ _ [] _ _; refine W.of (.done ?_)) | (apply W.of; constructor <;> first | (show W _ _ _ _ _ _ _ _ _) | (intro (al : Nat) h st; show W _ _ _ _ _ _ _ _ _) | (intro _ h st; show W _ _ _ _ _ _ _ _ _) | exact Sd)))
  refine W.loop (fun y : IdS => [(3, y.ov), (12, sv), (13, .int .i64 zs.length), (14, .int .i64 y.i)]) (fun y => VsC y.ov 3 ((idsZ 1 (zs.take y.i)).map ikey) true :: .pt P (poolRow most sv (cntZ zs)) :: VsC sv 177 (zs.map zptr) true :: SepC (.ptr P 0) zG zs :: F)
    (fun y => y.i ≤ zs.length) (fun y => zs.length - y.i) ⟨0, .nilsl⟩ (small_rounds (by simp only; omega)) Sbs ?_ (Nat.zero_le _) ?_
  · have st := st.vsNil 3 true
    exact st.sel Sels
  clear st
  intro ⟨i, ov⟩ h hi st
  dsimp only at hi st ⊢
  obtain ⟨ol, oj, oo⟩ := St.ivs (v := ov) (cs := idsZ 1 (zs.take i)) st Tk
  have hol : (idsZ 1 (zs.take i)).length ≤ 4096 := by rw [idsZ_len]; have := cntZ_le (zs := zs.take i); rw [List.length_take] at this; omega
  by_cases hlt : i < zs.length
  · obtain ⟨z, hz⟩ : ∃ z, zs[i]? = some z := ⟨zs[i], by simp [hlt]⟩
    have znj := zptr_nj z
    have zok := zptr_ok z
    have ep : idsZ 1 (zs.take (i + 1)) = idsZ 1 (zs.take i) ++ oneI z ((1 : Int) + i) := by
      rw [take_snoc1 hz, idsZ_snoc, List.length_take, Nat.min_eq_left (by omega)]
    obtain ⟨gp, gq⟩ := d_vsIdx (v := sv) (l := zs.map zptr) (i := i) (kk := .i64) st Tk (by rw [List.length_map]; omega)
    (repeat (first | (show W _ _ _ _ _ _ (.code (cond _ _ _) :: _) _ _; first | refine W.ct ?_ | refine W.cf ?_) | (show W _ _ _ _ _ _ (.ins (cond _ _ _ :: _) :: _) _ _; first | refine W.gt ?_ | refine W.gf ?_) | (show W _ _ _ _ _ _ [] _ _; refine W.of (.done ?_)) | (apply W.of; constructor <;> first | (show W _ _ _ _ _ _ _ _ _) | (intro (al : Nat) h st; show W _ _ _ _ _ _ _ _ _) | (intro _ h st; show W _ _ _ _ _ _ _ _ _) | exact Sd))); refine W.do (ho := gp) (w := ?_)
    (repeat (first | (show W _ _ _ _ _ _ (.code (cond _ _ _) :: _) _ _; first | refine W.ct ?_ | refine W.cf ?_) | (show W _ _ _ _ _ _ (.ins (cond _ _ _ :: _) :: _) _ _; first | refine W.gt ?_ | refine W.gf ?_) | (show W _ _ _ _ _ _ [] _ _; refine W.of (.done ?_)) | (apply W.of; constructor <;> first | (show W _ _ _ _ _ _ _ _ _) | (intro (al : Nat) h st; show W _ _ _ _ _ _ _ _ _) | (intro _ h st; show W _ _ _ _ _ _ _ _ _) | exact Sd))); refine W.do (ho := (d_vsLoad (v := sv) (l := zs.map zptr) (x := zptr z) st Tk (by rw [List.getElem?_map, hz]; rfl))) (w := ?_)
    cases z with
    | none =>
      dsimp only [zptr, oneI] at ep ⊢
      rw [List.append_nil] at ep
      (repeat (first | (show W _ _ _ _ _ _ (.code (cond _ _ _) :: _) _ _; first | refine W.ct ?_ | refine W.cf ?_) | (show W _ _ _ _ _ _ (.ins (cond _ _ _ :: _) :: _) _ _; first | refine W.gt ?_ | refine W.gf ?_) | (show W _ _ _ _ _ _ [] _ _; refine W.of (.done ?_)) | (apply W.of; constructor <;> first | (show W _ _ _ _ _ _ _ _ _) | (intro (al : Nat) h st; show W _ _ _ _ _ _ _ _ _) | (intro _ h st; show W _ _ _ _ _ _ _ _ _) | exact Sd)))
      rw [← ep] at st
      refine W.of (.lp ?_)
      exact ⟨⟨i + 1, ov⟩, by simp only; omega, hlt, Sbs, st.sel Sels⟩
    | some b =>
      dsimp only [zptr, oneI] at ep ⊢
      (repeat (first | (show W _ _ _ _ _ _ (.code (cond _ _ _) :: _) _ _; first | refine W.ct ?_ | refine W.cf ?_) | (show W _ _ _ _ _ _ (.ins (cond _ _ _ :: _) :: _) _ _; first | refine W.gt ?_ | refine W.gf ?_) | (show W _ _ _ _ _ _ [] _ _; refine W.of (.done ?_)) | (apply W.of; constructor <;> first | (show W _ _ _ _ _ _ _ _ _) | (intro (al : Nat) h st; show W _ _ _ _ _ _ _ _ _) | (intro _ h st; show W _ _ _ _ _ _ _ _ _) | exact Sd)))
      have st := St.vsRow (l := [.int .i64 ((i : Int) + 1)]) (e := 3) st Tk rfl
      (repeat (first | (show W _ _ _ _ _ _ (.code (cond _ _ _) :: _) _ _; first | refine W.ct ?_ | refine W.cf ?_) | (show W _ _ _ _ _ _ (.ins (cond _ _ _ :: _) :: _) _ _; first | refine W.gt ?_ | refine W.gf ?_) | (show W _ _ _ _ _ _ [] _ _; refine W.of (.done ?_)) | (apply W.of; constructor <;> first | (show W _ _ _ _ _ _ _ _ _) | (intro (al : Nat) h st; show W _ _ _ _ _ _ _ _ _) | (intro _ h st; show W _ _ _ _ _ _ _ _ _) | exact Sd))); refine W.ef (ho := (e_vsAppend (s := ov) (l' := [.int .i64 ((i : Int) + 1)]) st Tk Tk (by simp; omega) (by simp; omega))) (w := ?_); rintro vv h ⟨cj, cl, st⟩; refine nj ?_
      rw [show (idsZ 1 (zs.take i)).map ikey ++ [.int .i64 ((i : Int) + 1)] = (idsZ 1 (zs.take (i + 1))).map ikey by rw [ep, List.map_append, Int.add_comm]; rfl] at st
      (repeat (first | (show W _ _ _ _ _ _ (.code (cond _ _ _) :: _) _ _; first | refine W.ct ?_ | refine W.cf ?_) | (show W _ _ _ _ _ _ (.ins (cond _ _ _ :: _) :: _) _ _; first | refine W.gt ?_ | refine W.gf ?_) | (show W _ _ _ _ _ _ [] _ _; refine W.of (.done ?_)) | (apply W.of; constructor <;> first | (show W _ _ _ _ _ _ _ _ _) | (intro (al : Nat) h st; show W _ _ _ _ _ _ _ _ _) | (intro _ h st; show W _ _ _ _ _ _ _ _ _) | exact Sd)))
      refine W.of (.lp ?_)
      exact ⟨⟨i + 1, vv⟩, by simp only; omega, hlt, Sbs, st.sel Sels⟩
  · have e : i = zs.length := by omega
    subst e
    rw [List.take_length] at st ol
    (repeat (first | (show W _ _ _ _ _ _ (.code (cond _ _ _) :: _) _ _; first | refine W.ct ?_ | refine W.cf ?_) | (show W _ _ _ _ _ _ (.ins (cond _ _ _ :: _) :: _) _ _; first | refine W.gt ?_ | refine W.gf ?_) | (show W _ _ _ _ _ _ [] _ _; refine W.of (.done ?_)) | (apply W.of; constructor <;> first | (show W _ _ _ _ _ _ _ _ _) | (intro (al : Nat) h st; show W _ _ _ _ _ _ _ _ _) | (intro _ h st; show W _ _ _ _ _ _ _ _ _) | exact Sd)))
    have st := St.packP (t := 41) (k := .ptr P 0) (P := PoIs P most zs) (cs := [.pt P (poolRow most sv (cntZ zs)), VsC sv 177 (zs.map zptr) true, SepC (.ptr P 0) zG zs]) st ⟨sv, rfl, hpo⟩ Pks
    exact ⟨_, rfl, _, ⟨oj, ol, rfl⟩, st.sel Sels⟩
end Go.Proofs.Ytjdemlagmamlbaa

namespace Go.Proofs.Ytjdemlagmamlbaa
/-- is there enough? -/
def fullU (look : Int) (acc : List Int) : Prop := 0 ≤ look ∧ IntKind.i64.wrap (2 * look) ≤ acc.length
instance {look : Int} {acc : List Int} : Decidable (fullU look acc) := inferInstanceAs (Decidable (_ ∧ _))
def takeU (look : Int) (acc : List Int) (l : List (Int × Int)) : List Int := l.foldl (fun acc p => if fullU look acc then acc else acc ++ [p.1, p.2]) acc
theorem takeU_full {look : Int} {acc : List Int} (h : fullU look acc) : ∀ {l : List (Int × Int)}, takeU look acc l = acc
  | [] => rfl
  | p :: l => by
    show takeU look (if fullU look acc then acc else _) l = acc
    rw [if_pos h, takeU_full h]
theorem takeU_append {look : Int} {acc : List Int} {a b : List (Int × Int)} : takeU look acc (a ++ b) = takeU look (takeU look acc a) b := List.foldl_append ..
theorem takeU_one {look : Int} {acc : List Int} {i x : Int} (h : ¬ fullU look acc) : takeU look acc [(i, x)] = acc ++ [i, x] := by
  show (if fullU look acc then acc else _) = _
  rw [if_neg h]
theorem takeU_len {look : Int} : ∀ {l : List (Int × Int)} {acc : List Int}, (takeU look acc l).length ≤ acc.length + 2 * l.length
  | [], acc => Nat.le_refl _
  | p :: l, acc => by
    show (takeU look (if fullU look acc then acc else acc ++ [p.1, p.2]) l).length ≤ _
    have := takeU_len (look := look) (l := l) (acc := if fullU look acc then acc else acc ++ [p.1, p.2])
    simp only [List.length_cons]
    split at this
    · rw [if_pos ‹_›]; omega
    · rw [if_neg ‹_›]; simp only [List.length_append, List.length_cons, List.length_nil] at this; omega
abbrev usLp (I B X : Nat) (f : AV) (st : LoopState) (j : Option AExit) : Chunk := LpC I st j [(5, .ptr B 0), (8, .ptr X 0), (17, f)] c_law13_used.ntmps [18, 19] c_law13_used_A0 c_law13_used_B0
abbrev sCell (v : AV) : AObj := .row 77 1 false false (.vals [v])
variable {P most : Nat} {zs : List (Option AmV)}
set_option maxRecDepth 4000 in
theorem us_round {I B X : Nat} {f v : AV} {look i x : Int} {acc : List Int} (hl : acc.length ≤ 100000) : Spec R (.y I) [.int .i64 i, .int .i64 x] [usLp I B X f .ready none, .pt B (ibox1 look), .pt X (sCell v), VsC v 3 (acc.map ikey) true] fun r Rs =>
    (¬ fullU look acc ∧ r = .bool true ∧ ∃ v', Rs = [usLp I B X f .ready none, .pt B (ibox1 look), .pt X (sCell v'), VsC v' 3 ((acc ++ [i, x]).map ikey) true]) ∨
    (fullU look acc ∧ r = .bool false ∧ Rs = [usLp I B X f .done (some (.exit 0)), .pt B (ibox1 look), .pt X (sCell v), VsC v 3 (acc.map ikey) true]) := by
  refine spec_round (A := [.pt B (ibox1 look), .pt X (sCell v), VsC v 3 (acc.map ikey) true]) Njs rfl rfl (fun h F st => ?_)
  dsimp only [List.cons_append, List.nil_append] at st
  obtain ⟨vl, vj, vs⟩ := St.ivs (v := v) (cs := acc) st Tk
  (repeat (first | (show W _ _ _ _ _ _ (.code (cond _ _ _) :: _) _ _; first | refine W.ct ?_ | refine W.cf ?_) | (show W _ _ _ _ _ _ (.ins (cond _ _ _ :: _) :: _) _ _; first | refine W.gt ?_ | refine W.gf ?_) | (show W _ _ _ _ _ _ [] _ _; refine W.of (.done ?_)) | (apply W.of; constructor <;> first | (show W _ _ _ _ _ _ _ _ _) | (intro (al : Nat) h st; show W _ _ _ _ _ _ _ _ _) | (intro _ h st; show W _ _ _ _ _ _ _ _ _) | exact Sd)))
  refine ⟨rfl, none, _, st.take (c := usLp I B X f .ready none) Tk, fun h st => ?_⟩
  by_cases h0 : 0 ≤ look
  · by_cases h1 : IntKind.i64.wrap (2 * look) ≤ acc.length
    · (repeat (first | (show W _ _ _ _ _ _ (.code (cond _ _ _) :: _) _ _; first | refine W.ct ?_ | refine W.cf ?_) | (show W _ _ _ _ _ _ (.ins (cond _ _ _ :: _) :: _) _ _; first | refine W.gt ?_ | refine W.gf ?_) | (show W _ _ _ _ _ _ [] _ _; refine W.of (.done ?_)) | (apply W.of; constructor <;> first | (show W _ _ _ _ _ _ _ _ _) | (intro (al : Nat) h st; show W _ _ _ _ _ _ _ _ _) | (intro _ h st; show W _ _ _ _ _ _ _ _ _) | exact Sd)))
      exact ⟨_, _, [.pt B (ibox1 look), .pt X (sCell v), VsC v 3 (acc.map ikey) true], st.sel Sels, .inr ⟨⟨h0, h1⟩, rfl, rfl⟩⟩
    · (repeat (first | (show W _ _ _ _ _ _ (.code (cond _ _ _) :: _) _ _; first | refine W.ct ?_ | refine W.cf ?_) | (show W _ _ _ _ _ _ (.ins (cond _ _ _ :: _) :: _) _ _; first | refine W.gt ?_ | refine W.gf ?_) | (show W _ _ _ _ _ _ [] _ _; refine W.of (.done ?_)) | (apply W.of; constructor <;> first | (show W _ _ _ _ _ _ _ _ _) | (intro (al : Nat) h st; show W _ _ _ _ _ _ _ _ _) | (intro _ h st; show W _ _ _ _ _ _ _ _ _) | exact Sd)))
      have st := St.vsRow (l := [.int .i64 i, .int .i64 x]) (e := 3) st Tk rfl
      (repeat (first | (show W _ _ _ _ _ _ (.code (cond _ _ _) :: _) _ _; first | refine W.ct ?_ | refine W.cf ?_) | (show W _ _ _ _ _ _ (.ins (cond _ _ _ :: _) :: _) _ _; first | refine W.gt ?_ | refine W.gf ?_) | (show W _ _ _ _ _ _ [] _ _; refine W.of (.done ?_)) | (apply W.of; constructor <;> first | (show W _ _ _ _ _ _ _ _ _) | (intro (al : Nat) h st; show W _ _ _ _ _ _ _ _ _) | (intro _ h st; show W _ _ _ _ _ _ _ _ _) | exact Sd))); refine W.ef (ho := (e_vsAppend (s := v) (l := acc.map ikey) (l' := [.int .i64 i, .int .i64 x]) st Tk Tk (by simp; omega) (by simp; omega))) (w := ?_); rintro vv h ⟨cj, cl, st⟩; refine nj ?_
      obtain ⟨v2, rfl⟩ : ∃ y, y = vv := ⟨_, rfl⟩
      rw [show acc.map ikey ++ [.int .i64 i, .int .i64 x] = (acc ++ [i, x]).map ikey by rw [List.map_append]; rfl] at st
      (repeat (first | (show W _ _ _ _ _ _ (.code (cond _ _ _) :: _) _ _; first | refine W.ct ?_ | refine W.cf ?_) | (show W _ _ _ _ _ _ (.ins (cond _ _ _ :: _) :: _) _ _; first | refine W.gt ?_ | refine W.gf ?_) | (show W _ _ _ _ _ _ [] _ _; refine W.of (.done ?_)) | (apply W.of; constructor <;> first | (show W _ _ _ _ _ _ _ _ _) | (intro (al : Nat) h st; show W _ _ _ _ _ _ _ _ _) | (intro _ h st; show W _ _ _ _ _ _ _ _ _) | exact Sd))); refine W.ef0 (ho := (e_storeV (i := 0) st Tk rfl (by simp) (sl_dat cl))) (w := ?_); rintro _ h ⟨_, st⟩
      (repeat (first | (show W _ _ _ _ _ _ (.code (cond _ _ _) :: _) _ _; first | refine W.ct ?_ | refine W.cf ?_) | (show W _ _ _ _ _ _ (.ins (cond _ _ _ :: _) :: _) _ _; first | refine W.gt ?_ | refine W.gf ?_) | (show W _ _ _ _ _ _ [] _ _; refine W.of (.done ?_)) | (apply W.of; constructor <;> first | (show W _ _ _ _ _ _ _ _ _) | (intro (al : Nat) h st; show W _ _ _ _ _ _ _ _ _) | (intro _ h st; show W _ _ _ _ _ _ _ _ _) | exact Sd)))
      exact ⟨_, _, [.pt B (ibox1 look), .pt X (sCell v2), VsC v2 3 ((acc ++ [i, x]).map ikey) true], st.sel Sels, .inl ⟨fun hf => h1 hf.2, rfl, v2, rfl⟩⟩
  · (repeat (first | (show W _ _ _ _ _ _ (.code (cond _ _ _) :: _) _ _; first | refine W.ct ?_ | refine W.cf ?_) | (show W _ _ _ _ _ _ (.ins (cond _ _ _ :: _) :: _) _ _; first | refine W.gt ?_ | refine W.gf ?_) | (show W _ _ _ _ _ _ [] _ _; refine W.of (.done ?_)) | (apply W.of; constructor <;> first | (show W _ _ _ _ _ _ _ _ _) | (intro (al : Nat) h st; show W _ _ _ _ _ _ _ _ _) | (intro _ h st; show W _ _ _ _ _ _ _ _ _) | exact Sd)))
    have st := St.vsRow (l := [.int .i64 i, .int .i64 x]) (e := 3) st Tk rfl
    (repeat (first | (show W _ _ _ _ _ _ (.code (cond _ _ _) :: _) _ _; first | refine W.ct ?_ | refine W.cf ?_) | (show W _ _ _ _ _ _ (.ins (cond _ _ _ :: _) :: _) _ _; first | refine W.gt ?_ | refine W.gf ?_) | (show W _ _ _ _ _ _ [] _ _; refine W.of (.done ?_)) | (apply W.of; constructor <;> first | (show W _ _ _ _ _ _ _ _ _) | (intro (al : Nat) h st; show W _ _ _ _ _ _ _ _ _) | (intro _ h st; show W _ _ _ _ _ _ _ _ _) | exact Sd))); refine W.ef (ho := (e_vsAppend (s := v) (l := acc.map ikey) (l' := [.int .i64 i, .int .i64 x]) st Tk Tk (by simp; omega) (by simp; omega))) (w := ?_); rintro vv h ⟨cj, cl, st⟩; refine nj ?_
    obtain ⟨v2, rfl⟩ : ∃ y, y = vv := ⟨_, rfl⟩
    rw [show acc.map ikey ++ [.int .i64 i, .int .i64 x] = (acc ++ [i, x]).map ikey by rw [List.map_append]; rfl] at st
    (repeat (first | (show W _ _ _ _ _ _ (.code (cond _ _ _) :: _) _ _; first | refine W.ct ?_ | refine W.cf ?_) | (show W _ _ _ _ _ _ (.ins (cond _ _ _ :: _) :: _) _ _; first | refine W.gt ?_ | refine W.gf ?_) | (show W _ _ _ _ _ _ [] _ _; refine W.of (.done ?_)) | (apply W.of; constructor <;> first | (show W _ _ _ _ _ _ _ _ _) | (intro (al : Nat) h st; show W _ _ _ _ _ _ _ _ _) | (intro _ h st; show W _ _ _ _ _ _ _ _ _) | exact Sd))); refine W.ef0 (ho := (e_storeV (i := 0) st Tk rfl (by simp) (sl_dat cl))) (w := ?_); rintro _ h ⟨_, st⟩
    (repeat (first | (show W _ _ _ _ _ _ (.code (cond _ _ _) :: _) _ _; first | refine W.ct ?_ | refine W.cf ?_) | (show W _ _ _ _ _ _ (.ins (cond _ _ _ :: _) :: _) _ _; first | refine W.gt ?_ | refine W.gf ?_) | (show W _ _ _ _ _ _ [] _ _; refine W.of (.done ?_)) | (apply W.of; constructor <;> first | (show W _ _ _ _ _ _ _ _ _) | (intro (al : Nat) h st; show W _ _ _ _ _ _ _ _ _) | (intro _ h st; show W _ _ _ _ _ _ _ _ _) | exact Sd)))
    exact ⟨_, _, [.pt B (ibox1 look), .pt X (sCell v2), VsC v2 3 ((acc ++ [i, x]).map ikey) true], st.sel Sels, .inl ⟨fun hf => h0 hf.1, rfl, v2, rfl⟩⟩
/-- who asks on -/
def usCl (I B X : Nat) (f : AV) (look : Int) (pre : List (Int × Int)) (cs : List Chunk) : Prop := ∃ v, cs = [usLp I B X f .ready none, .pt B (ibox1 look), .pt X (sCell v), VsC v 3 ((takeU look [] pre).map ikey) true]
def usEr (I B X : Nat) (f : AV) (look : Int) (items : List (Int × Int)) (cs : List Chunk) : Prop := ∃ v, cs = [usLp I B X f .done (some (.exit 0)), .pt B (ibox1 look), .pt X (sCell v), VsC v 3 ((takeU look [] items).map ikey) true]
theorem us_asks {I B X : Nat} {f : AV} {look : Int} {items : List (Int × Int)} (hl : items.length ≤ 4096) : AsksU I items (usCl I B X f look) (usEr I B X f look items) := fun pre i x suf e => by
  have hpl : pre.length ≤ 4096 := by have := congrArg List.length e; simp at this; omega
  have htl := takeU_len (look := look) (l := pre) (acc := [])
  simp only [List.length_nil] at htl
  refine Spec.unpk fun cs ⟨v, e2⟩ => ?_
  subst e2
  rw [List.append_nil]
  refine (us_round (look := look) (i := i) (x := x) (acc := takeU look [] pre) (by omega)).conv progI_mono (fun _ _ st => st) fun r Rs h F hp st => ?_
  rcases hp with ⟨hf, rfl, v', rfl⟩ | ⟨hf, rfl, rfl⟩
  · refine ⟨_, .inl ⟨rfl, rfl⟩, St.pack (cs := [_, _, _, _]) st ⟨v', ?_⟩⟩
    rw [takeU_append, takeU_one hf]
  · refine ⟨_, .inr ⟨rfl, rfl⟩, St.pack (cs := [_, _, _, _]) st ⟨v, ?_⟩⟩
    rw [e, takeU_append, takeU_full hf]
theorem usedZ_len {zs : List (Option AmV)} {id : Int} (h : ∀ a, atZ zs id = some a → AmOk a) : (usedZ zs id).length ≤ 4096 := by
  unfold usedZ
  cases ha : atZ zs id with
  | none => simp
  | some a =>
    have hk := h a ha
    have := usedP_len (an := a.an) (o := 0)
    have := hk.len
    have := hk.n4
    dsimp only; omega
theorem St.poAt {h : AHeap} {L R : List Chunk} {id : Int} (st : St h L) (t : Take L (PoC P most zs) R) : ∀ a, atZ zs id = some a → AmOk a := fun a ha => by
  obtain ⟨_, _, hz⟩ := atZ_some ha
  exact (st.poOut t hz).am Tk
set_option maxRecDepth 8000 in
theorem law13_used {id look : Int} : Spec R (.f n_law13_used) [.ptr P 0, .int .i64 id, .int .i64 look] [PoC P most zs] fun v Rs => v.notJunk = some v ∧ sliceLen v = some (takeU look [] (usedZ zs id)).length ∧ Rs = [VsC v 3 ((takeU look [] (usedZ zs id)).map ikey) true, PoC P most zs] := by
  refine spec_in fun h F st => ?_
  have hul := usedZ_len (st.poAt Tk (id := id))
  clear st h F; refine spec_w (fun _ _ _ x => progI_call rfl rfl x) Njs rfl (fun h F st => ?_); dsimp only [List.cons_append, List.nil_append] at st
  (repeat (first | (show W _ _ _ _ _ _ (.code (cond _ _ _) :: _) _ _; first | refine W.ct ?_ | refine W.cf ?_) | (show W _ _ _ _ _ _ (.ins (cond _ _ _ :: _) :: _) _ _; first | refine W.gt ?_ | refine W.gf ?_) | (show W _ _ _ _ _ _ [] _ _; refine W.of (.done ?_)) | (apply W.of; constructor <;> first | (show W _ _ _ _ _ _ _ _ _) | (intro (al : Nat) h st; show W _ _ _ _ _ _ _ _ _) | (intro _ h st; show W _ _ _ _ _ _ _ _ _) | exact Sd)))
  obtain ⟨B, rfl⟩ : ∃ y, y = al := ⟨_, rfl⟩
  (repeat (first | (show W _ _ _ _ _ _ (.code (cond _ _ _) :: _) _ _; first | refine W.ct ?_ | refine W.cf ?_) | (show W _ _ _ _ _ _ (.ins (cond _ _ _ :: _) :: _) _ _; first | refine W.gt ?_ | refine W.gf ?_) | (show W _ _ _ _ _ _ [] _ _; refine W.of (.done ?_)) | (apply W.of; constructor <;> first | (show W _ _ _ _ _ _ _ _ _) | (intro (al : Nat) h st; show W _ _ _ _ _ _ _ _ _) | (intro _ h st; show W _ _ _ _ _ _ _ _ _) | exact Sd))); refine W.call (hs := (po_Used (p := .ptr P 0) rfl rfl)) (w := ?_); rintro vv _ ⟨b, c, rfl, rfl⟩ h st; refine nj ?_; dsimp only [List.cons_append, List.nil_append] at st
  (repeat (first | (show W _ _ _ _ _ _ (.code (cond _ _ _) :: _) _ _; first | refine W.ct ?_ | refine W.cf ?_) | (show W _ _ _ _ _ _ (.ins (cond _ _ _ :: _) :: _) _ _; first | refine W.gt ?_ | refine W.gf ?_) | (show W _ _ _ _ _ _ [] _ _; refine W.of (.done ?_)) | (apply W.of; constructor <;> first | (show W _ _ _ _ _ _ _ _ _) | (intro (al : Nat) h st; show W _ _ _ _ _ _ _ _ _) | (intro _ h st; show W _ _ _ _ _ _ _ _ _) | exact Sd)))
  obtain ⟨X, rfl⟩ : ∃ y, y = al := ⟨_, rfl⟩
  obtain ⟨f, hf⟩ : ∃ f : AV, f = .func n_amap_Pool_Used_1 [] [.ptr b 0, .ptr c 0] := ⟨_, rfl⟩
  refine W.sub (s' := [(5, .ptr B 0), (8, .ptr X 0), (17, .func n_amap_Pool_Used_1 [] [.ptr b 0, .ptr c 0])]) Sbs ?_
  refine W.rfun (Ps := [.pt b (poBox P), .pt c (ibox1 id), PoC P most zs, .pt B (ibox1 look), .pt X (sCell .nilsl)]) (post := fun j Cl => (j = none ∨ j = some (.exit 0)) ∧ ∃ v, Cl = [.pt X (sCell v), VsC v 3 ((takeU look [] (usedZ zs id)).map ikey) true, PoC P most zs]) rfl (fun _ e => (by cases e)) st Pks (fun I => ?_) (fun j Cl h' hp st => ?_)
  · rw [← hf]
    have hy := us_asks (I := I) (B := B) (X := X) (f := f) (look := look) hul
    refine (po_Used_1 (P := P) (most := most) (zs := zs) (id := id) (b := b) (c := c) hy).conv progI_mono (fun h F st => ?_) fun v Rs h F ⟨c', e, hc⟩ st => ?_
    · have st := st.vsNil 3 true
      exact (St.packP (t := 43) (k := .yield I) (P := usCl I B X f look []) (cs := [usLp I B X f .ready none, .pt B (ibox1 look), .pt X (sCell .nilsl), VsC .nilsl 3 [] true]) st ⟨.nilsl, rfl⟩ Pks).sel Sels
    · subst e
      rcases hc with rfl | rfl
      · obtain ⟨cs, ⟨v, rfl⟩, st⟩ := St.unpack st
        exact ⟨_, ⟨.ready, none, [.pt X (sCell v), VsC v 3 ((takeU look [] (usedZ zs id)).map ikey) true, PoC P most zs], rfl, by decide, .inl rfl, v, rfl⟩, st.sel Sels⟩
      · obtain ⟨cs, ⟨v, rfl⟩, st⟩ := St.unpack st
        exact ⟨_, ⟨.done, some (.exit 0), [.pt X (sCell v), VsC v 3 ((takeU look [] (usedZ zs id)).map ikey) true, PoC P most zs], rfl, by decide, .inr rfl, v, rfl⟩, st.sel Sels⟩
  · obtain ⟨hj, v, rfl⟩ := hp
    dsimp only [List.cons_append, List.nil_append] at st
    obtain ⟨vl, vj, vs⟩ := St.ivs (v := v) (cs := takeU look [] (usedZ zs id)) st Tk
    rcases hj with rfl | rfl
    · (repeat (first | (show W _ _ _ _ _ _ (.code (cond _ _ _) :: _) _ _; first | refine W.ct ?_ | refine W.cf ?_) | (show W _ _ _ _ _ _ (.ins (cond _ _ _ :: _) :: _) _ _; first | refine W.gt ?_ | refine W.gf ?_) | (show W _ _ _ _ _ _ [] _ _; refine W.of (.done ?_)) | (apply W.of; constructor <;> first | (show W _ _ _ _ _ _ _ _ _) | (intro (al : Nat) h st; show W _ _ _ _ _ _ _ _ _) | (intro _ h st; show W _ _ _ _ _ _ _ _ _) | exact Sd)))
      exact ⟨_, rfl, _, ⟨vj, vl, rfl⟩, st.sel Sels⟩
    · (repeat (first | (show W _ _ _ _ _ _ (.code (cond _ _ _) :: _) _ _; first | refine W.ct ?_ | refine W.cf ?_) | (show W _ _ _ _ _ _ (.ins (cond _ _ _ :: _) :: _) _ _; first | refine W.gt ?_ | refine W.gf ?_) | (show W _ _ _ _ _ _ [] _ _; refine W.of (.done ?_)) | (apply W.of; constructor <;> first | (show W _ _ _ _ _ _ _ _ _) | (intro (al : Nat) h st; show W _ _ _ _ _ _ _ _ _) | (intro _ h st; show W _ _ _ _ _ _ _ _ _) | exact Sd)))
      exact ⟨_, rfl, _, ⟨vj, vl, rfl⟩, st.sel Sels⟩
end Go.Proofs.Ytjdemlagmamlbaa

namespace Go.Proofs.Ytjdemlagmamlbaa
section
variable {C : SemW} {h : AHeap} {L R : List Chunk} {v : AV} {e k : Nat}
/-- l[a:b] -/
theorem d_midW {a b : Nat} {l : List AV} {kk : IntKind} (hab : a ≤ b) (hb : b ≤ k) (st : St h L) (t : Take L (SlC v e 1 k (.vals l) true) R) :
    ∃ p, Does (.slice 1 true true false) [v, .int kk a, .int kk b] h p h ∧ p.notJunk = some p ∧ okSame p = true ∧ ∀ h' L' R', St h' L' → Take L' (SlC v e 1 k (.vals l) true) R' → Vw h' p 1 (b - a) (.vals ((l.drop a).take (b - a))) := by
  have key : ∃ p, Does (.slice 1 true true false) [v, .int kk a, .int kk b] h p h ∧ p.notJunk = some p ∧ okSame p = true ∧ ∀ h', (∃ cs L', SlIs v e 1 k (.vals l) true cs ∧ St h' (cs ++ L')) → Vw h' p 1 (b - a) (.vals ((l.drop a).take (b - a))) := by
    obtain ⟨cs, y, st'⟩ := (st.take t).unpack
    have hbd : ∀ cap : Nat, k ≤ cap → bounds3 k cap true true false [.int kk a, .int kk b] = some (a, b, cap) := fun cap hc => by
      simp only [bounds3]; rw [if_pos (by omega)]; simp
    rcases y with ⟨rfl, rfl, _⟩ | ⟨_, _, _, _, hw⟩ | ⟨id, off, cap, D, e', es', sf, rfl, rfl, h3, hc', hw⟩ | ⟨id, idx, D, rfl, rfl, h3, hw, hfl⟩
    · have e1 : a = 0 := by omega
      have e2 : b = 0 := by omega
      subst e1 e2
      exact ⟨.nilsl, ⟨rfl, rfl⟩, rfl, rfl, fun h' _ => ⟨rfl, .vals [], rfl, fun h => absurd rfl h, by simp [Dat.len]⟩⟩
    · cases hw
    · refine ⟨.sl id (if cap = a then off else off + a * 1) (b - a) (cap - a), ⟨rfl, ?_⟩, rfl, rfl, ?_⟩
      · simp only [aop, hbd cap hc', Option.map_some]
      · rintro h' ⟨cs, L', y, st2⟩
        rcases y with ⟨e, _⟩ | ⟨e, _⟩ | ⟨id2, off2, cap2, D2, _, _, _, e, rfl, g3, _, _⟩ | ⟨_, _, _, e, _⟩
        · cases e
        · cases e
        · cases e
          obtain ⟨c, rfl, p1, p2⟩ := vals_of_take g3
          have hlen : l.length = k * 1 := by have := (Dat.take_spec g3).1; simpa [Dat.len] using this
          by_cases hca : cap = a
          · rw [if_pos hca]
            have hk0 : b - a = 0 := by omega
            have := take_at (i := 0) (m := 0) g3 (by omega)
            rw [Nat.add_zero] at this
            refine ⟨rfl, _, by simp only [sliceDat, st2.get, hk0, Nat.zero_mul]; exact this, fun h => absurd hk0 h, by rw [hk0, Nat.zero_mul]; exact (Dat.take_spec this).1⟩
          · rw [if_neg hca]
            have := take_at (i := a * 1) (m := (b - a) * 1) g3 (by omega)
            exact ⟨rfl, .vals ((l.drop a).take (b - a)), by simp only [sliceDat, st2.get]; rw [this]; simp, fun _ => rfl, by simp [Dat.len]; omega⟩
        · cases e
    · have hbd2 := hbd k (Nat.le_refl _)
      by_cases h0 : a < k ∨ a = 0
      · refine ⟨.ssl id (idx + a) 1 (b - a), ⟨rfl, ?_⟩, rfl, rfl, ?_⟩
        · simp only [aop, hbd2, Option.bind_some, if_true]; rw [if_pos h0]
        · rintro h' ⟨cs, L', y, st2⟩
          rcases y with ⟨e, _⟩ | ⟨e, _⟩ | ⟨_, _, _, _, _, _, _, e, _⟩ | ⟨id2, idx2, D2, e, rfl, g3, _, _⟩
          · cases e
          · cases e
          · cases e
          · cases e
            obtain ⟨c, rfl, p1, p2⟩ := vals_of_take g3
            have hlen : l.length = k * 1 := by have := (Dat.take_spec g3).1; simpa [Dat.len] using this
            have := take_at (i := a * 1) (m := (b - a) * 1) g3 (by omega)
            rw [← Nat.add_mul] at this
            exact ⟨rfl, .vals ((l.drop a).take (b - a)), by simp only [sliceDat, st2.get, if_true]; rw [this]; simp, fun _ => rfl, by simp [Dat.len]; omega⟩
      · have hka : b - a = 0 := by omega
        refine ⟨.esl, ⟨rfl, ?_⟩, rfl, rfl, ?_⟩
        · simp only [aop, hbd2, Option.bind_some, if_true]; rw [if_neg h0]
        · rintro h' _
          exact ⟨by rw [hka]; rfl, .vals [], rfl, fun h => absurd hka h, by rw [hka]; simp [Dat.len]⟩
  obtain ⟨p, h1, h2, h3, h4⟩ := key
  refine ⟨p, h1, h2, h3, fun h' L' R' st' t' => ?_⟩
  obtain ⟨cs, y, st2⟩ := (st'.take t').unpack
  exact h4 h' ⟨cs, _, y, st2⟩
theorem put_all {c l' : List AV} {off n : Nat} (hl : off + n ≤ c.length) (h' : l'.length = n) : Dat.put (.vals c) off (.vals l') = some (.vals (c.take off ++ l' ++ c.drop (off + n))) ∧ ((c.take off ++ l' ++ c.drop (off + n)).drop off).take n = l' ∧ (c.take off ++ l' ++ c.drop (off + n)).length = c.length := by
  refine ⟨?_, ?_, ?_⟩
  · simp only [Dat.put, h']
    rw [if_pos hl]
  · rw [List.append_assoc, List.drop_append_of_le_length (by rw [List.length_take]; omega), List.drop_of_length_le (by rw [List.length_take]; omega), List.nil_append, List.take_append_of_le_length (by omega), List.take_of_length_le (by omega)]
  · simp only [List.length_append, List.length_take, List.length_drop, h']; omega
/-- a whole list of values is copied over -/
theorem e_copyV {l l' : List AV} {p : AV} (st : St h L) (t : Take L (VsC v e l true) R) (hv : Vw h p 1 l.length (.vals l')) (hl' : l'.length = l.length) :
    Eff C (.copy 1) [v, p] h fun q h' => q = .int .i64 l.length ∧ St h' (VsC v e l' true :: R) := .mk (by
  obtain ⟨d0, q1, q2, q3⟩ := hv.dat
  have hvl := hv.len
  obtain ⟨cs, y, st'⟩ := (st.take t).unpack
  have hl := y.len
  by_cases hz : l.length = 0
  · have e1 : l = [] := List.eq_nil_of_length_eq_zero hz
    have e2 : l' = [] := List.eq_nil_of_length_eq_zero (by omega)
    subst e1 e2
    refine Does.do (v := .int .i64 0) (h1 := h) ⟨rfl, ?_⟩ ⟨rfl, St.pack st' y⟩
    simp only [aop, hl, hvl, Nat.min_self, List.length_nil, if_true]
  · rw [q2 hz] at q1
    have hsrc : Dat.take (.vals l') 0 (l.length * 1) = some (.vals l') := by
      rw [Nat.mul_one, vals_take (by omega), List.take_of_length_le (by omega)]
    rcases y with ⟨rfl, h0, _⟩ | ⟨rfl, h0, _⟩ | ⟨id, off, cap, D, e', es', sf, rfl, rfl, h3, h4, h5⟩ | ⟨id, idx, D, rfl, rfl, h3, h4, h5⟩
    · omega
    · omega
    · rw [Nat.mul_one] at h3
      obtain ⟨c, rfl, p1, p2⟩ := vals_of_take h3
      obtain ⟨r1, r2, r3⟩ := put_all (l' := l') p1 hl'
      refine Does.do (v := .int .i64 l.length) (h1 := h.put id (.row e' es' sf false (.vals (c.take off ++ l' ++ c.drop (off + l.length))))) ⟨rfl, ?_⟩ ⟨rfl, St.pack (cs := [.pt id (.row e' es' sf false (.vals (c.take off ++ l' ++ c.drop (off + l.length))))]) (st'.put _) ?_⟩
      · simp only [aop, hl, hvl, Nat.min_self, if_neg hz, q1, hsrc, Option.bind_some, st'.get, Bool.not_true, r1, Option.map_some]
      · rw [hl']
        refine .inr (.inr (.inl ⟨id, off, cap, _, e', es', sf, rfl, rfl, ?_, h4, fun q => by have := h5 q; simp only [Dat.len] at this ⊢; rw [r3]; exact this⟩))
        simp only [Dat.take, Nat.mul_one]
        rw [if_pos (by rw [r3]; exact p1), r2]
    · rw [Nat.mul_one l.length] at h3
      obtain ⟨c, rfl, p1, p2⟩ := vals_of_take h3
      obtain ⟨r1, r2, r3⟩ := put_all (l' := l') p1 hl'
      refine Does.do (v := .int .i64 l.length) (h1 := h.put id (.row e 1 true false (.vals (c.take (idx * 1) ++ l' ++ c.drop (idx * 1 + l.length))))) ⟨rfl, ?_⟩ ⟨rfl, St.pack (cs := [.pt id (.row e 1 true false (.vals (c.take (idx * 1) ++ l' ++ c.drop (idx * 1 + l.length))))]) (st'.put _) ?_⟩
      · simp only [aop, hl, hvl, Nat.min_self, if_neg hz, q1, hsrc, Option.bind_some, st'.get, if_true, r1, Option.map_some]
      · rw [hl']
        refine .inr (.inr (.inr ⟨id, idx, _, rfl, rfl, ?_, rfl, by simp only [Dat.len] at h5 ⊢; rw [r3]; exact h5⟩))
        simp only [Dat.take]
        rw [Nat.mul_one l.length, if_pos (by rw [r3]; exact p1), r2])
end
end Go.Proofs.Ytjdemlagmamlbaa

namespace Go.Proofs.Ytjdemlagmamlbaa
variable {P most : Nat} {zs : List (Option AmV)} {a b : AmV}
theorem put_at : (putZ zs b)[firstN zs]? = some (some b) := by
  have := firstN_le (zs := zs)
  unfold putZ
  split
  · rename_i h; simp [h]
  · rw [List.getElem?_append_right (by omega), show firstN zs - zs.length = 0 by omega]; rfl
theorem put_len : firstN zs < (putZ zs b).length := (List.getElem?_eq_some_iff.1 put_at).1
theorem atZ_put : atZ (putZ zs b) ((firstN zs : Int) + 1) = some b := by
  have := put_len (zs := zs) (b := b)
  rw [atZ, if_pos ⟨by omega, by omega⟩, show ((firstN zs : Int) + 1 - 1).toNat = firstN zs by omega, put_at]; rfl
theorem put_other {i : Nat} (h : zs[i]? = some (some a)) : i ≠ firstN zs ∧ (putZ zs b)[i]? = some (some a) := by
  have hlt := (List.getElem?_eq_some_iff.1 h).1
  have hn : i ≠ firstN zs := fun e => by
    have := firstN_at (zs := zs) (by omega)
    rw [← e, h] at this
    cases this
  refine ⟨hn, ?_⟩
  unfold putZ
  split
  · rw [List.getElem?_set_ne (by omega)]; exact h
  · rw [List.getElem?_append_left hlt]; exact h
theorem put_set {b' : AmV} : (putZ zs b).set (firstN zs) (some b') = putZ zs b' := by
  have := firstN_le (zs := zs)
  unfold putZ
  split
  · rw [List.set_set]
  · rw [List.set_append_right _ _ (by omega), show firstN zs - zs.length = 0 by omega]; rfl
/-- without what is at two numbers -/
def PoYIs (P most : Nat) (zs : List (Option AmV)) (q : Nat) (a : AmV) (cs : List Chunk) : Prop := ∃ sv r, cs = [.pt P (poolRow most sv (cntZ zs)), VsC sv 177 (zs.map zptr) true, SepC (.ptr P 0) zG ((zs.eraseIdx q).eraseIdx r)] ∧ PoOk most zs ∧ (zs.eraseIdx q)[r]? = some (some a)
abbrev PoYC (P most : Nat) (zs : List (Option AmV)) (q : Nat) (a : AmV) : Chunk := pk 45 (.ptr P 0) (PoYIs P most zs q a)
theorem St.poOut2 {h : AHeap} {L R : List Chunk} {i q : Nat} (st : St h L) (t : Take L (PoC P most zs) R) (hq : zs[q]? = some (some b)) (hi : zs[i]? = some (some a)) (hne : i ≠ q) : St h (AmC a :: AmC b :: PoYC P most zs q a :: R) := by
  have st1 := st.poOut t hq
  obtain ⟨cs, ⟨sv, rfl, hk⟩, st2⟩ := (st1.take (c := PoXC P most zs q) Tk).unpack
  obtain ⟨r, hr⟩ : ∃ r, (zs.eraseIdx q)[r]? = some (some a) := List.mem_iff_getElem?.1 (List.mem_eraseIdx_iff_getElem?.2 ⟨i, hne, hi⟩)
  have st3 : St h (AmC a :: SepC (.ptr P 0) zG ((zs.eraseIdx q).eraseIdx r) :: .pt P (poolRow most sv (cntZ zs)) :: VsC sv 177 (zs.map zptr) true :: AmC b :: R) := St.sepOut (G := zG) (a := some a) st2 Tk hr
  have st4 := St.packP (t := 45) (k := .ptr P 0) (P := PoYIs P most zs q a) (cs := [.pt P (poolRow most sv (cntZ zs)), VsC sv 177 (zs.map zptr) true, SepC (.ptr P 0) zG ((zs.eraseIdx q).eraseIdx r)]) st3 ⟨sv, r, rfl, hk, hr⟩ Pks
  exact st4.sel Sels
theorem St.poBack2 {h : AHeap} {L R R1 : List Chunk} {q : Nat} (st : St h L) (t : Take L (AmC a) R) (t' : Take R (PoYC P most zs q a) R1) : St h (PoXC P most zs q :: R1) := by
  have st1 := (st.take t).perm (List.Perm.cons _ t'.perm)
  have st2 : St h (PoYC P most zs q a :: AmC a :: R1) := st1.sel Sels
  obtain ⟨cs, ⟨sv, r, rfl, hk, hr⟩, st3⟩ := st2.unpack
  have st4 : St h (SepC (.ptr P 0) zG (zs.eraseIdx q) :: .pt P (poolRow most sv (cntZ zs)) :: VsC sv 177 (zs.map zptr) true :: R1) := St.sepBack (G := zG) (a := some a) (l := zs.eraseIdx q) (st3.sel Sels) hr
  exact St.pack (cs := [.pt P (poolRow most sv (cntZ zs)), VsC sv 177 (zs.map zptr) true, SepC (.ptr P 0) zG (zs.eraseIdx q)]) (st4.sel Sels) ⟨sv, rfl, hk⟩
theorem po_madeY {q : Nat} : Spec R (.f n_amap_Pool_made) [.ptr P 0] [PoYC P most zs q a] fun v Rs => v = .bool true ∧ Rs = [PoYC P most zs q a] := by
  refine spec_w (fun _ _ _ x => progI_call rfl rfl x) Njs rfl (fun h F st => ?_); dsimp only [List.cons_append, List.nil_append] at st
  obtain ⟨_, ⟨sv, r, rfl, hok, hr⟩, st⟩ := St.unpack st; dsimp only [List.cons_append, List.nil_append] at st
  (repeat (first | (show W _ _ _ _ _ _ (.code (cond _ _ _) :: _) _ _; first | refine W.ct ?_ | refine W.cf ?_) | (show W _ _ _ _ _ _ (.ins (cond _ _ _ :: _) :: _) _ _; first | refine W.gt ?_ | refine W.gf ?_) | (show W _ _ _ _ _ _ [] _ _; refine W.of (.done ?_)) | (apply W.of; constructor <;> first | (show W _ _ _ _ _ _ _ _ _) | (intro (al : Nat) h st; show W _ _ _ _ _ _ _ _ _) | (intro _ h st; show W _ _ _ _ _ _ _ _ _) | exact Sd)))
  exact ⟨_, rfl, _, ⟨rfl, rfl⟩, St.packP (cs := [_, _, _]) st ⟨sv, r, rfl, hok, hr⟩ Pks⟩
theorem po_ofY {q : Nat} {id : Int} : Spec R (.f n_amap_Pool_of) [.ptr P 0, .int .i64 id] [PoYC P most zs q a] fun v Rs => v = zptr (atZ zs id) ∧ Rs = [PoYC P most zs q a] := by
  refine spec_w (fun _ _ _ x => progI_call rfl rfl x) Njs rfl (fun h F st => ?_); dsimp only [List.cons_append, List.nil_append] at st
  (repeat (first | (show W _ _ _ _ _ _ (.code (cond _ _ _) :: _) _ _; first | refine W.ct ?_ | refine W.cf ?_) | (show W _ _ _ _ _ _ (.ins (cond _ _ _ :: _) :: _) _ _; first | refine W.gt ?_ | refine W.gf ?_) | (show W _ _ _ _ _ _ [] _ _; refine W.of (.done ?_)) | (apply W.of; constructor <;> first | (show W _ _ _ _ _ _ _ _ _) | (intro (al : Nat) h st; show W _ _ _ _ _ _ _ _ _) | (intro _ h st; show W _ _ _ _ _ _ _ _ _) | exact Sd))); refine W.call (hs := po_madeY) (w := ?_); rintro vv _ ⟨rfl, rfl⟩ h st; refine nj ?_; dsimp only [List.cons_append, List.nil_append] at st
  obtain ⟨_, ⟨sv, r, rfl, hok, hr⟩, st⟩ := St.unpack st; dsimp only [List.cons_append, List.nil_append] at st
  obtain ⟨sl, sj, ss⟩ := St.vs (v := sv) (l := zs.map zptr) st Tk
  rw [List.length_map] at sl
  have hl := hok.l
  have hm := hok.m
  by_cases h1 : 1 ≤ id
  · by_cases h2 : id ≤ zs.length
    · obtain ⟨i, rfl⟩ : ∃ i : Nat, id = (i : Int) + 1 := ⟨(id - 1).toNat, by omega⟩
      obtain ⟨gp, gq⟩ := d_vsIdx (v := sv) (l := zs.map zptr) (i := i) (kk := .i64) st Tk (by rw [List.length_map]; omega)
      obtain ⟨z, hz⟩ : ∃ z, zs[i]? = some z := ⟨zs[i]'(by omega), by simp⟩
      have e : atZ zs ((i : Int) + 1) = z := by
        rw [atZ, if_pos ⟨h1, h2⟩, show ((i : Int) + 1 - 1).toNat = i by omega, hz]; cases z <;> rfl
      have znj := zptr_nj z
      have zok := zptr_ok z
      (repeat (first | (show W _ _ _ _ _ _ (.code (cond _ _ _) :: _) _ _; first | refine W.ct ?_ | refine W.cf ?_) | (show W _ _ _ _ _ _ (.ins (cond _ _ _ :: _) :: _) _ _; first | refine W.gt ?_ | refine W.gf ?_) | (show W _ _ _ _ _ _ [] _ _; refine W.of (.done ?_)) | (apply W.of; constructor <;> first | (show W _ _ _ _ _ _ _ _ _) | (intro (al : Nat) h st; show W _ _ _ _ _ _ _ _ _) | (intro _ h st; show W _ _ _ _ _ _ _ _ _) | exact Sd)))
      rw [show (i : Int) + 1 - 1 = i by omega]
      (repeat (first | (show W _ _ _ _ _ _ (.code (cond _ _ _) :: _) _ _; first | refine W.ct ?_ | refine W.cf ?_) | (show W _ _ _ _ _ _ (.ins (cond _ _ _ :: _) :: _) _ _; first | refine W.gt ?_ | refine W.gf ?_) | (show W _ _ _ _ _ _ [] _ _; refine W.of (.done ?_)) | (apply W.of; constructor <;> first | (show W _ _ _ _ _ _ _ _ _) | (intro (al : Nat) h st; show W _ _ _ _ _ _ _ _ _) | (intro _ h st; show W _ _ _ _ _ _ _ _ _) | exact Sd))); refine W.do (ho := gp) (w := ?_)
      (repeat (first | (show W _ _ _ _ _ _ (.code (cond _ _ _) :: _) _ _; first | refine W.ct ?_ | refine W.cf ?_) | (show W _ _ _ _ _ _ (.ins (cond _ _ _ :: _) :: _) _ _; first | refine W.gt ?_ | refine W.gf ?_) | (show W _ _ _ _ _ _ [] _ _; refine W.of (.done ?_)) | (apply W.of; constructor <;> first | (show W _ _ _ _ _ _ _ _ _) | (intro (al : Nat) h st; show W _ _ _ _ _ _ _ _ _) | (intro _ h st; show W _ _ _ _ _ _ _ _ _) | exact Sd))); refine W.do (ho := (d_vsLoad (v := sv) (l := zs.map zptr) (x := zptr z) st Tk (by rw [List.getElem?_map, hz]; rfl))) (w := ?_)
      (repeat (first | (show W _ _ _ _ _ _ (.code (cond _ _ _) :: _) _ _; first | refine W.ct ?_ | refine W.cf ?_) | (show W _ _ _ _ _ _ (.ins (cond _ _ _ :: _) :: _) _ _; first | refine W.gt ?_ | refine W.gf ?_) | (show W _ _ _ _ _ _ [] _ _; refine W.of (.done ?_)) | (apply W.of; constructor <;> first | (show W _ _ _ _ _ _ _ _ _) | (intro (al : Nat) h st; show W _ _ _ _ _ _ _ _ _) | (intro _ h st; show W _ _ _ _ _ _ _ _ _) | exact Sd)))
      exact ⟨_, rfl, _, ⟨by rw [e]; rfl, rfl⟩, St.packP (t := 45) (P := PoYIs P most zs q a) (cs := [_, _, _]) st ⟨sv, r, rfl, hok, hr⟩ Pks⟩
    · (repeat (first | (show W _ _ _ _ _ _ (.code (cond _ _ _) :: _) _ _; first | refine W.ct ?_ | refine W.cf ?_) | (show W _ _ _ _ _ _ (.ins (cond _ _ _ :: _) :: _) _ _; first | refine W.gt ?_ | refine W.gf ?_) | (show W _ _ _ _ _ _ [] _ _; refine W.of (.done ?_)) | (apply W.of; constructor <;> first | (show W _ _ _ _ _ _ _ _ _) | (intro (al : Nat) h st; show W _ _ _ _ _ _ _ _ _) | (intro _ h st; show W _ _ _ _ _ _ _ _ _) | exact Sd)))
      exact ⟨_, rfl, _, ⟨by rw [atZ, if_neg (by omega)]; rfl, rfl⟩, St.packP (t := 45) (P := PoYIs P most zs q a) (cs := [_, _, _]) st ⟨sv, r, rfl, hok, hr⟩ Pks⟩
  · (repeat (first | (show W _ _ _ _ _ _ (.code (cond _ _ _) :: _) _ _; first | refine W.ct ?_ | refine W.cf ?_) | (show W _ _ _ _ _ _ (.ins (cond _ _ _ :: _) :: _) _ _; first | refine W.gt ?_ | refine W.gf ?_) | (show W _ _ _ _ _ _ [] _ _; refine W.of (.done ?_)) | (apply W.of; constructor <;> first | (show W _ _ _ _ _ _ _ _ _) | (intro (al : Nat) h st; show W _ _ _ _ _ _ _ _ _) | (intro _ h st; show W _ _ _ _ _ _ _ _ _) | exact Sd)))
    exact ⟨_, rfl, _, ⟨by rw [atZ, if_neg (by omega)]; rfl, rfl⟩, St.packP (t := 45) (P := PoYIs P most zs q a) (cs := [_, _, _]) st ⟨sv, r, rfl, hok, hr⟩ Pks⟩
def copyA (O : Nat) (a : AmV) (lo hi : Int) : AmV := ⟨O, List.replicate (hi - lo).toNat 1, slc a.an lo hi⟩
def outC (a : AmV) (lo hi : Int) : List Int := (usedP 0 (slc a.an lo hi)).map (·.2)
abbrev inA (a : AmV) (lo hi : Int) : Prop := 0 ≤ lo ∧ lo < hi ∧ hi ≤ a.an.length
abbrev copyPost (P most : Nat) (zs : List (Option AmV)) (id lo hi : Int) (v : AV) (Rs : List Chunk) : Prop :=
  (atZ zs id = none ∧ v = .tuple [.int .i64 0, .nilsl, .int .i64 7] ∧ Rs = [PoC P most zs]) ∨
  ∃ a, atZ zs id = some a ∧ ((¬ inA a lo hi ∧ v = .tuple [.int .i64 0, .nilsl, .int .i64 2] ∧ Rs = [PoC P most zs]) ∨
    (inA a lo hi ∧ most ≤ cntZ zs ∧ v = .tuple [.int .i64 0, .nilsl, .int .i64 5] ∧ Rs = [PoC P most zs]) ∨
    (inA a lo hi ∧ cntZ zs < most ∧ ∃ O ov, v = .tuple [.int .i64 ((firstN zs : Int) + 1), ov, .int .i64 0] ∧ ov.notJunk = some ov ∧ sliceLen ov = some (outC a lo hi).length ∧ Rs = [VsC ov 3 ((outC a lo hi).map ikey) true, PoC P most (putZ zs (copyA O a lo hi))]))
abbrev coS (X : Nat) (n : Int) (f : AV) : Env := [(13, .int .i64 n), (14, .ptr X 0), (58, f)]
abbrev coLp (I X : Nat) (n : Int) (f : AV) (st : LoopState) (j : Option AExit) : Chunk := LpC I st j (coS X n f) c_amap_Pool_Copy.ntmps [59, 60] c_amap_Pool_Copy_A0 c_amap_Pool_Copy_B0
def coCl (I X : Nat) (n : Int) (f : AV) (pre : List (Int × Int)) (cs : List Chunk) : Prop := ∃ v, cs = [coLp I X n f .ready none, .pt X (sCell v), VsC v 3 ((pre.map (·.2)).map ikey) true]
def noE (_ : List Chunk) : Prop := False
set_option maxRecDepth 4000 in
theorem co_round {I X : Nat} {n i x : Int} {f v : AV} {acc : List Int} (hl : acc.length ≤ 100000) : Spec R (.y I) [.int .i64 i, .int .i64 x] [coLp I X n f .ready none, .pt X (sCell v), VsC v 3 (acc.map ikey) true] fun r Rs =>
    r = .bool true ∧ ∃ v', Rs = [coLp I X n f .ready none, .pt X (sCell v'), VsC v' 3 ((acc ++ [x]).map ikey) true] := by
  refine spec_round (A := [.pt X (sCell v), VsC v 3 (acc.map ikey) true]) Njs rfl rfl (fun h F st => ?_)
  dsimp only [List.cons_append, List.nil_append] at st
  obtain ⟨vl, vj, vs⟩ := St.ivs (v := v) (cs := acc) st Tk
  (repeat (first | (show W _ _ _ _ _ _ (.code (cond _ _ _) :: _) _ _; first | refine W.ct ?_ | refine W.cf ?_) | (show W _ _ _ _ _ _ (.ins (cond _ _ _ :: _) :: _) _ _; first | refine W.gt ?_ | refine W.gf ?_) | (show W _ _ _ _ _ _ [] _ _; refine W.of (.done ?_)) | (apply W.of; constructor <;> first | (show W _ _ _ _ _ _ _ _ _) | (intro (al : Nat) h st; show W _ _ _ _ _ _ _ _ _) | (intro _ h st; show W _ _ _ _ _ _ _ _ _) | exact Sd)))
  refine ⟨rfl, none, _, st.take (c := coLp I X n f .ready none) Tk, fun h st => ?_⟩
  (repeat (first | (show W _ _ _ _ _ _ (.code (cond _ _ _) :: _) _ _; first | refine W.ct ?_ | refine W.cf ?_) | (show W _ _ _ _ _ _ (.ins (cond _ _ _ :: _) :: _) _ _; first | refine W.gt ?_ | refine W.gf ?_) | (show W _ _ _ _ _ _ [] _ _; refine W.of (.done ?_)) | (apply W.of; constructor <;> first | (show W _ _ _ _ _ _ _ _ _) | (intro (al : Nat) h st; show W _ _ _ _ _ _ _ _ _) | (intro _ h st; show W _ _ _ _ _ _ _ _ _) | exact Sd)))
  have st := St.vsRow (l := [.int .i64 x]) (e := 3) st Tk rfl
  (repeat (first | (show W _ _ _ _ _ _ (.code (cond _ _ _) :: _) _ _; first | refine W.ct ?_ | refine W.cf ?_) | (show W _ _ _ _ _ _ (.ins (cond _ _ _ :: _) :: _) _ _; first | refine W.gt ?_ | refine W.gf ?_) | (show W _ _ _ _ _ _ [] _ _; refine W.of (.done ?_)) | (apply W.of; constructor <;> first | (show W _ _ _ _ _ _ _ _ _) | (intro (al : Nat) h st; show W _ _ _ _ _ _ _ _ _) | (intro _ h st; show W _ _ _ _ _ _ _ _ _) | exact Sd))); refine W.ef (ho := (e_vsAppend (s := v) (l := acc.map ikey) (l' := [.int .i64 x]) st Tk Tk (by simp; omega) (by simp; omega))) (w := ?_); rintro vv h ⟨cj, cl, st⟩; refine nj ?_
  obtain ⟨v2, rfl⟩ : ∃ y, y = vv := ⟨_, rfl⟩
  rw [show acc.map ikey ++ [.int .i64 x] = (acc ++ [x]).map ikey by rw [List.map_append]; rfl] at st
  (repeat (first | (show W _ _ _ _ _ _ (.code (cond _ _ _) :: _) _ _; first | refine W.ct ?_ | refine W.cf ?_) | (show W _ _ _ _ _ _ (.ins (cond _ _ _ :: _) :: _) _ _; first | refine W.gt ?_ | refine W.gf ?_) | (show W _ _ _ _ _ _ [] _ _; refine W.of (.done ?_)) | (apply W.of; constructor <;> first | (show W _ _ _ _ _ _ _ _ _) | (intro (al : Nat) h st; show W _ _ _ _ _ _ _ _ _) | (intro _ h st; show W _ _ _ _ _ _ _ _ _) | exact Sd))); refine W.ef0 (ho := (e_storeV (i := 0) st Tk rfl (by simp) (sl_dat cl))) (w := ?_); rintro _ h ⟨_, st⟩
  (repeat (first | (show W _ _ _ _ _ _ (.code (cond _ _ _) :: _) _ _; first | refine W.ct ?_ | refine W.cf ?_) | (show W _ _ _ _ _ _ (.ins (cond _ _ _ :: _) :: _) _ _; first | refine W.gt ?_ | refine W.gf ?_) | (show W _ _ _ _ _ _ [] _ _; refine W.of (.done ?_)) | (apply W.of; constructor <;> first | (show W _ _ _ _ _ _ _ _ _) | (intro (al : Nat) h st; show W _ _ _ _ _ _ _ _ _) | (intro _ h st; show W _ _ _ _ _ _ _ _ _) | exact Sd)))
  exact ⟨_, _, [.pt X (sCell v2), VsC v2 3 ((acc ++ [x]).map ikey) true], st.sel Sels, rfl, v2, rfl⟩
theorem co_asks {I X : Nat} {n : Int} {f : AV} {items : List (Int × Int)} (hl : items.length ≤ 4096) : AsksU I items (coCl I X n f) noE := fun pre i x suf e => by
  have hpl : pre.length ≤ 4096 := by have := congrArg List.length e; simp at this; omega
  refine Spec.unpk fun cs ⟨v, e2⟩ => ?_
  subst e2
  rw [List.append_nil]
  refine (co_round (n := n) (i := i) (x := x) (acc := pre.map (·.2)) (by simp; omega)).conv progI_mono (fun _ _ st => st) fun r Rs h F hp st => ?_
  obtain ⟨rfl, v', rfl⟩ := hp
  refine ⟨_, .inl ⟨rfl, rfl⟩, St.pack (cs := [_, _, _]) st ⟨v', ?_⟩⟩
  rw [show (pre ++ [(i, x)]).map (·.2) = pre.map (·.2) ++ [x] by rw [List.map_append]; rfl]
theorem slc_le {cs : List Int} {lo hi : Int} : (slc cs lo hi).length ≤ cs.length := by
  unfold slc; rw [List.length_take, List.length_drop]; omega
theorem rep1_len {lo hi : Int} : (List.replicate (hi - lo).toNat (1 : Int)).length = (hi - lo).toNat := List.length_replicate ..
theorem po_Make2 {m : Int} (hm : 1 ≤ m ∧ m ≤ 4096) : Spec R (.f n_amap_Pool_Make) [.ptr P 0, .int .i64 m] [PoC P most zs] fun v Rs =>
    (cntZ zs < most ∧ ∃ O, v = .tuple [.int .i64 ((firstN zs : Int) + 1), .int .i64 0] ∧ Rs = [PoC P most (putZ zs (newAm O m.toNat))]) ∨
    (most ≤ cntZ zs ∧ v = .tuple [.int .i64 0, .int .i64 5] ∧ Rs = [PoC P most zs]) :=
  po_Make.mono progI_mono fun v Rs h => by
    rcases h with ⟨h, _⟩ | ⟨_, h⟩ | ⟨_, h⟩
    · exact absurd hm h
    · exact .inr h
    · exact .inl h
set_option maxRecDepth 8000 in
theorem po_Copy {id lo hi : Int} : Spec R (.f n_amap_Pool_Copy) [.ptr P 0, .int .i64 id, .int .i64 lo, .int .i64 hi] [PoC P most zs] (copyPost P most zs id lo hi) := by
  refine spec_w (fun _ _ _ x => progI_call rfl rfl x) Njs rfl (fun h F st => ?_); dsimp only [List.cons_append, List.nil_append] at st
  have knj := knownV_nj (atZ zs id)
  have kok := knownV_ok (atZ zs id)
  (repeat (first | (show W _ _ _ _ _ _ (.code (cond _ _ _) :: _) _ _; first | refine W.ct ?_ | refine W.cf ?_) | (show W _ _ _ _ _ _ (.ins (cond _ _ _ :: _) :: _) _ _; first | refine W.gt ?_ | refine W.gf ?_) | (show W _ _ _ _ _ _ [] _ _; refine W.of (.done ?_)) | (apply W.of; constructor <;> first | (show W _ _ _ _ _ _ _ _ _) | (intro (al : Nat) h st; show W _ _ _ _ _ _ _ _ _) | (intro _ h st; show W _ _ _ _ _ _ _ _ _) | exact Sd))); refine W.call (hs := po_known) (w := ?_); rintro vv _ ⟨rfl, rfl⟩ h st; refine nj ?_; dsimp only [List.cons_append, List.nil_append] at st
  cases ha : atZ zs id with
  | none =>
    dsimp only [knownV]
    (repeat (first | (show W _ _ _ _ _ _ (.code (cond _ _ _) :: _) _ _; first | refine W.ct ?_ | refine W.cf ?_) | (show W _ _ _ _ _ _ (.ins (cond _ _ _ :: _) :: _) _ _; first | refine W.gt ?_ | refine W.gf ?_) | (show W _ _ _ _ _ _ [] _ _; refine W.of (.done ?_)) | (apply W.of; constructor <;> first | (show W _ _ _ _ _ _ _ _ _) | (intro (al : Nat) h st; show W _ _ _ _ _ _ _ _ _) | (intro _ h st; show W _ _ _ _ _ _ _ _ _) | exact Sd)))
    exact ⟨_, rfl, _, .inl ⟨ha, rfl, rfl⟩, st⟩
  | some a =>
    dsimp only [knownV]
    obtain ⟨hi1, hi2, hz⟩ := atZ_some ha
    have st := st.poOut Tk hz
    have hok := st.am Tk
    have hlen := hok.len
    have hn1 := hok.n1
    have hn4 := hok.n4
    (repeat (first | (show W _ _ _ _ _ _ (.code (cond _ _ _) :: _) _ _; first | refine W.ct ?_ | refine W.cf ?_) | (show W _ _ _ _ _ _ (.ins (cond _ _ _ :: _) :: _) _ _; first | refine W.gt ?_ | refine W.gf ?_) | (show W _ _ _ _ _ _ [] _ _; refine W.of (.done ?_)) | (apply W.of; constructor <;> first | (show W _ _ _ _ _ _ _ _ _) | (intro (al : Nat) h st; show W _ _ _ _ _ _ _ _ _) | (intro _ h st; show W _ _ _ _ _ _ _ _ _) | exact Sd))); refine W.call (hs := (am_within (a := a))) (w := ?_); rintro vv _ ⟨rfl, rfl⟩ h st; refine nj ?_; dsimp only [List.cons_append, List.nil_append] at st
    have st := st.poBack hz Tk Tk
    have hpo := st.po Tk
    have hml := hpo.l
    have hmm := hpo.m
    have hfl := firstN_le (zs := zs)
    by_cases hw : 0 ≤ lo ∧ lo < hi ∧ hi ≤ a.an.length
    · rw [decide_eq_true hw]
      (repeat (first | (show W _ _ _ _ _ _ (.code (cond _ _ _) :: _) _ _; first | refine W.ct ?_ | refine W.cf ?_) | (show W _ _ _ _ _ _ (.ins (cond _ _ _ :: _) :: _) _ _; first | refine W.gt ?_ | refine W.gf ?_) | (show W _ _ _ _ _ _ [] _ _; refine W.of (.done ?_)) | (apply W.of; constructor <;> first | (show W _ _ _ _ _ _ _ _ _) | (intro (al : Nat) h st; show W _ _ _ _ _ _ _ _ _) | (intro _ h st; show W _ _ _ _ _ _ _ _ _) | exact Sd)))
      (repeat (first | (show W _ _ _ _ _ _ (.code (cond _ _ _) :: _) _ _; first | refine W.ct ?_ | refine W.cf ?_) | (show W _ _ _ _ _ _ (.ins (cond _ _ _ :: _) :: _) _ _; first | refine W.gt ?_ | refine W.gf ?_) | (show W _ _ _ _ _ _ [] _ _; refine W.of (.done ?_)) | (apply W.of; constructor <;> first | (show W _ _ _ _ _ _ _ _ _) | (intro (al : Nat) h st; show W _ _ _ _ _ _ _ _ _) | (intro _ h st; show W _ _ _ _ _ _ _ _ _) | exact Sd))); refine W.call (hs := (po_Make2 (m := hi - lo) (by omega))) (w := ?_); rintro vv _ (⟨hroom, O, rfl, rfl⟩ | ⟨hfull, rfl, rfl⟩) h st; refine nj ?_; dsimp only [List.cons_append, List.nil_append] at st
      · obtain ⟨hne, hz'⟩ := put_other (b := newAm O (hi - lo).toNat) hz
        have haP := atZ_put (zs := zs) (b := newAm O (hi - lo).toNat)
        have st := st.poOut2 Tk put_at hz' hne
        obtain ⟨zb, hzb⟩ : ∃ zb, zb = putZ zs (newAm O (hi - lo).toNat) := ⟨_, rfl⟩
        rw [← hzb] at st hz' haP
        have hbq : zb[firstN zs]? = some (some (newAm O (hi - lo).toNat)) := by rw [hzb]; exact put_at
        obtain ⟨_, ⟨D, v, l, rfl, he, _⟩, st⟩ := St.unpack st; dsimp only [List.cons_append, List.nil_append] at st
        obtain ⟨vl, vj, vs⟩ := St.ivs (v := v) (cs := a.an) st Tk
        obtain ⟨A, rfl⟩ : ∃ A : Nat, lo = (A : Int) := ⟨lo.toNat, by omega⟩
        obtain ⟨B, rfl⟩ : ∃ B : Nat, hi = (B : Int) := ⟨hi.toNat, by omega⟩
        obtain ⟨w, w1, w2, w3, w4⟩ := d_midW (a := A) (b := B) (k := (a.an.map ikey).length) (e := 3) (l := a.an.map ikey) (v := v) (kk := .i64) (by omega) (by rw [List.length_map]; omega) st Tk
        (repeat (first | (show W _ _ _ _ _ _ (.code (cond _ _ _) :: _) _ _; first | refine W.ct ?_ | refine W.cf ?_) | (show W _ _ _ _ _ _ (.ins (cond _ _ _ :: _) :: _) _ _; first | refine W.gt ?_ | refine W.gf ?_) | (show W _ _ _ _ _ _ [] _ _; refine W.of (.done ?_)) | (apply W.of; constructor <;> first | (show W _ _ _ _ _ _ _ _ _) | (intro (al : Nat) h st; show W _ _ _ _ _ _ _ _ _) | (intro _ h st; show W _ _ _ _ _ _ _ _ _) | exact Sd))); refine W.do (ho := w1) (w := ?_)
        have znj := zptr_nj (atZ zb ((firstN zs : Int) + 1))
        have zok := zptr_ok (atZ zb ((firstN zs : Int) + 1))
        (repeat (first | (show W _ _ _ _ _ _ (.code (cond _ _ _) :: _) _ _; first | refine W.ct ?_ | refine W.cf ?_) | (show W _ _ _ _ _ _ (.ins (cond _ _ _ :: _) :: _) _ _; first | refine W.gt ?_ | refine W.gf ?_) | (show W _ _ _ _ _ _ [] _ _; refine W.of (.done ?_)) | (apply W.of; constructor <;> first | (show W _ _ _ _ _ _ _ _ _) | (intro (al : Nat) h st; show W _ _ _ _ _ _ _ _ _) | (intro _ h st; show W _ _ _ _ _ _ _ _ _) | exact Sd))); refine W.call (hs := (po_ofY (zs := zb) (id := (firstN zs : Int) + 1))) (w := ?_); rintro vv _ ⟨rfl, rfl⟩ h st; refine nj ?_; dsimp only [List.cons_append, List.nil_append] at st
        rw [haP]
        have hN : ((B : Int) - (A : Int)).toNat = B - A := by omega
        have st := st.take (c := AmC (newAm O ((B : Int) - (A : Int)).toNat)) Tk
        obtain ⟨_, ⟨D2, v2, l2, rfl, he2, hok2⟩, st⟩ := St.unpack st; dsimp only [List.cons_append, List.nil_append] at st
        obtain ⟨v2l, v2j, v2s⟩ := St.ivs (v := v2) (cs := (newAm O ((B : Int) - (A : Int)).toNat).an) st Tk
        have hsl : (slc a.an A B).length = B - A := by rw [slc_len (by omega) (by omega) (by omega), hN]
        have hv := w4 _ _ _ st Tk
        have hm : ((a.an.map ikey).drop A).take (B - A) = (slc a.an A B).map ikey := by rw [slc, hN, Int.toNat_natCast, List.map_take, List.map_drop]
        rw [hm] at hv
        have hnl : ((newAm O ((B : Int) - (A : Int)).toNat).an.map ikey).length = B - A := by rw [List.length_map, newAm, List.length_replicate, hN]
        (repeat (first | (show W _ _ _ _ _ _ (.code (cond _ _ _) :: _) _ _; first | refine W.ct ?_ | refine W.cf ?_) | (show W _ _ _ _ _ _ (.ins (cond _ _ _ :: _) :: _) _ _; first | refine W.gt ?_ | refine W.gf ?_) | (show W _ _ _ _ _ _ [] _ _; refine W.of (.done ?_)) | (apply W.of; constructor <;> first | (show W _ _ _ _ _ _ _ _ _) | (intro (al : Nat) h st; show W _ _ _ _ _ _ _ _ _) | (intro _ h st; show W _ _ _ _ _ _ _ _ _) | exact Sd))); refine W.ef (ho := (e_copyV (v := v2) (l := (newAm O ((B : Int) - (A : Int)).toNat).an.map ikey) (l' := (slc a.an A B).map ikey) st Tk (by rw [hnl]; exact hv) (by rw [hnl, List.length_map, hsl]))) (w := ?_); rintro vv h ⟨rfl, st⟩; refine nj ?_
        have st := St.packP (t := 40) (k := .ptr O 0) (P := AmIs (copyA O a A B)) (cs := [.pt O (oneRow D2 v2), CntC D2 l2 (newAm O ((B : Int) - (A : Int)).toNat).cs.length, VsC v2 3 ((slc a.an A B).map ikey) true]) st ⟨D2, v2, l2, rfl, he2, by show (slc a.an A B).length = _; rw [hsl, copyA, rep1_len, hN], hok2.n1, hok2.n4, fun x hx => hok.pos x (List.mem_of_mem_drop (List.mem_of_mem_take hx))⟩ Pks
        have st := St.packP (t := 40) (k := .ptr a.O 0) (P := AmIs a) (cs := [.pt a.O (oneRow D v), CntC D l a.cs.length, VsC v 3 (a.an.map ikey) true]) st ⟨D, v, l, rfl, he, hok⟩ Pks
        have st := st.poBack2 (a := a) (q := firstN zs) (zs := zb) Tk Tk
        have st := st.poIn (a := newAm O ((B : Int) - (A : Int)).toNat) (b := copyA O a A B) rfl hbq Tk Tk
        rw [hzb, put_set] at st
        have hul : (usedZ (putZ zs (copyA O a A B)) ((firstN zs : Int) + 1)) = usedP 0 (slc a.an A B) := by unfold usedZ; rw [atZ_put]; rfl
        have hul2 : (usedP 0 (slc a.an (A : Int) (B : Int))).length ≤ 4096 := by have := usedP_len (an := slc a.an (A : Int) (B : Int)) (o := 0); omega
        (repeat (first | (show W _ _ _ _ _ _ (.code (cond _ _ _) :: _) _ _; first | refine W.ct ?_ | refine W.cf ?_) | (show W _ _ _ _ _ _ (.ins (cond _ _ _ :: _) :: _) _ _; first | refine W.gt ?_ | refine W.gf ?_) | (show W _ _ _ _ _ _ [] _ _; refine W.of (.done ?_)) | (apply W.of; constructor <;> first | (show W _ _ _ _ _ _ _ _ _) | (intro (al : Nat) h st; show W _ _ _ _ _ _ _ _ _) | (intro _ h st; show W _ _ _ _ _ _ _ _ _) | exact Sd)))
        obtain ⟨X, rfl⟩ : ∃ y, y = al := ⟨_, rfl⟩
        (repeat (first | (show W _ _ _ _ _ _ (.code (cond _ _ _) :: _) _ _; first | refine W.ct ?_ | refine W.cf ?_) | (show W _ _ _ _ _ _ (.ins (cond _ _ _ :: _) :: _) _ _; first | refine W.gt ?_ | refine W.gf ?_) | (show W _ _ _ _ _ _ [] _ _; refine W.of (.done ?_)) | (apply W.of; constructor <;> first | (show W _ _ _ _ _ _ _ _ _) | (intro (al : Nat) h st; show W _ _ _ _ _ _ _ _ _) | (intro _ h st; show W _ _ _ _ _ _ _ _ _) | exact Sd))); refine W.call (hs := (po_Used (p := .ptr P 0) (id := (firstN zs : Int) + 1) rfl rfl)) (w := ?_); rintro vv _ ⟨b, c, rfl, rfl⟩ h st; refine nj ?_; dsimp only [List.cons_append, List.nil_append] at st
        (repeat (first | (show W _ _ _ _ _ _ (.code (cond _ _ _) :: _) _ _; first | refine W.ct ?_ | refine W.cf ?_) | (show W _ _ _ _ _ _ (.ins (cond _ _ _ :: _) :: _) _ _; first | refine W.gt ?_ | refine W.gf ?_) | (show W _ _ _ _ _ _ [] _ _; refine W.of (.done ?_)) | (apply W.of; constructor <;> first | (show W _ _ _ _ _ _ _ _ _) | (intro (al : Nat) h st; show W _ _ _ _ _ _ _ _ _) | (intro _ h st; show W _ _ _ _ _ _ _ _ _) | exact Sd)))
        obtain ⟨f, hf⟩ : ∃ f : AV, f = .func n_amap_Pool_Used_1 [] [.ptr b 0, .ptr c 0] := ⟨_, rfl⟩
        refine W.sub (s' := coS X ((firstN zs : Int) + 1) (.func n_amap_Pool_Used_1 [] [.ptr b 0, .ptr c 0])) Sbs ?_
        refine W.rfun (Ps := [.pt b (poBox P), .pt c (ibox1 ((firstN zs : Int) + 1)), PoC P most (putZ zs (copyA O a A B)), .pt X (sCell .nilsl)]) (post := fun j Cl => j = none ∧ ∃ v, Cl = [.pt X (sCell v), VsC v 3 ((outC a A B).map ikey) true, PoC P most (putZ zs (copyA O a A B))]) rfl (fun _ e => (by cases e)) st Pks (fun I => ?_) (fun j Cl h' hp st => ?_)
        · rw [← hf]
          have hy := co_asks (I := I) (X := X) (n := (firstN zs : Int) + 1) (f := f) hul2
          rw [← hul] at hy
          refine (po_Used_1 (P := P) (most := most) (zs := putZ zs (copyA O a A B)) (id := (firstN zs : Int) + 1) (b := b) (c := c) hy).conv progI_mono (fun h F st => ?_) fun v Rs h F ⟨c', e, hc⟩ st => ?_
          · have st := st.vsNil 3 true
            exact (St.packP (t := 43) (k := .yield I) (P := coCl I X ((firstN zs : Int) + 1) f []) (cs := [coLp I X ((firstN zs : Int) + 1) f .ready none, .pt X (sCell .nilsl), VsC .nilsl 3 [] true]) st ⟨.nilsl, rfl⟩ Pks).sel Sels
          · subst e
            rcases hc with rfl | rfl
            · obtain ⟨cs, ⟨v, rfl⟩, st⟩ := St.unpack st
              rw [hul] at st
              exact ⟨_, ⟨.ready, none, [.pt X (sCell v), VsC v 3 ((outC a A B).map ikey) true, PoC P most (putZ zs (copyA O a A B))], rfl, by decide, rfl, v, rfl⟩, st.sel Sels⟩
            · obtain ⟨cs, hv, st⟩ := St.unpack st
              exact hv.elim
        · obtain ⟨rfl, v, rfl⟩ := hp
          dsimp only [List.cons_append, List.nil_append] at st
          obtain ⟨vl, vj, vs⟩ := St.ivs (v := v) (cs := outC a A B) st Tk
          (repeat (first | (show W _ _ _ _ _ _ (.code (cond _ _ _) :: _) _ _; first | refine W.ct ?_ | refine W.cf ?_) | (show W _ _ _ _ _ _ (.ins (cond _ _ _ :: _) :: _) _ _; first | refine W.gt ?_ | refine W.gf ?_) | (show W _ _ _ _ _ _ [] _ _; refine W.of (.done ?_)) | (apply W.of; constructor <;> first | (show W _ _ _ _ _ _ _ _ _) | (intro (al : Nat) h st; show W _ _ _ _ _ _ _ _ _) | (intro _ h st; show W _ _ _ _ _ _ _ _ _) | exact Sd)))
          exact ⟨_, rfl, _, .inr ⟨a, ha, .inr (.inr ⟨hw, hroom, O, v, rfl, vj, vl, rfl⟩)⟩, st.sel Sels⟩
      · refine nj ?_
        dsimp only [List.cons_append, List.nil_append] at st
        (repeat (first | (show W _ _ _ _ _ _ (.code (cond _ _ _) :: _) _ _; first | refine W.ct ?_ | refine W.cf ?_) | (show W _ _ _ _ _ _ (.ins (cond _ _ _ :: _) :: _) _ _; first | refine W.gt ?_ | refine W.gf ?_) | (show W _ _ _ _ _ _ [] _ _; refine W.of (.done ?_)) | (apply W.of; constructor <;> first | (show W _ _ _ _ _ _ _ _ _) | (intro (al : Nat) h st; show W _ _ _ _ _ _ _ _ _) | (intro _ h st; show W _ _ _ _ _ _ _ _ _) | exact Sd)))
        exact ⟨_, rfl, _, .inr ⟨a, ha, .inr (.inl ⟨hw, hfull, rfl, rfl⟩)⟩, st⟩
    · rw [decide_eq_false hw]
      (repeat (first | (show W _ _ _ _ _ _ (.code (cond _ _ _) :: _) _ _; first | refine W.ct ?_ | refine W.cf ?_) | (show W _ _ _ _ _ _ (.ins (cond _ _ _ :: _) :: _) _ _; first | refine W.gt ?_ | refine W.gf ?_) | (show W _ _ _ _ _ _ [] _ _; refine W.of (.done ?_)) | (apply W.of; constructor <;> first | (show W _ _ _ _ _ _ _ _ _) | (intro (al : Nat) h st; show W _ _ _ _ _ _ _ _ _) | (intro _ h st; show W _ _ _ _ _ _ _ _ _) | exact Sd)))
      exact ⟨_, rfl, _, .inr ⟨a, ha, .inl ⟨hw, rfl, rfl⟩⟩, st⟩
end Go.Proofs.Ytjdemlagmamlbaa

namespace Go.Proofs.Ytjdemlagmamlbaa
variable {P most : Nat} {zs : List (Option AmV)} {a : AmV}
theorem po_New_ok {m : Nat} (hm : m ≤ 4096) : Spec R (.f n_amap_New) [.int .i64 (m : Nat)] [] fun v Rs => ∃ P, v = .ptr P 0 ∧ Rs = [PoC P m []] :=
  po_New.mono progI_mono fun v Rs h => by
    rcases h with ⟨_, _, h⟩ | ⟨h, _⟩
    · exact h
    · exact absurd ⟨by omega, by omega⟩ h
theorem po_Make_ok {m : Int} (hm : 1 ≤ m ∧ m ≤ 4096) (hc : cntZ zs < most) : Spec R (.f n_amap_Pool_Make) [.ptr P 0, .int .i64 m] [PoC P most zs] fun v Rs =>
    ∃ O, v = .tuple [.int .i64 ((firstN zs : Int) + 1), .int .i64 0] ∧ Rs = [PoC P most (putZ zs (newAm O m.toNat))] :=
  (po_Make2 hm).mono progI_mono fun v Rs h => by
    rcases h with ⟨_, h⟩ | ⟨h, _⟩
    · exact h
    · omega
theorem po_Set_ok {id slot x : Int} (ha : atZ zs id = some a) (hc : ¬ (coverZ zs id slot = 0 ∨ x < 0)) : Spec R (.f n_amap_Pool_Set) [.ptr P 0, .int .i64 id, .int .i64 slot, .int .i64 x] [PoC P most zs] fun v Rs =>
    v = .tuple [.int .i64 (getZ zs id slot), .int .i64 0] ∧ Rs = [PoC P most (setZ zs id slot x)] :=
  po_Set.mono progI_mono fun v Rs h => by
    rcases h with ⟨h, _⟩ | ⟨_, _, h, _⟩ | ⟨_, _, _, h⟩
    · rw [ha] at h; cases h
    · exact absurd h hc
    · exact h
theorem po_Hold_ok {id lo hi : Int} (ha : atZ zs id = some a) (hh : HoldOk a lo hi) : Spec R (.f n_amap_Pool_Hold) [.ptr P 0, .int .i64 id, .int .i64 lo, .int .i64 hi] [PoC P most zs] fun v Rs =>
    v = .int .i64 0 ∧ Rs = [PoC P most (zs.set (id - 1).toNat (some (holdA a lo hi)))] :=
  po_Hold.mono progI_mono fun v Rs h => by
    rcases h with ⟨h, _⟩ | ⟨b, hb, ⟨_, h⟩ | ⟨h, _⟩⟩
    · rw [ha] at h; cases h
    · rw [ha] at hb; cases hb; exact h
    · rw [ha] at hb; cases hb; exact absurd hh h
theorem po_Drop_ok {id lo hi : Int} (ha : atZ zs id = some a) (hh : DropOk a lo hi) : Spec R (.f n_amap_Pool_Drop) [.ptr P 0, .int .i64 id, .int .i64 lo, .int .i64 hi] [PoC P most zs] fun v Rs =>
    ∃ ov, v = .tuple [ov, .int .i64 0] ∧ ov.notJunk = some ov ∧ sliceLen ov = some (outG a.an (goneA a lo hi)).length ∧ Rs = [VsC ov 3 ((outG a.an (goneA a lo hi)).map ikey) true, PoC P most (dropZ zs (id - 1).toNat a lo hi)] :=
  po_Drop.mono progI_mono fun v Rs h => by
    rcases h with ⟨h, _⟩ | ⟨b, hb, ⟨_, h⟩ | ⟨h, _⟩⟩
    · rw [ha] at h; cases h
    · rw [ha] at hb; cases hb; exact h
    · rw [ha] at hb; cases hb; exact absurd hh h
theorem lives_h {O : Nat} : HoldOk ⟨O, [1, 1, 1, 1], [0, 0, 9, 0]⟩ 0 2 := ⟨by decide, by decide, by dsimp only; decide, by dsimp only; decide, by dsimp only; exact add_okD (by decide) (by decide) (by decide) (by decide)⟩
theorem lives_d {O : Nat} : DropOk ⟨O, [2, 2, 1, 1], [0, 0, 9, 0]⟩ 0 4 := ⟨by decide, by decide, by dsimp only; decide, by dsimp only; exact add_okD (by decide) (by decide) (by decide) (by decide)⟩
set_option maxRecDepth 8000 in
theorem law13_lives : Spec R (.f n_law13_lives) [] [] fun v Rs => v = .bool true ∧ Rs = [] := by
  refine spec_w (fun _ _ _ x => progI_call rfl rfl x) Njs rfl (fun h F st => ?_); dsimp only [List.cons_append, List.nil_append] at st
  (repeat (first | (show W _ _ _ _ _ _ (.code (cond _ _ _) :: _) _ _; first | refine W.ct ?_ | refine W.cf ?_) | (show W _ _ _ _ _ _ (.ins (cond _ _ _ :: _) :: _) _ _; first | refine W.gt ?_ | refine W.gf ?_) | (show W _ _ _ _ _ _ [] _ _; refine W.of (.done ?_)) | (apply W.of; constructor <;> first | (show W _ _ _ _ _ _ _ _ _) | (intro (al : Nat) h st; show W _ _ _ _ _ _ _ _ _) | (intro _ h st; show W _ _ _ _ _ _ _ _ _) | exact Sd))); refine W.call (hs := (po_New_ok (m := 9) (by decide))) (w := ?_); rintro vv _ ⟨P, rfl, rfl⟩ h st; refine nj ?_; dsimp only [List.cons_append, List.nil_append] at st
  (repeat (first | (show W _ _ _ _ _ _ (.code (cond _ _ _) :: _) _ _; first | refine W.ct ?_ | refine W.cf ?_) | (show W _ _ _ _ _ _ (.ins (cond _ _ _ :: _) :: _) _ _; first | refine W.gt ?_ | refine W.gf ?_) | (show W _ _ _ _ _ _ [] _ _; refine W.of (.done ?_)) | (apply W.of; constructor <;> first | (show W _ _ _ _ _ _ _ _ _) | (intro (al : Nat) h st; show W _ _ _ _ _ _ _ _ _) | (intro _ h st; show W _ _ _ _ _ _ _ _ _) | exact Sd))); refine W.call (hs := (po_Make_ok (P := P) (most := 9) (zs := []) (m := 4) (by decide) (by decide))) (w := ?_); rintro vv _ ⟨O, rfl, rfl⟩ h st; refine nj ?_; dsimp only [List.cons_append, List.nil_append] at st
  have e1 : putZ [] (newAm O (4 : Int).toNat) = [some ⟨O, [1, 1, 1, 1], [0, 0, 0, 0]⟩] := rfl
  rw [e1] at st
  (repeat (first | (show W _ _ _ _ _ _ (.code (cond _ _ _) :: _) _ _; first | refine W.ct ?_ | refine W.cf ?_) | (show W _ _ _ _ _ _ (.ins (cond _ _ _ :: _) :: _) _ _; first | refine W.gt ?_ | refine W.gf ?_) | (show W _ _ _ _ _ _ [] _ _; refine W.of (.done ?_)) | (apply W.of; constructor <;> first | (show W _ _ _ _ _ _ _ _ _) | (intro (al : Nat) h st; show W _ _ _ _ _ _ _ _ _) | (intro _ h st; show W _ _ _ _ _ _ _ _ _) | exact Sd))); refine W.call (hs := (po_Set_ok (P := P) (most := 9) (zs := [some ⟨O, [1, 1, 1, 1], [0, 0, 0, 0]⟩]) (a := ⟨O, [1, 1, 1, 1], [0, 0, 0, 0]⟩) (id := 1) (slot := 2) (x := 9) rfl (by show ¬ ((1 : Int) = 0 ∨ (9 : Int) < 0); decide))) (w := ?_); rintro vv _ ⟨rfl, rfl⟩ h st; refine nj ?_; dsimp only [List.cons_append, List.nil_append] at st
  have e2 : setZ [some ⟨O, [1, 1, 1, 1], [0, 0, 0, 0]⟩] 1 2 9 = [some ⟨O, [1, 1, 1, 1], [0, 0, 9, 0]⟩] := rfl
  rw [e2] at st
  (repeat (first | (show W _ _ _ _ _ _ (.code (cond _ _ _) :: _) _ _; first | refine W.ct ?_ | refine W.cf ?_) | (show W _ _ _ _ _ _ (.ins (cond _ _ _ :: _) :: _) _ _; first | refine W.gt ?_ | refine W.gf ?_) | (show W _ _ _ _ _ _ [] _ _; refine W.of (.done ?_)) | (apply W.of; constructor <;> first | (show W _ _ _ _ _ _ _ _ _) | (intro (al : Nat) h st; show W _ _ _ _ _ _ _ _ _) | (intro _ h st; show W _ _ _ _ _ _ _ _ _) | exact Sd))); refine W.call (hs := (po_Hold_ok (P := P) (most := 9) (zs := [some ⟨O, [1, 1, 1, 1], [0, 0, 9, 0]⟩]) (a := ⟨O, [1, 1, 1, 1], [0, 0, 9, 0]⟩) (id := 1) (lo := 0) (hi := 2) rfl lives_h)) (w := ?_); rintro vv _ ⟨rfl, rfl⟩ h st; refine nj ?_; dsimp only [List.cons_append, List.nil_append] at st
  have e3 : ([some ⟨O, [1, 1, 1, 1], [0, 0, 9, 0]⟩] : List (Option AmV)).set ((1 : Int) - 1).toNat (some (holdA ⟨O, [1, 1, 1, 1], [0, 0, 9, 0]⟩ 0 2)) = [some ⟨O, [2, 2, 1, 1], [0, 0, 9, 0]⟩] := rfl
  rw [e3] at st
  (repeat (first | (show W _ _ _ _ _ _ (.code (cond _ _ _) :: _) _ _; first | refine W.ct ?_ | refine W.cf ?_) | (show W _ _ _ _ _ _ (.ins (cond _ _ _ :: _) :: _) _ _; first | refine W.gt ?_ | refine W.gf ?_) | (show W _ _ _ _ _ _ [] _ _; refine W.of (.done ?_)) | (apply W.of; constructor <;> first | (show W _ _ _ _ _ _ _ _ _) | (intro (al : Nat) h st; show W _ _ _ _ _ _ _ _ _) | (intro _ h st; show W _ _ _ _ _ _ _ _ _) | exact Sd))); refine W.call (hs := (po_Drop_ok (P := P) (most := 9) (zs := [some ⟨O, [2, 2, 1, 1], [0, 0, 9, 0]⟩]) (a := ⟨O, [2, 2, 1, 1], [0, 0, 9, 0]⟩) (id := 1) (lo := 0) (hi := 4) rfl lives_d)) (w := ?_); rintro vv _ ⟨ov, rfl, oj, ol, rfl⟩ h st; refine nj ?_; dsimp only [List.cons_append, List.nil_append] at st
  have e4 : dropZ [some ⟨O, [2, 2, 1, 1], [0, 0, 9, 0]⟩] ((1 : Int) - 1).toNat ⟨O, [2, 2, 1, 1], [0, 0, 9, 0]⟩ 0 4 = [some ⟨O, [1, 1, 0, 0], [0, 0, 0, 0]⟩] := rfl
  have e5 : outG [0, 0, 9, 0] (goneA ⟨O, [2, 2, 1, 1], [0, 0, 9, 0]⟩ 0 4) = [9] := rfl
  rw [e4] at st
  dsimp only at st ol
  rw [e5] at st ol
  (repeat (first | (show W _ _ _ _ _ _ (.code (cond _ _ _) :: _) _ _; first | refine W.ct ?_ | refine W.cf ?_) | (show W _ _ _ _ _ _ (.ins (cond _ _ _ :: _) :: _) _ _; first | refine W.gt ?_ | refine W.gf ?_) | (show W _ _ _ _ _ _ [] _ _; refine W.of (.done ?_)) | (apply W.of; constructor <;> first | (show W _ _ _ _ _ _ _ _ _) | (intro (al : Nat) h st; show W _ _ _ _ _ _ _ _ _) | (intro _ h st; show W _ _ _ _ _ _ _ _ _) | exact Sd)))
  have st := St.vsRow (l := [(9 : Int)].map ikey) (e := 3) st Tk rfl
  (repeat (first | (show W _ _ _ _ _ _ (.code (cond _ _ _) :: _) _ _; first | refine W.ct ?_ | refine W.cf ?_) | (show W _ _ _ _ _ _ (.ins (cond _ _ _ :: _) :: _) _ _; first | refine W.gt ?_ | refine W.gf ?_) | (show W _ _ _ _ _ _ [] _ _; refine W.of (.done ?_)) | (apply W.of; constructor <;> first | (show W _ _ _ _ _ _ _ _ _) | (intro (al : Nat) h st; show W _ _ _ _ _ _ _ _ _) | (intro _ h st; show W _ _ _ _ _ _ _ _ _) | exact Sd))); refine W.call (hs := (ref01_Ints (a := ov) (l := [9]) (l' := [9]) (by decide))) (w := ?_); rintro vv _ ⟨rfl, rfl⟩ h st; refine nj ?_; dsimp only [List.cons_append, List.nil_append] at st
  (repeat (first | (show W _ _ _ _ _ _ (.code (cond _ _ _) :: _) _ _; first | refine W.ct ?_ | refine W.cf ?_) | (show W _ _ _ _ _ _ (.ins (cond _ _ _ :: _) :: _) _ _; first | refine W.gt ?_ | refine W.gf ?_) | (show W _ _ _ _ _ _ [] _ _; refine W.of (.done ?_)) | (apply W.of; constructor <;> first | (show W _ _ _ _ _ _ _ _ _) | (intro (al : Nat) h st; show W _ _ _ _ _ _ _ _ _) | (intro _ h st; show W _ _ _ _ _ _ _ _ _) | exact Sd))); refine W.call (hs := (po_Cover (P := P))) (w := ?_); rintro vv _ ⟨rfl, rfl⟩ h st; refine nj ?_; dsimp only [List.cons_append, List.nil_append] at st
  (repeat (first | (show W _ _ _ _ _ _ (.code (cond _ _ _) :: _) _ _; first | refine W.ct ?_ | refine W.cf ?_) | (show W _ _ _ _ _ _ (.ins (cond _ _ _ :: _) :: _) _ _; first | refine W.gt ?_ | refine W.gf ?_) | (show W _ _ _ _ _ _ [] _ _; refine W.of (.done ?_)) | (apply W.of; constructor <;> first | (show W _ _ _ _ _ _ _ _ _) | (intro (al : Nat) h st; show W _ _ _ _ _ _ _ _ _) | (intro _ h st; show W _ _ _ _ _ _ _ _ _) | exact Sd))); refine W.call (hs := (po_Cover (P := P))) (w := ?_); rintro vv _ ⟨rfl, rfl⟩ h st; refine nj ?_; dsimp only [List.cons_append, List.nil_append] at st
  (repeat (first | (show W _ _ _ _ _ _ (.code (cond _ _ _) :: _) _ _; first | refine W.ct ?_ | refine W.cf ?_) | (show W _ _ _ _ _ _ (.ins (cond _ _ _ :: _) :: _) _ _; first | refine W.gt ?_ | refine W.gf ?_) | (show W _ _ _ _ _ _ [] _ _; refine W.of (.done ?_)) | (apply W.of; constructor <;> first | (show W _ _ _ _ _ _ _ _ _) | (intro (al : Nat) h st; show W _ _ _ _ _ _ _ _ _) | (intro _ h st; show W _ _ _ _ _ _ _ _ _) | exact Sd)))
  exact ⟨_, rfl, _, ⟨rfl, rfl⟩, st.sel Sels⟩
end Go.Proofs.Ytjdemlagmamlbaa

namespace Go.Proofs.Ytjdemlagmamlbaa
variable {P most : Nat} {zs : List (Option AmV)}
/-- an amap of three, with its number in the middle -/
def numA (O n : Nat) : AmV := ⟨O, [1, 1, 1], [0, 10 + (n : Int), 0]⟩
structure NumOk (zs : List (Option AmV)) (j : Nat) : Prop where
  len : zs.length = j
  at' : ∀ k, k < j → ∃ O, zs[k]? = some (some (numA O (k + 1)))
theorem NumOk.first {j : Nat} (h : NumOk zs j) : firstN zs = j := by
  have h1 := firstN_le (zs := zs)
  have hl := h.len
  by_cases hf : firstN zs < zs.length
  · obtain ⟨O, hO⟩ := h.at' (firstN zs) (by omega)
    rw [firstN_at hf] at hO; cases hO
  · omega
theorem NumOk.cnt {j : Nat} (h : NumOk zs j) : cntZ zs = j := by
  rw [cntZ_full (by rw [h.first, h.len]), h.len]
theorem NumOk.put {j : Nat} {b : AmV} (h : NumOk zs j) : putZ zs b = zs ++ [some b] := by
  rw [putZ, if_neg (by rw [h.first, h.len]; omega)]
theorem atZ_nat {i : Nat} {z : Option AmV} (h : zs[i]? = some z) : atZ zs ((i : Int) + 1) = z := by
  have hl := (List.getElem?_eq_some_iff.1 h).1
  rw [atZ, if_pos ⟨by omega, by omega⟩, show ((i : Int) + 1 - 1).toNat = i by omega, h]; cases z <;> rfl
theorem NumOk.set {j O : Nat} (h : NumOk zs j) : setZ (putZ zs (newAm O 3)) ((j : Int) + 1) 1 (10 + ((j : Int) + 1)) = zs ++ [some (numA O (j + 1))] := by
  have ha : atZ (putZ zs (newAm O 3)) ((j : Int) + 1) = some (newAm O 3) := atZ_nat (by rw [← h.first]; exact put_at)
  unfold setZ
  rw [ha]
  dsimp only
  rw [show ((j : Int) + 1 - 1).toNat = j by omega, h.put, List.set_append_right _ _ (by rw [h.len]; omega), h.len, Nat.sub_self]
  rfl
theorem NumOk.snoc {j O : Nat} (h : NumOk zs j) : NumOk (zs ++ [some (numA O (j + 1))]) (j + 1) := ⟨by simp [h.len], fun k hk => by
  by_cases hj : k < j
  · obtain ⟨O', hO⟩ := h.at' k hj
    exact ⟨O', by rw [List.getElem?_append_left (by rw [h.len]; exact hj)]; exact hO⟩
  · obtain rfl : k = j := by omega
    exact ⟨O, by rw [List.getElem?_append_right (by rw [h.len]; omega), h.len, Nat.sub_self]; rfl⟩⟩
structure NuS where
  j : Nat
  zs : List (Option AmV)
end Go.Proofs.Ytjdemlagmamlbaa

namespace Go.Proofs.Ytjdemlagmamlbaa
variable {P most : Nat} {zs : List (Option AmV)}
structure CpS where
  i : Nat
  an : List Int
structure CqS where
  j : Nat
  wv : AV
structure CpOk (n : Nat) (an : List Int) : Prop where
  len : an.length = n
  pos : ∀ x, x ∈ an → 0 ≤ x
end Go.Proofs.Ytjdemlagmamlbaa

namespace Go.Proofs.Ytjdemlagmamlbaa
/-- an act -/
structure AcP where
  kind : Int
  id : Int
  lo : Int
  hi : Int
abbrev AcP.cells (a : AcP) : List AV := [.int .i64 a.kind, .int .i64 a.id, .int .i64 a.lo, .int .i64 a.hi]
abbrev AcP.G (_ : AcP) : List Chunk := []
abbrev AcPC (v : AV) (l : List AcP) : Chunk := ArC v 4 AcP.cells AcP.G l
variable {p : AV}
abbrev acRow (a : AcP) : AObj := .row ty_law13_Act 4 false false (.vals a.cells)
end Go.Proofs.Ytjdemlagmamlbaa

namespace Go.Proofs.Ytjdemlagmamlbaa
variable {P : Nat}
structure CvOk (n i : Nat) (cs an : List Int) (nx : Int) : Prop where
  cl : cs.length = n
  an : an.length = n
  lo : ∀ c, c ∈ cs → 0 ≤ c
  hi : ∀ c, c ∈ cs → c ≤ 1 + i
  s : cs.sum ≠ 0
  n0 : 1 ≤ nx
  n1 : nx ≤ 1 + i
structure CvS where
  i : Nat
  O : Nat
  cs : List Int
  an : List Int
  nx : Int
end Go.Proofs.Ytjdemlagmamlbaa

namespace Go.Proofs.Ytjdemlagmamlbaa
abbrev raRow (D : Nat) (v : AV) : AObj := .row ty_ref13_Amap 2 false false (.vals [.ptr D 0, v])
def RaIs (a : AmV) (cs : List Chunk) : Prop := ∃ D v, cs = [.pt a.O (raRow D v), RcC D a.cs, VsC v 3 (a.an.map ikey) true] ∧ AmOk a
abbrev RaC (a : AmV) : Chunk := pk 50 (.ptr a.O 0) (RaIs a)
def rG : Option AmV → List Chunk
  | some a => [RaC a]
  | none => []
structure RpOk (most : Nat) (zs : List (Option AmV)) : Prop where
  m : most ≤ 4096
  l : zs.length ≤ most
abbrev rpRow (most : Nat) (sv : AV) : AObj := .row ty_ref13_Pool 2 false false (.vals [.int .i64 most, sv])
def RpIs (P most : Nat) (zs : List (Option AmV)) (cs : List Chunk) : Prop := ∃ sv, cs = [.pt P (rpRow most sv), VsC sv 148 (zs.map zptr) true, SepC (.ptr P 0) rG zs] ∧ RpOk most zs
abbrev RpC (P most : Nat) (zs : List (Option AmV)) : Chunk := pk 51 (.ptr P 0) (RpIs P most zs)
def RpXIs (P most : Nat) (zs : List (Option AmV)) (i : Nat) (cs : List Chunk) : Prop := ∃ sv, cs = [.pt P (rpRow most sv), VsC sv 148 (zs.map zptr) true, SepC (.ptr P 0) rG (zs.eraseIdx i)] ∧ RpOk most zs
abbrev RpXC (P most : Nat) (zs : List (Option AmV)) (i : Nat) : Chunk := pk 52 (.ptr P 0) (RpXIs P most zs i)
section
variable {P most : Nat} {zs : List (Option AmV)} {h : AHeap} {L R F : List Chunk} {i : Nat} {a : AmV}
theorem St.ra (st : St h L) (t : Take L (RaC a) R) : AmOk a := by
  obtain ⟨cs, ⟨D, v, _, hk⟩, _⟩ := (st.take t).unpack
  exact hk
theorem St.rp (st : St h L) (t : Take L (RpC P most zs) R) : RpOk most zs := by
  obtain ⟨cs, ⟨sv, _, hk⟩, _⟩ := (st.take t).unpack
  exact hk
theorem St.rpOut (st : St h L) (t : Take L (RpC P most zs) R) (hi : zs[i]? = some (some a)) : St h (RaC a :: RpXC P most zs i :: R) := by
  obtain ⟨cs, ⟨sv, rfl, hk⟩, st'⟩ := (st.take t).unpack
  have st1 : St h (RaC a :: SepC (.ptr P 0) rG (zs.eraseIdx i) :: .pt P (rpRow most sv) :: VsC sv 148 (zs.map zptr) true :: R) := St.sepOut (G := rG) (a := some a) st' Tk hi
  have st2 := St.packP (t := 52) (k := .ptr P 0) (P := RpXIs P most zs i) (cs := [.pt P (rpRow most sv), VsC sv 148 (zs.map zptr) true, SepC (.ptr P 0) rG (zs.eraseIdx i)]) st1 ⟨sv, rfl, hk⟩ Pks
  exact st2.sel Sels
theorem St.rpIn {b : AmV} (hb : b.O = a.O) (hi : zs[i]? = some (some a)) (st : St h L) {R' : List Chunk} (t : Take L (RaC b) R) (t' : Take R (RpXC P most zs i) R') : St h (RpC P most (zs.set i (some b)) :: R') := by
  have st1 := (st.take t).perm (List.Perm.cons _ t'.perm)
  have st2 := st1.sel (L' := RpXC P most zs i :: RaC b :: R') Sels
  obtain ⟨cs, ⟨sv, rfl, hk⟩, st3⟩ := st2.unpack
  have hl := (List.getElem?_eq_some_iff.1 hi).1
  have st4 : St h (SepC (.ptr P 0) rG (zs.set i (some b)) :: .pt P (rpRow most sv) :: VsC sv 148 (zs.map zptr) true :: R') := St.sepIn (G := rG) (a := some b) (st3.sel Sels) hl
  have e1 : (zs.set i (some b)).map zptr = zs.map zptr := by
    rw [List.map_set]
    refine set_same' ?_
    rw [List.getElem?_map, hi]
    simp [zptr, hb]
  refine St.pack (cs := [.pt P (rpRow most sv), VsC sv 148 (zs.map zptr) true, SepC (.ptr P 0) rG (zs.set i (some b))]) (st4.sel Sels) ⟨sv, by rw [e1], hk.m, by rw [List.length_set]; exact hk.l⟩
theorem St.rpBack (hi : zs[i]? = some (some a)) (st : St h L) {R' : List Chunk} (t : Take L (RaC a) R) (t' : Take R (RpXC P most zs i) R') : St h (RpC P most zs :: R') := by
  have := st.rpIn (b := a) rfl hi t t'
  rwa [set_same' hi] at this
end
variable {P most : Nat} {zs : List (Option AmV)} {a : AmV}
theorem rp_of {id : Int} : Spec R (.f n_ref13_Pool_Of) [.ptr P 0, .int .i64 id] [RpC P most zs] fun v Rs => v = zptr (atZ zs id) ∧ Rs = [RpC P most zs] := by
  refine spec_w (fun _ _ _ x => progI_call rfl rfl x) Njs rfl (fun h F st => ?_); dsimp only [List.cons_append, List.nil_append] at st
  obtain ⟨_, ⟨sv, rfl, hok⟩, st⟩ := St.unpack st; dsimp only [List.cons_append, List.nil_append] at st
  obtain ⟨sl, sj, ss⟩ := St.vs (v := sv) (l := zs.map zptr) st Tk
  rw [List.length_map] at sl
  have hl := hok.l
  have hm := hok.m
  by_cases h1 : 1 ≤ id
  · by_cases h2 : id ≤ zs.length
    · obtain ⟨i, rfl⟩ : ∃ i : Nat, id = (i : Int) + 1 := ⟨(id - 1).toNat, by omega⟩
      obtain ⟨gp, gq⟩ := d_vsIdx (v := sv) (l := zs.map zptr) (i := i) (kk := .i64) st Tk (by rw [List.length_map]; omega)
      obtain ⟨z, hz⟩ : ∃ z, zs[i]? = some z := ⟨zs[i]'(by omega), by simp⟩
      have e : atZ zs ((i : Int) + 1) = z := by
        rw [atZ, if_pos ⟨h1, h2⟩, show ((i : Int) + 1 - 1).toNat = i by omega, hz]; cases z <;> rfl
      have znj := zptr_nj z
      have zok := zptr_ok z
      (repeat (first | (show W _ _ _ _ _ _ (.code (cond _ _ _) :: _) _ _; first | refine W.ct ?_ | refine W.cf ?_) | (show W _ _ _ _ _ _ (.ins (cond _ _ _ :: _) :: _) _ _; first | refine W.gt ?_ | refine W.gf ?_) | (show W _ _ _ _ _ _ [] _ _; refine W.of (.done ?_)) | (apply W.of; constructor <;> first | (show W _ _ _ _ _ _ _ _ _) | (intro (al : Nat) h st; show W _ _ _ _ _ _ _ _ _) | (intro _ h st; show W _ _ _ _ _ _ _ _ _) | exact Sd)))
      rw [show (i : Int) + 1 - 1 = i by omega]
      (repeat (first | (show W _ _ _ _ _ _ (.code (cond _ _ _) :: _) _ _; first | refine W.ct ?_ | refine W.cf ?_) | (show W _ _ _ _ _ _ (.ins (cond _ _ _ :: _) :: _) _ _; first | refine W.gt ?_ | refine W.gf ?_) | (show W _ _ _ _ _ _ [] _ _; refine W.of (.done ?_)) | (apply W.of; constructor <;> first | (show W _ _ _ _ _ _ _ _ _) | (intro (al : Nat) h st; show W _ _ _ _ _ _ _ _ _) | (intro _ h st; show W _ _ _ _ _ _ _ _ _) | exact Sd))); refine W.do (ho := gp) (w := ?_)
      (repeat (first | (show W _ _ _ _ _ _ (.code (cond _ _ _) :: _) _ _; first | refine W.ct ?_ | refine W.cf ?_) | (show W _ _ _ _ _ _ (.ins (cond _ _ _ :: _) :: _) _ _; first | refine W.gt ?_ | refine W.gf ?_) | (show W _ _ _ _ _ _ [] _ _; refine W.of (.done ?_)) | (apply W.of; constructor <;> first | (show W _ _ _ _ _ _ _ _ _) | (intro (al : Nat) h st; show W _ _ _ _ _ _ _ _ _) | (intro _ h st; show W _ _ _ _ _ _ _ _ _) | exact Sd))); refine W.do (ho := (d_vsLoad (v := sv) (l := zs.map zptr) (x := zptr z) st Tk (by rw [List.getElem?_map, hz]; rfl))) (w := ?_)
      (repeat (first | (show W _ _ _ _ _ _ (.code (cond _ _ _) :: _) _ _; first | refine W.ct ?_ | refine W.cf ?_) | (show W _ _ _ _ _ _ (.ins (cond _ _ _ :: _) :: _) _ _; first | refine W.gt ?_ | refine W.gf ?_) | (show W _ _ _ _ _ _ [] _ _; refine W.of (.done ?_)) | (apply W.of; constructor <;> first | (show W _ _ _ _ _ _ _ _ _) | (intro (al : Nat) h st; show W _ _ _ _ _ _ _ _ _) | (intro _ h st; show W _ _ _ _ _ _ _ _ _) | exact Sd)))
      exact ⟨_, rfl, _, ⟨by rw [e]; rfl, rfl⟩, St.packP (t := 51) (P := RpIs P most zs) (cs := [_, _, _]) st ⟨sv, rfl, hok⟩ Pks⟩
    · (repeat (first | (show W _ _ _ _ _ _ (.code (cond _ _ _) :: _) _ _; first | refine W.ct ?_ | refine W.cf ?_) | (show W _ _ _ _ _ _ (.ins (cond _ _ _ :: _) :: _) _ _; first | refine W.gt ?_ | refine W.gf ?_) | (show W _ _ _ _ _ _ [] _ _; refine W.of (.done ?_)) | (apply W.of; constructor <;> first | (show W _ _ _ _ _ _ _ _ _) | (intro (al : Nat) h st; show W _ _ _ _ _ _ _ _ _) | (intro _ h st; show W _ _ _ _ _ _ _ _ _) | exact Sd)))
      exact ⟨_, rfl, _, ⟨by rw [atZ, if_neg (by omega)]; rfl, rfl⟩, St.packP (t := 51) (P := RpIs P most zs) (cs := [_, _, _]) st ⟨sv, rfl, hok⟩ Pks⟩
  · (repeat (first | (show W _ _ _ _ _ _ (.code (cond _ _ _) :: _) _ _; first | refine W.ct ?_ | refine W.cf ?_) | (show W _ _ _ _ _ _ (.ins (cond _ _ _ :: _) :: _) _ _; first | refine W.gt ?_ | refine W.gf ?_) | (show W _ _ _ _ _ _ [] _ _; refine W.of (.done ?_)) | (apply W.of; constructor <;> first | (show W _ _ _ _ _ _ _ _ _) | (intro (al : Nat) h st; show W _ _ _ _ _ _ _ _ _) | (intro _ h st; show W _ _ _ _ _ _ _ _ _) | exact Sd)))
    exact ⟨_, rfl, _, ⟨by rw [atZ, if_neg (by omega)]; rfl, rfl⟩, St.packP (t := 51) (P := RpIs P most zs) (cs := [_, _, _]) st ⟨sv, rfl, hok⟩ Pks⟩
theorem rp_Slots {id : Int} : Spec R (.f n_ref13_Pool_Slots) [.ptr P 0, .int .i64 id] [RpC P most zs] fun v Rs => v = .int .i64 (slotsZ zs id) ∧ Rs = [RpC P most zs] := by
  refine spec_w (fun _ _ _ x => progI_call rfl rfl x) Njs rfl (fun h F st => ?_); dsimp only [List.cons_append, List.nil_append] at st
  have znj := zptr_nj (atZ zs id)
  have zok := zptr_ok (atZ zs id)
  (repeat (first | (show W _ _ _ _ _ _ (.code (cond _ _ _) :: _) _ _; first | refine W.ct ?_ | refine W.cf ?_) | (show W _ _ _ _ _ _ (.ins (cond _ _ _ :: _) :: _) _ _; first | refine W.gt ?_ | refine W.gf ?_) | (show W _ _ _ _ _ _ [] _ _; refine W.of (.done ?_)) | (apply W.of; constructor <;> first | (show W _ _ _ _ _ _ _ _ _) | (intro (al : Nat) h st; show W _ _ _ _ _ _ _ _ _) | (intro _ h st; show W _ _ _ _ _ _ _ _ _) | exact Sd))); refine W.call (hs := rp_of) (w := ?_); rintro vv _ ⟨rfl, rfl⟩ h st; refine nj ?_; dsimp only [List.cons_append, List.nil_append] at st
  unfold slotsZ
  cases ha : atZ zs id with
  | some a =>
    dsimp only [zptr]
    obtain ⟨_, _, hz⟩ := atZ_some ha
    have st := st.rpOut Tk hz
    obtain ⟨_, ⟨D, v, rfl, hok⟩, st⟩ := St.unpack st; dsimp only [List.cons_append, List.nil_append] at st
    obtain ⟨vl, vj, vs⟩ := St.ivs (v := v) (cs := a.an) st Tk
    (repeat (first | (show W _ _ _ _ _ _ (.code (cond _ _ _) :: _) _ _; first | refine W.ct ?_ | refine W.cf ?_) | (show W _ _ _ _ _ _ (.ins (cond _ _ _ :: _) :: _) _ _; first | refine W.gt ?_ | refine W.gf ?_) | (show W _ _ _ _ _ _ [] _ _; refine W.of (.done ?_)) | (apply W.of; constructor <;> first | (show W _ _ _ _ _ _ _ _ _) | (intro (al : Nat) h st; show W _ _ _ _ _ _ _ _ _) | (intro _ h st; show W _ _ _ _ _ _ _ _ _) | exact Sd)))
    have st := St.packP (t := 50) (k := .ptr a.O 0) (P := RaIs a) (cs := [_, _, _]) st ⟨D, v, rfl, hok⟩ Pks
    exact ⟨_, rfl, _, ⟨rfl, rfl⟩, st.rpBack hz Tk Tk⟩
  | none =>
    dsimp only [zptr]
    (repeat (first | (show W _ _ _ _ _ _ (.code (cond _ _ _) :: _) _ _; first | refine W.ct ?_ | refine W.cf ?_) | (show W _ _ _ _ _ _ (.ins (cond _ _ _ :: _) :: _) _ _; first | refine W.gt ?_ | refine W.gf ?_) | (show W _ _ _ _ _ _ [] _ _; refine W.of (.done ?_)) | (apply W.of; constructor <;> first | (show W _ _ _ _ _ _ _ _ _) | (intro (al : Nat) h st; show W _ _ _ _ _ _ _ _ _) | (intro _ h st; show W _ _ _ _ _ _ _ _ _) | exact Sd)))
    exact ⟨_, rfl, _, ⟨rfl, rfl⟩, st⟩
theorem rp_Get {id slot : Int} : Spec R (.f n_ref13_Pool_Get) [.ptr P 0, .int .i64 id, .int .i64 slot] [RpC P most zs] fun v Rs => v = .int .i64 (getZ zs id slot) ∧ Rs = [RpC P most zs] := by
  refine spec_w (fun _ _ _ x => progI_call rfl rfl x) Njs rfl (fun h F st => ?_); dsimp only [List.cons_append, List.nil_append] at st
  by_cases h0 : slot < 0
  · (repeat (first | (show W _ _ _ _ _ _ (.code (cond _ _ _) :: _) _ _; first | refine W.ct ?_ | refine W.cf ?_) | (show W _ _ _ _ _ _ (.ins (cond _ _ _ :: _) :: _) _ _; first | refine W.gt ?_ | refine W.gf ?_) | (show W _ _ _ _ _ _ [] _ _; refine W.of (.done ?_)) | (apply W.of; constructor <;> first | (show W _ _ _ _ _ _ _ _ _) | (intro (al : Nat) h st; show W _ _ _ _ _ _ _ _ _) | (intro _ h st; show W _ _ _ _ _ _ _ _ _) | exact Sd)))
    refine ⟨_, rfl, _, ⟨congrArg (AV.int .i64) ?_, rfl⟩, st⟩
    unfold getZ
    cases atZ zs id with
    | none => rfl
    | some a => dsimp only; rw [if_neg (by omega)]
  · have hpo := st.rp Tk
    have znj := zptr_nj (atZ zs id)
    have zok := zptr_ok (atZ zs id)
    (repeat (first | (show W _ _ _ _ _ _ (.code (cond _ _ _) :: _) _ _; first | refine W.ct ?_ | refine W.cf ?_) | (show W _ _ _ _ _ _ (.ins (cond _ _ _ :: _) :: _) _ _; first | refine W.gt ?_ | refine W.gf ?_) | (show W _ _ _ _ _ _ [] _ _; refine W.of (.done ?_)) | (apply W.of; constructor <;> first | (show W _ _ _ _ _ _ _ _ _) | (intro (al : Nat) h st; show W _ _ _ _ _ _ _ _ _) | (intro _ h st; show W _ _ _ _ _ _ _ _ _) | exact Sd))); refine W.call (hs := rp_Slots) (w := ?_); rintro vv _ ⟨rfl, rfl⟩ h st; refine nj ?_; dsimp only [List.cons_append, List.nil_append] at st
    unfold slotsZ getZ
    cases ha : atZ zs id with
    | none =>
      dsimp only
      (repeat (first | (show W _ _ _ _ _ _ (.code (cond _ _ _) :: _) _ _; first | refine W.ct ?_ | refine W.cf ?_) | (show W _ _ _ _ _ _ (.ins (cond _ _ _ :: _) :: _) _ _; first | refine W.gt ?_ | refine W.gf ?_) | (show W _ _ _ _ _ _ [] _ _; refine W.of (.done ?_)) | (apply W.of; constructor <;> first | (show W _ _ _ _ _ _ _ _ _) | (intro (al : Nat) h st; show W _ _ _ _ _ _ _ _ _) | (intro _ h st; show W _ _ _ _ _ _ _ _ _) | exact Sd)))
      exact ⟨_, rfl, _, ⟨rfl, rfl⟩, st⟩
    | some a =>
      dsimp only
      by_cases h1 : slot < a.an.length
      · have znj := zptr_nj (atZ zs id)
        (repeat (first | (show W _ _ _ _ _ _ (.code (cond _ _ _) :: _) _ _; first | refine W.ct ?_ | refine W.cf ?_) | (show W _ _ _ _ _ _ (.ins (cond _ _ _ :: _) :: _) _ _; first | refine W.gt ?_ | refine W.gf ?_) | (show W _ _ _ _ _ _ [] _ _; refine W.of (.done ?_)) | (apply W.of; constructor <;> first | (show W _ _ _ _ _ _ _ _ _) | (intro (al : Nat) h st; show W _ _ _ _ _ _ _ _ _) | (intro _ h st; show W _ _ _ _ _ _ _ _ _) | exact Sd))); refine W.call (hs := rp_of) (w := ?_); rintro vv _ ⟨rfl, rfl⟩ h st; refine nj ?_; dsimp only [List.cons_append, List.nil_append] at st
        rw [ha]
        dsimp only [zptr]
        obtain ⟨_, _, hz⟩ := atZ_some ha
        have st := st.rpOut Tk hz
        obtain ⟨_, ⟨D, v, rfl, hok⟩, st⟩ := St.unpack st; dsimp only [List.cons_append, List.nil_append] at st
        obtain ⟨vl, vj, vs⟩ := St.ivs (v := v) (cs := a.an) st Tk
        obtain ⟨i, rfl⟩ : ∃ i : Nat, slot = (i : Int) := ⟨slot.toNat, by omega⟩
        obtain ⟨x, hx⟩ : ∃ x, a.an[i]? = some x := ⟨a.an[i]'(by omega), by simp⟩
        obtain ⟨gp, gq⟩ := d_vsIdx (v := v) (l := a.an.map ikey) (i := i) (kk := .i64) st Tk (by rw [List.length_map]; omega)
        (repeat (first | (show W _ _ _ _ _ _ (.code (cond _ _ _) :: _) _ _; first | refine W.ct ?_ | refine W.cf ?_) | (show W _ _ _ _ _ _ (.ins (cond _ _ _ :: _) :: _) _ _; first | refine W.gt ?_ | refine W.gf ?_) | (show W _ _ _ _ _ _ [] _ _; refine W.of (.done ?_)) | (apply W.of; constructor <;> first | (show W _ _ _ _ _ _ _ _ _) | (intro (al : Nat) h st; show W _ _ _ _ _ _ _ _ _) | (intro _ h st; show W _ _ _ _ _ _ _ _ _) | exact Sd))); refine W.do (ho := gp) (w := ?_)
        (repeat (first | (show W _ _ _ _ _ _ (.code (cond _ _ _) :: _) _ _; first | refine W.ct ?_ | refine W.cf ?_) | (show W _ _ _ _ _ _ (.ins (cond _ _ _ :: _) :: _) _ _; first | refine W.gt ?_ | refine W.gf ?_) | (show W _ _ _ _ _ _ [] _ _; refine W.of (.done ?_)) | (apply W.of; constructor <;> first | (show W _ _ _ _ _ _ _ _ _) | (intro (al : Nat) h st; show W _ _ _ _ _ _ _ _ _) | (intro _ h st; show W _ _ _ _ _ _ _ _ _) | exact Sd))); refine W.do (ho := (d_vsLoad (v := v) (l := a.an.map ikey) (x := ikey x) st Tk (by rw [List.getElem?_map, hx]; rfl))) (w := ?_)
        (repeat (first | (show W _ _ _ _ _ _ (.code (cond _ _ _) :: _) _ _; first | refine W.ct ?_ | refine W.cf ?_) | (show W _ _ _ _ _ _ (.ins (cond _ _ _ :: _) :: _) _ _; first | refine W.gt ?_ | refine W.gf ?_) | (show W _ _ _ _ _ _ [] _ _; refine W.of (.done ?_)) | (apply W.of; constructor <;> first | (show W _ _ _ _ _ _ _ _ _) | (intro (al : Nat) h st; show W _ _ _ _ _ _ _ _ _) | (intro _ h st; show W _ _ _ _ _ _ _ _ _) | exact Sd)))
        have st := St.packP (t := 50) (k := .ptr a.O 0) (P := RaIs a) (cs := [.pt a.O (raRow D v), RcC D a.cs, VsC v 3 (a.an.map ikey) true]) st ⟨D, v, rfl, hok⟩ Pks
        exact ⟨_, rfl, _, ⟨by rw [if_pos ⟨by omega, h1⟩, Int.toNat_natCast, hx]; rfl, rfl⟩, st.rpBack hz Tk Tk⟩
      · (repeat (first | (show W _ _ _ _ _ _ (.code (cond _ _ _) :: _) _ _; first | refine W.ct ?_ | refine W.cf ?_) | (show W _ _ _ _ _ _ (.ins (cond _ _ _ :: _) :: _) _ _; first | refine W.gt ?_ | refine W.gf ?_) | (show W _ _ _ _ _ _ [] _ _; refine W.of (.done ?_)) | (apply W.of; constructor <;> first | (show W _ _ _ _ _ _ _ _ _) | (intro (al : Nat) h st; show W _ _ _ _ _ _ _ _ _) | (intro _ h st; show W _ _ _ _ _ _ _ _ _) | exact Sd)))
        exact ⟨_, rfl, _, ⟨by rw [if_neg (by omega)]; rfl, rfl⟩, st⟩
end Go.Proofs.Ytjdemlagmamlbaa

namespace Go.Proofs.Ytjdemlagmamlbaa
variable {P most : Nat} {zs : List (Option AmV)} {a : AmV}
theorem rp_Cover {id slot : Int} : Spec R (.f n_ref13_Pool_Cover) [.ptr P 0, .int .i64 id, .int .i64 slot] [RpC P most zs] fun v Rs => v = .int .i64 (coverZ zs id slot) ∧ Rs = [RpC P most zs] := by
  refine spec_w (fun _ _ _ x => progI_call rfl rfl x) Njs rfl (fun h F st => ?_); dsimp only [List.cons_append, List.nil_append] at st
  have znj := zptr_nj (atZ zs id)
  have zok := zptr_ok (atZ zs id)
  (repeat (first | (show W _ _ _ _ _ _ (.code (cond _ _ _) :: _) _ _; first | refine W.ct ?_ | refine W.cf ?_) | (show W _ _ _ _ _ _ (.ins (cond _ _ _ :: _) :: _) _ _; first | refine W.gt ?_ | refine W.gf ?_) | (show W _ _ _ _ _ _ [] _ _; refine W.of (.done ?_)) | (apply W.of; constructor <;> first | (show W _ _ _ _ _ _ _ _ _) | (intro (al : Nat) h st; show W _ _ _ _ _ _ _ _ _) | (intro _ h st; show W _ _ _ _ _ _ _ _ _) | exact Sd))); refine W.call (hs := rp_of) (w := ?_); rintro vv _ ⟨rfl, rfl⟩ h st; refine nj ?_; dsimp only [List.cons_append, List.nil_append] at st
  unfold coverZ
  cases ha : atZ zs id with
  | some a =>
    dsimp only [zptr]
    obtain ⟨_, _, hz⟩ := atZ_some ha
    have st := st.rpOut Tk hz
    obtain ⟨_, ⟨D, v, rfl, hok⟩, st⟩ := St.unpack st; dsimp only [List.cons_append, List.nil_append] at st
    (repeat (first | (show W _ _ _ _ _ _ (.code (cond _ _ _) :: _) _ _; first | refine W.ct ?_ | refine W.cf ?_) | (show W _ _ _ _ _ _ (.ins (cond _ _ _ :: _) :: _) _ _; first | refine W.gt ?_ | refine W.gf ?_) | (show W _ _ _ _ _ _ [] _ _; refine W.of (.done ?_)) | (apply W.of; constructor <;> first | (show W _ _ _ _ _ _ _ _ _) | (intro (al : Nat) h st; show W _ _ _ _ _ _ _ _ _) | (intro _ h st; show W _ _ _ _ _ _ _ _ _) | exact Sd))); refine W.call (hs := (rc_At (D := D) (cs := a.cs))) (w := ?_); rintro vv _ ⟨rfl, rfl⟩ h st; refine nj ?_; dsimp only [List.cons_append, List.nil_append] at st
    by_cases h0 : atL a.cs slot < 0
    · (repeat (first | (show W _ _ _ _ _ _ (.code (cond _ _ _) :: _) _ _; first | refine W.ct ?_ | refine W.cf ?_) | (show W _ _ _ _ _ _ (.ins (cond _ _ _ :: _) :: _) _ _; first | refine W.gt ?_ | refine W.gf ?_) | (show W _ _ _ _ _ _ [] _ _; refine W.of (.done ?_)) | (apply W.of; constructor <;> first | (show W _ _ _ _ _ _ _ _ _) | (intro (al : Nat) h st; show W _ _ _ _ _ _ _ _ _) | (intro _ h st; show W _ _ _ _ _ _ _ _ _) | exact Sd)))
      have st := St.packP (t := 50) (k := .ptr a.O 0) (P := RaIs a) (cs := [.pt a.O (raRow D v), RcC D a.cs, VsC v 3 (a.an.map ikey) true]) st ⟨D, v, rfl, hok⟩ Pks
      exact ⟨_, rfl, _, ⟨by rw [if_pos (by omega)]; rfl, rfl⟩, st.rpBack hz Tk Tk⟩
    · (repeat (first | (show W _ _ _ _ _ _ (.code (cond _ _ _) :: _) _ _; first | refine W.ct ?_ | refine W.cf ?_) | (show W _ _ _ _ _ _ (.ins (cond _ _ _ :: _) :: _) _ _; first | refine W.gt ?_ | refine W.gf ?_) | (show W _ _ _ _ _ _ [] _ _; refine W.of (.done ?_)) | (apply W.of; constructor <;> first | (show W _ _ _ _ _ _ _ _ _) | (intro (al : Nat) h st; show W _ _ _ _ _ _ _ _ _) | (intro _ h st; show W _ _ _ _ _ _ _ _ _) | exact Sd))); refine W.call (hs := (rc_At (D := D) (cs := a.cs))) (w := ?_); rintro vv _ ⟨rfl, rfl⟩ h st; refine nj ?_; dsimp only [List.cons_append, List.nil_append] at st
      (repeat (first | (show W _ _ _ _ _ _ (.code (cond _ _ _) :: _) _ _; first | refine W.ct ?_ | refine W.cf ?_) | (show W _ _ _ _ _ _ (.ins (cond _ _ _ :: _) :: _) _ _; first | refine W.gt ?_ | refine W.gf ?_) | (show W _ _ _ _ _ _ [] _ _; refine W.of (.done ?_)) | (apply W.of; constructor <;> first | (show W _ _ _ _ _ _ _ _ _) | (intro (al : Nat) h st; show W _ _ _ _ _ _ _ _ _) | (intro _ h st; show W _ _ _ _ _ _ _ _ _) | exact Sd)))
      have st := St.packP (t := 50) (k := .ptr a.O 0) (P := RaIs a) (cs := [.pt a.O (raRow D v), RcC D a.cs, VsC v 3 (a.an.map ikey) true]) st ⟨D, v, rfl, hok⟩ Pks
      exact ⟨_, rfl, _, ⟨by rw [if_neg (by omega)]; rfl, rfl⟩, st.rpBack hz Tk Tk⟩
  | none =>
    dsimp only [zptr]
    (repeat (first | (show W _ _ _ _ _ _ (.code (cond _ _ _) :: _) _ _; first | refine W.ct ?_ | refine W.cf ?_) | (show W _ _ _ _ _ _ (.ins (cond _ _ _ :: _) :: _) _ _; first | refine W.gt ?_ | refine W.gf ?_) | (show W _ _ _ _ _ _ [] _ _; refine W.of (.done ?_)) | (apply W.of; constructor <;> first | (show W _ _ _ _ _ _ _ _ _) | (intro (al : Nat) h st; show W _ _ _ _ _ _ _ _ _) | (intro _ h st; show W _ _ _ _ _ _ _ _ _) | exact Sd)))
    exact ⟨_, rfl, _, ⟨rfl, rfl⟩, st⟩
theorem rp_New {m : Int} : Spec R (.f n_ref13_New) [.int .i64 m] [] fun v Rs => (0 ≤ m ∧ m ≤ 4096 ∧ ∃ P, v = .ptr P 0 ∧ Rs = [RpC P m.toNat []]) ∨ (¬ (0 ≤ m ∧ m ≤ 4096) ∧ v = .nilptr ∧ Rs = []) := by
  refine spec_w (fun _ _ _ x => progI_call rfl rfl x) Njs rfl (fun h F st => ?_); dsimp only [List.cons_append, List.nil_append] at st
  by_cases h0 : m < 0
  · (repeat (first | (show W _ _ _ _ _ _ (.code (cond _ _ _) :: _) _ _; first | refine W.ct ?_ | refine W.cf ?_) | (show W _ _ _ _ _ _ (.ins (cond _ _ _ :: _) :: _) _ _; first | refine W.gt ?_ | refine W.gf ?_) | (show W _ _ _ _ _ _ [] _ _; refine W.of (.done ?_)) | (apply W.of; constructor <;> first | (show W _ _ _ _ _ _ _ _ _) | (intro (al : Nat) h st; show W _ _ _ _ _ _ _ _ _) | (intro _ h st; show W _ _ _ _ _ _ _ _ _) | exact Sd)))
    exact ⟨_, rfl, _, .inr ⟨by omega, rfl, rfl⟩, st⟩
  · by_cases h1 : m > 4096
    · (repeat (first | (show W _ _ _ _ _ _ (.code (cond _ _ _) :: _) _ _; first | refine W.ct ?_ | refine W.cf ?_) | (show W _ _ _ _ _ _ (.ins (cond _ _ _ :: _) :: _) _ _; first | refine W.gt ?_ | refine W.gf ?_) | (show W _ _ _ _ _ _ [] _ _; refine W.of (.done ?_)) | (apply W.of; constructor <;> first | (show W _ _ _ _ _ _ _ _ _) | (intro (al : Nat) h st; show W _ _ _ _ _ _ _ _ _) | (intro _ h st; show W _ _ _ _ _ _ _ _ _) | exact Sd)))
      exact ⟨_, rfl, _, .inr ⟨by omega, rfl, rfl⟩, st⟩
    · obtain ⟨k, rfl⟩ : ∃ k : Nat, m = (k : Int) := ⟨m.toNat, by omega⟩
      (repeat (first | (show W _ _ _ _ _ _ (.code (cond _ _ _) :: _) _ _; first | refine W.ct ?_ | refine W.cf ?_) | (show W _ _ _ _ _ _ (.ins (cond _ _ _ :: _) :: _) _ _; first | refine W.gt ?_ | refine W.gf ?_) | (show W _ _ _ _ _ _ [] _ _; refine W.of (.done ?_)) | (apply W.of; constructor <;> first | (show W _ _ _ _ _ _ _ _ _) | (intro (al : Nat) h st; show W _ _ _ _ _ _ _ _ _) | (intro _ h st; show W _ _ _ _ _ _ _ _ _) | exact Sd)))
      obtain ⟨P, rfl⟩ : ∃ y, y = al := ⟨_, rfl⟩
      have st := st.vsNil 148 true
      have st := st.sepNil (.ptr P 0) rG
      have st := St.packP (t := 51) (k := .ptr P 0) (P := RpIs P k []) (cs := [.pt P (rpRow k .nilsl), VsC .nilsl 148 [] true, SepC (.ptr P 0) rG []]) st ⟨.nilsl, rfl, by omega, by simp⟩ Pks
      exact ⟨_, rfl, _, .inl ⟨by omega, by omega, P, rfl, rfl⟩, st⟩
theorem rp_Ids : Spec R (.f n_ref13_Pool_Ids) [.ptr P 0] [RpC P most zs] fun v Rs => v.notJunk = some v ∧ sliceLen v = some (idsZ 1 zs).length ∧ Rs = [VsC v 3 ((idsZ 1 zs).map ikey) true, RpC P most zs] := by
  refine spec_w (fun _ _ _ x => progI_call rfl rfl x) Njs rfl (fun h F st => ?_); dsimp only [List.cons_append, List.nil_append] at st
  obtain ⟨_, ⟨sv, rfl, hpo⟩, st⟩ := St.unpack st; dsimp only [List.cons_append, List.nil_append] at st
  have hm := hpo.m
  have hl := hpo.l
  obtain ⟨sl, sj, ss⟩ := St.vs (v := sv) (l := zs.map zptr) st Tk
  rw [List.length_map] at sl
  (repeat (first | (show W _ _ _ _ _ _ (.code (cond _ _ _) :: _) _ _; first | refine W.ct ?_ | refine W.cf ?_) | (show W _ _ _ _ _ _ (.ins (cond _ _ _ :: _) :: _) _ _; first | refine W.gt ?_ | refine W.gf ?_) | (show W _ _ _ _ _ _ [] _ _; refine W.of (.done ?_)) | (apply W.of; constructor <;> first | (show W _ _ _ _ _ _ _ _ _) | (intro (al : Nat) h st; show W _ _ _ _ _ _ _ _ _) | (intro _ h st; show W _ _ _ _ _ _ _ _ _) | exact Sd)))
  refine W.loop (fun y : IdS => [(3, y.ov), (9, sv), (10, .int .i64 zs.length), (11, .int .i64 y.i)]) (fun y => VsC y.ov 3 ((idsZ 1 (zs.take y.i)).map ikey) true :: .pt P (rpRow most sv) :: VsC sv 148 (zs.map zptr) true :: SepC (.ptr P 0) rG zs :: F)
    (fun y => y.i ≤ zs.length) (fun y => zs.length - y.i) ⟨0, .nilsl⟩ (small_rounds (by simp only; omega)) Sbs ?_ (Nat.zero_le _) ?_
  · have st := st.vsNil 3 true
    exact st.sel Sels
  clear st
  intro ⟨i, ov⟩ h hi st
  dsimp only at hi st ⊢
  obtain ⟨ol, oj, oo⟩ := St.ivs (v := ov) (cs := idsZ 1 (zs.take i)) st Tk
  have hol : (idsZ 1 (zs.take i)).length ≤ 4096 := by rw [idsZ_len]; have := cntZ_le (zs := zs.take i); rw [List.length_take] at this; omega
  by_cases hlt : i < zs.length
  · obtain ⟨z, hz⟩ : ∃ z, zs[i]? = some z := ⟨zs[i], by simp [hlt]⟩
    have znj := zptr_nj z
    have zok := zptr_ok z
    have ep : idsZ 1 (zs.take (i + 1)) = idsZ 1 (zs.take i) ++ oneI z ((1 : Int) + i) := by
      rw [take_snoc1 hz, idsZ_snoc, List.length_take, Nat.min_eq_left (by omega)]
    obtain ⟨gp, gq⟩ := d_vsIdx (v := sv) (l := zs.map zptr) (i := i) (kk := .i64) st Tk (by rw [List.length_map]; omega)
    (repeat (first | (show W _ _ _ _ _ _ (.code (cond _ _ _) :: _) _ _; first | refine W.ct ?_ | refine W.cf ?_) | (show W _ _ _ _ _ _ (.ins (cond _ _ _ :: _) :: _) _ _; first | refine W.gt ?_ | refine W.gf ?_) | (show W _ _ _ _ _ _ [] _ _; refine W.of (.done ?_)) | (apply W.of; constructor <;> first | (show W _ _ _ _ _ _ _ _ _) | (intro (al : Nat) h st; show W _ _ _ _ _ _ _ _ _) | (intro _ h st; show W _ _ _ _ _ _ _ _ _) | exact Sd))); refine W.do (ho := gp) (w := ?_)
    (repeat (first | (show W _ _ _ _ _ _ (.code (cond _ _ _) :: _) _ _; first | refine W.ct ?_ | refine W.cf ?_) | (show W _ _ _ _ _ _ (.ins (cond _ _ _ :: _) :: _) _ _; first | refine W.gt ?_ | refine W.gf ?_) | (show W _ _ _ _ _ _ [] _ _; refine W.of (.done ?_)) | (apply W.of; constructor <;> first | (show W _ _ _ _ _ _ _ _ _) | (intro (al : Nat) h st; show W _ _ _ _ _ _ _ _ _) | (intro _ h st; show W _ _ _ _ _ _ _ _ _) | exact Sd))); refine W.do (ho := (d_vsLoad (v := sv) (l := zs.map zptr) (x := zptr z) st Tk (by rw [List.getElem?_map, hz]; rfl))) (w := ?_)
    cases z with
    | none =>
      dsimp only [zptr, oneI] at ep ⊢
      rw [List.append_nil] at ep
      (repeat (first | (show W _ _ _ _ _ _ (.code (cond _ _ _) :: _) _ _; first | refine W.ct ?_ | refine W.cf ?_) | (show W _ _ _ _ _ _ (.ins (cond _ _ _ :: _) :: _) _ _; first | refine W.gt ?_ | refine W.gf ?_) | (show W _ _ _ _ _ _ [] _ _; refine W.of (.done ?_)) | (apply W.of; constructor <;> first | (show W _ _ _ _ _ _ _ _ _) | (intro (al : Nat) h st; show W _ _ _ _ _ _ _ _ _) | (intro _ h st; show W _ _ _ _ _ _ _ _ _) | exact Sd)))
      rw [← ep] at st
      refine W.of (.lp ?_)
      exact ⟨⟨i + 1, ov⟩, by simp only; omega, hlt, Sbs, st.sel Sels⟩
    | some b =>
      dsimp only [zptr, oneI] at ep ⊢
      (repeat (first | (show W _ _ _ _ _ _ (.code (cond _ _ _) :: _) _ _; first | refine W.ct ?_ | refine W.cf ?_) | (show W _ _ _ _ _ _ (.ins (cond _ _ _ :: _) :: _) _ _; first | refine W.gt ?_ | refine W.gf ?_) | (show W _ _ _ _ _ _ [] _ _; refine W.of (.done ?_)) | (apply W.of; constructor <;> first | (show W _ _ _ _ _ _ _ _ _) | (intro (al : Nat) h st; show W _ _ _ _ _ _ _ _ _) | (intro _ h st; show W _ _ _ _ _ _ _ _ _) | exact Sd)))
      have st := St.vsRow (l := [.int .i64 ((i : Int) + 1)]) (e := 3) st Tk rfl
      (repeat (first | (show W _ _ _ _ _ _ (.code (cond _ _ _) :: _) _ _; first | refine W.ct ?_ | refine W.cf ?_) | (show W _ _ _ _ _ _ (.ins (cond _ _ _ :: _) :: _) _ _; first | refine W.gt ?_ | refine W.gf ?_) | (show W _ _ _ _ _ _ [] _ _; refine W.of (.done ?_)) | (apply W.of; constructor <;> first | (show W _ _ _ _ _ _ _ _ _) | (intro (al : Nat) h st; show W _ _ _ _ _ _ _ _ _) | (intro _ h st; show W _ _ _ _ _ _ _ _ _) | exact Sd))); refine W.ef (ho := (e_vsAppend (s := ov) (l' := [.int .i64 ((i : Int) + 1)]) st Tk Tk (by simp; omega) (by simp; omega))) (w := ?_); rintro vv h ⟨cj, cl, st⟩; refine nj ?_
      rw [show (idsZ 1 (zs.take i)).map ikey ++ [.int .i64 ((i : Int) + 1)] = (idsZ 1 (zs.take (i + 1))).map ikey by rw [ep, List.map_append, Int.add_comm]; rfl] at st
      (repeat (first | (show W _ _ _ _ _ _ (.code (cond _ _ _) :: _) _ _; first | refine W.ct ?_ | refine W.cf ?_) | (show W _ _ _ _ _ _ (.ins (cond _ _ _ :: _) :: _) _ _; first | refine W.gt ?_ | refine W.gf ?_) | (show W _ _ _ _ _ _ [] _ _; refine W.of (.done ?_)) | (apply W.of; constructor <;> first | (show W _ _ _ _ _ _ _ _ _) | (intro (al : Nat) h st; show W _ _ _ _ _ _ _ _ _) | (intro _ h st; show W _ _ _ _ _ _ _ _ _) | exact Sd)))
      refine W.of (.lp ?_)
      exact ⟨⟨i + 1, vv⟩, by simp only; omega, hlt, Sbs, st.sel Sels⟩
  · have e : i = zs.length := by omega
    subst e
    rw [List.take_length] at st ol
    (repeat (first | (show W _ _ _ _ _ _ (.code (cond _ _ _) :: _) _ _; first | refine W.ct ?_ | refine W.cf ?_) | (show W _ _ _ _ _ _ (.ins (cond _ _ _ :: _) :: _) _ _; first | refine W.gt ?_ | refine W.gf ?_) | (show W _ _ _ _ _ _ [] _ _; refine W.of (.done ?_)) | (apply W.of; constructor <;> first | (show W _ _ _ _ _ _ _ _ _) | (intro (al : Nat) h st; show W _ _ _ _ _ _ _ _ _) | (intro _ h st; show W _ _ _ _ _ _ _ _ _) | exact Sd)))
    have st := St.packP (t := 51) (k := .ptr P 0) (P := RpIs P most zs) (cs := [.pt P (rpRow most sv), VsC sv 148 (zs.map zptr) true, SepC (.ptr P 0) rG zs]) st ⟨sv, rfl, hpo⟩ Pks
    exact ⟨_, rfl, _, ⟨oj, ol, rfl⟩, st.sel Sels⟩
end Go.Proofs.Ytjdemlagmamlbaa

namespace Go.Proofs.Ytjdemlagmamlbaa
variable {P most : Nat} {zs : List (Option AmV)} {a : AmV}
theorem rp_Set {id slot x : Int} : Spec R (.f n_ref13_Pool_Set) [.ptr P 0, .int .i64 id, .int .i64 slot, .int .i64 x] [RpC P most zs] fun v Rs =>
    (atZ zs id = none ∧ v = .tuple [.int .i64 0, .int .i64 7] ∧ Rs = [RpC P most zs]) ∨
    (∃ a, atZ zs id = some a ∧ (coverZ zs id slot = 0 ∨ x < 0) ∧ v = .tuple [.int .i64 0, .int .i64 2] ∧ Rs = [RpC P most zs]) ∨
    (∃ a, atZ zs id = some a ∧ ¬ (coverZ zs id slot = 0 ∨ x < 0) ∧ v = .tuple [.int .i64 (getZ zs id slot), .int .i64 0] ∧ Rs = [RpC P most (setZ zs id slot x)]) := by
  refine spec_w (fun _ _ _ x => progI_call rfl rfl x) Njs rfl (fun h F st => ?_); dsimp only [List.cons_append, List.nil_append] at st
  have znj := zptr_nj (atZ zs id)
  have zok := zptr_ok (atZ zs id)
  (repeat (first | (show W _ _ _ _ _ _ (.code (cond _ _ _) :: _) _ _; first | refine W.ct ?_ | refine W.cf ?_) | (show W _ _ _ _ _ _ (.ins (cond _ _ _ :: _) :: _) _ _; first | refine W.gt ?_ | refine W.gf ?_) | (show W _ _ _ _ _ _ [] _ _; refine W.of (.done ?_)) | (apply W.of; constructor <;> first | (show W _ _ _ _ _ _ _ _ _) | (intro (al : Nat) h st; show W _ _ _ _ _ _ _ _ _) | (intro _ h st; show W _ _ _ _ _ _ _ _ _) | exact Sd))); refine W.call (hs := rp_of) (w := ?_); rintro vv _ ⟨rfl, rfl⟩ h st; refine nj ?_; dsimp only [List.cons_append, List.nil_append] at st
  cases ha : atZ zs id with
  | none =>
    dsimp only [zptr]
    (repeat (first | (show W _ _ _ _ _ _ (.code (cond _ _ _) :: _) _ _; first | refine W.ct ?_ | refine W.cf ?_) | (show W _ _ _ _ _ _ (.ins (cond _ _ _ :: _) :: _) _ _; first | refine W.gt ?_ | refine W.gf ?_) | (show W _ _ _ _ _ _ [] _ _; refine W.of (.done ?_)) | (apply W.of; constructor <;> first | (show W _ _ _ _ _ _ _ _ _) | (intro (al : Nat) h st; show W _ _ _ _ _ _ _ _ _) | (intro _ h st; show W _ _ _ _ _ _ _ _ _) | exact Sd)))
    exact ⟨_, rfl, _, .inl ⟨rfl, rfl, rfl⟩, st⟩
  | some a =>
    dsimp only [zptr]
    obtain ⟨_, _, hz⟩ := atZ_some ha
    (repeat (first | (show W _ _ _ _ _ _ (.code (cond _ _ _) :: _) _ _; first | refine W.ct ?_ | refine W.cf ?_) | (show W _ _ _ _ _ _ (.ins (cond _ _ _ :: _) :: _) _ _; first | refine W.gt ?_ | refine W.gf ?_) | (show W _ _ _ _ _ _ [] _ _; refine W.of (.done ?_)) | (apply W.of; constructor <;> first | (show W _ _ _ _ _ _ _ _ _) | (intro (al : Nat) h st; show W _ _ _ _ _ _ _ _ _) | (intro _ h st; show W _ _ _ _ _ _ _ _ _) | exact Sd))); refine W.call (hs := rp_Cover) (w := ?_); rintro vv _ ⟨rfl, rfl⟩ h st; refine nj ?_; dsimp only [List.cons_append, List.nil_append] at st
    by_cases h0 : coverZ zs id slot = 0
    · rw [h0]
      (repeat (first | (show W _ _ _ _ _ _ (.code (cond _ _ _) :: _) _ _; first | refine W.ct ?_ | refine W.cf ?_) | (show W _ _ _ _ _ _ (.ins (cond _ _ _ :: _) :: _) _ _; first | refine W.gt ?_ | refine W.gf ?_) | (show W _ _ _ _ _ _ [] _ _; refine W.of (.done ?_)) | (apply W.of; constructor <;> first | (show W _ _ _ _ _ _ _ _ _) | (intro (al : Nat) h st; show W _ _ _ _ _ _ _ _ _) | (intro _ h st; show W _ _ _ _ _ _ _ _ _) | exact Sd)))
      exact ⟨_, rfl, _, .inr (.inl ⟨a, rfl, .inl rfl, rfl, rfl⟩), st⟩
    · by_cases h1 : x < 0
      · (repeat (first | (show W _ _ _ _ _ _ (.code (cond _ _ _) :: _) _ _; first | refine W.ct ?_ | refine W.cf ?_) | (show W _ _ _ _ _ _ (.ins (cond _ _ _ :: _) :: _) _ _; first | refine W.gt ?_ | refine W.gf ?_) | (show W _ _ _ _ _ _ [] _ _; refine W.of (.done ?_)) | (apply W.of; constructor <;> first | (show W _ _ _ _ _ _ _ _ _) | (intro (al : Nat) h st; show W _ _ _ _ _ _ _ _ _) | (intro _ h st; show W _ _ _ _ _ _ _ _ _) | exact Sd)))
        exact ⟨_, rfl, _, .inr (.inl ⟨a, rfl, .inr h1, rfl, rfl⟩), st⟩
      · have hin : 0 ≤ slot ∧ slot < a.cs.length := by
          unfold coverZ atL at h0
          rw [ha] at h0
          dsimp only at h0
          split at h0
          · assumption
          · exact absurd rfl h0
        obtain ⟨i, rfl⟩ : ∃ i : Nat, slot = (i : Int) := ⟨slot.toNat, by omega⟩
        (repeat (first | (show W _ _ _ _ _ _ (.code (cond _ _ _) :: _) _ _; first | refine W.ct ?_ | refine W.cf ?_) | (show W _ _ _ _ _ _ (.ins (cond _ _ _ :: _) :: _) _ _; first | refine W.gt ?_ | refine W.gf ?_) | (show W _ _ _ _ _ _ [] _ _; refine W.of (.done ?_)) | (apply W.of; constructor <;> first | (show W _ _ _ _ _ _ _ _ _) | (intro (al : Nat) h st; show W _ _ _ _ _ _ _ _ _) | (intro _ h st; show W _ _ _ _ _ _ _ _ _) | exact Sd))); refine W.call (hs := rp_Get) (w := ?_); rintro vv _ ⟨rfl, rfl⟩ h st; refine nj ?_; dsimp only [List.cons_append, List.nil_append] at st
        have znj := zptr_nj (atZ zs id)
        have zok := zptr_ok (atZ zs id)
        (repeat (first | (show W _ _ _ _ _ _ (.code (cond _ _ _) :: _) _ _; first | refine W.ct ?_ | refine W.cf ?_) | (show W _ _ _ _ _ _ (.ins (cond _ _ _ :: _) :: _) _ _; first | refine W.gt ?_ | refine W.gf ?_) | (show W _ _ _ _ _ _ [] _ _; refine W.of (.done ?_)) | (apply W.of; constructor <;> first | (show W _ _ _ _ _ _ _ _ _) | (intro (al : Nat) h st; show W _ _ _ _ _ _ _ _ _) | (intro _ h st; show W _ _ _ _ _ _ _ _ _) | exact Sd))); refine W.call (hs := rp_of) (w := ?_); rintro vv _ ⟨rfl, rfl⟩ h st; refine nj ?_; dsimp only [List.cons_append, List.nil_append] at st
        rw [ha]
        dsimp only [zptr]
        have st := st.rpOut Tk hz
        obtain ⟨_, ⟨D, v, rfl, hok⟩, st⟩ := St.unpack st; dsimp only [List.cons_append, List.nil_append] at st
        have hlen := hok.len
        obtain ⟨vl, vj, vs⟩ := St.ivs (v := v) (cs := a.an) st Tk
        obtain ⟨gp, gq⟩ := d_vsIdx (v := v) (l := a.an.map ikey) (i := i) (kk := .i64) st Tk (by rw [List.length_map]; omega)
        (repeat (first | (show W _ _ _ _ _ _ (.code (cond _ _ _) :: _) _ _; first | refine W.ct ?_ | refine W.cf ?_) | (show W _ _ _ _ _ _ (.ins (cond _ _ _ :: _) :: _) _ _; first | refine W.gt ?_ | refine W.gf ?_) | (show W _ _ _ _ _ _ [] _ _; refine W.of (.done ?_)) | (apply W.of; constructor <;> first | (show W _ _ _ _ _ _ _ _ _) | (intro (al : Nat) h st; show W _ _ _ _ _ _ _ _ _) | (intro _ h st; show W _ _ _ _ _ _ _ _ _) | exact Sd))); refine W.do (ho := gp) (w := ?_)
        (repeat (first | (show W _ _ _ _ _ _ (.code (cond _ _ _) :: _) _ _; first | refine W.ct ?_ | refine W.cf ?_) | (show W _ _ _ _ _ _ (.ins (cond _ _ _ :: _) :: _) _ _; first | refine W.gt ?_ | refine W.gf ?_) | (show W _ _ _ _ _ _ [] _ _; refine W.of (.done ?_)) | (apply W.of; constructor <;> first | (show W _ _ _ _ _ _ _ _ _) | (intro (al : Nat) h st; show W _ _ _ _ _ _ _ _ _) | (intro _ h st; show W _ _ _ _ _ _ _ _ _) | exact Sd))); refine W.ef0 (ho := (e_vsStore (v := v) (l := a.an.map ikey) (i := i) st Tk (by rw [List.length_map]; omega) rfl)) (w := ?_); rintro _ h ⟨_, st⟩
        rw [← List.map_set (f := ikey)] at st
        (repeat (first | (show W _ _ _ _ _ _ (.code (cond _ _ _) :: _) _ _; first | refine W.ct ?_ | refine W.cf ?_) | (show W _ _ _ _ _ _ (.ins (cond _ _ _ :: _) :: _) _ _; first | refine W.gt ?_ | refine W.gf ?_) | (show W _ _ _ _ _ _ [] _ _; refine W.of (.done ?_)) | (apply W.of; constructor <;> first | (show W _ _ _ _ _ _ _ _ _) | (intro (al : Nat) h st; show W _ _ _ _ _ _ _ _ _) | (intro _ h st; show W _ _ _ _ _ _ _ _ _) | exact Sd)))
        have st := St.packP (t := 50) (k := .ptr a.O 0) (P := RaIs { a with an := a.an.set i x }) (cs := [.pt a.O (raRow D v), RcC D a.cs, VsC v 3 ((a.an.set i x).map ikey) true]) st ⟨D, v, rfl, by simp [hlen], hok.n1, hok.n4, fun z hz => by
          rcases List.mem_or_eq_of_mem_set hz with hz | hz
          · exact hok.pos z hz
          · omega⟩ Pks
        have st := st.rpIn (a := a) (b := { a with an := a.an.set i x }) rfl hz Tk Tk
        refine ⟨_, rfl, _, .inr (.inr ⟨a, rfl, by omega, rfl, rfl⟩), ?_⟩
        unfold setZ
        rw [ha]
        exact st
end Go.Proofs.Ytjdemlagmamlbaa
