/- BY PROGRAM (wip/tool/shake.py): own texts, one behind the other, without what is not needed. -/
import Derived.Control
import Derived.Calls
import Derived.KernelRfl
import Derived.Laws.Sem
import Derived.Laws.Cells
import Derived.Laws.World
import GoSem.Dispatch
import Derived.Laws.StructEq
import Derived.IntWalk
import Derived.WideKeyRuns
import Derived.Laws.BytesArg
import Derived.Orders
import Derived.ChangeArms
import Derived.OpenShut
import Derived.ChangeShapes
import Derived.ProofKit
import Derived.Test.YtjdemlagmamlbaaProg
import Derived.Test.YtjdemlagmamlbaaRows
import Derived.Test.YtjdemlagmamlbaaZSPRe5

namespace Go.Proofs.Ytjdemlagmamlbaa
variable {D : Nat} {l : List RunV}
theorem actPCL : CL ActP.cells 4 := ⟨fun _ => rfl⟩
abbrev UpC (v : AV) (l : List ActP) : Chunk := RwC v ty_law11_Act 4 ActP.cells l true
/-- a number without its sign -/
def uN (x : Int) : Nat := (IntKind.u64.wrap x).toNat
theorem uN_eq (x : Int) : IntKind.u64.wrap x = (uN x : Int) := by
  have : 0 ≤ IntKind.u64.wrap x := by simp only [IntKind.wrap]; simp [IntKind.bits, IntKind.signed]; omega
  unfold uN; omega
theorem uN_nat {n : Nat} (h : n ≤ 1000000) : IntKind.u64.wrap (n : Int) = n := wrap_id (by simp [IntKind.min, IntKind.signed]) (by simp [IntKind.max, IntKind.signed, IntKind.bits]; omega)
theorem d_remN {k : IntKind} {a b : Nat} {h : AHeap} (hb : 0 < b) : Does (.bin .rem) [.int k (a : Int), .int k (b : Int)] h (.int k ((a % b : Nat) : Int)) h := ⟨rfl, by
  have hb' : ¬ (b : Int) = 0 := by omega
  simp only [aop, binInt, ne_eq, not_true, if_false, if_neg hb', Option.map_some, Int.ofNat_tmod]⟩
/-- an act that may be done -/
def upA (k : Nat) (x : ActP) : ActP := ⟨(uN x.lo % k : Nat), (uN x.lo % k : Nat) + 1 + (uN x.hi % (k - uN x.lo % k) : Nat), 1 + (uN x.by' % 3 : Nat), false⟩
structure UpOk (k : Nat) (a : ActP) : Prop where
  l0 : 0 ≤ a.lo
  lt : a.lo < a.hi
  hi : a.hi ≤ k
  b0 : 1 ≤ a.by'
  b3 : a.by' ≤ 3
theorem upA_ok {k : Nat} (hk : 0 < k) (x : ActP) : UpOk k (upA k x) := by
  have h1 := Nat.mod_lt (uN x.lo) hk
  have h2 := Nat.mod_lt (uN x.hi) (show 0 < k - uN x.lo % k by omega)
  have h3 := Nat.mod_lt (uN x.by') (show 0 < 3 by decide)
  constructor <;> (unfold upA; simp only; omega)
/-- how often an item is counted -/
def cntA (l : List ActP) (j : Nat) : Int := (l.map fun a => if a.lo ≤ (j : Int) ∧ (j : Int) < a.hi then a.by' else 0).sum
def cntL (k : Nat) (l : List ActP) : List Int := (List.range k).map (cntA l)
theorem cntL_len {k : Nat} {l : List ActP} : (cntL k l).length = k := by simp [cntL]
theorem cntL_get {k j : Nat} {l : List ActP} (h : j < k) : (cntL k l)[j]? = some (cntA l j) := by simp [cntL, h]
theorem addL_cnt {k : Nat} {l : List ActP} {a : ActP} : addL 0 (cntL k l) a.lo a.hi a.by' = cntL k (a :: l) := by
  apply List.ext_getElem?
  intro j
  rw [addL_get]
  by_cases h : j < k
  · rw [cntL_get h, cntL_get h, Option.map_some, Int.zero_add]
    congr 1
    simp only [cntA, List.map_cons, List.sum_cons]
    split <;> omega
  · rw [List.getElem?_eq_none (by rw [cntL_len]; omega), List.getElem?_eq_none (by rw [cntL_len]; omega)]; rfl
theorem cntA_snoc {l : List ActP} {a : ActP} {j : Nat} : cntA (l ++ [a]) j = cntA (a :: l) j := by
  simp only [cntA, List.map_append, List.map_cons, List.map_nil, List.sum_append, List.sum_cons, List.sum_nil]; omega
theorem cntL_snoc {k : Nat} {l : List ActP} {a : ActP} : cntL k (l ++ [a]) = cntL k (a :: l) := by
  unfold cntL; congr 1; funext j; exact cntA_snoc
theorem cntA_le {k : Nat} : ∀ {l : List ActP} {j : Nat}, (∀ a, a ∈ l → UpOk k a) → 0 ≤ cntA l j ∧ cntA l j ≤ 3 * l.length
  | [], _, _ => by simp [cntA]
  | a :: l, j, h => by
    obtain ⟨h1, h2⟩ := cntA_le (l := l) (j := j) fun b hb => h b (List.mem_cons_of_mem _ hb)
    have := (h a List.mem_cons_self).b0
    have := (h a List.mem_cons_self).b3
    simp only [cntA, List.map_cons, List.sum_cons, List.length_cons] at h1 h2 ⊢
    split <;> omega
theorem mem_slc {cs : List Int} {lo hi c : Int} (h0 : 0 ≤ lo) (h1 : lo ≤ hi) (h2 : hi ≤ cs.length) (hc : c ∈ slc cs lo hi) : ∃ j : Nat, lo ≤ j ∧ (j : Int) < hi ∧ cs[j]? = some c := by
  obtain ⟨i, hi', e⟩ := List.getElem_of_mem hc
  rw [slc_len h0 h1 h2] at hi'
  have : (slc cs lo hi)[i]? = some c := by rw [List.getElem?_eq_getElem (by rw [slc_len h0 h1 h2]; exact hi'), e]
  rw [slc_get h0 (by omega)] at this
  exact ⟨lo.toNat + i, by omega, by omega, this⟩
theorem up_ok {k : Nat} {l : List ActP} {a : ActP} (hl : ∀ b, b ∈ l → UpOk k b) (ha : UpOk k a) (h60 : l.length ≤ 60) : AddOk (cntL k l) a.lo a.hi a.by' := by
  have hlt := ha.lt
  refine ⟨ha.l0, by rw [cntL_len]; exact ha.hi, by omega, fun c hc => ?_⟩
  obtain ⟨j, h1, h2, h3⟩ := mem_slc ha.l0 (by omega) (by rw [cntL_len]; exact ha.hi) hc
  have hh := ha.hi
  rw [cntL_get (by omega)] at h3
  cases h3
  obtain ⟨g1, g2⟩ := cntA_le (l := l) (j := j) hl
  have := ha.b0
  have := ha.b3
  omega
theorem down_ok {k : Nat} {l : List ActP} {a : ActP} (hl : ∀ b, b ∈ l → UpOk k b) (ha : UpOk k a) (h60 : l.length ≤ 60) : AddOk (cntL k (a :: l)) a.lo a.hi (-a.by') := by
  have hlt := ha.lt
  refine ⟨ha.l0, by rw [cntL_len]; exact ha.hi, by omega, fun c hc => ?_⟩
  obtain ⟨j, h1, h2, h3⟩ := mem_slc ha.l0 (by omega) (by rw [cntL_len]; exact ha.hi) hc
  have hh := ha.hi
  rw [cntL_get (by omega)] at h3
  cases h3
  obtain ⟨g1, g2⟩ := cntA_le (l := l) (j := j) hl
  have := ha.b0
  have := ha.b3
  have e : cntA (a :: l) j = a.by' + cntA l j := by simp only [cntA, List.map_cons, List.sum_cons]; rw [if_pos ⟨h1, h2⟩]
  omega
abbrev upsL (k : Nat) (l : List ActP) : List ActP := l.map (upA k)
set_option maxRecDepth 8000 in
theorem zeros_L0 {D E : Nat} {k : Nat} {v out : AV} {acts : List ActP} {F : List Chunk} {Q : AExit → Env → AHeap → Prop} {kk : List KI} {h : AHeap} {i : Nat} (hlt : i < acts.length) (h40 : acts.length ≤ 40) (hk0 : 0 < k) (hk1 : k ≤ 40)
    (st : St h (UpC out (upsL k (acts.take i)) :: CntC D l k :: CntC E l k :: ActPC v acts :: F)) :
    W over tab none c_law11_SpreadZeros.ntmps Q .normal (.code c_law11_SpreadZeros_L0 :: .lp (fun s' h' => ∃ z : JoS, acts.length - z.i < acts.length - i ∧ z.i ≤ acts.length ∧ Sub [(5, .int .i64 k), (6, .ptr D 0), (7, .ptr E 0), (8, z.out), (53, v), (54, .int .i64 acts.length), (55, .int .i64 z.i)] s' ∧ St h' (UpC z.out (upsL k (acts.take z.i)) :: CntC D l k :: CntC E l k :: ActPC v acts :: F)) :: kk)
      [(5, .int .i64 k), (6, .ptr D 0), (7, .ptr E 0), (8, out), (53, v), (54, .int .i64 acts.length), (55, .int .i64 i)] h := by
  obtain ⟨x, hx⟩ : ∃ x, acts[i]? = some x := ⟨acts[i], by simp [hlt]⟩
  obtain ⟨ol, oj, oo⟩ := St.rw (v := out) (l := upsL k (acts.take i)) st Tk
  obtain ⟨gp, gq⟩ := d_arIdx (kk := .i64) st Tk hlt
  obtain ⟨A, hA⟩ : ∃ A, A = uN x.lo % k := ⟨_, rfl⟩
  obtain ⟨B, hB⟩ : ∃ B, B = uN x.hi % (k - A) := ⟨_, rfl⟩
  obtain ⟨C, hC⟩ : ∃ C, C = uN x.by' % 3 := ⟨_, rfl⟩
  have eup : upA k x = ⟨(A : Nat), (A : Nat) + 1 + (B : Nat), 1 + (C : Nat), false⟩ := by rw [upA, ← hA, ← hB, ← hC]
  have h1 : A < k := by rw [hA]; exact Nat.mod_lt _ hk0
  have h2 : B < k - A := by rw [hB]; exact Nat.mod_lt _ (by omega)
  have h3 : C < 3 := by rw [hC]; exact Nat.mod_lt _ (by decide)
  (repeat (first | (show W _ _ _ _ _ _ (.code (cond _ _ _) :: _) _ _; first | refine W.ct ?_ | refine W.cf ?_) | (show W _ _ _ _ _ _ (.ins (cond _ _ _ :: _) :: _) _ _; first | refine W.gt ?_ | refine W.gf ?_) | (show W _ _ _ _ _ _ [] _ _; refine W.of (.done ?_)) | (apply W.of; constructor <;> first | (show W _ _ _ _ _ _ _ _ _) | (intro (al : Nat) h st; show W _ _ _ _ _ _ _ _ _) | (intro _ h st; show W _ _ _ _ _ _ _ _ _) | exact Sd))); refine W.do (ho := gp) (w := ?_)
  (repeat (first | (show W _ _ _ _ _ _ (.code (cond _ _ _) :: _) _ _; first | refine W.ct ?_ | refine W.cf ?_) | (show W _ _ _ _ _ _ (.ins (cond _ _ _ :: _) :: _) _ _; first | refine W.gt ?_ | refine W.gf ?_) | (show W _ _ _ _ _ _ [] _ _; refine W.of (.done ?_)) | (apply W.of; constructor <;> first | (show W _ _ _ _ _ _ _ _ _) | (intro (al : Nat) h st; show W _ _ _ _ _ _ _ _ _) | (intro _ h st; show W _ _ _ _ _ _ _ _ _) | exact Sd))); refine W.do (ho := (d_loadar st Tk hx)) (w := ?_)
  (repeat (first | (show W _ _ _ _ _ _ (.code (cond _ _ _) :: _) _ _; first | refine W.ct ?_ | refine W.cf ?_) | (show W _ _ _ _ _ _ (.ins (cond _ _ _ :: _) :: _) _ _; first | refine W.gt ?_ | refine W.gf ?_) | (show W _ _ _ _ _ _ [] _ _; refine W.of (.done ?_)) | (apply W.of; constructor <;> first | (show W _ _ _ _ _ _ _ _ _) | (intro (al : Nat) h st; show W _ _ _ _ _ _ _ _ _) | (intro _ h st; show W _ _ _ _ _ _ _ _ _) | exact Sd)))
  rw [uN_eq x.lo, uN_nat (n := k) (by omega)]
  (repeat (first | (show W _ _ _ _ _ _ (.code (cond _ _ _) :: _) _ _; first | refine W.ct ?_ | refine W.cf ?_) | (show W _ _ _ _ _ _ (.ins (cond _ _ _ :: _) :: _) _ _; first | refine W.gt ?_ | refine W.gf ?_) | (show W _ _ _ _ _ _ [] _ _; refine W.of (.done ?_)) | (apply W.of; constructor <;> first | (show W _ _ _ _ _ _ _ _ _) | (intro (al : Nat) h st; show W _ _ _ _ _ _ _ _ _) | (intro _ h st; show W _ _ _ _ _ _ _ _ _) | exact Sd))); refine W.do (ho := (d_remN hk0)) (w := ?_)
  rw [← hA]
  (repeat (first | (show W _ _ _ _ _ _ (.code (cond _ _ _) :: _) _ _; first | refine W.ct ?_ | refine W.cf ?_) | (show W _ _ _ _ _ _ (.ins (cond _ _ _ :: _) :: _) _ _; first | refine W.gt ?_ | refine W.gf ?_) | (show W _ _ _ _ _ _ [] _ _; refine W.of (.done ?_)) | (apply W.of; constructor <;> first | (show W _ _ _ _ _ _ _ _ _) | (intro (al : Nat) h st; show W _ _ _ _ _ _ _ _ _) | (intro _ h st; show W _ _ _ _ _ _ _ _ _) | exact Sd)))
  rw [wrap64 (n := (A : Int)) (by omega) (by omega)]
  (repeat (first | (show W _ _ _ _ _ _ (.code (cond _ _ _) :: _) _ _; first | refine W.ct ?_ | refine W.cf ?_) | (show W _ _ _ _ _ _ (.ins (cond _ _ _ :: _) :: _) _ _; first | refine W.gt ?_ | refine W.gf ?_) | (show W _ _ _ _ _ _ [] _ _; refine W.of (.done ?_)) | (apply W.of; constructor <;> first | (show W _ _ _ _ _ _ _ _ _) | (intro (al : Nat) h st; show W _ _ _ _ _ _ _ _ _) | (intro _ h st; show W _ _ _ _ _ _ _ _ _) | exact Sd)))
  rw [uN_eq x.hi, show (k : Int) - (A : Int) = ((k - A : Nat) : Int) by omega, uN_nat (n := k - A) (by omega)]
  (repeat (first | (show W _ _ _ _ _ _ (.code (cond _ _ _) :: _) _ _; first | refine W.ct ?_ | refine W.cf ?_) | (show W _ _ _ _ _ _ (.ins (cond _ _ _ :: _) :: _) _ _; first | refine W.gt ?_ | refine W.gf ?_) | (show W _ _ _ _ _ _ [] _ _; refine W.of (.done ?_)) | (apply W.of; constructor <;> first | (show W _ _ _ _ _ _ _ _ _) | (intro (al : Nat) h st; show W _ _ _ _ _ _ _ _ _) | (intro _ h st; show W _ _ _ _ _ _ _ _ _) | exact Sd))); refine W.do (ho := (d_remN (b := k - A) (by omega))) (w := ?_)
  rw [← hB]
  (repeat (first | (show W _ _ _ _ _ _ (.code (cond _ _ _) :: _) _ _; first | refine W.ct ?_ | refine W.cf ?_) | (show W _ _ _ _ _ _ (.ins (cond _ _ _ :: _) :: _) _ _; first | refine W.gt ?_ | refine W.gf ?_) | (show W _ _ _ _ _ _ [] _ _; refine W.of (.done ?_)) | (apply W.of; constructor <;> first | (show W _ _ _ _ _ _ _ _ _) | (intro (al : Nat) h st; show W _ _ _ _ _ _ _ _ _) | (intro _ h st; show W _ _ _ _ _ _ _ _ _) | exact Sd)))
  rw [wrap64 (n := (B : Int)) (by omega) (by omega)]
  (repeat (first | (show W _ _ _ _ _ _ (.code (cond _ _ _) :: _) _ _; first | refine W.ct ?_ | refine W.cf ?_) | (show W _ _ _ _ _ _ (.ins (cond _ _ _ :: _) :: _) _ _; first | refine W.gt ?_ | refine W.gf ?_) | (show W _ _ _ _ _ _ [] _ _; refine W.of (.done ?_)) | (apply W.of; constructor <;> first | (show W _ _ _ _ _ _ _ _ _) | (intro (al : Nat) h st; show W _ _ _ _ _ _ _ _ _) | (intro _ h st; show W _ _ _ _ _ _ _ _ _) | exact Sd)))
  rw [uN_eq x.by', show ((uN x.by' : Nat) : Int).tmod 3 = (C : Int) by rw [hC]; exact Int.ofNat_tmod _ 3, wrap64 (n := (C : Int)) (by omega) (by omega)]
  (repeat (first | (show W _ _ _ _ _ _ (.code (cond _ _ _) :: _) _ _; first | refine W.ct ?_ | refine W.cf ?_) | (show W _ _ _ _ _ _ (.ins (cond _ _ _ :: _) :: _) _ _; first | refine W.gt ?_ | refine W.gf ?_) | (show W _ _ _ _ _ _ [] _ _; refine W.of (.done ?_)) | (apply W.of; constructor <;> first | (show W _ _ _ _ _ _ _ _ _) | (intro (al : Nat) h st; show W _ _ _ _ _ _ _ _ _) | (intro _ h st; show W _ _ _ _ _ _ _ _ _) | exact Sd)))
  have st := St.rwRow (e := ty_law11_Act) actPCL [upA k x] st Tk (by rw [eup]; rfl) rfl
  (repeat (first | (show W _ _ _ _ _ _ (.code (cond _ _ _) :: _) _ _; first | refine W.ct ?_ | refine W.cf ?_) | (show W _ _ _ _ _ _ (.ins (cond _ _ _ :: _) :: _) _ _; first | refine W.gt ?_ | refine W.gf ?_) | (show W _ _ _ _ _ _ [] _ _; refine W.of (.done ?_)) | (apply W.of; constructor <;> first | (show W _ _ _ _ _ _ _ _ _) | (intro (al : Nat) h st; show W _ _ _ _ _ _ _ _ _) | (intro _ h st; show W _ _ _ _ _ _ _ _ _) | exact Sd))); refine W.ef (ho := (e_rwAppend (s := out) (l := upsL k (acts.take i)) (l' := [upA k x]) actPCL rfl st Tk Tk (by simp; omega) (by simp; omega))) (w := ?_); rintro vv h ⟨bj, bl, st⟩; refine nj ?_
  (repeat (first | (show W _ _ _ _ _ _ (.code (cond _ _ _) :: _) _ _; first | refine W.ct ?_ | refine W.cf ?_) | (show W _ _ _ _ _ _ (.ins (cond _ _ _ :: _) :: _) _ _; first | refine W.gt ?_ | refine W.gf ?_) | (show W _ _ _ _ _ _ [] _ _; refine W.of (.done ?_)) | (apply W.of; constructor <;> first | (show W _ _ _ _ _ _ _ _ _) | (intro (al : Nat) h st; show W _ _ _ _ _ _ _ _ _) | (intro _ h st; show W _ _ _ _ _ _ _ _ _) | exact Sd)))
  rw [show upsL k (acts.take i) ++ [upA k x] = upsL k (acts.take (i + 1)) by rw [take_snoc1 hx]; exact (List.map_append (f := upA k) (l₁ := acts.take i) (l₂ := [x])).symm] at st
  refine W.of (.lp ?_)
  exact ⟨⟨i + 1, vv⟩, by simp only; omega, hlt, Sbs, st.sel Sels⟩
/-- what both have behind some acts -/
structure ZeS where
  i : Nat
  l : List RunV
  l' : List RunV
structure ZeOk (k : Nat) (ups : List ActP) (y : ZeS) : Prop where
  e : expand y.l = cntL k (ups.take y.i)
  e' : expand y.l' = cntL k (ups.drop (ups.length - y.i))
abbrev zeE (D E : Nat) (uv : AV) (n i : Nat) : Env := [(6, .ptr D 0), (7, .ptr E 0), (8, uv), (91, .int .i64 n), (92, .int .i64 i)]
abbrev zeG (D E : Nat) (k : Nat) (uv : AV) (ups : List ActP) (F : List Chunk) (y : ZeS) : List Chunk := UpC uv ups :: CntC D y.l k :: CntC E y.l' k :: F
abbrev zeJ (D E : Nat) (k : Nat) (uv : AV) (ups : List ActP) (F : List Chunk) (i : Nat) : Env → AHeap → Prop := fun s' h' => ∃ z : ZeS, ups.length - z.i < ups.length - i ∧ (z.i ≤ ups.length ∧ ZeOk k ups z) ∧ Sub (zeE D E uv ups.length z.i) s' ∧ St h' (zeG D E k uv ups F z)
def zeBody : ACode := sR (sR (bB (sL (sR (sR c_law11_SpreadZeros_L1)))))
set_option maxRecDepth 8000 in
theorem zeros_tail {D E X Y k i : Nat} {uv : AV} {ups : List ActP} {F : List Chunk} {Q : AExit → Env → AHeap → Prop} {kk : List KI} {h : AHeap} {l l' : List RunV} {a b : ActP} (hlt : i < ups.length) (h40 : ups.length ≤ 40) (hu : ∀ a, a ∈ ups → UpOk k a) (hok : ZeOk k ups ⟨i, l, l'⟩)
    (ha : ups[i]? = some a) (hb : ups[ups.length - 1 - i]? = some b)
    (st : St h (.pt X (.row ty_law11_Act 4 false false (.vals a.cells)) :: .pt Y (.row ty_law11_Act 4 false false (.vals [.int .i64 0, .int .i64 0, .int .i64 0, .bool false])) :: zeG D E k uv ups F ⟨i, l, l'⟩)) :
    W over tab none c_law11_SpreadZeros.ntmps Q .normal (.dis [⟨15, J (.store 4) [T 14, T 106], [], false⟩] :: .code zeBody :: .blk 3 :: .code (sR (sR (sR c_law11_SpreadZeros_L1))) :: .lp (zeJ D E k uv ups F i) :: kk) ((13, .ptr X 0) :: (14, .ptr Y 0) :: (106, .agg b.cells) :: zeE D E uv ups.length i) h := by
  obtain ⟨he, he'⟩ := hok
  dsimp only at he he'
  have hk := st.cnt (D := D) (l := l) Tk
  have hk' := st.cnt (D := E) (l := l') Tk
  have ho := up_ok (l := ups.take i) (fun c hc => hu c (List.mem_of_mem_take hc)) (hu a (List.mem_of_getElem? ha)) (by rw [List.length_take]; omega)
  have ho' := up_ok (l := ups.drop (ups.length - i)) (fun c hc => hu c (List.mem_of_mem_drop hc)) (hu b (List.mem_of_getElem? hb)) (by rw [List.length_drop]; omega)
  (repeat (first | (show W _ _ _ _ _ _ (.code (cond _ _ _) :: _) _ _; first | refine W.ct ?_ | refine W.cf ?_) | (show W _ _ _ _ _ _ (.ins (cond _ _ _ :: _) :: _) _ _; first | refine W.gt ?_ | refine W.gf ?_) | (show W _ _ _ _ _ _ [] _ _; refine W.of (.done ?_)) | (apply W.of; constructor <;> first | (show W _ _ _ _ _ _ _ _ _) | (intro (al : Nat) h st; show W _ _ _ _ _ _ _ _ _) | (intro _ h st; show W _ _ _ _ _ _ _ _ _) | exact Sd))); refine W.call (hs := (cnt_Add_ok (D := D) (l := l) (lo := a.lo) (hi := a.hi) (by' := a.by') (by rw [he]; exact ho))) (w := ?_); rintro vv _ ⟨gv, l1, rfl, gj, gl, e1, rfl⟩ h st; refine nj ?_; dsimp only [List.cons_append, List.nil_append] at st
  (repeat (first | (show W _ _ _ _ _ _ (.code (cond _ _ _) :: _) _ _; first | refine W.ct ?_ | refine W.cf ?_) | (show W _ _ _ _ _ _ (.ins (cond _ _ _ :: _) :: _) _ _; first | refine W.gt ?_ | refine W.gf ?_) | (show W _ _ _ _ _ _ [] _ _; refine W.of (.done ?_)) | (apply W.of; constructor <;> first | (show W _ _ _ _ _ _ _ _ _) | (intro (al : Nat) h st; show W _ _ _ _ _ _ _ _ _) | (intro _ h st; show W _ _ _ _ _ _ _ _ _) | exact Sd))); refine W.call (hs := (cnt_Add_ok (D := E) (l := l') (lo := b.lo) (hi := b.hi) (by' := b.by') (by rw [he']; exact ho'))) (w := ?_); rintro vv _ ⟨gv2, l2, rfl, gj2, gl2, e2, rfl⟩ h st; refine nj ?_; dsimp only [List.cons_append, List.nil_append] at st
  (repeat (first | (show W _ _ _ _ _ _ (.code (cond _ _ _) :: _) _ _; first | refine W.ct ?_ | refine W.cf ?_) | (show W _ _ _ _ _ _ (.ins (cond _ _ _ :: _) :: _) _ _; first | refine W.gt ?_ | refine W.gf ?_) | (show W _ _ _ _ _ _ [] _ _; refine W.of (.done ?_)) | (apply W.of; constructor <;> first | (show W _ _ _ _ _ _ _ _ _) | (intro (al : Nat) h st; show W _ _ _ _ _ _ _ _ _) | (intro _ h st; show W _ _ _ _ _ _ _ _ _) | exact Sd)))
  refine W.of (.lp ?_)
  refine ⟨⟨i + 1, l1, l2⟩, by simp only; omega, ⟨hlt, ?_, ?_⟩, Sbs, st.sel Sels⟩
  · simp only
    rw [e1, he, addL_cnt, take_snoc1 ha, cntL_snoc]
  · simp only
    rw [e2, he', addL_cnt]
    congr 1
    obtain ⟨q1, q2⟩ := List.getElem?_eq_some_iff.1 hb
    rw [← q2, show ups.length - i = ups.length - 1 - i + 1 by omega, List.getElem_cons_drop]
    congr 1; omega
set_option maxRecDepth 8000 in
theorem zeros_L1 {D E k : Nat} {uv : AV} {ups : List ActP} {F : List Chunk} {Q : AExit → Env → AHeap → Prop} {kk : List KI} {h : AHeap} (y : ZeS) (hlt : y.i < ups.length) (h40 : ups.length ≤ 40) (hu : ∀ a, a ∈ ups → UpOk k a) (hok : ZeOk k ups y)
    (st : St h (zeG D E k uv ups F y)) :
    W over tab none c_law11_SpreadZeros.ntmps Q .normal (.code c_law11_SpreadZeros_L1 :: .lp (zeJ D E k uv ups F y.i) :: kk) (zeE D E uv ups.length y.i) h := by
  obtain ⟨i, l, l'⟩ := y
  dsimp only [zeE, zeG] at hlt st ⊢
  obtain ⟨a, ha⟩ : ∃ a, ups[i]? = some a := ⟨ups[i], by simp [hlt]⟩
  obtain ⟨b, hb⟩ : ∃ b, ups[ups.length - 1 - i]? = some b := ⟨ups[ups.length - 1 - i]'(by omega), by simp⟩
  obtain ⟨ul, uj, uo⟩ := St.rw (v := uv) (l := ups) st Tk
  obtain ⟨gp, gq⟩ := d_rwIdx (v := uv) (l := ups) (i := i) (kk := .i64) st Tk hlt
  obtain ⟨fp, fq⟩ := d_rwIdx (v := uv) (l := ups) (i := ups.length - 1 - i) (kk := .i64) st Tk (by omega)
  rw [show ((ups.length - 1 - i : Nat) : Int) = (ups.length : Int) - 1 - i by omega] at fp
  (repeat (first | (show W _ _ _ _ _ _ (.code (cond _ _ _) :: _) _ _; first | refine W.ct ?_ | refine W.cf ?_) | (show W _ _ _ _ _ _ (.ins (cond _ _ _ :: _) :: _) _ _; first | refine W.gt ?_ | refine W.gf ?_) | (show W _ _ _ _ _ _ [] _ _; refine W.of (.done ?_)) | (apply W.of; constructor <;> first | (show W _ _ _ _ _ _ _ _ _) | (intro (al : Nat) h st; show W _ _ _ _ _ _ _ _ _) | (intro _ h st; show W _ _ _ _ _ _ _ _ _) | exact Sd)))
  refine W.draw2 ?_ ?_
  · (repeat (first | (show W _ _ _ _ _ _ (.code (cond _ _ _) :: _) _ _; first | refine W.ct ?_ | refine W.cf ?_) | (show W _ _ _ _ _ _ (.ins (cond _ _ _ :: _) :: _) _ _; first | refine W.gt ?_ | refine W.gf ?_) | (show W _ _ _ _ _ _ [] _ _; refine W.of (.done ?_)) | (apply W.of; constructor <;> first | (show W _ _ _ _ _ _ _ _ _) | (intro (al : Nat) h st; show W _ _ _ _ _ _ _ _ _) | (intro _ h st; show W _ _ _ _ _ _ _ _ _) | exact Sd))); refine W.do (ho := gp) (w := ?_)
    (repeat (first | (show W _ _ _ _ _ _ (.code (cond _ _ _) :: _) _ _; first | refine W.ct ?_ | refine W.cf ?_) | (show W _ _ _ _ _ _ (.ins (cond _ _ _ :: _) :: _) _ _; first | refine W.gt ?_ | refine W.gf ?_) | (show W _ _ _ _ _ _ [] _ _; refine W.of (.done ?_)) | (apply W.of; constructor <;> first | (show W _ _ _ _ _ _ _ _ _) | (intro (al : Nat) h st; show W _ _ _ _ _ _ _ _ _) | (intro _ h st; show W _ _ _ _ _ _ _ _ _) | exact Sd))); refine W.do (ho := (d_rwLoad (v := uv) (l := ups) actPCL st Tk ha)) (w := ?_)
    (repeat (first | (show W _ _ _ _ _ _ (.code (cond _ _ _) :: _) _ _; first | refine W.ct ?_ | refine W.cf ?_) | (show W _ _ _ _ _ _ (.ins (cond _ _ _ :: _) :: _) _ _; first | refine W.gt ?_ | refine W.gf ?_) | (show W _ _ _ _ _ _ [] _ _; refine W.of (.done ?_)) | (apply W.of; constructor <;> first | (show W _ _ _ _ _ _ _ _ _) | (intro (al : Nat) h st; show W _ _ _ _ _ _ _ _ _) | (intro _ h st; show W _ _ _ _ _ _ _ _ _) | exact Sd))); refine W.do (ho := fp) (w := ?_)
    (repeat (first | (show W _ _ _ _ _ _ (.code (cond _ _ _) :: _) _ _; first | refine W.ct ?_ | refine W.cf ?_) | (show W _ _ _ _ _ _ (.ins (cond _ _ _ :: _) :: _) _ _; first | refine W.gt ?_ | refine W.gf ?_) | (show W _ _ _ _ _ _ [] _ _; refine W.of (.done ?_)) | (apply W.of; constructor <;> first | (show W _ _ _ _ _ _ _ _ _) | (intro (al : Nat) h st; show W _ _ _ _ _ _ _ _ _) | (intro _ h st; show W _ _ _ _ _ _ _ _ _) | exact Sd))); refine W.do (ho := (d_rwLoad (v := uv) (l := ups) actPCL st Tk hb)) (w := ?_)
    (repeat (first | (show W _ _ _ _ _ _ (.code (cond _ _ _) :: _) _ _; first | refine W.ct ?_ | refine W.cf ?_) | (show W _ _ _ _ _ _ (.ins (cond _ _ _ :: _) :: _) _ _; first | refine W.gt ?_ | refine W.gf ?_) | (show W _ _ _ _ _ _ [] _ _; refine W.of (.done ?_)) | (apply W.of; constructor <;> first | (show W _ _ _ _ _ _ _ _ _) | (intro (al : Nat) h st; show W _ _ _ _ _ _ _ _ _) | (intro _ h st; show W _ _ _ _ _ _ _ _ _) | exact Sd))); refine W.of (.ag (.dz rfl rfl (d_rwLoad (v := uv) (l := ups) actPCL st Tk ha) rfl (.dz rfl rfl (d_rwLoad (v := uv) (l := ups) actPCL st Tk hb) rfl .nil)) ?_)
    (repeat (first | (show W _ _ _ _ _ _ (.code (cond _ _ _) :: _) _ _; first | refine W.ct ?_ | refine W.cf ?_) | (show W _ _ _ _ _ _ (.ins (cond _ _ _ :: _) :: _) _ _; first | refine W.gt ?_ | refine W.gf ?_) | (show W _ _ _ _ _ _ [] _ _; refine W.of (.done ?_)) | (apply W.of; constructor <;> first | (show W _ _ _ _ _ _ _ _ _) | (intro (al : Nat) h st; show W _ _ _ _ _ _ _ _ _) | (intro _ h st; show W _ _ _ _ _ _ _ _ _) | exact Sd))); refine W.of (.ag (.dz rfl rfl (d_rwLoad (v := uv) (l := ups) actPCL st Tk ha) rfl (.dz rfl rfl (d_rwLoad (v := uv) (l := ups) actPCL st Tk hb) rfl .nil)) ?_)
    (repeat (first | (show W _ _ _ _ _ _ (.code (cond _ _ _) :: _) _ _; first | refine W.ct ?_ | refine W.cf ?_) | (show W _ _ _ _ _ _ (.ins (cond _ _ _ :: _) :: _) _ _; first | refine W.gt ?_ | refine W.gf ?_) | (show W _ _ _ _ _ _ [] _ _; refine W.of (.done ?_)) | (apply W.of; constructor <;> first | (show W _ _ _ _ _ _ _ _ _) | (intro (al : Nat) h st; show W _ _ _ _ _ _ _ _ _) | (intro _ h st; show W _ _ _ _ _ _ _ _ _) | exact Sd))); refine W.of (.ag (.dz rfl rfl (d_rwLoad (v := uv) (l := ups) actPCL st Tk hb) rfl .nil) ?_)
    exact W.sub Sbs (zeros_tail hlt h40 hu hok ha hb (st.sel Sels))
  · (repeat (first | (show W _ _ _ _ _ _ (.code (cond _ _ _) :: _) _ _; first | refine W.ct ?_ | refine W.cf ?_) | (show W _ _ _ _ _ _ (.ins (cond _ _ _ :: _) :: _) _ _; first | refine W.gt ?_ | refine W.gf ?_) | (show W _ _ _ _ _ _ [] _ _; refine W.of (.done ?_)) | (apply W.of; constructor <;> first | (show W _ _ _ _ _ _ _ _ _) | (intro (al : Nat) h st; show W _ _ _ _ _ _ _ _ _) | (intro _ h st; show W _ _ _ _ _ _ _ _ _) | exact Sd))); refine W.do (ho := gp) (w := ?_)
    (repeat (first | (show W _ _ _ _ _ _ (.code (cond _ _ _) :: _) _ _; first | refine W.ct ?_ | refine W.cf ?_) | (show W _ _ _ _ _ _ (.ins (cond _ _ _ :: _) :: _) _ _; first | refine W.gt ?_ | refine W.gf ?_) | (show W _ _ _ _ _ _ [] _ _; refine W.of (.done ?_)) | (apply W.of; constructor <;> first | (show W _ _ _ _ _ _ _ _ _) | (intro (al : Nat) h st; show W _ _ _ _ _ _ _ _ _) | (intro _ h st; show W _ _ _ _ _ _ _ _ _) | exact Sd))); refine W.do (ho := (d_rwLoad (v := uv) (l := ups) actPCL st Tk ha)) (w := ?_)
    (repeat (first | (show W _ _ _ _ _ _ (.code (cond _ _ _) :: _) _ _; first | refine W.ct ?_ | refine W.cf ?_) | (show W _ _ _ _ _ _ (.ins (cond _ _ _ :: _) :: _) _ _; first | refine W.gt ?_ | refine W.gf ?_) | (show W _ _ _ _ _ _ [] _ _; refine W.of (.done ?_)) | (apply W.of; constructor <;> first | (show W _ _ _ _ _ _ _ _ _) | (intro (al : Nat) h st; show W _ _ _ _ _ _ _ _ _) | (intro _ h st; show W _ _ _ _ _ _ _ _ _) | exact Sd))); refine W.do (ho := fp) (w := ?_)
    (repeat (first | (show W _ _ _ _ _ _ (.code (cond _ _ _) :: _) _ _; first | refine W.ct ?_ | refine W.cf ?_) | (show W _ _ _ _ _ _ (.ins (cond _ _ _ :: _) :: _) _ _; first | refine W.gt ?_ | refine W.gf ?_) | (show W _ _ _ _ _ _ [] _ _; refine W.of (.done ?_)) | (apply W.of; constructor <;> first | (show W _ _ _ _ _ _ _ _ _) | (intro (al : Nat) h st; show W _ _ _ _ _ _ _ _ _) | (intro _ h st; show W _ _ _ _ _ _ _ _ _) | exact Sd))); refine W.do (ho := (d_rwLoad (v := uv) (l := ups) actPCL st Tk hb)) (w := ?_)
    (repeat (first | (show W _ _ _ _ _ _ (.code (cond _ _ _) :: _) _ _; first | refine W.ct ?_ | refine W.cf ?_) | (show W _ _ _ _ _ _ (.ins (cond _ _ _ :: _) :: _) _ _; first | refine W.gt ?_ | refine W.gf ?_) | (show W _ _ _ _ _ _ [] _ _; refine W.of (.done ?_)) | (apply W.of; constructor <;> first | (show W _ _ _ _ _ _ _ _ _) | (intro (al : Nat) h st; show W _ _ _ _ _ _ _ _ _) | (intro _ h st; show W _ _ _ _ _ _ _ _ _) | exact Sd))); refine W.of (.ag (.dz rfl rfl (d_rwLoad (v := uv) (l := ups) actPCL st Tk ha) rfl (.dz rfl rfl (d_rwLoad (v := uv) (l := ups) actPCL st Tk hb) rfl .nil)) ?_)
    (repeat (first | (show W _ _ _ _ _ _ (.code (cond _ _ _) :: _) _ _; first | refine W.ct ?_ | refine W.cf ?_) | (show W _ _ _ _ _ _ (.ins (cond _ _ _ :: _) :: _) _ _; first | refine W.gt ?_ | refine W.gf ?_) | (show W _ _ _ _ _ _ [] _ _; refine W.of (.done ?_)) | (apply W.of; constructor <;> first | (show W _ _ _ _ _ _ _ _ _) | (intro (al : Nat) h st; show W _ _ _ _ _ _ _ _ _) | (intro _ h st; show W _ _ _ _ _ _ _ _ _) | exact Sd))); refine W.of (.ag (.dz rfl rfl (d_rwLoad (v := uv) (l := ups) actPCL st Tk ha) rfl (.dz rfl rfl (d_rwLoad (v := uv) (l := ups) actPCL st Tk hb) rfl .nil)) ?_)
    (repeat (first | (show W _ _ _ _ _ _ (.code (cond _ _ _) :: _) _ _; first | refine W.ct ?_ | refine W.cf ?_) | (show W _ _ _ _ _ _ (.ins (cond _ _ _ :: _) :: _) _ _; first | refine W.gt ?_ | refine W.gf ?_) | (show W _ _ _ _ _ _ [] _ _; refine W.of (.done ?_)) | (apply W.of; constructor <;> first | (show W _ _ _ _ _ _ _ _ _) | (intro (al : Nat) h st; show W _ _ _ _ _ _ _ _ _) | (intro _ h st; show W _ _ _ _ _ _ _ _ _) | exact Sd))); refine W.of (.ag (.dz rfl rfl (d_rwLoad (v := uv) (l := ups) actPCL st Tk hb) rfl .nil) ?_)
    exact W.sub Sbs (zeros_tail hlt h40 hu hok ha hb (st.sel Sels))
end Go.Proofs.Ytjdemlagmamlbaa

namespace Go.Proofs.Ytjdemlagmamlbaa
theorem atL_cnt {k j : Nat} {l : List ActP} (h : j < k) : atL (cntL k l) (j : Int) = cntA l j := by
  rw [atL, if_pos ⟨by omega, by rw [cntL_len]; omega⟩, Int.toNat_natCast, cntL_get h]; rfl
theorem addL_cnt_back {k : Nat} {l : List ActP} {a : ActP} : addL 0 (cntL k (a :: l)) a.lo a.hi (-a.by') = cntL k l := by
  rw [← addL_cnt, addL_back]
structure ZtS where
  i : Nat
  l : List RunV
abbrev ztE (D : Nat) (uv : AV) (n i : Nat) : Env := [(6, .ptr D 0), (140, uv), (141, .int .i64 n), (142, .int .i64 i)]
abbrev ztG (D : Nat) (k : Nat) (uv : AV) (ups : List ActP) (F : List Chunk) (y : ZtS) : List Chunk := UpC uv ups :: CntC D y.l k :: F
abbrev ztJ (D : Nat) (k : Nat) (uv : AV) (ups : List ActP) (F : List Chunk) (i : Nat) : Env → AHeap → Prop := fun s' h' => ∃ z : ZtS, ups.length - z.i < ups.length - i ∧ (z.i ≤ ups.length ∧ expand z.l = cntL k (ups.drop z.i)) ∧ Sub (ztE D uv ups.length z.i) s' ∧ St h' (ztG D k uv ups F z)
abbrev actRowQ (a : ActP) : AObj := .row ty_law11_Act 4 false false (.vals a.cells)
set_option maxRecDepth 8000 in
theorem zeros_L2 {D k : Nat} {uv : AV} {ups : List ActP} {F : List Chunk} {Q : AExit → Env → AHeap → Prop} {kk : List KI} {h : AHeap} (y : ZtS) (hlt : y.i < ups.length) (h40 : ups.length ≤ 40) (hk1 : k ≤ 40) (hu : ∀ a, a ∈ ups → UpOk k a) (he : expand y.l = cntL k (ups.drop y.i))
    (st : St h (ztG D k uv ups F y)) :
    W over tab none c_law11_SpreadZeros.ntmps Q .normal (.code c_law11_SpreadZeros_L2 :: .lp (ztJ D k uv ups F y.i) :: kk) (ztE D uv ups.length y.i) h := by
  obtain ⟨i, l⟩ := y
  dsimp only [ztE, ztG] at hlt st he ⊢
  obtain ⟨a, ha⟩ : ∃ a, ups[i]? = some a := ⟨ups[i], by simp [hlt]⟩
  have hd : ups.drop i = a :: ups.drop (i + 1) := by
    obtain ⟨q1, q2⟩ := List.getElem?_eq_some_iff.1 ha
    rw [← q2, List.getElem_cons_drop]
  have hua := hu a (List.mem_of_getElem? ha)
  have ho := down_ok (l := ups.drop (i + 1)) (fun c hc => hu c (List.mem_of_mem_drop hc)) hua (by rw [List.length_drop]; omega)
  rw [hd] at he
  obtain ⟨p, hp⟩ : ∃ p : Nat, a.lo = (p : Int) := ⟨a.lo.toNat, by have := hua.l0; omega⟩
  obtain ⟨q, hq⟩ : ∃ q : Nat, a.hi = (q : Int) := ⟨a.hi.toNat, by have := hua.l0; have := hua.lt; omega⟩
  have hpq : p < q := by have := hua.lt; omega
  have hqk : q ≤ k := by have := hua.hi; omega
  have hb1 := hua.b0
  have hb3 := hua.b3
  obtain ⟨ul, uj, uo⟩ := St.rw (v := uv) (l := ups) st Tk
  obtain ⟨gp, gq⟩ := d_rwIdx (v := uv) (l := ups) (i := i) (kk := .i64) st Tk hlt
  (repeat (first | (show W _ _ _ _ _ _ (.code (cond _ _ _) :: _) _ _; first | refine W.ct ?_ | refine W.cf ?_) | (show W _ _ _ _ _ _ (.ins (cond _ _ _ :: _) :: _) _ _; first | refine W.gt ?_ | refine W.gf ?_) | (show W _ _ _ _ _ _ [] _ _; refine W.of (.done ?_)) | (apply W.of; constructor <;> first | (show W _ _ _ _ _ _ _ _ _) | (intro (al : Nat) h st; show W _ _ _ _ _ _ _ _ _) | (intro _ h st; show W _ _ _ _ _ _ _ _ _) | exact Sd))); refine W.do (ho := gp) (w := ?_)
  (repeat (first | (show W _ _ _ _ _ _ (.code (cond _ _ _) :: _) _ _; first | refine W.ct ?_ | refine W.cf ?_) | (show W _ _ _ _ _ _ (.ins (cond _ _ _ :: _) :: _) _ _; first | refine W.gt ?_ | refine W.gf ?_) | (show W _ _ _ _ _ _ [] _ _; refine W.of (.done ?_)) | (apply W.of; constructor <;> first | (show W _ _ _ _ _ _ _ _ _) | (intro (al : Nat) h st; show W _ _ _ _ _ _ _ _ _) | (intro _ h st; show W _ _ _ _ _ _ _ _ _) | exact Sd))); refine W.do (ho := (d_rwLoad (v := uv) (l := ups) actPCL st Tk ha)) (w := ?_)
  (repeat (first | (show W _ _ _ _ _ _ (.code (cond _ _ _) :: _) _ _; first | refine W.ct ?_ | refine W.cf ?_) | (show W _ _ _ _ _ _ (.ins (cond _ _ _ :: _) :: _) _ _; first | refine W.gt ?_ | refine W.gf ?_) | (show W _ _ _ _ _ _ [] _ _; refine W.of (.done ?_)) | (apply W.of; constructor <;> first | (show W _ _ _ _ _ _ _ _ _) | (intro (al : Nat) h st; show W _ _ _ _ _ _ _ _ _) | (intro _ h st; show W _ _ _ _ _ _ _ _ _) | exact Sd)))
  obtain ⟨X, rfl⟩ : ∃ y, y = al := ⟨_, rfl⟩
  rw [hp]
  have est : ((p : Int)) = ((p + 0 : Nat) : Int) := by simp
  rw [est]
  refine W.loop (fun y : JoS => [(6, .ptr D 0), (20, .ptr X 0), (21, y.out), (22, .int .i64 ((p + y.i : Nat) : Int)), (140, uv), (141, .int .i64 ups.length), (142, .int .i64 i)])
    (fun y => VsC y.out 3 ((goneP p ((slc (cntL k (ups.drop i)) p q).take y.i) (-a.by')).map ikey) true :: .pt X (actRowQ a) :: UpC uv ups :: CntC D l k :: F)
    (fun y => y.i ≤ q - p) (fun y => q - p - y.i) ⟨0, .nilsl⟩ (small_rounds (by simp only; omega)) Sbs ?_ (Nat.zero_le _) ?_
  · have st := st.vsNil 3 true
    exact st.sel Sels
  clear st
  intro ⟨j, gv⟩ h hj st
  dsimp only at hj st ⊢
  obtain ⟨gl, gj, gs⟩ := St.ivs (v := gv) (cs := goneP p ((slc (cntL k (ups.drop i)) p q).take j) (-a.by')) st Tk
  have hgl : (goneP p ((slc (cntL k (ups.drop i)) p q).take j) (-a.by')).length ≤ 4096 := Nat.le_trans goneP_len (by rw [List.length_take]; omega)
  by_cases hlt2 : j < q - p
  · have hat : atL (expand l) ((p + j : Nat) : Int) = cntA (a :: ups.drop (i + 1)) (p + j) := by rw [he, atL_cnt (by omega)]
    obtain ⟨c, hc⟩ : ∃ c, c = cntA (a :: ups.drop (i + 1)) (p + j) := ⟨_, rfl⟩
    have hsc : (slc (cntL k (ups.drop i)) p q)[j]? = some c := by rw [slc_get (by omega) (by omega), Int.toNat_natCast, hd, cntL_get (by omega), hc]
    have eg : goneP p ((slc (cntL k (ups.drop i)) p q).take (j + 1)) (-a.by') = goneP p ((slc (cntL k (ups.drop i)) p q).take j) (-a.by') ++ if c ≠ 0 ∧ c + -a.by' = 0 then [(p : Int) + j] else [] := by
      rw [take_snoc1 hsc, goneP_snoc, List.length_take, slc_len (by omega) (by omega) (by rw [cntL_len]; omega), Nat.min_eq_left (by omega)]
    (repeat (first | (show W _ _ _ _ _ _ (.code (cond _ _ _) :: _) _ _; first | refine W.ct ?_ | refine W.cf ?_) | (show W _ _ _ _ _ _ (.ins (cond _ _ _ :: _) :: _) _ _; first | refine W.gt ?_ | refine W.gf ?_) | (show W _ _ _ _ _ _ [] _ _; refine W.of (.done ?_)) | (apply W.of; constructor <;> first | (show W _ _ _ _ _ _ _ _ _) | (intro (al : Nat) h st; show W _ _ _ _ _ _ _ _ _) | (intro _ h st; show W _ _ _ _ _ _ _ _ _) | exact Sd)))
    rw [hq]
    (repeat (first | (show W _ _ _ _ _ _ (.code (cond _ _ _) :: _) _ _; first | refine W.ct ?_ | refine W.cf ?_) | (show W _ _ _ _ _ _ (.ins (cond _ _ _ :: _) :: _) _ _; first | refine W.gt ?_ | refine W.gf ?_) | (show W _ _ _ _ _ _ [] _ _; refine W.of (.done ?_)) | (apply W.of; constructor <;> first | (show W _ _ _ _ _ _ _ _ _) | (intro (al : Nat) h st; show W _ _ _ _ _ _ _ _ _) | (intro _ h st; show W _ _ _ _ _ _ _ _ _) | exact Sd))); refine W.call (hs := (cnt_At (l := l))) (w := ?_); rintro vv _ ⟨rfl, rfl⟩ h st; refine nj ?_; dsimp only [List.cons_append, List.nil_append] at st
    rw [hat, ← hc]
    by_cases hz : c = a.by'
    · rw [if_pos ⟨by omega, by omega⟩] at eg
      (repeat (first | (show W _ _ _ _ _ _ (.code (cond _ _ _) :: _) _ _; first | refine W.ct ?_ | refine W.cf ?_) | (show W _ _ _ _ _ _ (.ins (cond _ _ _ :: _) :: _) _ _; first | refine W.gt ?_ | refine W.gf ?_) | (show W _ _ _ _ _ _ [] _ _; refine W.of (.done ?_)) | (apply W.of; constructor <;> first | (show W _ _ _ _ _ _ _ _ _) | (intro (al : Nat) h st; show W _ _ _ _ _ _ _ _ _) | (intro _ h st; show W _ _ _ _ _ _ _ _ _) | exact Sd)))
      have st := St.vsRow (l := [.int .i64 ((p + j : Nat) : Int)]) (e := 3) st Tk rfl
      (repeat (first | (show W _ _ _ _ _ _ (.code (cond _ _ _) :: _) _ _; first | refine W.ct ?_ | refine W.cf ?_) | (show W _ _ _ _ _ _ (.ins (cond _ _ _ :: _) :: _) _ _; first | refine W.gt ?_ | refine W.gf ?_) | (show W _ _ _ _ _ _ [] _ _; refine W.of (.done ?_)) | (apply W.of; constructor <;> first | (show W _ _ _ _ _ _ _ _ _) | (intro (al : Nat) h st; show W _ _ _ _ _ _ _ _ _) | (intro _ h st; show W _ _ _ _ _ _ _ _ _) | exact Sd))); refine W.ef (ho := (e_vsAppend (s := gv) (l' := [.int .i64 ((p + j : Nat) : Int)]) st Tk Tk (by simp; omega) (by simp; omega))) (w := ?_); rintro vv h ⟨cj, cl, st⟩; refine nj ?_
      rw [show (goneP p ((slc (cntL k (ups.drop i)) p q).take j) (-a.by')).map ikey ++ [.int .i64 ((p + j : Nat) : Int)] = (goneP p ((slc (cntL k (ups.drop i)) p q).take (j + 1)) (-a.by')).map ikey by rw [eg, List.map_append]; rfl] at st
      (repeat (first | (show W _ _ _ _ _ _ (.code (cond _ _ _) :: _) _ _; first | refine W.ct ?_ | refine W.cf ?_) | (show W _ _ _ _ _ _ (.ins (cond _ _ _ :: _) :: _) _ _; first | refine W.gt ?_ | refine W.gf ?_) | (show W _ _ _ _ _ _ [] _ _; refine W.of (.done ?_)) | (apply W.of; constructor <;> first | (show W _ _ _ _ _ _ _ _ _) | (intro (al : Nat) h st; show W _ _ _ _ _ _ _ _ _) | (intro _ h st; show W _ _ _ _ _ _ _ _ _) | exact Sd)))
      refine W.of (.lp ?_)
      exact ⟨⟨j + 1, vv⟩, by simp only; omega, hlt2, Sbs, st.sel Sels⟩
    · rw [if_neg (by omega), List.append_nil] at eg
      rw [← eg] at st
      (repeat (first | (show W _ _ _ _ _ _ (.code (cond _ _ _) :: _) _ _; first | refine W.ct ?_ | refine W.cf ?_) | (show W _ _ _ _ _ _ (.ins (cond _ _ _ :: _) :: _) _ _; first | refine W.gt ?_ | refine W.gf ?_) | (show W _ _ _ _ _ _ [] _ _; refine W.of (.done ?_)) | (apply W.of; constructor <;> first | (show W _ _ _ _ _ _ _ _ _) | (intro (al : Nat) h st; show W _ _ _ _ _ _ _ _ _) | (intro _ h st; show W _ _ _ _ _ _ _ _ _) | exact Sd)))
      refine W.of (.lp ?_)
      exact ⟨⟨j + 1, gv⟩, by simp only; omega, hlt2, Sbs, st.sel Sels⟩
  · have e : j = q - p := by omega
    subst e
    have hsl := slc_len (cs := cntL k (ups.drop i)) (lo := (p : Int)) (hi := (q : Int)) (by omega) (by omega) (by rw [cntL_len]; omega)
    rw [List.take_of_length_le (by omega)] at st gl hgl
    (repeat (first | (show W _ _ _ _ _ _ (.code (cond _ _ _) :: _) _ _; first | refine W.ct ?_ | refine W.cf ?_) | (show W _ _ _ _ _ _ (.ins (cond _ _ _ :: _) :: _) _ _; first | refine W.gt ?_ | refine W.gf ?_) | (show W _ _ _ _ _ _ [] _ _; refine W.of (.done ?_)) | (apply W.of; constructor <;> first | (show W _ _ _ _ _ _ _ _ _) | (intro (al : Nat) h st; show W _ _ _ _ _ _ _ _ _) | (intro _ h st; show W _ _ _ _ _ _ _ _ _) | exact Sd)))
    rw [wrap64 (n := 0 - a.by') (by omega) (by omega), show 0 - a.by' = -a.by' by omega]
    (repeat (first | (show W _ _ _ _ _ _ (.code (cond _ _ _) :: _) _ _; first | refine W.ct ?_ | refine W.cf ?_) | (show W _ _ _ _ _ _ (.ins (cond _ _ _ :: _) :: _) _ _; first | refine W.gt ?_ | refine W.gf ?_) | (show W _ _ _ _ _ _ [] _ _; refine W.of (.done ?_)) | (apply W.of; constructor <;> first | (show W _ _ _ _ _ _ _ _ _) | (intro (al : Nat) h st; show W _ _ _ _ _ _ _ _ _) | (intro _ h st; show W _ _ _ _ _ _ _ _ _) | exact Sd))); refine W.call (hs := (cnt_Add_ok (D := D) (l := l) (lo := a.lo) (hi := a.hi) (by' := -a.by') (by rw [he]; exact ho))) (w := ?_); rintro vv _ ⟨gv2, l1, rfl, gj2, gl2, e1, rfl⟩ h st; refine nj ?_; dsimp only [List.cons_append, List.nil_append] at st
    rw [he, ← hd, hp, hq] at st gl2
    (repeat (first | (show W _ _ _ _ _ _ (.code (cond _ _ _) :: _) _ _; first | refine W.ct ?_ | refine W.cf ?_) | (show W _ _ _ _ _ _ (.ins (cond _ _ _ :: _) :: _) _ _; first | refine W.gt ?_ | refine W.gf ?_) | (show W _ _ _ _ _ _ [] _ _; refine W.of (.done ?_)) | (apply W.of; constructor <;> first | (show W _ _ _ _ _ _ _ _ _) | (intro (al : Nat) h st; show W _ _ _ _ _ _ _ _ _) | (intro _ h st; show W _ _ _ _ _ _ _ _ _) | exact Sd))); refine W.call (hs := (ref01_Ints (a := gv2) (b := gv) (l := goneP p (slc (cntL k (ups.drop i)) p q) (-a.by')) (l' := goneP p (slc (cntL k (ups.drop i)) p q) (-a.by')) (by omega))) (w := ?_); rintro vv _ ⟨rfl, rfl⟩ h st; refine nj ?_; dsimp only [List.cons_append, List.nil_append] at st
    rw [decide_eq_true (rfl : goneP p (slc (cntL k (ups.drop i)) p q) (-a.by') = _)]
    (repeat (first | (show W _ _ _ _ _ _ (.code (cond _ _ _) :: _) _ _; first | refine W.ct ?_ | refine W.cf ?_) | (show W _ _ _ _ _ _ (.ins (cond _ _ _ :: _) :: _) _ _; first | refine W.gt ?_ | refine W.gf ?_) | (show W _ _ _ _ _ _ [] _ _; refine W.of (.done ?_)) | (apply W.of; constructor <;> first | (show W _ _ _ _ _ _ _ _ _) | (intro (al : Nat) h st; show W _ _ _ _ _ _ _ _ _) | (intro _ h st; show W _ _ _ _ _ _ _ _ _) | exact Sd)))
    refine W.of (.lp ?_)
    exact ⟨⟨i + 1, l1⟩, by simp only; omega, ⟨hlt, by simp only; rw [e1, he, addL_cnt_back]⟩, Sbs, st.sel Sels⟩
theorem cntL_nil {k : Nat} : cntL k [] = List.replicate k 0 := by
  apply List.ext_getElem?
  intro j
  by_cases h : j < k
  · rw [cntL_get h]; simp [h, cntA]
  · rw [List.getElem?_eq_none (by rw [cntL_len]; omega), List.getElem?_eq_none (by simp; omega)]
set_option maxRecDepth 8000 in
theorem szeros_w {x : Nat} {v : AV} {acts : List ActP} : Spec R (.f n_law11_SpreadZeros) [.int .u64 (x : Nat), v] [ActPC v acts] fun r _ => r = .bool true := by
  refine spec_in fun h F st => ?_
  obtain ⟨hl, hj⟩ := st.ar Tk
  obtain ⟨k, hk⟩ : ∃ k, k = 1 + x % 40 := ⟨_, rfl⟩
  have hk0 : 0 < k := by omega
  have hk1 : k ≤ 40 := by omega
  clear st h F; refine spec_w (fun _ _ _ x => progI_call rfl rfl x) Njs rfl (fun h F st => ?_); dsimp only [List.cons_append, List.nil_append] at st
  (repeat (first | (show W _ _ _ _ _ _ (.code (cond _ _ _) :: _) _ _; first | refine W.ct ?_ | refine W.cf ?_) | (show W _ _ _ _ _ _ (.ins (cond _ _ _ :: _) :: _) _ _; first | refine W.gt ?_ | refine W.gf ?_) | (show W _ _ _ _ _ _ [] _ _; refine W.of (.done ?_)) | (apply W.of; constructor <;> first | (show W _ _ _ _ _ _ _ _ _) | (intro (al : Nat) h st; show W _ _ _ _ _ _ _ _ _) | (intro _ h st; show W _ _ _ _ _ _ _ _ _) | exact Sd)))
  rw [show ((x : Nat) : Int).tmod 40 = ((x % 40 : Nat) : Int) from Int.ofNat_tmod _ 40, wrap64 (n := ((x % 40 : Nat) : Int)) (by omega) (by omega)]
  (repeat (first | (show W _ _ _ _ _ _ (.code (cond _ _ _) :: _) _ _; first | refine W.ct ?_ | refine W.cf ?_) | (show W _ _ _ _ _ _ (.ins (cond _ _ _ :: _) :: _) _ _; first | refine W.gt ?_ | refine W.gf ?_) | (show W _ _ _ _ _ _ [] _ _; refine W.of (.done ?_)) | (apply W.of; constructor <;> first | (show W _ _ _ _ _ _ _ _ _) | (intro (al : Nat) h st; show W _ _ _ _ _ _ _ _ _) | (intro _ h st; show W _ _ _ _ _ _ _ _ _) | exact Sd)))
  rw [show (1 : Int) + ((x % 40 : Nat) : Int) = (k : Int) by omega]
  (repeat (first | (show W _ _ _ _ _ _ (.code (cond _ _ _) :: _) _ _; first | refine W.ct ?_ | refine W.cf ?_) | (show W _ _ _ _ _ _ (.ins (cond _ _ _ :: _) :: _) _ _; first | refine W.gt ?_ | refine W.gf ?_) | (show W _ _ _ _ _ _ [] _ _; refine W.of (.done ?_)) | (apply W.of; constructor <;> first | (show W _ _ _ _ _ _ _ _ _) | (intro (al : Nat) h st; show W _ _ _ _ _ _ _ _ _) | (intro _ h st; show W _ _ _ _ _ _ _ _ _) | exact Sd))); refine W.call (hs := (cnt_New (m := k) (by omega) (by omega))) (w := ?_); rintro vv _ ⟨D, l0, rfl, rfl, e0⟩ h st; refine nj ?_; dsimp only [List.cons_append, List.nil_append] at st
  (repeat (first | (show W _ _ _ _ _ _ (.code (cond _ _ _) :: _) _ _; first | refine W.ct ?_ | refine W.cf ?_) | (show W _ _ _ _ _ _ (.ins (cond _ _ _ :: _) :: _) _ _; first | refine W.gt ?_ | refine W.gf ?_) | (show W _ _ _ _ _ _ [] _ _; refine W.of (.done ?_)) | (apply W.of; constructor <;> first | (show W _ _ _ _ _ _ _ _ _) | (intro (al : Nat) h st; show W _ _ _ _ _ _ _ _ _) | (intro _ h st; show W _ _ _ _ _ _ _ _ _) | exact Sd))); refine W.call (hs := (cnt_New (m := k) (by omega) (by omega))) (w := ?_); rintro vv _ ⟨E, l0', rfl, rfl, e0'⟩ h st; refine nj ?_; dsimp only [List.cons_append, List.nil_append] at st
  rw [Int.toNat_natCast, ← cntL_nil] at e0 e0'
  have hc0 := st.cnt (D := D) (l := l0) Tk
  have hc0' := st.cnt (D := E) (l := l0') Tk
  obtain rfl : l0 = l0' := runs_are hc0 hc0' (e0.trans e0'.symm)
  by_cases h40 : acts.length ≤ 40
  · (repeat (first | (show W _ _ _ _ _ _ (.code (cond _ _ _) :: _) _ _; first | refine W.ct ?_ | refine W.cf ?_) | (show W _ _ _ _ _ _ (.ins (cond _ _ _ :: _) :: _) _ _; first | refine W.gt ?_ | refine W.gf ?_) | (show W _ _ _ _ _ _ [] _ _; refine W.of (.done ?_)) | (apply W.of; constructor <;> first | (show W _ _ _ _ _ _ _ _ _) | (intro (al : Nat) h st; show W _ _ _ _ _ _ _ _ _) | (intro _ h st; show W _ _ _ _ _ _ _ _ _) | exact Sd)))
    refine W.loop (fun y : JoS => [(5, .int .i64 k), (6, .ptr D 0), (7, .ptr E 0), (8, y.out), (53, v), (54, .int .i64 acts.length), (55, .int .i64 y.i)])
      (fun y => UpC y.out (upsL k (acts.take y.i)) :: CntC D l0 k :: CntC E l0 k :: ActPC v acts :: F) (fun y => y.i ≤ acts.length) (fun y => acts.length - y.i) ⟨0, .nilsl⟩ (small_rounds (by simp only; omega)) Sbs ?_ (Nat.zero_le _) ?_
    · have st := st.rwNil ty_law11_Act 4 ActP.cells true
      exact st.sel Sels
    clear st
    intro ⟨i, uv⟩ h hi st
    dsimp only at hi st ⊢
    by_cases hlt : i < acts.length
    · exact zeros_L0 hlt h40 hk0 hk1 st
    · have e : i = acts.length := by omega
      subst e
      rw [List.take_length] at st
      obtain ⟨ups, hups⟩ : ∃ u, u = upsL k acts := ⟨_, rfl⟩
      rw [← hups] at st
      have hul : ups.length = acts.length := by rw [hups, List.length_map]
      have hu : ∀ a, a ∈ ups → UpOk k a := fun a ha => by
        rw [hups] at ha
        obtain ⟨b, _, rfl⟩ := List.mem_map.1 ha
        exact upA_ok hk0 b
      obtain ⟨ul, uj, uo⟩ := St.rw (v := uv) (l := ups) st Tk
      (repeat (first | (show W _ _ _ _ _ _ (.code (cond _ _ _) :: _) _ _; first | refine W.ct ?_ | refine W.cf ?_) | (show W _ _ _ _ _ _ (.ins (cond _ _ _ :: _) :: _) _ _; first | refine W.gt ?_ | refine W.gf ?_) | (show W _ _ _ _ _ _ [] _ _; refine W.of (.done ?_)) | (apply W.of; constructor <;> first | (show W _ _ _ _ _ _ _ _ _) | (intro (al : Nat) h st; show W _ _ _ _ _ _ _ _ _) | (intro _ h st; show W _ _ _ _ _ _ _ _ _) | exact Sd)))
      refine W.loop (fun y : ZeS => zeE D E uv ups.length y.i) (zeG D E k uv ups F) (fun y => y.i ≤ ups.length ∧ ZeOk k ups y) (fun y => ups.length - y.i) ⟨0, l0, l0⟩ (small_rounds (by simp only; omega)) Sbs (st.sel Sels) ⟨Nat.zero_le _, e0, by rw [Nat.sub_zero, List.drop_length]; exact e0⟩ ?_
      clear st
      intro y h ⟨hi, hs⟩ st
      by_cases hlt : y.i < ups.length
      · exact zeros_L1 y hlt (by omega) hu hs st
      · obtain ⟨i, l, l'⟩ := y
        have he := hs.e
        have he' := hs.e'
        dsimp only [zeG] at hlt hi st he he' ⊢
        have e : i = ups.length := by omega
        subst e
        rw [List.take_length] at he
        rw [Nat.sub_self, List.drop_zero] at he'
        have hk1 := st.cnt (D := D) (l := l) Tk
        have hk2 := st.cnt (D := E) (l := l') Tk
        obtain rfl : l = l' := runs_are hk1 hk2 (he.trans he'.symm)
        have hlen := hk1.len
        (repeat (first | (show W _ _ _ _ _ _ (.code (cond _ _ _) :: _) _ _; first | refine W.ct ?_ | refine W.cf ?_) | (show W _ _ _ _ _ _ (.ins (cond _ _ _ :: _) :: _) _ _; first | refine W.gt ?_ | refine W.gf ?_) | (show W _ _ _ _ _ _ [] _ _; refine W.of (.done ?_)) | (apply W.of; constructor <;> first | (show W _ _ _ _ _ _ _ _ _) | (intro (al : Nat) h st; show W _ _ _ _ _ _ _ _ _) | (intro _ h st; show W _ _ _ _ _ _ _ _ _) | exact Sd))); refine W.call (hs := (cnt_Runs (D := D) (l := l))) (w := ?_); rintro vv _ ⟨rj, rl, rfl⟩ h st; refine nj ?_; dsimp only [List.cons_append, List.nil_append] at st
        obtain ⟨r1, rfl⟩ : ∃ y, y = vv := ⟨_, rfl⟩
        (repeat (first | (show W _ _ _ _ _ _ (.code (cond _ _ _) :: _) _ _; first | refine W.ct ?_ | refine W.cf ?_) | (show W _ _ _ _ _ _ (.ins (cond _ _ _ :: _) :: _) _ _; first | refine W.gt ?_ | refine W.gf ?_) | (show W _ _ _ _ _ _ [] _ _; refine W.of (.done ?_)) | (apply W.of; constructor <;> first | (show W _ _ _ _ _ _ _ _ _) | (intro (al : Nat) h st; show W _ _ _ _ _ _ _ _ _) | (intro _ h st; show W _ _ _ _ _ _ _ _ _) | exact Sd))); refine W.call (hs := (cnt_Runs (D := E) (l := l))) (w := ?_); rintro vv _ ⟨rj2, rl2, rfl⟩ h st; refine nj ?_; dsimp only [List.cons_append, List.nil_append] at st
        (repeat (first | (show W _ _ _ _ _ _ (.code (cond _ _ _) :: _) _ _; first | refine W.ct ?_ | refine W.cf ?_) | (show W _ _ _ _ _ _ (.ins (cond _ _ _ :: _) :: _) _ _; first | refine W.gt ?_ | refine W.gf ?_) | (show W _ _ _ _ _ _ [] _ _; refine W.of (.done ?_)) | (apply W.of; constructor <;> first | (show W _ _ _ _ _ _ _ _ _) | (intro (al : Nat) h st; show W _ _ _ _ _ _ _ _ _) | (intro _ h st; show W _ _ _ _ _ _ _ _ _) | exact Sd))); refine W.call (hs := (ref11_Same (a := r1) (l := l) (l' := l) (by omega))) (w := ?_); rintro vv _ ⟨rfl, rfl⟩ h st; refine nj ?_; dsimp only [List.cons_append, List.nil_append] at st
        rw [decide_eq_true (rfl : l = l)]
        (repeat (first | (show W _ _ _ _ _ _ (.code (cond _ _ _) :: _) _ _; first | refine W.ct ?_ | refine W.cf ?_) | (show W _ _ _ _ _ _ (.ins (cond _ _ _ :: _) :: _) _ _; first | refine W.gt ?_ | refine W.gf ?_) | (show W _ _ _ _ _ _ [] _ _; refine W.of (.done ?_)) | (apply W.of; constructor <;> first | (show W _ _ _ _ _ _ _ _ _) | (intro (al : Nat) h st; show W _ _ _ _ _ _ _ _ _) | (intro _ h st; show W _ _ _ _ _ _ _ _ _) | exact Sd)))
        refine W.loop (fun y : ZtS => ztE D uv ups.length y.i) (ztG D k uv ups F) (fun y => y.i ≤ ups.length ∧ expand y.l = cntL k (ups.drop y.i)) (fun y => ups.length - y.i) ⟨0, l⟩ (small_rounds (by simp only; omega)) Sbs (st.sel Sels) ⟨Nat.zero_le _, by rw [List.drop_zero]; exact he⟩ ?_
        clear st
        intro y h ⟨hi, hs⟩ st
        by_cases hlt : y.i < ups.length
        · exact zeros_L2 y hlt (by omega) (by omega) hu hs st
        · obtain ⟨i, l⟩ := y
          dsimp only [ztG] at hlt hi st hs ⊢
          rw [List.drop_eq_nil_of_le (by omega), cntL_nil] at hs
          have hk1 := st.cnt (D := D) (l := l) Tk
          have hl : l = [⟨0, k, 0⟩] := runs_are hk1 ⟨by simp [Chain]; omega, by simp [Adj], by omega, by omega, by simp⟩ (by rw [hs]; simp [expand, runX])
          (repeat (first | (show W _ _ _ _ _ _ (.code (cond _ _ _) :: _) _ _; first | refine W.ct ?_ | refine W.cf ?_) | (show W _ _ _ _ _ _ (.ins (cond _ _ _ :: _) :: _) _ _; first | refine W.gt ?_ | refine W.gf ?_) | (show W _ _ _ _ _ _ [] _ _; refine W.of (.done ?_)) | (apply W.of; constructor <;> first | (show W _ _ _ _ _ _ _ _ _) | (intro (al : Nat) h st; show W _ _ _ _ _ _ _ _ _) | (intro _ h st; show W _ _ _ _ _ _ _ _ _) | exact Sd))); refine W.call (hs := (cnt_Sum (l := l))) (w := ?_); rintro vv _ ⟨rfl, rfl⟩ h st; refine nj ?_; dsimp only [List.cons_append, List.nil_append] at st
          rw [hs, show (List.replicate k (0 : Int)).sum = 0 by simp]
          (repeat (first | (show W _ _ _ _ _ _ (.code (cond _ _ _) :: _) _ _; first | refine W.ct ?_ | refine W.cf ?_) | (show W _ _ _ _ _ _ (.ins (cond _ _ _ :: _) :: _) _ _; first | refine W.gt ?_ | refine W.gf ?_) | (show W _ _ _ _ _ _ [] _ _; refine W.of (.done ?_)) | (apply W.of; constructor <;> first | (show W _ _ _ _ _ _ _ _ _) | (intro (al : Nat) h st; show W _ _ _ _ _ _ _ _ _) | (intro _ h st; show W _ _ _ _ _ _ _ _ _) | exact Sd))); refine W.call (hs := (cnt_Runs (l := l))) (w := ?_); rintro vv _ ⟨rj, rl, rfl⟩ h st; refine nj ?_; dsimp only [List.cons_append, List.nil_append] at st
          rw [hl] at rl
          (repeat (first | (show W _ _ _ _ _ _ (.code (cond _ _ _) :: _) _ _; first | refine W.ct ?_ | refine W.cf ?_) | (show W _ _ _ _ _ _ (.ins (cond _ _ _ :: _) :: _) _ _; first | refine W.gt ?_ | refine W.gf ?_) | (show W _ _ _ _ _ _ [] _ _; refine W.of (.done ?_)) | (apply W.of; constructor <;> first | (show W _ _ _ _ _ _ _ _ _) | (intro (al : Nat) h st; show W _ _ _ _ _ _ _ _ _) | (intro _ h st; show W _ _ _ _ _ _ _ _ _) | exact Sd))); refine W.call (hs := law11_lives) (w := ?_); rintro vv _ ⟨rfl, rfl⟩ h st; refine nj ?_; dsimp only [List.cons_append, List.nil_append] at st
          (repeat (first | (show W _ _ _ _ _ _ (.code (cond _ _ _) :: _) _ _; first | refine W.ct ?_ | refine W.cf ?_) | (show W _ _ _ _ _ _ (.ins (cond _ _ _ :: _) :: _) _ _; first | refine W.gt ?_ | refine W.gf ?_) | (show W _ _ _ _ _ _ [] _ _; refine W.of (.done ?_)) | (apply W.of; constructor <;> first | (show W _ _ _ _ _ _ _ _ _) | (intro (al : Nat) h st; show W _ _ _ _ _ _ _ _ _) | (intro _ h st; show W _ _ _ _ _ _ _ _ _) | exact Sd)))
          exact ⟨_, rfl, [_, _, _], rfl, st⟩
  · (repeat (first | (show W _ _ _ _ _ _ (.code (cond _ _ _) :: _) _ _; first | refine W.ct ?_ | refine W.cf ?_) | (show W _ _ _ _ _ _ (.ins (cond _ _ _ :: _) :: _) _ _; first | refine W.gt ?_ | refine W.gf ?_) | (show W _ _ _ _ _ _ [] _ _; refine W.of (.done ?_)) | (apply W.of; constructor <;> first | (show W _ _ _ _ _ _ _ _ _) | (intro (al : Nat) h st; show W _ _ _ _ _ _ _ _ _) | (intro _ h st; show W _ _ _ _ _ _ _ _ _) | exact Sd)))
    (repeat (first | (show W _ _ _ _ _ _ (.code (cond _ _ _) :: _) _ _; first | refine W.ct ?_ | refine W.cf ?_) | (show W _ _ _ _ _ _ (.ins (cond _ _ _ :: _) :: _) _ _; first | refine W.gt ?_ | refine W.gf ?_) | (show W _ _ _ _ _ _ [] _ _; refine W.of (.done ?_)) | (apply W.of; constructor <;> first | (show W _ _ _ _ _ _ _ _ _) | (intro (al : Nat) h st; show W _ _ _ _ _ _ _ _ _) | (intro _ h st; show W _ _ _ _ _ _ _ _ _) | exact Sd))); refine W.call (hs := law11_lives) (w := ?_); rintro vv _ ⟨rfl, rfl⟩ h st; refine nj ?_; dsimp only [List.cons_append, List.nil_append] at st
    (repeat (first | (show W _ _ _ _ _ _ (.code (cond _ _ _) :: _) _ _; first | refine W.ct ?_ | refine W.cf ?_) | (show W _ _ _ _ _ _ (.ins (cond _ _ _ :: _) :: _) _ _; first | refine W.gt ?_ | refine W.gf ?_) | (show W _ _ _ _ _ _ [] _ _; refine W.of (.done ?_)) | (apply W.of; constructor <;> first | (show W _ _ _ _ _ _ _ _ _) | (intro (al : Nat) h st; show W _ _ _ _ _ _ _ _ _) | (intro _ h st; show W _ _ _ _ _ _ _ _ _) | exact Sd)))
    exact ⟨_, rfl, [_, _, _], rfl, st⟩
end Go.Proofs.Ytjdemlagmamlbaa
