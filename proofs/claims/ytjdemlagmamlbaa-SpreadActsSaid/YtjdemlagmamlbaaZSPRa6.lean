/- BY PROGRAM (wip/tool/shake.py): own texts, one behind the other, without what is not needed. -/
import Derived.Control
import Derived.Calls
import Derived.KernelRfl
import Derived.Laws.Sem
import Derived.Laws.Cells
import Derived.Laws.World
import GoSem.Dispatch
import Derived.Laws.StructEq
import Derived.IntWalk
import Derived.WideKeyRuns
import Derived.Laws.BytesArg
import Derived.Orders
import Derived.ChangeArms
import Derived.OpenShut
import Derived.ChangeShapes
import Derived.ProofKit
import Derived.Test.YtjdemlagmamlbaaProg
import Derived.Test.YtjdemlagmamlbaaRows
import Derived.Test.YtjdemlagmamlbaaZSPRa5

namespace Go.Proofs.Ytjdemlagmamlbaa
/-- an act -/
structure ActP where
  lo : Int
  hi : Int
  by' : Int
  grow : Bool
abbrev ActP.cells (a : ActP) : List AV := [.int .i64 a.lo, .int .i64 a.hi, .int .i64 a.by', .bool a.grow]
abbrev ActP.G (_ : ActP) : List Chunk := []
abbrev ActPC (v : AV) (l : List ActP) : Chunk := ArC v 4 ActP.cells ActP.G l
abbrev zCnt : AObj := .row ty_spread_Counts 3 false false (.vals [.nilsl, .int .i64 0, .bool false])
def NoCIs (p : AV) (cs : List Chunk) : Prop := (p = .nilptr ∧ cs = []) ∨ ∃ Z, p = .ptr Z 0 ∧ cs = [.pt Z zCnt]
abbrev NoC (p : AV) : Chunk := pk 35 p (NoCIs p)
variable {p : AV}
theorem St.noC {h : AHeap} {L R : List Chunk} (st : St h L) (t : Take L (NoC p) R) : p.notJunk = some p ∧ p.dat = .vals [p] := by
  obtain ⟨cs, x, _⟩ := (st.take t).unpack
  rcases x with ⟨rfl, _⟩ | ⟨Z, rfl, _⟩ <;> exact ⟨rfl, rfl⟩
theorem noC_made : Spec R (.f n_spread_Counts_made) [p] [NoC p] fun v Rs => v = .bool false ∧ Rs = [NoC p] := by
  intro h F st
  obtain ⟨cs, (⟨rfl, rfl⟩ | ⟨Z, rfl, rfl⟩), st⟩ := st.unpack
  · have key : Spec R (.f n_spread_Counts_made) [.nilptr] [] fun v Rs => v = .bool false ∧ Rs = [] := by
      refine spec_w (fun _ _ _ x => progI_call rfl rfl x) Njs rfl (fun h F st => ?_); dsimp only [List.cons_append, List.nil_append] at st
      (repeat (first | (show W _ _ _ _ _ _ (.code (cond _ _ _) :: _) _ _; first | refine W.ct ?_ | refine W.cf ?_) | (show W _ _ _ _ _ _ (.ins (cond _ _ _ :: _) :: _) _ _; first | refine W.gt ?_ | refine W.gf ?_) | (show W _ _ _ _ _ _ [] _ _; refine W.of (.done ?_)) | (apply W.of; constructor <;> first | (show W _ _ _ _ _ _ _ _ _) | (intro (al : Nat) h st; show W _ _ _ _ _ _ _ _ _) | (intro _ h st; show W _ _ _ _ _ _ _ _ _) | exact Sd)))
      exact ⟨_, rfl, _, ⟨rfl, rfl⟩, st⟩
    refine progI_mono _ _ _ _ _ ?_ (key h F st)
    rintro v h' ⟨Rs, ⟨rfl, rfl⟩, st'⟩
    exact ⟨_, ⟨rfl, rfl⟩, St.pack (cs := []) st' (.inl ⟨rfl, rfl⟩)⟩
  · have key : Spec R (.f n_spread_Counts_made) [.ptr Z 0] [.pt Z zCnt] fun v Rs => v = .bool false ∧ Rs = [.pt Z zCnt] := by
      refine spec_w (fun _ _ _ x => progI_call rfl rfl x) Njs rfl (fun h F st => ?_); dsimp only [List.cons_append, List.nil_append] at st
      (repeat (first | (show W _ _ _ _ _ _ (.code (cond _ _ _) :: _) _ _; first | refine W.ct ?_ | refine W.cf ?_) | (show W _ _ _ _ _ _ (.ins (cond _ _ _ :: _) :: _) _ _; first | refine W.gt ?_ | refine W.gf ?_) | (show W _ _ _ _ _ _ [] _ _; refine W.of (.done ?_)) | (apply W.of; constructor <;> first | (show W _ _ _ _ _ _ _ _ _) | (intro (al : Nat) h st; show W _ _ _ _ _ _ _ _ _) | (intro _ h st; show W _ _ _ _ _ _ _ _ _) | exact Sd)))
      exact ⟨_, rfl, _, ⟨rfl, rfl⟩, st⟩
    refine progI_mono _ _ _ _ _ ?_ (key h F st)
    rintro v h' ⟨Rs, ⟨rfl, rfl⟩, st'⟩
    exact ⟨_, ⟨rfl, rfl⟩, St.pack (cs := [_]) st' (.inr ⟨Z, rfl, rfl⟩)⟩
theorem noC_Len : Spec R (.f n_spread_Counts_Len) [p] [NoC p] fun v Rs => v = .int .i64 0 ∧ Rs = [NoC p] := by
  refine spec_in fun h F st => ?_
  obtain ⟨hp, _⟩ := st.noC Tk
  clear st h F; refine spec_w (fun _ _ _ x => progI_call rfl rfl x) Njs rfl (fun h F st => ?_); dsimp only [List.cons_append, List.nil_append] at st
  (repeat (first | (show W _ _ _ _ _ _ (.code (cond _ _ _) :: _) _ _; first | refine W.ct ?_ | refine W.cf ?_) | (show W _ _ _ _ _ _ (.ins (cond _ _ _ :: _) :: _) _ _; first | refine W.gt ?_ | refine W.gf ?_) | (show W _ _ _ _ _ _ [] _ _; refine W.of (.done ?_)) | (apply W.of; constructor <;> first | (show W _ _ _ _ _ _ _ _ _) | (intro (al : Nat) h st; show W _ _ _ _ _ _ _ _ _) | (intro _ h st; show W _ _ _ _ _ _ _ _ _) | exact Sd))); refine W.call (hs := noC_made) (w := ?_); rintro vv _ ⟨rfl, rfl⟩ h st; refine nj ?_; dsimp only [List.cons_append, List.nil_append] at st
  (repeat (first | (show W _ _ _ _ _ _ (.code (cond _ _ _) :: _) _ _; first | refine W.ct ?_ | refine W.cf ?_) | (show W _ _ _ _ _ _ (.ins (cond _ _ _ :: _) :: _) _ _; first | refine W.gt ?_ | refine W.gf ?_) | (show W _ _ _ _ _ _ [] _ _; refine W.of (.done ?_)) | (apply W.of; constructor <;> first | (show W _ _ _ _ _ _ _ _ _) | (intro (al : Nat) h st; show W _ _ _ _ _ _ _ _ _) | (intro _ h st; show W _ _ _ _ _ _ _ _ _) | exact Sd)))
  exact ⟨_, rfl, _, ⟨rfl, rfl⟩, st⟩
theorem noC_Runs : Spec R (.f n_spread_Counts_Runs) [p] [NoC p] fun v Rs => v = .nilsl ∧ Rs = [NoC p] := by
  refine spec_in fun h F st => ?_
  obtain ⟨hp, _⟩ := st.noC Tk
  clear st h F; refine spec_w (fun _ _ _ x => progI_call rfl rfl x) Njs rfl (fun h F st => ?_); dsimp only [List.cons_append, List.nil_append] at st
  (repeat (first | (show W _ _ _ _ _ _ (.code (cond _ _ _) :: _) _ _; first | refine W.ct ?_ | refine W.cf ?_) | (show W _ _ _ _ _ _ (.ins (cond _ _ _ :: _) :: _) _ _; first | refine W.gt ?_ | refine W.gf ?_) | (show W _ _ _ _ _ _ [] _ _; refine W.of (.done ?_)) | (apply W.of; constructor <;> first | (show W _ _ _ _ _ _ _ _ _) | (intro (al : Nat) h st; show W _ _ _ _ _ _ _ _ _) | (intro _ h st; show W _ _ _ _ _ _ _ _ _) | exact Sd))); refine W.call (hs := noC_made) (w := ?_); rintro vv _ ⟨rfl, rfl⟩ h st; refine nj ?_; dsimp only [List.cons_append, List.nil_append] at st
  (repeat (first | (show W _ _ _ _ _ _ (.code (cond _ _ _) :: _) _ _; first | refine W.ct ?_ | refine W.cf ?_) | (show W _ _ _ _ _ _ (.ins (cond _ _ _ :: _) :: _) _ _; first | refine W.gt ?_ | refine W.gf ?_) | (show W _ _ _ _ _ _ [] _ _; refine W.of (.done ?_)) | (apply W.of; constructor <;> first | (show W _ _ _ _ _ _ _ _ _) | (intro (al : Nat) h st; show W _ _ _ _ _ _ _ _ _) | (intro _ h st; show W _ _ _ _ _ _ _ _ _) | exact Sd)))
  exact ⟨_, rfl, _, ⟨rfl, rfl⟩, st⟩
theorem noC_Grow {m : Int} : Spec R (.f n_spread_Counts_Grow) [p, .int .i64 m] [NoC p] fun v Rs => v = .int .i64 1 ∧ Rs = [NoC p] := by
  refine spec_in fun h F st => ?_
  obtain ⟨hp, _⟩ := st.noC Tk
  clear st h F; refine spec_w (fun _ _ _ x => progI_call rfl rfl x) Njs rfl (fun h F st => ?_); dsimp only [List.cons_append, List.nil_append] at st
  (repeat (first | (show W _ _ _ _ _ _ (.code (cond _ _ _) :: _) _ _; first | refine W.ct ?_ | refine W.cf ?_) | (show W _ _ _ _ _ _ (.ins (cond _ _ _ :: _) :: _) _ _; first | refine W.gt ?_ | refine W.gf ?_) | (show W _ _ _ _ _ _ [] _ _; refine W.of (.done ?_)) | (apply W.of; constructor <;> first | (show W _ _ _ _ _ _ _ _ _) | (intro (al : Nat) h st; show W _ _ _ _ _ _ _ _ _) | (intro _ h st; show W _ _ _ _ _ _ _ _ _) | exact Sd))); refine W.call (hs := noC_made) (w := ?_); rintro vv _ ⟨rfl, rfl⟩ h st; refine nj ?_; dsimp only [List.cons_append, List.nil_append] at st
  (repeat (first | (show W _ _ _ _ _ _ (.code (cond _ _ _) :: _) _ _; first | refine W.ct ?_ | refine W.cf ?_) | (show W _ _ _ _ _ _ (.ins (cond _ _ _ :: _) :: _) _ _; first | refine W.gt ?_ | refine W.gf ?_) | (show W _ _ _ _ _ _ [] _ _; refine W.of (.done ?_)) | (apply W.of; constructor <;> first | (show W _ _ _ _ _ _ _ _ _) | (intro (al : Nat) h st; show W _ _ _ _ _ _ _ _ _) | (intro _ h st; show W _ _ _ _ _ _ _ _ _) | exact Sd)))
  exact ⟨_, rfl, _, ⟨rfl, rfl⟩, st⟩
theorem noC_At {i : Int} : Spec R (.f n_spread_Counts_At) [p, .int .i64 i] [NoC p] fun v Rs => v = .int .i64 (-1) ∧ Rs = [NoC p] := by
  refine spec_in fun h F st => ?_
  obtain ⟨hp, _⟩ := st.noC Tk
  clear st h F; refine spec_w (fun _ _ _ x => progI_call rfl rfl x) Njs rfl (fun h F st => ?_); dsimp only [List.cons_append, List.nil_append] at st
  by_cases h0 : i < 0
  · (repeat (first | (show W _ _ _ _ _ _ (.code (cond _ _ _) :: _) _ _; first | refine W.ct ?_ | refine W.cf ?_) | (show W _ _ _ _ _ _ (.ins (cond _ _ _ :: _) :: _) _ _; first | refine W.gt ?_ | refine W.gf ?_) | (show W _ _ _ _ _ _ [] _ _; refine W.of (.done ?_)) | (apply W.of; constructor <;> first | (show W _ _ _ _ _ _ _ _ _) | (intro (al : Nat) h st; show W _ _ _ _ _ _ _ _ _) | (intro _ h st; show W _ _ _ _ _ _ _ _ _) | exact Sd)))
    exact ⟨_, res_cell rfl (d_load1 (st.get' Tk) rfl) rfl, _, ⟨rfl, rfl⟩, st.sel Sels⟩
  · (repeat (first | (show W _ _ _ _ _ _ (.code (cond _ _ _) :: _) _ _; first | refine W.ct ?_ | refine W.cf ?_) | (show W _ _ _ _ _ _ (.ins (cond _ _ _ :: _) :: _) _ _; first | refine W.gt ?_ | refine W.gf ?_) | (show W _ _ _ _ _ _ [] _ _; refine W.of (.done ?_)) | (apply W.of; constructor <;> first | (show W _ _ _ _ _ _ _ _ _) | (intro (al : Nat) h st; show W _ _ _ _ _ _ _ _ _) | (intro _ h st; show W _ _ _ _ _ _ _ _ _) | exact Sd))); refine W.call (hs := noC_Len) (w := ?_); rintro vv _ ⟨rfl, rfl⟩ h st; refine nj ?_; dsimp only [List.cons_append, List.nil_append] at st
    (repeat (first | (show W _ _ _ _ _ _ (.code (cond _ _ _) :: _) _ _; first | refine W.ct ?_ | refine W.cf ?_) | (show W _ _ _ _ _ _ (.ins (cond _ _ _ :: _) :: _) _ _; first | refine W.gt ?_ | refine W.gf ?_) | (show W _ _ _ _ _ _ [] _ _; refine W.of (.done ?_)) | (apply W.of; constructor <;> first | (show W _ _ _ _ _ _ _ _ _) | (intro (al : Nat) h st; show W _ _ _ _ _ _ _ _ _) | (intro _ h st; show W _ _ _ _ _ _ _ _ _) | exact Sd)))
    exact ⟨_, res_cell rfl (d_load1 (st.get' Tk) rfl) rfl, _, ⟨rfl, rfl⟩, st.sel Sels⟩
theorem noC_Add {lo hi by' : Int} : Spec R (.f n_spread_Counts_Add) [p, .int .i64 lo, .int .i64 hi, .int .i64 by'] [NoC p] fun v Rs => v = .tuple [.nilsl, .int .i64 1] ∧ Rs = [NoC p] := by
  refine spec_in fun h F st => ?_
  obtain ⟨hp, _⟩ := st.noC Tk
  clear st h F; refine spec_w (fun _ _ _ x => progI_call rfl rfl x) Njs rfl (fun h F st => ?_); dsimp only [List.cons_append, List.nil_append] at st
  (repeat (first | (show W _ _ _ _ _ _ (.code (cond _ _ _) :: _) _ _; first | refine W.ct ?_ | refine W.cf ?_) | (show W _ _ _ _ _ _ (.ins (cond _ _ _ :: _) :: _) _ _; first | refine W.gt ?_ | refine W.gf ?_) | (show W _ _ _ _ _ _ [] _ _; refine W.of (.done ?_)) | (apply W.of; constructor <;> first | (show W _ _ _ _ _ _ _ _ _) | (intro (al : Nat) h st; show W _ _ _ _ _ _ _ _ _) | (intro _ h st; show W _ _ _ _ _ _ _ _ _) | exact Sd))); refine W.call (hs := noC_made) (w := ?_); rintro vv _ ⟨rfl, rfl⟩ h st; refine nj ?_; dsimp only [List.cons_append, List.nil_append] at st
  (repeat (first | (show W _ _ _ _ _ _ (.code (cond _ _ _) :: _) _ _; first | refine W.ct ?_ | refine W.cf ?_) | (show W _ _ _ _ _ _ (.ins (cond _ _ _ :: _) :: _) _ _; first | refine W.gt ?_ | refine W.gf ?_) | (show W _ _ _ _ _ _ [] _ _; refine W.of (.done ?_)) | (apply W.of; constructor <;> first | (show W _ _ _ _ _ _ _ _ _) | (intro (al : Nat) h st; show W _ _ _ _ _ _ _ _ _) | (intro _ h st; show W _ _ _ _ _ _ _ _ _) | exact Sd)))
  exact ⟨_, res_cell rfl (d_load1 (st.get' Tk) rfl) (res_cell rfl (d_load1 (st.get' Tk) rfl) rfl), _, ⟨rfl, rfl⟩, st.sel Sels⟩
theorem noC_parts_1 {I a b c : Nat} {lo hi : Int} : Spec R (.f n_spread_Counts_parts_1) [.yield I, .ptr a 0, .ptr b 0, .ptr c 0] [.pt a (.row 103 1 false false (.vals [p])), .pt b (ibox1 lo), .pt c (ibox1 hi), NoC p] fun _ Rs =>
    Rs = [.pt a (.row 103 1 false false (.vals [p])), .pt b (ibox1 lo), .pt c (ibox1 hi), NoC p] := by
  refine spec_in fun h F st => ?_
  obtain ⟨hp, _⟩ := st.noC Tk
  clear st h F; refine spec_w (fun _ _ _ x => progI_call rfl rfl x) Njs rfl (fun h F st => ?_); dsimp only [List.cons_append, List.nil_append] at st
  (repeat (first | (show W _ _ _ _ _ _ (.code (cond _ _ _) :: _) _ _; first | refine W.ct ?_ | refine W.cf ?_) | (show W _ _ _ _ _ _ (.ins (cond _ _ _ :: _) :: _) _ _; first | refine W.gt ?_ | refine W.gf ?_) | (show W _ _ _ _ _ _ [] _ _; refine W.of (.done ?_)) | (apply W.of; constructor <;> first | (show W _ _ _ _ _ _ _ _ _) | (intro (al : Nat) h st; show W _ _ _ _ _ _ _ _ _) | (intro _ h st; show W _ _ _ _ _ _ _ _ _) | exact Sd))); refine W.call (hs := noC_made) (w := ?_); rintro vv _ ⟨rfl, rfl⟩ h st; refine nj ?_; dsimp only [List.cons_append, List.nil_append] at st
  (repeat (first | (show W _ _ _ _ _ _ (.code (cond _ _ _) :: _) _ _; first | refine W.ct ?_ | refine W.cf ?_) | (show W _ _ _ _ _ _ (.ins (cond _ _ _ :: _) :: _) _ _; first | refine W.gt ?_ | refine W.gf ?_) | (show W _ _ _ _ _ _ [] _ _; refine W.of (.done ?_)) | (apply W.of; constructor <;> first | (show W _ _ _ _ _ _ _ _ _) | (intro (al : Nat) h st; show W _ _ _ _ _ _ _ _ _) | (intro _ h st; show W _ _ _ _ _ _ _ _ _) | exact Sd)))
  exact ⟨_, rfl, _, rfl, st.sel Sels⟩
theorem noC_Sum : Spec R (.f n_spread_Counts_Sum) [p] [NoC p] fun v Rs => v = .int .i64 0 ∧ Rs = [NoC p] := by
  refine spec_in fun h F st => ?_
  obtain ⟨hp, hd⟩ := st.noC Tk
  clear st h F; refine spec_w (fun _ _ _ x => progI_call rfl rfl x) Njs rfl (fun h F st => ?_); dsimp only [List.cons_append, List.nil_append] at st
  (repeat (first | (show W _ _ _ _ _ _ (.code (cond _ _ _) :: _) _ _; first | refine W.ct ?_ | refine W.cf ?_) | (show W _ _ _ _ _ _ (.ins (cond _ _ _ :: _) :: _) _ _; first | refine W.gt ?_ | refine W.gf ?_) | (show W _ _ _ _ _ _ [] _ _; refine W.of (.done ?_)) | (apply W.of; constructor <;> first | (show W _ _ _ _ _ _ _ _ _) | (intro (al : Nat) h st; show W _ _ _ _ _ _ _ _ _) | (intro _ h st; show W _ _ _ _ _ _ _ _ _) | exact Sd))); refine W.call (hs := noC_Len) (w := ?_); rintro vv _ ⟨rfl, rfl⟩ h st; refine nj ?_; dsimp only [List.cons_append, List.nil_append] at st
  (repeat (first | (show W _ _ _ _ _ _ (.code (cond _ _ _) :: _) _ _; first | refine W.ct ?_ | refine W.cf ?_) | (show W _ _ _ _ _ _ (.ins (cond _ _ _ :: _) :: _) _ _; first | refine W.gt ?_ | refine W.gf ?_) | (show W _ _ _ _ _ _ [] _ _; refine W.of (.done ?_)) | (apply W.of; constructor <;> first | (show W _ _ _ _ _ _ _ _ _) | (intro (al : Nat) h st; show W _ _ _ _ _ _ _ _ _) | (intro _ h st; show W _ _ _ _ _ _ _ _ _) | exact Sd))); refine W.call (hs := (cnt_parts (lo := 0) (hi := 0) hp hd)) (w := ?_); rintro vv _ ⟨a, b, c, rfl, rfl⟩ h st; refine nj ?_; dsimp only [List.cons_append, List.nil_append] at st
  (repeat (first | (show W _ _ _ _ _ _ (.code (cond _ _ _) :: _) _ _; first | refine W.ct ?_ | refine W.cf ?_) | (show W _ _ _ _ _ _ (.ins (cond _ _ _ :: _) :: _) _ _; first | refine W.gt ?_ | refine W.gf ?_) | (show W _ _ _ _ _ _ [] _ _; refine W.of (.done ?_)) | (apply W.of; constructor <;> first | (show W _ _ _ _ _ _ _ _ _) | (intro (al : Nat) h st; show W _ _ _ _ _ _ _ _ _) | (intro _ h st; show W _ _ _ _ _ _ _ _ _) | exact Sd)))
  obtain ⟨X, rfl⟩ : ∃ y, y = al := ⟨_, rfl⟩
  refine W.sub (s' := [(3, .ptr X 0), (8, partsF a b c)]) Sbs ?_
  refine W.rfun (Ps := [.pt a (.row 103 1 false false (.vals [p])), .pt b (ibox1 0), .pt c (ibox1 0), NoC p, .pt X (rcell 0)]) (post := fun j Cl => j = none ∧ Cl = [.pt X (rcell 0), NoC p]) rfl (fun _ e => (by cases e)) st Pks (fun I => ?_) (fun j Cl h' hp st => ?_)
  · intro h F st
    refine progI_mono _ _ _ _ _ ?_ (noC_parts_1 (p := p) (I := I) (a := a) (b := b) (c := c) (lo := 0) (hi := 0) h (LpC I .ready none [(3, .ptr X 0), (8, partsF a b c)] c_spread_Counts_Sum.ntmps [9] c_spread_Counts_Sum_A0 c_spread_Counts_Sum_B0 :: .pt X (rcell 0) :: F) (st.sel Sels))
    rintro v h' ⟨Rs, rfl, st'⟩
    exact ⟨_, ⟨.ready, none, [.pt X (rcell 0), NoC p], rfl, by decide, rfl, rfl⟩, st'.sel Sels⟩
  · obtain ⟨rfl, rfl⟩ := hp
    (repeat (first | (show W _ _ _ _ _ _ (.code (cond _ _ _) :: _) _ _; first | refine W.ct ?_ | refine W.cf ?_) | (show W _ _ _ _ _ _ (.ins (cond _ _ _ :: _) :: _) _ _; first | refine W.gt ?_ | refine W.gf ?_) | (show W _ _ _ _ _ _ [] _ _; refine W.of (.done ?_)) | (apply W.of; constructor <;> first | (show W _ _ _ _ _ _ _ _ _) | (intro (al : Nat) h st; show W _ _ _ _ _ _ _ _ _) | (intro _ h st; show W _ _ _ _ _ _ _ _ _) | exact Sd)))
    exact ⟨_, rfl, _, ⟨rfl, rfl⟩, st.sel Sels⟩
theorem runs_Clone_nil : Spec R (.f n_slices_Clone_api_Run_api_Run) [.nilsl] [] fun v Rs => v = .nilsl ∧ Rs = [] := by
  refine spec_w (fun _ _ _ x => progI_call rfl rfl x) Njs rfl (fun h F st => ?_); dsimp only [List.cons_append, List.nil_append] at st
  (repeat (first | (show W _ _ _ _ _ _ (.code (cond _ _ _) :: _) _ _; first | refine W.ct ?_ | refine W.cf ?_) | (show W _ _ _ _ _ _ (.ins (cond _ _ _ :: _) :: _) _ _; first | refine W.gt ?_ | refine W.gf ?_) | (show W _ _ _ _ _ _ [] _ _; refine W.of (.done ?_)) | (apply W.of; constructor <;> first | (show W _ _ _ _ _ _ _ _ _) | (intro (al : Nat) h st; show W _ _ _ _ _ _ _ _ _) | (intro _ h st; show W _ _ _ _ _ _ _ _ _) | exact Sd)))
  exact ⟨_, rfl, _, ⟨rfl, rfl⟩, st⟩
theorem noC_Copy : Spec R (.f n_spread_Counts_Copy) [p] [NoC p] fun v Rs => v.notJunk = some v ∧ Rs = [NoC v, NoC p] := by
  intro h F st
  obtain ⟨cs, (⟨rfl, rfl⟩ | ⟨Z, rfl, rfl⟩), st⟩ := st.unpack
  · have key : Spec R (.f n_spread_Counts_Copy) [.nilptr] [] fun v Rs => v = .nilptr ∧ Rs = [] := by
      refine spec_w (fun _ _ _ x => progI_call rfl rfl x) Njs rfl (fun h F st => ?_); dsimp only [List.cons_append, List.nil_append] at st
      (repeat (first | (show W _ _ _ _ _ _ (.code (cond _ _ _) :: _) _ _; first | refine W.ct ?_ | refine W.cf ?_) | (show W _ _ _ _ _ _ (.ins (cond _ _ _ :: _) :: _) _ _; first | refine W.gt ?_ | refine W.gf ?_) | (show W _ _ _ _ _ _ [] _ _; refine W.of (.done ?_)) | (apply W.of; constructor <;> first | (show W _ _ _ _ _ _ _ _ _) | (intro (al : Nat) h st; show W _ _ _ _ _ _ _ _ _) | (intro _ h st; show W _ _ _ _ _ _ _ _ _) | exact Sd)))
      exact ⟨_, rfl, _, ⟨rfl, rfl⟩, st⟩
    refine progI_mono _ _ _ _ _ ?_ (key h F st)
    rintro v h' ⟨Rs, ⟨rfl, rfl⟩, st'⟩
    have st' := St.pack (t := 35) (k := .nilptr) (P := NoCIs .nilptr) (cs := []) st' (.inl ⟨rfl, rfl⟩)
    exact ⟨_, ⟨rfl, rfl⟩, St.pack (cs := []) st' (.inl ⟨rfl, rfl⟩)⟩
  · have key : Spec R (.f n_spread_Counts_Copy) [.ptr Z 0] [.pt Z zCnt] fun v Rs => ∃ E, v = .ptr E 0 ∧ Rs = [.pt E zCnt, .pt Z zCnt] := by
      refine spec_w (fun _ _ _ x => progI_call rfl rfl x) Njs rfl (fun h F st => ?_); dsimp only [List.cons_append, List.nil_append] at st
      (repeat (first | (show W _ _ _ _ _ _ (.code (cond _ _ _) :: _) _ _; first | refine W.ct ?_ | refine W.cf ?_) | (show W _ _ _ _ _ _ (.ins (cond _ _ _ :: _) :: _) _ _; first | refine W.gt ?_ | refine W.gf ?_) | (show W _ _ _ _ _ _ [] _ _; refine W.of (.done ?_)) | (apply W.of; constructor <;> first | (show W _ _ _ _ _ _ _ _ _) | (intro (al : Nat) h st; show W _ _ _ _ _ _ _ _ _) | (intro _ h st; show W _ _ _ _ _ _ _ _ _) | exact Sd))); refine W.call (hs := runs_Clone_nil) (w := ?_); rintro vv _ ⟨rfl, rfl⟩ h st; refine nj ?_; dsimp only [List.cons_append, List.nil_append] at st
      (repeat (first | (show W _ _ _ _ _ _ (.code (cond _ _ _) :: _) _ _; first | refine W.ct ?_ | refine W.cf ?_) | (show W _ _ _ _ _ _ (.ins (cond _ _ _ :: _) :: _) _ _; first | refine W.gt ?_ | refine W.gf ?_) | (show W _ _ _ _ _ _ [] _ _; refine W.of (.done ?_)) | (apply W.of; constructor <;> first | (show W _ _ _ _ _ _ _ _ _) | (intro (al : Nat) h st; show W _ _ _ _ _ _ _ _ _) | (intro _ h st; show W _ _ _ _ _ _ _ _ _) | exact Sd)))
      exact ⟨_, rfl, _, ⟨_, rfl, rfl⟩, st⟩
    refine progI_mono _ _ _ _ _ ?_ (key h F st)
    rintro v h' ⟨Rs, ⟨E, rfl, rfl⟩, st'⟩
    have st' := St.pack (t := 35) (k := .ptr E 0) (P := NoCIs (.ptr E 0)) (cs := [_]) st' (.inr ⟨E, rfl, rfl⟩)
    exact ⟨[NoC (.ptr E 0), NoC (.ptr Z 0)], ⟨rfl, rfl⟩, (St.packP (t := 35) (k := .ptr Z 0) (P := NoCIs (.ptr Z 0)) (cs := [.pt Z zCnt]) st' (.inr ⟨Z, rfl, rfl⟩) Pks).sel Sels⟩
abbrev noneEC (A Z i : Nat) : Env := [(1, .ptr A 0), (9, .agg [.nilptr, .ptr Z 0]), (10, .int .i64 i)]
abbrev actRowP (a : ActP) : AObj := .row ty_law11_Act 4 false false (.vals a.cells)
set_option maxRecDepth 8000 in
theorem noneC_round {A Z : Nat} {a : ActP} {F : List Chunk} {Q : AExit → Env → AHeap → Prop} {k : List KI} {h : AHeap} {i : Nat} {J : Env → AHeap → Prop} (hi : i < 2) (hv : (if i = 0 then AV.nilptr else .ptr Z 0) = p)
    (st : St h (NoC p :: .pt A (actRowP a) :: F)) (hJ : ∀ h, St h (NoC p :: .pt A (actRowP a) :: F) → ∀ s, Sub (noneEC A Z (i + 1)) s → J s h) :
    W over tab none c_law11_SpreadNone.ntmps Q .normal (.code c_law11_SpreadNone_L0 :: .lp J :: k) (noneEC A Z i) h := by
  obtain ⟨hp, _⟩ := st.noC Tk
  (repeat (first | (show W _ _ _ _ _ _ (.code (cond _ _ _) :: _) _ _; first | refine W.ct ?_ | refine W.cf ?_) | (show W _ _ _ _ _ _ (.ins (cond _ _ _ :: _) :: _) _ _; first | refine W.gt ?_ | refine W.gf ?_) | (show W _ _ _ _ _ _ [] _ _; refine W.of (.done ?_)) | (apply W.of; constructor <;> first | (show W _ _ _ _ _ _ _ _ _) | (intro (al : Nat) h st; show W _ _ _ _ _ _ _ _ _) | (intro _ h st; show W _ _ _ _ _ _ _ _ _) | exact Sd)))
  have hx : Does (.indexv 2 1 false) [.agg [.nilptr, .ptr Z 0], .int .i64 (i : Int)] h p h := ⟨rfl, by
    subst hv
    rcases (by omega : i = 0 ∨ i = 1) with rfl | rfl <;> rfl⟩
  (repeat (first | (show W _ _ _ _ _ _ (.code (cond _ _ _) :: _) _ _; first | refine W.ct ?_ | refine W.cf ?_) | (show W _ _ _ _ _ _ (.ins (cond _ _ _ :: _) :: _) _ _; first | refine W.gt ?_ | refine W.gf ?_) | (show W _ _ _ _ _ _ [] _ _; refine W.of (.done ?_)) | (apply W.of; constructor <;> first | (show W _ _ _ _ _ _ _ _ _) | (intro (al : Nat) h st; show W _ _ _ _ _ _ _ _ _) | (intro _ h st; show W _ _ _ _ _ _ _ _ _) | exact Sd))); refine W.do (ho := hx) (w := ?_)
  (repeat (first | (show W _ _ _ _ _ _ (.code (cond _ _ _) :: _) _ _; first | refine W.ct ?_ | refine W.cf ?_) | (show W _ _ _ _ _ _ (.ins (cond _ _ _ :: _) :: _) _ _; first | refine W.gt ?_ | refine W.gf ?_) | (show W _ _ _ _ _ _ [] _ _; refine W.of (.done ?_)) | (apply W.of; constructor <;> first | (show W _ _ _ _ _ _ _ _ _) | (intro (al : Nat) h st; show W _ _ _ _ _ _ _ _ _) | (intro _ h st; show W _ _ _ _ _ _ _ _ _) | exact Sd))); refine W.call (hs := noC_Add) (w := ?_); rintro vv _ ⟨rfl, rfl⟩ h st; refine nj ?_; dsimp only [List.cons_append, List.nil_append] at st
  (repeat (first | (show W _ _ _ _ _ _ (.code (cond _ _ _) :: _) _ _; first | refine W.ct ?_ | refine W.cf ?_) | (show W _ _ _ _ _ _ (.ins (cond _ _ _ :: _) :: _) _ _; first | refine W.gt ?_ | refine W.gf ?_) | (show W _ _ _ _ _ _ [] _ _; refine W.of (.done ?_)) | (apply W.of; constructor <;> first | (show W _ _ _ _ _ _ _ _ _) | (intro (al : Nat) h st; show W _ _ _ _ _ _ _ _ _) | (intro _ h st; show W _ _ _ _ _ _ _ _ _) | exact Sd))); refine W.call (hs := noC_Copy) (w := ?_); rintro vv _ ⟨dj, rfl⟩ h st; refine nj ?_; dsimp only [List.cons_append, List.nil_append] at st
  obtain ⟨d, rfl⟩ : ∃ y, y = vv := ⟨_, rfl⟩
  (repeat (first | (show W _ _ _ _ _ _ (.code (cond _ _ _) :: _) _ _; first | refine W.ct ?_ | refine W.cf ?_) | (show W _ _ _ _ _ _ (.ins (cond _ _ _ :: _) :: _) _ _; first | refine W.gt ?_ | refine W.gf ?_) | (show W _ _ _ _ _ _ [] _ _; refine W.of (.done ?_)) | (apply W.of; constructor <;> first | (show W _ _ _ _ _ _ _ _ _) | (intro (al : Nat) h st; show W _ _ _ _ _ _ _ _ _) | (intro _ h st; show W _ _ _ _ _ _ _ _ _) | exact Sd))); refine W.call (hs := noC_Grow) (w := ?_); rintro vv _ ⟨rfl, rfl⟩ h st; refine nj ?_; dsimp only [List.cons_append, List.nil_append] at st
  (repeat (first | (show W _ _ _ _ _ _ (.code (cond _ _ _) :: _) _ _; first | refine W.ct ?_ | refine W.cf ?_) | (show W _ _ _ _ _ _ (.ins (cond _ _ _ :: _) :: _) _ _; first | refine W.gt ?_ | refine W.gf ?_) | (show W _ _ _ _ _ _ [] _ _; refine W.of (.done ?_)) | (apply W.of; constructor <;> first | (show W _ _ _ _ _ _ _ _ _) | (intro (al : Nat) h st; show W _ _ _ _ _ _ _ _ _) | (intro _ h st; show W _ _ _ _ _ _ _ _ _) | exact Sd))); refine W.call (hs := noC_Len) (w := ?_); rintro vv _ ⟨rfl, rfl⟩ h st; refine nj ?_; dsimp only [List.cons_append, List.nil_append] at st
  (repeat (first | (show W _ _ _ _ _ _ (.code (cond _ _ _) :: _) _ _; first | refine W.ct ?_ | refine W.cf ?_) | (show W _ _ _ _ _ _ (.ins (cond _ _ _ :: _) :: _) _ _; first | refine W.gt ?_ | refine W.gf ?_) | (show W _ _ _ _ _ _ [] _ _; refine W.of (.done ?_)) | (apply W.of; constructor <;> first | (show W _ _ _ _ _ _ _ _ _) | (intro (al : Nat) h st; show W _ _ _ _ _ _ _ _ _) | (intro _ h st; show W _ _ _ _ _ _ _ _ _) | exact Sd))); refine W.call (hs := noC_Sum) (w := ?_); rintro vv _ ⟨rfl, rfl⟩ h st; refine nj ?_; dsimp only [List.cons_append, List.nil_append] at st
  (repeat (first | (show W _ _ _ _ _ _ (.code (cond _ _ _) :: _) _ _; first | refine W.ct ?_ | refine W.cf ?_) | (show W _ _ _ _ _ _ (.ins (cond _ _ _ :: _) :: _) _ _; first | refine W.gt ?_ | refine W.gf ?_) | (show W _ _ _ _ _ _ [] _ _; refine W.of (.done ?_)) | (apply W.of; constructor <;> first | (show W _ _ _ _ _ _ _ _ _) | (intro (al : Nat) h st; show W _ _ _ _ _ _ _ _ _) | (intro _ h st; show W _ _ _ _ _ _ _ _ _) | exact Sd))); refine W.call (hs := noC_Runs) (w := ?_); rintro vv _ ⟨rfl, rfl⟩ h st; refine nj ?_; dsimp only [List.cons_append, List.nil_append] at st
  (repeat (first | (show W _ _ _ _ _ _ (.code (cond _ _ _) :: _) _ _; first | refine W.ct ?_ | refine W.cf ?_) | (show W _ _ _ _ _ _ (.ins (cond _ _ _ :: _) :: _) _ _; first | refine W.gt ?_ | refine W.gf ?_) | (show W _ _ _ _ _ _ [] _ _; refine W.of (.done ?_)) | (apply W.of; constructor <;> first | (show W _ _ _ _ _ _ _ _ _) | (intro (al : Nat) h st; show W _ _ _ _ _ _ _ _ _) | (intro _ h st; show W _ _ _ _ _ _ _ _ _) | exact Sd))); refine W.call (hs := noC_At) (w := ?_); rintro vv _ ⟨rfl, rfl⟩ h st; refine nj ?_; dsimp only [List.cons_append, List.nil_append] at st
  (repeat (first | (show W _ _ _ _ _ _ (.code (cond _ _ _) :: _) _ _; first | refine W.ct ?_ | refine W.cf ?_) | (show W _ _ _ _ _ _ (.ins (cond _ _ _ :: _) :: _) _ _; first | refine W.gt ?_ | refine W.gf ?_) | (show W _ _ _ _ _ _ [] _ _; refine W.of (.done ?_)) | (apply W.of; constructor <;> first | (show W _ _ _ _ _ _ _ _ _) | (intro (al : Nat) h st; show W _ _ _ _ _ _ _ _ _) | (intro _ h st; show W _ _ _ _ _ _ _ _ _) | exact Sd))); refine W.call (hs := noC_Len) (w := ?_); rintro vv _ ⟨rfl, rfl⟩ h st; refine nj ?_; dsimp only [List.cons_append, List.nil_append] at st
  (repeat (first | (show W _ _ _ _ _ _ (.code (cond _ _ _) :: _) _ _; first | refine W.ct ?_ | refine W.cf ?_) | (show W _ _ _ _ _ _ (.ins (cond _ _ _ :: _) :: _) _ _; first | refine W.gt ?_ | refine W.gf ?_) | (show W _ _ _ _ _ _ [] _ _; refine W.of (.done ?_)) | (apply W.of; constructor <;> first | (show W _ _ _ _ _ _ _ _ _) | (intro (al : Nat) h st; show W _ _ _ _ _ _ _ _ _) | (intro _ h st; show W _ _ _ _ _ _ _ _ _) | exact Sd)))
  refine W.of (.lp ?_)
  exact hJ _ (st.sel Sels) _ Sbs
set_option maxRecDepth 8000 in
theorem snone_w {a : ActP} : Spec R (.f n_law11_SpreadNone) [.agg a.cells] [] fun v _ => v = .bool true := by
  refine spec_w (fun _ _ _ x => progI_call rfl rfl x) Njs rfl (fun h F st => ?_); dsimp only [List.cons_append, List.nil_append] at st
  (repeat (first | (show W _ _ _ _ _ _ (.code (cond _ _ _) :: _) _ _; first | refine W.ct ?_ | refine W.cf ?_) | (show W _ _ _ _ _ _ (.ins (cond _ _ _ :: _) :: _) _ _; first | refine W.gt ?_ | refine W.gf ?_) | (show W _ _ _ _ _ _ [] _ _; refine W.of (.done ?_)) | (apply W.of; constructor <;> first | (show W _ _ _ _ _ _ _ _ _) | (intro (al : Nat) h st; show W _ _ _ _ _ _ _ _ _) | (intro _ h st; show W _ _ _ _ _ _ _ _ _) | exact Sd)))
  have st := St.pack (t := 35) (k := .ptr al 0) (P := NoCIs (.ptr al 0)) (cs := [_]) st (.inr ⟨al, rfl, rfl⟩)
  have st := St.pack (t := 35) (k := .nilptr) (P := NoCIs .nilptr) (cs := []) st (.inl ⟨rfl, rfl⟩)
  refine W.loop (fun i : Nat => noneEC _ al i) (fun _ => NoC .nilptr :: NoC (.ptr al 0) :: .pt _ (actRowP a) :: F) (fun i => i ≤ 2) (fun i => 2 - i) 0 (small_rounds (by omega)) Sbs
    (st.sel Sels) (Nat.zero_le _) ?_
  clear st
  intro i h hi st
  rcases (by omega : i = 0 ∨ i = 1 ∨ i = 2) with rfl | rfl | rfl
  · exact noneC_round (p := .nilptr) (by decide) rfl (st.sel Sels) fun h st s hs => ⟨1, by decide, by decide, hs, st.sel Sels⟩
  · exact noneC_round (p := .ptr al 0) (by decide) rfl (st.sel Sels) fun h st s hs => ⟨2, by decide, by decide, hs, st.sel Sels⟩
  · (repeat (first | (show W _ _ _ _ _ _ (.code (cond _ _ _) :: _) _ _; first | refine W.ct ?_ | refine W.cf ?_) | (show W _ _ _ _ _ _ (.ins (cond _ _ _ :: _) :: _) _ _; first | refine W.gt ?_ | refine W.gf ?_) | (show W _ _ _ _ _ _ [] _ _; refine W.of (.done ?_)) | (apply W.of; constructor <;> first | (show W _ _ _ _ _ _ _ _ _) | (intro (al : Nat) h st; show W _ _ _ _ _ _ _ _ _) | (intro _ h st; show W _ _ _ _ _ _ _ _ _) | exact Sd))); refine W.call (hs := law11_lives) (w := ?_); rintro vv _ ⟨rfl, rfl⟩ h st; refine nj ?_; dsimp only [List.cons_append, List.nil_append] at st
    (repeat (first | (show W _ _ _ _ _ _ (.code (cond _ _ _) :: _) _ _; first | refine W.ct ?_ | refine W.cf ?_) | (show W _ _ _ _ _ _ (.ins (cond _ _ _ :: _) :: _) _ _; first | refine W.gt ?_ | refine W.gf ?_) | (show W _ _ _ _ _ _ [] _ _; refine W.of (.done ?_)) | (apply W.of; constructor <;> first | (show W _ _ _ _ _ _ _ _ _) | (intro (al : Nat) h st; show W _ _ _ _ _ _ _ _ _) | (intro _ h st; show W _ _ _ _ _ _ _ _ _) | exact Sd)))
    exact ⟨_, rfl, [_, _, _], rfl, st⟩
end Go.Proofs.Ytjdemlagmamlbaa

namespace Go.Proofs.Ytjdemlagmamlbaa
variable {D : Nat} {l : List RunV} {n : Int}
/-- an Add, whatever it answers -/
theorem cnt_Add_any {lo hi by' : Int} : Spec R (.f n_spread_Counts_Add) [.ptr D 0, .int .i64 lo, .int .i64 hi, .int .i64 by'] [CntC D l n] fun v Rs => v.notJunk = some v ∧ ∃ l', Rs = [CntC D l' n] :=
  cnt_Add.conv progI_mono (fun _ _ st => st) fun v Rs h F hp st => by
    rcases hp with ⟨_, gv, l', rfl, _, _, _, rfl⟩ | ⟨_, rfl, rfl⟩
    · exact ⟨_, ⟨rfl, l', rfl⟩, st.sel Sels⟩
    · exact ⟨_, ⟨rfl, l, rfl⟩, st⟩
theorem Adj.at : ∀ {l : List RunV} {i : Nat} {a b : RunV}, Adj l → l[i]? = some a → l[i + 1]? = some b → a.n ≠ b.n
  | [], _, _, _, _, h, _ => by simp at h
  | [_], i, _, _, _, _, h => by simp at h
  | x :: y :: l, 0, a, b, ha, h1, h2 => by
    simp at h1 h2; subst h1 h2; exact ha.1
  | x :: y :: l, i + 1, a, b, ha, h1, h2 => Adj.at (l := y :: l) (i := i) ha.2 (by simpa using h1) (by simpa using h2)
theorem chain_at {i : Nat} {r : RunV} {o : Int} (hc : Chain o l n) (hr : l[i]? = some r) : Chain o (l.take i) r.lo ∧ Chain r.hi (l.drop (i + 1)) n ∧ r.lo < r.hi ∧ l = l.take i ++ r :: l.drop (i + 1) := by
  obtain ⟨h1, h2⟩ := List.getElem?_eq_some_iff.1 hr
  have e : l = l.take i ++ r :: l.drop (i + 1) := by rw [← h2, List.getElem_cons_drop, List.take_append_drop]
  rw [e] at hc
  obtain ⟨m, g1, g2, g3, g4⟩ := Chain.append.1 hc
  subst g2
  exact ⟨g1, g4, g3, e⟩
theorem at_run (hk : COk l n) {i : Nat} {r : RunV} (hr : l[i]? = some r) {j : Int} (h1 : r.lo ≤ j) (h2 : j < r.hi) : atL (expand l) j = r.n := by
  obtain ⟨c1, c2, c3, e⟩ := chain_at hk.chain hr
  have l1 := c1.length
  have l2 := hk.chain.length
  have hm := hk.chain.mem r (List.mem_of_getElem? hr)
  have hn0 := hk.n0
  unfold atL
  rw [if_pos (by omega)]
  rw [e, expand_append, expand_cons, List.getElem?_append_right (by omega), List.getElem?_append_left (by rw [runX_len]; omega)]
  simp only [runX]
  rw [List.getElem?_replicate, if_pos (by omega)]; rfl
structure RuS where
  i : Nat
  at' : Int
abbrev runsE (D : Nat) (v : AV) (l : List RunV) (k m : Int) (i : Nat) : Env := [(5, .int .i64 k), (6, .ptr D 0), (9, .int .i64 m), (10, .int .i64 (sumR (l.take i))), (11, v), (49, v), (50, .int .i64 l.length), (51, .int .i64 i)]
abbrev runsJ (D : Nat) (v : AV) (l : List RunV) (k : Int) (F : List Chunk) (i : Nat) : Env → AHeap → Prop := fun s' h' => ∃ z : RuS, l.length - z.i < l.length - i ∧ (z.i ≤ l.length ∧ Chain 0 (l.take z.i) z.at') ∧ Sub (runsE D v l k z.at' z.i) s' ∧ St h' (RunsC v l :: CntC D l k :: F)
def runsRest : ACode := sR (sR (sR (bB (sL (sR (sR c_law11_SpreadRuns_L1))))))
set_option maxRecDepth 8000 in
theorem runs_tail {D X : Nat} {v : AV} {k : Int} {F : List Chunk} {Q : AExit → Env → AHeap → Prop} {kk : List KI} {h : AHeap} {i : Nat} {r : RunV} (hk : COk l k) (hr : l[i]? = some r) (hm : Chain 0 (l.take i) r.lo)
    (st : St h (.pt X (.row ty_api_Run 3 false false (.vals r.cells)) :: RunsC v l :: CntC D l k :: F)) :
    W over tab none c_law11_SpreadRuns.ntmps Q .normal (.code (.loop c_law11_SpreadRuns_L2) :: .blk 4 :: .code runsRest :: .blk 3 :: .code (sR (sR (sR c_law11_SpreadRuns_L1))) :: .lp (runsJ D v l k F i) :: kk)
      ((13, .ptr X 0) :: (14, .int .i64 r.lo) :: runsE D v l k r.lo i) h := by
  have hlt := (List.getElem?_eq_some_iff.1 hr).1
  have hlen := hk.len
  have hn0 := hk.n0
  have hn1 := hk.n1
  obtain ⟨c1, c2, c3, c4⟩ := chain_at hk.chain hr
  have hmem := List.mem_of_getElem? hr
  have hh := hk.chain.mem r hmem
  have hcn := hk.cnt r hmem
  obtain ⟨s1, s2⟩ := sumR_le hm fun x hx => hk.cnt x (List.mem_of_mem_take hx)
  obtain ⟨p1, p2⟩ := run_prod hcn c3
  refine W.loop (fun j : Nat => (13, .ptr X 0) :: (14, .int .i64 (r.lo + (j : Nat))) :: runsE D v l k r.lo i) (fun _ => .pt X (.row ty_api_Run 3 false false (.vals r.cells)) :: RunsC v l :: CntC D l k :: F) (fun j => (j : Int) ≤ r.hi - r.lo) (fun j => (r.hi - r.lo).toNat - j) 0 (small_rounds (by omega)) ⟨rfl, by simp [look], rfl, rfl, rfl, rfl, rfl, rfl, rfl, rfl, trivial⟩ st (by omega) ?_
  clear st
  intro j h hj st
  by_cases hlj : (j : Int) < r.hi - r.lo
  · (repeat (first | (show W _ _ _ _ _ _ (.code (cond _ _ _) :: _) _ _; first | refine W.ct ?_ | refine W.cf ?_) | (show W _ _ _ _ _ _ (.ins (cond _ _ _ :: _) :: _) _ _; first | refine W.gt ?_ | refine W.gf ?_) | (show W _ _ _ _ _ _ [] _ _; refine W.of (.done ?_)) | (apply W.of; constructor <;> first | (show W _ _ _ _ _ _ _ _ _) | (intro (al : Nat) h st; show W _ _ _ _ _ _ _ _ _) | (intro _ h st; show W _ _ _ _ _ _ _ _ _) | exact Sd))); refine W.call (hs := cnt_At) (w := ?_); rintro vv _ ⟨rfl, rfl⟩ h st; refine nj ?_; dsimp only [List.cons_append, List.nil_append] at st
    rw [at_run hk hr (by omega) (by omega)]
    (repeat (first | (show W _ _ _ _ _ _ (.code (cond _ _ _) :: _) _ _; first | refine W.ct ?_ | refine W.cf ?_) | (show W _ _ _ _ _ _ (.ins (cond _ _ _ :: _) :: _) _ _; first | refine W.gt ?_ | refine W.gf ?_) | (show W _ _ _ _ _ _ [] _ _; refine W.of (.done ?_)) | (apply W.of; constructor <;> first | (show W _ _ _ _ _ _ _ _ _) | (intro (al : Nat) h st; show W _ _ _ _ _ _ _ _ _) | (intro _ h st; show W _ _ _ _ _ _ _ _ _) | exact Sd)))
    rw [neqS]
    (repeat (first | (show W _ _ _ _ _ _ (.code (cond _ _ _) :: _) _ _; first | refine W.ct ?_ | refine W.cf ?_) | (show W _ _ _ _ _ _ (.ins (cond _ _ _ :: _) :: _) _ _; first | refine W.gt ?_ | refine W.gf ?_) | (show W _ _ _ _ _ _ [] _ _; refine W.of (.done ?_)) | (apply W.of; constructor <;> first | (show W _ _ _ _ _ _ _ _ _) | (intro (al : Nat) h st; show W _ _ _ _ _ _ _ _ _) | (intro _ h st; show W _ _ _ _ _ _ _ _ _) | exact Sd)))
    refine W.of (.lp ?_)
    exact ⟨j + 1, by omega, by omega, ⟨rfl, by simp only [look]; congr 2; omega, rfl, rfl, rfl, rfl, rfl, rfl, rfl, rfl, trivial⟩, st.sel Sels⟩
  · (repeat (first | (show W _ _ _ _ _ _ (.code (cond _ _ _) :: _) _ _; first | refine W.ct ?_ | refine W.cf ?_) | (show W _ _ _ _ _ _ (.ins (cond _ _ _ :: _) :: _) _ _; first | refine W.gt ?_ | refine W.gf ?_) | (show W _ _ _ _ _ _ [] _ _; refine W.of (.done ?_)) | (apply W.of; constructor <;> first | (show W _ _ _ _ _ _ _ _ _) | (intro (al : Nat) h st; show W _ _ _ _ _ _ _ _ _) | (intro _ h st; show W _ _ _ _ _ _ _ _ _) | exact Sd)))
    rw [wrap64 (n := r.n * (r.hi - r.lo)) (by omega) (by omega)]
    (repeat (first | (show W _ _ _ _ _ _ (.code (cond _ _ _) :: _) _ _; first | refine W.ct ?_ | refine W.cf ?_) | (show W _ _ _ _ _ _ (.ins (cond _ _ _ :: _) :: _) _ _; first | refine W.gt ?_ | refine W.gf ?_) | (show W _ _ _ _ _ _ [] _ _; refine W.of (.done ?_)) | (apply W.of; constructor <;> first | (show W _ _ _ _ _ _ _ _ _) | (intro (al : Nat) h st; show W _ _ _ _ _ _ _ _ _) | (intro _ h st; show W _ _ _ _ _ _ _ _ _) | exact Sd)))
    have et := take_snoc1 hr
    refine W.of (.lp ?_)
    refine ⟨⟨i + 1, r.hi⟩, by simp only; omega, ⟨hlt, by rw [et]; exact Chain.append.2 ⟨r.lo, hm, rfl, c3, rfl⟩⟩, ⟨rfl, rfl, rfl, ?_, rfl, rfl, rfl, rfl, trivial⟩, st.sel Sels⟩
    simp only [look]
    rw [et, sumR_snoc]
set_option maxRecDepth 8000 in
theorem runs_L1 {D : Nat} {v : AV} {k : Int} {F : List Chunk} {Q : AExit → Env → AHeap → Prop} {kk : List KI} {h : AHeap} {i : Nat} {m : Int} {r : RunV} (hk : COk l k) (hr : l[i]? = some r) (hm : Chain 0 (l.take i) m)
    (st : St h (RunsC v l :: CntC D l k :: F)) :
    W over tab none c_law11_SpreadRuns.ntmps Q .normal (.code c_law11_SpreadRuns_L1 :: .lp (runsJ D v l k F i) :: kk) (runsE D v l k m i) h := by
  have hlt := (List.getElem?_eq_some_iff.1 hr).1
  have hlen := hk.len
  have hn0 := hk.n0
  have hn1 := hk.n1
  obtain ⟨c1, c2, c3, c4⟩ := chain_at hk.chain hr
  have em : r.lo = m := by
    have a1 := c1.length
    have a2 := hm.length
    have := c1.le
    have := hm.le
    omega
  subst em
  have hmem := List.mem_of_getElem? hr
  have hh := hk.chain.mem r hmem
  have hcn := hk.cnt r hmem
  obtain ⟨vl, vj, vs⟩ := St.rw (v := v) (l := l) st Tk
  obtain ⟨gp, gq⟩ := d_rwIdx (v := v) (l := l) (kk := .i64) st Tk hlt
  (repeat (first | (show W _ _ _ _ _ _ (.code (cond _ _ _) :: _) _ _; first | refine W.ct ?_ | refine W.cf ?_) | (show W _ _ _ _ _ _ (.ins (cond _ _ _ :: _) :: _) _ _; first | refine W.gt ?_ | refine W.gf ?_) | (show W _ _ _ _ _ _ [] _ _; refine W.of (.done ?_)) | (apply W.of; constructor <;> first | (show W _ _ _ _ _ _ _ _ _) | (intro (al : Nat) h st; show W _ _ _ _ _ _ _ _ _) | (intro _ h st; show W _ _ _ _ _ _ _ _ _) | exact Sd))); refine W.do (ho := gp) (w := ?_)
  (repeat (first | (show W _ _ _ _ _ _ (.code (cond _ _ _) :: _) _ _; first | refine W.ct ?_ | refine W.cf ?_) | (show W _ _ _ _ _ _ (.ins (cond _ _ _ :: _) :: _) _ _; first | refine W.gt ?_ | refine W.gf ?_) | (show W _ _ _ _ _ _ [] _ _; refine W.of (.done ?_)) | (apply W.of; constructor <;> first | (show W _ _ _ _ _ _ _ _ _) | (intro (al : Nat) h st; show W _ _ _ _ _ _ _ _ _) | (intro _ h st; show W _ _ _ _ _ _ _ _ _) | exact Sd))); refine W.do (ho := (d_rwLoad runCL st Tk hr)) (w := ?_)
  (repeat (first | (show W _ _ _ _ _ _ (.code (cond _ _ _) :: _) _ _; first | refine W.ct ?_ | refine W.cf ?_) | (show W _ _ _ _ _ _ (.ins (cond _ _ _ :: _) :: _) _ _; first | refine W.gt ?_ | refine W.gf ?_) | (show W _ _ _ _ _ _ [] _ _; refine W.of (.done ?_)) | (apply W.of; constructor <;> first | (show W _ _ _ _ _ _ _ _ _) | (intro (al : Nat) h st; show W _ _ _ _ _ _ _ _ _) | (intro _ h st; show W _ _ _ _ _ _ _ _ _) | exact Sd)))
  rw [neqS]
  by_cases h0 : i = 0
  · subst h0
    (repeat (first | (show W _ _ _ _ _ _ (.code (cond _ _ _) :: _) _ _; first | refine W.ct ?_ | refine W.cf ?_) | (show W _ _ _ _ _ _ (.ins (cond _ _ _ :: _) :: _) _ _; first | refine W.gt ?_ | refine W.gf ?_) | (show W _ _ _ _ _ _ [] _ _; refine W.of (.done ?_)) | (apply W.of; constructor <;> first | (show W _ _ _ _ _ _ _ _ _) | (intro (al : Nat) h st; show W _ _ _ _ _ _ _ _ _) | (intro _ h st; show W _ _ _ _ _ _ _ _ _) | exact Sd)))
    exact W.sub Sbs (runs_tail hk hr hm (st.sel Sels))
  · obtain ⟨j, rfl⟩ : ∃ j, i = j + 1 := ⟨i - 1, by omega⟩
    obtain ⟨p, hp⟩ : ∃ p, l[j]? = some p := ⟨l[j], by simp⟩
    have hne := hk.adj.at hp hr
    obtain ⟨fp, fq⟩ := d_rwIdx (v := v) (l := l) (i := j) (kk := .i64) st Tk (by omega)
    rw [show ((j : Nat) : Int) = ((j + 1 : Nat) : Int) - 1 by omega] at fp
    obtain ⟨xp, xq⟩ := d_rwFld (h := h) (es := 3) (i := j) (o := 2) vl (by omega)
    (repeat (first | (show W _ _ _ _ _ _ (.code (cond _ _ _) :: _) _ _; first | refine W.ct ?_ | refine W.cf ?_) | (show W _ _ _ _ _ _ (.ins (cond _ _ _ :: _) :: _) _ _; first | refine W.gt ?_ | refine W.gf ?_) | (show W _ _ _ _ _ _ [] _ _; refine W.of (.done ?_)) | (apply W.of; constructor <;> first | (show W _ _ _ _ _ _ _ _ _) | (intro (al : Nat) h st; show W _ _ _ _ _ _ _ _ _) | (intro _ h st; show W _ _ _ _ _ _ _ _ _) | exact Sd)))
    (repeat (first | (show W _ _ _ _ _ _ (.code (cond _ _ _) :: _) _ _; first | refine W.ct ?_ | refine W.cf ?_) | (show W _ _ _ _ _ _ (.ins (cond _ _ _ :: _) :: _) _ _; first | refine W.gt ?_ | refine W.gf ?_) | (show W _ _ _ _ _ _ [] _ _; refine W.of (.done ?_)) | (apply W.of; constructor <;> first | (show W _ _ _ _ _ _ _ _ _) | (intro (al : Nat) h st; show W _ _ _ _ _ _ _ _ _) | (intro _ h st; show W _ _ _ _ _ _ _ _ _) | exact Sd))); refine W.do (ho := fp) (w := ?_)
    (repeat (first | (show W _ _ _ _ _ _ (.code (cond _ _ _) :: _) _ _; first | refine W.ct ?_ | refine W.cf ?_) | (show W _ _ _ _ _ _ (.ins (cond _ _ _ :: _) :: _) _ _; first | refine W.gt ?_ | refine W.gf ?_) | (show W _ _ _ _ _ _ [] _ _; refine W.of (.done ?_)) | (apply W.of; constructor <;> first | (show W _ _ _ _ _ _ _ _ _) | (intro (al : Nat) h st; show W _ _ _ _ _ _ _ _ _) | (intro _ h st; show W _ _ _ _ _ _ _ _ _) | exact Sd))); refine W.do (ho := xp) (w := ?_)
    (repeat (first | (show W _ _ _ _ _ _ (.code (cond _ _ _) :: _) _ _; first | refine W.ct ?_ | refine W.cf ?_) | (show W _ _ _ _ _ _ (.ins (cond _ _ _ :: _) :: _) _ _; first | refine W.gt ?_ | refine W.gf ?_) | (show W _ _ _ _ _ _ [] _ _; refine W.of (.done ?_)) | (apply W.of; constructor <;> first | (show W _ _ _ _ _ _ _ _ _) | (intro (al : Nat) h st; show W _ _ _ _ _ _ _ _ _) | (intro _ h st; show W _ _ _ _ _ _ _ _ _) | exact Sd))); refine W.do (ho := (d_rwLoadF (o := 2) runCL st Tk hp rfl)) (w := ?_)
    (repeat (first | (show W _ _ _ _ _ _ (.code (cond _ _ _) :: _) _ _; first | refine W.ct ?_ | refine W.cf ?_) | (show W _ _ _ _ _ _ (.ins (cond _ _ _ :: _) :: _) _ _; first | refine W.gt ?_ | refine W.gf ?_) | (show W _ _ _ _ _ _ [] _ _; refine W.of (.done ?_)) | (apply W.of; constructor <;> first | (show W _ _ _ _ _ _ _ _ _) | (intro (al : Nat) h st; show W _ _ _ _ _ _ _ _ _) | (intro _ h st; show W _ _ _ _ _ _ _ _ _) | exact Sd)))
    exact W.sub Sbs (runs_tail hk hr hm (st.sel Sels))
theorem modU (x z : Nat) (hz : 0 < z) (h100 : z ≤ 100000) : IntKind.i64.wrap ((x : Int).tmod (z : Int)) = ((x % z : Nat) : Int) := by
  have := Nat.mod_lt x hz
  rw [← Int.ofNat_tmod, wrap64 (by omega) (by omega)]
set_option maxRecDepth 8000 in
theorem sruns_w {x : Nat} {v : AV} {acts : List ActP} : Spec R (.f n_law11_SpreadRuns) [.int .u64 (x : Nat), v] [ActPC v acts] fun r _ => r = .bool true := by
  refine spec_in fun h F st => ?_
  obtain ⟨hl, hj⟩ := st.ar Tk
  clear st h F; refine spec_w (fun _ _ _ x => progI_call rfl rfl x) Njs rfl (fun h F st => ?_); dsimp only [List.cons_append, List.nil_append] at st
  have hx60 : x % 60 < 60 := Nat.mod_lt _ (by decide)
  (repeat (first | (show W _ _ _ _ _ _ (.code (cond _ _ _) :: _) _ _; first | refine W.ct ?_ | refine W.cf ?_) | (show W _ _ _ _ _ _ (.ins (cond _ _ _ :: _) :: _) _ _; first | refine W.gt ?_ | refine W.gf ?_) | (show W _ _ _ _ _ _ [] _ _; refine W.of (.done ?_)) | (apply W.of; constructor <;> first | (show W _ _ _ _ _ _ _ _ _) | (intro (al : Nat) h st; show W _ _ _ _ _ _ _ _ _) | (intro _ h st; show W _ _ _ _ _ _ _ _ _) | exact Sd)))
  rw [show IntKind.i64.wrap ((x : Int).tmod 60) = ((x % 60 : Nat) : Int) from modU x 60 (by decide) (by decide)]
  generalize x % 60 = k at *
  (repeat (first | (show W _ _ _ _ _ _ (.code (cond _ _ _) :: _) _ _; first | refine W.ct ?_ | refine W.cf ?_) | (show W _ _ _ _ _ _ (.ins (cond _ _ _ :: _) :: _) _ _; first | refine W.gt ?_ | refine W.gf ?_) | (show W _ _ _ _ _ _ [] _ _; refine W.of (.done ?_)) | (apply W.of; constructor <;> first | (show W _ _ _ _ _ _ _ _ _) | (intro (al : Nat) h st; show W _ _ _ _ _ _ _ _ _) | (intro _ h st; show W _ _ _ _ _ _ _ _ _) | exact Sd))); refine W.call (hs := (cnt_New (m := (k : Nat)) (by omega) (by omega))) (w := ?_); rintro vv _ ⟨D, l0, rfl, rfl, e0⟩ h st; refine nj ?_; dsimp only [List.cons_append, List.nil_append] at st
  by_cases h60 : acts.length ≤ 60
  · (repeat (first | (show W _ _ _ _ _ _ (.code (cond _ _ _) :: _) _ _; first | refine W.ct ?_ | refine W.cf ?_) | (show W _ _ _ _ _ _ (.ins (cond _ _ _ :: _) :: _) _ _; first | refine W.gt ?_ | refine W.gf ?_) | (show W _ _ _ _ _ _ [] _ _; refine W.of (.done ?_)) | (apply W.of; constructor <;> first | (show W _ _ _ _ _ _ _ _ _) | (intro (al : Nat) h st; show W _ _ _ _ _ _ _ _ _) | (intro _ h st; show W _ _ _ _ _ _ _ _ _) | exact Sd)))
    refine W.loop (fun y : Nat × List RunV => [(5, .int .i64 k), (6, .ptr D 0), (32, v), (33, .int .i64 acts.length), (34, .int .i64 y.1)]) (fun y => CntC D y.2 k :: ActPC v acts :: F) (fun y => y.1 ≤ acts.length) (fun y => acts.length - y.1) (0, l0) (small_rounds (by simp only; omega)) Sbs (st.sel Sels) (Nat.zero_le _) ?_
    clear st
    intro ⟨i, l⟩ h hi st
    dsimp only at hi st ⊢
    by_cases hlt : i < acts.length
    · obtain ⟨a, ha⟩ : ∃ a, acts[i]? = some a := ⟨acts[i], by simp [hlt]⟩
      obtain ⟨gp, gq⟩ := d_arIdx (kk := .i64) st Tk hlt
      (repeat (first | (show W _ _ _ _ _ _ (.code (cond _ _ _) :: _) _ _; first | refine W.ct ?_ | refine W.cf ?_) | (show W _ _ _ _ _ _ (.ins (cond _ _ _ :: _) :: _) _ _; first | refine W.gt ?_ | refine W.gf ?_) | (show W _ _ _ _ _ _ [] _ _; refine W.of (.done ?_)) | (apply W.of; constructor <;> first | (show W _ _ _ _ _ _ _ _ _) | (intro (al : Nat) h st; show W _ _ _ _ _ _ _ _ _) | (intro _ h st; show W _ _ _ _ _ _ _ _ _) | exact Sd))); refine W.do (ho := gp) (w := ?_)
      (repeat (first | (show W _ _ _ _ _ _ (.code (cond _ _ _) :: _) _ _; first | refine W.ct ?_ | refine W.cf ?_) | (show W _ _ _ _ _ _ (.ins (cond _ _ _ :: _) :: _) _ _; first | refine W.gt ?_ | refine W.gf ?_) | (show W _ _ _ _ _ _ [] _ _; refine W.of (.done ?_)) | (apply W.of; constructor <;> first | (show W _ _ _ _ _ _ _ _ _) | (intro (al : Nat) h st; show W _ _ _ _ _ _ _ _ _) | (intro _ h st; show W _ _ _ _ _ _ _ _ _) | exact Sd))); refine W.do (ho := (d_loadar st Tk ha)) (w := ?_)
      (repeat (first | (show W _ _ _ _ _ _ (.code (cond _ _ _) :: _) _ _; first | refine W.ct ?_ | refine W.cf ?_) | (show W _ _ _ _ _ _ (.ins (cond _ _ _ :: _) :: _) _ _; first | refine W.gt ?_ | refine W.gf ?_) | (show W _ _ _ _ _ _ [] _ _; refine W.of (.done ?_)) | (apply W.of; constructor <;> first | (show W _ _ _ _ _ _ _ _ _) | (intro (al : Nat) h st; show W _ _ _ _ _ _ _ _ _) | (intro _ h st; show W _ _ _ _ _ _ _ _ _) | exact Sd))); refine W.call (hs := cnt_Add_any) (w := ?_); rintro vv _ ⟨gj, l', rfl⟩ h st; refine nj ?_; dsimp only [List.cons_append, List.nil_append] at st
      (repeat (first | (show W _ _ _ _ _ _ (.code (cond _ _ _) :: _) _ _; first | refine W.ct ?_ | refine W.cf ?_) | (show W _ _ _ _ _ _ (.ins (cond _ _ _ :: _) :: _) _ _; first | refine W.gt ?_ | refine W.gf ?_) | (show W _ _ _ _ _ _ [] _ _; refine W.of (.done ?_)) | (apply W.of; constructor <;> first | (show W _ _ _ _ _ _ _ _ _) | (intro (al : Nat) h st; show W _ _ _ _ _ _ _ _ _) | (intro _ h st; show W _ _ _ _ _ _ _ _ _) | exact Sd)))
      refine W.of (.lp ?_)
      exact ⟨(i + 1, l'), by simp only; omega, hlt, Sbs, st.sel Sels⟩
    · have hk := st.cnt (l := l) Tk
      have hsum := sumR_ok hk.chain
      have hlen := hk.len
      (repeat (first | (show W _ _ _ _ _ _ (.code (cond _ _ _) :: _) _ _; first | refine W.ct ?_ | refine W.cf ?_) | (show W _ _ _ _ _ _ (.ins (cond _ _ _ :: _) :: _) _ _; first | refine W.gt ?_ | refine W.gf ?_) | (show W _ _ _ _ _ _ [] _ _; refine W.of (.done ?_)) | (apply W.of; constructor <;> first | (show W _ _ _ _ _ _ _ _ _) | (intro (al : Nat) h st; show W _ _ _ _ _ _ _ _ _) | (intro _ h st; show W _ _ _ _ _ _ _ _ _) | exact Sd))); refine W.call (hs := (cnt_Runs (l := l))) (w := ?_); rintro vv _ ⟨rj, rl, rfl⟩ h st; refine nj ?_; dsimp only [List.cons_append, List.nil_append] at st
      obtain ⟨rv, rfl⟩ : ∃ y, y = vv := ⟨_, rfl⟩
      (repeat (first | (show W _ _ _ _ _ _ (.code (cond _ _ _) :: _) _ _; first | refine W.ct ?_ | refine W.cf ?_) | (show W _ _ _ _ _ _ (.ins (cond _ _ _ :: _) :: _) _ _; first | refine W.gt ?_ | refine W.gf ?_) | (show W _ _ _ _ _ _ [] _ _; refine W.of (.done ?_)) | (apply W.of; constructor <;> first | (show W _ _ _ _ _ _ _ _ _) | (intro (al : Nat) h st; show W _ _ _ _ _ _ _ _ _) | (intro _ h st; show W _ _ _ _ _ _ _ _ _) | exact Sd)))
      refine W.loop (fun y : RuS => runsE D rv l k y.at' y.i) (fun _ => RunsC rv l :: CntC D l k :: F) (fun y => y.i ≤ l.length ∧ Chain 0 (l.take y.i) y.at') (fun y => l.length - y.i) ⟨0, 0⟩ (small_rounds (by simp only; omega)) Sbs (st.sel Sels) ⟨Nat.zero_le _, rfl⟩ ?_
      clear st
      intro ⟨i, m⟩ h ⟨hi, hm⟩ st
      dsimp only at hi hm st ⊢
      by_cases hlt : i < l.length
      · obtain ⟨r, hr⟩ : ∃ r, l[i]? = some r := ⟨l[i], by simp [hlt]⟩
        exact runs_L1 hk hr hm st
      · have e : i = l.length := by omega
        subst e
        rw [List.take_length] at hm
        have em : m = k := by
          have h1 := hm.length
          have h2 := hk.chain.length
          have := hm.le
          have := hk.n0
          omega
        subst em
        dsimp only [runsE]
        rw [show sumR (l.take l.length) = (expand l).sum by rw [List.take_length, hsum]]
        (repeat (first | (show W _ _ _ _ _ _ (.code (cond _ _ _) :: _) _ _; first | refine W.ct ?_ | refine W.cf ?_) | (show W _ _ _ _ _ _ (.ins (cond _ _ _ :: _) :: _) _ _; first | refine W.gt ?_ | refine W.gf ?_) | (show W _ _ _ _ _ _ [] _ _; refine W.of (.done ?_)) | (apply W.of; constructor <;> first | (show W _ _ _ _ _ _ _ _ _) | (intro (al : Nat) h st; show W _ _ _ _ _ _ _ _ _) | (intro _ h st; show W _ _ _ _ _ _ _ _ _) | exact Sd))); refine W.call (hs := (cnt_Sum (l := l))) (w := ?_); rintro vv _ ⟨rfl, rfl⟩ h st; refine nj ?_; dsimp only [List.cons_append, List.nil_append] at st
        (repeat (first | (show W _ _ _ _ _ _ (.code (cond _ _ _) :: _) _ _; first | refine W.ct ?_ | refine W.cf ?_) | (show W _ _ _ _ _ _ (.ins (cond _ _ _ :: _) :: _) _ _; first | refine W.gt ?_ | refine W.gf ?_) | (show W _ _ _ _ _ _ [] _ _; refine W.of (.done ?_)) | (apply W.of; constructor <;> first | (show W _ _ _ _ _ _ _ _ _) | (intro (al : Nat) h st; show W _ _ _ _ _ _ _ _ _) | (intro _ h st; show W _ _ _ _ _ _ _ _ _) | exact Sd)))
        rw [eqS]
        (repeat (first | (show W _ _ _ _ _ _ (.code (cond _ _ _) :: _) _ _; first | refine W.ct ?_ | refine W.cf ?_) | (show W _ _ _ _ _ _ (.ins (cond _ _ _ :: _) :: _) _ _; first | refine W.gt ?_ | refine W.gf ?_) | (show W _ _ _ _ _ _ [] _ _; refine W.of (.done ?_)) | (apply W.of; constructor <;> first | (show W _ _ _ _ _ _ _ _ _) | (intro (al : Nat) h st; show W _ _ _ _ _ _ _ _ _) | (intro _ h st; show W _ _ _ _ _ _ _ _ _) | exact Sd))); refine W.call (hs := (cnt_At (l := l))) (w := ?_); rintro vv _ ⟨rfl, rfl⟩ h st; refine nj ?_; dsimp only [List.cons_append, List.nil_append] at st
        rw [show atL (expand l) (k : Int) = -1 by unfold atL; rw [if_neg (by have := hk.chain.length; omega)]]
        (repeat (first | (show W _ _ _ _ _ _ (.code (cond _ _ _) :: _) _ _; first | refine W.ct ?_ | refine W.cf ?_) | (show W _ _ _ _ _ _ (.ins (cond _ _ _ :: _) :: _) _ _; first | refine W.gt ?_ | refine W.gf ?_) | (show W _ _ _ _ _ _ [] _ _; refine W.of (.done ?_)) | (apply W.of; constructor <;> first | (show W _ _ _ _ _ _ _ _ _) | (intro (al : Nat) h st; show W _ _ _ _ _ _ _ _ _) | (intro _ h st; show W _ _ _ _ _ _ _ _ _) | exact Sd))); refine W.call (hs := (cnt_At (l := l))) (w := ?_); rintro vv _ ⟨rfl, rfl⟩ h st; refine nj ?_; dsimp only [List.cons_append, List.nil_append] at st
        rw [show atL (expand l) (-1) = -1 by unfold atL; rw [if_neg (by omega)]]
        (repeat (first | (show W _ _ _ _ _ _ (.code (cond _ _ _) :: _) _ _; first | refine W.ct ?_ | refine W.cf ?_) | (show W _ _ _ _ _ _ (.ins (cond _ _ _ :: _) :: _) _ _; first | refine W.gt ?_ | refine W.gf ?_) | (show W _ _ _ _ _ _ [] _ _; refine W.of (.done ?_)) | (apply W.of; constructor <;> first | (show W _ _ _ _ _ _ _ _ _) | (intro (al : Nat) h st; show W _ _ _ _ _ _ _ _ _) | (intro _ h st; show W _ _ _ _ _ _ _ _ _) | exact Sd))); refine W.call (hs := law11_lives) (w := ?_); rintro vv _ ⟨rfl, rfl⟩ h st; refine nj ?_; dsimp only [List.cons_append, List.nil_append] at st
        (repeat (first | (show W _ _ _ _ _ _ (.code (cond _ _ _) :: _) _ _; first | refine W.ct ?_ | refine W.cf ?_) | (show W _ _ _ _ _ _ (.ins (cond _ _ _ :: _) :: _) _ _; first | refine W.gt ?_ | refine W.gf ?_) | (show W _ _ _ _ _ _ [] _ _; refine W.of (.done ?_)) | (apply W.of; constructor <;> first | (show W _ _ _ _ _ _ _ _ _) | (intro (al : Nat) h st; show W _ _ _ _ _ _ _ _ _) | (intro _ h st; show W _ _ _ _ _ _ _ _ _) | exact Sd)))
        exact ⟨_, rfl, [_, _], rfl, st⟩
  · (repeat (first | (show W _ _ _ _ _ _ (.code (cond _ _ _) :: _) _ _; first | refine W.ct ?_ | refine W.cf ?_) | (show W _ _ _ _ _ _ (.ins (cond _ _ _ :: _) :: _) _ _; first | refine W.gt ?_ | refine W.gf ?_) | (show W _ _ _ _ _ _ [] _ _; refine W.of (.done ?_)) | (apply W.of; constructor <;> first | (show W _ _ _ _ _ _ _ _ _) | (intro (al : Nat) h st; show W _ _ _ _ _ _ _ _ _) | (intro _ h st; show W _ _ _ _ _ _ _ _ _) | exact Sd)))
    (repeat (first | (show W _ _ _ _ _ _ (.code (cond _ _ _) :: _) _ _; first | refine W.ct ?_ | refine W.cf ?_) | (show W _ _ _ _ _ _ (.ins (cond _ _ _ :: _) :: _) _ _; first | refine W.gt ?_ | refine W.gf ?_) | (show W _ _ _ _ _ _ [] _ _; refine W.of (.done ?_)) | (apply W.of; constructor <;> first | (show W _ _ _ _ _ _ _ _ _) | (intro (al : Nat) h st; show W _ _ _ _ _ _ _ _ _) | (intro _ h st; show W _ _ _ _ _ _ _ _ _) | exact Sd))); refine W.call (hs := law11_lives) (w := ?_); rintro vv _ ⟨rfl, rfl⟩ h st; refine nj ?_; dsimp only [List.cons_append, List.nil_append] at st
    (repeat (first | (show W _ _ _ _ _ _ (.code (cond _ _ _) :: _) _ _; first | refine W.ct ?_ | refine W.cf ?_) | (show W _ _ _ _ _ _ (.ins (cond _ _ _ :: _) :: _) _ _; first | refine W.gt ?_ | refine W.gf ?_) | (show W _ _ _ _ _ _ [] _ _; refine W.of (.done ?_)) | (apply W.of; constructor <;> first | (show W _ _ _ _ _ _ _ _ _) | (intro (al : Nat) h st; show W _ _ _ _ _ _ _ _ _) | (intro _ h st; show W _ _ _ _ _ _ _ _ _) | exact Sd)))
    exact ⟨_, rfl, [_, _], rfl, st⟩
end Go.Proofs.Ytjdemlagmamlbaa

namespace Go.Proofs.Ytjdemlagmamlbaa
variable {D : Nat} {l : List RunV} {n : Int}
theorem addL_back {lo hi by' : Int} : ∀ {cs : List Int} {o : Int}, addL o (addL o cs lo hi by') lo hi (-by') = cs
  | [], _ => rfl
  | c :: cs, o => by
    simp only [addL]
    rw [addL_back]
    congr 1
    split <;> omega
theorem slc_add {cs : List Int} {lo hi by' : Int} (h0 : 0 ≤ lo) (h1 : lo ≤ hi) (h2 : hi ≤ cs.length) : slc (addL 0 cs lo hi by') lo hi = (slc cs lo hi).map (· + by') := by
  have hl := slc_len h0 h1 h2
  rw [addL_eq h0 h1 h2]
  generalize slc cs lo hi = s at *
  unfold slc
  have l1 : (cs.take lo.toNat).length = lo.toNat := by rw [List.length_take]; omega
  rw [List.append_assoc, List.drop_append_of_le_length (by omega), List.drop_of_length_le (by omega), List.nil_append, List.take_append_of_le_length (by rw [List.length_map]; omega), List.take_of_length_le (by rw [List.length_map]; omega)]
theorem back_ok (hk : COk l n) {lo hi by' : Int} (ha : AddOk (expand l) lo hi by') : AddOk (addL 0 (expand l) lo hi by') lo hi (-by') :=
  ⟨ha.l0, by rw [addL_length]; exact ha.h0, ha.le, fun c hc => by
    rw [slc_add ha.l0 ha.le ha.h0] at hc
    obtain ⟨d, hd, rfl⟩ := List.mem_map.1 hc
    obtain ⟨r, hr, e⟩ := (mem_expand hk.chain d).1 (List.mem_of_mem_drop (List.mem_of_mem_take hd))
    have := hk.cnt r hr
    omega⟩
set_option maxRecDepth 8000 in
theorem sback_w {x : Nat} {v : AV} {acts : List ActP} {a : ActP} : Spec R (.f n_law11_SpreadBack) [.int .u64 (x : Nat), v, .agg a.cells] [ActPC v acts] fun r _ => r = .bool true := by
  refine spec_in fun h F st => ?_
  obtain ⟨hl, hj⟩ := st.ar Tk
  clear st h F; refine spec_w (fun _ _ _ x => progI_call rfl rfl x) Njs rfl (fun h F st => ?_); dsimp only [List.cons_append, List.nil_append] at st
  have hx60 : x % 60 < 60 := Nat.mod_lt _ (by decide)
  (repeat (first | (show W _ _ _ _ _ _ (.code (cond _ _ _) :: _) _ _; first | refine W.ct ?_ | refine W.cf ?_) | (show W _ _ _ _ _ _ (.ins (cond _ _ _ :: _) :: _) _ _; first | refine W.gt ?_ | refine W.gf ?_) | (show W _ _ _ _ _ _ [] _ _; refine W.of (.done ?_)) | (apply W.of; constructor <;> first | (show W _ _ _ _ _ _ _ _ _) | (intro (al : Nat) h st; show W _ _ _ _ _ _ _ _ _) | (intro _ h st; show W _ _ _ _ _ _ _ _ _) | exact Sd)))
  rw [show IntKind.i64.wrap ((x : Int).tmod 60) = ((x % 60 : Nat) : Int) from modU x 60 (by decide) (by decide)]
  generalize x % 60 = k at *
  obtain ⟨A, rfl⟩ : ∃ y, y = al := ⟨_, rfl⟩
  (repeat (first | (show W _ _ _ _ _ _ (.code (cond _ _ _) :: _) _ _; first | refine W.ct ?_ | refine W.cf ?_) | (show W _ _ _ _ _ _ (.ins (cond _ _ _ :: _) :: _) _ _; first | refine W.gt ?_ | refine W.gf ?_) | (show W _ _ _ _ _ _ [] _ _; refine W.of (.done ?_)) | (apply W.of; constructor <;> first | (show W _ _ _ _ _ _ _ _ _) | (intro (al : Nat) h st; show W _ _ _ _ _ _ _ _ _) | (intro _ h st; show W _ _ _ _ _ _ _ _ _) | exact Sd))); refine W.call (hs := (cnt_New (m := (k : Nat)) (by omega) (by omega))) (w := ?_); rintro vv _ ⟨D, l0, rfl, rfl, e0⟩ h st; refine nj ?_; dsimp only [List.cons_append, List.nil_append] at st
  by_cases h60 : acts.length ≤ 60
  · by_cases hb1 : a.by' < -1000000
    · (repeat (first | (show W _ _ _ _ _ _ (.code (cond _ _ _) :: _) _ _; first | refine W.ct ?_ | refine W.cf ?_) | (show W _ _ _ _ _ _ (.ins (cond _ _ _ :: _) :: _) _ _; first | refine W.gt ?_ | refine W.gf ?_) | (show W _ _ _ _ _ _ [] _ _; refine W.of (.done ?_)) | (apply W.of; constructor <;> first | (show W _ _ _ _ _ _ _ _ _) | (intro (al : Nat) h st; show W _ _ _ _ _ _ _ _ _) | (intro _ h st; show W _ _ _ _ _ _ _ _ _) | exact Sd)))
      (repeat (first | (show W _ _ _ _ _ _ (.code (cond _ _ _) :: _) _ _; first | refine W.ct ?_ | refine W.cf ?_) | (show W _ _ _ _ _ _ (.ins (cond _ _ _ :: _) :: _) _ _; first | refine W.gt ?_ | refine W.gf ?_) | (show W _ _ _ _ _ _ [] _ _; refine W.of (.done ?_)) | (apply W.of; constructor <;> first | (show W _ _ _ _ _ _ _ _ _) | (intro (al : Nat) h st; show W _ _ _ _ _ _ _ _ _) | (intro _ h st; show W _ _ _ _ _ _ _ _ _) | exact Sd))); refine W.call (hs := law11_lives) (w := ?_); rintro vv _ ⟨rfl, rfl⟩ h st; refine nj ?_; dsimp only [List.cons_append, List.nil_append] at st
      (repeat (first | (show W _ _ _ _ _ _ (.code (cond _ _ _) :: _) _ _; first | refine W.ct ?_ | refine W.cf ?_) | (show W _ _ _ _ _ _ (.ins (cond _ _ _ :: _) :: _) _ _; first | refine W.gt ?_ | refine W.gf ?_) | (show W _ _ _ _ _ _ [] _ _; refine W.of (.done ?_)) | (apply W.of; constructor <;> first | (show W _ _ _ _ _ _ _ _ _) | (intro (al : Nat) h st; show W _ _ _ _ _ _ _ _ _) | (intro _ h st; show W _ _ _ _ _ _ _ _ _) | exact Sd)))
      exact ⟨_, rfl, [_, _, _], rfl, st⟩
    · by_cases hb2 : a.by' > 1000000
      · (repeat (first | (show W _ _ _ _ _ _ (.code (cond _ _ _) :: _) _ _; first | refine W.ct ?_ | refine W.cf ?_) | (show W _ _ _ _ _ _ (.ins (cond _ _ _ :: _) :: _) _ _; first | refine W.gt ?_ | refine W.gf ?_) | (show W _ _ _ _ _ _ [] _ _; refine W.of (.done ?_)) | (apply W.of; constructor <;> first | (show W _ _ _ _ _ _ _ _ _) | (intro (al : Nat) h st; show W _ _ _ _ _ _ _ _ _) | (intro _ h st; show W _ _ _ _ _ _ _ _ _) | exact Sd)))
        (repeat (first | (show W _ _ _ _ _ _ (.code (cond _ _ _) :: _) _ _; first | refine W.ct ?_ | refine W.cf ?_) | (show W _ _ _ _ _ _ (.ins (cond _ _ _ :: _) :: _) _ _; first | refine W.gt ?_ | refine W.gf ?_) | (show W _ _ _ _ _ _ [] _ _; refine W.of (.done ?_)) | (apply W.of; constructor <;> first | (show W _ _ _ _ _ _ _ _ _) | (intro (al : Nat) h st; show W _ _ _ _ _ _ _ _ _) | (intro _ h st; show W _ _ _ _ _ _ _ _ _) | exact Sd))); refine W.call (hs := law11_lives) (w := ?_); rintro vv _ ⟨rfl, rfl⟩ h st; refine nj ?_; dsimp only [List.cons_append, List.nil_append] at st
        (repeat (first | (show W _ _ _ _ _ _ (.code (cond _ _ _) :: _) _ _; first | refine W.ct ?_ | refine W.cf ?_) | (show W _ _ _ _ _ _ (.ins (cond _ _ _ :: _) :: _) _ _; first | refine W.gt ?_ | refine W.gf ?_) | (show W _ _ _ _ _ _ [] _ _; refine W.of (.done ?_)) | (apply W.of; constructor <;> first | (show W _ _ _ _ _ _ _ _ _) | (intro (al : Nat) h st; show W _ _ _ _ _ _ _ _ _) | (intro _ h st; show W _ _ _ _ _ _ _ _ _) | exact Sd)))
        exact ⟨_, rfl, [_, _, _], rfl, st⟩
      · (repeat (first | (show W _ _ _ _ _ _ (.code (cond _ _ _) :: _) _ _; first | refine W.ct ?_ | refine W.cf ?_) | (show W _ _ _ _ _ _ (.ins (cond _ _ _ :: _) :: _) _ _; first | refine W.gt ?_ | refine W.gf ?_) | (show W _ _ _ _ _ _ [] _ _; refine W.of (.done ?_)) | (apply W.of; constructor <;> first | (show W _ _ _ _ _ _ _ _ _) | (intro (al : Nat) h st; show W _ _ _ _ _ _ _ _ _) | (intro _ h st; show W _ _ _ _ _ _ _ _ _) | exact Sd)))
        refine W.loop (fun y : Nat × List RunV => [(5, .ptr A 0), (7, .int .i64 k), (8, .ptr D 0), (44, v), (45, .int .i64 acts.length), (46, .int .i64 y.1)]) (fun y => CntC D y.2 k :: .pt A (actRowP a) :: ActPC v acts :: F) (fun y => y.1 ≤ acts.length) (fun y => acts.length - y.1) (0, l0) (small_rounds (by simp only; omega)) Sbs (st.sel Sels) (Nat.zero_le _) ?_
        clear st
        intro ⟨i, l⟩ h hi st
        dsimp only at hi st ⊢
        by_cases hlt : i < acts.length
        · obtain ⟨b, hb⟩ : ∃ b, acts[i]? = some b := ⟨acts[i], by simp [hlt]⟩
          obtain ⟨gp, gq⟩ := d_arIdx (kk := .i64) st Tk hlt
          (repeat (first | (show W _ _ _ _ _ _ (.code (cond _ _ _) :: _) _ _; first | refine W.ct ?_ | refine W.cf ?_) | (show W _ _ _ _ _ _ (.ins (cond _ _ _ :: _) :: _) _ _; first | refine W.gt ?_ | refine W.gf ?_) | (show W _ _ _ _ _ _ [] _ _; refine W.of (.done ?_)) | (apply W.of; constructor <;> first | (show W _ _ _ _ _ _ _ _ _) | (intro (al : Nat) h st; show W _ _ _ _ _ _ _ _ _) | (intro _ h st; show W _ _ _ _ _ _ _ _ _) | exact Sd))); refine W.do (ho := gp) (w := ?_)
          (repeat (first | (show W _ _ _ _ _ _ (.code (cond _ _ _) :: _) _ _; first | refine W.ct ?_ | refine W.cf ?_) | (show W _ _ _ _ _ _ (.ins (cond _ _ _ :: _) :: _) _ _; first | refine W.gt ?_ | refine W.gf ?_) | (show W _ _ _ _ _ _ [] _ _; refine W.of (.done ?_)) | (apply W.of; constructor <;> first | (show W _ _ _ _ _ _ _ _ _) | (intro (al : Nat) h st; show W _ _ _ _ _ _ _ _ _) | (intro _ h st; show W _ _ _ _ _ _ _ _ _) | exact Sd))); refine W.do (ho := (d_loadar st Tk hb)) (w := ?_)
          (repeat (first | (show W _ _ _ _ _ _ (.code (cond _ _ _) :: _) _ _; first | refine W.ct ?_ | refine W.cf ?_) | (show W _ _ _ _ _ _ (.ins (cond _ _ _ :: _) :: _) _ _; first | refine W.gt ?_ | refine W.gf ?_) | (show W _ _ _ _ _ _ [] _ _; refine W.of (.done ?_)) | (apply W.of; constructor <;> first | (show W _ _ _ _ _ _ _ _ _) | (intro (al : Nat) h st; show W _ _ _ _ _ _ _ _ _) | (intro _ h st; show W _ _ _ _ _ _ _ _ _) | exact Sd))); refine W.call (hs := cnt_Add_any) (w := ?_); rintro vv _ ⟨gj, l', rfl⟩ h st; refine nj ?_; dsimp only [List.cons_append, List.nil_append] at st
          (repeat (first | (show W _ _ _ _ _ _ (.code (cond _ _ _) :: _) _ _; first | refine W.ct ?_ | refine W.cf ?_) | (show W _ _ _ _ _ _ (.ins (cond _ _ _ :: _) :: _) _ _; first | refine W.gt ?_ | refine W.gf ?_) | (show W _ _ _ _ _ _ [] _ _; refine W.of (.done ?_)) | (apply W.of; constructor <;> first | (show W _ _ _ _ _ _ _ _ _) | (intro (al : Nat) h st; show W _ _ _ _ _ _ _ _ _) | (intro _ h st; show W _ _ _ _ _ _ _ _ _) | exact Sd)))
          refine W.of (.lp ?_)
          exact ⟨(i + 1, l'), by simp only; omega, hlt, Sbs, st.sel Sels⟩
        · have hk := st.cnt (l := l) Tk
          have hlen := hk.len
          (repeat (first | (show W _ _ _ _ _ _ (.code (cond _ _ _) :: _) _ _; first | refine W.ct ?_ | refine W.cf ?_) | (show W _ _ _ _ _ _ (.ins (cond _ _ _ :: _) :: _) _ _; first | refine W.gt ?_ | refine W.gf ?_) | (show W _ _ _ _ _ _ [] _ _; refine W.of (.done ?_)) | (apply W.of; constructor <;> first | (show W _ _ _ _ _ _ _ _ _) | (intro (al : Nat) h st; show W _ _ _ _ _ _ _ _ _) | (intro _ h st; show W _ _ _ _ _ _ _ _ _) | exact Sd))); refine W.call (hs := (cnt_Runs (l := l))) (w := ?_); rintro vv _ ⟨rj, rl, rfl⟩ h st; refine nj ?_; dsimp only [List.cons_append, List.nil_append] at st
          obtain ⟨was, rfl⟩ : ∃ y, y = vv := ⟨_, rfl⟩
          (repeat (first | (show W _ _ _ _ _ _ (.code (cond _ _ _) :: _) _ _; first | refine W.ct ?_ | refine W.cf ?_) | (show W _ _ _ _ _ _ (.ins (cond _ _ _ :: _) :: _) _ _; first | refine W.gt ?_ | refine W.gf ?_) | (show W _ _ _ _ _ _ [] _ _; refine W.of (.done ?_)) | (apply W.of; constructor <;> first | (show W _ _ _ _ _ _ _ _ _) | (intro (al : Nat) h st; show W _ _ _ _ _ _ _ _ _) | (intro _ h st; show W _ _ _ _ _ _ _ _ _) | exact Sd))); refine W.call (hs := (cnt_Copy (l := l))) (w := ?_); rintro vv _ ⟨E, rfl, rfl⟩ h st; refine nj ?_; dsimp only [List.cons_append, List.nil_append] at st
          have st : St h (CntC D l k :: CntC E l k :: RunsC was l :: .pt A (actRowP a) :: ActPC v acts :: F) := st.sel Sels
          (repeat (first | (show W _ _ _ _ _ _ (.code (cond _ _ _) :: _) _ _; first | refine W.ct ?_ | refine W.cf ?_) | (show W _ _ _ _ _ _ (.ins (cond _ _ _ :: _) :: _) _ _; first | refine W.gt ?_ | refine W.gf ?_) | (show W _ _ _ _ _ _ [] _ _; refine W.of (.done ?_)) | (apply W.of; constructor <;> first | (show W _ _ _ _ _ _ _ _ _) | (intro (al : Nat) h st; show W _ _ _ _ _ _ _ _ _) | (intro _ h st; show W _ _ _ _ _ _ _ _ _) | exact Sd))); refine W.call (hs := (cnt_Add (D := D) (l := l) (lo := a.lo) (hi := a.hi) (by' := a.by'))) (w := ?_); rintro vv _ (⟨ha, gv, l1, rfl, gj, gl, e1, rfl⟩ | ⟨ha, rfl, rfl⟩) h st; refine nj ?_; dsimp only [List.cons_append, List.nil_append] at st
          · have hk1 := st.cnt (l := l1) Tk
            (repeat (first | (show W _ _ _ _ _ _ (.code (cond _ _ _) :: _) _ _; first | refine W.ct ?_ | refine W.cf ?_) | (show W _ _ _ _ _ _ (.ins (cond _ _ _ :: _) :: _) _ _; first | refine W.gt ?_ | refine W.gf ?_) | (show W _ _ _ _ _ _ [] _ _; refine W.of (.done ?_)) | (apply W.of; constructor <;> first | (show W _ _ _ _ _ _ _ _ _) | (intro (al : Nat) h st; show W _ _ _ _ _ _ _ _ _) | (intro _ h st; show W _ _ _ _ _ _ _ _ _) | exact Sd))); refine W.call (hs := (cnt_Runs (D := E) (l := l))) (w := ?_); rintro vv _ ⟨rj2, rl2, rfl⟩ h st; refine nj ?_; dsimp only [List.cons_append, List.nil_append] at st
            (repeat (first | (show W _ _ _ _ _ _ (.code (cond _ _ _) :: _) _ _; first | refine W.ct ?_ | refine W.cf ?_) | (show W _ _ _ _ _ _ (.ins (cond _ _ _ :: _) :: _) _ _; first | refine W.gt ?_ | refine W.gf ?_) | (show W _ _ _ _ _ _ [] _ _; refine W.of (.done ?_)) | (apply W.of; constructor <;> first | (show W _ _ _ _ _ _ _ _ _) | (intro (al : Nat) h st; show W _ _ _ _ _ _ _ _ _) | (intro _ h st; show W _ _ _ _ _ _ _ _ _) | exact Sd))); refine W.call (hs := (ref11_Same (b := was) (l := l) (l' := l) (by omega))) (w := ?_); rintro vv _ ⟨rfl, rfl⟩ h st; refine nj ?_; dsimp only [List.cons_append, List.nil_append] at st
            rw [decide_eq_true (rfl : l = l)]
            (repeat (first | (show W _ _ _ _ _ _ (.code (cond _ _ _) :: _) _ _; first | refine W.ct ?_ | refine W.cf ?_) | (show W _ _ _ _ _ _ (.ins (cond _ _ _ :: _) :: _) _ _; first | refine W.gt ?_ | refine W.gf ?_) | (show W _ _ _ _ _ _ [] _ _; refine W.of (.done ?_)) | (apply W.of; constructor <;> first | (show W _ _ _ _ _ _ _ _ _) | (intro (al : Nat) h st; show W _ _ _ _ _ _ _ _ _) | (intro _ h st; show W _ _ _ _ _ _ _ _ _) | exact Sd)))
            rw [wrap64 (n := 0 - a.by') (by omega) (by omega), Int.zero_sub]
            (repeat (first | (show W _ _ _ _ _ _ (.code (cond _ _ _) :: _) _ _; first | refine W.ct ?_ | refine W.cf ?_) | (show W _ _ _ _ _ _ (.ins (cond _ _ _ :: _) :: _) _ _; first | refine W.gt ?_ | refine W.gf ?_) | (show W _ _ _ _ _ _ [] _ _; refine W.of (.done ?_)) | (apply W.of; constructor <;> first | (show W _ _ _ _ _ _ _ _ _) | (intro (al : Nat) h st; show W _ _ _ _ _ _ _ _ _) | (intro _ h st; show W _ _ _ _ _ _ _ _ _) | exact Sd))); refine W.call (hs := (cnt_Add_ok (D := D) (l := l1) (n := k) (lo := a.lo) (hi := a.hi) (by' := -a.by') (by rw [e1]; exact back_ok hk ha))) (w := ?_); rintro vv _ ⟨gv2, l2, rfl, gj2, gl2, e2, rfl⟩ h st; refine nj ?_; dsimp only [List.cons_append, List.nil_append] at st
            have hk2 := st.cnt (l := l2) Tk
            have el : l2 = l := runs_are hk2 hk (by rw [e2, e1, addL_back])
            subst el
            (repeat (first | (show W _ _ _ _ _ _ (.code (cond _ _ _) :: _) _ _; first | refine W.ct ?_ | refine W.cf ?_) | (show W _ _ _ _ _ _ (.ins (cond _ _ _ :: _) :: _) _ _; first | refine W.gt ?_ | refine W.gf ?_) | (show W _ _ _ _ _ _ [] _ _; refine W.of (.done ?_)) | (apply W.of; constructor <;> first | (show W _ _ _ _ _ _ _ _ _) | (intro (al : Nat) h st; show W _ _ _ _ _ _ _ _ _) | (intro _ h st; show W _ _ _ _ _ _ _ _ _) | exact Sd))); refine W.call (hs := (cnt_Runs (D := D))) (w := ?_); rintro vv _ ⟨rj3, rl3, rfl⟩ h st; refine nj ?_; dsimp only [List.cons_append, List.nil_append] at st
            (repeat (first | (show W _ _ _ _ _ _ (.code (cond _ _ _) :: _) _ _; first | refine W.ct ?_ | refine W.cf ?_) | (show W _ _ _ _ _ _ (.ins (cond _ _ _ :: _) :: _) _ _; first | refine W.gt ?_ | refine W.gf ?_) | (show W _ _ _ _ _ _ [] _ _; refine W.of (.done ?_)) | (apply W.of; constructor <;> first | (show W _ _ _ _ _ _ _ _ _) | (intro (al : Nat) h st; show W _ _ _ _ _ _ _ _ _) | (intro _ h st; show W _ _ _ _ _ _ _ _ _) | exact Sd))); refine W.call (hs := (ref11_Same (b := was) (l := l2) (l' := l2) (by omega))) (w := ?_); rintro vv _ ⟨rfl, rfl⟩ h st; refine nj ?_; dsimp only [List.cons_append, List.nil_append] at st
            rw [decide_eq_true (rfl : l2 = l2)]
            (repeat (first | (show W _ _ _ _ _ _ (.code (cond _ _ _) :: _) _ _; first | refine W.ct ?_ | refine W.cf ?_) | (show W _ _ _ _ _ _ (.ins (cond _ _ _ :: _) :: _) _ _; first | refine W.gt ?_ | refine W.gf ?_) | (show W _ _ _ _ _ _ [] _ _; refine W.of (.done ?_)) | (apply W.of; constructor <;> first | (show W _ _ _ _ _ _ _ _ _) | (intro (al : Nat) h st; show W _ _ _ _ _ _ _ _ _) | (intro _ h st; show W _ _ _ _ _ _ _ _ _) | exact Sd)))
            (repeat (first | (show W _ _ _ _ _ _ (.code (cond _ _ _) :: _) _ _; first | refine W.ct ?_ | refine W.cf ?_) | (show W _ _ _ _ _ _ (.ins (cond _ _ _ :: _) :: _) _ _; first | refine W.gt ?_ | refine W.gf ?_) | (show W _ _ _ _ _ _ [] _ _; refine W.of (.done ?_)) | (apply W.of; constructor <;> first | (show W _ _ _ _ _ _ _ _ _) | (intro (al : Nat) h st; show W _ _ _ _ _ _ _ _ _) | (intro _ h st; show W _ _ _ _ _ _ _ _ _) | exact Sd))); refine W.call (hs := (cnt_Add_any (D := E))) (w := ?_); rintro vv _ ⟨gj4, l4, rfl⟩ h st; refine nj ?_; dsimp only [List.cons_append, List.nil_append] at st
            (repeat (first | (show W _ _ _ _ _ _ (.code (cond _ _ _) :: _) _ _; first | refine W.ct ?_ | refine W.cf ?_) | (show W _ _ _ _ _ _ (.ins (cond _ _ _ :: _) :: _) _ _; first | refine W.gt ?_ | refine W.gf ?_) | (show W _ _ _ _ _ _ [] _ _; refine W.of (.done ?_)) | (apply W.of; constructor <;> first | (show W _ _ _ _ _ _ _ _ _) | (intro (al : Nat) h st; show W _ _ _ _ _ _ _ _ _) | (intro _ h st; show W _ _ _ _ _ _ _ _ _) | exact Sd))); refine W.call (hs := (cnt_Runs (D := D) (l := l2))) (w := ?_); rintro vv _ ⟨rj5, rl5, rfl⟩ h st; refine nj ?_; dsimp only [List.cons_append, List.nil_append] at st
            (repeat (first | (show W _ _ _ _ _ _ (.code (cond _ _ _) :: _) _ _; first | refine W.ct ?_ | refine W.cf ?_) | (show W _ _ _ _ _ _ (.ins (cond _ _ _ :: _) :: _) _ _; first | refine W.gt ?_ | refine W.gf ?_) | (show W _ _ _ _ _ _ [] _ _; refine W.of (.done ?_)) | (apply W.of; constructor <;> first | (show W _ _ _ _ _ _ _ _ _) | (intro (al : Nat) h st; show W _ _ _ _ _ _ _ _ _) | (intro _ h st; show W _ _ _ _ _ _ _ _ _) | exact Sd))); refine W.call (hs := (ref11_Same (b := was) (l := l2) (l' := l2) (by omega))) (w := ?_); rintro vv _ ⟨rfl, rfl⟩ h st; refine nj ?_; dsimp only [List.cons_append, List.nil_append] at st
            rw [decide_eq_true (rfl : l2 = l2)]
            (repeat (first | (show W _ _ _ _ _ _ (.code (cond _ _ _) :: _) _ _; first | refine W.ct ?_ | refine W.cf ?_) | (show W _ _ _ _ _ _ (.ins (cond _ _ _ :: _) :: _) _ _; first | refine W.gt ?_ | refine W.gf ?_) | (show W _ _ _ _ _ _ [] _ _; refine W.of (.done ?_)) | (apply W.of; constructor <;> first | (show W _ _ _ _ _ _ _ _ _) | (intro (al : Nat) h st; show W _ _ _ _ _ _ _ _ _) | (intro _ h st; show W _ _ _ _ _ _ _ _ _) | exact Sd))); refine W.call (hs := law11_lives) (w := ?_); rintro vv _ ⟨rfl, rfl⟩ h st; refine nj ?_; dsimp only [List.cons_append, List.nil_append] at st
            (repeat (first | (show W _ _ _ _ _ _ (.code (cond _ _ _) :: _) _ _; first | refine W.ct ?_ | refine W.cf ?_) | (show W _ _ _ _ _ _ (.ins (cond _ _ _ :: _) :: _) _ _; first | refine W.gt ?_ | refine W.gf ?_) | (show W _ _ _ _ _ _ [] _ _; refine W.of (.done ?_)) | (apply W.of; constructor <;> first | (show W _ _ _ _ _ _ _ _ _) | (intro (al : Nat) h st; show W _ _ _ _ _ _ _ _ _) | (intro _ h st; show W _ _ _ _ _ _ _ _ _) | exact Sd)))
            exact ⟨_, rfl, [_, _, _, _, _, _, _, _, _, _], rfl, st⟩
          · refine nj ?_
            dsimp only [List.cons_append, List.nil_append] at st
            (repeat (first | (show W _ _ _ _ _ _ (.code (cond _ _ _) :: _) _ _; first | refine W.ct ?_ | refine W.cf ?_) | (show W _ _ _ _ _ _ (.ins (cond _ _ _ :: _) :: _) _ _; first | refine W.gt ?_ | refine W.gf ?_) | (show W _ _ _ _ _ _ [] _ _; refine W.of (.done ?_)) | (apply W.of; constructor <;> first | (show W _ _ _ _ _ _ _ _ _) | (intro (al : Nat) h st; show W _ _ _ _ _ _ _ _ _) | (intro _ h st; show W _ _ _ _ _ _ _ _ _) | exact Sd))); refine W.call (hs := (cnt_Runs (D := E) (l := l))) (w := ?_); rintro vv _ ⟨rj2, rl2, rfl⟩ h st; refine nj ?_; dsimp only [List.cons_append, List.nil_append] at st
            (repeat (first | (show W _ _ _ _ _ _ (.code (cond _ _ _) :: _) _ _; first | refine W.ct ?_ | refine W.cf ?_) | (show W _ _ _ _ _ _ (.ins (cond _ _ _ :: _) :: _) _ _; first | refine W.gt ?_ | refine W.gf ?_) | (show W _ _ _ _ _ _ [] _ _; refine W.of (.done ?_)) | (apply W.of; constructor <;> first | (show W _ _ _ _ _ _ _ _ _) | (intro (al : Nat) h st; show W _ _ _ _ _ _ _ _ _) | (intro _ h st; show W _ _ _ _ _ _ _ _ _) | exact Sd))); refine W.call (hs := (ref11_Same (b := was) (l := l) (l' := l) (by omega))) (w := ?_); rintro vv _ ⟨rfl, rfl⟩ h st; refine nj ?_; dsimp only [List.cons_append, List.nil_append] at st
            rw [decide_eq_true (rfl : l = l)]
            (repeat (first | (show W _ _ _ _ _ _ (.code (cond _ _ _) :: _) _ _; first | refine W.ct ?_ | refine W.cf ?_) | (show W _ _ _ _ _ _ (.ins (cond _ _ _ :: _) :: _) _ _; first | refine W.gt ?_ | refine W.gf ?_) | (show W _ _ _ _ _ _ [] _ _; refine W.of (.done ?_)) | (apply W.of; constructor <;> first | (show W _ _ _ _ _ _ _ _ _) | (intro (al : Nat) h st; show W _ _ _ _ _ _ _ _ _) | (intro _ h st; show W _ _ _ _ _ _ _ _ _) | exact Sd)))
            (repeat (first | (show W _ _ _ _ _ _ (.code (cond _ _ _) :: _) _ _; first | refine W.ct ?_ | refine W.cf ?_) | (show W _ _ _ _ _ _ (.ins (cond _ _ _ :: _) :: _) _ _; first | refine W.gt ?_ | refine W.gf ?_) | (show W _ _ _ _ _ _ [] _ _; refine W.of (.done ?_)) | (apply W.of; constructor <;> first | (show W _ _ _ _ _ _ _ _ _) | (intro (al : Nat) h st; show W _ _ _ _ _ _ _ _ _) | (intro _ h st; show W _ _ _ _ _ _ _ _ _) | exact Sd))); refine W.call (hs := (cnt_Runs (D := D) (l := l))) (w := ?_); rintro vv _ ⟨rj3, rl3, rfl⟩ h st; refine nj ?_; dsimp only [List.cons_append, List.nil_append] at st
            (repeat (first | (show W _ _ _ _ _ _ (.code (cond _ _ _) :: _) _ _; first | refine W.ct ?_ | refine W.cf ?_) | (show W _ _ _ _ _ _ (.ins (cond _ _ _ :: _) :: _) _ _; first | refine W.gt ?_ | refine W.gf ?_) | (show W _ _ _ _ _ _ [] _ _; refine W.of (.done ?_)) | (apply W.of; constructor <;> first | (show W _ _ _ _ _ _ _ _ _) | (intro (al : Nat) h st; show W _ _ _ _ _ _ _ _ _) | (intro _ h st; show W _ _ _ _ _ _ _ _ _) | exact Sd))); refine W.call (hs := (ref11_Same (b := was) (l := l) (l' := l) (by omega))) (w := ?_); rintro vv _ ⟨rfl, rfl⟩ h st; refine nj ?_; dsimp only [List.cons_append, List.nil_append] at st
            rw [decide_eq_true (rfl : l = l)]
            (repeat (first | (show W _ _ _ _ _ _ (.code (cond _ _ _) :: _) _ _; first | refine W.ct ?_ | refine W.cf ?_) | (show W _ _ _ _ _ _ (.ins (cond _ _ _ :: _) :: _) _ _; first | refine W.gt ?_ | refine W.gf ?_) | (show W _ _ _ _ _ _ [] _ _; refine W.of (.done ?_)) | (apply W.of; constructor <;> first | (show W _ _ _ _ _ _ _ _ _) | (intro (al : Nat) h st; show W _ _ _ _ _ _ _ _ _) | (intro _ h st; show W _ _ _ _ _ _ _ _ _) | exact Sd)))
            (repeat (first | (show W _ _ _ _ _ _ (.code (cond _ _ _) :: _) _ _; first | refine W.ct ?_ | refine W.cf ?_) | (show W _ _ _ _ _ _ (.ins (cond _ _ _ :: _) :: _) _ _; first | refine W.gt ?_ | refine W.gf ?_) | (show W _ _ _ _ _ _ [] _ _; refine W.of (.done ?_)) | (apply W.of; constructor <;> first | (show W _ _ _ _ _ _ _ _ _) | (intro (al : Nat) h st; show W _ _ _ _ _ _ _ _ _) | (intro _ h st; show W _ _ _ _ _ _ _ _ _) | exact Sd))); refine W.call (hs := (cnt_Add_any (D := E))) (w := ?_); rintro vv _ ⟨gj4, l4, rfl⟩ h st; refine nj ?_; dsimp only [List.cons_append, List.nil_append] at st
            (repeat (first | (show W _ _ _ _ _ _ (.code (cond _ _ _) :: _) _ _; first | refine W.ct ?_ | refine W.cf ?_) | (show W _ _ _ _ _ _ (.ins (cond _ _ _ :: _) :: _) _ _; first | refine W.gt ?_ | refine W.gf ?_) | (show W _ _ _ _ _ _ [] _ _; refine W.of (.done ?_)) | (apply W.of; constructor <;> first | (show W _ _ _ _ _ _ _ _ _) | (intro (al : Nat) h st; show W _ _ _ _ _ _ _ _ _) | (intro _ h st; show W _ _ _ _ _ _ _ _ _) | exact Sd))); refine W.call (hs := (cnt_Runs (D := D) (l := l))) (w := ?_); rintro vv _ ⟨rj5, rl5, rfl⟩ h st; refine nj ?_; dsimp only [List.cons_append, List.nil_append] at st
            (repeat (first | (show W _ _ _ _ _ _ (.code (cond _ _ _) :: _) _ _; first | refine W.ct ?_ | refine W.cf ?_) | (show W _ _ _ _ _ _ (.ins (cond _ _ _ :: _) :: _) _ _; first | refine W.gt ?_ | refine W.gf ?_) | (show W _ _ _ _ _ _ [] _ _; refine W.of (.done ?_)) | (apply W.of; constructor <;> first | (show W _ _ _ _ _ _ _ _ _) | (intro (al : Nat) h st; show W _ _ _ _ _ _ _ _ _) | (intro _ h st; show W _ _ _ _ _ _ _ _ _) | exact Sd))); refine W.call (hs := (ref11_Same (b := was) (l := l) (l' := l) (by omega))) (w := ?_); rintro vv _ ⟨rfl, rfl⟩ h st; refine nj ?_; dsimp only [List.cons_append, List.nil_append] at st
            rw [decide_eq_true (rfl : l = l)]
            (repeat (first | (show W _ _ _ _ _ _ (.code (cond _ _ _) :: _) _ _; first | refine W.ct ?_ | refine W.cf ?_) | (show W _ _ _ _ _ _ (.ins (cond _ _ _ :: _) :: _) _ _; first | refine W.gt ?_ | refine W.gf ?_) | (show W _ _ _ _ _ _ [] _ _; refine W.of (.done ?_)) | (apply W.of; constructor <;> first | (show W _ _ _ _ _ _ _ _ _) | (intro (al : Nat) h st; show W _ _ _ _ _ _ _ _ _) | (intro _ h st; show W _ _ _ _ _ _ _ _ _) | exact Sd))); refine W.call (hs := law11_lives) (w := ?_); rintro vv _ ⟨rfl, rfl⟩ h st; refine nj ?_; dsimp only [List.cons_append, List.nil_append] at st
            (repeat (first | (show W _ _ _ _ _ _ (.code (cond _ _ _) :: _) _ _; first | refine W.ct ?_ | refine W.cf ?_) | (show W _ _ _ _ _ _ (.ins (cond _ _ _ :: _) :: _) _ _; first | refine W.gt ?_ | refine W.gf ?_) | (show W _ _ _ _ _ _ [] _ _; refine W.of (.done ?_)) | (apply W.of; constructor <;> first | (show W _ _ _ _ _ _ _ _ _) | (intro (al : Nat) h st; show W _ _ _ _ _ _ _ _ _) | (intro _ h st; show W _ _ _ _ _ _ _ _ _) | exact Sd)))
            exact ⟨_, rfl, [_, _, _, _, _, _, _, _], rfl, st⟩
  · (repeat (first | (show W _ _ _ _ _ _ (.code (cond _ _ _) :: _) _ _; first | refine W.ct ?_ | refine W.cf ?_) | (show W _ _ _ _ _ _ (.ins (cond _ _ _ :: _) :: _) _ _; first | refine W.gt ?_ | refine W.gf ?_) | (show W _ _ _ _ _ _ [] _ _; refine W.of (.done ?_)) | (apply W.of; constructor <;> first | (show W _ _ _ _ _ _ _ _ _) | (intro (al : Nat) h st; show W _ _ _ _ _ _ _ _ _) | (intro _ h st; show W _ _ _ _ _ _ _ _ _) | exact Sd)))
    (repeat (first | (show W _ _ _ _ _ _ (.code (cond _ _ _) :: _) _ _; first | refine W.ct ?_ | refine W.cf ?_) | (show W _ _ _ _ _ _ (.ins (cond _ _ _ :: _) :: _) _ _; first | refine W.gt ?_ | refine W.gf ?_) | (show W _ _ _ _ _ _ [] _ _; refine W.of (.done ?_)) | (apply W.of; constructor <;> first | (show W _ _ _ _ _ _ _ _ _) | (intro (al : Nat) h st; show W _ _ _ _ _ _ _ _ _) | (intro _ h st; show W _ _ _ _ _ _ _ _ _) | exact Sd))); refine W.call (hs := law11_lives) (w := ?_); rintro vv _ ⟨rfl, rfl⟩ h st; refine nj ?_; dsimp only [List.cons_append, List.nil_append] at st
    (repeat (first | (show W _ _ _ _ _ _ (.code (cond _ _ _) :: _) _ _; first | refine W.ct ?_ | refine W.cf ?_) | (show W _ _ _ _ _ _ (.ins (cond _ _ _ :: _) :: _) _ _; first | refine W.gt ?_ | refine W.gf ?_) | (show W _ _ _ _ _ _ [] _ _; refine W.of (.done ?_)) | (apply W.of; constructor <;> first | (show W _ _ _ _ _ _ _ _ _) | (intro (al : Nat) h st; show W _ _ _ _ _ _ _ _ _) | (intro _ h st; show W _ _ _ _ _ _ _ _ _) | exact Sd)))
    exact ⟨_, rfl, [_, _, _], rfl, st⟩
end Go.Proofs.Ytjdemlagmamlbaa

namespace Go.Proofs.Ytjdemlagmamlbaa
section
variable {h : AHeap} {L R : List Chunk} {v : AV} {e k : Nat}
/-- an element of a part of a slice, looked at -/
structure RdV (h : AHeap) (p : AV) (i : Nat) (x : AV) : Prop where
  get : ∃ q, q.notJunk = some q ∧ (∀ kk, Does (.indexs 1) [p, .int kk (i : Nat)] h q h) ∧ Does .load1 [q] h x h
/-- l[a:b] -/
theorem d_midV {a b : Nat} {l : List AV} {kk : IntKind} (hab : a ≤ b) (hb : b ≤ k) (st : St h L) (t : Take L (SlC v e 1 k (.vals l) true) R) :
    ∃ p, Does (.slice 1 true true false) [v, .int kk a, .int kk b] h p h ∧ p.notJunk = some p ∧ sliceLen p = some (b - a) ∧ ∀ h' L' R', St h' L' → Take L' (SlC v e 1 k (.vals l) true) R' → ∀ i x, i < b - a → l[a + i]? = some x → RdV h' p i x := by
  have key : ∃ p, Does (.slice 1 true true false) [v, .int kk a, .int kk b] h p h ∧ p.notJunk = some p ∧ sliceLen p = some (b - a) ∧ ∀ h', (∃ cs L', SlIs v e 1 k (.vals l) true cs ∧ St h' (cs ++ L')) → ∀ i x, i < b - a → l[a + i]? = some x → RdV h' p i x := by
    obtain ⟨cs, y, st'⟩ := (st.take t).unpack
    have hbd : ∀ cap : Nat, k ≤ cap → bounds3 k cap true true false [.int kk a, .int kk b] = some (a, b, cap) := fun cap hc => by
      simp only [bounds3]; rw [if_pos (by omega)]; simp
    rcases y with ⟨rfl, rfl, _⟩ | ⟨_, _, _, _, hw⟩ | ⟨id, off, cap, D, e', es', sf, rfl, rfl, h3, hc', hw⟩ | ⟨id, idx, D, rfl, rfl, h3, hw, hfl⟩
    · have e1 : a = 0 := by omega
      have e2 : b = 0 := by omega
      subst e1 e2
      exact ⟨.nilsl, ⟨rfl, rfl⟩, rfl, rfl, fun h' _ i x hi => by omega⟩
    · cases hw
    · refine ⟨.sl id (if cap = a then off else off + a * 1) (b - a) (cap - a), ⟨rfl, ?_⟩, rfl, rfl, ?_⟩
      · simp only [aop, hbd cap hc', Option.map_some]
      · rintro h' ⟨cs, L', y, st2⟩ i x hi hx
        rw [if_neg (by omega)]
        rcases y with ⟨e, _⟩ | ⟨e, _⟩ | ⟨id2, off2, cap2, D2, _, _, _, e, rfl, g3, _, _⟩ | ⟨_, _, _, e, _⟩
        · cases e
        · cases e
        · cases e
          obtain ⟨c, rfl, p1, p2⟩ := vals_of_take g3
          refine ⟨.ptr id (off + a * 1 + i * 1), rfl, fun kk => ⟨rfl, ?_⟩, d_load1 st2.get ?_⟩
          · simp only [aop]; rw [if_pos ⟨by omega, by omega⟩]; simp
          · have hx' : (Dat.vals l).get (a + i) = some x := hx
            rw [← Dat.take_get g3 (by omega)] at hx'
            rw [← hx']; congr 1; omega
        · cases e
    · have hbd2 := hbd k (Nat.le_refl _)
      by_cases h0 : a < k ∨ a = 0
      · refine ⟨.ssl id (idx + a) 1 (b - a), ⟨rfl, ?_⟩, rfl, rfl, ?_⟩
        · simp only [aop, hbd2, Option.bind_some, if_true]; rw [if_pos h0]
        · rintro h' ⟨cs, L', y, st2⟩ i x hi hx
          rcases y with ⟨e, _⟩ | ⟨e, _⟩ | ⟨_, _, _, _, _, _, _, e, _⟩ | ⟨id2, idx2, D2, e, rfl, g3, _, _⟩
          · cases e
          · cases e
          · cases e
          · cases e
            refine ⟨.ptr id ((idx + a + i) * 1), rfl, fun kk => ⟨rfl, ?_⟩, d_load1 st2.get ?_⟩
            · simp only [aop]; rw [if_pos ⟨by omega, by omega, trivial⟩]; simp
            · have hx' : (Dat.vals l).get (a + i) = some x := hx
              rw [← Dat.take_get g3 (by omega)] at hx'
              rw [← hx']; congr 1; omega
      · refine ⟨.esl, ⟨rfl, ?_⟩, rfl, by show some 0 = _; congr 1; omega, fun h' _ i x hi => by omega⟩
        simp only [aop, hbd2, Option.bind_some, if_true]; rw [if_neg h0]
  obtain ⟨p, h1, h2, h3, h4⟩ := key
  refine ⟨p, h1, h2, h3, fun h' L' R' st' t' => ?_⟩
  obtain ⟨cs, y, st2⟩ := (st'.take t').unpack
  exact h4 h' ⟨cs, _, y, st2⟩
end
end Go.Proofs.Ytjdemlagmamlbaa

namespace Go.Proofs.Ytjdemlagmamlbaa
variable {D : Nat} {cs : List Int}
structure RcOk (cs : List Int) : Prop where
  len : cs.length ≤ 4096
  cnt : ∀ c, c ∈ cs → 0 ≤ c ∧ c ≤ 1000000
abbrev rcRow (lv : AV) : AObj := .row ty_ref11_Counts 1 false false (.vals [lv])
def RcIs (D : Nat) (cs : List Int) (ch : List Chunk) : Prop := ∃ lv, ch = [.pt D (rcRow lv), VsC lv 3 (cs.map ikey) true] ∧ RcOk cs
abbrev RcC (D : Nat) (cs : List Int) : Chunk := pk 36 (.ptr D 0) (RcIs D cs)
theorem rep_ikey (n : Nat) : (List.replicate n [AV.int .i64 0]).flatten = (List.replicate n (0 : Int)).map ikey := by
  induction n with
  | zero => rfl
  | succ n ih => rw [List.replicate_succ, List.flatten_cons, ih, List.replicate_succ, List.map_cons]; rfl
theorem St.ivs {h : AHeap} {L R : List Chunk} {v : AV} {e : Nat} {w : Bool} (st : St h L) (t : Take L (VsC v e (cs.map ikey) w) R) : sliceLen v = some cs.length ∧ v.notJunk = some v ∧ okSame v = true := by
  obtain ⟨a, b, c⟩ := St.vs (v := v) st t
  rw [List.length_map] at a
  exact ⟨a, b, c⟩
theorem rc_New {m : Nat} (h1 : m ≤ 4096) : Spec R (.f n_ref11_New) [.int .i64 (m : Nat)] [] fun v Rs => ∃ D, v = .ptr D 0 ∧ Rs = [RcC D (List.replicate m 0)] := by
  refine spec_w (fun _ _ _ x => progI_call rfl rfl x) Njs rfl (fun h F st => ?_); dsimp only [List.cons_append, List.nil_append] at st
  (repeat (first | (show W _ _ _ _ _ _ (.code (cond _ _ _) :: _) _ _; first | refine W.ct ?_ | refine W.cf ?_) | (show W _ _ _ _ _ _ (.ins (cond _ _ _ :: _) :: _) _ _; first | refine W.gt ?_ | refine W.gf ?_) | (show W _ _ _ _ _ _ [] _ _; refine W.of (.done ?_)) | (apply W.of; constructor <;> first | (show W _ _ _ _ _ _ _ _ _) | (intro (al : Nat) h st; show W _ _ _ _ _ _ _ _ _) | (intro _ h st; show W _ _ _ _ _ _ _ _ _) | exact Sd)))
  (repeat (first | (show W _ _ _ _ _ _ (.code (cond _ _ _) :: _) _ _; first | refine W.ct ?_ | refine W.cf ?_) | (show W _ _ _ _ _ _ (.ins (cond _ _ _ :: _) :: _) _ _; first | refine W.gt ?_ | refine W.gf ?_) | (show W _ _ _ _ _ _ [] _ _; refine W.of (.done ?_)) | (apply W.of; constructor <;> first | (show W _ _ _ _ _ _ _ _ _) | (intro (al : Nat) h st; show W _ _ _ _ _ _ _ _ _) | (intro _ h st; show W _ _ _ _ _ _ _ _ _) | exact Sd))); refine W.ef (ho := (e_mkslice (e := 3) (es := 1) (b := 8) (z := .vals [.int .i64 0]) (d := .vals ((List.replicate m (0 : Int)).map ikey)) (l := (m : Nat)) (c := (m : Nat)) st (by omega) (by omega) (by omega) (by omega) rfl (by show Dat.vals (List.replicate m [AV.int .i64 0]).flatten = _; rw [rep_ikey]) (by simp [Dat.len]) rfl)) (w := ?_); rintro vv h ⟨id, rfl, st⟩; refine nj ?_
  rw [Int.toNat_natCast]
  (repeat (first | (show W _ _ _ _ _ _ (.code (cond _ _ _) :: _) _ _; first | refine W.ct ?_ | refine W.cf ?_) | (show W _ _ _ _ _ _ (.ins (cond _ _ _ :: _) :: _) _ _; first | refine W.gt ?_ | refine W.gf ?_) | (show W _ _ _ _ _ _ [] _ _; refine W.of (.done ?_)) | (apply W.of; constructor <;> first | (show W _ _ _ _ _ _ _ _ _) | (intro (al : Nat) h st; show W _ _ _ _ _ _ _ _ _) | (intro _ h st; show W _ _ _ _ _ _ _ _ _) | exact Sd)))
  have st := St.vsRow (l := (List.replicate m (0 : Int)).map ikey) (e := 3) (n := m) st Tk (by simp)
  have st := St.packP (t := 36) (k := .ptr al 0) (P := RcIs al (List.replicate m 0)) (cs := [.pt al (rcRow (.sl id 0 m m)), VsC (.sl id 0 m m) 3 ((List.replicate m (0 : Int)).map ikey) true]) st ⟨_, rfl, by simpa using h1, fun c hc => by rw [(List.mem_replicate.1 hc).2]; decide⟩ Pks
  exact ⟨_, rfl, _, ⟨_, rfl, rfl⟩, st.sel Sels⟩
theorem rc_New_bad {m : Int} (hb : ¬ (0 ≤ m ∧ m ≤ 4096)) : Spec R (.f n_ref11_New) [.int .i64 m] [] fun v Rs => v = .nilptr ∧ Rs = [] := by
  refine spec_w (fun _ _ _ x => progI_call rfl rfl x) Njs rfl (fun h F st => ?_); dsimp only [List.cons_append, List.nil_append] at st
  by_cases h0 : m < 0
  · (repeat (first | (show W _ _ _ _ _ _ (.code (cond _ _ _) :: _) _ _; first | refine W.ct ?_ | refine W.cf ?_) | (show W _ _ _ _ _ _ (.ins (cond _ _ _ :: _) :: _) _ _; first | refine W.gt ?_ | refine W.gf ?_) | (show W _ _ _ _ _ _ [] _ _; refine W.of (.done ?_)) | (apply W.of; constructor <;> first | (show W _ _ _ _ _ _ _ _ _) | (intro (al : Nat) h st; show W _ _ _ _ _ _ _ _ _) | (intro _ h st; show W _ _ _ _ _ _ _ _ _) | exact Sd)))
    exact ⟨_, rfl, _, ⟨rfl, rfl⟩, st⟩
  · (repeat (first | (show W _ _ _ _ _ _ (.code (cond _ _ _) :: _) _ _; first | refine W.ct ?_ | refine W.cf ?_) | (show W _ _ _ _ _ _ (.ins (cond _ _ _ :: _) :: _) _ _; first | refine W.gt ?_ | refine W.gf ?_) | (show W _ _ _ _ _ _ [] _ _; refine W.of (.done ?_)) | (apply W.of; constructor <;> first | (show W _ _ _ _ _ _ _ _ _) | (intro (al : Nat) h st; show W _ _ _ _ _ _ _ _ _) | (intro _ h st; show W _ _ _ _ _ _ _ _ _) | exact Sd)))
    exact ⟨_, rfl, _, ⟨rfl, rfl⟩, st⟩
theorem rc_At {i : Int} : Spec R (.f n_ref11_Counts_At) [.ptr D 0, .int .i64 i] [RcC D cs] fun v Rs => v = .int .i64 (atL cs i) ∧ Rs = [RcC D cs] := by
  refine spec_w (fun _ _ _ x => progI_call rfl rfl x) Njs rfl (fun h F st => ?_); dsimp only [List.cons_append, List.nil_append] at st
  obtain ⟨_, ⟨lv, rfl, hok⟩, st⟩ := St.unpack st; dsimp only [List.cons_append, List.nil_append] at st
  obtain ⟨vl, vj, vs⟩ := St.ivs (v := lv) (cs := cs) st Tk
  have back : ∀ {h : AHeap} {L R : List Chunk}, St h L → Pick L [.pt D (rcRow lv), VsC lv 3 (cs.map ikey) true] R → St h (RcC D cs :: R) := fun st pk => St.packP (t := 36) (k := .ptr D 0) (P := RcIs D cs) st ⟨lv, rfl, hok⟩ pk
  unfold atL
  by_cases h0 : i < 0
  · rw [if_neg (by omega)]
    (repeat (first | (show W _ _ _ _ _ _ (.code (cond _ _ _) :: _) _ _; first | refine W.ct ?_ | refine W.cf ?_) | (show W _ _ _ _ _ _ (.ins (cond _ _ _ :: _) :: _) _ _; first | refine W.gt ?_ | refine W.gf ?_) | (show W _ _ _ _ _ _ [] _ _; refine W.of (.done ?_)) | (apply W.of; constructor <;> first | (show W _ _ _ _ _ _ _ _ _) | (intro (al : Nat) h st; show W _ _ _ _ _ _ _ _ _) | (intro _ h st; show W _ _ _ _ _ _ _ _ _) | exact Sd)))
    exact ⟨_, rfl, _, ⟨rfl, rfl⟩, back st Pks⟩
  · by_cases h1 : i ≥ cs.length
    · rw [if_neg (by omega)]
      (repeat (first | (show W _ _ _ _ _ _ (.code (cond _ _ _) :: _) _ _; first | refine W.ct ?_ | refine W.cf ?_) | (show W _ _ _ _ _ _ (.ins (cond _ _ _ :: _) :: _) _ _; first | refine W.gt ?_ | refine W.gf ?_) | (show W _ _ _ _ _ _ [] _ _; refine W.of (.done ?_)) | (apply W.of; constructor <;> first | (show W _ _ _ _ _ _ _ _ _) | (intro (al : Nat) h st; show W _ _ _ _ _ _ _ _ _) | (intro _ h st; show W _ _ _ _ _ _ _ _ _) | exact Sd)))
      exact ⟨_, rfl, _, ⟨rfl, rfl⟩, back st Pks⟩
    · rw [if_pos (by omega)]
      obtain ⟨j, rfl⟩ : ∃ j : Nat, i = (j : Int) := ⟨i.toNat, by omega⟩
      obtain ⟨c, hc⟩ : ∃ c, cs[j]? = some c := ⟨cs[j]'(by omega), by simp⟩
      obtain ⟨gp, gq⟩ := d_vsIdx (v := lv) (l := cs.map ikey) (i := j) (kk := .i64) st Tk (by rw [List.length_map]; omega)
      (repeat (first | (show W _ _ _ _ _ _ (.code (cond _ _ _) :: _) _ _; first | refine W.ct ?_ | refine W.cf ?_) | (show W _ _ _ _ _ _ (.ins (cond _ _ _ :: _) :: _) _ _; first | refine W.gt ?_ | refine W.gf ?_) | (show W _ _ _ _ _ _ [] _ _; refine W.of (.done ?_)) | (apply W.of; constructor <;> first | (show W _ _ _ _ _ _ _ _ _) | (intro (al : Nat) h st; show W _ _ _ _ _ _ _ _ _) | (intro _ h st; show W _ _ _ _ _ _ _ _ _) | exact Sd))); refine W.do (ho := gp) (w := ?_)
      (repeat (first | (show W _ _ _ _ _ _ (.code (cond _ _ _) :: _) _ _; first | refine W.ct ?_ | refine W.cf ?_) | (show W _ _ _ _ _ _ (.ins (cond _ _ _ :: _) :: _) _ _; first | refine W.gt ?_ | refine W.gf ?_) | (show W _ _ _ _ _ _ [] _ _; refine W.of (.done ?_)) | (apply W.of; constructor <;> first | (show W _ _ _ _ _ _ _ _ _) | (intro (al : Nat) h st; show W _ _ _ _ _ _ _ _ _) | (intro _ h st; show W _ _ _ _ _ _ _ _ _) | exact Sd))); refine W.do (ho := (d_vsLoad (v := lv) (l := cs.map ikey) (x := ikey c) st Tk (by rw [List.getElem?_map, hc]; rfl))) (w := ?_)
      (repeat (first | (show W _ _ _ _ _ _ (.code (cond _ _ _) :: _) _ _; first | refine W.ct ?_ | refine W.cf ?_) | (show W _ _ _ _ _ _ (.ins (cond _ _ _ :: _) :: _) _ _; first | refine W.gt ?_ | refine W.gf ?_) | (show W _ _ _ _ _ _ [] _ _; refine W.of (.done ?_)) | (apply W.of; constructor <;> first | (show W _ _ _ _ _ _ _ _ _) | (intro (al : Nat) h st; show W _ _ _ _ _ _ _ _ _) | (intro _ h st; show W _ _ _ _ _ _ _ _ _) | exact Sd)))
      rw [Int.toNat_natCast, hc]
      exact ⟨_, rfl, _, ⟨rfl, rfl⟩, back st Pks⟩
theorem sum_take (cs : List Int) (h : ∀ c, c ∈ cs → 0 ≤ c ∧ c ≤ 1000000) : 0 ≤ cs.sum ∧ cs.sum ≤ 1000000 * cs.length := by
  induction cs with
  | nil => simp
  | cons c cs ih =>
    obtain ⟨h1, h2⟩ := ih fun x hx => h x (List.mem_cons_of_mem _ hx)
    have := h c List.mem_cons_self
    simp only [List.sum_cons, List.length_cons]
    omega
theorem sum_snoc (cs : List Int) (c : Int) : (cs ++ [c]).sum = cs.sum + c := by simp
set_option maxRecDepth 4000 in
theorem rc_Sum : Spec R (.f n_ref11_Counts_Sum) [.ptr D 0] [RcC D cs] fun v Rs => v = .int .i64 cs.sum ∧ Rs = [RcC D cs] := by
  refine spec_w (fun _ _ _ x => progI_call rfl rfl x) Njs rfl (fun h F st => ?_); dsimp only [List.cons_append, List.nil_append] at st
  obtain ⟨_, ⟨lv, rfl, hok⟩, st⟩ := St.unpack st; dsimp only [List.cons_append, List.nil_append] at st
  obtain ⟨vl, vj, vs⟩ := St.ivs (v := lv) (cs := cs) st Tk
  have hlen := hok.len
  (repeat (first | (show W _ _ _ _ _ _ (.code (cond _ _ _) :: _) _ _; first | refine W.ct ?_ | refine W.cf ?_) | (show W _ _ _ _ _ _ (.ins (cond _ _ _ :: _) :: _) _ _; first | refine W.gt ?_ | refine W.gf ?_) | (show W _ _ _ _ _ _ [] _ _; refine W.of (.done ?_)) | (apply W.of; constructor <;> first | (show W _ _ _ _ _ _ _ _ _) | (intro (al : Nat) h st; show W _ _ _ _ _ _ _ _ _) | (intro _ h st; show W _ _ _ _ _ _ _ _ _) | exact Sd)))
  refine W.loop (fun i : Nat => [(3, .int .i64 (cs.take i).sum), (9, lv), (10, .int .i64 cs.length), (11, .int .i64 i)]) (fun _ => .pt D (rcRow lv) :: VsC lv 3 (cs.map ikey) true :: F) (fun i => i ≤ cs.length) (fun i => cs.length - i) 0 (small_rounds (by omega)) Sbs st (Nat.zero_le _) ?_
  clear st
  intro i h hi st
  by_cases hlt : i < cs.length
  · obtain ⟨c, hc⟩ : ∃ c, cs[i]? = some c := ⟨cs[i], by simp [hlt]⟩
    have hcn := hok.cnt c (List.mem_of_getElem? hc)
    obtain ⟨s1, s2⟩ := sum_take (cs.take i) fun x hx => hok.cnt x (List.mem_of_mem_take hx)
    rw [List.length_take] at s2
    obtain ⟨gp, gq⟩ := d_vsIdx (v := lv) (l := cs.map ikey) (i := i) (kk := .i64) st Tk (by rw [List.length_map]; omega)
    (repeat (first | (show W _ _ _ _ _ _ (.code (cond _ _ _) :: _) _ _; first | refine W.ct ?_ | refine W.cf ?_) | (show W _ _ _ _ _ _ (.ins (cond _ _ _ :: _) :: _) _ _; first | refine W.gt ?_ | refine W.gf ?_) | (show W _ _ _ _ _ _ [] _ _; refine W.of (.done ?_)) | (apply W.of; constructor <;> first | (show W _ _ _ _ _ _ _ _ _) | (intro (al : Nat) h st; show W _ _ _ _ _ _ _ _ _) | (intro _ h st; show W _ _ _ _ _ _ _ _ _) | exact Sd))); refine W.do (ho := gp) (w := ?_)
    (repeat (first | (show W _ _ _ _ _ _ (.code (cond _ _ _) :: _) _ _; first | refine W.ct ?_ | refine W.cf ?_) | (show W _ _ _ _ _ _ (.ins (cond _ _ _ :: _) :: _) _ _; first | refine W.gt ?_ | refine W.gf ?_) | (show W _ _ _ _ _ _ [] _ _; refine W.of (.done ?_)) | (apply W.of; constructor <;> first | (show W _ _ _ _ _ _ _ _ _) | (intro (al : Nat) h st; show W _ _ _ _ _ _ _ _ _) | (intro _ h st; show W _ _ _ _ _ _ _ _ _) | exact Sd))); refine W.do (ho := (d_vsLoad (v := lv) (l := cs.map ikey) (x := ikey c) st Tk (by rw [List.getElem?_map, hc]; rfl))) (w := ?_)
    (repeat (first | (show W _ _ _ _ _ _ (.code (cond _ _ _) :: _) _ _; first | refine W.ct ?_ | refine W.cf ?_) | (show W _ _ _ _ _ _ (.ins (cond _ _ _ :: _) :: _) _ _; first | refine W.gt ?_ | refine W.gf ?_) | (show W _ _ _ _ _ _ [] _ _; refine W.of (.done ?_)) | (apply W.of; constructor <;> first | (show W _ _ _ _ _ _ _ _ _) | (intro (al : Nat) h st; show W _ _ _ _ _ _ _ _ _) | (intro _ h st; show W _ _ _ _ _ _ _ _ _) | exact Sd)))
    rw [← sum_snoc, ← take_snoc1 hc]
    refine W.of (.lp ?_)
    exact ⟨i + 1, by omega, hlt, Sbs, st.sel Sels⟩
  · have e : i = cs.length := by omega
    subst e
    rw [List.take_length]
    (repeat (first | (show W _ _ _ _ _ _ (.code (cond _ _ _) :: _) _ _; first | refine W.ct ?_ | refine W.cf ?_) | (show W _ _ _ _ _ _ (.ins (cond _ _ _ :: _) :: _) _ _; first | refine W.gt ?_ | refine W.gf ?_) | (show W _ _ _ _ _ _ [] _ _; refine W.of (.done ?_)) | (apply W.of; constructor <;> first | (show W _ _ _ _ _ _ _ _ _) | (intro (al : Nat) h st; show W _ _ _ _ _ _ _ _ _) | (intro _ h st; show W _ _ _ _ _ _ _ _ _) | exact Sd)))
    exact ⟨_, rfl, _, ⟨rfl, rfl⟩, St.packP (t := 36) (k := .ptr D 0) (P := RcIs D cs) st ⟨lv, rfl, hok⟩ Pks⟩
/-- each item as a run of its own -/
def unitsR (o : Int) : List Int → List RunV
  | [] => []
  | c :: cs => ⟨o, o + 1, c⟩ :: unitsR (o + 1) cs
theorem unitsR_ok : ∀ {cs : List Int} {o : Int}, Chain o (unitsR o cs) (o + cs.length) ∧ expand (unitsR o cs) = cs
  | [], o => ⟨by simp [unitsR, Chain], rfl⟩
  | c :: cs, o => by
    obtain ⟨h1, h2⟩ := unitsR_ok (cs := cs) (o := o + 1)
    refine ⟨⟨rfl, by simp only; omega, ?_⟩, ?_⟩
    · simp only [List.length_cons]
      rw [show o + ((cs.length + 1 : Nat) : Int) = o + 1 + cs.length by omega]; exact h1
    · rw [unitsR, expand_cons, h2]
      simp only [runX]
      rw [show (o + 1 - o).toNat = 1 by omega]; rfl
theorem unitsR_snoc : ∀ {cs : List Int} {o c : Int}, unitsR o (cs ++ [c]) = unitsR o cs ++ [⟨o + cs.length, o + cs.length + 1, c⟩]
  | [], o, c => by simp [unitsR]
  | d :: cs, o, c => by
    simp only [List.cons_append, unitsR, unitsR_snoc, List.length_cons]
    rw [show o + 1 + (cs.length : Int) = o + ((cs.length + 1 : Nat) : Int) by omega]
/-- the runs of counts -/
def rleL (cs : List Int) : List RunV := joinM (unitsR 0 cs)
theorem rleL_ok : Chain 0 (rleL cs) cs.length ∧ Adj (rleL cs) ∧ expand (rleL cs) = cs := by
  obtain ⟨h1, h2⟩ := unitsR_ok (cs := cs) (o := 0)
  rw [Int.zero_add] at h1
  obtain ⟨j1, j2, j3, _⟩ := joinM_ok h1
  exact ⟨j1, j2, by unfold rleL; rw [j3, h2]⟩
theorem rleL_snoc {c : Int} : rleL (cs ++ [c]) = joinS (rleL cs) ⟨cs.length, cs.length + 1, c⟩ := by
  unfold rleL; rw [unitsR_snoc, joinM_snoc, Int.zero_add]
set_option maxRecDepth 8000 in
theorem rc_Runs : Spec R (.f n_ref11_Counts_Runs) [.ptr D 0] [RcC D cs] fun x Rs => x.notJunk = some x ∧ sliceLen x = some (rleL cs).length ∧ Rs = [RunsC x (rleL cs), RcC D cs] := by
  refine spec_w (fun _ _ _ x => progI_call rfl rfl x) Njs rfl (fun h F st => ?_); dsimp only [List.cons_append, List.nil_append] at st
  obtain ⟨_, ⟨lv, rfl, hok⟩, st⟩ := St.unpack st; dsimp only [List.cons_append, List.nil_append] at st
  obtain ⟨vl, vj, vs⟩ := St.ivs (v := lv) (cs := cs) st Tk
  have hlen := hok.len
  (repeat (first | (show W _ _ _ _ _ _ (.code (cond _ _ _) :: _) _ _; first | refine W.ct ?_ | refine W.cf ?_) | (show W _ _ _ _ _ _ (.ins (cond _ _ _ :: _) :: _) _ _; first | refine W.gt ?_ | refine W.gf ?_) | (show W _ _ _ _ _ _ [] _ _; refine W.of (.done ?_)) | (apply W.of; constructor <;> first | (show W _ _ _ _ _ _ _ _ _) | (intro (al : Nat) h st; show W _ _ _ _ _ _ _ _ _) | (intro _ h st; show W _ _ _ _ _ _ _ _ _) | exact Sd)))
  have st := st.rwNil ty_api_Run 3 RunV.cells true
  refine W.loop (fun y : JoS => [(3, y.out), (10, lv), (11, .int .i64 cs.length), (12, .int .i64 y.i)]) (fun y => RunsC y.out (rleL (cs.take y.i)) :: .pt D (rcRow lv) :: VsC lv 3 (cs.map ikey) true :: F)
    (fun y => y.i ≤ cs.length) (fun y => cs.length - y.i) ⟨0, .nilsl⟩ (small_rounds (by simp only; omega)) Sbs (st.sel Sels) (Nat.zero_le _) ?_
  clear st
  intro ⟨i, out⟩ h hi st
  dsimp only at hi st ⊢
  obtain ⟨ol, oj, os⟩ := St.rw (v := out) (l := rleL (cs.take i)) st Tk
  have hcl := (rleL_ok (cs := cs.take i)).1.le
  rw [List.length_take] at hcl
  by_cases hlt : i < cs.length
  · obtain ⟨c, hc⟩ : ∃ c, cs[i]? = some c := ⟨cs[i], by simp [hlt]⟩
    have ei : (cs.take i).length = i := by rw [List.length_take]; omega
    have ej : rleL (cs.take (i + 1)) = joinS (rleL (cs.take i)) ⟨i, i + 1, c⟩ := by rw [take_snoc1 hc, rleL_snoc, ei]
    obtain ⟨gp, gq⟩ := d_vsIdx (v := lv) (l := cs.map ikey) (i := i) (kk := .i64) st Tk (by rw [List.length_map]; omega)
    (repeat (first | (show W _ _ _ _ _ _ (.code (cond _ _ _) :: _) _ _; first | refine W.ct ?_ | refine W.cf ?_) | (show W _ _ _ _ _ _ (.ins (cond _ _ _ :: _) :: _) _ _; first | refine W.gt ?_ | refine W.gf ?_) | (show W _ _ _ _ _ _ [] _ _; refine W.of (.done ?_)) | (apply W.of; constructor <;> first | (show W _ _ _ _ _ _ _ _ _) | (intro (al : Nat) h st; show W _ _ _ _ _ _ _ _ _) | (intro _ h st; show W _ _ _ _ _ _ _ _ _) | exact Sd))); refine W.do (ho := gp) (w := ?_)
    (repeat (first | (show W _ _ _ _ _ _ (.code (cond _ _ _) :: _) _ _; first | refine W.ct ?_ | refine W.cf ?_) | (show W _ _ _ _ _ _ (.ins (cond _ _ _ :: _) :: _) _ _; first | refine W.gt ?_ | refine W.gf ?_) | (show W _ _ _ _ _ _ [] _ _; refine W.of (.done ?_)) | (apply W.of; constructor <;> first | (show W _ _ _ _ _ _ _ _ _) | (intro (al : Nat) h st; show W _ _ _ _ _ _ _ _ _) | (intro _ h st; show W _ _ _ _ _ _ _ _ _) | exact Sd))); refine W.do (ho := (d_vsLoad (v := lv) (l := cs.map ikey) (x := ikey c) st Tk (by rw [List.getElem?_map, hc]; rfl))) (w := ?_)
    (repeat (first | (show W _ _ _ _ _ _ (.code (cond _ _ _) :: _) _ _; first | refine W.ct ?_ | refine W.cf ?_) | (show W _ _ _ _ _ _ (.ins (cond _ _ _ :: _) :: _) _ _; first | refine W.gt ?_ | refine W.gf ?_) | (show W _ _ _ _ _ _ [] _ _; refine W.of (.done ?_)) | (apply W.of; constructor <;> first | (show W _ _ _ _ _ _ _ _ _) | (intro (al : Nat) h st; show W _ _ _ _ _ _ _ _ _) | (intro _ h st; show W _ _ _ _ _ _ _ _ _) | exact Sd)))
    by_cases h0 : (rleL (cs.take i)).length = 0
    · have e1 : joinS (rleL (cs.take i)) ⟨i, i + 1, c⟩ = rleL (cs.take i) ++ [⟨i, i + 1, c⟩] := by unfold joinS; rw [List.eq_nil_of_length_eq_zero h0]; rfl
      (repeat (first | (show W _ _ _ _ _ _ (.code (cond _ _ _) :: _) _ _; first | refine W.ct ?_ | refine W.cf ?_) | (show W _ _ _ _ _ _ (.ins (cond _ _ _ :: _) :: _) _ _; first | refine W.gt ?_ | refine W.gf ?_) | (show W _ _ _ _ _ _ [] _ _; refine W.of (.done ?_)) | (apply W.of; constructor <;> first | (show W _ _ _ _ _ _ _ _ _) | (intro (al : Nat) h st; show W _ _ _ _ _ _ _ _ _) | (intro _ h st; show W _ _ _ _ _ _ _ _ _) | exact Sd)))
      have st := St.rwRow (e := ty_api_Run) runCL [(⟨i, i + 1, c⟩ : RunV)] st Tk rfl rfl
      (repeat (first | (show W _ _ _ _ _ _ (.code (cond _ _ _) :: _) _ _; first | refine W.ct ?_ | refine W.cf ?_) | (show W _ _ _ _ _ _ (.ins (cond _ _ _ :: _) :: _) _ _; first | refine W.gt ?_ | refine W.gf ?_) | (show W _ _ _ _ _ _ [] _ _; refine W.of (.done ?_)) | (apply W.of; constructor <;> first | (show W _ _ _ _ _ _ _ _ _) | (intro (al : Nat) h st; show W _ _ _ _ _ _ _ _ _) | (intro _ h st; show W _ _ _ _ _ _ _ _ _) | exact Sd))); refine W.ef (ho := (e_rwAppend (s := out) (l' := [(⟨i, i + 1, c⟩ : RunV)]) runCL rfl st Tk Tk (by simp; omega) (by simp; omega))) (w := ?_); rintro vv h ⟨bj, bl, st⟩; refine nj ?_
      (repeat (first | (show W _ _ _ _ _ _ (.code (cond _ _ _) :: _) _ _; first | refine W.ct ?_ | refine W.cf ?_) | (show W _ _ _ _ _ _ (.ins (cond _ _ _ :: _) :: _) _ _; first | refine W.gt ?_ | refine W.gf ?_) | (show W _ _ _ _ _ _ [] _ _; refine W.of (.done ?_)) | (apply W.of; constructor <;> first | (show W _ _ _ _ _ _ _ _ _) | (intro (al : Nat) h st; show W _ _ _ _ _ _ _ _ _) | (intro _ h st; show W _ _ _ _ _ _ _ _ _) | exact Sd)))
      rw [← e1, ← ej] at st
      refine W.of (.lp ?_)
      exact ⟨⟨i + 1, vv⟩, by simp only; omega, hlt, Sbs, st.sel Sels⟩
    · obtain ⟨p, hp⟩ : ∃ p, (rleL (cs.take i))[(rleL (cs.take i)).length - 1]? = some p := ⟨(rleL (cs.take i))[(rleL (cs.take i)).length - 1], by simp⟩
      obtain ⟨fp, fq⟩ := d_rwIdx (v := out) (l := rleL (cs.take i)) (i := (rleL (cs.take i)).length - 1) (kk := .i64) st Tk (by omega)
      rw [show ((((rleL (cs.take i)).length - 1 : Nat)) : Int) = ((rleL (cs.take i)).length : Int) - 1 by omega] at fp
      obtain ⟨xp, xq⟩ := d_rwFld (h := h) (es := 3) (i := (rleL (cs.take i)).length - 1) (o := 2) ol (by omega)
      have hl0 : 0 < (rleL (cs.take i)).length := by omega
      (repeat (first | (show W _ _ _ _ _ _ (.code (cond _ _ _) :: _) _ _; first | refine W.ct ?_ | refine W.cf ?_) | (show W _ _ _ _ _ _ (.ins (cond _ _ _ :: _) :: _) _ _; first | refine W.gt ?_ | refine W.gf ?_) | (show W _ _ _ _ _ _ [] _ _; refine W.of (.done ?_)) | (apply W.of; constructor <;> first | (show W _ _ _ _ _ _ _ _ _) | (intro (al : Nat) h st; show W _ _ _ _ _ _ _ _ _) | (intro _ h st; show W _ _ _ _ _ _ _ _ _) | exact Sd)))
      (repeat (first | (show W _ _ _ _ _ _ (.code (cond _ _ _) :: _) _ _; first | refine W.ct ?_ | refine W.cf ?_) | (show W _ _ _ _ _ _ (.ins (cond _ _ _ :: _) :: _) _ _; first | refine W.gt ?_ | refine W.gf ?_) | (show W _ _ _ _ _ _ [] _ _; refine W.of (.done ?_)) | (apply W.of; constructor <;> first | (show W _ _ _ _ _ _ _ _ _) | (intro (al : Nat) h st; show W _ _ _ _ _ _ _ _ _) | (intro _ h st; show W _ _ _ _ _ _ _ _ _) | exact Sd))); refine W.do (ho := fp) (w := ?_)
      (repeat (first | (show W _ _ _ _ _ _ (.code (cond _ _ _) :: _) _ _; first | refine W.ct ?_ | refine W.cf ?_) | (show W _ _ _ _ _ _ (.ins (cond _ _ _ :: _) :: _) _ _; first | refine W.gt ?_ | refine W.gf ?_) | (show W _ _ _ _ _ _ [] _ _; refine W.of (.done ?_)) | (apply W.of; constructor <;> first | (show W _ _ _ _ _ _ _ _ _) | (intro (al : Nat) h st; show W _ _ _ _ _ _ _ _ _) | (intro _ h st; show W _ _ _ _ _ _ _ _ _) | exact Sd))); refine W.do (ho := xp) (w := ?_)
      (repeat (first | (show W _ _ _ _ _ _ (.code (cond _ _ _) :: _) _ _; first | refine W.ct ?_ | refine W.cf ?_) | (show W _ _ _ _ _ _ (.ins (cond _ _ _ :: _) :: _) _ _; first | refine W.gt ?_ | refine W.gf ?_) | (show W _ _ _ _ _ _ [] _ _; refine W.of (.done ?_)) | (apply W.of; constructor <;> first | (show W _ _ _ _ _ _ _ _ _) | (intro (al : Nat) h st; show W _ _ _ _ _ _ _ _ _) | (intro _ h st; show W _ _ _ _ _ _ _ _ _) | exact Sd))); refine W.do (ho := (d_rwLoadF (o := 2) runCL st Tk hp rfl)) (w := ?_)
      (repeat (first | (show W _ _ _ _ _ _ (.code (cond _ _ _) :: _) _ _; first | refine W.ct ?_ | refine W.cf ?_) | (show W _ _ _ _ _ _ (.ins (cond _ _ _ :: _) :: _) _ _; first | refine W.gt ?_ | refine W.gf ?_) | (show W _ _ _ _ _ _ [] _ _; refine W.of (.done ?_)) | (apply W.of; constructor <;> first | (show W _ _ _ _ _ _ _ _ _) | (intro (al : Nat) h st; show W _ _ _ _ _ _ _ _ _) | (intro _ h st; show W _ _ _ _ _ _ _ _ _) | exact Sd)))
      by_cases hn : p.n = c
      · have e1 : joinS (rleL (cs.take i)) ⟨i, i + 1, c⟩ = (rleL (cs.take i)).set ((rleL (cs.take i)).length - 1) { p with hi := i + 1 } := by unfold joinS; rw [hp]; simp only; rw [if_pos hn]
        (repeat (first | (show W _ _ _ _ _ _ (.code (cond _ _ _) :: _) _ _; first | refine W.ct ?_ | refine W.cf ?_) | (show W _ _ _ _ _ _ (.ins (cond _ _ _ :: _) :: _) _ _; first | refine W.gt ?_ | refine W.gf ?_) | (show W _ _ _ _ _ _ [] _ _; refine W.of (.done ?_)) | (apply W.of; constructor <;> first | (show W _ _ _ _ _ _ _ _ _) | (intro (al : Nat) h st; show W _ _ _ _ _ _ _ _ _) | (intro _ h st; show W _ _ _ _ _ _ _ _ _) | exact Sd)))
        (repeat (first | (show W _ _ _ _ _ _ (.code (cond _ _ _) :: _) _ _; first | refine W.ct ?_ | refine W.cf ?_) | (show W _ _ _ _ _ _ (.ins (cond _ _ _ :: _) :: _) _ _; first | refine W.gt ?_ | refine W.gf ?_) | (show W _ _ _ _ _ _ [] _ _; refine W.of (.done ?_)) | (apply W.of; constructor <;> first | (show W _ _ _ _ _ _ _ _ _) | (intro (al : Nat) h st; show W _ _ _ _ _ _ _ _ _) | (intro _ h st; show W _ _ _ _ _ _ _ _ _) | exact Sd))); refine W.do (ho := fp) (w := ?_)
        obtain ⟨yp, yq⟩ := d_rwFld (h := h) (es := 3) (i := (rleL (cs.take i)).length - 1) (o := 1) ol (by omega)
        (repeat (first | (show W _ _ _ _ _ _ (.code (cond _ _ _) :: _) _ _; first | refine W.ct ?_ | refine W.cf ?_) | (show W _ _ _ _ _ _ (.ins (cond _ _ _ :: _) :: _) _ _; first | refine W.gt ?_ | refine W.gf ?_) | (show W _ _ _ _ _ _ [] _ _; refine W.of (.done ?_)) | (apply W.of; constructor <;> first | (show W _ _ _ _ _ _ _ _ _) | (intro (al : Nat) h st; show W _ _ _ _ _ _ _ _ _) | (intro _ h st; show W _ _ _ _ _ _ _ _ _) | exact Sd))); refine W.do (ho := yp) (w := ?_)
        (repeat (first | (show W _ _ _ _ _ _ (.code (cond _ _ _) :: _) _ _; first | refine W.ct ?_ | refine W.cf ?_) | (show W _ _ _ _ _ _ (.ins (cond _ _ _ :: _) :: _) _ _; first | refine W.gt ?_ | refine W.gf ?_) | (show W _ _ _ _ _ _ [] _ _; refine W.of (.done ?_)) | (apply W.of; constructor <;> first | (show W _ _ _ _ _ _ _ _ _) | (intro (al : Nat) h st; show W _ _ _ _ _ _ _ _ _) | (intro _ h st; show W _ _ _ _ _ _ _ _ _) | exact Sd))); refine W.ef0 (ho := (e_rwStoreF (o := 1) (n := 1) (a' := { p with hi := i + 1 }) (y := [.int .i64 (i + 1)]) runCL st Tk hp rfl rfl (by decide) (by decide) rfl)) (w := ?_); rintro _ h ⟨_, st⟩
        (repeat (first | (show W _ _ _ _ _ _ (.code (cond _ _ _) :: _) _ _; first | refine W.ct ?_ | refine W.cf ?_) | (show W _ _ _ _ _ _ (.ins (cond _ _ _ :: _) :: _) _ _; first | refine W.gt ?_ | refine W.gf ?_) | (show W _ _ _ _ _ _ [] _ _; refine W.of (.done ?_)) | (apply W.of; constructor <;> first | (show W _ _ _ _ _ _ _ _ _) | (intro (al : Nat) h st; show W _ _ _ _ _ _ _ _ _) | (intro _ h st; show W _ _ _ _ _ _ _ _ _) | exact Sd)))
        rw [← e1, ← ej] at st
        refine W.of (.lp ?_)
        exact ⟨⟨i + 1, out⟩, by simp only; omega, hlt, Sbs, st.sel Sels⟩
      · have e1 : joinS (rleL (cs.take i)) ⟨i, i + 1, c⟩ = rleL (cs.take i) ++ [⟨i, i + 1, c⟩] := by unfold joinS; rw [hp]; simp only; rw [if_neg hn]
        (repeat (first | (show W _ _ _ _ _ _ (.code (cond _ _ _) :: _) _ _; first | refine W.ct ?_ | refine W.cf ?_) | (show W _ _ _ _ _ _ (.ins (cond _ _ _ :: _) :: _) _ _; first | refine W.gt ?_ | refine W.gf ?_) | (show W _ _ _ _ _ _ [] _ _; refine W.of (.done ?_)) | (apply W.of; constructor <;> first | (show W _ _ _ _ _ _ _ _ _) | (intro (al : Nat) h st; show W _ _ _ _ _ _ _ _ _) | (intro _ h st; show W _ _ _ _ _ _ _ _ _) | exact Sd)))
        have st := St.rwRow (e := ty_api_Run) runCL [(⟨i, i + 1, c⟩ : RunV)] st Tk rfl rfl
        (repeat (first | (show W _ _ _ _ _ _ (.code (cond _ _ _) :: _) _ _; first | refine W.ct ?_ | refine W.cf ?_) | (show W _ _ _ _ _ _ (.ins (cond _ _ _ :: _) :: _) _ _; first | refine W.gt ?_ | refine W.gf ?_) | (show W _ _ _ _ _ _ [] _ _; refine W.of (.done ?_)) | (apply W.of; constructor <;> first | (show W _ _ _ _ _ _ _ _ _) | (intro (al : Nat) h st; show W _ _ _ _ _ _ _ _ _) | (intro _ h st; show W _ _ _ _ _ _ _ _ _) | exact Sd))); refine W.ef (ho := (e_rwAppend (s := out) (l' := [(⟨i, i + 1, c⟩ : RunV)]) runCL rfl st Tk Tk (by simp; omega) (by simp; omega))) (w := ?_); rintro vv h ⟨bj, bl, st⟩; refine nj ?_
        (repeat (first | (show W _ _ _ _ _ _ (.code (cond _ _ _) :: _) _ _; first | refine W.ct ?_ | refine W.cf ?_) | (show W _ _ _ _ _ _ (.ins (cond _ _ _ :: _) :: _) _ _; first | refine W.gt ?_ | refine W.gf ?_) | (show W _ _ _ _ _ _ [] _ _; refine W.of (.done ?_)) | (apply W.of; constructor <;> first | (show W _ _ _ _ _ _ _ _ _) | (intro (al : Nat) h st; show W _ _ _ _ _ _ _ _ _) | (intro _ h st; show W _ _ _ _ _ _ _ _ _) | exact Sd)))
        rw [← e1, ← ej] at st
        refine W.of (.lp ?_)
        exact ⟨⟨i + 1, vv⟩, by simp only; omega, hlt, Sbs, st.sel Sels⟩
  · have e : i = cs.length := by omega
    subst e
    rw [List.take_length] at st ol
    (repeat (first | (show W _ _ _ _ _ _ (.code (cond _ _ _) :: _) _ _; first | refine W.ct ?_ | refine W.cf ?_) | (show W _ _ _ _ _ _ (.ins (cond _ _ _ :: _) :: _) _ _; first | refine W.gt ?_ | refine W.gf ?_) | (show W _ _ _ _ _ _ [] _ _; refine W.of (.done ?_)) | (apply W.of; constructor <;> first | (show W _ _ _ _ _ _ _ _ _) | (intro (al : Nat) h st; show W _ _ _ _ _ _ _ _ _) | (intro _ h st; show W _ _ _ _ _ _ _ _ _) | exact Sd)))
    have st := St.packP (t := 36) (k := .ptr D 0) (P := RcIs D cs) (cs := [.pt D (rcRow lv), VsC lv 3 (cs.map ikey) true]) st ⟨lv, rfl, hok⟩ Pks
    exact ⟨_, rfl, _, ⟨oj, ol, rfl⟩, st.sel Sels⟩
end Go.Proofs.Ytjdemlagmamlbaa

namespace Go.Proofs.Ytjdemlagmamlbaa
variable {D : Nat} {cs : List Int}
theorem addL_get {lo hi by' : Int} : ∀ {cs : List Int} {o : Int} {i : Nat}, (addL o cs lo hi by')[i]? = cs[i]?.map fun c => if lo ≤ o + i ∧ o + i < hi then c + by' else c
  | [], o, i => by simp [addL]
  | c :: cs, o, 0 => by simp [addL]
  | c :: cs, o, i + 1 => by
    rw [addL, List.getElem?_cons_succ, addL_get, List.getElem?_cons_succ]
    rw [show o + 1 + (i : Int) = o + ((i + 1 : Nat) : Int) by omega]
theorem addL_step {lo by' c : Int} {i : Nat} (hc : cs[i]? = some c) (hl : lo ≤ i) : (addL 0 cs lo i by').set i (c + by') = addL 0 cs lo (i + 1) by' := by
  apply List.ext_getElem?
  intro j
  rw [List.getElem?_set, addL_get, addL_get, addL_length]
  by_cases e : i = j
  · subst e
    rw [if_pos rfl, if_pos (List.getElem?_eq_some_iff.1 hc).1, hc, Option.map_some, if_pos (by omega)]
  · rw [if_neg e]
    congr 1
    funext c
    by_cases h : lo ≤ 0 + (j : Int) ∧ 0 + (j : Int) < i
    · rw [if_pos h, if_pos (by omega)]
    · rw [if_neg h, if_neg (by omega)]
theorem addL_same {lo by' : Int} : addL 0 cs lo lo by' = cs := by
  apply List.ext_getElem?
  intro j
  rw [addL_get]
  cases cs[j]? with
  | none => rfl
  | some c => rw [Option.map_some, if_neg (by omega)]
theorem slc_get {lo hi : Int} {j : Nat} (_ : 0 ≤ lo) (hj : (j : Int) < hi - lo) : (slc cs lo hi)[j]? = cs[lo.toNat + j]? := by
  unfold slc
  rw [List.getElem?_take, if_pos (by omega), List.getElem?_drop]
abbrev raPost (D : Nat) (cs : List Int) (lo hi by' : Int) (r : AV) (Rs : List Chunk) : Prop :=
    (AddOk cs lo hi by' ∧ ∃ gv, r = .tuple [gv, .int .i64 0] ∧ gv.notJunk = some gv ∧ sliceLen gv = some (goneP lo (slc cs lo hi) by').length ∧ Rs = [VsC gv 3 ((goneP lo (slc cs lo hi) by').map ikey) true, RcC D (addL 0 cs lo hi by')]) ∨
    (¬ AddOk cs lo hi by' ∧ r = .tuple [.nilsl, .int .i64 2] ∧ Rs = [RcC D cs])
structure RaS where
  j : Nat
  v : AV
theorem rc_add_cnt (hok : RcOk cs) {lo hi by' : Int} (ha : AddOk cs lo hi by') : RcOk (addL 0 cs lo hi by') := ⟨by rw [addL_length]; exact hok.len, fun c hm => by
  rw [addL_eq ha.l0 ha.le ha.h0] at hm
  rcases List.mem_append.1 hm with hm | hm
  · rcases List.mem_append.1 hm with hm | hm
    · exact hok.cnt c (List.mem_of_mem_take hm)
    · obtain ⟨d, hd, rfl⟩ := List.mem_map.1 hm
      have := ha.ok d hd
      omega
  · exact hok.cnt c (List.mem_of_mem_drop hm)⟩
theorem goneP_snoc {by' o c : Int} {a : List Int} : goneP o (a ++ [c]) by' = goneP o a by' ++ if c ≠ 0 ∧ c + by' = 0 then [o + a.length] else [] := by
  rw [goneP_append]
  congr 1
theorem goneP_len {by' : Int} : ∀ {a : List Int} {o : Int}, (goneP o a by').length ≤ a.length
  | [], _ => Nat.le_refl _
  | c :: a, o => by
    have := goneP_len (by' := by') (a := a) (o := o + 1)
    simp only [goneP]
    split <;> simp <;> omega
set_option maxRecDepth 8000 in
theorem rc_Add {lo hi by' : Int} : Spec R (.f n_ref11_Counts_Add) [.ptr D 0, .int .i64 lo, .int .i64 hi, .int .i64 by'] [RcC D cs] (raPost D cs lo hi by') := by
  refine spec_w (fun _ _ _ x => progI_call rfl rfl x) Njs rfl (fun h F st => ?_); dsimp only [List.cons_append, List.nil_append] at st
  obtain ⟨_, ⟨lv, rfl, hok⟩, st⟩ := St.unpack st; dsimp only [List.cons_append, List.nil_append] at st
  obtain ⟨vl, vj, vs⟩ := St.ivs (v := lv) (cs := cs) st Tk
  have hlen := hok.len
  have back : ∀ {h : AHeap} {L R : List Chunk}, St h L → Pick L [.pt D (rcRow lv), VsC lv 3 (cs.map ikey) true] R → St h (RcC D cs :: R) := fun st pk => St.packP (t := 36) (k := .ptr D 0) (P := RcIs D cs) st ⟨lv, rfl, hok⟩ pk
  by_cases h0 : lo < 0
  · (repeat (first | (show W _ _ _ _ _ _ (.code (cond _ _ _) :: _) _ _; first | refine W.ct ?_ | refine W.cf ?_) | (show W _ _ _ _ _ _ (.ins (cond _ _ _ :: _) :: _) _ _; first | refine W.gt ?_ | refine W.gf ?_) | (show W _ _ _ _ _ _ [] _ _; refine W.of (.done ?_)) | (apply W.of; constructor <;> first | (show W _ _ _ _ _ _ _ _ _) | (intro (al : Nat) h st; show W _ _ _ _ _ _ _ _ _) | (intro _ h st; show W _ _ _ _ _ _ _ _ _) | exact Sd)))
    exact ⟨_, rfl, _, .inr ⟨fun h => by have := h.l0; omega, rfl, rfl⟩, back st Pks⟩
  · by_cases h1 : hi > cs.length
    · (repeat (first | (show W _ _ _ _ _ _ (.code (cond _ _ _) :: _) _ _; first | refine W.ct ?_ | refine W.cf ?_) | (show W _ _ _ _ _ _ (.ins (cond _ _ _ :: _) :: _) _ _; first | refine W.gt ?_ | refine W.gf ?_) | (show W _ _ _ _ _ _ [] _ _; refine W.of (.done ?_)) | (apply W.of; constructor <;> first | (show W _ _ _ _ _ _ _ _ _) | (intro (al : Nat) h st; show W _ _ _ _ _ _ _ _ _) | (intro _ h st; show W _ _ _ _ _ _ _ _ _) | exact Sd)))
      exact ⟨_, rfl, _, .inr ⟨fun h => by have := h.h0; omega, rfl, rfl⟩, back st Pks⟩
    · by_cases h2 : lo > hi
      · (repeat (first | (show W _ _ _ _ _ _ (.code (cond _ _ _) :: _) _ _; first | refine W.ct ?_ | refine W.cf ?_) | (show W _ _ _ _ _ _ (.ins (cond _ _ _ :: _) :: _) _ _; first | refine W.gt ?_ | refine W.gf ?_) | (show W _ _ _ _ _ _ [] _ _; refine W.of (.done ?_)) | (apply W.of; constructor <;> first | (show W _ _ _ _ _ _ _ _ _) | (intro (al : Nat) h st; show W _ _ _ _ _ _ _ _ _) | (intro _ h st; show W _ _ _ _ _ _ _ _ _) | exact Sd)))
        exact ⟨_, rfl, _, .inr ⟨fun h => by have := h.le; omega, rfl, rfl⟩, back st Pks⟩
      · obtain ⟨a, rfl⟩ : ∃ a : Nat, lo = (a : Int) := ⟨lo.toNat, by omega⟩
        obtain ⟨b, rfl⟩ : ∃ b : Nat, hi = (b : Int) := ⟨hi.toNat, by omega⟩
        have hsl := slc_len (cs := cs) (lo := (a : Int)) (hi := (b : Int)) (by omega) (by omega) (by omega)
        (repeat (first | (show W _ _ _ _ _ _ (.code (cond _ _ _) :: _) _ _; first | refine W.ct ?_ | refine W.cf ?_) | (show W _ _ _ _ _ _ (.ins (cond _ _ _ :: _) :: _) _ _; first | refine W.gt ?_ | refine W.gf ?_) | (show W _ _ _ _ _ _ [] _ _; refine W.of (.done ?_)) | (apply W.of; constructor <;> first | (show W _ _ _ _ _ _ _ _ _) | (intro (al : Nat) h st; show W _ _ _ _ _ _ _ _ _) | (intro _ h st; show W _ _ _ _ _ _ _ _ _) | exact Sd)))
        obtain ⟨p, p1, p2, p3, p4⟩ := d_midV (a := a) (b := b) (k := (cs.map ikey).length) (e := 3) (l := cs.map ikey) (v := lv) (kk := .i64) (by omega) (by rw [List.length_map]; omega) st Tk
        (repeat (first | (show W _ _ _ _ _ _ (.code (cond _ _ _) :: _) _ _; first | refine W.ct ?_ | refine W.cf ?_) | (show W _ _ _ _ _ _ (.ins (cond _ _ _ :: _) :: _) _ _; first | refine W.gt ?_ | refine W.gf ?_) | (show W _ _ _ _ _ _ [] _ _; refine W.of (.done ?_)) | (apply W.of; constructor <;> first | (show W _ _ _ _ _ _ _ _ _) | (intro (al : Nat) h st; show W _ _ _ _ _ _ _ _ _) | (intro _ h st; show W _ _ _ _ _ _ _ _ _) | exact Sd))); refine W.do (ho := p1) (w := ?_)
        (repeat (first | (show W _ _ _ _ _ _ (.code (cond _ _ _) :: _) _ _; first | refine W.ct ?_ | refine W.cf ?_) | (show W _ _ _ _ _ _ (.ins (cond _ _ _ :: _) :: _) _ _; first | refine W.gt ?_ | refine W.gf ?_) | (show W _ _ _ _ _ _ [] _ _; refine W.of (.done ?_)) | (apply W.of; constructor <;> first | (show W _ _ _ _ _ _ _ _ _) | (intro (al : Nat) h st; show W _ _ _ _ _ _ _ _ _) | (intro _ h st; show W _ _ _ _ _ _ _ _ _) | exact Sd)))
        refine W.loop (fun i : Nat => [(0, .ptr D 0), (1, .int .i64 a), (2, .int .i64 b), (3, .int .i64 by'), (38, p), (39, .int .i64 (b - a : Nat)), (40, .int .i64 i)]) (fun _ => .pt D (rcRow lv) :: VsC lv 3 (cs.map ikey) true :: F)
          (fun i => i ≤ b - a ∧ okBy by' ((slc cs a b).take i)) (fun i => b - a - i) 0 (small_rounds (by omega)) Sbs st ⟨Nat.zero_le _, fun c hc => by simp at hc⟩ ?_
        clear st
        intro i h ⟨hi, hall⟩ st
        by_cases hlt : i < b - a
        · obtain ⟨c, hc⟩ : ∃ c, cs[a + i]? = some c := ⟨cs[a + i]'(by omega), by simp⟩
          have hsc : (slc cs a b)[i]? = some c := by rw [slc_get (by omega) (by omega), Int.toNat_natCast]; exact hc
          have hcn := hok.cnt c (List.mem_of_getElem? hc)
          obtain ⟨q, q1, q2, q3⟩ := (p4 h _ _ st Tk i (ikey c) hlt (by rw [List.getElem?_map, hc]; rfl)).get
          (repeat (first | (show W _ _ _ _ _ _ (.code (cond _ _ _) :: _) _ _; first | refine W.ct ?_ | refine W.cf ?_) | (show W _ _ _ _ _ _ (.ins (cond _ _ _ :: _) :: _) _ _; first | refine W.gt ?_ | refine W.gf ?_) | (show W _ _ _ _ _ _ [] _ _; refine W.of (.done ?_)) | (apply W.of; constructor <;> first | (show W _ _ _ _ _ _ _ _ _) | (intro (al : Nat) h st; show W _ _ _ _ _ _ _ _ _) | (intro _ h st; show W _ _ _ _ _ _ _ _ _) | exact Sd)))
          (repeat (first | (show W _ _ _ _ _ _ (.code (cond _ _ _) :: _) _ _; first | refine W.ct ?_ | refine W.cf ?_) | (show W _ _ _ _ _ _ (.ins (cond _ _ _ :: _) :: _) _ _; first | refine W.gt ?_ | refine W.gf ?_) | (show W _ _ _ _ _ _ [] _ _; refine W.of (.done ?_)) | (apply W.of; constructor <;> first | (show W _ _ _ _ _ _ _ _ _) | (intro (al : Nat) h st; show W _ _ _ _ _ _ _ _ _) | (intro _ h st; show W _ _ _ _ _ _ _ _ _) | exact Sd))); refine W.do (ho := (q2 .i64)) (w := ?_)
          (repeat (first | (show W _ _ _ _ _ _ (.code (cond _ _ _) :: _) _ _; first | refine W.ct ?_ | refine W.cf ?_) | (show W _ _ _ _ _ _ (.ins (cond _ _ _ :: _) :: _) _ _; first | refine W.gt ?_ | refine W.gf ?_) | (show W _ _ _ _ _ _ [] _ _; refine W.of (.done ?_)) | (apply W.of; constructor <;> first | (show W _ _ _ _ _ _ _ _ _) | (intro (al : Nat) h st; show W _ _ _ _ _ _ _ _ _) | (intro _ h st; show W _ _ _ _ _ _ _ _ _) | exact Sd))); refine W.do (ho := q3) (w := ?_)
          (repeat (first | (show W _ _ _ _ _ _ (.code (cond _ _ _) :: _) _ _; first | refine W.ct ?_ | refine W.cf ?_) | (show W _ _ _ _ _ _ (.ins (cond _ _ _ :: _) :: _) _ _; first | refine W.gt ?_ | refine W.gf ?_) | (show W _ _ _ _ _ _ [] _ _; refine W.of (.done ?_)) | (apply W.of; constructor <;> first | (show W _ _ _ _ _ _ _ _ _) | (intro (al : Nat) h st; show W _ _ _ _ _ _ _ _ _) | (intro _ h st; show W _ _ _ _ _ _ _ _ _) | exact Sd)))
          rw [wrap64 (n := 0 - c) (by omega) (by omega)]
          by_cases hb1 : by' < 0 - c
          · (repeat (first | (show W _ _ _ _ _ _ (.code (cond _ _ _) :: _) _ _; first | refine W.ct ?_ | refine W.cf ?_) | (show W _ _ _ _ _ _ (.ins (cond _ _ _ :: _) :: _) _ _; first | refine W.gt ?_ | refine W.gf ?_) | (show W _ _ _ _ _ _ [] _ _; refine W.of (.done ?_)) | (apply W.of; constructor <;> first | (show W _ _ _ _ _ _ _ _ _) | (intro (al : Nat) h st; show W _ _ _ _ _ _ _ _ _) | (intro _ h st; show W _ _ _ _ _ _ _ _ _) | exact Sd)))
            exact ⟨_, rfl, _, .inr ⟨fun h => by have := h.ok c (List.mem_of_getElem? hsc); omega, rfl, rfl⟩, back st Pks⟩
          · by_cases hb2 : by' > 1000000 - c
            · (repeat (first | (show W _ _ _ _ _ _ (.code (cond _ _ _) :: _) _ _; first | refine W.ct ?_ | refine W.cf ?_) | (show W _ _ _ _ _ _ (.ins (cond _ _ _ :: _) :: _) _ _; first | refine W.gt ?_ | refine W.gf ?_) | (show W _ _ _ _ _ _ [] _ _; refine W.of (.done ?_)) | (apply W.of; constructor <;> first | (show W _ _ _ _ _ _ _ _ _) | (intro (al : Nat) h st; show W _ _ _ _ _ _ _ _ _) | (intro _ h st; show W _ _ _ _ _ _ _ _ _) | exact Sd)))
              exact ⟨_, rfl, _, .inr ⟨fun h => by have := h.ok c (List.mem_of_getElem? hsc); omega, rfl, rfl⟩, back st Pks⟩
            · (repeat (first | (show W _ _ _ _ _ _ (.code (cond _ _ _) :: _) _ _; first | refine W.ct ?_ | refine W.cf ?_) | (show W _ _ _ _ _ _ (.ins (cond _ _ _ :: _) :: _) _ _; first | refine W.gt ?_ | refine W.gf ?_) | (show W _ _ _ _ _ _ [] _ _; refine W.of (.done ?_)) | (apply W.of; constructor <;> first | (show W _ _ _ _ _ _ _ _ _) | (intro (al : Nat) h st; show W _ _ _ _ _ _ _ _ _) | (intro _ h st; show W _ _ _ _ _ _ _ _ _) | exact Sd)))
              refine W.of (.lp ?_)
              refine ⟨i + 1, by omega, ⟨hlt, fun d hd => ?_⟩, Sbs, st.sel Sels⟩
              rw [take_snoc1 hsc] at hd
              rcases List.mem_append.1 hd with hd | hd
              · exact hall d hd
              · rw [List.mem_singleton.1 hd]; omega
        · have e : i = b - a := by omega
          subst e
          rw [List.take_of_length_le (by omega)] at hall
          have ha : AddOk cs a b by' := ⟨by omega, by omega, by omega, hall⟩
          (repeat (first | (show W _ _ _ _ _ _ (.code (cond _ _ _) :: _) _ _; first | refine W.ct ?_ | refine W.cf ?_) | (show W _ _ _ _ _ _ (.ins (cond _ _ _ :: _) :: _) _ _; first | refine W.gt ?_ | refine W.gf ?_) | (show W _ _ _ _ _ _ [] _ _; refine W.of (.done ?_)) | (apply W.of; constructor <;> first | (show W _ _ _ _ _ _ _ _ _) | (intro (al : Nat) h st; show W _ _ _ _ _ _ _ _ _) | (intro _ h st; show W _ _ _ _ _ _ _ _ _) | exact Sd)))
          have st := St.vsRow (l := []) (e := 3) st Tk rfl
          (repeat (first | (show W _ _ _ _ _ _ (.code (cond _ _ _) :: _) _ _; first | refine W.ct ?_ | refine W.cf ?_) | (show W _ _ _ _ _ _ (.ins (cond _ _ _ :: _) :: _) _ _; first | refine W.gt ?_ | refine W.gf ?_) | (show W _ _ _ _ _ _ [] _ _; refine W.of (.done ?_)) | (apply W.of; constructor <;> first | (show W _ _ _ _ _ _ _ _ _) | (intro (al : Nat) h st; show W _ _ _ _ _ _ _ _ _) | (intro _ h st; show W _ _ _ _ _ _ _ _ _) | exact Sd))); refine W.ef (ho := (e_vsAppend (l := []) (l' := cs.map ikey) st Tk Tk (by simp; omega) (by simp; omega))) (w := ?_); rintro vv h ⟨bj, bl, st⟩; refine nj ?_
          obtain ⟨v2, rfl⟩ : ∃ y, y = vv := ⟨_, rfl⟩
          rw [List.nil_append] at st
          have st := st.vsNil 3 true
          (repeat (first | (show W _ _ _ _ _ _ (.code (cond _ _ _) :: _) _ _; first | refine W.ct ?_ | refine W.cf ?_) | (show W _ _ _ _ _ _ (.ins (cond _ _ _ :: _) :: _) _ _; first | refine W.gt ?_ | refine W.gf ?_) | (show W _ _ _ _ _ _ [] _ _; refine W.of (.done ?_)) | (apply W.of; constructor <;> first | (show W _ _ _ _ _ _ _ _ _) | (intro (al : Nat) h st; show W _ _ _ _ _ _ _ _ _) | (intro _ h st; show W _ _ _ _ _ _ _ _ _) | exact Sd)))
          refine W.loop (fun y : RaS => [(0, .ptr D 0), (2, .int .i64 b), (3, .int .i64 by'), (12, v2), (13, y.v), (14, .int .i64 ((a + y.j : Nat) : Int))]) (fun y => VsC v2 3 ((addL 0 cs a ((a + y.j : Nat) : Int) by').map ikey) true :: VsC y.v 3 ((goneP a ((slc cs a b).take y.j) by').map ikey) true :: .pt D (rcRow lv) :: F)
            (fun y => y.j ≤ b - a) (fun y => b - a - y.j) ⟨0, .nilsl⟩ (small_rounds (by simp only; omega)) Sbs ?_ (Nat.zero_le _) ?_
          · dsimp only
            rw [Nat.add_zero, addL_same, List.take_zero]
            exact st.sel Sels
          clear st
          intro ⟨j, gv⟩ h hj st
          dsimp only at hj st ⊢
          have hgl : (goneP a ((slc cs a b).take j) by').length ≤ 4096 := Nat.le_trans goneP_len (by rw [List.length_take]; omega)
          obtain ⟨wl, wj, ws⟩ := St.ivs (v := v2) (cs := addL 0 cs a ((a + j : Nat) : Int) by') st Tk
          obtain ⟨gl, gj, gs⟩ := St.ivs (v := gv) (cs := goneP a ((slc cs a b).take j) by') st Tk
          rw [addL_length] at wl
          by_cases hlt : j < b - a
          · obtain ⟨c, hc⟩ : ∃ c, cs[a + j]? = some c := ⟨cs[a + j]'(by omega), by simp⟩
            have hsc : (slc cs a b)[j]? = some c := by rw [slc_get (by omega) (by omega), Int.toNat_natCast]; exact hc
            have hcn := hok.cnt c (List.mem_of_getElem? hc)
            have hby := hall c (List.mem_of_getElem? hsc)
            have hac : (addL 0 cs a ((a + j : Nat) : Int) by')[a + j]? = some c := by rw [addL_get, hc, Option.map_some, if_neg (by omega)]
            have est := addL_step (lo := (a : Int)) (by' := by') hc (by omega)
            obtain ⟨gp, gq⟩ := d_vsIdx (v := v2) (l := (addL 0 cs a ((a + j : Nat) : Int) by').map ikey) (i := a + j) (kk := .i64) st Tk (by rw [List.length_map, addL_length]; omega)
            have hld := d_vsLoad (v := v2) (l := (addL 0 cs a ((a + j : Nat) : Int) by').map ikey) (x := ikey c) st Tk (by rw [List.getElem?_map, hac]; rfl)
            (repeat (first | (show W _ _ _ _ _ _ (.code (cond _ _ _) :: _) _ _; first | refine W.ct ?_ | refine W.cf ?_) | (show W _ _ _ _ _ _ (.ins (cond _ _ _ :: _) :: _) _ _; first | refine W.gt ?_ | refine W.gf ?_) | (show W _ _ _ _ _ _ [] _ _; refine W.of (.done ?_)) | (apply W.of; constructor <;> first | (show W _ _ _ _ _ _ _ _ _) | (intro (al : Nat) h st; show W _ _ _ _ _ _ _ _ _) | (intro _ h st; show W _ _ _ _ _ _ _ _ _) | exact Sd))); refine W.do (ho := gp) (w := ?_)
            (repeat (first | (show W _ _ _ _ _ _ (.code (cond _ _ _) :: _) _ _; first | refine W.ct ?_ | refine W.cf ?_) | (show W _ _ _ _ _ _ (.ins (cond _ _ _ :: _) :: _) _ _; first | refine W.gt ?_ | refine W.gf ?_) | (show W _ _ _ _ _ _ [] _ _; refine W.of (.done ?_)) | (apply W.of; constructor <;> first | (show W _ _ _ _ _ _ _ _ _) | (intro (al : Nat) h st; show W _ _ _ _ _ _ _ _ _) | (intro _ h st; show W _ _ _ _ _ _ _ _ _) | exact Sd))); refine W.do (ho := hld) (w := ?_)
            (repeat (first | (show W _ _ _ _ _ _ (.code (cond _ _ _) :: _) _ _; first | refine W.ct ?_ | refine W.cf ?_) | (show W _ _ _ _ _ _ (.ins (cond _ _ _ :: _) :: _) _ _; first | refine W.gt ?_ | refine W.gf ?_) | (show W _ _ _ _ _ _ [] _ _; refine W.of (.done ?_)) | (apply W.of; constructor <;> first | (show W _ _ _ _ _ _ _ _ _) | (intro (al : Nat) h st; show W _ _ _ _ _ _ _ _ _) | (intro _ h st; show W _ _ _ _ _ _ _ _ _) | exact Sd))); refine W.do (ho := gp) (w := ?_)
            (repeat (first | (show W _ _ _ _ _ _ (.code (cond _ _ _) :: _) _ _; first | refine W.ct ?_ | refine W.cf ?_) | (show W _ _ _ _ _ _ (.ins (cond _ _ _ :: _) :: _) _ _; first | refine W.gt ?_ | refine W.gf ?_) | (show W _ _ _ _ _ _ [] _ _; refine W.of (.done ?_)) | (apply W.of; constructor <;> first | (show W _ _ _ _ _ _ _ _ _) | (intro (al : Nat) h st; show W _ _ _ _ _ _ _ _ _) | (intro _ h st; show W _ _ _ _ _ _ _ _ _) | exact Sd))); refine W.do (ho := hld) (w := ?_)
            (repeat (first | (show W _ _ _ _ _ _ (.code (cond _ _ _) :: _) _ _; first | refine W.ct ?_ | refine W.cf ?_) | (show W _ _ _ _ _ _ (.ins (cond _ _ _ :: _) :: _) _ _; first | refine W.gt ?_ | refine W.gf ?_) | (show W _ _ _ _ _ _ [] _ _; refine W.of (.done ?_)) | (apply W.of; constructor <;> first | (show W _ _ _ _ _ _ _ _ _) | (intro (al : Nat) h st; show W _ _ _ _ _ _ _ _ _) | (intro _ h st; show W _ _ _ _ _ _ _ _ _) | exact Sd))); refine W.do (ho := gp) (w := ?_)
            (repeat (first | (show W _ _ _ _ _ _ (.code (cond _ _ _) :: _) _ _; first | refine W.ct ?_ | refine W.cf ?_) | (show W _ _ _ _ _ _ (.ins (cond _ _ _ :: _) :: _) _ _; first | refine W.gt ?_ | refine W.gf ?_) | (show W _ _ _ _ _ _ [] _ _; refine W.of (.done ?_)) | (apply W.of; constructor <;> first | (show W _ _ _ _ _ _ _ _ _) | (intro (al : Nat) h st; show W _ _ _ _ _ _ _ _ _) | (intro _ h st; show W _ _ _ _ _ _ _ _ _) | exact Sd))); refine W.ef0 (ho := (e_vsStore (v := v2) (l := (addL 0 cs a ((a + j : Nat) : Int) by').map ikey) (i := a + j) st Tk (by rw [List.length_map, addL_length]; omega) rfl)) (w := ?_); rintro _ h ⟨_, st⟩
            rw [← List.map_set (f := ikey), est, show ((a + j : Nat) : Int) + 1 = ((a + (j + 1) : Nat) : Int) by omega] at st
            have hac2 : (addL 0 cs a ((a + (j + 1) : Nat) : Int) by')[a + j]? = some (c + by') := by rw [addL_get, hc, Option.map_some, if_pos (by omega)]
            have eg : goneP a ((slc cs a b).take (j + 1)) by' = goneP a ((slc cs a b).take j) by' ++ if c ≠ 0 ∧ c + by' = 0 then [(a : Int) + j] else [] := by
              rw [take_snoc1 hsc, goneP_snoc, List.length_take, Nat.min_eq_left (by omega)]
            by_cases hz : c = 0
            · rw [if_neg (by omega), List.append_nil] at eg
              rw [← eg] at st
              (repeat (first | (show W _ _ _ _ _ _ (.code (cond _ _ _) :: _) _ _; first | refine W.ct ?_ | refine W.cf ?_) | (show W _ _ _ _ _ _ (.ins (cond _ _ _ :: _) :: _) _ _; first | refine W.gt ?_ | refine W.gf ?_) | (show W _ _ _ _ _ _ [] _ _; refine W.of (.done ?_)) | (apply W.of; constructor <;> first | (show W _ _ _ _ _ _ _ _ _) | (intro (al : Nat) h st; show W _ _ _ _ _ _ _ _ _) | (intro _ h st; show W _ _ _ _ _ _ _ _ _) | exact Sd)))
              refine W.of (.lp ?_)
              exact ⟨⟨j + 1, gv⟩, by simp only; omega, hlt, ⟨rfl, rfl, rfl, rfl, rfl, by simp only [look]; congr 2, trivial⟩, st.sel Sels⟩
            · obtain ⟨gp2, gq2⟩ := d_vsIdx (v := v2) (l := (addL 0 cs a ((a + (j + 1) : Nat) : Int) by').map ikey) (i := a + j) (kk := .i64) st Tk (by rw [List.length_map, addL_length]; omega)
              (repeat (first | (show W _ _ _ _ _ _ (.code (cond _ _ _) :: _) _ _; first | refine W.ct ?_ | refine W.cf ?_) | (show W _ _ _ _ _ _ (.ins (cond _ _ _ :: _) :: _) _ _; first | refine W.gt ?_ | refine W.gf ?_) | (show W _ _ _ _ _ _ [] _ _; refine W.of (.done ?_)) | (apply W.of; constructor <;> first | (show W _ _ _ _ _ _ _ _ _) | (intro (al : Nat) h st; show W _ _ _ _ _ _ _ _ _) | (intro _ h st; show W _ _ _ _ _ _ _ _ _) | exact Sd)))
              (repeat (first | (show W _ _ _ _ _ _ (.code (cond _ _ _) :: _) _ _; first | refine W.ct ?_ | refine W.cf ?_) | (show W _ _ _ _ _ _ (.ins (cond _ _ _ :: _) :: _) _ _; first | refine W.gt ?_ | refine W.gf ?_) | (show W _ _ _ _ _ _ [] _ _; refine W.of (.done ?_)) | (apply W.of; constructor <;> first | (show W _ _ _ _ _ _ _ _ _) | (intro (al : Nat) h st; show W _ _ _ _ _ _ _ _ _) | (intro _ h st; show W _ _ _ _ _ _ _ _ _) | exact Sd))); refine W.do (ho := gp2) (w := ?_)
              (repeat (first | (show W _ _ _ _ _ _ (.code (cond _ _ _) :: _) _ _; first | refine W.ct ?_ | refine W.cf ?_) | (show W _ _ _ _ _ _ (.ins (cond _ _ _ :: _) :: _) _ _; first | refine W.gt ?_ | refine W.gf ?_) | (show W _ _ _ _ _ _ [] _ _; refine W.of (.done ?_)) | (apply W.of; constructor <;> first | (show W _ _ _ _ _ _ _ _ _) | (intro (al : Nat) h st; show W _ _ _ _ _ _ _ _ _) | (intro _ h st; show W _ _ _ _ _ _ _ _ _) | exact Sd))); refine W.do (ho := (d_vsLoad (v := v2) (l := (addL 0 cs a ((a + (j + 1) : Nat) : Int) by').map ikey) (x := ikey (c + by')) st Tk (by rw [List.getElem?_map, hac2]; rfl))) (w := ?_)
              (repeat (first | (show W _ _ _ _ _ _ (.code (cond _ _ _) :: _) _ _; first | refine W.ct ?_ | refine W.cf ?_) | (show W _ _ _ _ _ _ (.ins (cond _ _ _ :: _) :: _) _ _; first | refine W.gt ?_ | refine W.gf ?_) | (show W _ _ _ _ _ _ [] _ _; refine W.of (.done ?_)) | (apply W.of; constructor <;> first | (show W _ _ _ _ _ _ _ _ _) | (intro (al : Nat) h st; show W _ _ _ _ _ _ _ _ _) | (intro _ h st; show W _ _ _ _ _ _ _ _ _) | exact Sd)))
              by_cases hz2 : c + by' = 0
              · rw [if_pos ⟨hz, hz2⟩] at eg
                (repeat (first | (show W _ _ _ _ _ _ (.code (cond _ _ _) :: _) _ _; first | refine W.ct ?_ | refine W.cf ?_) | (show W _ _ _ _ _ _ (.ins (cond _ _ _ :: _) :: _) _ _; first | refine W.gt ?_ | refine W.gf ?_) | (show W _ _ _ _ _ _ [] _ _; refine W.of (.done ?_)) | (apply W.of; constructor <;> first | (show W _ _ _ _ _ _ _ _ _) | (intro (al : Nat) h st; show W _ _ _ _ _ _ _ _ _) | (intro _ h st; show W _ _ _ _ _ _ _ _ _) | exact Sd)))
                have st := St.vsRow (l := [.int .i64 ((a + j : Nat) : Int)]) (e := 3) st Tk rfl
                (repeat (first | (show W _ _ _ _ _ _ (.code (cond _ _ _) :: _) _ _; first | refine W.ct ?_ | refine W.cf ?_) | (show W _ _ _ _ _ _ (.ins (cond _ _ _ :: _) :: _) _ _; first | refine W.gt ?_ | refine W.gf ?_) | (show W _ _ _ _ _ _ [] _ _; refine W.of (.done ?_)) | (apply W.of; constructor <;> first | (show W _ _ _ _ _ _ _ _ _) | (intro (al : Nat) h st; show W _ _ _ _ _ _ _ _ _) | (intro _ h st; show W _ _ _ _ _ _ _ _ _) | exact Sd))); refine W.ef (ho := (e_vsAppend (s := gv) (l' := [.int .i64 ((a + j : Nat) : Int)]) st Tk Tk (by simp; omega) (by simp; omega))) (w := ?_); rintro vv h ⟨cj, cl, st⟩; refine nj ?_
                rw [show (goneP a ((slc cs a b).take j) by').map ikey ++ [.int .i64 ((a + j : Nat) : Int)] = (goneP a ((slc cs a b).take (j + 1)) by').map ikey by rw [eg, List.map_append]; rfl] at st
                (repeat (first | (show W _ _ _ _ _ _ (.code (cond _ _ _) :: _) _ _; first | refine W.ct ?_ | refine W.cf ?_) | (show W _ _ _ _ _ _ (.ins (cond _ _ _ :: _) :: _) _ _; first | refine W.gt ?_ | refine W.gf ?_) | (show W _ _ _ _ _ _ [] _ _; refine W.of (.done ?_)) | (apply W.of; constructor <;> first | (show W _ _ _ _ _ _ _ _ _) | (intro (al : Nat) h st; show W _ _ _ _ _ _ _ _ _) | (intro _ h st; show W _ _ _ _ _ _ _ _ _) | exact Sd)))
                refine W.of (.lp ?_)
                exact ⟨⟨j + 1, vv⟩, by simp only; omega, hlt, ⟨rfl, rfl, rfl, rfl, rfl, by simp only [look]; congr 2, trivial⟩, st.sel Sels⟩
              · rw [if_neg (by omega), List.append_nil] at eg
                rw [← eg] at st
                (repeat (first | (show W _ _ _ _ _ _ (.code (cond _ _ _) :: _) _ _; first | refine W.ct ?_ | refine W.cf ?_) | (show W _ _ _ _ _ _ (.ins (cond _ _ _ :: _) :: _) _ _; first | refine W.gt ?_ | refine W.gf ?_) | (show W _ _ _ _ _ _ [] _ _; refine W.of (.done ?_)) | (apply W.of; constructor <;> first | (show W _ _ _ _ _ _ _ _ _) | (intro (al : Nat) h st; show W _ _ _ _ _ _ _ _ _) | (intro _ h st; show W _ _ _ _ _ _ _ _ _) | exact Sd)))
                refine W.of (.lp ?_)
                exact ⟨⟨j + 1, gv⟩, by simp only; omega, hlt, ⟨rfl, rfl, rfl, rfl, rfl, by simp only [look]; congr 2, trivial⟩, st.sel Sels⟩
          · have e : j = b - a := by omega
            subst e
            rw [List.take_of_length_le (by omega)] at st gl
            rw [show ((a + (b - a) : Nat) : Int) = (b : Int) by omega] at st ⊢
            (repeat (first | (show W _ _ _ _ _ _ (.code (cond _ _ _) :: _) _ _; first | refine W.ct ?_ | refine W.cf ?_) | (show W _ _ _ _ _ _ (.ins (cond _ _ _ :: _) :: _) _ _; first | refine W.gt ?_ | refine W.gf ?_) | (show W _ _ _ _ _ _ [] _ _; refine W.of (.done ?_)) | (apply W.of; constructor <;> first | (show W _ _ _ _ _ _ _ _ _) | (intro (al : Nat) h st; show W _ _ _ _ _ _ _ _ _) | (intro _ h st; show W _ _ _ _ _ _ _ _ _) | exact Sd)))
            (repeat (first | (show W _ _ _ _ _ _ (.code (cond _ _ _) :: _) _ _; first | refine W.ct ?_ | refine W.cf ?_) | (show W _ _ _ _ _ _ (.ins (cond _ _ _ :: _) :: _) _ _; first | refine W.gt ?_ | refine W.gf ?_) | (show W _ _ _ _ _ _ [] _ _; refine W.of (.done ?_)) | (apply W.of; constructor <;> first | (show W _ _ _ _ _ _ _ _ _) | (intro (al : Nat) h st; show W _ _ _ _ _ _ _ _ _) | (intro _ h st; show W _ _ _ _ _ _ _ _ _) | exact Sd))); refine W.ef0 (ho := (e_storeV (i := 0) st Tk rfl (by simp) (sl_dat wl))) (w := ?_); rintro _ h ⟨_, st⟩
            (repeat (first | (show W _ _ _ _ _ _ (.code (cond _ _ _) :: _) _ _; first | refine W.ct ?_ | refine W.cf ?_) | (show W _ _ _ _ _ _ (.ins (cond _ _ _ :: _) :: _) _ _; first | refine W.gt ?_ | refine W.gf ?_) | (show W _ _ _ _ _ _ [] _ _; refine W.of (.done ?_)) | (apply W.of; constructor <;> first | (show W _ _ _ _ _ _ _ _ _) | (intro (al : Nat) h st; show W _ _ _ _ _ _ _ _ _) | (intro _ h st; show W _ _ _ _ _ _ _ _ _) | exact Sd)))
            have st := St.packP (t := 36) (k := .ptr D 0) (P := RcIs D (addL 0 cs a b by')) (cs := [.pt D (rcRow v2), VsC v2 3 ((addL 0 cs a b by').map ikey) true]) st ⟨v2, rfl, rc_add_cnt hok ha⟩ Pks
            exact ⟨_, rfl, _, .inl ⟨ha, gv, rfl, gj, gl, rfl⟩, st.sel Sels⟩
end Go.Proofs.Ytjdemlagmamlbaa

namespace Go.Proofs.Ytjdemlagmamlbaa
variable {D : Nat} {cs : List Int}
set_option maxRecDepth 4000 in
theorem rc_Grow {m : Int} : Spec R (.f n_ref11_Counts_Grow) [.ptr D 0, .int .i64 m] [RcC D cs] fun v Rs =>
    (((cs.length : Int) ≤ m ∧ m ≤ 4096) ∧ v = .int .i64 0 ∧ Rs = [RcC D (cs ++ List.replicate (m - cs.length).toNat 0)]) ∨ (¬ ((cs.length : Int) ≤ m ∧ m ≤ 4096) ∧ v = .int .i64 2 ∧ Rs = [RcC D cs]) := by
  refine spec_w (fun _ _ _ x => progI_call rfl rfl x) Njs rfl (fun h F st => ?_); dsimp only [List.cons_append, List.nil_append] at st
  obtain ⟨_, ⟨lv, rfl, hok⟩, st⟩ := St.unpack st; dsimp only [List.cons_append, List.nil_append] at st
  obtain ⟨vl, vj, vs⟩ := St.ivs (v := lv) (cs := cs) st Tk
  have hlen := hok.len
  have back : ∀ {h : AHeap} {L R : List Chunk}, St h L → Pick L [.pt D (rcRow lv), VsC lv 3 (cs.map ikey) true] R → St h (RcC D cs :: R) := fun st pk => St.packP (t := 36) (k := .ptr D 0) (P := RcIs D cs) st ⟨lv, rfl, hok⟩ pk
  by_cases h0 : m < cs.length
  · (repeat (first | (show W _ _ _ _ _ _ (.code (cond _ _ _) :: _) _ _; first | refine W.ct ?_ | refine W.cf ?_) | (show W _ _ _ _ _ _ (.ins (cond _ _ _ :: _) :: _) _ _; first | refine W.gt ?_ | refine W.gf ?_) | (show W _ _ _ _ _ _ [] _ _; refine W.of (.done ?_)) | (apply W.of; constructor <;> first | (show W _ _ _ _ _ _ _ _ _) | (intro (al : Nat) h st; show W _ _ _ _ _ _ _ _ _) | (intro _ h st; show W _ _ _ _ _ _ _ _ _) | exact Sd)))
    exact ⟨_, rfl, _, .inr ⟨by omega, rfl, rfl⟩, back st Pks⟩
  · by_cases h1 : m > 4096
    · (repeat (first | (show W _ _ _ _ _ _ (.code (cond _ _ _) :: _) _ _; first | refine W.ct ?_ | refine W.cf ?_) | (show W _ _ _ _ _ _ (.ins (cond _ _ _ :: _) :: _) _ _; first | refine W.gt ?_ | refine W.gf ?_) | (show W _ _ _ _ _ _ [] _ _; refine W.of (.done ?_)) | (apply W.of; constructor <;> first | (show W _ _ _ _ _ _ _ _ _) | (intro (al : Nat) h st; show W _ _ _ _ _ _ _ _ _) | (intro _ h st; show W _ _ _ _ _ _ _ _ _) | exact Sd)))
      exact ⟨_, rfl, _, .inr ⟨by omega, rfl, rfl⟩, back st Pks⟩
    · obtain ⟨n, hn⟩ : ∃ n : Nat, m - cs.length = (n : Int) := ⟨(m - cs.length).toNat, by omega⟩
      (repeat (first | (show W _ _ _ _ _ _ (.code (cond _ _ _) :: _) _ _; first | refine W.ct ?_ | refine W.cf ?_) | (show W _ _ _ _ _ _ (.ins (cond _ _ _ :: _) :: _) _ _; first | refine W.gt ?_ | refine W.gf ?_) | (show W _ _ _ _ _ _ [] _ _; refine W.of (.done ?_)) | (apply W.of; constructor <;> first | (show W _ _ _ _ _ _ _ _ _) | (intro (al : Nat) h st; show W _ _ _ _ _ _ _ _ _) | (intro _ h st; show W _ _ _ _ _ _ _ _ _) | exact Sd)))
      have st := St.vsRow (l := []) (e := 3) st Tk rfl
      (repeat (first | (show W _ _ _ _ _ _ (.code (cond _ _ _) :: _) _ _; first | refine W.ct ?_ | refine W.cf ?_) | (show W _ _ _ _ _ _ (.ins (cond _ _ _ :: _) :: _) _ _; first | refine W.gt ?_ | refine W.gf ?_) | (show W _ _ _ _ _ _ [] _ _; refine W.of (.done ?_)) | (apply W.of; constructor <;> first | (show W _ _ _ _ _ _ _ _ _) | (intro (al : Nat) h st; show W _ _ _ _ _ _ _ _ _) | (intro _ h st; show W _ _ _ _ _ _ _ _ _) | exact Sd))); refine W.ef (ho := (e_vsAppend (l := []) (l' := cs.map ikey) st Tk Tk (by simp; omega) (by simp; omega))) (w := ?_); rintro vv h ⟨bj, bl, st⟩; refine nj ?_
      obtain ⟨v2, rfl⟩ : ∃ y, y = vv := ⟨_, rfl⟩
      rw [List.nil_append] at st
      rw [hn]
      (repeat (first | (show W _ _ _ _ _ _ (.code (cond _ _ _) :: _) _ _; first | refine W.ct ?_ | refine W.cf ?_) | (show W _ _ _ _ _ _ (.ins (cond _ _ _ :: _) :: _) _ _; first | refine W.gt ?_ | refine W.gf ?_) | (show W _ _ _ _ _ _ [] _ _; refine W.of (.done ?_)) | (apply W.of; constructor <;> first | (show W _ _ _ _ _ _ _ _ _) | (intro (al : Nat) h st; show W _ _ _ _ _ _ _ _ _) | (intro _ h st; show W _ _ _ _ _ _ _ _ _) | exact Sd))); refine W.ef (ho := (e_appendz (s := v2) (k := (cs.map ikey).length) (l := cs.map ikey) (n := n) (c := [.int .i64 0]) st Tk (by simp) rfl (by simp; omega) (by simp; omega) rfl)) (w := ?_); rintro vv h ⟨cj, cl, st⟩; refine nj ?_
      obtain ⟨v3, rfl⟩ : ∃ y, y = vv := ⟨_, rfl⟩
      (repeat (first | (show W _ _ _ _ _ _ (.code (cond _ _ _) :: _) _ _; first | refine W.ct ?_ | refine W.cf ?_) | (show W _ _ _ _ _ _ (.ins (cond _ _ _ :: _) :: _) _ _; first | refine W.gt ?_ | refine W.gf ?_) | (show W _ _ _ _ _ _ [] _ _; refine W.of (.done ?_)) | (apply W.of; constructor <;> first | (show W _ _ _ _ _ _ _ _ _) | (intro (al : Nat) h st; show W _ _ _ _ _ _ _ _ _) | (intro _ h st; show W _ _ _ _ _ _ _ _ _) | exact Sd))); refine W.ef0 (ho := (e_storeV (i := 0) st Tk rfl (by simp) (sl_dat cl))) (w := ?_); rintro _ h ⟨_, st⟩
      (repeat (first | (show W _ _ _ _ _ _ (.code (cond _ _ _) :: _) _ _; first | refine W.ct ?_ | refine W.cf ?_) | (show W _ _ _ _ _ _ (.ins (cond _ _ _ :: _) :: _) _ _; first | refine W.gt ?_ | refine W.gf ?_) | (show W _ _ _ _ _ _ [] _ _; refine W.of (.done ?_)) | (apply W.of; constructor <;> first | (show W _ _ _ _ _ _ _ _ _) | (intro (al : Nat) h st; show W _ _ _ _ _ _ _ _ _) | (intro _ h st; show W _ _ _ _ _ _ _ _ _) | exact Sd)))
      have em : cs.map ikey ++ (List.replicate n [AV.int .i64 0]).flatten = (cs ++ List.replicate n 0).map ikey := by rw [rep_ikey, List.map_append]
      rw [em] at st
      have st : St h (VsC v3 3 ((cs ++ List.replicate n 0).map ikey) true :: .pt D (rcRow v3) :: F) := by
        show St h (SlC v3 3 1 ((cs ++ List.replicate n 0).map ikey).length (.vals ((cs ++ List.replicate n 0).map ikey)) true :: _)
        have e3 : ((cs ++ List.replicate n (0 : Int)).map ikey).length = (cs.map ikey).length + n := by simp
        rw [e3]
        exact st.sel Sels
      have hok2 : RcOk (cs ++ List.replicate n 0) := ⟨by simp; omega, fun c hc => by
        rcases List.mem_append.1 hc with hc | hc
        · exact hok.cnt c hc
        · rw [(List.mem_replicate.1 hc).2]; decide⟩
      have st := St.packP (t := 36) (k := .ptr D 0) (P := RcIs D (cs ++ List.replicate n 0)) (cs := [.pt D (rcRow v3), VsC v3 3 ((cs ++ List.replicate n 0).map ikey) true]) st ⟨v3, rfl, hok2⟩ Pks
      exact ⟨_, rfl, [RcC D (cs ++ List.replicate n 0)], .inl ⟨by omega, rfl, by rw [Int.toNat_natCast]⟩, st⟩
theorem rc_Grow_bad {m : Int} (hb : ¬ ((cs.length : Int) ≤ m ∧ m ≤ 4096)) : Spec R (.f n_ref11_Counts_Grow) [.ptr D 0, .int .i64 m] [RcC D cs] fun v Rs => v = .int .i64 2 ∧ Rs = [RcC D cs] :=
  rc_Grow.mono progI_mono fun v Rs h => by
    rcases h with ⟨h, _⟩ | ⟨_, h⟩
    · exact absurd h hb
    · exact h
theorem rc_Add_bad {lo hi by' : Int} (hb : ¬ AddOk cs lo hi by') : Spec R (.f n_ref11_Counts_Add) [.ptr D 0, .int .i64 lo, .int .i64 hi, .int .i64 by'] [RcC D cs] fun r Rs => r = .tuple [.nilsl, .int .i64 2] ∧ Rs = [RcC D cs] :=
  rc_Add.mono progI_mono fun v Rs h => by
    rcases h with ⟨h, _⟩ | ⟨_, h⟩
    · exact absurd h hb
    · exact h
structure SaS where
  i : Nat
  l : List RunV
  n : Int
  cs : List Int
structure SaOk (l : List RunV) (n : Int) (cs : List Int) : Prop where
  e : expand l = cs
  n : (cs.length : Int) = n
abbrev saE (D E : Nat) (v : AV) (acts : List ActP) (i : Nat) : Env := [(5, .ptr D 0), (6, .ptr E 0), (30, v), (31, .int .i64 acts.length), (32, .int .i64 i)]
abbrev saG (D E : Nat) (v : AV) (acts : List ActP) (F : List Chunk) (y : SaS) : List Chunk := CntC D y.l y.n :: RcC E y.cs :: ActPC v acts :: F
abbrev saJ (D E : Nat) (v : AV) (acts : List ActP) (F : List Chunk) (i : Nat) : Env → AHeap → Prop := fun s' h' => ∃ z : SaS, acts.length - z.i < acts.length - i ∧ (z.i ≤ acts.length ∧ SaOk z.l z.n z.cs) ∧ Sub (saE D E v acts z.i) s' ∧ St h' (saG D E v acts F z)
def saTail : ACode := sR (sR (bB (sL (sR (sR c_law11_SpreadActs_L0)))))
set_option maxRecDepth 8000 in
theorem sa_tail {D E V i : Nat} {v : AV} {acts : List ActP} {F : List Chunk} {Q : AExit → Env → AHeap → Prop} {k : List KI} {h : AHeap} {l : List RunV} {n : Int} {cs : List Int} {a : ActP} (hlt : i < acts.length) (h60 : acts.length ≤ 60) (hs : SaOk l n cs)
    (st : St h (CntC D l n :: RcC E cs :: .pt V (actRowP a) :: ActPC v acts :: F)) :
    W over tab none c_law11_SpreadActs.ntmps Q .normal (.ins [I 83 (.load1) [T 82]] :: .ag [] :: .dis (List.drop 5 ((dr (sL saTail)).headD [])) :: .code (sR saTail) :: .blk 1 :: .code (sR (sR (sR c_law11_SpreadActs_L0))) :: .lp (saJ D E v acts F i) :: k) ((8, .ptr V 0) :: (78, .ptr D 0) :: (80, .ptr E 0) :: (82, .ptr E 0) :: saE D E v acts i) h := by
  obtain ⟨he, hn⟩ := hs
  have hk := st.cnt (l := l) Tk
  have hlen := hk.len
  have st := st.take (c := RcC E cs) Tk
  obtain ⟨_, ⟨lv, rfl, hok⟩, st⟩ := St.unpack st; dsimp only [List.cons_append, List.nil_append] at st
  obtain ⟨vl, vj, vs⟩ := St.ivs (v := lv) (cs := cs) st Tk
  (repeat (first | (show W _ _ _ _ _ _ (.code (cond _ _ _) :: _) _ _; first | refine W.ct ?_ | refine W.cf ?_) | (show W _ _ _ _ _ _ (.ins (cond _ _ _ :: _) :: _) _ _; first | refine W.gt ?_ | refine W.gf ?_) | (show W _ _ _ _ _ _ [] _ _; refine W.of (.done ?_)) | (apply W.of; constructor <;> first | (show W _ _ _ _ _ _ _ _ _) | (intro (al : Nat) h st; show W _ _ _ _ _ _ _ _ _) | (intro _ h st; show W _ _ _ _ _ _ _ _ _) | exact Sd))); refine W.call (hs := (cnt_Len (l := l))) (w := ?_); rintro vv _ ⟨rfl, rfl⟩ h st; refine nj ?_; dsimp only [List.cons_append, List.nil_append] at st
  (repeat (first | (show W _ _ _ _ _ _ (.code (cond _ _ _) :: _) _ _; first | refine W.ct ?_ | refine W.cf ?_) | (show W _ _ _ _ _ _ (.ins (cond _ _ _ :: _) :: _) _ _; first | refine W.gt ?_ | refine W.gf ?_) | (show W _ _ _ _ _ _ [] _ _; refine W.of (.done ?_)) | (apply W.of; constructor <;> first | (show W _ _ _ _ _ _ _ _ _) | (intro (al : Nat) h st; show W _ _ _ _ _ _ _ _ _) | (intro _ h st; show W _ _ _ _ _ _ _ _ _) | exact Sd)))
  have hnn : (n != (cs.length : Int)) = false := by rw [hn]; exact neqS n
  rw [hnn]
  have st := St.packP (t := 36) (k := .ptr E 0) (P := RcIs E cs) st ⟨lv, rfl, hok⟩ Pks
  (repeat (first | (show W _ _ _ _ _ _ (.code (cond _ _ _) :: _) _ _; first | refine W.ct ?_ | refine W.cf ?_) | (show W _ _ _ _ _ _ (.ins (cond _ _ _ :: _) :: _) _ _; first | refine W.gt ?_ | refine W.gf ?_) | (show W _ _ _ _ _ _ [] _ _; refine W.of (.done ?_)) | (apply W.of; constructor <;> first | (show W _ _ _ _ _ _ _ _ _) | (intro (al : Nat) h st; show W _ _ _ _ _ _ _ _ _) | (intro _ h st; show W _ _ _ _ _ _ _ _ _) | exact Sd))); refine W.call (hs := (cnt_At (l := l))) (w := ?_); rintro vv _ ⟨rfl, rfl⟩ h st; refine nj ?_; dsimp only [List.cons_append, List.nil_append] at st
  (repeat (first | (show W _ _ _ _ _ _ (.code (cond _ _ _) :: _) _ _; first | refine W.ct ?_ | refine W.cf ?_) | (show W _ _ _ _ _ _ (.ins (cond _ _ _ :: _) :: _) _ _; first | refine W.gt ?_ | refine W.gf ?_) | (show W _ _ _ _ _ _ [] _ _; refine W.of (.done ?_)) | (apply W.of; constructor <;> first | (show W _ _ _ _ _ _ _ _ _) | (intro (al : Nat) h st; show W _ _ _ _ _ _ _ _ _) | (intro _ h st; show W _ _ _ _ _ _ _ _ _) | exact Sd))); refine W.call (hs := rc_At) (w := ?_); rintro vv _ ⟨rfl, rfl⟩ h st; refine nj ?_; dsimp only [List.cons_append, List.nil_append] at st
  rw [he]
  (repeat (first | (show W _ _ _ _ _ _ (.code (cond _ _ _) :: _) _ _; first | refine W.ct ?_ | refine W.cf ?_) | (show W _ _ _ _ _ _ (.ins (cond _ _ _ :: _) :: _) _ _; first | refine W.gt ?_ | refine W.gf ?_) | (show W _ _ _ _ _ _ [] _ _; refine W.of (.done ?_)) | (apply W.of; constructor <;> first | (show W _ _ _ _ _ _ _ _ _) | (intro (al : Nat) h st; show W _ _ _ _ _ _ _ _ _) | (intro _ h st; show W _ _ _ _ _ _ _ _ _) | exact Sd)))
  rw [neqS]
  (repeat (first | (show W _ _ _ _ _ _ (.code (cond _ _ _) :: _) _ _; first | refine W.ct ?_ | refine W.cf ?_) | (show W _ _ _ _ _ _ (.ins (cond _ _ _ :: _) :: _) _ _; first | refine W.gt ?_ | refine W.gf ?_) | (show W _ _ _ _ _ _ [] _ _; refine W.of (.done ?_)) | (apply W.of; constructor <;> first | (show W _ _ _ _ _ _ _ _ _) | (intro (al : Nat) h st; show W _ _ _ _ _ _ _ _ _) | (intro _ h st; show W _ _ _ _ _ _ _ _ _) | exact Sd))); refine W.call (hs := (cnt_Sum (l := l))) (w := ?_); rintro vv _ ⟨rfl, rfl⟩ h st; refine nj ?_; dsimp only [List.cons_append, List.nil_append] at st
  (repeat (first | (show W _ _ _ _ _ _ (.code (cond _ _ _) :: _) _ _; first | refine W.ct ?_ | refine W.cf ?_) | (show W _ _ _ _ _ _ (.ins (cond _ _ _ :: _) :: _) _ _; first | refine W.gt ?_ | refine W.gf ?_) | (show W _ _ _ _ _ _ [] _ _; refine W.of (.done ?_)) | (apply W.of; constructor <;> first | (show W _ _ _ _ _ _ _ _ _) | (intro (al : Nat) h st; show W _ _ _ _ _ _ _ _ _) | (intro _ h st; show W _ _ _ _ _ _ _ _ _) | exact Sd))); refine W.call (hs := rc_Sum) (w := ?_); rintro vv _ ⟨rfl, rfl⟩ h st; refine nj ?_; dsimp only [List.cons_append, List.nil_append] at st
  rw [he]
  (repeat (first | (show W _ _ _ _ _ _ (.code (cond _ _ _) :: _) _ _; first | refine W.ct ?_ | refine W.cf ?_) | (show W _ _ _ _ _ _ (.ins (cond _ _ _ :: _) :: _) _ _; first | refine W.gt ?_ | refine W.gf ?_) | (show W _ _ _ _ _ _ [] _ _; refine W.of (.done ?_)) | (apply W.of; constructor <;> first | (show W _ _ _ _ _ _ _ _ _) | (intro (al : Nat) h st; show W _ _ _ _ _ _ _ _ _) | (intro _ h st; show W _ _ _ _ _ _ _ _ _) | exact Sd)))
  rw [neqS]
  (repeat (first | (show W _ _ _ _ _ _ (.code (cond _ _ _) :: _) _ _; first | refine W.ct ?_ | refine W.cf ?_) | (show W _ _ _ _ _ _ (.ins (cond _ _ _ :: _) :: _) _ _; first | refine W.gt ?_ | refine W.gf ?_) | (show W _ _ _ _ _ _ [] _ _; refine W.of (.done ?_)) | (apply W.of; constructor <;> first | (show W _ _ _ _ _ _ _ _ _) | (intro (al : Nat) h st; show W _ _ _ _ _ _ _ _ _) | (intro _ h st; show W _ _ _ _ _ _ _ _ _) | exact Sd))); refine W.call (hs := (cnt_Runs (l := l))) (w := ?_); rintro vv _ ⟨rj, rl, rfl⟩ h st; refine nj ?_; dsimp only [List.cons_append, List.nil_append] at st
  obtain ⟨r1, rfl⟩ : ∃ y, y = vv := ⟨_, rfl⟩
  (repeat (first | (show W _ _ _ _ _ _ (.code (cond _ _ _) :: _) _ _; first | refine W.ct ?_ | refine W.cf ?_) | (show W _ _ _ _ _ _ (.ins (cond _ _ _ :: _) :: _) _ _; first | refine W.gt ?_ | refine W.gf ?_) | (show W _ _ _ _ _ _ [] _ _; refine W.of (.done ?_)) | (apply W.of; constructor <;> first | (show W _ _ _ _ _ _ _ _ _) | (intro (al : Nat) h st; show W _ _ _ _ _ _ _ _ _) | (intro _ h st; show W _ _ _ _ _ _ _ _ _) | exact Sd))); refine W.call (hs := rc_Runs) (w := ?_); rintro vv _ ⟨rj2, rl2, rfl⟩ h st; refine nj ?_; dsimp only [List.cons_append, List.nil_append] at st
  have hr : l = rleL cs := by
    obtain ⟨q1, q2, q3⟩ := rleL_ok (cs := cs)
    rw [hn] at q1
    exact runs_unique hk.chain q1 hk.adj q2 (by rw [q3, he])
  (repeat (first | (show W _ _ _ _ _ _ (.code (cond _ _ _) :: _) _ _; first | refine W.ct ?_ | refine W.cf ?_) | (show W _ _ _ _ _ _ (.ins (cond _ _ _ :: _) :: _) _ _; first | refine W.gt ?_ | refine W.gf ?_) | (show W _ _ _ _ _ _ [] _ _; refine W.of (.done ?_)) | (apply W.of; constructor <;> first | (show W _ _ _ _ _ _ _ _ _) | (intro (al : Nat) h st; show W _ _ _ _ _ _ _ _ _) | (intro _ h st; show W _ _ _ _ _ _ _ _ _) | exact Sd))); refine W.call (hs := (ref11_Same (a := r1) (l := l) (l' := rleL cs) (by omega))) (w := ?_); rintro vv _ ⟨rfl, rfl⟩ h st; refine nj ?_; dsimp only [List.cons_append, List.nil_append] at st
  rw [decide_eq_true hr]
  (repeat (first | (show W _ _ _ _ _ _ (.code (cond _ _ _) :: _) _ _; first | refine W.ct ?_ | refine W.cf ?_) | (show W _ _ _ _ _ _ (.ins (cond _ _ _ :: _) :: _) _ _; first | refine W.gt ?_ | refine W.gf ?_) | (show W _ _ _ _ _ _ [] _ _; refine W.of (.done ?_)) | (apply W.of; constructor <;> first | (show W _ _ _ _ _ _ _ _ _) | (intro (al : Nat) h st; show W _ _ _ _ _ _ _ _ _) | (intro _ h st; show W _ _ _ _ _ _ _ _ _) | exact Sd)))
  refine W.of (.lp ?_)
  exact ⟨⟨i + 1, l, n, cs⟩, by simp only; omega, ⟨hlt, he, hn⟩, Sbs, st.sel Sels⟩
set_option maxRecDepth 8000 in
theorem sa_L0 {D E : Nat} {v : AV} {acts : List ActP} {F : List Chunk} {Q : AExit → Env → AHeap → Prop} {k : List KI} {h : AHeap} (y : SaS) (hlt : y.i < acts.length) (h60 : acts.length ≤ 60) (hs : SaOk y.l y.n y.cs) (st : St h (saG D E v acts F y)) :
    W over tab none c_law11_SpreadActs.ntmps Q .normal (.code c_law11_SpreadActs_L0 :: .lp (saJ D E v acts F y.i) :: k) (saE D E v acts y.i) h := by
  obtain ⟨i, l, n, cs⟩ := y
  dsimp only [saG] at hlt hs st ⊢
  obtain ⟨a, ha⟩ : ∃ a, acts[i]? = some a := ⟨acts[i], by simp [hlt]⟩
  have he := hs.e
  have hn := hs.n
  have hk := st.cnt (l := l) Tk
  obtain ⟨gp, gq⟩ := d_arIdx (kk := .i64) st Tk hlt
  (repeat (first | (show W _ _ _ _ _ _ (.code (cond _ _ _) :: _) _ _; first | refine W.ct ?_ | refine W.cf ?_) | (show W _ _ _ _ _ _ (.ins (cond _ _ _ :: _) :: _) _ _; first | refine W.gt ?_ | refine W.gf ?_) | (show W _ _ _ _ _ _ [] _ _; refine W.of (.done ?_)) | (apply W.of; constructor <;> first | (show W _ _ _ _ _ _ _ _ _) | (intro (al : Nat) h st; show W _ _ _ _ _ _ _ _ _) | (intro _ h st; show W _ _ _ _ _ _ _ _ _) | exact Sd))); refine W.do (ho := gp) (w := ?_)
  (repeat (first | (show W _ _ _ _ _ _ (.code (cond _ _ _) :: _) _ _; first | refine W.ct ?_ | refine W.cf ?_) | (show W _ _ _ _ _ _ (.ins (cond _ _ _ :: _) :: _) _ _; first | refine W.gt ?_ | refine W.gf ?_) | (show W _ _ _ _ _ _ [] _ _; refine W.of (.done ?_)) | (apply W.of; constructor <;> first | (show W _ _ _ _ _ _ _ _ _) | (intro (al : Nat) h st; show W _ _ _ _ _ _ _ _ _) | (intro _ h st; show W _ _ _ _ _ _ _ _ _) | exact Sd))); refine W.do (ho := (d_loadar st Tk ha)) (w := ?_)
  (repeat (first | (show W _ _ _ _ _ _ (.code (cond _ _ _) :: _) _ _; first | refine W.ct ?_ | refine W.cf ?_) | (show W _ _ _ _ _ _ (.ins (cond _ _ _ :: _) :: _) _ _; first | refine W.gt ?_ | refine W.gf ?_) | (show W _ _ _ _ _ _ [] _ _; refine W.of (.done ?_)) | (apply W.of; constructor <;> first | (show W _ _ _ _ _ _ _ _ _) | (intro (al : Nat) h st; show W _ _ _ _ _ _ _ _ _) | (intro _ h st; show W _ _ _ _ _ _ _ _ _) | exact Sd)))
  have hsame : ∀ {cs' : List Int} {n' : Int} {l' : List RunV} {h : AHeap} {s : Env} {V : Nat}, SaOk l' n' cs' → Sub ((8, .ptr V 0) :: (78, .ptr D 0) :: (80, .ptr E 0) :: (82, .ptr E 0) :: saE D E v acts i) s → St h (CntC D l' n' :: RcC E cs' :: .pt V (actRowP a) :: ActPC v acts :: F) →
      W over tab none c_law11_SpreadActs.ntmps Q .normal (.ins [I 83 (.load1) [T 82]] :: .ag [] :: .dis (List.drop 5 ((dr (sL saTail)).headD [])) :: .code (sR saTail) :: .blk 1 :: .code (sR (sR (sR c_law11_SpreadActs_L0))) :: .lp (saJ D E v acts F i) :: k) s h := fun hs hsub st => W.sub hsub (sa_tail hlt h60 hs st)
  cases hg : a.grow with
  | true =>
    (repeat (first | (show W _ _ _ _ _ _ (.code (cond _ _ _) :: _) _ _; first | refine W.ct ?_ | refine W.cf ?_) | (show W _ _ _ _ _ _ (.ins (cond _ _ _ :: _) :: _) _ _; first | refine W.gt ?_ | refine W.gf ?_) | (show W _ _ _ _ _ _ [] _ _; refine W.of (.done ?_)) | (apply W.of; constructor <;> first | (show W _ _ _ _ _ _ _ _ _) | (intro (al : Nat) h st; show W _ _ _ _ _ _ _ _ _) | (intro _ h st; show W _ _ _ _ _ _ _ _ _) | exact Sd)))
    (repeat (first | (show W _ _ _ _ _ _ (.code (cond _ _ _) :: _) _ _; first | refine W.ct ?_ | refine W.cf ?_) | (show W _ _ _ _ _ _ (.ins (cond _ _ _ :: _) :: _) _ _; first | refine W.gt ?_ | refine W.gf ?_) | (show W _ _ _ _ _ _ [] _ _; refine W.of (.done ?_)) | (apply W.of; constructor <;> first | (show W _ _ _ _ _ _ _ _ _) | (intro (al : Nat) h st; show W _ _ _ _ _ _ _ _ _) | (intro _ h st; show W _ _ _ _ _ _ _ _ _) | exact Sd))); refine W.call (hs := (cnt_Grow (l := l) (n := n))) (w := ?_); rintro vv _ (⟨hc, rfl, l1, rfl, e1⟩ | ⟨hc, rfl, rfl⟩) h st; refine nj ?_; dsimp only [List.cons_append, List.nil_append] at st
    · rw [he] at e1
      (repeat (first | (show W _ _ _ _ _ _ (.code (cond _ _ _) :: _) _ _; first | refine W.ct ?_ | refine W.cf ?_) | (show W _ _ _ _ _ _ (.ins (cond _ _ _ :: _) :: _) _ _; first | refine W.gt ?_ | refine W.gf ?_) | (show W _ _ _ _ _ _ [] _ _; refine W.of (.done ?_)) | (apply W.of; constructor <;> first | (show W _ _ _ _ _ _ _ _ _) | (intro (al : Nat) h st; show W _ _ _ _ _ _ _ _ _) | (intro _ h st; show W _ _ _ _ _ _ _ _ _) | exact Sd))); refine W.call (hs := rc_Grow) (w := ?_); rintro vv _ (⟨_, rfl, rfl⟩ | ⟨hb, _⟩) h st; refine nj ?_; dsimp only [List.cons_append, List.nil_append] at st
      · (repeat (first | (show W _ _ _ _ _ _ (.code (cond _ _ _) :: _) _ _; first | refine W.ct ?_ | refine W.cf ?_) | (show W _ _ _ _ _ _ (.ins (cond _ _ _ :: _) :: _) _ _; first | refine W.gt ?_ | refine W.gf ?_) | (show W _ _ _ _ _ _ [] _ _; refine W.of (.done ?_)) | (apply W.of; constructor <;> first | (show W _ _ _ _ _ _ _ _ _) | (intro (al : Nat) h st; show W _ _ _ _ _ _ _ _ _) | (intro _ h st; show W _ _ _ _ _ _ _ _ _) | exact Sd)))
        exact hsame (n' := a.hi) (cs' := cs ++ List.replicate (a.hi - cs.length).toNat 0) ⟨by rw [e1, hn], by rw [List.length_append, List.length_replicate]; omega⟩ Sbs (st.sel Sels)
      · exact absurd hc (by rw [hn] at hb; exact hb)
    · refine nj ?_
      dsimp only [List.cons_append, List.nil_append] at st
      (repeat (first | (show W _ _ _ _ _ _ (.code (cond _ _ _) :: _) _ _; first | refine W.ct ?_ | refine W.cf ?_) | (show W _ _ _ _ _ _ (.ins (cond _ _ _ :: _) :: _) _ _; first | refine W.gt ?_ | refine W.gf ?_) | (show W _ _ _ _ _ _ [] _ _; refine W.of (.done ?_)) | (apply W.of; constructor <;> first | (show W _ _ _ _ _ _ _ _ _) | (intro (al : Nat) h st; show W _ _ _ _ _ _ _ _ _) | (intro _ h st; show W _ _ _ _ _ _ _ _ _) | exact Sd))); refine W.call (hs := (rc_Grow_bad (by rw [hn]; exact hc))) (w := ?_); rintro vv _ ⟨rfl, rfl⟩ h st; refine nj ?_; dsimp only [List.cons_append, List.nil_append] at st
      (repeat (first | (show W _ _ _ _ _ _ (.code (cond _ _ _) :: _) _ _; first | refine W.ct ?_ | refine W.cf ?_) | (show W _ _ _ _ _ _ (.ins (cond _ _ _ :: _) :: _) _ _; first | refine W.gt ?_ | refine W.gf ?_) | (show W _ _ _ _ _ _ [] _ _; refine W.of (.done ?_)) | (apply W.of; constructor <;> first | (show W _ _ _ _ _ _ _ _ _) | (intro (al : Nat) h st; show W _ _ _ _ _ _ _ _ _) | (intro _ h st; show W _ _ _ _ _ _ _ _ _) | exact Sd)))
      exact hsame hs Sbs (st.sel Sels)
  | false =>
    (repeat (first | (show W _ _ _ _ _ _ (.code (cond _ _ _) :: _) _ _; first | refine W.ct ?_ | refine W.cf ?_) | (show W _ _ _ _ _ _ (.ins (cond _ _ _ :: _) :: _) _ _; first | refine W.gt ?_ | refine W.gf ?_) | (show W _ _ _ _ _ _ [] _ _; refine W.of (.done ?_)) | (apply W.of; constructor <;> first | (show W _ _ _ _ _ _ _ _ _) | (intro (al : Nat) h st; show W _ _ _ _ _ _ _ _ _) | (intro _ h st; show W _ _ _ _ _ _ _ _ _) | exact Sd)))
    (repeat (first | (show W _ _ _ _ _ _ (.code (cond _ _ _) :: _) _ _; first | refine W.ct ?_ | refine W.cf ?_) | (show W _ _ _ _ _ _ (.ins (cond _ _ _ :: _) :: _) _ _; first | refine W.gt ?_ | refine W.gf ?_) | (show W _ _ _ _ _ _ [] _ _; refine W.of (.done ?_)) | (apply W.of; constructor <;> first | (show W _ _ _ _ _ _ _ _ _) | (intro (al : Nat) h st; show W _ _ _ _ _ _ _ _ _) | (intro _ h st; show W _ _ _ _ _ _ _ _ _) | exact Sd))); refine W.call (hs := (cnt_Add (l := l) (n := n))) (w := ?_); rintro vv _ (⟨hok, gv, l1, rfl, gj, gl, e1, rfl⟩ | ⟨hok, rfl, rfl⟩) h st; refine nj ?_; dsimp only [List.cons_append, List.nil_append] at st
    · rw [he] at hok gl st e1
      (repeat (first | (show W _ _ _ _ _ _ (.code (cond _ _ _) :: _) _ _; first | refine W.ct ?_ | refine W.cf ?_) | (show W _ _ _ _ _ _ (.ins (cond _ _ _ :: _) :: _) _ _; first | refine W.gt ?_ | refine W.gf ?_) | (show W _ _ _ _ _ _ [] _ _; refine W.of (.done ?_)) | (apply W.of; constructor <;> first | (show W _ _ _ _ _ _ _ _ _) | (intro (al : Nat) h st; show W _ _ _ _ _ _ _ _ _) | (intro _ h st; show W _ _ _ _ _ _ _ _ _) | exact Sd))); refine W.call (hs := rc_Add) (w := ?_); rintro vv _ (⟨_, gv2, rfl, gj2, gl2, rfl⟩ | ⟨hb, _⟩) h st; refine nj ?_; dsimp only [List.cons_append, List.nil_append] at st
      · have hlen := goneP_len (by' := a.by') (a := slc cs a.lo a.hi) (o := a.lo)
        have hsl := slc_len hok.l0 hok.le hok.h0
        have hn1 := hk.n1
        have hh := hok.h0
        (repeat (first | (show W _ _ _ _ _ _ (.code (cond _ _ _) :: _) _ _; first | refine W.ct ?_ | refine W.cf ?_) | (show W _ _ _ _ _ _ (.ins (cond _ _ _ :: _) :: _) _ _; first | refine W.gt ?_ | refine W.gf ?_) | (show W _ _ _ _ _ _ [] _ _; refine W.of (.done ?_)) | (apply W.of; constructor <;> first | (show W _ _ _ _ _ _ _ _ _) | (intro (al : Nat) h st; show W _ _ _ _ _ _ _ _ _) | (intro _ h st; show W _ _ _ _ _ _ _ _ _) | exact Sd))); refine W.call (hs := (ref01_Ints (a := gv) (b := gv2) (l := goneP a.lo (slc cs a.lo a.hi) a.by') (l' := goneP a.lo (slc cs a.lo a.hi) a.by') (by have := hok.l0; omega))) (w := ?_); rintro vv _ ⟨rfl, rfl⟩ h st; refine nj ?_; dsimp only [List.cons_append, List.nil_append] at st
        rw [decide_eq_true (rfl : goneP a.lo (slc cs a.lo a.hi) a.by' = goneP a.lo (slc cs a.lo a.hi) a.by')]
        (repeat (first | (show W _ _ _ _ _ _ (.code (cond _ _ _) :: _) _ _; first | refine W.ct ?_ | refine W.cf ?_) | (show W _ _ _ _ _ _ (.ins (cond _ _ _ :: _) :: _) _ _; first | refine W.gt ?_ | refine W.gf ?_) | (show W _ _ _ _ _ _ [] _ _; refine W.of (.done ?_)) | (apply W.of; constructor <;> first | (show W _ _ _ _ _ _ _ _ _) | (intro (al : Nat) h st; show W _ _ _ _ _ _ _ _ _) | (intro _ h st; show W _ _ _ _ _ _ _ _ _) | exact Sd)))
        exact hsame (n' := n) (cs' := addL 0 cs a.lo a.hi a.by') ⟨e1, by rw [addL_length]; exact hn⟩ Sbs (st.sel Sels)
      · exact absurd hok hb
    · refine nj ?_
      dsimp only [List.cons_append, List.nil_append] at st
      rw [he] at hok
      (repeat (first | (show W _ _ _ _ _ _ (.code (cond _ _ _) :: _) _ _; first | refine W.ct ?_ | refine W.cf ?_) | (show W _ _ _ _ _ _ (.ins (cond _ _ _ :: _) :: _) _ _; first | refine W.gt ?_ | refine W.gf ?_) | (show W _ _ _ _ _ _ [] _ _; refine W.of (.done ?_)) | (apply W.of; constructor <;> first | (show W _ _ _ _ _ _ _ _ _) | (intro (al : Nat) h st; show W _ _ _ _ _ _ _ _ _) | (intro _ h st; show W _ _ _ _ _ _ _ _ _) | exact Sd))); refine W.call (hs := (rc_Add_bad hok)) (w := ?_); rintro vv _ ⟨rfl, rfl⟩ h st; refine nj ?_; dsimp only [List.cons_append, List.nil_append] at st
      (repeat (first | (show W _ _ _ _ _ _ (.code (cond _ _ _) :: _) _ _; first | refine W.ct ?_ | refine W.cf ?_) | (show W _ _ _ _ _ _ (.ins (cond _ _ _ :: _) :: _) _ _; first | refine W.gt ?_ | refine W.gf ?_) | (show W _ _ _ _ _ _ [] _ _; refine W.of (.done ?_)) | (apply W.of; constructor <;> first | (show W _ _ _ _ _ _ _ _ _) | (intro (al : Nat) h st; show W _ _ _ _ _ _ _ _ _) | (intro _ h st; show W _ _ _ _ _ _ _ _ _) | exact Sd)))
      have st := (st.vsNil 3 true).vsNil 3 true
      (repeat (first | (show W _ _ _ _ _ _ (.code (cond _ _ _) :: _) _ _; first | refine W.ct ?_ | refine W.cf ?_) | (show W _ _ _ _ _ _ (.ins (cond _ _ _ :: _) :: _) _ _; first | refine W.gt ?_ | refine W.gf ?_) | (show W _ _ _ _ _ _ [] _ _; refine W.of (.done ?_)) | (apply W.of; constructor <;> first | (show W _ _ _ _ _ _ _ _ _) | (intro (al : Nat) h st; show W _ _ _ _ _ _ _ _ _) | (intro _ h st; show W _ _ _ _ _ _ _ _ _) | exact Sd))); refine W.call (hs := (ref01_Ints (a := .nilsl) (b := .nilsl) (l := []) (l' := []) (by simp))) (w := ?_); rintro vv _ ⟨rfl, rfl⟩ h st; refine nj ?_; dsimp only [List.cons_append, List.nil_append] at st
      rw [decide_eq_true (rfl : ([] : List Int) = [])]
      (repeat (first | (show W _ _ _ _ _ _ (.code (cond _ _ _) :: _) _ _; first | refine W.ct ?_ | refine W.cf ?_) | (show W _ _ _ _ _ _ (.ins (cond _ _ _ :: _) :: _) _ _; first | refine W.gt ?_ | refine W.gf ?_) | (show W _ _ _ _ _ _ [] _ _; refine W.of (.done ?_)) | (apply W.of; constructor <;> first | (show W _ _ _ _ _ _ _ _ _) | (intro (al : Nat) h st; show W _ _ _ _ _ _ _ _ _) | (intro _ h st; show W _ _ _ _ _ _ _ _ _) | exact Sd)))
      exact hsame hs Sbs (st.sel Sels)
set_option maxRecDepth 8000 in
theorem sacts_w {m : Int} {v : AV} {acts : List ActP} : Spec R (.f n_law11_SpreadActs) [.int .i64 m, v] [ActPC v acts] fun r _ => r = .bool true := by
  refine spec_in fun h F st => ?_
  obtain ⟨hl, hj⟩ := st.ar Tk
  clear st h F; refine spec_w (fun _ _ _ x => progI_call rfl rfl x) Njs rfl (fun h F st => ?_); dsimp only [List.cons_append, List.nil_append] at st
  by_cases hm : 0 ≤ m ∧ m ≤ 4096
  · obtain ⟨mm, rfl⟩ : ∃ k : Nat, m = (k : Int) := ⟨m.toNat, by omega⟩
    (repeat (first | (show W _ _ _ _ _ _ (.code (cond _ _ _) :: _) _ _; first | refine W.ct ?_ | refine W.cf ?_) | (show W _ _ _ _ _ _ (.ins (cond _ _ _ :: _) :: _) _ _; first | refine W.gt ?_ | refine W.gf ?_) | (show W _ _ _ _ _ _ [] _ _; refine W.of (.done ?_)) | (apply W.of; constructor <;> first | (show W _ _ _ _ _ _ _ _ _) | (intro (al : Nat) h st; show W _ _ _ _ _ _ _ _ _) | (intro _ h st; show W _ _ _ _ _ _ _ _ _) | exact Sd))); refine W.call (hs := (cnt_New hm.1 hm.2)) (w := ?_); rintro vv _ ⟨D, l0, rfl, rfl, e0⟩ h st; refine nj ?_; dsimp only [List.cons_append, List.nil_append] at st
    (repeat (first | (show W _ _ _ _ _ _ (.code (cond _ _ _) :: _) _ _; first | refine W.ct ?_ | refine W.cf ?_) | (show W _ _ _ _ _ _ (.ins (cond _ _ _ :: _) :: _) _ _; first | refine W.gt ?_ | refine W.gf ?_) | (show W _ _ _ _ _ _ [] _ _; refine W.of (.done ?_)) | (apply W.of; constructor <;> first | (show W _ _ _ _ _ _ _ _ _) | (intro (al : Nat) h st; show W _ _ _ _ _ _ _ _ _) | (intro _ h st; show W _ _ _ _ _ _ _ _ _) | exact Sd))); refine W.call (hs := (rc_New (m := mm) (by omega))) (w := ?_); rintro vv _ ⟨E, rfl, rfl⟩ h st; refine nj ?_; dsimp only [List.cons_append, List.nil_append] at st
    by_cases h60 : acts.length ≤ 60
    · (repeat (first | (show W _ _ _ _ _ _ (.code (cond _ _ _) :: _) _ _; first | refine W.ct ?_ | refine W.cf ?_) | (show W _ _ _ _ _ _ (.ins (cond _ _ _ :: _) :: _) _ _; first | refine W.gt ?_ | refine W.gf ?_) | (show W _ _ _ _ _ _ [] _ _; refine W.of (.done ?_)) | (apply W.of; constructor <;> first | (show W _ _ _ _ _ _ _ _ _) | (intro (al : Nat) h st; show W _ _ _ _ _ _ _ _ _) | (intro _ h st; show W _ _ _ _ _ _ _ _ _) | exact Sd)))
      refine W.loop (fun y : SaS => saE D E v acts y.i) (saG D E v acts F) (fun y => y.i ≤ acts.length ∧ SaOk y.l y.n y.cs) (fun y => acts.length - y.i) ⟨0, l0, (mm : Nat), List.replicate mm 0⟩ (small_rounds (by simp only; omega)) Sbs (st.sel Sels) ⟨Nat.zero_le _, by rw [e0, Int.toNat_natCast], by simp⟩ ?_
      clear st
      intro y h ⟨hi, hs⟩ st
      by_cases hlt : y.i < acts.length
      · exact sa_L0 y hlt h60 hs st
      · obtain ⟨i, l, n, cs⟩ := y
        dsimp only [saG] at hlt st ⊢
        (repeat (first | (show W _ _ _ _ _ _ (.code (cond _ _ _) :: _) _ _; first | refine W.ct ?_ | refine W.cf ?_) | (show W _ _ _ _ _ _ (.ins (cond _ _ _ :: _) :: _) _ _; first | refine W.gt ?_ | refine W.gf ?_) | (show W _ _ _ _ _ _ [] _ _; refine W.of (.done ?_)) | (apply W.of; constructor <;> first | (show W _ _ _ _ _ _ _ _ _) | (intro (al : Nat) h st; show W _ _ _ _ _ _ _ _ _) | (intro _ h st; show W _ _ _ _ _ _ _ _ _) | exact Sd))); refine W.call (hs := law11_lives) (w := ?_); rintro vv _ ⟨rfl, rfl⟩ h st; refine nj ?_; dsimp only [List.cons_append, List.nil_append] at st
        (repeat (first | (show W _ _ _ _ _ _ (.code (cond _ _ _) :: _) _ _; first | refine W.ct ?_ | refine W.cf ?_) | (show W _ _ _ _ _ _ (.ins (cond _ _ _ :: _) :: _) _ _; first | refine W.gt ?_ | refine W.gf ?_) | (show W _ _ _ _ _ _ [] _ _; refine W.of (.done ?_)) | (apply W.of; constructor <;> first | (show W _ _ _ _ _ _ _ _ _) | (intro (al : Nat) h st; show W _ _ _ _ _ _ _ _ _) | (intro _ h st; show W _ _ _ _ _ _ _ _ _) | exact Sd)))
        exact ⟨_, rfl, [_, _, _], rfl, st⟩
    · (repeat (first | (show W _ _ _ _ _ _ (.code (cond _ _ _) :: _) _ _; first | refine W.ct ?_ | refine W.cf ?_) | (show W _ _ _ _ _ _ (.ins (cond _ _ _ :: _) :: _) _ _; first | refine W.gt ?_ | refine W.gf ?_) | (show W _ _ _ _ _ _ [] _ _; refine W.of (.done ?_)) | (apply W.of; constructor <;> first | (show W _ _ _ _ _ _ _ _ _) | (intro (al : Nat) h st; show W _ _ _ _ _ _ _ _ _) | (intro _ h st; show W _ _ _ _ _ _ _ _ _) | exact Sd)))
      (repeat (first | (show W _ _ _ _ _ _ (.code (cond _ _ _) :: _) _ _; first | refine W.ct ?_ | refine W.cf ?_) | (show W _ _ _ _ _ _ (.ins (cond _ _ _ :: _) :: _) _ _; first | refine W.gt ?_ | refine W.gf ?_) | (show W _ _ _ _ _ _ [] _ _; refine W.of (.done ?_)) | (apply W.of; constructor <;> first | (show W _ _ _ _ _ _ _ _ _) | (intro (al : Nat) h st; show W _ _ _ _ _ _ _ _ _) | (intro _ h st; show W _ _ _ _ _ _ _ _ _) | exact Sd))); refine W.call (hs := law11_lives) (w := ?_); rintro vv _ ⟨rfl, rfl⟩ h st; refine nj ?_; dsimp only [List.cons_append, List.nil_append] at st
      (repeat (first | (show W _ _ _ _ _ _ (.code (cond _ _ _) :: _) _ _; first | refine W.ct ?_ | refine W.cf ?_) | (show W _ _ _ _ _ _ (.ins (cond _ _ _ :: _) :: _) _ _; first | refine W.gt ?_ | refine W.gf ?_) | (show W _ _ _ _ _ _ [] _ _; refine W.of (.done ?_)) | (apply W.of; constructor <;> first | (show W _ _ _ _ _ _ _ _ _) | (intro (al : Nat) h st; show W _ _ _ _ _ _ _ _ _) | (intro _ h st; show W _ _ _ _ _ _ _ _ _) | exact Sd)))
      exact ⟨_, rfl, [_, _, _], rfl, st⟩
  · (repeat (first | (show W _ _ _ _ _ _ (.code (cond _ _ _) :: _) _ _; first | refine W.ct ?_ | refine W.cf ?_) | (show W _ _ _ _ _ _ (.ins (cond _ _ _ :: _) :: _) _ _; first | refine W.gt ?_ | refine W.gf ?_) | (show W _ _ _ _ _ _ [] _ _; refine W.of (.done ?_)) | (apply W.of; constructor <;> first | (show W _ _ _ _ _ _ _ _ _) | (intro (al : Nat) h st; show W _ _ _ _ _ _ _ _ _) | (intro _ h st; show W _ _ _ _ _ _ _ _ _) | exact Sd))); refine W.call (hs := (cnt_New_bad hm)) (w := ?_); rintro vv _ ⟨rfl, rfl⟩ h st; refine nj ?_; dsimp only [List.cons_append, List.nil_append] at st
    (repeat (first | (show W _ _ _ _ _ _ (.code (cond _ _ _) :: _) _ _; first | refine W.ct ?_ | refine W.cf ?_) | (show W _ _ _ _ _ _ (.ins (cond _ _ _ :: _) :: _) _ _; first | refine W.gt ?_ | refine W.gf ?_) | (show W _ _ _ _ _ _ [] _ _; refine W.of (.done ?_)) | (apply W.of; constructor <;> first | (show W _ _ _ _ _ _ _ _ _) | (intro (al : Nat) h st; show W _ _ _ _ _ _ _ _ _) | (intro _ h st; show W _ _ _ _ _ _ _ _ _) | exact Sd))); refine W.call (hs := (rc_New_bad hm)) (w := ?_); rintro vv _ ⟨rfl, rfl⟩ h st; refine nj ?_; dsimp only [List.cons_append, List.nil_append] at st
    (repeat (first | (show W _ _ _ _ _ _ (.code (cond _ _ _) :: _) _ _; first | refine W.ct ?_ | refine W.cf ?_) | (show W _ _ _ _ _ _ (.ins (cond _ _ _ :: _) :: _) _ _; first | refine W.gt ?_ | refine W.gf ?_) | (show W _ _ _ _ _ _ [] _ _; refine W.of (.done ?_)) | (apply W.of; constructor <;> first | (show W _ _ _ _ _ _ _ _ _) | (intro (al : Nat) h st; show W _ _ _ _ _ _ _ _ _) | (intro _ h st; show W _ _ _ _ _ _ _ _ _) | exact Sd))); refine W.call (hs := law11_lives) (w := ?_); rintro vv _ ⟨rfl, rfl⟩ h st; refine nj ?_; dsimp only [List.cons_append, List.nil_append] at st
    (repeat (first | (show W _ _ _ _ _ _ (.code (cond _ _ _) :: _) _ _; first | refine W.ct ?_ | refine W.cf ?_) | (show W _ _ _ _ _ _ (.ins (cond _ _ _ :: _) :: _) _ _; first | refine W.gt ?_ | refine W.gf ?_) | (show W _ _ _ _ _ _ [] _ _; refine W.of (.done ?_)) | (apply W.of; constructor <;> first | (show W _ _ _ _ _ _ _ _ _) | (intro (al : Nat) h st; show W _ _ _ _ _ _ _ _ _) | (intro _ h st; show W _ _ _ _ _ _ _ _ _) | exact Sd)))
    exact ⟨_, rfl, [_], rfl, st⟩
end Go.Proofs.Ytjdemlagmamlbaa

namespace Go.Proofs.Ytjdemlagmamlbaa
theorem actP_each {h : AHeap} (x : List AV) (hx : AD h (.fields [.int .i64, .int .i64, .int .i64, .bool]) x) : ∃ a : ActP, x = a.cells ∧ RoL a.G ∧ ∀ L, St h L → St h (a.G ++ L) := by
  simp only [AD, ADs] at hx
  obtain ⟨x1, y1, rfl, ⟨n1, rfl, _⟩, x2, y2, rfl, ⟨n2, rfl, _⟩, x3, y3, rfl, ⟨n3, rfl, _⟩, x4, y4, rfl, ⟨b, rfl⟩, rfl⟩ := hx
  exact ⟨⟨n1, n2, n3, b⟩, rfl, .nil, fun L st => st⟩
theorem argU {h : AHeap} {x : AV} (ha : ArgA h (.int .u64) x) : ∃ n : Nat, x = .int .u64 (n : Int) := by
  simp only [ArgA, AD, List.cons.injEq, and_true] at ha
  obtain ⟨n, rfl, hn, _⟩ := ha
  have hn : 0 ≤ n := hn
  exact ⟨n.toNat, by rw [Int.toNat_of_nonneg hn]⟩
theorem args1 {h : AHeap} {s : Sh} {avs : List AV} (ha : ArgsA h [s] avs) : ∃ x, avs = [x] ∧ ArgA h s x := by
  cases avs with
  | nil => exact ha.elim
  | cons x vs =>
    obtain ⟨h1, hr⟩ := ha
    cases vs with
    | cons => exact hr.elim
    | nil => exact ⟨x, rfl, h1⟩
theorem args2 {h : AHeap} {s s' : Sh} {avs : List AV} (ha : ArgsA h [s, s'] avs) : ∃ x y, avs = [x, y] ∧ ArgA h s x ∧ ArgA h s' y := by
  cases avs with
  | nil => exact ha.elim
  | cons x vs =>
    obtain ⟨h1, hr⟩ := ha
    obtain ⟨y, rfl, h2⟩ := args1 hr
    exact ⟨x, y, rfl, h1, h2⟩
theorem args3 {h : AHeap} {s s' s'' : Sh} {avs : List AV} (ha : ArgsA h [s, s', s''] avs) : ∃ x y z, avs = [x, y, z] ∧ ArgA h s x ∧ ArgA h s' y ∧ ArgA h s'' z := by
  cases avs with
  | nil => exact ha.elim
  | cons x vs =>
    obtain ⟨h1, hr⟩ := ha
    obtain ⟨y, z, rfl, h2, h3⟩ := args2 hr
    exact ⟨x, y, z, rfl, h1, h2, h3⟩
end Go.Proofs.Ytjdemlagmamlbaa
