/- BY PROGRAM (wip/tool/shake.py): own texts, one behind the other, without what is not needed. -/
import Derived.Control
import Derived.Calls
import Derived.KernelRfl
import Derived.Laws.Sem
import Derived.Laws.Cells
import Derived.Laws.World
import GoSem.Dispatch
import Derived.Laws.StructEq
import Derived.IntWalk
import Derived.WideKeyRuns
import Derived.Laws.BytesArg
import Derived.Orders
import Derived.ChangeArms
import Derived.OpenShut
import Derived.ChangeShapes
import Derived.ProofKit
import Derived.Test.YtlkfclgkinaibaaGreatProg
import Derived.Test.YtlkfclgkinaibaaGreatZKCT6

namespace Go.Proofs.YtlkfclgkinaibaaGreat
noncomputable def kNoD (f : List AV → AHeap → Option (AV × AHeap)) : KF := fun _ args h => f args h
noncomputable def kTab : Nat → Option KF := fun n =>
  (sel (Nat.beq n n_walk_Leaves_1_1) (some kDown)
  (sel (Nat.beq n n_walk_below) (some (kNoD kBelow))
  (sel (Nat.beq n n_walk_read) (some (kNoD kRead))
  (sel (Nat.beq n n_phys_Memory_Word) (some (kNoD kWord))
  (sel (Nat.beq n n_pte_Decode) (some (kNoD kDecode))
  (sel (Nat.beq n n_pte_Kind) (some (kNoD kKind))
  (sel (Nat.beq n n_pmap_Map_bare) (some (kNoD kBare))
  (sel (Nat.beq n n_frames_Pool_Count) (some (kNoD kCount))
  (sel (Nat.beq n n_frames_Pool_Get) (some (kNoD kGet))
  (sel (Nat.beq n n_kern_Kernel_Resident) (some (kNoD kResident))
  (sel (Nat.beq n n_phys_Memory_SetWord) (some (kNoD kSetWord))
  (sel (Nat.beq n n_kern_Kernel_made) (some (kNoD kKMade))
  (sel (Nat.beq n n_phys_Memory_Frames) (some (kNoD kFrames))
  (sel (Nat.beq n n_pmap_Map_made) (some (kNoD kPMade))
  (sel (Nat.beq n n_amap_Pool_made) (some (kNoD kAMade))
  (sel (Nat.beq n n_daemon_Daemon_made) (some (kNoD kDMade))
  (sel (Nat.beq n n_ring_Rows_int_Rows) (some (kNoD kRRows)) none)))))))))))))))))
theorem selK {a b : Nat} {x y : Option KF} {k : KF} (e : sel (Nat.beq a b) x y = some k) : (a = b ∧ x = some k) ∨ y = some k := by
  rw [sel_eq, beqD] at e
  split at e
  · rename_i h; exact .inl ⟨of_decide_eq_true h, e⟩
  · exact .inr e
theorem kTab_ok {O : Nat → Option FSpec} (hO : OFree O) : KOk O tab kTab := by
  intro n k e D hD args h v h' Q x q
  rcases selK e with ⟨rfl, e⟩ | e
  · cases e; exact k_down hO (D := D) hD x Q q
  rcases selK e with ⟨rfl, e⟩ | e
  · cases e; exact kBelow_ok hO x Q q
  rcases selK e with ⟨rfl, e⟩ | e
  · cases e; exact kRead_ok hO x Q q
  rcases selK e with ⟨rfl, e⟩ | e
  · cases e; exact kWord_ok hO x Q q
  rcases selK e with ⟨rfl, e⟩ | e
  · cases e; exact kDecode_ok hO x Q q
  rcases selK e with ⟨rfl, e⟩ | e
  · cases e; exact kKind_ok hO x Q q
  rcases selK e with ⟨rfl, e⟩ | e
  · cases e; exact kBare_ok hO x Q q
  rcases selK e with ⟨rfl, e⟩ | e
  · cases e; exact kCount_ok hO x Q q
  rcases selK e with ⟨rfl, e⟩ | e
  · cases e; exact kGet_ok hO x Q q
  rcases selK e with ⟨rfl, e⟩ | e
  · cases e; exact kResident_ok hO x Q q
  rcases selK e with ⟨rfl, e⟩ | e
  · cases e; exact kSetWord_ok hO x Q q
  rcases selK e with ⟨rfl, e⟩ | e
  · cases e; exact kKMade_ok hO x Q q
  rcases selK e with ⟨rfl, e⟩ | e
  · cases e; exact kFrames_ok hO x Q q
  rcases selK e with ⟨rfl, e⟩ | e
  · cases e; exact kPMade_ok hO x Q q
  rcases selK e with ⟨rfl, e⟩ | e
  · cases e; exact kAMade_ok hO x Q q
  rcases selK e with ⟨rfl, e⟩ | e
  · cases e; exact kDMade_ok hO x Q q
  rcases selK e with ⟨rfl, e⟩ | e
  · cases e; exact kRRows_ok hO x Q q
  cases e
end Go.Proofs.YtlkfclgkinaibaaGreat

namespace Go.Proofs.YtlkfclgkinaibaaGreat
variable {O : Nat → Option FSpec}
def pbH (h : AHeap) (f p : Nat) : AHeap := ((h.new (pteRow f p)).new (pteRow f p)).new (pteRow f p)
theorem pbH_get {h : AHeap} {f p j : Nat} (hj : j < h.next) : (pbH h f p).get j = h.get j := by
  unfold pbH
  rw [AHeap.get_new_ne _ _ (by show h.next + 2 ≠ j; omega), AHeap.get_new_ne _ _ (by show h.next + 1 ≠ j; omega), AHeap.get_new_ne _ _ (by omega)]
section
variable {h : AHeap} {X M id off len L N n i v f p e es : Nat} {s ro : Bool} {l : List AV}
theorem p_below (hO : OFree O) (hX : h.get X = some (.row e es s ro (.vals (.ptr M 0 :: l)))) (h0 : X < h.next) (hm : MemH h M id off len L N) (h1 : M < h.next) (h2 : id < h.next) (hn : n < len) (hi : i < 512) (hL : off + n * 4096 + 4096 ≤ L) (hv : v = wordN N (off + n * 4096 + 8 * i)) :
    Runs O tab n_pmap_Map_below [.ptr X 0, .int .i64 (n : Nat), .int .i64 (i : Nat)] h (.tuple [.int .i64 (ppN v : Nat), .bool (sel (Nat.beq (kindM (flN v)) 1) (Nat.blt (ppN v) len) false)]) (pbH h (flN v) (ppN v)) := by
  have hv64 : v < 2 ^ 64 := by rw [hv]; exact Nat.mod_lt _ (by decide)
  obtain ⟨f, hf⟩ : ∃ f, f = flN v := ⟨_, rfl⟩
  obtain ⟨p, hp⟩ : ∃ p, p = ppN v := ⟨_, rfl⟩
  have hf63 : f < 2 ^ 63 := by rw [hf]; exact Nat.lt_of_lt_of_le (Nat.mod_lt _ (by decide)) (by decide)
  rw [← hf, ← hp]
  have g1 : ((h.new (pteRow f p)).new (pteRow f p)).get (h.next + 1) = some (pteRow f p) := AHeap.get_new_same _ _
  have g2 : (pbH h f p).get (h.next + 1) = some (pteRow f p) := by
    unfold pbH
    rw [AHeap.get_new_ne _ _ (by show h.next + 2 ≠ h.next + 1; omega)]; exact g1
  have gX : (pbH h f p).get X = some (.row e es s ro (.vals (.ptr M 0 :: l))) := by rw [pbH_get h0]; exact hX
  have hmb : MemH (pbH h f p) M id off len L N := by
    have a1 := hm.new h1 h2 (pteRow f p)
    have a2 := a1.new (Nat.lt_succ_of_lt h1) (Nat.lt_succ_of_lt h2) (pteRow f p)
    exact a2.new (by show M < h.next + 2; omega) (by show id < h.next + 2; omega) (pteRow f p)
  refine runs_w (fun _ _ _ x => progI_call (hO.free _ rfl) rfl x) Njs rfl ?_
  (repeat (first | (show W _ _ _ _ _ _ (.code (cond _ _ _) :: _) _ _; first | refine W.ct ?_ | refine W.cf ?_) | (show W _ _ _ _ _ _ (.ins (cond _ _ _ :: _) :: _) _ _; first | refine W.gt ?_ | refine W.gf ?_) | (show W _ _ _ _ _ _ [] _ _; refine W.of (.done ?_)) | (apply W.of; constructor <;> first | (show W _ _ _ _ _ _ _ _ _) | (intro (al : Nat) h st; show W _ _ _ _ _ _ _ _ _) | (intro _ h st; show W _ _ _ _ _ _ _ _ _) | exact Sd)))
  (repeat (first | (show W _ _ _ _ _ _ (.code (cond _ _ _) :: _) _ _; first | refine W.ct ?_ | refine W.cf ?_) | (show W _ _ _ _ _ _ (.ins (cond _ _ _ :: _) :: _) _ _; first | refine W.gt ?_ | refine W.gf ?_) | (show W _ _ _ _ _ _ [] _ _; refine W.of (.done ?_)) | (apply W.of; constructor <;> first | (show W _ _ _ _ _ _ _ _ _) | (intro (al : Nat) h st; show W _ _ _ _ _ _ _ _ _) | (intro _ h st; show W _ _ _ _ _ _ _ _ _) | exact Sd))); refine W.do (ho := (d_load1 hX rfl)) (w := ?_)
  (repeat (first | (show W _ _ _ _ _ _ (.code (cond _ _ _) :: _) _ _; first | refine W.ct ?_ | refine W.cf ?_) | (show W _ _ _ _ _ _ (.ins (cond _ _ _ :: _) :: _) _ _; first | refine W.gt ?_ | refine W.gf ?_) | (show W _ _ _ _ _ _ [] _ _; refine W.of (.done ?_)) | (apply W.of; constructor <;> first | (show W _ _ _ _ _ _ _ _ _) | (intro (al : Nat) h st; show W _ _ _ _ _ _ _ _ _) | (intro _ h st; show W _ _ _ _ _ _ _ _ _) | exact Sd)))
  refine W.cx (hr := k_Word hO hm hn hi hL) (w := ?_)
  rw [← hv]
  (repeat (first | (show W _ _ _ _ _ _ (.code (cond _ _ _) :: _) _ _; first | refine W.ct ?_ | refine W.cf ?_) | (show W _ _ _ _ _ _ (.ins (cond _ _ _ :: _) :: _) _ _; first | refine W.gt ?_ | refine W.gf ?_) | (show W _ _ _ _ _ _ [] _ _; refine W.of (.done ?_)) | (apply W.of; constructor <;> first | (show W _ _ _ _ _ _ _ _ _) | (intro (al : Nat) h st; show W _ _ _ _ _ _ _ _ _) | (intro _ h st; show W _ _ _ _ _ _ _ _ _) | exact Sd)))
  have hd := k_Decode (h := h) hO hv64
  rw [← hf, ← hp] at hd
  refine W.cx (hr := hd) (w := ?_)
  refine W.dx (ho := x_alloc rfl rfl) (w := ?_)
  (repeat (first | (show W _ _ _ _ _ _ (.code (cond _ _ _) :: _) _ _; first | refine W.ct ?_ | refine W.cf ?_) | (show W _ _ _ _ _ _ (.ins (cond _ _ _ :: _) :: _) _ _; first | refine W.gt ?_ | refine W.gf ?_) | (show W _ _ _ _ _ _ [] _ _; refine W.of (.done ?_)) | (apply W.of; constructor <;> first | (show W _ _ _ _ _ _ _ _ _) | (intro (al : Nat) h st; show W _ _ _ _ _ _ _ _ _) | (intro _ h st; show W _ _ _ _ _ _ _ _ _) | exact Sd)))
  refine W.dx0 (ho := x_store (d := .vals [.int .i64 0, .int .i64 0]) (d' := .vals [.int .i64 (f : Nat), .int .i64 (p : Nat)]) (AHeap.get_new_same _ _) rfl rfl rfl) (w := ?_)
  rw [show ((h.new (pteRow f p)).new (.row ty_api_PTE 2 false false (.vals [.int .i64 0, .int .i64 0]))).put (h.new (pteRow f p)).next (.row ty_api_PTE 2 false false (.vals [.int .i64 (f : Nat), .int .i64 (p : Nat)])) = (h.new (pteRow f p)).new (pteRow f p) from AHeap.new_put _ _ _]
  change W _ _ _ _ _ _ _ ((10, .ptr (h.next + 1) 0) :: _) _
  (repeat (first | (show W _ _ _ _ _ _ (.code (cond _ _ _) :: _) _ _; first | refine W.ct ?_ | refine W.cf ?_) | (show W _ _ _ _ _ _ (.ins (cond _ _ _ :: _) :: _) _ _; first | refine W.gt ?_ | refine W.gf ?_) | (show W _ _ _ _ _ _ [] _ _; refine W.of (.done ?_)) | (apply W.of; constructor <;> first | (show W _ _ _ _ _ _ _ _ _) | (intro (al : Nat) h st; show W _ _ _ _ _ _ _ _ _) | (intro _ h st; show W _ _ _ _ _ _ _ _ _) | exact Sd)))
  (repeat (first | (show W _ _ _ _ _ _ (.code (cond _ _ _) :: _) _ _; first | refine W.ct ?_ | refine W.cf ?_) | (show W _ _ _ _ _ _ (.ins (cond _ _ _ :: _) :: _) _ _; first | refine W.gt ?_ | refine W.gf ?_) | (show W _ _ _ _ _ _ [] _ _; refine W.of (.done ?_)) | (apply W.of; constructor <;> first | (show W _ _ _ _ _ _ _ _ _) | (intro (al : Nat) h st; show W _ _ _ _ _ _ _ _ _) | (intro _ h st; show W _ _ _ _ _ _ _ _ _) | exact Sd))); refine W.do (ho := (d_load1 g1 rfl)) (w := ?_)
  (repeat (first | (show W _ _ _ _ _ _ (.code (cond _ _ _) :: _) _ _; first | refine W.ct ?_ | refine W.cf ?_) | (show W _ _ _ _ _ _ (.ins (cond _ _ _ :: _) :: _) _ _; first | refine W.gt ?_ | refine W.gf ?_) | (show W _ _ _ _ _ _ [] _ _; refine W.of (.done ?_)) | (apply W.of; constructor <;> first | (show W _ _ _ _ _ _ _ _ _) | (intro (al : Nat) h st; show W _ _ _ _ _ _ _ _ _) | (intro _ h st; show W _ _ _ _ _ _ _ _ _) | exact Sd))); refine W.do (ho := (d_loadn g1 rfl)) (w := ?_)
  (repeat (first | (show W _ _ _ _ _ _ (.code (cond _ _ _) :: _) _ _; first | refine W.ct ?_ | refine W.cf ?_) | (show W _ _ _ _ _ _ (.ins (cond _ _ _ :: _) :: _) _ _; first | refine W.gt ?_ | refine W.gf ?_) | (show W _ _ _ _ _ _ [] _ _; refine W.of (.done ?_)) | (apply W.of; constructor <;> first | (show W _ _ _ _ _ _ _ _ _) | (intro (al : Nat) h st; show W _ _ _ _ _ _ _ _ _) | (intro _ h st; show W _ _ _ _ _ _ _ _ _) | exact Sd)))
  refine W.cx (hr := k_Kind hO hf63) (w := ?_)
  change W _ _ _ _ _ _ _ _ (pbH h f p)
  (repeat (first | (show W _ _ _ _ _ _ (.code (cond _ _ _) :: _) _ _; first | refine W.ct ?_ | refine W.cf ?_) | (show W _ _ _ _ _ _ (.ins (cond _ _ _ :: _) :: _) _ _; first | refine W.gt ?_ | refine W.gf ?_) | (show W _ _ _ _ _ _ [] _ _; refine W.of (.done ?_)) | (apply W.of; constructor <;> first | (show W _ _ _ _ _ _ _ _ _) | (intro (al : Nat) h st; show W _ _ _ _ _ _ _ _ _) | (intro _ h st; show W _ _ _ _ _ _ _ _ _) | exact Sd))); refine W.of (.ag (.dz rfl rfl (d_load1 g2 rfl) rfl .nil) ?_)
  obtain ⟨kd, hkd⟩ : ∃ kd, kd = kindM f := ⟨_, rfl⟩
  rw [← hkd, sel_eq, beqD, bltD]
  simp only [decide_eq_true_eq]
  by_cases hk : kd = 1
  · rw [if_pos hk]
    have hq : (((kd : Nat) : Int) == 1) = true := q_t (by omega)
    (repeat (first | (show W _ _ _ _ _ _ (.code (cond _ _ _) :: _) _ _; first | refine W.ct ?_ | refine W.cf ?_) | (show W _ _ _ _ _ _ (.ins (cond _ _ _ :: _) :: _) _ _; first | refine W.gt ?_ | refine W.gf ?_) | (show W _ _ _ _ _ _ [] _ _; refine W.of (.done ?_)) | (apply W.of; constructor <;> first | (show W _ _ _ _ _ _ _ _ _) | (intro (al : Nat) h st; show W _ _ _ _ _ _ _ _ _) | (intro _ h st; show W _ _ _ _ _ _ _ _ _) | exact Sd)))
    (repeat (first | (show W _ _ _ _ _ _ (.code (cond _ _ _) :: _) _ _; first | refine W.ct ?_ | refine W.cf ?_) | (show W _ _ _ _ _ _ (.ins (cond _ _ _ :: _) :: _) _ _; first | refine W.gt ?_ | refine W.gf ?_) | (show W _ _ _ _ _ _ [] _ _; refine W.of (.done ?_)) | (apply W.of; constructor <;> first | (show W _ _ _ _ _ _ _ _ _) | (intro (al : Nat) h st; show W _ _ _ _ _ _ _ _ _) | (intro _ h st; show W _ _ _ _ _ _ _ _ _) | exact Sd))); refine W.do (ho := (d_load1 g2 rfl)) (w := ?_)
    (repeat (first | (show W _ _ _ _ _ _ (.code (cond _ _ _) :: _) _ _; first | refine W.ct ?_ | refine W.cf ?_) | (show W _ _ _ _ _ _ (.ins (cond _ _ _ :: _) :: _) _ _; first | refine W.gt ?_ | refine W.gf ?_) | (show W _ _ _ _ _ _ [] _ _; refine W.of (.done ?_)) | (apply W.of; constructor <;> first | (show W _ _ _ _ _ _ _ _ _) | (intro (al : Nat) h st; show W _ _ _ _ _ _ _ _ _) | (intro _ h st; show W _ _ _ _ _ _ _ _ _) | exact Sd)))
    (repeat (first | (show W _ _ _ _ _ _ (.code (cond _ _ _) :: _) _ _; first | refine W.ct ?_ | refine W.cf ?_) | (show W _ _ _ _ _ _ (.ins (cond _ _ _ :: _) :: _) _ _; first | refine W.gt ?_ | refine W.gf ?_) | (show W _ _ _ _ _ _ [] _ _; refine W.of (.done ?_)) | (apply W.of; constructor <;> first | (show W _ _ _ _ _ _ _ _ _) | (intro (al : Nat) h st; show W _ _ _ _ _ _ _ _ _) | (intro _ h st; show W _ _ _ _ _ _ _ _ _) | exact Sd))); refine W.do (ho := (d_load1 gX rfl)) (w := ?_)
    (repeat (first | (show W _ _ _ _ _ _ (.code (cond _ _ _) :: _) _ _; first | refine W.ct ?_ | refine W.cf ?_) | (show W _ _ _ _ _ _ (.ins (cond _ _ _ :: _) :: _) _ _; first | refine W.gt ?_ | refine W.gf ?_) | (show W _ _ _ _ _ _ [] _ _; refine W.of (.done ?_)) | (apply W.of; constructor <;> first | (show W _ _ _ _ _ _ _ _ _) | (intro (al : Nat) h st; show W _ _ _ _ _ _ _ _ _) | (intro _ h st; show W _ _ _ _ _ _ _ _ _) | exact Sd)))
    refine W.cx (hr := k_Frames hO hmb) (w := ?_)
    rw [hq]
    (repeat (first | (show W _ _ _ _ _ _ (.code (cond _ _ _) :: _) _ _; first | refine W.ct ?_ | refine W.cf ?_) | (show W _ _ _ _ _ _ (.ins (cond _ _ _ :: _) :: _) _ _; first | refine W.gt ?_ | refine W.gf ?_) | (show W _ _ _ _ _ _ [] _ _; refine W.of (.done ?_)) | (apply W.of; constructor <;> first | (show W _ _ _ _ _ _ _ _ _) | (intro (al : Nat) h st; show W _ _ _ _ _ _ _ _ _) | (intro _ h st; show W _ _ _ _ _ _ _ _ _) | exact Sd))); refine W.of (.ag (.dz rfl rfl (d_load1 g2 rfl) rfl (.gd (b := true) rfl (.dz rfl rfl (d_load1 g2 rfl) rfl .nil))) ?_)
    (repeat (first | (show W _ _ _ _ _ _ (.code (cond _ _ _) :: _) _ _; first | refine W.ct ?_ | refine W.cf ?_) | (show W _ _ _ _ _ _ (.ins (cond _ _ _ :: _) :: _) _ _; first | refine W.gt ?_ | refine W.gf ?_) | (show W _ _ _ _ _ _ [] _ _; refine W.of (.done ?_)) | (apply W.of; constructor <;> first | (show W _ _ _ _ _ _ _ _ _) | (intro (al : Nat) h st; show W _ _ _ _ _ _ _ _ _) | (intro _ h st; show W _ _ _ _ _ _ _ _ _) | exact Sd)))
    refine ⟨_, rfl, ?_, rfl⟩
    rw [show (decide ((p : Int) < (len : Nat)) : Bool) = decide (p < len) from decide_eq_decide.2 (by omega)]
    rfl
  · rw [if_neg hk]
    have hq : (((kd : Nat) : Int) == 1) = false := q_f (by omega)
    (repeat (first | (show W _ _ _ _ _ _ (.code (cond _ _ _) :: _) _ _; first | refine W.ct ?_ | refine W.cf ?_) | (show W _ _ _ _ _ _ (.ins (cond _ _ _ :: _) :: _) _ _; first | refine W.gt ?_ | refine W.gf ?_) | (show W _ _ _ _ _ _ [] _ _; refine W.of (.done ?_)) | (apply W.of; constructor <;> first | (show W _ _ _ _ _ _ _ _ _) | (intro (al : Nat) h st; show W _ _ _ _ _ _ _ _ _) | (intro _ h st; show W _ _ _ _ _ _ _ _ _) | exact Sd)))
    rw [hq]
    (repeat (first | (show W _ _ _ _ _ _ (.code (cond _ _ _) :: _) _ _; first | refine W.ct ?_ | refine W.cf ?_) | (show W _ _ _ _ _ _ (.ins (cond _ _ _ :: _) :: _) _ _; first | refine W.gt ?_ | refine W.gf ?_) | (show W _ _ _ _ _ _ [] _ _; refine W.of (.done ?_)) | (apply W.of; constructor <;> first | (show W _ _ _ _ _ _ _ _ _) | (intro (al : Nat) h st; show W _ _ _ _ _ _ _ _ _) | (intro _ h st; show W _ _ _ _ _ _ _ _ _) | exact Sd))); refine W.of (.ag (.dz rfl rfl (d_load1 g2 rfl) rfl (.gd (b := false) rfl .nil)) ?_)
    (repeat (first | (show W _ _ _ _ _ _ (.code (cond _ _ _) :: _) _ _; first | refine W.ct ?_ | refine W.cf ?_) | (show W _ _ _ _ _ _ (.ins (cond _ _ _ :: _) :: _) _ _; first | refine W.gt ?_ | refine W.gf ?_) | (show W _ _ _ _ _ _ [] _ _; refine W.of (.done ?_)) | (apply W.of; constructor <;> first | (show W _ _ _ _ _ _ _ _ _) | (intro (al : Nat) h st; show W _ _ _ _ _ _ _ _ _) | (intro _ h st; show W _ _ _ _ _ _ _ _ _) | exact Sd)))
    exact ⟨_, rfl, rfl, rfl⟩
end
noncomputable def kPBelow (args : List AV) (h : AHeap) : Option (AV × AHeap) := match args with
  | [.ptr X 0, .int .i64 (.ofNat n), .int .i64 (.ofNat i)] => rowK h X fun l => match l with
    | .ptr M 0 :: _ => sel (Nat.blt X h.next) (match memWord h M n i with
      | some (w, len) => some (.tuple [.int .i64 (Int.ofNat (ppN w)), .bool (sel (Nat.beq (kindM (flN w)) 1) (Nat.blt (ppN w) len) false)], AHeap.bump h 3)
      | none => none) none
    | _ => none
  | _ => none
theorem kPBelow_ok (hO : OFree O) {args : List AV} {h h' : AHeap} {v : AV} (x : kPBelow args h = some (v, h')) : Runs O tab n_pmap_Map_below args h v h' := by
  unfold kPBelow at x
  split at x
  · obtain ⟨e, es, s, ro, l, hg, x⟩ := rowK_ok x
    split at x
    · obtain ⟨c0, x⟩ := selN x
      split at x
      · rename_i w len hw
        obtain ⟨id, off, L, N, hm, h1, h2, hn, hi, hL, hwe⟩ := memWord_ok hw
        cases x
        exact (p_below hO hg (blt_of c0) hm h1 h2 hn hi hL hwe).drop hO (hO.free _ rfl) rfl fun hw => AHeap.bump_less hw rfl fun _ hj => pbH_get hj
      · cases x
    · cases x
  · cases x
end Go.Proofs.YtlkfclgkinaibaaGreat

namespace Go.Proofs.YtlkfclgkinaibaaGreat
variable {O : Nat → Option FSpec}
section
variable {h : AHeap} {M id off len L N n i v f p : Nat}
theorem shrI {c : Nat} (hc : c ≤ 63) : Does (.bin .shr) [.int .u64 (v : Nat), .int .i64 (c : Nat)] h (.int .u64 ((v >>> c : Nat) : Int)) h := ⟨rfl, by
  have h0 : ¬ ((c : Nat) : Int) < 0 := by omega
  simp only [aop, binInt, if_neg h0, Option.map_some]
  rw [show ((c : Nat) : Int).toNat.min IntKind.u64.bits = c by rw [Int.toNat_natCast]; show Nat.min c 64 = c; exact Nat.min_eq_left (by omega)]
  rw [Int.fdiv_eq_ediv_of_nonneg _ (by have : (0 : Int) < 2 ^ c := Int.pow_pos (by decide); omega), Nat.shiftRight_eq_div_pow]
  simp⟩
theorem k_low9 (hO : OFree O) (hv : v < 2 ^ 64) : Runs O tab n_pte_low [.int .u64 (v : Nat), .int .i64 9] h (.int .u64 ((v % 2 ^ 9 : Nat) : Int)) h := by
  refine runs_w (fun _ _ _ x => progI_call (hO.free _ rfl) rfl x) Njs rfl ?_
  (repeat (first | (show W _ _ _ _ _ _ (.code (cond _ _ _) :: _) _ _; first | refine W.ct ?_ | refine W.cf ?_) | (show W _ _ _ _ _ _ (.ins (cond _ _ _ :: _) :: _) _ _; first | refine W.gt ?_ | refine W.gf ?_) | (show W _ _ _ _ _ _ [] _ _; refine W.of (.done ?_)) | (apply W.of; constructor <;> first | (show W _ _ _ _ _ _ _ _ _) | (intro (al : Nat) h st; show W _ _ _ _ _ _ _ _ _) | (intro _ h st; show W _ _ _ _ _ _ _ _ _) | exact Sd)))
  have hx : Does (.bin .sub) [.int .u64 (IntKind.u64.wrap (1 * 2 ^ ((9 : Int).toNat.min IntKind.u64.bits))), .int .u64 1] h (.int .u64 ((2 ^ 9 - 1 : Nat) : Int)) h := ⟨rfl, rfl⟩
  (repeat (first | (show W _ _ _ _ _ _ (.code (cond _ _ _) :: _) _ _; first | refine W.ct ?_ | refine W.cf ?_) | (show W _ _ _ _ _ _ (.ins (cond _ _ _ :: _) :: _) _ _; first | refine W.gt ?_ | refine W.gf ?_) | (show W _ _ _ _ _ _ [] _ _; refine W.of (.done ?_)) | (apply W.of; constructor <;> first | (show W _ _ _ _ _ _ _ _ _) | (intro (al : Nat) h st; show W _ _ _ _ _ _ _ _ _) | (intro _ h st; show W _ _ _ _ _ _ _ _ _) | exact Sd))); refine W.do (ho := hx) (w := ?_)
  (repeat (first | (show W _ _ _ _ _ _ (.code (cond _ _ _) :: _) _ _; first | refine W.ct ?_ | refine W.cf ?_) | (show W _ _ _ _ _ _ (.ins (cond _ _ _ :: _) :: _) _ _; first | refine W.gt ?_ | refine W.gf ?_) | (show W _ _ _ _ _ _ [] _ _; refine W.of (.done ?_)) | (apply W.of; constructor <;> first | (show W _ _ _ _ _ _ _ _ _) | (intro (al : Nat) h st; show W _ _ _ _ _ _ _ _ _) | (intro _ h st; show W _ _ _ _ _ _ _ _ _) | exact Sd)))
  exact ⟨_, rfl, congrArg (AV.int .u64) (band_low (m := 9) hv (by omega)), rfl⟩
theorem k_Index (hO : OFree O) (hv : v < 2 ^ 62) {l : Nat} (hl : l < 3) : Runs O tab n_pte_Index [.int .i64 (v : Nat), .int .i64 (l : Nat)] h (.int .i64 ((v >>> (9 * l)) % 512 : Nat)) h := by
  have h3 : ∀ c, v >>> c < 2 ^ 64 := fun c => Nat.lt_of_le_of_lt (by rw [Nat.shiftRight_eq_div_pow]; exact Nat.div_le_self _ _) (Nat.lt_of_lt_of_le hv (by decide))
  have h4 : ∀ c, (v >>> c) % 2 ^ 9 < 2 ^ 63 := fun c => Nat.lt_of_lt_of_le (Nat.mod_lt _ (by decide)) (by decide)
  refine runs_w (fun _ _ _ x => progI_call (hO.free _ rfl) rfl x) Njs rfl ?_
  have hq1 : decide ((l : Int) < 0) = false := d_f (by omega)
  have hq2 : decide ((l : Int) ≥ 3) = false := d_f (by omega)
  (repeat (first | (show W _ _ _ _ _ _ (.code (cond _ _ _) :: _) _ _; first | refine W.ct ?_ | refine W.cf ?_) | (show W _ _ _ _ _ _ (.ins (cond _ _ _ :: _) :: _) _ _; first | refine W.gt ?_ | refine W.gf ?_) | (show W _ _ _ _ _ _ [] _ _; refine W.of (.done ?_)) | (apply W.of; constructor <;> first | (show W _ _ _ _ _ _ _ _ _) | (intro (al : Nat) h st; show W _ _ _ _ _ _ _ _ _) | (intro _ h st; show W _ _ _ _ _ _ _ _ _) | exact Sd)))
  rw [show IntKind.i64.wrap (9 * (l : Int)) = ((9 * l : Nat) : Int) by rw [wrap64 (by omega) (by omega)]; omega]
  rw [show IntKind.u64.wrap (v : Int) = (v : Int) from wrap_id (k := .u64) (by show (0 : Int) ≤ _; omega) (by show (_ : Int) ≤ 18446744073709551615; omega)]
  refine W.do (ho := shrI (c := 9 * l) (by omega)) (w := ?_)
  refine W.cx (hr := k_low9 hO (h3 (9 * l))) (w := ?_)
  refine W.do (ho := conv64 (h4 (9 * l))) (w := ?_)
  (repeat (first | (show W _ _ _ _ _ _ (.code (cond _ _ _) :: _) _ _; first | refine W.ct ?_ | refine W.cf ?_) | (show W _ _ _ _ _ _ (.ins (cond _ _ _ :: _) :: _) _ _; first | refine W.gt ?_ | refine W.gf ?_) | (show W _ _ _ _ _ _ [] _ _; refine W.of (.done ?_)) | (apply W.of; constructor <;> first | (show W _ _ _ _ _ _ _ _ _) | (intro (al : Nat) h st; show W _ _ _ _ _ _ _ _ _) | (intro _ h st; show W _ _ _ _ _ _ _ _ _) | exact Sd)))
  exact ⟨_, rfl, rfl, rfl⟩
end
noncomputable def kIndex (args : List AV) (h : AHeap) : Option (AV × AHeap) := match args with
  | [.int .i64 (.ofNat v), .int .i64 (.ofNat l)] => sel (Nat.blt v 4611686018427387904) (sel (Nat.blt l 3) (some (.int .i64 (Int.ofNat (Nat.mod (Nat.shiftRight v (Nat.mul 9 l)) 512)), h)) none) none
  | _ => none
theorem kIndex_ok (hO : OFree O) {args : List AV} {h h' : AHeap} {v : AV} (x : kIndex args h = some (v, h')) : Runs O tab n_pte_Index args h v h' := by
  unfold kIndex at x
  split at x
  · obtain ⟨c1, x⟩ := selN x
    obtain ⟨c2, x⟩ := selN x
    cases x
    exact k_Index hO (Nat.lt_of_lt_of_le (blt_of c1) (by decide)) (blt_of c2)
  · cases x
noncomputable def isTab (w len : Nat) : Bool := sel (Nat.beq (kindM (flN w)) 1) (Nat.blt (ppN w) len) false
section
variable {h : AHeap} {M id off len L N n i v f p root w2 w1 : Nat}
theorem b_below2 (hO : OFree O) (hw : memWord h M n i = some (v, len)) : Runs O tab n_walk_below [.ptr M 0, .int .i64 (n : Nat), .int .i64 (i : Nat)] h (.tuple [.int .i64 (ppN v : Nat), .bool (isTab v len)]) (h.bump 4) := by
  obtain ⟨id, off, L, N, hm, h1, h2, hn, hi, hL, hwe⟩ := memWord_ok hw
  exact b_below hO hm h1 h2 hn hi hL hwe
theorem place_frames (hO : OFree O) (hw : memWord h M n i = some (v, len)) : Runs O tab n_phys_Memory_Frames [.ptr M 0] h (.int .i64 len) h := by
  obtain ⟨id, off, L, N, hm, _⟩ := memWord_ok hw
  exact k_Frames hO hm
theorem placeA (hO : OFree O) (hv : v < 134217728) (hr : root < len) (hw : memWord h M root ((v >>> (9 * 2)) % 512) = some (w2, len)) (ht : isTab w2 len = false) :
    Runs O tab n_walk_Place [.ptr M 0, .int .i64 (root : Nat), .int .i64 (v : Nat)] h (.tuple [.int .i64 0, .int .i64 0, .bool false]) (h.bump 4) := by
  refine runs_w (fun _ _ _ x => progI_call (hO.free _ rfl) rfl x) Njs rfl ?_
  have q1 : decide ((root : Int) < 0) = false := d_f (by omega)
  have q2 : decide ((root : Int) ≥ (len : Nat)) = false := d_f (by omega)
  have q3 : decide ((v : Int) < 0) = false := d_f (by omega)
  have q4 : decide ((v : Int) ≥ 134217728) = false := d_f (by omega)
  (repeat (first | (show W _ _ _ _ _ _ (.code (cond _ _ _) :: _) _ _; first | refine W.ct ?_ | refine W.cf ?_) | (show W _ _ _ _ _ _ (.ins (cond _ _ _ :: _) :: _) _ _; first | refine W.gt ?_ | refine W.gf ?_) | (show W _ _ _ _ _ _ [] _ _; refine W.of (.done ?_)) | (apply W.of; constructor <;> first | (show W _ _ _ _ _ _ _ _ _) | (intro (al : Nat) h st; show W _ _ _ _ _ _ _ _ _) | (intro _ h st; show W _ _ _ _ _ _ _ _ _) | exact Sd)))
  refine W.cx (hr := place_frames hO hw) (w := ?_)
  (repeat (first | (show W _ _ _ _ _ _ (.code (cond _ _ _) :: _) _ _; first | refine W.ct ?_ | refine W.cf ?_) | (show W _ _ _ _ _ _ (.ins (cond _ _ _ :: _) :: _) _ _; first | refine W.gt ?_ | refine W.gf ?_) | (show W _ _ _ _ _ _ [] _ _; refine W.of (.done ?_)) | (apply W.of; constructor <;> first | (show W _ _ _ _ _ _ _ _ _) | (intro (al : Nat) h st; show W _ _ _ _ _ _ _ _ _) | (intro _ h st; show W _ _ _ _ _ _ _ _ _) | exact Sd)))
  refine W.loopx (fun _ : Nat => [(0, .ptr M 0), (2, .int .i64 (v : Nat)), (9, .int .i64 (root : Nat)), (10, .int .i64 ((2 : Nat) : Int))]) (fun _ => h) (fun _ => True) (fun _ => 0) 0 (by unfold rounds; omega) Sbs rfl trivial ?_
  intro y _
  (repeat (first | (show W _ _ _ _ _ _ (.code (cond _ _ _) :: _) _ _; first | refine W.ct ?_ | refine W.cf ?_) | (show W _ _ _ _ _ _ (.ins (cond _ _ _ :: _) :: _) _ _; first | refine W.gt ?_ | refine W.gf ?_) | (show W _ _ _ _ _ _ [] _ _; refine W.of (.done ?_)) | (apply W.of; constructor <;> first | (show W _ _ _ _ _ _ _ _ _) | (intro (al : Nat) h st; show W _ _ _ _ _ _ _ _ _) | (intro _ h st; show W _ _ _ _ _ _ _ _ _) | exact Sd)))
  refine W.cx (hr := k_Index hO (Nat.lt_of_lt_of_le hv (by decide)) (l := 2) (by omega)) (w := ?_)
  refine W.cx (hr := b_below2 hO hw) (w := ?_)
  rw [ht]
  (repeat (first | (show W _ _ _ _ _ _ (.code (cond _ _ _) :: _) _ _; first | refine W.ct ?_ | refine W.cf ?_) | (show W _ _ _ _ _ _ (.ins (cond _ _ _ :: _) :: _) _ _; first | refine W.gt ?_ | refine W.gf ?_) | (show W _ _ _ _ _ _ [] _ _; refine W.of (.done ?_)) | (apply W.of; constructor <;> first | (show W _ _ _ _ _ _ _ _ _) | (intro (al : Nat) h st; show W _ _ _ _ _ _ _ _ _) | (intro _ h st; show W _ _ _ _ _ _ _ _ _) | exact Sd)))
  exact ⟨_, rfl, rfl, rfl⟩
theorem placeB (hO : OFree O) (hv : v < 134217728) (hr : root < len) (hw : memWord h M root ((v >>> (9 * 2)) % 512) = some (w2, len)) (ht : isTab w2 len = true) (hw1 : memWord (h.bump 4) M (ppN w2) ((v >>> (9 * 1)) % 512) = some (w1, len)) (ht1 : isTab w1 len = false) :
    Runs O tab n_walk_Place [.ptr M 0, .int .i64 (root : Nat), .int .i64 (v : Nat)] h (.tuple [.int .i64 0, .int .i64 0, .bool false]) (h.bump 8) := by
  refine runs_w (fun _ _ _ x => progI_call (hO.free _ rfl) rfl x) Njs rfl ?_
  have q1 : decide ((root : Int) < 0) = false := d_f (by omega)
  have q2 : decide ((root : Int) ≥ (len : Nat)) = false := d_f (by omega)
  have q3 : decide ((v : Int) < 0) = false := d_f (by omega)
  have q4 : decide ((v : Int) ≥ 134217728) = false := d_f (by omega)
  (repeat (first | (show W _ _ _ _ _ _ (.code (cond _ _ _) :: _) _ _; first | refine W.ct ?_ | refine W.cf ?_) | (show W _ _ _ _ _ _ (.ins (cond _ _ _ :: _) :: _) _ _; first | refine W.gt ?_ | refine W.gf ?_) | (show W _ _ _ _ _ _ [] _ _; refine W.of (.done ?_)) | (apply W.of; constructor <;> first | (show W _ _ _ _ _ _ _ _ _) | (intro (al : Nat) h st; show W _ _ _ _ _ _ _ _ _) | (intro _ h st; show W _ _ _ _ _ _ _ _ _) | exact Sd)))
  refine W.cx (hr := place_frames hO hw) (w := ?_)
  (repeat (first | (show W _ _ _ _ _ _ (.code (cond _ _ _) :: _) _ _; first | refine W.ct ?_ | refine W.cf ?_) | (show W _ _ _ _ _ _ (.ins (cond _ _ _ :: _) :: _) _ _; first | refine W.gt ?_ | refine W.gf ?_) | (show W _ _ _ _ _ _ [] _ _; refine W.of (.done ?_)) | (apply W.of; constructor <;> first | (show W _ _ _ _ _ _ _ _ _) | (intro (al : Nat) h st; show W _ _ _ _ _ _ _ _ _) | (intro _ h st; show W _ _ _ _ _ _ _ _ _) | exact Sd)))
  refine W.loopx (fun y : Nat => [(0, .ptr M 0), (2, .int .i64 (v : Nat)), (9, .int .i64 ((if y = 0 then root else ppN w2 : Nat) : Nat)), (10, .int .i64 ((2 - y : Nat) : Int))]) (fun y => h.bump (4 * y)) (fun y => y < 2) (fun y => 2 - y) 0 (by unfold rounds; omega) Sbs rfl (by omega) ?_
  intro y hy
  rcases (by omega : y = 0 ∨ y = 1) with rfl | rfl
  · (repeat (first | (show W _ _ _ _ _ _ (.code (cond _ _ _) :: _) _ _; first | refine W.ct ?_ | refine W.cf ?_) | (show W _ _ _ _ _ _ (.ins (cond _ _ _ :: _) :: _) _ _; first | refine W.gt ?_ | refine W.gf ?_) | (show W _ _ _ _ _ _ [] _ _; refine W.of (.done ?_)) | (apply W.of; constructor <;> first | (show W _ _ _ _ _ _ _ _ _) | (intro (al : Nat) h st; show W _ _ _ _ _ _ _ _ _) | (intro _ h st; show W _ _ _ _ _ _ _ _ _) | exact Sd)))
    refine W.cx (hr := k_Index hO (Nat.lt_of_lt_of_le hv (by decide)) (l := 2) (by omega)) (w := ?_)
    refine W.cx (hr := b_below2 hO hw) (w := ?_)
    rw [ht]
    (repeat (first | (show W _ _ _ _ _ _ (.code (cond _ _ _) :: _) _ _; first | refine W.ct ?_ | refine W.cf ?_) | (show W _ _ _ _ _ _ (.ins (cond _ _ _ :: _) :: _) _ _; first | refine W.gt ?_ | refine W.gf ?_) | (show W _ _ _ _ _ _ [] _ _; refine W.of (.done ?_)) | (apply W.of; constructor <;> first | (show W _ _ _ _ _ _ _ _ _) | (intro (al : Nat) h st; show W _ _ _ _ _ _ _ _ _) | (intro _ h st; show W _ _ _ _ _ _ _ _ _) | exact Sd)))
    refine W.of (.lp ?_)
    exact ⟨1, by omega, by omega, Sbs, rfl⟩
  · (repeat (first | (show W _ _ _ _ _ _ (.code (cond _ _ _) :: _) _ _; first | refine W.ct ?_ | refine W.cf ?_) | (show W _ _ _ _ _ _ (.ins (cond _ _ _ :: _) :: _) _ _; first | refine W.gt ?_ | refine W.gf ?_) | (show W _ _ _ _ _ _ [] _ _; refine W.of (.done ?_)) | (apply W.of; constructor <;> first | (show W _ _ _ _ _ _ _ _ _) | (intro (al : Nat) h st; show W _ _ _ _ _ _ _ _ _) | (intro _ h st; show W _ _ _ _ _ _ _ _ _) | exact Sd)))
    refine W.cx (hr := k_Index hO (Nat.lt_of_lt_of_le hv (by decide)) (l := 1) (by omega)) (w := ?_)
    refine W.cx (hr := b_below2 hO hw1) (w := ?_)
    rw [ht1]
    (repeat (first | (show W _ _ _ _ _ _ (.code (cond _ _ _) :: _) _ _; first | refine W.ct ?_ | refine W.cf ?_) | (show W _ _ _ _ _ _ (.ins (cond _ _ _ :: _) :: _) _ _; first | refine W.gt ?_ | refine W.gf ?_) | (show W _ _ _ _ _ _ [] _ _; refine W.of (.done ?_)) | (apply W.of; constructor <;> first | (show W _ _ _ _ _ _ _ _ _) | (intro (al : Nat) h st; show W _ _ _ _ _ _ _ _ _) | (intro _ h st; show W _ _ _ _ _ _ _ _ _) | exact Sd)))
    exact ⟨_, rfl, rfl, rfl⟩
theorem placeC (hO : OFree O) (hv : v < 134217728) (hr : root < len) (hw : memWord h M root ((v >>> (9 * 2)) % 512) = some (w2, len)) (ht : isTab w2 len = true) (hw1 : memWord (h.bump 4) M (ppN w2) ((v >>> (9 * 1)) % 512) = some (w1, len)) (ht1 : isTab w1 len = true) :
    Runs O tab n_walk_Place [.ptr M 0, .int .i64 (root : Nat), .int .i64 (v : Nat)] h (.tuple [.int .i64 (ppN w1 : Nat), .int .i64 ((v >>> (9 * 0)) % 512 : Nat), .bool true]) (h.bump 8) := by
  refine runs_w (fun _ _ _ x => progI_call (hO.free _ rfl) rfl x) Njs rfl ?_
  have q1 : decide ((root : Int) < 0) = false := d_f (by omega)
  have q2 : decide ((root : Int) ≥ (len : Nat)) = false := d_f (by omega)
  have q3 : decide ((v : Int) < 0) = false := d_f (by omega)
  have q4 : decide ((v : Int) ≥ 134217728) = false := d_f (by omega)
  (repeat (first | (show W _ _ _ _ _ _ (.code (cond _ _ _) :: _) _ _; first | refine W.ct ?_ | refine W.cf ?_) | (show W _ _ _ _ _ _ (.ins (cond _ _ _ :: _) :: _) _ _; first | refine W.gt ?_ | refine W.gf ?_) | (show W _ _ _ _ _ _ [] _ _; refine W.of (.done ?_)) | (apply W.of; constructor <;> first | (show W _ _ _ _ _ _ _ _ _) | (intro (al : Nat) h st; show W _ _ _ _ _ _ _ _ _) | (intro _ h st; show W _ _ _ _ _ _ _ _ _) | exact Sd)))
  refine W.cx (hr := place_frames hO hw) (w := ?_)
  (repeat (first | (show W _ _ _ _ _ _ (.code (cond _ _ _) :: _) _ _; first | refine W.ct ?_ | refine W.cf ?_) | (show W _ _ _ _ _ _ (.ins (cond _ _ _ :: _) :: _) _ _; first | refine W.gt ?_ | refine W.gf ?_) | (show W _ _ _ _ _ _ [] _ _; refine W.of (.done ?_)) | (apply W.of; constructor <;> first | (show W _ _ _ _ _ _ _ _ _) | (intro (al : Nat) h st; show W _ _ _ _ _ _ _ _ _) | (intro _ h st; show W _ _ _ _ _ _ _ _ _) | exact Sd)))
  refine W.loopx (fun y : Nat => [(0, .ptr M 0), (2, .int .i64 (v : Nat)), (9, .int .i64 ((if y = 0 then root else if y = 1 then ppN w2 else ppN w1 : Nat) : Nat)), (10, .int .i64 ((2 - y : Nat) : Int))]) (fun y => h.bump (4 * y)) (fun y => y < 3) (fun y => 3 - y) 0 (by unfold rounds; omega) Sbs rfl (by omega) ?_
  intro y hy
  rcases (by omega : y = 0 ∨ y = 1 ∨ y = 2) with rfl | rfl | rfl
  · (repeat (first | (show W _ _ _ _ _ _ (.code (cond _ _ _) :: _) _ _; first | refine W.ct ?_ | refine W.cf ?_) | (show W _ _ _ _ _ _ (.ins (cond _ _ _ :: _) :: _) _ _; first | refine W.gt ?_ | refine W.gf ?_) | (show W _ _ _ _ _ _ [] _ _; refine W.of (.done ?_)) | (apply W.of; constructor <;> first | (show W _ _ _ _ _ _ _ _ _) | (intro (al : Nat) h st; show W _ _ _ _ _ _ _ _ _) | (intro _ h st; show W _ _ _ _ _ _ _ _ _) | exact Sd)))
    refine W.cx (hr := k_Index hO (Nat.lt_of_lt_of_le hv (by decide)) (l := 2) (by omega)) (w := ?_)
    refine W.cx (hr := b_below2 hO hw) (w := ?_)
    rw [ht]
    (repeat (first | (show W _ _ _ _ _ _ (.code (cond _ _ _) :: _) _ _; first | refine W.ct ?_ | refine W.cf ?_) | (show W _ _ _ _ _ _ (.ins (cond _ _ _ :: _) :: _) _ _; first | refine W.gt ?_ | refine W.gf ?_) | (show W _ _ _ _ _ _ [] _ _; refine W.of (.done ?_)) | (apply W.of; constructor <;> first | (show W _ _ _ _ _ _ _ _ _) | (intro (al : Nat) h st; show W _ _ _ _ _ _ _ _ _) | (intro _ h st; show W _ _ _ _ _ _ _ _ _) | exact Sd)))
    refine W.of (.lp ?_)
    exact ⟨1, by omega, by omega, Sbs, rfl⟩
  · (repeat (first | (show W _ _ _ _ _ _ (.code (cond _ _ _) :: _) _ _; first | refine W.ct ?_ | refine W.cf ?_) | (show W _ _ _ _ _ _ (.ins (cond _ _ _ :: _) :: _) _ _; first | refine W.gt ?_ | refine W.gf ?_) | (show W _ _ _ _ _ _ [] _ _; refine W.of (.done ?_)) | (apply W.of; constructor <;> first | (show W _ _ _ _ _ _ _ _ _) | (intro (al : Nat) h st; show W _ _ _ _ _ _ _ _ _) | (intro _ h st; show W _ _ _ _ _ _ _ _ _) | exact Sd)))
    refine W.cx (hr := k_Index hO (Nat.lt_of_lt_of_le hv (by decide)) (l := 1) (by omega)) (w := ?_)
    refine W.cx (hr := b_below2 hO hw1) (w := ?_)
    rw [ht1]
    (repeat (first | (show W _ _ _ _ _ _ (.code (cond _ _ _) :: _) _ _; first | refine W.ct ?_ | refine W.cf ?_) | (show W _ _ _ _ _ _ (.ins (cond _ _ _ :: _) :: _) _ _; first | refine W.gt ?_ | refine W.gf ?_) | (show W _ _ _ _ _ _ [] _ _; refine W.of (.done ?_)) | (apply W.of; constructor <;> first | (show W _ _ _ _ _ _ _ _ _) | (intro (al : Nat) h st; show W _ _ _ _ _ _ _ _ _) | (intro _ h st; show W _ _ _ _ _ _ _ _ _) | exact Sd)))
    refine W.of (.lp ?_)
    exact ⟨2, by omega, by omega, Sbs, rfl⟩
  · (repeat (first | (show W _ _ _ _ _ _ (.code (cond _ _ _) :: _) _ _; first | refine W.ct ?_ | refine W.cf ?_) | (show W _ _ _ _ _ _ (.ins (cond _ _ _ :: _) :: _) _ _; first | refine W.gt ?_ | refine W.gf ?_) | (show W _ _ _ _ _ _ [] _ _; refine W.of (.done ?_)) | (apply W.of; constructor <;> first | (show W _ _ _ _ _ _ _ _ _) | (intro (al : Nat) h st; show W _ _ _ _ _ _ _ _ _) | (intro _ h st; show W _ _ _ _ _ _ _ _ _) | exact Sd)))
    refine W.cx (hr := k_Index hO (Nat.lt_of_lt_of_le hv (by decide)) (l := 0) (by omega)) (w := ?_)
    (repeat (first | (show W _ _ _ _ _ _ (.code (cond _ _ _) :: _) _ _; first | refine W.ct ?_ | refine W.cf ?_) | (show W _ _ _ _ _ _ (.ins (cond _ _ _ :: _) :: _) _ _; first | refine W.gt ?_ | refine W.gf ?_) | (show W _ _ _ _ _ _ [] _ _; refine W.of (.done ?_)) | (apply W.of; constructor <;> first | (show W _ _ _ _ _ _ _ _ _) | (intro (al : Nat) h st; show W _ _ _ _ _ _ _ _ _) | (intro _ h st; show W _ _ _ _ _ _ _ _ _) | exact Sd)))
    exact ⟨_, rfl, rfl, rfl⟩
end
end Go.Proofs.YtlkfclgkinaibaaGreat

namespace Go.Proofs.YtlkfclgkinaibaaGreat
variable {O : Nat → Option FSpec}
noncomputable def no3 (h : AHeap) (c : Nat) : Option (AV × AHeap) := some (.tuple [.int .i64 0, .int .i64 0, .bool false], h.bump c)
noncomputable def kPlace (args : List AV) (h : AHeap) : Option (AV × AHeap) := match args with
  | [.ptr M 0, .int .i64 (.ofNat root), .int .i64 (.ofNat v)] => sel (Nat.blt v 134217728) (match memWord h M root (Nat.mod (Nat.shiftRight v (Nat.mul 9 2)) 512) with
    | some (w2, len) => sel (Nat.blt root len) (sel (isTab w2 len) (match memWord (h.bump 4) M (ppN w2) (Nat.mod (Nat.shiftRight v (Nat.mul 9 1)) 512) with
      | some (w1, len1) => sel (Nat.beq len1 len) (sel (isTab w1 len) (some (.tuple [.int .i64 (Int.ofNat (ppN w1)), .int .i64 (Int.ofNat (Nat.mod (Nat.shiftRight v (Nat.mul 9 0)) 512)), .bool true], h.bump 8)) (no3 h 8)) none
      | none => none) (no3 h 4)) none
    | none => none) none
  | _ => none
theorem selC {α : Type} {b : Bool} {x y : Option α} {r : α} (h : sel b x y = some r) : (b = true ∧ x = some r) ∨ (b = false ∧ y = some r) := by
  cases b with
  | true => exact .inl ⟨rfl, h⟩
  | false => exact .inr ⟨rfl, h⟩
theorem kPlace_ok (hO : OFree O) {args : List AV} {h h' : AHeap} {v : AV} (x : kPlace args h = some (v, h')) : Runs O tab n_walk_Place args h v h' := by
  unfold kPlace at x
  split at x
  · obtain ⟨c1, x⟩ := selN x
    have c1 := blt_of c1
    split at x
    · rename_i w2 len hw
      obtain ⟨c2, x⟩ := selN x
      have c2 := blt_of c2
      rcases selC x with ⟨t2, x⟩ | ⟨t2, x⟩
      · split at x
        · rename_i w1 len1 hw1
          obtain ⟨c3, x⟩ := selN x
          obtain rfl := Nat.eq_of_beq_eq_true c3
          rcases selC x with ⟨t1, x⟩ | ⟨t1, x⟩
          · cases x; exact placeC hO c1 c2 hw t2 hw1 t1
          · cases x; exact placeB hO c1 c2 hw t2 hw1 t1
        · cases x
      · cases x; exact placeA hO c1 c2 hw t2
    · cases x
  · cases x
noncomputable def idxI (x : Int) : List AV → Nat → Nat → Option Int
  | _, 0, _ => some (-1)
  | .int .i64 y :: r, n + 1, i => sel (eqK x y) (some (Int.ofNat i)) (idxI x r n (i + 1))
  | _, _ + 1, _ => none
structure SlAt (h : AHeap) (s : AV) (id base len : Nat) (cs : List AV) : Prop where
  ln : sliceLen s = some len
  nj : s.notJunk = some s
  ix : ∀ i, i < len → Does (.indexs 1) [s, .int .i64 (i : Nat)] h (.ptr id (base + i)) h
  rw : ∃ e es b c, h.get id = some (.row e es b c (.vals cs))
theorem idx_runs (hO : OFree O) {h : AHeap} {s : AV} {id base len : Nat} {cs : List AV} {x r : Int} (hs : SlAt h s id base len cs) (hl : len < 1000000) (hr : idxI x (cs.drop base) len 0 = some r) :
    Runs O tab n_slices_Index_int_int [s, .int .i64 x] h (.int .i64 r) h := by
  have hnj := hs.nj
  obtain ⟨e, es, b, c, hg⟩ := hs.rw
  refine runs_w (fun _ _ _ x => progI_call (hO.free _ rfl) rfl x) ⟨hnj, rfl, trivial⟩ rfl ?_
  (repeat (first | (show W _ _ _ _ _ _ (.code (cond _ _ _) :: _) _ _; first | refine W.ct ?_ | refine W.cf ?_) | (show W _ _ _ _ _ _ (.ins (cond _ _ _ :: _) :: _) _ _; first | refine W.gt ?_ | refine W.gf ?_) | (show W _ _ _ _ _ _ [] _ _; refine W.of (.done ?_)) | (apply W.of; constructor <;> first | (show W _ _ _ _ _ _ _ _ _) | (intro (al : Nat) h st; show W _ _ _ _ _ _ _ _ _) | (intro _ h st; show W _ _ _ _ _ _ _ _ _) | exact Sd)))
  have hlen : Does .lens [s] h (.int .i64 (len : Nat)) h := ⟨rfl, by simp only [aop, hs.ln]; rfl⟩
  (repeat (first | (show W _ _ _ _ _ _ (.code (cond _ _ _) :: _) _ _; first | refine W.ct ?_ | refine W.cf ?_) | (show W _ _ _ _ _ _ (.ins (cond _ _ _ :: _) :: _) _ _; first | refine W.gt ?_ | refine W.gf ?_) | (show W _ _ _ _ _ _ [] _ _; refine W.of (.done ?_)) | (apply W.of; constructor <;> first | (show W _ _ _ _ _ _ _ _ _) | (intro (al : Nat) h st; show W _ _ _ _ _ _ _ _ _) | (intro _ h st; show W _ _ _ _ _ _ _ _ _) | exact Sd))); refine W.do (ho := hlen) (w := ?_)
  (repeat (first | (show W _ _ _ _ _ _ (.code (cond _ _ _) :: _) _ _; first | refine W.ct ?_ | refine W.cf ?_) | (show W _ _ _ _ _ _ (.ins (cond _ _ _ :: _) :: _) _ _; first | refine W.gt ?_ | refine W.gf ?_) | (show W _ _ _ _ _ _ [] _ _; refine W.of (.done ?_)) | (apply W.of; constructor <;> first | (show W _ _ _ _ _ _ _ _ _) | (intro (al : Nat) h st; show W _ _ _ _ _ _ _ _ _) | (intro _ h st; show W _ _ _ _ _ _ _ _ _) | exact Sd)))
  refine W.loopx (fun i : Nat => [(0, s), (1, .int .i64 x), (7, .int .i64 (len : Nat)), (8, .int .i64 (i : Nat))]) (fun _ => h) (fun i => i ≤ len ∧ idxI x (cs.drop (base + i)) (len - i) i = some r) (fun i => len - i) 0 (by unfold rounds; omega) Sbs rfl ⟨Nat.zero_le _, hr⟩ ?_
  intro i ⟨hi, hx⟩
  by_cases hlt : i < len
  · have q1 : decide ((i : Int) < (len : Nat)) = true := d_t (by omega)
    obtain ⟨n, hn⟩ : ∃ n, len - i = n + 1 := ⟨len - i - 1, by omega⟩
    rw [hn] at hx
    cases hc : cs.drop (base + i) with
    | nil => rw [hc] at hx; cases hx
    | cons a rest =>
      rw [hc] at hx
      cases a with
      | int k y =>
        cases k with
        | i64 =>
          have hgy : (Dat.vals cs).get (base + i) = some (.int .i64 y) := by
            show cs[base + i]? = _
            have := congrArg (fun l => l[0]?) hc
            simpa using this
          have hdr : cs.drop (base + (i + 1)) = rest := by
            rw [show base + (i + 1) = (base + i) + 1 by omega, ← List.drop_drop, hc]
            rfl
          have hx : sel (eqK x y) (some (Int.ofNat i)) (idxI x rest n (i + 1)) = some r := hx
          (repeat (first | (show W _ _ _ _ _ _ (.code (cond _ _ _) :: _) _ _; first | refine W.ct ?_ | refine W.cf ?_) | (show W _ _ _ _ _ _ (.ins (cond _ _ _ :: _) :: _) _ _; first | refine W.gt ?_ | refine W.gf ?_) | (show W _ _ _ _ _ _ [] _ _; refine W.of (.done ?_)) | (apply W.of; constructor <;> first | (show W _ _ _ _ _ _ _ _ _) | (intro (al : Nat) h st; show W _ _ _ _ _ _ _ _ _) | (intro _ h st; show W _ _ _ _ _ _ _ _ _) | exact Sd)))
          (repeat (first | (show W _ _ _ _ _ _ (.code (cond _ _ _) :: _) _ _; first | refine W.ct ?_ | refine W.cf ?_) | (show W _ _ _ _ _ _ (.ins (cond _ _ _ :: _) :: _) _ _; first | refine W.gt ?_ | refine W.gf ?_) | (show W _ _ _ _ _ _ [] _ _; refine W.of (.done ?_)) | (apply W.of; constructor <;> first | (show W _ _ _ _ _ _ _ _ _) | (intro (al : Nat) h st; show W _ _ _ _ _ _ _ _ _) | (intro _ h st; show W _ _ _ _ _ _ _ _ _) | exact Sd))); refine W.do (ho := (hs.ix i hlt)) (w := ?_)
          (repeat (first | (show W _ _ _ _ _ _ (.code (cond _ _ _) :: _) _ _; first | refine W.ct ?_ | refine W.cf ?_) | (show W _ _ _ _ _ _ (.ins (cond _ _ _ :: _) :: _) _ _; first | refine W.gt ?_ | refine W.gf ?_) | (show W _ _ _ _ _ _ [] _ _; refine W.of (.done ?_)) | (apply W.of; constructor <;> first | (show W _ _ _ _ _ _ _ _ _) | (intro (al : Nat) h st; show W _ _ _ _ _ _ _ _ _) | (intro _ h st; show W _ _ _ _ _ _ _ _ _) | exact Sd))); refine W.do (ho := (d_load1 hg hgy)) (w := ?_)
          rcases selC hx with ⟨t, hx⟩ | ⟨t, hx⟩
          · have q2 : (x == y) = true := by rw [eqK_eq] at t; simpa using t
            cases hx
            (repeat (first | (show W _ _ _ _ _ _ (.code (cond _ _ _) :: _) _ _; first | refine W.ct ?_ | refine W.cf ?_) | (show W _ _ _ _ _ _ (.ins (cond _ _ _ :: _) :: _) _ _; first | refine W.gt ?_ | refine W.gf ?_) | (show W _ _ _ _ _ _ [] _ _; refine W.of (.done ?_)) | (apply W.of; constructor <;> first | (show W _ _ _ _ _ _ _ _ _) | (intro (al : Nat) h st; show W _ _ _ _ _ _ _ _ _) | (intro _ h st; show W _ _ _ _ _ _ _ _ _) | exact Sd)))
            exact ⟨_, rfl, rfl, rfl⟩
          · have q2 : (x == y) = false := by rw [eqK_eq] at t; simpa using t
            (repeat (first | (show W _ _ _ _ _ _ (.code (cond _ _ _) :: _) _ _; first | refine W.ct ?_ | refine W.cf ?_) | (show W _ _ _ _ _ _ (.ins (cond _ _ _ :: _) :: _) _ _; first | refine W.gt ?_ | refine W.gf ?_) | (show W _ _ _ _ _ _ [] _ _; refine W.of (.done ?_)) | (apply W.of; constructor <;> first | (show W _ _ _ _ _ _ _ _ _) | (intro (al : Nat) h st; show W _ _ _ _ _ _ _ _ _) | (intro _ h st; show W _ _ _ _ _ _ _ _ _) | exact Sd)))
            refine W.of (.lp ?_)
            exact ⟨i + 1, by omega, ⟨by omega, by rw [hdr, show len - (i + 1) = n by omega]; exact hx⟩, Sbs, rfl⟩
        | _ => cases hx
      | _ => cases hx
  · have q1 : decide ((i : Int) < (len : Nat)) = false := d_f (by omega)
    rw [show len - i = 0 by omega] at hx
    have hx : some (-1 : Int) = some r := by
      revert hx
      cases cs.drop (base + i) <;> exact fun q => q
    cases hx
    (repeat (first | (show W _ _ _ _ _ _ (.code (cond _ _ _) :: _) _ _; first | refine W.ct ?_ | refine W.cf ?_) | (show W _ _ _ _ _ _ (.ins (cond _ _ _ :: _) :: _) _ _; first | refine W.gt ?_ | refine W.gf ?_) | (show W _ _ _ _ _ _ [] _ _; refine W.of (.done ?_)) | (apply W.of; constructor <;> first | (show W _ _ _ _ _ _ _ _ _) | (intro (al : Nat) h st; show W _ _ _ _ _ _ _ _ _) | (intro _ h st; show W _ _ _ _ _ _ _ _ _) | exact Sd)))
    exact ⟨_, rfl, rfl, rfl⟩
noncomputable def kIdx (args : List AV) (h : AHeap) : Option (AV × AHeap) := match args with
  | [.sl id off len _, .int .i64 x] => rowK h id fun cs => sel (Nat.blt len 1000000) (match idxI x (cs.drop off) len 0 with
    | some r => some (.int .i64 r, h)
    | none => none) none
  | [.ssl id idx 1 len, .int .i64 x] => rowK h id fun cs => sel (Nat.blt len 1000000) (match idxI x (cs.drop idx) len 0 with
    | some r => some (.int .i64 r, h)
    | none => none) none
  | _ => none
theorem kIdx_ok (hO : OFree O) {args : List AV} {h h' : AHeap} {v : AV} (x : kIdx args h = some (v, h')) : Runs O tab n_slices_Index_int_int args h v h' := by
  unfold kIdx at x
  split at x
  · rename_i id off len cap y
    obtain ⟨e, es, s, ro, l, hg, x⟩ := rowK_ok x
    obtain ⟨c1, x⟩ := selN x
    split at x
    · rename_i r hr
      cases x
      refine idx_runs hO ⟨rfl, rfl, fun i hi => ⟨rfl, ?_⟩, ⟨_, _, _, _, hg⟩⟩ (blt_of c1) hr
      simp only [aop]
      rw [if_pos ⟨by omega, by omega⟩, Int.toNat_natCast, Nat.mul_one]
    · cases x
  · rename_i id idx len y
    obtain ⟨e, es, s, ro, l, hg, x⟩ := rowK_ok x
    obtain ⟨c1, x⟩ := selN x
    split at x
    · rename_i r hr
      cases x
      refine idx_runs hO ⟨rfl, rfl, fun i hi => ⟨rfl, ?_⟩, ⟨_, _, _, _, hg⟩⟩ (blt_of c1) hr
      simp only [aop]
      rw [if_pos ⟨by omega, by omega, trivial⟩, Int.toNat_natCast, Nat.mul_one]
    · cases x
  · cases x
noncomputable def kTabY : Nat → Option KF := fun n =>
  (sel (Nat.beq n n_pmap_Map_below) (some (kNoD kPBelow))
  (sel (Nat.beq n n_walk_Place) (some (kNoD kPlace))
  (sel (Nat.beq n n_pte_Index) (some (kNoD kIndex))
  (sel (Nat.beq n n_slices_Index_int_int) (some (kNoD kIdx)) (kTab n)))))
theorem kTabY_ok {O : Nat → Option FSpec} (hO : OFree O) : KOk O tab kTabY := by
  intro n k e D hD args h v h' Q x q
  rcases selK e with ⟨rfl, e⟩ | e
  · cases e; exact kPBelow_ok hO x Q q
  rcases selK e with ⟨rfl, e⟩ | e
  · cases e; exact kPlace_ok hO x Q q
  rcases selK e with ⟨rfl, e⟩ | e
  · cases e; exact kIndex_ok hO x Q q
  rcases selK e with ⟨rfl, e⟩ | e
  · cases e; exact kIdx_ok hO x Q q
  exact kTab_ok hO n k e D hD args h v h' Q x q
end Go.Proofs.YtlkfclgkinaibaaGreat

namespace Go.Proofs.YtlkfclgkinaibaaGreat
noncomputable def hints : Nat → List Nat := fun n =>
  sel (Nat.blt n 173) (sel (Nat.blt n 93) (sel (Nat.blt n 50) (sel (Nat.blt n 23) (sel (Nat.blt n 7) (sel (Nat.blt n 4) (sel (Nat.beq n 3) [6, 11, 13, 14, 47, 78, 106, 119] []) (sel (Nat.blt n 6) (sel (Nat.beq n 4) [6, 8, 116] []) (sel (Nat.beq n 6) [6, 8, 69, 80, 95] []))) (sel (Nat.blt n 8) (sel (Nat.beq n 7) [2] []) (sel (Nat.blt n 19) (sel (Nat.beq n 8) [3, 4] []) (sel (Nat.beq n 19) [11, 13, 75] [])))) (sel (Nat.blt n 40) (sel (Nat.blt n 38) (sel (Nat.beq n 23) [2] []) (sel (Nat.blt n 39) (sel (Nat.beq n 38) [5, 6, 7] []) (sel (Nat.beq n 39) [5, 6] []))) (sel (Nat.blt n 46) (sel (Nat.beq n 40) [4, 8, 29, 30] []) (sel (Nat.blt n 48) (sel (Nat.beq n 46) [5] []) (sel (Nat.beq n 48) [8, 16] []))))) (sel (Nat.blt n 81) (sel (Nat.blt n 63) (sel (Nat.blt n 55) (sel (Nat.beq n 50) [5] []) (sel (Nat.blt n 56) (sel (Nat.beq n 55) [4] []) (sel (Nat.beq n 56) [4, 6] []))) (sel (Nat.blt n 65) (sel (Nat.beq n 63) [2, 15, 17, 18, 19] []) (sel (Nat.blt n 80) (sel (Nat.beq n 65) [3, 9, 11, 18, 49, 50] []) (sel (Nat.beq n 80) [6, 13] [])))) (sel (Nat.blt n 85) (sel (Nat.blt n 82) (sel (Nat.beq n 81) [6, 7, 9, 13] []) (sel (Nat.blt n 83) (sel (Nat.beq n 82) [2, 6, 15, 24] []) (sel (Nat.beq n 83) [11] []))) (sel (Nat.blt n 89) (sel (Nat.blt n 87) (sel (Nat.beq n 85) [5, 29, 30] []) (sel (Nat.beq n 87) [1, 2] [])) (sel (Nat.blt n 91) (sel (Nat.beq n 89) [7, 10, 19] []) (sel (Nat.beq n 91) [3] [])))))) (sel (Nat.blt n 137) (sel (Nat.blt n 111) (sel (Nat.blt n 99) (sel (Nat.blt n 95) (sel (Nat.beq n 93) [70] []) (sel (Nat.blt n 96) (sel (Nat.beq n 95) [3, 4] []) (sel (Nat.beq n 96) [3, 25] []))) (sel (Nat.blt n 104) (sel (Nat.beq n 99) [6, 7, 8, 29, 30] []) (sel (Nat.blt n 109) (sel (Nat.beq n 104) [3, 8, 14, 23] []) (sel (Nat.beq n 109) [4] [])))) (sel (Nat.blt n 116) (sel (Nat.blt n 113) (sel (Nat.beq n 111) [30] []) (sel (Nat.blt n 115) (sel (Nat.beq n 113) [6, 7, 9] []) (sel (Nat.beq n 115) [5] []))) (sel (Nat.blt n 134) (sel (Nat.blt n 125) (sel (Nat.beq n 116) [3, 7, 9, 13, 38, 39] []) (sel (Nat.beq n 125) [3] [])) (sel (Nat.blt n 136) (sel (Nat.beq n 134) [3] []) (sel (Nat.beq n 136) [25] []))))) (sel (Nat.blt n 165) (sel (Nat.blt n 158) (sel (Nat.blt n 142) (sel (Nat.beq n 137) [4, 5] []) (sel (Nat.blt n 143) (sel (Nat.beq n 142) [5, 7] []) (sel (Nat.beq n 143) [3] []))) (sel (Nat.blt n 161) (sel (Nat.beq n 158) [8] []) (sel (Nat.blt n 163) (sel (Nat.beq n 161) [1] []) (sel (Nat.beq n 163) [4, 5, 8] [])))) (sel (Nat.blt n 169) (sel (Nat.blt n 166) (sel (Nat.beq n 165) [3, 42] []) (sel (Nat.blt n 167) (sel (Nat.beq n 166) [5, 36] []) (sel (Nat.beq n 167) [9, 37] []))) (sel (Nat.blt n 171) (sel (Nat.blt n 170) (sel (Nat.beq n 169) [3] []) (sel (Nat.beq n 170) [10, 11, 16] [])) (sel (Nat.blt n 172) (sel (Nat.beq n 171) [9] []) (sel (Nat.beq n 172) [5] []))))))) (sel (Nat.blt n 265) (sel (Nat.blt n 226) (sel (Nat.blt n 186) (sel (Nat.blt n 176) (sel (Nat.blt n 174) (sel (Nat.beq n 173) [3] []) (sel (Nat.blt n 175) (sel (Nat.beq n 174) [12] []) (sel (Nat.beq n 175) [12, 31] []))) (sel (Nat.blt n 181) (sel (Nat.beq n 176) [1] []) (sel (Nat.blt n 182) (sel (Nat.beq n 181) [8, 35] []) (sel (Nat.beq n 182) [2] [])))) (sel (Nat.blt n 193) (sel (Nat.blt n 191) (sel (Nat.beq n 186) [7, 8, 9, 10, 11, 13, 15, 72] []) (sel (Nat.blt n 192) (sel (Nat.beq n 191) [7, 8, 9] []) (sel (Nat.beq n 192) [12, 65] []))) (sel (Nat.blt n 221) (sel (Nat.blt n 215) (sel (Nat.beq n 193) [4] []) (sel (Nat.beq n 215) [6, 8] [])) (sel (Nat.blt n 225) (sel (Nat.beq n 221) [2, 10] []) (sel (Nat.beq n 225) [2] []))))) (sel (Nat.blt n 257) (sel (Nat.blt n 242) (sel (Nat.blt n 239) (sel (Nat.beq n 226) [2] []) (sel (Nat.blt n 241) (sel (Nat.beq n 239) [2, 4] []) (sel (Nat.beq n 241) [7] []))) (sel (Nat.blt n 243) (sel (Nat.beq n 242) [3, 4] []) (sel (Nat.blt n 245) (sel (Nat.beq n 243) [2] []) (sel (Nat.beq n 245) [1] [])))) (sel (Nat.blt n 261) (sel (Nat.blt n 258) (sel (Nat.beq n 257) [3, 4, 6] []) (sel (Nat.blt n 259) (sel (Nat.beq n 258) [3] []) (sel (Nat.beq n 259) [18] []))) (sel (Nat.blt n 263) (sel (Nat.blt n 262) (sel (Nat.beq n 261) [6] []) (sel (Nat.beq n 262) [3, 4, 5, 6, 34] [])) (sel (Nat.blt n 264) (sel (Nat.beq n 263) [7] []) (sel (Nat.beq n 264) [4, 10, 12, 13, 125] [])))))) (sel (Nat.blt n 317) (sel (Nat.blt n 281) (sel (Nat.blt n 269) (sel (Nat.blt n 266) (sel (Nat.beq n 265) [2] []) (sel (Nat.blt n 268) (sel (Nat.beq n 266) [8, 10] []) (sel (Nat.beq n 268) [14, 63] []))) (sel (Nat.blt n 277) (sel (Nat.beq n 269) [5, 6] []) (sel (Nat.blt n 280) (sel (Nat.beq n 277) [38, 39] []) (sel (Nat.beq n 280) [3] [])))) (sel (Nat.blt n 296) (sel (Nat.blt n 282) (sel (Nat.beq n 281) [5] []) (sel (Nat.blt n 285) (sel (Nat.beq n 282) [5, 36] []) (sel (Nat.beq n 285) [3, 4] []))) (sel (Nat.blt n 312) (sel (Nat.blt n 310) (sel (Nat.beq n 296) [10] []) (sel (Nat.beq n 310) [17] [])) (sel (Nat.blt n 313) (sel (Nat.beq n 312) [5] []) (sel (Nat.beq n 313) [3, 4] []))))) (sel (Nat.blt n 336) (sel (Nat.blt n 330) (sel (Nat.blt n 319) (sel (Nat.beq n 317) [4, 6] []) (sel (Nat.blt n 322) (sel (Nat.beq n 319) [1] []) (sel (Nat.beq n 322) [5] []))) (sel (Nat.blt n 331) (sel (Nat.beq n 330) [2] []) (sel (Nat.blt n 332) (sel (Nat.beq n 331) [13] []) (sel (Nat.beq n 332) [6] [])))) (sel (Nat.blt n 344) (sel (Nat.blt n 337) (sel (Nat.beq n 336) [23] []) (sel (Nat.blt n 342) (sel (Nat.beq n 337) [4, 5] []) (sel (Nat.beq n 342) [6] []))) (sel (Nat.blt n 357) (sel (Nat.blt n 348) (sel (Nat.beq n 344) [2] []) (sel (Nat.beq n 348) [1, 2] [])) (sel (Nat.blt n 358) (sel (Nat.beq n 357) [5] []) (sel (Nat.beq n 358) [16] [])))))))
end Go.Proofs.YtlkfclgkinaibaaGreat

namespace Go.Proofs.YtlkfclgkinaibaaGreat
theorem noFree : OFree (fun _ => none) := ⟨fun _ _ => rfl, fun _ _ e => by cases e⟩
theorem noGood : DGood (fun _ => none) tab (progS hints kTabY tab.getK 60) := progS_ok (fun n f e => ⟨rfl, by rw [← BT.getK_eq]; exact e⟩) (kTabY_ok noFree) 60
theorem FSound.livesS {P : Program} (hT : AllB (Is P) tab) {f : Nat} (h : trueD (progS hints kTabY tab.getK 60 (.f f) [] ⟨0, .leaf⟩) = true) : FSound P (LamP P) f (constF (.bool true)) := by
  refine (progI_sound (O := fun _ => none) (fun _ _ h => by cases h) hT f).closed ?_
  unfold trueD at h
  split at h
  · rename_i h' e
    exact noGood _ _ _ _ _ _ e rfl
  · cases h
end Go.Proofs.YtlkfclgkinaibaaGreat
