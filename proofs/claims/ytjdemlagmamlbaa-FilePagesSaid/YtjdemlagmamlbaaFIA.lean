/- Files: what the functions do. -/
import Derived.Test.YtjdemlagmamlbaaSWK
import Derived.Test.YtjdemlagmamlbaaK9
namespace Go.Proofs.Ytjdemlagmamlbaa

abbrev Pl := Int × Int
abbrev pkey (p : Pl) : AV := .agg [.int .i64 p.1, .int .i64 p.2]
theorem keyPl : KeyOk (.flat [.int, .int]) pkey := fun a b => by
  obtain ⟨a1, a2⟩ := a
  obtain ⟨b1, b2⟩ := b
  simp only [avEq, eqFlat, scEq, if_true, Prod.mk.injEq]
  by_cases h1 : a1 = b1
  · by_cases h2 : a2 = b2
    · simp [h1, h2]
    · simp [h1, h2]
  · have : (a1 == b1) = false := by simpa using h1
    rw [this]; simp [h1]

/-- files -/
structure FiS where
  sizes : List Int
  pg : List (Pl × Nat)
  left : Int

def PlOk (l : List (Pl × Nat)) : Prop := ∀ p, p ∈ l → p.2 < 2 ^ (8 * 4096)
abbrev FiS.row (s : FiS) (lv : AV) (M : Nat) : AObj := .row ty_file_Store 4 false false (.vals [.bool true, lv, .map M, .int .i64 s.left])
def FiIs (D : Nat) (s : FiS) (cs : List Chunk) : Prop := ∃ lv M, cs = [.pt D (s.row lv M), VsC lv 3 (s.sizes.map ikey) true, MpC M pkey pageV s.pg] ∧ PlOk s.pg ∧ s.sizes.length ≤ 16
abbrev FiC (D : Nat) (s : FiS) : Chunk := pk 22 (.ptr D 0) (FiIs D s)

variable {D : Nat} {s : FiS}

/-- the walk's facts on what is unpacked -/
theorem FiS.slice {h : AHeap} {L R : List Chunk} {lv : AV} (st : St h L) (t : Take L (VsC lv 3 (s.sizes.map ikey) true) R) : sliceLen lv = some s.sizes.length ∧ lv.notJunk = some lv ∧ okSame lv = true := by
  obtain ⟨a, b, c⟩ := st.vs t
  rw [List.length_map] at a
  exact ⟨a, b, c⟩

theorem file_New : Spec R (.f n_file_New) [] [] fun v Rs => ∃ D, v = .ptr D 0 ∧ Rs = [FiC D ⟨[], [], 0⟩] := by
  refine spec_w (fun _ _ _ x => progI_call rfl rfl x) (by repeat (first | exact trivial | refine ⟨by first | rfl | assumption, ?_⟩)) rfl (fun h F st => ?_); dsimp only [List.cons_append, List.nil_append] at st
  (repeat (first | (show W _ _ _ _ _ _ (.code (cond _ _ _) :: _) _ _; first | refine W.ct ?_ | refine W.cf ?_) | (show W _ _ _ _ _ _ (.ins (cond _ _ _ :: _) :: _) _ _; first | refine W.gt ?_ | refine W.gf ?_) | (show W _ _ _ _ _ _ [] _ _; refine W.of (.done ?_)) | (apply W.of; constructor <;> first | (show W _ _ _ _ _ _ _ _ _) | (intro (al : Nat) h st; show W _ _ _ _ _ _ _ _ _) | (intro _ h st; show W _ _ _ _ _ _ _ _ _) | (first | (show (_ : Int) ≤ _; omega) | exact rfl | assumption | ((repeat (first | exact Take.here | apply Take.there)); done) | (show Ag _ _ _; (repeat (first | assumption | exact rfl | exact Ag.nil | exact Take.here | apply Take.there | (show Ag _ _ _; constructor))); done) | exact Pk.t | exact Pk.f)))); refine W.ef (ho := (e_newmap st pkey pageV)) (w := ?_); rintro vv h ⟨M, rfl, st⟩; refine nj ?_
  (repeat (first | (show W _ _ _ _ _ _ (.code (cond _ _ _) :: _) _ _; first | refine W.ct ?_ | refine W.cf ?_) | (show W _ _ _ _ _ _ (.ins (cond _ _ _ :: _) :: _) _ _; first | refine W.gt ?_ | refine W.gf ?_) | (show W _ _ _ _ _ _ [] _ _; refine W.of (.done ?_)) | (apply W.of; constructor <;> first | (show W _ _ _ _ _ _ _ _ _) | (intro (al : Nat) h st; show W _ _ _ _ _ _ _ _ _) | (intro _ h st; show W _ _ _ _ _ _ _ _ _) | (first | (show (_ : Int) ≤ _; omega) | exact rfl | assumption | ((repeat (first | exact Take.here | apply Take.there)); done) | (show Ag _ _ _; (repeat (first | assumption | exact rfl | exact Ag.nil | exact Take.here | apply Take.there | (show Ag _ _ _; constructor))); done) | exact Pk.t | exact Pk.f))))
  have st := st.vsNil 3 true
  exact ⟨_, rfl, _, ⟨_, rfl, rfl⟩, St.packP (cs := [_, _, _]) st ⟨_, M, rfl, fun p hp => absurd hp (by simp), by simp⟩ (by repeat (first | exact Take.here | exact Pick.nil | apply Pick.cons | apply Take.there))⟩

theorem file_made : Spec R (.f n_file_Store_made) [.ptr D 0] [FiC D s] fun v Rs => v = .bool true ∧ Rs = [FiC D s] := by
  refine spec_w (fun _ _ _ x => progI_call rfl rfl x) (by repeat (first | exact trivial | refine ⟨by first | rfl | assumption, ?_⟩)) rfl (fun h F st => ?_); dsimp only [List.cons_append, List.nil_append] at st
  obtain ⟨_, ⟨lv, M, rfl, hok⟩, st⟩ := St.unpack st; dsimp only [List.cons_append, List.nil_append] at st
  (repeat (first | (show W _ _ _ _ _ _ (.code (cond _ _ _) :: _) _ _; first | refine W.ct ?_ | refine W.cf ?_) | (show W _ _ _ _ _ _ (.ins (cond _ _ _ :: _) :: _) _ _; first | refine W.gt ?_ | refine W.gf ?_) | (show W _ _ _ _ _ _ [] _ _; refine W.of (.done ?_)) | (apply W.of; constructor <;> first | (show W _ _ _ _ _ _ _ _ _) | (intro (al : Nat) h st; show W _ _ _ _ _ _ _ _ _) | (intro _ h st; show W _ _ _ _ _ _ _ _ _) | (first | (show (_ : Int) ≤ _; omega) | exact rfl | assumption | ((repeat (first | exact Take.here | apply Take.there)); done) | (show Ag _ _ _; (repeat (first | assumption | exact rfl | exact Ag.nil | exact Take.here | apply Take.there | (show Ag _ _ _; constructor))); done) | exact Pk.t | exact Pk.f))))
  exact ⟨_, rfl, _, ⟨rfl, rfl⟩, St.packP (cs := [_, _, _]) st ⟨lv, M, rfl, hok⟩ (by repeat (first | exact Take.here | exact Pick.nil | apply Pick.cons | apply Take.there))⟩

/-- a file's size -/
def FiS.size (s : FiS) (id : Int) : Option Int := if 1 ≤ id ∧ id ≤ s.sizes.length then s.sizes[(id - 1).toNat]? else none

theorem size_some {id n : Int} (h : s.size id = some n) : 1 ≤ id ∧ id ≤ s.sizes.length ∧ s.sizes[(id - 1).toNat]? = some n := by
  unfold FiS.size at h
  split at h
  · rename_i g; exact ⟨g.1, g.2, h⟩
  · cases h
theorem size_none {id : Int} (h : s.size id = none) : ¬ (1 ≤ id ∧ id ≤ s.sizes.length) := by
  unfold FiS.size at h
  intro g
  rw [if_pos g] at h
  rw [List.getElem?_eq_none_iff] at h
  omega

theorem file_Size {id : Int} : Spec R (.f n_file_Store_Size) [.ptr D 0, .int .i64 id] [FiC D s] fun v Rs => v = .tuple [.int .i64 ((s.size id).getD 0), .bool (s.size id).isSome] ∧ Rs = [FiC D s] := by
  refine spec_w (fun _ _ _ x => progI_call rfl rfl x) (by repeat (first | exact trivial | refine ⟨by first | rfl | assumption, ?_⟩)) rfl (fun h F st => ?_); dsimp only [List.cons_append, List.nil_append] at st
  (repeat (first | (show W _ _ _ _ _ _ (.code (cond _ _ _) :: _) _ _; first | refine W.ct ?_ | refine W.cf ?_) | (show W _ _ _ _ _ _ (.ins (cond _ _ _ :: _) :: _) _ _; first | refine W.gt ?_ | refine W.gf ?_) | (show W _ _ _ _ _ _ [] _ _; refine W.of (.done ?_)) | (apply W.of; constructor <;> first | (show W _ _ _ _ _ _ _ _ _) | (intro (al : Nat) h st; show W _ _ _ _ _ _ _ _ _) | (intro _ h st; show W _ _ _ _ _ _ _ _ _) | (first | (show (_ : Int) ≤ _; omega) | exact rfl | assumption | ((repeat (first | exact Take.here | apply Take.there)); done) | (show Ag _ _ _; (repeat (first | assumption | exact rfl | exact Ag.nil | exact Take.here | apply Take.there | (show Ag _ _ _; constructor))); done) | exact Pk.t | exact Pk.f)))); refine W.call (hs := file_made) (w := ?_); rintro vv _ ⟨rfl, rfl⟩ h st; refine nj ?_; dsimp only [List.cons_append, List.nil_append] at st
  obtain ⟨_, ⟨lv, M, rfl, hok⟩, st⟩ := St.unpack st; dsimp only [List.cons_append, List.nil_append] at st
  obtain ⟨hl, hj, _⟩ := FiS.slice st (by repeat (first | exact Take.here | apply Take.there))
  (repeat (first | (show W _ _ _ _ _ _ (.code (cond _ _ _) :: _) _ _; first | refine W.ct ?_ | refine W.cf ?_) | (show W _ _ _ _ _ _ (.ins (cond _ _ _ :: _) :: _) _ _; first | refine W.gt ?_ | refine W.gf ?_) | (show W _ _ _ _ _ _ [] _ _; refine W.of (.done ?_)) | (apply W.of; constructor <;> first | (show W _ _ _ _ _ _ _ _ _) | (intro (al : Nat) h st; show W _ _ _ _ _ _ _ _ _) | (intro _ h st; show W _ _ _ _ _ _ _ _ _) | (first | (show (_ : Int) ≤ _; omega) | exact rfl | assumption | ((repeat (first | exact Take.here | apply Take.there)); done) | (show Ag _ _ _; (repeat (first | assumption | exact rfl | exact Ag.nil | exact Take.here | apply Take.there | (show Ag _ _ _; constructor))); done) | exact Pk.t | exact Pk.f))))
  cases hs : s.size id with
  | none =>
    have hn := size_none hs
    by_cases h1 : id < 1
    · (repeat (first | (show W _ _ _ _ _ _ (.code (cond _ _ _) :: _) _ _; first | refine W.ct ?_ | refine W.cf ?_) | (show W _ _ _ _ _ _ (.ins (cond _ _ _ :: _) :: _) _ _; first | refine W.gt ?_ | refine W.gf ?_) | (show W _ _ _ _ _ _ [] _ _; refine W.of (.done ?_)) | (apply W.of; constructor <;> first | (show W _ _ _ _ _ _ _ _ _) | (intro (al : Nat) h st; show W _ _ _ _ _ _ _ _ _) | (intro _ h st; show W _ _ _ _ _ _ _ _ _) | (first | (show (_ : Int) ≤ _; omega) | exact rfl | assumption | ((repeat (first | exact Take.here | apply Take.there)); done) | (show Ag _ _ _; (repeat (first | assumption | exact rfl | exact Ag.nil | exact Take.here | apply Take.there | (show Ag _ _ _; constructor))); done) | exact Pk.t | exact Pk.f))))
      exact ⟨_, rfl, _, ⟨rfl, rfl⟩, St.packP (cs := [_, _, _]) st ⟨lv, M, rfl, hok⟩ (by repeat (first | exact Take.here | exact Pick.nil | apply Pick.cons | apply Take.there))⟩
    · (repeat (first | (show W _ _ _ _ _ _ (.code (cond _ _ _) :: _) _ _; first | refine W.ct ?_ | refine W.cf ?_) | (show W _ _ _ _ _ _ (.ins (cond _ _ _ :: _) :: _) _ _; first | refine W.gt ?_ | refine W.gf ?_) | (show W _ _ _ _ _ _ [] _ _; refine W.of (.done ?_)) | (apply W.of; constructor <;> first | (show W _ _ _ _ _ _ _ _ _) | (intro (al : Nat) h st; show W _ _ _ _ _ _ _ _ _) | (intro _ h st; show W _ _ _ _ _ _ _ _ _) | (first | (show (_ : Int) ≤ _; omega) | exact rfl | assumption | ((repeat (first | exact Take.here | apply Take.there)); done) | (show Ag _ _ _; (repeat (first | assumption | exact rfl | exact Ag.nil | exact Take.here | apply Take.there | (show Ag _ _ _; constructor))); done) | exact Pk.t | exact Pk.f))))
      exact ⟨_, rfl, _, ⟨rfl, rfl⟩, St.packP (cs := [_, _, _]) st ⟨lv, M, rfl, hok⟩ (by repeat (first | exact Take.here | exact Pick.nil | apply Pick.cons | apply Take.there))⟩
  | some n =>
    obtain ⟨h1, h2, h3⟩ := size_some hs
    have hb := hok.2
    (repeat (first | (show W _ _ _ _ _ _ (.code (cond _ _ _) :: _) _ _; first | refine W.ct ?_ | refine W.cf ?_) | (show W _ _ _ _ _ _ (.ins (cond _ _ _ :: _) :: _) _ _; first | refine W.gt ?_ | refine W.gf ?_) | (show W _ _ _ _ _ _ [] _ _; refine W.of (.done ?_)) | (apply W.of; constructor <;> first | (show W _ _ _ _ _ _ _ _ _) | (intro (al : Nat) h st; show W _ _ _ _ _ _ _ _ _) | (intro _ h st; show W _ _ _ _ _ _ _ _ _) | (first | (show (_ : Int) ≤ _; omega) | exact rfl | assumption | ((repeat (first | exact Take.here | apply Take.there)); done) | (show Ag _ _ _; (repeat (first | assumption | exact rfl | exact Ag.nil | exact Take.here | apply Take.there | (show Ag _ _ _; constructor))); done) | exact Pk.t | exact Pk.f))))
    obtain ⟨gp, gq⟩ := d_vsIdx (l := s.sizes.map ikey) (i := (id - 1).toNat) (kk := .i64) st (by repeat (first | exact Take.here | apply Take.there)) (by rw [List.length_map]; omega)
    rw [show (((id - 1).toNat : Nat) : Int) = id - 1 by omega] at gp
    (repeat (first | (show W _ _ _ _ _ _ (.code (cond _ _ _) :: _) _ _; first | refine W.ct ?_ | refine W.cf ?_) | (show W _ _ _ _ _ _ (.ins (cond _ _ _ :: _) :: _) _ _; first | refine W.gt ?_ | refine W.gf ?_) | (show W _ _ _ _ _ _ [] _ _; refine W.of (.done ?_)) | (apply W.of; constructor <;> first | (show W _ _ _ _ _ _ _ _ _) | (intro (al : Nat) h st; show W _ _ _ _ _ _ _ _ _) | (intro _ h st; show W _ _ _ _ _ _ _ _ _) | (first | (show (_ : Int) ≤ _; omega) | exact rfl | assumption | ((repeat (first | exact Take.here | apply Take.there)); done) | (show Ag _ _ _; (repeat (first | assumption | exact rfl | exact Ag.nil | exact Take.here | apply Take.there | (show Ag _ _ _; constructor))); done) | exact Pk.t | exact Pk.f)))); refine W.do (ho := gp) (w := ?_)
    (repeat (first | (show W _ _ _ _ _ _ (.code (cond _ _ _) :: _) _ _; first | refine W.ct ?_ | refine W.cf ?_) | (show W _ _ _ _ _ _ (.ins (cond _ _ _ :: _) :: _) _ _; first | refine W.gt ?_ | refine W.gf ?_) | (show W _ _ _ _ _ _ [] _ _; refine W.of (.done ?_)) | (apply W.of; constructor <;> first | (show W _ _ _ _ _ _ _ _ _) | (intro (al : Nat) h st; show W _ _ _ _ _ _ _ _ _) | (intro _ h st; show W _ _ _ _ _ _ _ _ _) | (first | (show (_ : Int) ≤ _; omega) | exact rfl | assumption | ((repeat (first | exact Take.here | apply Take.there)); done) | (show Ag _ _ _; (repeat (first | assumption | exact rfl | exact Ag.nil | exact Take.here | apply Take.there | (show Ag _ _ _; constructor))); done) | exact Pk.t | exact Pk.f)))); refine W.do (ho := (d_vsLoad (l := s.sizes.map ikey) st (by repeat (first | exact Take.here | apply Take.there)) (by rw [List.getElem?_map, h3]; rfl))) (w := ?_)
    (repeat (first | (show W _ _ _ _ _ _ (.code (cond _ _ _) :: _) _ _; first | refine W.ct ?_ | refine W.cf ?_) | (show W _ _ _ _ _ _ (.ins (cond _ _ _ :: _) :: _) _ _; first | refine W.gt ?_ | refine W.gf ?_) | (show W _ _ _ _ _ _ [] _ _; refine W.of (.done ?_)) | (apply W.of; constructor <;> first | (show W _ _ _ _ _ _ _ _ _) | (intro (al : Nat) h st; show W _ _ _ _ _ _ _ _ _) | (intro _ h st; show W _ _ _ _ _ _ _ _ _) | (first | (show (_ : Int) ≤ _; omega) | exact rfl | assumption | ((repeat (first | exact Take.here | apply Take.there)); done) | (show Ag _ _ _; (repeat (first | assumption | exact rfl | exact Ag.nil | exact Take.here | apply Take.there | (show Ag _ _ _; constructor))); done) | exact Pk.t | exact Pk.f))))
    exact ⟨_, rfl, _, ⟨rfl, rfl⟩, St.packP (cs := [_, _, _]) st ⟨lv, M, rfl, hok⟩ (by repeat (first | exact Take.here | exact Pick.nil | apply Pick.cons | apply Take.there))⟩

theorem file_Size_n {id : Int} (hs : s.size id = none) : Spec R (.f n_file_Store_Size) [.ptr D 0, .int .i64 id] [FiC D s] fun v Rs => v = .tuple [.int .i64 0, .bool false] ∧ Rs = [FiC D s] := by
  have := file_Size (D := D) (s := s) (id := id); rw [hs] at this; exact this
theorem file_Size_s {id z : Int} (hs : s.size id = some z) : Spec R (.f n_file_Store_Size) [.ptr D 0, .int .i64 id] [FiC D s] fun v Rs => v = .tuple [.int .i64 z, .bool true] ∧ Rs = [FiC D s] := by
  have := file_Size (D := D) (s := s) (id := id); rw [hs] at this; exact this

theorem file_known {id : Int} : Spec R (.f n_file_Store_known) [.ptr D 0, .int .i64 id] [FiC D s] fun v Rs => v = .tuple [.int .i64 ((s.size id).getD 0), .int .i64 (if (s.size id).isSome then 0 else 7)] ∧ Rs = [FiC D s] := by
  refine spec_w (fun _ _ _ x => progI_call rfl rfl x) (by repeat (first | exact trivial | refine ⟨by first | rfl | assumption, ?_⟩)) rfl (fun h F st => ?_); dsimp only [List.cons_append, List.nil_append] at st
  (repeat (first | (show W _ _ _ _ _ _ (.code (cond _ _ _) :: _) _ _; first | refine W.ct ?_ | refine W.cf ?_) | (show W _ _ _ _ _ _ (.ins (cond _ _ _ :: _) :: _) _ _; first | refine W.gt ?_ | refine W.gf ?_) | (show W _ _ _ _ _ _ [] _ _; refine W.of (.done ?_)) | (apply W.of; constructor <;> first | (show W _ _ _ _ _ _ _ _ _) | (intro (al : Nat) h st; show W _ _ _ _ _ _ _ _ _) | (intro _ h st; show W _ _ _ _ _ _ _ _ _) | (first | (show (_ : Int) ≤ _; omega) | exact rfl | assumption | ((repeat (first | exact Take.here | apply Take.there)); done) | (show Ag _ _ _; (repeat (first | assumption | exact rfl | exact Ag.nil | exact Take.here | apply Take.there | (show Ag _ _ _; constructor))); done) | exact Pk.t | exact Pk.f)))); refine W.call (hs := file_made) (w := ?_); rintro vv _ ⟨rfl, rfl⟩ h st; refine nj ?_; dsimp only [List.cons_append, List.nil_append] at st
  (repeat (first | (show W _ _ _ _ _ _ (.code (cond _ _ _) :: _) _ _; first | refine W.ct ?_ | refine W.cf ?_) | (show W _ _ _ _ _ _ (.ins (cond _ _ _ :: _) :: _) _ _; first | refine W.gt ?_ | refine W.gf ?_) | (show W _ _ _ _ _ _ [] _ _; refine W.of (.done ?_)) | (apply W.of; constructor <;> first | (show W _ _ _ _ _ _ _ _ _) | (intro (al : Nat) h st; show W _ _ _ _ _ _ _ _ _) | (intro _ h st; show W _ _ _ _ _ _ _ _ _) | (first | (show (_ : Int) ≤ _; omega) | exact rfl | assumption | ((repeat (first | exact Take.here | apply Take.there)); done) | (show Ag _ _ _; (repeat (first | assumption | exact rfl | exact Ag.nil | exact Take.here | apply Take.there | (show Ag _ _ _; constructor))); done) | exact Pk.t | exact Pk.f)))); refine W.call (hs := file_Size) (w := ?_); rintro vv _ ⟨rfl, rfl⟩ h st; refine nj ?_; dsimp only [List.cons_append, List.nil_append] at st
  (repeat (first | (show W _ _ _ _ _ _ (.code (cond _ _ _) :: _) _ _; first | refine W.ct ?_ | refine W.cf ?_) | (show W _ _ _ _ _ _ (.ins (cond _ _ _ :: _) :: _) _ _; first | refine W.gt ?_ | refine W.gf ?_) | (show W _ _ _ _ _ _ [] _ _; refine W.of (.done ?_)) | (apply W.of; constructor <;> first | (show W _ _ _ _ _ _ _ _ _) | (intro (al : Nat) h st; show W _ _ _ _ _ _ _ _ _) | (intro _ h st; show W _ _ _ _ _ _ _ _ _) | (first | (show (_ : Int) ≤ _; omega) | exact rfl | assumption | ((repeat (first | exact Take.here | apply Take.there)); done) | (show Ag _ _ _; (repeat (first | assumption | exact rfl | exact Ag.nil | exact Take.here | apply Take.there | (show Ag _ _ _; constructor))); done) | exact Pk.t | exact Pk.f))))
  cases hs : s.size id with
  | none =>
    (repeat (first | (show W _ _ _ _ _ _ (.code (cond _ _ _) :: _) _ _; first | refine W.ct ?_ | refine W.cf ?_) | (show W _ _ _ _ _ _ (.ins (cond _ _ _ :: _) :: _) _ _; first | refine W.gt ?_ | refine W.gf ?_) | (show W _ _ _ _ _ _ [] _ _; refine W.of (.done ?_)) | (apply W.of; constructor <;> first | (show W _ _ _ _ _ _ _ _ _) | (intro (al : Nat) h st; show W _ _ _ _ _ _ _ _ _) | (intro _ h st; show W _ _ _ _ _ _ _ _ _) | (first | (show (_ : Int) ≤ _; omega) | exact rfl | assumption | ((repeat (first | exact Take.here | apply Take.there)); done) | (show Ag _ _ _; (repeat (first | assumption | exact rfl | exact Ag.nil | exact Take.here | apply Take.there | (show Ag _ _ _; constructor))); done) | exact Pk.t | exact Pk.f))))
    exact ⟨_, rfl, _, ⟨rfl, rfl⟩, st⟩
  | some n =>
    (repeat (first | (show W _ _ _ _ _ _ (.code (cond _ _ _) :: _) _ _; first | refine W.ct ?_ | refine W.cf ?_) | (show W _ _ _ _ _ _ (.ins (cond _ _ _ :: _) :: _) _ _; first | refine W.gt ?_ | refine W.gf ?_) | (show W _ _ _ _ _ _ [] _ _; refine W.of (.done ?_)) | (apply W.of; constructor <;> first | (show W _ _ _ _ _ _ _ _ _) | (intro (al : Nat) h st; show W _ _ _ _ _ _ _ _ _) | (intro _ h st; show W _ _ _ _ _ _ _ _ _) | (first | (show (_ : Int) ≤ _; omega) | exact rfl | assumption | ((repeat (first | exact Take.here | apply Take.there)); done) | (show Ag _ _ _; (repeat (first | assumption | exact rfl | exact Ag.nil | exact Take.here | apply Take.there | (show Ag _ _ _; constructor))); done) | exact Pk.t | exact Pk.f))))
    exact ⟨_, rfl, _, ⟨rfl, rfl⟩, st⟩

theorem file_known_n {id : Int} (hs : s.size id = none) : Spec R (.f n_file_Store_known) [.ptr D 0, .int .i64 id] [FiC D s] fun v Rs => v = .tuple [.int .i64 0, .int .i64 7] ∧ Rs = [FiC D s] := by
  have := file_known (D := D) (s := s) (id := id); rw [hs] at this; exact this
theorem file_known_s {id z : Int} (hs : s.size id = some z) : Spec R (.f n_file_Store_known) [.ptr D 0, .int .i64 id] [FiC D s] fun v Rs => v = .tuple [.int .i64 z, .int .i64 0] ∧ Rs = [FiC D s] := by
  have := file_known (D := D) (s := s) (id := id); rw [hs] at this; exact this

/-- what Make does -/
def FiS.make (s : FiS) (n : Int) : FiS × Int × Int :=
  if n < 0 ∨ n > 4096 then (s, 0, 2) else if s.sizes.length ≥ 16 then (s, 0, 5) else ({ s with sizes := s.sizes ++ [n] }, s.sizes.length + 1, 0)

theorem file_Make {n : Int} : Spec R (.f n_file_Store_Make) [.ptr D 0, .int .i64 n] [FiC D s] fun v Rs => v = .tuple [.int .i64 (s.make n).2.1, .int .i64 (s.make n).2.2] ∧ Rs = [FiC D (s.make n).1] := by
  refine spec_w (fun _ _ _ x => progI_call rfl rfl x) (by repeat (first | exact trivial | refine ⟨by first | rfl | assumption, ?_⟩)) rfl (fun h F st => ?_); dsimp only [List.cons_append, List.nil_append] at st
  (repeat (first | (show W _ _ _ _ _ _ (.code (cond _ _ _) :: _) _ _; first | refine W.ct ?_ | refine W.cf ?_) | (show W _ _ _ _ _ _ (.ins (cond _ _ _ :: _) :: _) _ _; first | refine W.gt ?_ | refine W.gf ?_) | (show W _ _ _ _ _ _ [] _ _; refine W.of (.done ?_)) | (apply W.of; constructor <;> first | (show W _ _ _ _ _ _ _ _ _) | (intro (al : Nat) h st; show W _ _ _ _ _ _ _ _ _) | (intro _ h st; show W _ _ _ _ _ _ _ _ _) | (first | (show (_ : Int) ≤ _; omega) | exact rfl | assumption | ((repeat (first | exact Take.here | apply Take.there)); done) | (show Ag _ _ _; (repeat (first | assumption | exact rfl | exact Ag.nil | exact Take.here | apply Take.there | (show Ag _ _ _; constructor))); done) | exact Pk.t | exact Pk.f)))); refine W.call (hs := file_made) (w := ?_); rintro vv _ ⟨rfl, rfl⟩ h st; refine nj ?_; dsimp only [List.cons_append, List.nil_append] at st
  unfold FiS.make
  by_cases h1 : n < 0
  · rw [if_pos (.inl h1)]
    (repeat (first | (show W _ _ _ _ _ _ (.code (cond _ _ _) :: _) _ _; first | refine W.ct ?_ | refine W.cf ?_) | (show W _ _ _ _ _ _ (.ins (cond _ _ _ :: _) :: _) _ _; first | refine W.gt ?_ | refine W.gf ?_) | (show W _ _ _ _ _ _ [] _ _; refine W.of (.done ?_)) | (apply W.of; constructor <;> first | (show W _ _ _ _ _ _ _ _ _) | (intro (al : Nat) h st; show W _ _ _ _ _ _ _ _ _) | (intro _ h st; show W _ _ _ _ _ _ _ _ _) | (first | (show (_ : Int) ≤ _; omega) | exact rfl | assumption | ((repeat (first | exact Take.here | apply Take.there)); done) | (show Ag _ _ _; (repeat (first | assumption | exact rfl | exact Ag.nil | exact Take.here | apply Take.there | (show Ag _ _ _; constructor))); done) | exact Pk.t | exact Pk.f))))
    exact ⟨_, rfl, _, ⟨rfl, rfl⟩, st⟩
  · by_cases h2 : n > 4096
    · rw [if_pos (.inr h2)]
      (repeat (first | (show W _ _ _ _ _ _ (.code (cond _ _ _) :: _) _ _; first | refine W.ct ?_ | refine W.cf ?_) | (show W _ _ _ _ _ _ (.ins (cond _ _ _ :: _) :: _) _ _; first | refine W.gt ?_ | refine W.gf ?_) | (show W _ _ _ _ _ _ [] _ _; refine W.of (.done ?_)) | (apply W.of; constructor <;> first | (show W _ _ _ _ _ _ _ _ _) | (intro (al : Nat) h st; show W _ _ _ _ _ _ _ _ _) | (intro _ h st; show W _ _ _ _ _ _ _ _ _) | (first | (show (_ : Int) ≤ _; omega) | exact rfl | assumption | ((repeat (first | exact Take.here | apply Take.there)); done) | (show Ag _ _ _; (repeat (first | assumption | exact rfl | exact Ag.nil | exact Take.here | apply Take.there | (show Ag _ _ _; constructor))); done) | exact Pk.t | exact Pk.f))))
      exact ⟨_, rfl, _, ⟨rfl, rfl⟩, st⟩
    · rw [if_neg (by omega)]
      obtain ⟨_, ⟨lv, M, rfl, hok⟩, st⟩ := St.unpack st; dsimp only [List.cons_append, List.nil_append] at st
      obtain ⟨hl, hj, _⟩ := FiS.slice st (by repeat (first | exact Take.here | apply Take.there))
      have hb := hok.2
      by_cases h3 : s.sizes.length ≥ 16
      · rw [if_pos h3]
        (repeat (first | (show W _ _ _ _ _ _ (.code (cond _ _ _) :: _) _ _; first | refine W.ct ?_ | refine W.cf ?_) | (show W _ _ _ _ _ _ (.ins (cond _ _ _ :: _) :: _) _ _; first | refine W.gt ?_ | refine W.gf ?_) | (show W _ _ _ _ _ _ [] _ _; refine W.of (.done ?_)) | (apply W.of; constructor <;> first | (show W _ _ _ _ _ _ _ _ _) | (intro (al : Nat) h st; show W _ _ _ _ _ _ _ _ _) | (intro _ h st; show W _ _ _ _ _ _ _ _ _) | (first | (show (_ : Int) ≤ _; omega) | exact rfl | assumption | ((repeat (first | exact Take.here | apply Take.there)); done) | (show Ag _ _ _; (repeat (first | assumption | exact rfl | exact Ag.nil | exact Take.here | apply Take.there | (show Ag _ _ _; constructor))); done) | exact Pk.t | exact Pk.f))))
        exact ⟨_, rfl, _, ⟨rfl, rfl⟩, St.packP (cs := [_, _, _]) st ⟨lv, M, rfl, hok⟩ (by repeat (first | exact Take.here | exact Pick.nil | apply Pick.cons | apply Take.there))⟩
      · rw [if_neg h3]
        (repeat (first | (show W _ _ _ _ _ _ (.code (cond _ _ _) :: _) _ _; first | refine W.ct ?_ | refine W.cf ?_) | (show W _ _ _ _ _ _ (.ins (cond _ _ _ :: _) :: _) _ _; first | refine W.gt ?_ | refine W.gf ?_) | (show W _ _ _ _ _ _ [] _ _; refine W.of (.done ?_)) | (apply W.of; constructor <;> first | (show W _ _ _ _ _ _ _ _ _) | (intro (al : Nat) h st; show W _ _ _ _ _ _ _ _ _) | (intro _ h st; show W _ _ _ _ _ _ _ _ _) | (first | (show (_ : Int) ≤ _; omega) | exact rfl | assumption | ((repeat (first | exact Take.here | apply Take.there)); done) | (show Ag _ _ _; (repeat (first | assumption | exact rfl | exact Ag.nil | exact Take.here | apply Take.there | (show Ag _ _ _; constructor))); done) | exact Pk.t | exact Pk.f))))
        have st := St.vsRow (l := [.int .i64 n]) (e := 3) st (by repeat (first | exact Take.here | apply Take.there)) rfl
        (repeat (first | (show W _ _ _ _ _ _ (.code (cond _ _ _) :: _) _ _; first | refine W.ct ?_ | refine W.cf ?_) | (show W _ _ _ _ _ _ (.ins (cond _ _ _ :: _) :: _) _ _; first | refine W.gt ?_ | refine W.gf ?_) | (show W _ _ _ _ _ _ [] _ _; refine W.of (.done ?_)) | (apply W.of; constructor <;> first | (show W _ _ _ _ _ _ _ _ _) | (intro (al : Nat) h st; show W _ _ _ _ _ _ _ _ _) | (intro _ h st; show W _ _ _ _ _ _ _ _ _) | (first | (show (_ : Int) ≤ _; omega) | exact rfl | assumption | ((repeat (first | exact Take.here | apply Take.there)); done) | (show Ag _ _ _; (repeat (first | assumption | exact rfl | exact Ag.nil | exact Take.here | apply Take.there | (show Ag _ _ _; constructor))); done) | exact Pk.t | exact Pk.f)))); refine W.ef (ho := (e_vsAppend (l := s.sizes.map ikey) (l' := [.int .i64 n]) st (by repeat (first | exact Take.here | apply Take.there)) (by repeat (first | exact Take.here | apply Take.there)) (by simp; omega) (by simp; omega))) (w := ?_); rintro vv h ⟨bj, bl, st⟩; refine nj ?_
        obtain ⟨l2, rfl⟩ : ∃ y, y = vv := ⟨_, rfl⟩
        have bl' : sliceLen l2 = some (s.sizes.length + 1) := by rw [bl]; simp
        (repeat (first | (show W _ _ _ _ _ _ (.code (cond _ _ _) :: _) _ _; first | refine W.ct ?_ | refine W.cf ?_) | (show W _ _ _ _ _ _ (.ins (cond _ _ _ :: _) :: _) _ _; first | refine W.gt ?_ | refine W.gf ?_) | (show W _ _ _ _ _ _ [] _ _; refine W.of (.done ?_)) | (apply W.of; constructor <;> first | (show W _ _ _ _ _ _ _ _ _) | (intro (al : Nat) h st; show W _ _ _ _ _ _ _ _ _) | (intro _ h st; show W _ _ _ _ _ _ _ _ _) | (first | (show (_ : Int) ≤ _; omega) | exact rfl | assumption | ((repeat (first | exact Take.here | apply Take.there)); done) | (show Ag _ _ _; (repeat (first | assumption | exact rfl | exact Ag.nil | exact Take.here | apply Take.there | (show Ag _ _ _; constructor))); done) | exact Pk.t | exact Pk.f)))); refine W.ef0 (ho := (e_storeV (i := 1) st (by repeat (first | exact Take.here | apply Take.there)) rfl (by simp) (sl_dat bl))) (w := ?_); rintro _ h ⟨_, st⟩
        (repeat (first | (show W _ _ _ _ _ _ (.code (cond _ _ _) :: _) _ _; first | refine W.ct ?_ | refine W.cf ?_) | (show W _ _ _ _ _ _ (.ins (cond _ _ _ :: _) :: _) _ _; first | refine W.gt ?_ | refine W.gf ?_) | (show W _ _ _ _ _ _ [] _ _; refine W.of (.done ?_)) | (apply W.of; constructor <;> first | (show W _ _ _ _ _ _ _ _ _) | (intro (al : Nat) h st; show W _ _ _ _ _ _ _ _ _) | (intro _ h st; show W _ _ _ _ _ _ _ _ _) | (first | (show (_ : Int) ≤ _; omega) | exact rfl | assumption | ((repeat (first | exact Take.here | apply Take.there)); done) | (show Ag _ _ _; (repeat (first | assumption | exact rfl | exact Ag.nil | exact Take.here | apply Take.there | (show Ag _ _ _; constructor))); done) | exact Pk.t | exact Pk.f))))
        rw [show (s.sizes.map ikey ++ [.int .i64 n]) = (s.sizes ++ [n]).map ikey by rw [List.map_append]; rfl] at st
        have st := St.packP (t := 22) (k := .ptr D 0) (P := FiIs D { s with sizes := s.sizes ++ [n] }) st ⟨l2, M, rfl, hok.1, by simp; omega⟩ (by repeat (first | exact Take.here | exact Pick.nil | apply Pick.cons | apply Take.there))
        exact ⟨_, rfl, _, ⟨rfl, rfl⟩, st.sel (by repeat (first | exact Sel.nil | exact Take.here | apply Sel.cons | apply Take.there | apply Sel.skip))⟩

theorem file_Plan {n : Int} : Spec R (.f n_file_Store_Plan) [.ptr D 0, .int .i64 n] [FiC D s] fun v Rs => v = .int .i64 (if n < 0 then 2 else 0) ∧ Rs = [FiC D (if n < 0 then s else { s with left := n })] := by
  refine spec_w (fun _ _ _ x => progI_call rfl rfl x) (by repeat (first | exact trivial | refine ⟨by first | rfl | assumption, ?_⟩)) rfl (fun h F st => ?_); dsimp only [List.cons_append, List.nil_append] at st
  (repeat (first | (show W _ _ _ _ _ _ (.code (cond _ _ _) :: _) _ _; first | refine W.ct ?_ | refine W.cf ?_) | (show W _ _ _ _ _ _ (.ins (cond _ _ _ :: _) :: _) _ _; first | refine W.gt ?_ | refine W.gf ?_) | (show W _ _ _ _ _ _ [] _ _; refine W.of (.done ?_)) | (apply W.of; constructor <;> first | (show W _ _ _ _ _ _ _ _ _) | (intro (al : Nat) h st; show W _ _ _ _ _ _ _ _ _) | (intro _ h st; show W _ _ _ _ _ _ _ _ _) | (first | (show (_ : Int) ≤ _; omega) | exact rfl | assumption | ((repeat (first | exact Take.here | apply Take.there)); done) | (show Ag _ _ _; (repeat (first | assumption | exact rfl | exact Ag.nil | exact Take.here | apply Take.there | (show Ag _ _ _; constructor))); done) | exact Pk.t | exact Pk.f)))); refine W.call (hs := file_made) (w := ?_); rintro vv _ ⟨rfl, rfl⟩ h st; refine nj ?_; dsimp only [List.cons_append, List.nil_append] at st
  (repeat (first | (show W _ _ _ _ _ _ (.code (cond _ _ _) :: _) _ _; first | refine W.ct ?_ | refine W.cf ?_) | (show W _ _ _ _ _ _ (.ins (cond _ _ _ :: _) :: _) _ _; first | refine W.gt ?_ | refine W.gf ?_) | (show W _ _ _ _ _ _ [] _ _; refine W.of (.done ?_)) | (apply W.of; constructor <;> first | (show W _ _ _ _ _ _ _ _ _) | (intro (al : Nat) h st; show W _ _ _ _ _ _ _ _ _) | (intro _ h st; show W _ _ _ _ _ _ _ _ _) | (first | (show (_ : Int) ≤ _; omega) | exact rfl | assumption | ((repeat (first | exact Take.here | apply Take.there)); done) | (show Ag _ _ _; (repeat (first | assumption | exact rfl | exact Ag.nil | exact Take.here | apply Take.there | (show Ag _ _ _; constructor))); done) | exact Pk.t | exact Pk.f))))
  by_cases h1 : n < 0
  · rw [if_pos h1, if_pos h1]
    (repeat (first | (show W _ _ _ _ _ _ (.code (cond _ _ _) :: _) _ _; first | refine W.ct ?_ | refine W.cf ?_) | (show W _ _ _ _ _ _ (.ins (cond _ _ _ :: _) :: _) _ _; first | refine W.gt ?_ | refine W.gf ?_) | (show W _ _ _ _ _ _ [] _ _; refine W.of (.done ?_)) | (apply W.of; constructor <;> first | (show W _ _ _ _ _ _ _ _ _) | (intro (al : Nat) h st; show W _ _ _ _ _ _ _ _ _) | (intro _ h st; show W _ _ _ _ _ _ _ _ _) | (first | (show (_ : Int) ≤ _; omega) | exact rfl | assumption | ((repeat (first | exact Take.here | apply Take.there)); done) | (show Ag _ _ _; (repeat (first | assumption | exact rfl | exact Ag.nil | exact Take.here | apply Take.there | (show Ag _ _ _; constructor))); done) | exact Pk.t | exact Pk.f))))
    exact ⟨_, rfl, _, ⟨rfl, rfl⟩, st⟩
  · rw [if_neg h1, if_neg h1]
    obtain ⟨_, ⟨lv, M, rfl, hok⟩, st⟩ := St.unpack st; dsimp only [List.cons_append, List.nil_append] at st
    (repeat (first | (show W _ _ _ _ _ _ (.code (cond _ _ _) :: _) _ _; first | refine W.ct ?_ | refine W.cf ?_) | (show W _ _ _ _ _ _ (.ins (cond _ _ _ :: _) :: _) _ _; first | refine W.gt ?_ | refine W.gf ?_) | (show W _ _ _ _ _ _ [] _ _; refine W.of (.done ?_)) | (apply W.of; constructor <;> first | (show W _ _ _ _ _ _ _ _ _) | (intro (al : Nat) h st; show W _ _ _ _ _ _ _ _ _) | (intro _ h st; show W _ _ _ _ _ _ _ _ _) | (first | (show (_ : Int) ≤ _; omega) | exact rfl | assumption | ((repeat (first | exact Take.here | apply Take.there)); done) | (show Ag _ _ _; (repeat (first | assumption | exact rfl | exact Ag.nil | exact Take.here | apply Take.there | (show Ag _ _ _; constructor))); done) | exact Pk.t | exact Pk.f))))
    exact ⟨_, rfl, _, ⟨rfl, rfl⟩, St.packP (cs := [_, _, _]) st ⟨lv, M, rfl, hok⟩ (by repeat (first | exact Take.here | exact Pick.nil | apply Pick.cons | apply Take.there))⟩

/-- a page's content -/
def FiS.cell (s : FiS) (p : Pl) : Nat := (alook s.pg p).getD 0
theorem plOk_at {l : List (Pl × Nat)} (h : PlOk l) (p : Pl) : (alook l p).getD 0 < 2 ^ (8 * 4096) := by
  induction l with
  | nil => exact page_pos
  | cons a l ih =>
    obtain ⟨k, v⟩ := a
    simp only [alook]
    split
    · exact h _ List.mem_cons_self
    · exact ih fun q hq => h q (List.mem_cons_of_mem _ hq)

theorem d_lookPl {h : AHeap} {L R : List Chunk} {M : Nat} {l : List (Pl × Nat)} (st : St h L) (t : Take L (MpC M pkey pageV l) R) (p : Pl) :
    Does (.lookup (.flat [.int, .int]) (.bytes 4096 0) false) [.map M, .agg [.int .i64 p.1, .int .i64 p.2]] h (.bytes 4096 ((alook l p).getD 0)) h := by
  have e := d_lookup st t keyPl (.bytes 4096 0) p
  have e2 : (alook l p).elim (.bytes 4096 0) pageV = .bytes 4096 ((alook l p).getD 0) := by cases alook l p <;> rfl
  rw [← e2]; exact e

/-- is it a page of a file? -/
def FiS.ok (s : FiS) (id n : Int) : Bool := match s.size id with
  | none => false
  | some z => decide (0 ≤ n ∧ n < z)
theorem ok_none {id n : Int} (h : s.size id = none) : s.ok id n = false := by unfold FiS.ok; rw [h]
theorem ok_some {id n z : Int} (h : s.size id = some z) : s.ok id n = decide (0 ≤ n ∧ n < z) := by unfold FiS.ok; rw [h]
/-- what Peek tells -/
def FiS.pk (s : FiS) (id n : Int) : Nat × Nat := if s.ok id n = true then (4096, s.cell (id, n)) else (0, 0)

theorem file_Peek {id n : Int} : Spec R (.f n_file_Store_Peek) [.ptr D 0, .int .i64 id, .int .i64 n] [FiC D s] fun x Rs => x.notJunk = some x ∧ sliceLen x = some (s.pk id n).1 ∧ Rs = [ByC x (s.pk id n).1 (s.pk id n).2 true, FiC D s] := by
  refine spec_w (fun _ _ _ x => progI_call rfl rfl x) (by repeat (first | exact trivial | refine ⟨by first | rfl | assumption, ?_⟩)) rfl (fun h F st => ?_); dsimp only [List.cons_append, List.nil_append] at st
  unfold FiS.pk
  cases hs : s.size id with
  | none =>
    rw [ok_none hs]
    (repeat (first | (show W _ _ _ _ _ _ (.code (cond _ _ _) :: _) _ _; first | refine W.ct ?_ | refine W.cf ?_) | (show W _ _ _ _ _ _ (.ins (cond _ _ _ :: _) :: _) _ _; first | refine W.gt ?_ | refine W.gf ?_) | (show W _ _ _ _ _ _ [] _ _; refine W.of (.done ?_)) | (apply W.of; constructor <;> first | (show W _ _ _ _ _ _ _ _ _) | (intro (al : Nat) h st; show W _ _ _ _ _ _ _ _ _) | (intro _ h st; show W _ _ _ _ _ _ _ _ _) | (first | (show (_ : Int) ≤ _; omega) | exact rfl | assumption | ((repeat (first | exact Take.here | apply Take.there)); done) | (show Ag _ _ _; (repeat (first | assumption | exact rfl | exact Ag.nil | exact Take.here | apply Take.there | (show Ag _ _ _; constructor))); done) | exact Pk.t | exact Pk.f)))); refine W.call (hs := (file_Size_n hs)) (w := ?_); rintro vv _ ⟨rfl, rfl⟩ h st; refine nj ?_; dsimp only [List.cons_append, List.nil_append] at st
    (repeat (first | (show W _ _ _ _ _ _ (.code (cond _ _ _) :: _) _ _; first | refine W.ct ?_ | refine W.cf ?_) | (show W _ _ _ _ _ _ (.ins (cond _ _ _ :: _) :: _) _ _; first | refine W.gt ?_ | refine W.gf ?_) | (show W _ _ _ _ _ _ [] _ _; refine W.of (.done ?_)) | (apply W.of; constructor <;> first | (show W _ _ _ _ _ _ _ _ _) | (intro (al : Nat) h st; show W _ _ _ _ _ _ _ _ _) | (intro _ h st; show W _ _ _ _ _ _ _ _ _) | (first | (show (_ : Int) ≤ _; omega) | exact rfl | assumption | ((repeat (first | exact Take.here | apply Take.there)); done) | (show Ag _ _ _; (repeat (first | assumption | exact rfl | exact Ag.nil | exact Take.here | apply Take.there | (show Ag _ _ _; constructor))); done) | exact Pk.t | exact Pk.f))))
    exact ⟨_, rfl, _, ⟨rfl, rfl, rfl⟩, st.byNil true⟩
  | some z =>
    rw [ok_some hs]
    (repeat (first | (show W _ _ _ _ _ _ (.code (cond _ _ _) :: _) _ _; first | refine W.ct ?_ | refine W.cf ?_) | (show W _ _ _ _ _ _ (.ins (cond _ _ _ :: _) :: _) _ _; first | refine W.gt ?_ | refine W.gf ?_) | (show W _ _ _ _ _ _ [] _ _; refine W.of (.done ?_)) | (apply W.of; constructor <;> first | (show W _ _ _ _ _ _ _ _ _) | (intro (al : Nat) h st; show W _ _ _ _ _ _ _ _ _) | (intro _ h st; show W _ _ _ _ _ _ _ _ _) | (first | (show (_ : Int) ≤ _; omega) | exact rfl | assumption | ((repeat (first | exact Take.here | apply Take.there)); done) | (show Ag _ _ _; (repeat (first | assumption | exact rfl | exact Ag.nil | exact Take.here | apply Take.there | (show Ag _ _ _; constructor))); done) | exact Pk.t | exact Pk.f)))); refine W.call (hs := (file_Size_s hs)) (w := ?_); rintro vv _ ⟨rfl, rfl⟩ h st; refine nj ?_; dsimp only [List.cons_append, List.nil_append] at st
    by_cases h1 : n < 0
    · rw [decide_eq_false (by omega)]
      (repeat (first | (show W _ _ _ _ _ _ (.code (cond _ _ _) :: _) _ _; first | refine W.ct ?_ | refine W.cf ?_) | (show W _ _ _ _ _ _ (.ins (cond _ _ _ :: _) :: _) _ _; first | refine W.gt ?_ | refine W.gf ?_) | (show W _ _ _ _ _ _ [] _ _; refine W.of (.done ?_)) | (apply W.of; constructor <;> first | (show W _ _ _ _ _ _ _ _ _) | (intro (al : Nat) h st; show W _ _ _ _ _ _ _ _ _) | (intro _ h st; show W _ _ _ _ _ _ _ _ _) | (first | (show (_ : Int) ≤ _; omega) | exact rfl | assumption | ((repeat (first | exact Take.here | apply Take.there)); done) | (show Ag _ _ _; (repeat (first | assumption | exact rfl | exact Ag.nil | exact Take.here | apply Take.there | (show Ag _ _ _; constructor))); done) | exact Pk.t | exact Pk.f))))
      exact ⟨_, rfl, _, ⟨rfl, rfl, rfl⟩, st.byNil true⟩
    · by_cases h2 : n < z
      · rw [decide_eq_true (show 0 ≤ n ∧ n < z by omega)]
        (repeat (first | (show W _ _ _ _ _ _ (.code (cond _ _ _) :: _) _ _; first | refine W.ct ?_ | refine W.cf ?_) | (show W _ _ _ _ _ _ (.ins (cond _ _ _ :: _) :: _) _ _; first | refine W.gt ?_ | refine W.gf ?_) | (show W _ _ _ _ _ _ [] _ _; refine W.of (.done ?_)) | (apply W.of; constructor <;> first | (show W _ _ _ _ _ _ _ _ _) | (intro (al : Nat) h st; show W _ _ _ _ _ _ _ _ _) | (intro _ h st; show W _ _ _ _ _ _ _ _ _) | (first | (show (_ : Int) ≤ _; omega) | exact rfl | assumption | ((repeat (first | exact Take.here | apply Take.there)); done) | (show Ag _ _ _; (repeat (first | assumption | exact rfl | exact Ag.nil | exact Take.here | apply Take.there | (show Ag _ _ _; constructor))); done) | exact Pk.t | exact Pk.f))))
        obtain ⟨_, ⟨lv, M, rfl, hok⟩, st⟩ := St.unpack st; dsimp only [List.cons_append, List.nil_append] at st
        (repeat (first | (show W _ _ _ _ _ _ (.code (cond _ _ _) :: _) _ _; first | refine W.ct ?_ | refine W.cf ?_) | (show W _ _ _ _ _ _ (.ins (cond _ _ _ :: _) :: _) _ _; first | refine W.gt ?_ | refine W.gf ?_) | (show W _ _ _ _ _ _ [] _ _; refine W.of (.done ?_)) | (apply W.of; constructor <;> first | (show W _ _ _ _ _ _ _ _ _) | (intro (al : Nat) h st; show W _ _ _ _ _ _ _ _ _) | (intro _ h st; show W _ _ _ _ _ _ _ _ _) | (first | (show (_ : Int) ≤ _; omega) | exact rfl | assumption | ((repeat (first | exact Take.here | apply Take.there)); done) | (show Ag _ _ _; (repeat (first | assumption | exact rfl | exact Ag.nil | exact Take.here | apply Take.there | (show Ag _ _ _; constructor))); done) | exact Pk.t | exact Pk.f)))); refine W.do (ho := (d_lookPl st (by repeat (first | exact Take.here | apply Take.there)) (id, n))) (w := ?_)
        (repeat (first | (show W _ _ _ _ _ _ (.code (cond _ _ _) :: _) _ _; first | refine W.ct ?_ | refine W.cf ?_) | (show W _ _ _ _ _ _ (.ins (cond _ _ _ :: _) :: _) _ _; first | refine W.gt ?_ | refine W.gf ?_) | (show W _ _ _ _ _ _ [] _ _; refine W.of (.done ?_)) | (apply W.of; constructor <;> first | (show W _ _ _ _ _ _ _ _ _) | (intro (al : Nat) h st; show W _ _ _ _ _ _ _ _ _) | (intro _ h st; show W _ _ _ _ _ _ _ _ _) | (first | (show (_ : Int) ≤ _; omega) | exact rfl | assumption | ((repeat (first | exact Take.here | apply Take.there)); done) | (show Ag _ _ _; (repeat (first | assumption | exact rfl | exact Ag.nil | exact Take.here | apply Take.there | (show Ag _ _ _; constructor))); done) | exact Pk.t | exact Pk.f))))
        rw [bput_new (plOk_at hok.1 (id, n))] at st
        have st := St.packP (t := 22) (k := .ptr D 0) (P := FiIs D s) st ⟨lv, M, rfl, hok⟩ (by repeat (first | exact Take.here | exact Pick.nil | apply Pick.cons | apply Take.there))
        have st := St.byRow' (k := 4096) st (by repeat (first | exact Take.here | apply Take.there)) (plOk_at hok.1 (id, n))
        exact ⟨_, rfl, _, ⟨rfl, rfl, rfl⟩, st⟩
      · rw [decide_eq_false (by omega)]
        (repeat (first | (show W _ _ _ _ _ _ (.code (cond _ _ _) :: _) _ _; first | refine W.ct ?_ | refine W.cf ?_) | (show W _ _ _ _ _ _ (.ins (cond _ _ _ :: _) :: _) _ _; first | refine W.gt ?_ | refine W.gf ?_) | (show W _ _ _ _ _ _ [] _ _; refine W.of (.done ?_)) | (apply W.of; constructor <;> first | (show W _ _ _ _ _ _ _ _ _) | (intro (al : Nat) h st; show W _ _ _ _ _ _ _ _ _) | (intro _ h st; show W _ _ _ _ _ _ _ _ _) | (first | (show (_ : Int) ≤ _; omega) | exact rfl | assumption | ((repeat (first | exact Take.here | apply Take.there)); done) | (show Ag _ _ _; (repeat (first | assumption | exact rfl | exact Ag.nil | exact Take.here | apply Take.there | (show Ag _ _ _; constructor))); done) | exact Pk.t | exact Pk.f))))
        exact ⟨_, rfl, _, ⟨rfl, rfl, rfl⟩, st.byNil true⟩

/-- a call more; does it fail? -/
def FiS.tick (s : FiS) : FiS := if s.left > 0 then { s with left := s.left - 1 } else s
def FiS.bad (s : FiS) : Bool := decide (s.left = 1)
structure AtV where
  s : FiS
  e : Int
def FiS.at' (s : FiS) (id n : Int) (g : Bool) : AtV := if (s.size id).isNone = true then ⟨s, 7⟩ else if s.ok id n = true ∧ g = true then ⟨s.tick, if s.bad then 6 else 0⟩ else ⟨s, 2⟩

theorem file_at {id n : Int} {g : Bool} (hlo : s.left ≤ 9223372036854775807) : Spec R (.f n_file_Store_at) [.ptr D 0, .int .i64 id, .int .i64 n, .bool g] [FiC D s] fun v Rs =>
    ∃ p : Pl, ((s.at' id n g).e = 0 → p = (id, n)) ∧ v = .tuple [pkey p, .int .i64 (s.at' id n g).e] ∧ Rs = [FiC D (s.at' id n g).s] := by
  refine spec_w (fun _ _ _ x => progI_call rfl rfl x) (by repeat (first | exact trivial | refine ⟨by first | rfl | assumption, ?_⟩)) rfl (fun h F st => ?_); dsimp only [List.cons_append, List.nil_append] at st
  unfold FiS.at'
  cases hs : s.size id with
  | none =>
    (repeat (first | (show W _ _ _ _ _ _ (.code (cond _ _ _) :: _) _ _; first | refine W.ct ?_ | refine W.cf ?_) | (show W _ _ _ _ _ _ (.ins (cond _ _ _ :: _) :: _) _ _; first | refine W.gt ?_ | refine W.gf ?_) | (show W _ _ _ _ _ _ [] _ _; refine W.of (.done ?_)) | (apply W.of; constructor <;> first | (show W _ _ _ _ _ _ _ _ _) | (intro (al : Nat) h st; show W _ _ _ _ _ _ _ _ _) | (intro _ h st; show W _ _ _ _ _ _ _ _ _) | (first | (show (_ : Int) ≤ _; omega) | exact rfl | assumption | ((repeat (first | exact Take.here | apply Take.there)); done) | (show Ag _ _ _; (repeat (first | assumption | exact rfl | exact Ag.nil | exact Take.here | apply Take.there | (show Ag _ _ _; constructor))); done) | exact Pk.t | exact Pk.f)))); refine W.call (hs := (file_known_n hs)) (w := ?_); rintro vv _ ⟨rfl, rfl⟩ h st; refine nj ?_; dsimp only [List.cons_append, List.nil_append] at st
    (repeat (first | (show W _ _ _ _ _ _ (.code (cond _ _ _) :: _) _ _; first | refine W.ct ?_ | refine W.cf ?_) | (show W _ _ _ _ _ _ (.ins (cond _ _ _ :: _) :: _) _ _; first | refine W.gt ?_ | refine W.gf ?_) | (show W _ _ _ _ _ _ [] _ _; refine W.of (.done ?_)) | (apply W.of; constructor <;> first | (show W _ _ _ _ _ _ _ _ _) | (intro (al : Nat) h st; show W _ _ _ _ _ _ _ _ _) | (intro _ h st; show W _ _ _ _ _ _ _ _ _) | (first | (show (_ : Int) ≤ _; omega) | exact rfl | assumption | ((repeat (first | exact Take.here | apply Take.there)); done) | (show Ag _ _ _; (repeat (first | assumption | exact rfl | exact Ag.nil | exact Take.here | apply Take.there | (show Ag _ _ _; constructor))); done) | exact Pk.t | exact Pk.f))))
    exact ⟨_, res_cell rfl (d_loadn (n := 2) (off := 0) (st.get' (by repeat (first | exact Take.here | apply Take.there))) rfl) rfl, _, ⟨(0, 0), fun h => absurd h (by simp), rfl, rfl⟩, st.sel (by repeat (first | exact Sel.nil | exact Take.here | apply Sel.cons | apply Take.there | apply Sel.skip))⟩
  | some z =>
    rw [ok_some hs, if_neg (by simp)]
    (repeat (first | (show W _ _ _ _ _ _ (.code (cond _ _ _) :: _) _ _; first | refine W.ct ?_ | refine W.cf ?_) | (show W _ _ _ _ _ _ (.ins (cond _ _ _ :: _) :: _) _ _; first | refine W.gt ?_ | refine W.gf ?_) | (show W _ _ _ _ _ _ [] _ _; refine W.of (.done ?_)) | (apply W.of; constructor <;> first | (show W _ _ _ _ _ _ _ _ _) | (intro (al : Nat) h st; show W _ _ _ _ _ _ _ _ _) | (intro _ h st; show W _ _ _ _ _ _ _ _ _) | (first | (show (_ : Int) ≤ _; omega) | exact rfl | assumption | ((repeat (first | exact Take.here | apply Take.there)); done) | (show Ag _ _ _; (repeat (first | assumption | exact rfl | exact Ag.nil | exact Take.here | apply Take.there | (show Ag _ _ _; constructor))); done) | exact Pk.t | exact Pk.f)))); refine W.call (hs := (file_known_s hs)) (w := ?_); rintro vv _ ⟨rfl, rfl⟩ h st; refine nj ?_; dsimp only [List.cons_append, List.nil_append] at st
    by_cases h1 : n < 0
    · rw [if_neg (by simp; omega)]
      (repeat (first | (show W _ _ _ _ _ _ (.code (cond _ _ _) :: _) _ _; first | refine W.ct ?_ | refine W.cf ?_) | (show W _ _ _ _ _ _ (.ins (cond _ _ _ :: _) :: _) _ _; first | refine W.gt ?_ | refine W.gf ?_) | (show W _ _ _ _ _ _ [] _ _; refine W.of (.done ?_)) | (apply W.of; constructor <;> first | (show W _ _ _ _ _ _ _ _ _) | (intro (al : Nat) h st; show W _ _ _ _ _ _ _ _ _) | (intro _ h st; show W _ _ _ _ _ _ _ _ _) | (first | (show (_ : Int) ≤ _; omega) | exact rfl | assumption | ((repeat (first | exact Take.here | apply Take.there)); done) | (show Ag _ _ _; (repeat (first | assumption | exact rfl | exact Ag.nil | exact Take.here | apply Take.there | (show Ag _ _ _; constructor))); done) | exact Pk.t | exact Pk.f))))
      exact ⟨_, res_cell rfl (d_loadn (n := 2) (off := 0) (st.get' (by repeat (first | exact Take.here | apply Take.there))) rfl) rfl, _, ⟨(0, 0), fun h => absurd h (by simp), rfl, rfl⟩, st.sel (by repeat (first | exact Sel.nil | exact Take.here | apply Sel.cons | apply Take.there | apply Sel.skip))⟩
    · by_cases h2 : n < z
      · cases g with
        | false =>
          rw [if_neg (by simp)]
          (repeat (first | (show W _ _ _ _ _ _ (.code (cond _ _ _) :: _) _ _; first | refine W.ct ?_ | refine W.cf ?_) | (show W _ _ _ _ _ _ (.ins (cond _ _ _ :: _) :: _) _ _; first | refine W.gt ?_ | refine W.gf ?_) | (show W _ _ _ _ _ _ [] _ _; refine W.of (.done ?_)) | (apply W.of; constructor <;> first | (show W _ _ _ _ _ _ _ _ _) | (intro (al : Nat) h st; show W _ _ _ _ _ _ _ _ _) | (intro _ h st; show W _ _ _ _ _ _ _ _ _) | (first | (show (_ : Int) ≤ _; omega) | exact rfl | assumption | ((repeat (first | exact Take.here | apply Take.there)); done) | (show Ag _ _ _; (repeat (first | assumption | exact rfl | exact Ag.nil | exact Take.here | apply Take.there | (show Ag _ _ _; constructor))); done) | exact Pk.t | exact Pk.f))))
          exact ⟨_, res_cell rfl (d_loadn (n := 2) (off := 0) (st.get' (by repeat (first | exact Take.here | apply Take.there))) rfl) rfl, _, ⟨(0, 0), fun h => absurd h (by simp), rfl, rfl⟩, st.sel (by repeat (first | exact Sel.nil | exact Take.here | apply Sel.cons | apply Take.there | apply Sel.skip))⟩
        | true =>
          rw [if_pos ⟨decide_eq_true ⟨by omega, h2⟩, rfl⟩]
          (repeat (first | (show W _ _ _ _ _ _ (.code (cond _ _ _) :: _) _ _; first | refine W.ct ?_ | refine W.cf ?_) | (show W _ _ _ _ _ _ (.ins (cond _ _ _ :: _) :: _) _ _; first | refine W.gt ?_ | refine W.gf ?_) | (show W _ _ _ _ _ _ [] _ _; refine W.of (.done ?_)) | (apply W.of; constructor <;> first | (show W _ _ _ _ _ _ _ _ _) | (intro (al : Nat) h st; show W _ _ _ _ _ _ _ _ _) | (intro _ h st; show W _ _ _ _ _ _ _ _ _) | (first | (show (_ : Int) ≤ _; omega) | exact rfl | assumption | ((repeat (first | exact Take.here | apply Take.there)); done) | (show Ag _ _ _; (repeat (first | assumption | exact rfl | exact Ag.nil | exact Take.here | apply Take.there | (show Ag _ _ _; constructor))); done) | exact Pk.t | exact Pk.f))))
          obtain ⟨_, ⟨lv, M, rfl, hok⟩, st⟩ := St.unpack st; dsimp only [List.cons_append, List.nil_append] at st
          unfold FiS.tick FiS.bad
          by_cases h3 : s.left > 0
          · rw [if_pos h3]
            (repeat (first | (show W _ _ _ _ _ _ (.code (cond _ _ _) :: _) _ _; first | refine W.ct ?_ | refine W.cf ?_) | (show W _ _ _ _ _ _ (.ins (cond _ _ _ :: _) :: _) _ _; first | refine W.gt ?_ | refine W.gf ?_) | (show W _ _ _ _ _ _ [] _ _; refine W.of (.done ?_)) | (apply W.of; constructor <;> first | (show W _ _ _ _ _ _ _ _ _) | (intro (al : Nat) h st; show W _ _ _ _ _ _ _ _ _) | (intro _ h st; show W _ _ _ _ _ _ _ _ _) | (first | (show (_ : Int) ≤ _; omega) | exact rfl | assumption | ((repeat (first | exact Take.here | apply Take.there)); done) | (show Ag _ _ _; (repeat (first | assumption | exact rfl | exact Ag.nil | exact Take.here | apply Take.there | (show Ag _ _ _; constructor))); done) | exact Pk.t | exact Pk.f))))
            by_cases h4 : s.left = 1
            · rw [decide_eq_true h4]
              (repeat (first | (show W _ _ _ _ _ _ (.code (cond _ _ _) :: _) _ _; first | refine W.ct ?_ | refine W.cf ?_) | (show W _ _ _ _ _ _ (.ins (cond _ _ _ :: _) :: _) _ _; first | refine W.gt ?_ | refine W.gf ?_) | (show W _ _ _ _ _ _ [] _ _; refine W.of (.done ?_)) | (apply W.of; constructor <;> first | (show W _ _ _ _ _ _ _ _ _) | (intro (al : Nat) h st; show W _ _ _ _ _ _ _ _ _) | (intro _ h st; show W _ _ _ _ _ _ _ _ _) | (first | (show (_ : Int) ≤ _; omega) | exact rfl | assumption | ((repeat (first | exact Take.here | apply Take.there)); done) | (show Ag _ _ _; (repeat (first | assumption | exact rfl | exact Ag.nil | exact Take.here | apply Take.there | (show Ag _ _ _; constructor))); done) | exact Pk.t | exact Pk.f))))
              have st := St.packP (t := 22) (k := .ptr D 0) (P := FiIs D { s with left := s.left - 1 }) st ⟨lv, M, rfl, hok⟩ (by repeat (first | exact Take.here | exact Pick.nil | apply Pick.cons | apply Take.there))
              exact ⟨_, res_cell rfl (d_loadn (n := 2) (off := 0) (st.get' (by repeat (first | exact Take.here | apply Take.there))) rfl) rfl, _, ⟨(0, 0), fun h => absurd h (by simp), rfl, rfl⟩, st.sel (by repeat (first | exact Sel.nil | exact Take.here | apply Sel.cons | apply Take.there | apply Sel.skip))⟩
            · rw [decide_eq_false h4]
              (repeat (first | (show W _ _ _ _ _ _ (.code (cond _ _ _) :: _) _ _; first | refine W.ct ?_ | refine W.cf ?_) | (show W _ _ _ _ _ _ (.ins (cond _ _ _ :: _) :: _) _ _; first | refine W.gt ?_ | refine W.gf ?_) | (show W _ _ _ _ _ _ [] _ _; refine W.of (.done ?_)) | (apply W.of; constructor <;> first | (show W _ _ _ _ _ _ _ _ _) | (intro (al : Nat) h st; show W _ _ _ _ _ _ _ _ _) | (intro _ h st; show W _ _ _ _ _ _ _ _ _) | (first | (show (_ : Int) ≤ _; omega) | exact rfl | assumption | ((repeat (first | exact Take.here | apply Take.there)); done) | (show Ag _ _ _; (repeat (first | assumption | exact rfl | exact Ag.nil | exact Take.here | apply Take.there | (show Ag _ _ _; constructor))); done) | exact Pk.t | exact Pk.f))))
              have st := St.packP (t := 22) (k := .ptr D 0) (P := FiIs D { s with left := s.left - 1 }) st ⟨lv, M, rfl, hok⟩ (by repeat (first | exact Take.here | exact Pick.nil | apply Pick.cons | apply Take.there))
              exact ⟨_, res_cell rfl (d_loadn (n := 2) (off := 0) (st.get' (by repeat (first | exact Take.here | apply Take.there))) rfl) rfl, _, ⟨(id, n), fun _ => rfl, rfl, rfl⟩, st.sel (by repeat (first | exact Sel.nil | exact Take.here | apply Sel.cons | apply Take.there | apply Sel.skip))⟩
          · rw [if_neg h3]
            (repeat (first | (show W _ _ _ _ _ _ (.code (cond _ _ _) :: _) _ _; first | refine W.ct ?_ | refine W.cf ?_) | (show W _ _ _ _ _ _ (.ins (cond _ _ _ :: _) :: _) _ _; first | refine W.gt ?_ | refine W.gf ?_) | (show W _ _ _ _ _ _ [] _ _; refine W.of (.done ?_)) | (apply W.of; constructor <;> first | (show W _ _ _ _ _ _ _ _ _) | (intro (al : Nat) h st; show W _ _ _ _ _ _ _ _ _) | (intro _ h st; show W _ _ _ _ _ _ _ _ _) | (first | (show (_ : Int) ≤ _; omega) | exact rfl | assumption | ((repeat (first | exact Take.here | apply Take.there)); done) | (show Ag _ _ _; (repeat (first | assumption | exact rfl | exact Ag.nil | exact Take.here | apply Take.there | (show Ag _ _ _; constructor))); done) | exact Pk.t | exact Pk.f))))
            have st := St.packP (t := 22) (k := .ptr D 0) (P := FiIs D s) st ⟨lv, M, rfl, hok⟩ (by repeat (first | exact Take.here | exact Pick.nil | apply Pick.cons | apply Take.there))
            rw [decide_eq_false (show ¬ s.left = 1 by omega)]
            exact ⟨_, res_cell rfl (d_loadn (n := 2) (off := 0) (st.get' (by repeat (first | exact Take.here | apply Take.there))) rfl) rfl, _, ⟨(id, n), fun _ => rfl, rfl, rfl⟩, st.sel (by repeat (first | exact Sel.nil | exact Take.here | apply Sel.cons | apply Take.there | apply Sel.skip))⟩
      · rw [if_neg (by simp; omega)]
        (repeat (first | (show W _ _ _ _ _ _ (.code (cond _ _ _) :: _) _ _; first | refine W.ct ?_ | refine W.cf ?_) | (show W _ _ _ _ _ _ (.ins (cond _ _ _ :: _) :: _) _ _; first | refine W.gt ?_ | refine W.gf ?_) | (show W _ _ _ _ _ _ [] _ _; refine W.of (.done ?_)) | (apply W.of; constructor <;> first | (show W _ _ _ _ _ _ _ _ _) | (intro (al : Nat) h st; show W _ _ _ _ _ _ _ _ _) | (intro _ h st; show W _ _ _ _ _ _ _ _ _) | (first | (show (_ : Int) ≤ _; omega) | exact rfl | assumption | ((repeat (first | exact Take.here | apply Take.there)); done) | (show Ag _ _ _; (repeat (first | assumption | exact rfl | exact Ag.nil | exact Take.here | apply Take.there | (show Ag _ _ _; constructor))); done) | exact Pk.t | exact Pk.f))))
        exact ⟨_, res_cell rfl (d_loadn (n := 2) (off := 0) (st.get' (by repeat (first | exact Take.here | apply Take.there))) rfl) rfl, _, ⟨(0, 0), fun h => absurd h (by simp), rfl, rfl⟩, st.sel (by repeat (first | exact Sel.nil | exact Take.here | apply Sel.cons | apply Take.there | apply Sel.skip))⟩

theorem at_pg {id n : Int} {g : Bool} : (s.at' id n g).s.pg = s.pg ∧ (s.at' id n g).s.sizes = s.sizes ∧ ((s.at' id n g).e = 0 → s.ok id n = true ∧ g = true) := by
  unfold FiS.at' FiS.tick
  split
  · exact ⟨rfl, rfl, fun h => absurd h (by simp)⟩
  · split
    · rename_i h
      exact ⟨by split <;> rfl, by split <;> rfl, fun _ => h⟩
    · exact ⟨rfl, rfl, fun h => absurd h (by simp)⟩

/-- what Read tells -/
def FiS.rk (s : FiS) (id n : Int) : Nat × Nat := if (s.at' id n true).e = 0 then (4096, s.cell (id, n)) else (0, 0)

theorem file_Read {id n : Int} (hlo : s.left ≤ 9223372036854775807) : Spec R (.f n_file_Store_Read) [.ptr D 0, .int .i64 id, .int .i64 n] [FiC D s] fun r Rs =>
    ∃ x, r = .tuple [x, .int .i64 (s.at' id n true).e] ∧ x.notJunk = some x ∧ sliceLen x = some (s.rk id n).1 ∧ Rs = [ByC x (s.rk id n).1 (s.rk id n).2 true, FiC D (s.at' id n true).s] := by
  refine spec_w (fun _ _ _ x => progI_call rfl rfl x) (by repeat (first | exact trivial | refine ⟨by first | rfl | assumption, ?_⟩)) rfl (fun h F st => ?_); dsimp only [List.cons_append, List.nil_append] at st
  (repeat (first | (show W _ _ _ _ _ _ (.code (cond _ _ _) :: _) _ _; first | refine W.ct ?_ | refine W.cf ?_) | (show W _ _ _ _ _ _ (.ins (cond _ _ _ :: _) :: _) _ _; first | refine W.gt ?_ | refine W.gf ?_) | (show W _ _ _ _ _ _ [] _ _; refine W.of (.done ?_)) | (apply W.of; constructor <;> first | (show W _ _ _ _ _ _ _ _ _) | (intro (al : Nat) h st; show W _ _ _ _ _ _ _ _ _) | (intro _ h st; show W _ _ _ _ _ _ _ _ _) | (first | (show (_ : Int) ≤ _; omega) | exact rfl | assumption | ((repeat (first | exact Take.here | apply Take.there)); done) | (show Ag _ _ _; (repeat (first | assumption | exact rfl | exact Ag.nil | exact Take.here | apply Take.there | (show Ag _ _ _; constructor))); done) | exact Pk.t | exact Pk.f)))); refine W.call (hs := (file_at hlo)) (w := ?_); rintro vv _ ⟨p, hp, rfl, rfl⟩ h st; refine nj ?_; dsimp only [List.cons_append, List.nil_append] at st
  obtain ⟨q1, q2, q3⟩ := at_pg (s := s) (id := id) (n := n) (g := true)
  unfold FiS.rk
  by_cases h0 : (s.at' id n true).e = 0
  · rw [if_pos h0]
    have e := hp h0
    subst e
    (repeat (first | (show W _ _ _ _ _ _ (.code (cond _ _ _) :: _) _ _; first | refine W.ct ?_ | refine W.cf ?_) | (show W _ _ _ _ _ _ (.ins (cond _ _ _ :: _) :: _) _ _; first | refine W.gt ?_ | refine W.gf ?_) | (show W _ _ _ _ _ _ [] _ _; refine W.of (.done ?_)) | (apply W.of; constructor <;> first | (show W _ _ _ _ _ _ _ _ _) | (intro (al : Nat) h st; show W _ _ _ _ _ _ _ _ _) | (intro _ h st; show W _ _ _ _ _ _ _ _ _) | (first | (show (_ : Int) ≤ _; omega) | exact rfl | assumption | ((repeat (first | exact Take.here | apply Take.there)); done) | (show Ag _ _ _; (repeat (first | assumption | exact rfl | exact Ag.nil | exact Take.here | apply Take.there | (show Ag _ _ _; constructor))); done) | exact Pk.t | exact Pk.f))))
    have st := st.take (c := FiC D (s.at' id n true).s) (by repeat (first | exact Take.here | apply Take.there))
    obtain ⟨_, ⟨lv, M, rfl, hok⟩, st⟩ := St.unpack st; dsimp only [List.cons_append, List.nil_append] at st
    have hok1 : PlOk s.pg := q1 ▸ hok.1
    rw [q1] at st
    (repeat (first | (show W _ _ _ _ _ _ (.code (cond _ _ _) :: _) _ _; first | refine W.ct ?_ | refine W.cf ?_) | (show W _ _ _ _ _ _ (.ins (cond _ _ _ :: _) :: _) _ _; first | refine W.gt ?_ | refine W.gf ?_) | (show W _ _ _ _ _ _ [] _ _; refine W.of (.done ?_)) | (apply W.of; constructor <;> first | (show W _ _ _ _ _ _ _ _ _) | (intro (al : Nat) h st; show W _ _ _ _ _ _ _ _ _) | (intro _ h st; show W _ _ _ _ _ _ _ _ _) | (first | (show (_ : Int) ≤ _; omega) | exact rfl | assumption | ((repeat (first | exact Take.here | apply Take.there)); done) | (show Ag _ _ _; (repeat (first | assumption | exact rfl | exact Ag.nil | exact Take.here | apply Take.there | (show Ag _ _ _; constructor))); done) | exact Pk.t | exact Pk.f)))); refine W.do (ho := (d_lookPl st (by repeat (first | exact Take.here | apply Take.there)) (id, n))) (w := ?_)
    (repeat (first | (show W _ _ _ _ _ _ (.code (cond _ _ _) :: _) _ _; first | refine W.ct ?_ | refine W.cf ?_) | (show W _ _ _ _ _ _ (.ins (cond _ _ _ :: _) :: _) _ _; first | refine W.gt ?_ | refine W.gf ?_) | (show W _ _ _ _ _ _ [] _ _; refine W.of (.done ?_)) | (apply W.of; constructor <;> first | (show W _ _ _ _ _ _ _ _ _) | (intro (al : Nat) h st; show W _ _ _ _ _ _ _ _ _) | (intro _ h st; show W _ _ _ _ _ _ _ _ _) | (first | (show (_ : Int) ≤ _; omega) | exact rfl | assumption | ((repeat (first | exact Take.here | apply Take.there)); done) | (show Ag _ _ _; (repeat (first | assumption | exact rfl | exact Ag.nil | exact Take.here | apply Take.there | (show Ag _ _ _; constructor))); done) | exact Pk.t | exact Pk.f)))); refine W.of (.ag ((.ld rfl rfl st (by repeat (first | exact Take.here | apply Take.there)) rfl rfl (.ldn rfl rfl st (by repeat (first | exact Take.here | apply Take.there)) rfl rfl (.dz rfl rfl (d_lookPl st (by repeat (first | exact Take.here | apply Take.there)) (id, n)) rfl .nil)))) ?_)
    (repeat (first | (show W _ _ _ _ _ _ (.code (cond _ _ _) :: _) _ _; first | refine W.ct ?_ | refine W.cf ?_) | (show W _ _ _ _ _ _ (.ins (cond _ _ _ :: _) :: _) _ _; first | refine W.gt ?_ | refine W.gf ?_) | (show W _ _ _ _ _ _ [] _ _; refine W.of (.done ?_)) | (apply W.of; constructor <;> first | (show W _ _ _ _ _ _ _ _ _) | (intro (al : Nat) h st; show W _ _ _ _ _ _ _ _ _) | (intro _ h st; show W _ _ _ _ _ _ _ _ _) | (first | (show (_ : Int) ≤ _; omega) | exact rfl | assumption | ((repeat (first | exact Take.here | apply Take.there)); done) | (show Ag _ _ _; (repeat (first | assumption | exact rfl | exact Ag.nil | exact Take.here | apply Take.there | (show Ag _ _ _; constructor))); done) | exact Pk.t | exact Pk.f))))
    rw [bput_new (plOk_at hok1 (id, n))] at st
    have st := St.packP (t := 22) (k := .ptr D 0) (P := FiIs D (s.at' id n true).s) st ⟨lv, M, by rw [q1], hok⟩ (by repeat (first | exact Take.here | exact Pick.nil | apply Pick.cons | apply Take.there))
    have st := St.byRow' (k := 4096) (n := (alook s.pg (id, n)).getD 0) st (by repeat (first | exact Take.here | apply Take.there)) (plOk_at hok1 (id, n))
    exact ⟨_, rfl, _, ⟨_, by rw [h0]; rfl, rfl, rfl, rfl⟩, st.sel (by repeat (first | exact Sel.nil | exact Take.here | apply Sel.cons | apply Take.there | apply Sel.skip))⟩
  · rw [if_neg h0]
    (repeat (first | (show W _ _ _ _ _ _ (.code (cond _ _ _) :: _) _ _; first | refine W.ct ?_ | refine W.cf ?_) | (show W _ _ _ _ _ _ (.ins (cond _ _ _ :: _) :: _) _ _; first | refine W.gt ?_ | refine W.gf ?_) | (show W _ _ _ _ _ _ [] _ _; refine W.of (.done ?_)) | (apply W.of; constructor <;> first | (show W _ _ _ _ _ _ _ _ _) | (intro (al : Nat) h st; show W _ _ _ _ _ _ _ _ _) | (intro _ h st; show W _ _ _ _ _ _ _ _ _) | (first | (show (_ : Int) ≤ _; omega) | exact rfl | assumption | ((repeat (first | exact Take.here | apply Take.there)); done) | (show Ag _ _ _; (repeat (first | assumption | exact rfl | exact Ag.nil | exact Take.here | apply Take.there | (show Ag _ _ _; constructor))); done) | exact Pk.t | exact Pk.f))))
    have st : St h (FiC D (s.at' id n true).s :: F) := st.sel (by repeat (first | exact Sel.nil | exact Take.here | apply Sel.cons | apply Take.there | apply Sel.skip))
    exact ⟨_, rfl, _, ⟨_, rfl, rfl, rfl, rfl⟩, st.byNil true⟩

end Go.Proofs.Ytjdemlagmamlbaa
