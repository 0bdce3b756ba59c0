/- Files: calls that do not fail; the document's examples. -/
import Derived.Test.YtjdemlagmamlbaaFIC
namespace Go.Proofs.Ytjdemlagmamlbaa
variable {D : Nat} {s : FiS}

theorem law10_page {v : AV} {k n : Nat} {w : Bool} : Spec R (.f n_law10_page) [v] [ByC v k n w] fun x Rs => (∃ id, x = .sl id 0 4096 4096) ∧ Rs = [ByC x 4096 (pageN k n) true, ByC v k n w] := by
  refine spec_in fun h F st => ?_
  obtain ⟨hl, hj, hn⟩ := st.by (by repeat (first | exact Take.here | apply Take.there))
  clear st h F; refine spec_w (fun _ _ _ x => progI_call rfl rfl x) (by repeat (first | exact trivial | refine ⟨by first | rfl | assumption, ?_⟩)) rfl (fun h F st => ?_); dsimp only [List.cons_append, List.nil_append] at st
  (repeat (first | (show W _ _ _ _ _ _ (.code (cond _ _ _) :: _) _ _; first | refine W.ct ?_ | refine W.cf ?_) | (show W _ _ _ _ _ _ (.ins (cond _ _ _ :: _) :: _) _ _; first | refine W.gt ?_ | refine W.gf ?_) | (show W _ _ _ _ _ _ [] _ _; refine W.of (.done ?_)) | (apply W.of; constructor <;> first | (show W _ _ _ _ _ _ _ _ _) | (intro (al : Nat) h st; show W _ _ _ _ _ _ _ _ _) | (intro _ h st; show W _ _ _ _ _ _ _ _ _) | (first | (show (_ : Int) ≤ _; omega) | exact rfl | assumption | ((repeat (first | exact Take.here | apply Take.there)); done) | (show Ag _ _ _; (repeat (first | assumption | exact rfl | exact Ag.nil | exact Take.here | apply Take.there | (show Ag _ _ _; constructor))); done) | exact Pk.t | exact Pk.f)))); refine W.ef (ho := (e_mkbytes (k := 4096) st (by decide))) (w := ?_); rintro vv h ⟨id, rfl, st⟩; refine nj ?_
  (repeat (first | (show W _ _ _ _ _ _ (.code (cond _ _ _) :: _) _ _; first | refine W.ct ?_ | refine W.cf ?_) | (show W _ _ _ _ _ _ (.ins (cond _ _ _ :: _) :: _) _ _; first | refine W.gt ?_ | refine W.gf ?_) | (show W _ _ _ _ _ _ [] _ _; refine W.of (.done ?_)) | (apply W.of; constructor <;> first | (show W _ _ _ _ _ _ _ _ _) | (intro (al : Nat) h st; show W _ _ _ _ _ _ _ _ _) | (intro _ h st; show W _ _ _ _ _ _ _ _ _) | (first | (show (_ : Int) ≤ _; omega) | exact rfl | assumption | ((repeat (first | exact Take.here | apply Take.there)); done) | (show Ag _ _ _; (repeat (first | assumption | exact rfl | exact Ag.nil | exact Take.here | apply Take.there | (show Ag _ _ _; constructor))); done) | exact Pk.t | exact Pk.f))))
  (repeat (first | (show W _ _ _ _ _ _ (.code (cond _ _ _) :: _) _ _; first | refine W.ct ?_ | refine W.cf ?_) | (show W _ _ _ _ _ _ (.ins (cond _ _ _ :: _) :: _) _ _; first | refine W.gt ?_ | refine W.gf ?_) | (show W _ _ _ _ _ _ [] _ _; refine W.of (.done ?_)) | (apply W.of; constructor <;> first | (show W _ _ _ _ _ _ _ _ _) | (intro (al : Nat) h st; show W _ _ _ _ _ _ _ _ _) | (intro _ h st; show W _ _ _ _ _ _ _ _ _) | (first | (show (_ : Int) ≤ _; omega) | exact rfl | assumption | ((repeat (first | exact Take.here | apply Take.there)); done) | (show Ag _ _ _; (repeat (first | assumption | exact rfl | exact Ag.nil | exact Take.here | apply Take.there | (show Ag _ _ _; constructor))); done) | exact Pk.t | exact Pk.f)))); refine W.ef (ho := (e_copyb st (by repeat (first | exact Take.here | apply Take.there)) (by repeat (first | exact Take.here | apply Take.there)))) (w := ?_); rintro vv h ⟨rfl, st⟩; refine nj ?_
  (repeat (first | (show W _ _ _ _ _ _ (.code (cond _ _ _) :: _) _ _; first | refine W.ct ?_ | refine W.cf ?_) | (show W _ _ _ _ _ _ (.ins (cond _ _ _ :: _) :: _) _ _; first | refine W.gt ?_ | refine W.gf ?_) | (show W _ _ _ _ _ _ [] _ _; refine W.of (.done ?_)) | (apply W.of; constructor <;> first | (show W _ _ _ _ _ _ _ _ _) | (intro (al : Nat) h st; show W _ _ _ _ _ _ _ _ _) | (intro _ h st; show W _ _ _ _ _ _ _ _ _) | (first | (show (_ : Int) ≤ _; omega) | exact rfl | assumption | ((repeat (first | exact Take.here | apply Take.there)); done) | (show Ag _ _ _; (repeat (first | assumption | exact rfl | exact Ag.nil | exact Take.here | apply Take.there | (show Ag _ _ _; constructor))); done) | exact Pk.t | exact Pk.f))))
  exact ⟨_, rfl, _, ⟨⟨_, rfl⟩, rfl⟩, st⟩

theorem make_ok {n : Int} (h0 : 0 ≤ n) (h1 : n ≤ 4096) (h2 : s.sizes.length < 16) : s.make n = ({ s with sizes := s.sizes ++ [n] }, (s.sizes.length : Int) + 1, 0) := by
  unfold FiS.make; rw [if_neg (by omega), if_neg (by omega)]
theorem make_full {n : Int} (h0 : 0 ≤ n) (h1 : n ≤ 4096) (h2 : s.sizes.length ≥ 16) : s.make n = (s, 0, 5) := by
  unfold FiS.make; rw [if_neg (by omega), if_pos h2]

theorem file_Make_ok {n : Int} (h0 : 0 ≤ n) (h1 : n ≤ 4096) (h2 : s.sizes.length < 16) : Spec R (.f n_file_Store_Make) [.ptr D 0, .int .i64 n] [FiC D s] fun v Rs => v = .tuple [.int .i64 ((s.sizes.length : Int) + 1), .int .i64 0] ∧ Rs = [FiC D { s with sizes := s.sizes ++ [n] }] :=
  file_Make.mono progI_mono fun v Rs ⟨e1, e2⟩ => by rw [make_ok h0 h1 h2] at e1 e2; exact ⟨e1, e2⟩

theorem St.fiNodup {h : AHeap} {L R : List Chunk} (st : St h L) (t : Take L (FiC D s) R) : (keys s.pg).Nodup := by
  obtain ⟨cs, ⟨lv, M, rfl, _⟩, st'⟩ := (st.take t).unpack
  exact St.mpNodup (ke := pkey) (ve := pageV) (M := M) (l := s.pg) st' (.there (.there .here))

theorem cell_put (hn : (keys s.pg).Nodup) (p q : Pl) (N : Nat) : (s.put p N).cell q = if p = q then N else s.cell q := by
  unfold FiS.put FiS.cell
  by_cases hz : N = 0
  · subst hz
    simp only [if_true, alook_adel hn]
    split <;> rfl
  · simp only [if_neg hz, alook_aput]
    split <;> rfl

theorem at_ok {id n : Int} (h : s.ok id n = true) (hb : s.left ≠ 1) : s.at' id n true = ⟨s.tick, 0⟩ := by
  unfold FiS.at' FiS.bad
  cases hs : s.size id with
  | none => rw [ok_none hs] at h; cases h
  | some z => rw [if_neg (by simp), if_pos ⟨h, rfl⟩, decide_eq_false hb]; rfl
theorem at_bad {id n : Int} (h : s.ok id n = true) (hb : s.left = 1) : s.at' id n true = ⟨s.tick, 6⟩ := by
  unfold FiS.at' FiS.bad
  cases hs : s.size id with
  | none => rw [ok_none hs] at h; cases h
  | some z => rw [if_neg (by simp), if_pos ⟨h, rfl⟩, decide_eq_true hb]; rfl

theorem file_Plan_ok {n : Int} (h0 : 0 ≤ n) : Spec R (.f n_file_Store_Plan) [.ptr D 0, .int .i64 n] [FiC D s] fun v Rs => v = .int .i64 0 ∧ Rs = [FiC D { s with left := n }] :=
  file_Plan.mono progI_mono fun v Rs ⟨e1, e2⟩ => by rw [if_neg (by omega)] at e1 e2; exact ⟨e1, e2⟩

/-- a Read that does not fail -/
theorem file_Read_ok {id n : Int} (hlo : s.left ≤ 9223372036854775807) (h : s.ok id n = true) (hb : s.left ≠ 1) : Spec R (.f n_file_Store_Read) [.ptr D 0, .int .i64 id, .int .i64 n] [FiC D s] fun r Rs =>
    ∃ x, r = .tuple [x, .int .i64 0] ∧ x.notJunk = some x ∧ sliceLen x = some 4096 ∧ Rs = [ByC x 4096 (s.cell (id, n)) true, FiC D s.tick] :=
  (file_Read hlo).mono progI_mono fun r Rs ⟨x, e1, e2, e3, e4⟩ => by
    rw [at_ok h hb] at e1 e4
    unfold FiS.rk at e3 e4
    rw [at_ok h hb, if_pos rfl] at e3 e4
    exact ⟨x, e1, e2, e3, e4⟩
theorem file_Write_ok {id n : Int} {v : AV} {N : Nat} {w : Bool} (hlo : s.left ≤ 9223372036854775807) (h : s.ok id n = true) (hb : s.left ≠ 1) : Spec R (.f n_file_Store_Write) [.ptr D 0, .int .i64 id, .int .i64 n, v] [FiC D s, ByC v 4096 N w] fun r Rs =>
    r = .int .i64 0 ∧ Rs = [FiC D (s.tick.put (id, n) N), ByC v 4096 N w] :=
  (file_Write hlo).mono progI_mono fun r Rs ⟨e1, e2⟩ => by
    have e : s.write id n 4096 N = ⟨s.tick.put (id, n) N, 0⟩ := by
      unfold FiS.write; dsimp only
      rw [show (((4096 : Nat) : Int) == 4096) = true from rfl, at_ok h hb, if_pos rfl]
    rw [e] at e1 e2
    exact ⟨e1, e2⟩
theorem file_Write_bad {id n : Int} {v : AV} {N : Nat} {w : Bool} (hlo : s.left ≤ 9223372036854775807) (h : s.ok id n = true) (hb : s.left = 1) : Spec R (.f n_file_Store_Write) [.ptr D 0, .int .i64 id, .int .i64 n, v] [FiC D s, ByC v 4096 N w] fun r Rs =>
    r = .int .i64 6 ∧ Rs = [FiC D s.tick, ByC v 4096 N w] :=
  (file_Write hlo).mono progI_mono fun r Rs ⟨e1, e2⟩ => by
    have e : s.write id n 4096 N = ⟨s.tick, 6⟩ := by
      unfold FiS.write; dsimp only
      rw [show (((4096 : Nat) : Int) == 4096) = true from rfl, at_bad h hb, if_neg (by simp)]
    rw [e] at e1 e2
    exact ⟨e1, e2⟩

theorem tick_0 (h : s.left = 0) : s.tick = s := by unfold FiS.tick; rw [if_neg (by omega)]
theorem tick_1 {pg : List (Pl × Nat)} {z : List Int} {m : Nat} : (⟨z, pg, (m + 1 : Nat)⟩ : FiS).tick = ⟨z, pg, (m : Nat)⟩ := by
  unfold FiS.tick; rw [if_pos (by show ((m + 1 : Nat) : Int) > 0; omega)]; congr 1; show ((m + 1 : Nat) : Int) - 1 = m; omega

theorem alook_filter {l : List (Pl × Nat)} (hn : (keys l).Nodup) (g : Pl → Bool) (p : Pl) : alook (l.filter fun q => g q.1) p = if g p = true then alook l p else none := by
  have hn' : (keys (l.filter fun q => g q.1)).Nodup := by unfold keys at *; exact hn.sublist (List.filter_sublist.map _)
  cases h : alook (l.filter fun q => g q.1) p with
  | some b =>
    have hm := (alook_mem hn').1 h
    obtain ⟨h1, h2⟩ := List.mem_filter.1 hm
    rw [if_pos h2]; exact ((alook_mem hn).2 h1).symm
  | none =>
    split
    · rename_i hg
      cases h2 : alook l p with
      | none => rfl
      | some b =>
        have := (alook_mem hn').2 (List.mem_filter.2 ⟨(alook_mem hn).1 h2, hg⟩)
        rw [h] at this; cases this
    · rfl

theorem resize_ok {id z y : Int} (hs : s.size id = some y) (h0 : 0 ≤ z) (h1 : z ≤ 4096) : s.resize id z = ⟨{ s with sizes := s.sizes.set (id - 1).toNat z, pg := s.pg.filter fun q => !cutQ id z q.1 }, 0⟩ := by
  unfold FiS.resize; rw [hs, if_neg (by simp), if_neg (by omega)]
theorem file_Resize_ok {id z y : Int} (hlen : s.pg.length < 100000) (hs : s.size id = some y) (h0 : 0 ≤ z) (h1 : z ≤ 4096) : Spec R (.f n_file_Store_Resize) [.ptr D 0, .int .i64 id, .int .i64 z] [FiC D s] fun r Rs =>
    r = .int .i64 0 ∧ Rs = [FiC D { s with sizes := s.sizes.set (id - 1).toNat z, pg := s.pg.filter fun q => !cutQ id z q.1 }] :=
  (file_Resize hlen).mono progI_mono fun r Rs ⟨e1, e2⟩ => by rw [resize_ok hs h0 h1] at e1 e2; exact ⟨e1, e2⟩

theorem put_len (p : Pl) (N : Nat) : (s.put p N).pg.length ≤ s.pg.length + 1 := by
  unfold FiS.put
  simp only
  split
  · have : ∀ l : List (Pl × Nat), (adel l p).length ≤ l.length := fun l => by
      induction l with
      | nil => simp [adel]
      | cons a l ih =>
        obtain ⟨k, v⟩ := a
        simp only [adel]; split <;> simp <;> omega
    have := this s.pg; omega
  · have : ∀ l : List (Pl × Nat), (aput l p N).length ≤ l.length + 1 := fun l => by
      induction l with
      | nil => simp [aput]
      | cons a l ih =>
        obtain ⟨k, v⟩ := a
        simp only [aput]; split <;> simp <;> omega
    exact this s.pg

/-- two files of one size -/
abbrev cS (z z' : Int) (pg : List (Pl × Nat)) : FiS := ⟨[z, z'], pg, 0⟩
theorem cS_size1 {z z' : Int} {pg : List (Pl × Nat)} : (cS z z' pg).size 1 = some z := by unfold FiS.size; rw [if_pos (by simp)]; rfl
theorem cS_size2 {z z' : Int} {pg : List (Pl × Nat)} : (cS z z' pg).size 2 = some z' := by unfold FiS.size; rw [if_pos (by simp)]; rfl
theorem cS_ok1 {z z' i : Int} {pg : List (Pl × Nat)} (h0 : 0 ≤ i) (h1 : i < z) : (cS z z' pg).ok 1 i = true := by rw [ok_some cS_size1]; exact decide_eq_true ⟨h0, h1⟩
theorem cS_ok2 {z z' i : Int} {pg : List (Pl × Nat)} (h0 : 0 ≤ i) (h1 : i < z') : (cS z z' pg).ok 2 i = true := by rw [ok_some cS_size2]; exact decide_eq_true ⟨h0, h1⟩
theorem cS_Write {z z' id i : Int} {pg : List (Pl × Nat)} {v : AV} {N : Nat} {w : Bool} (h : (cS z z' pg).ok id i = true) : Spec R (.f n_file_Store_Write) [.ptr D 0, .int .i64 id, .int .i64 i, v] [FiC D (cS z z' pg), ByC v 4096 N w] fun r Rs =>
    r = .int .i64 0 ∧ Rs = [FiC D (cS z z' ((cS z z' pg).put (id, i) N).pg), ByC v 4096 N w] :=
  (file_Write_ok (s := cS z z' pg) (by show (0 : Int) ≤ 9223372036854775807; decide) h (by show ¬ (0 : Int) = 1; decide)).mono progI_mono fun r Rs e => e
theorem cS_Read {z z' id i : Int} {pg : List (Pl × Nat)} (h : (cS z z' pg).ok id i = true) : Spec R (.f n_file_Store_Read) [.ptr D 0, .int .i64 id, .int .i64 i] [FiC D (cS z z' pg)] fun r Rs =>
    ∃ x, r = .tuple [x, .int .i64 0] ∧ x.notJunk = some x ∧ sliceLen x = some 4096 ∧ Rs = [ByC x 4096 ((cS z z' pg).cell (id, i)) true, FiC D (cS z z' pg)] :=
  (file_Read_ok (s := cS z z' pg) (by show (0 : Int) ≤ 9223372036854775807; decide) h (by show ¬ (0 : Int) = 1; decide)).mono progI_mono fun r Rs e => e

theorem neSelf (n : Int) : (n != n) = false := by simp

theorem d_rem {k : IntKind} {a b : Int} {h : AHeap} (hb : b ≠ 0) : Does (.bin .rem) [.int k a, .int k b] h (.int k (a.tmod b)) h := ⟨rfl, by
  simp only [aop, binInt, ne_eq, not_true, if_false, if_neg hb, Option.map_some]⟩


theorem fiNew_size : (⟨[2], [], 0⟩ : FiS).size 1 = some 2 := rfl

set_option maxRecDepth 8000 in
/-- the document's examples are as it says -/
theorem law10_lives : Spec R (.f n_law10_lives) [] [] fun v Rs => v = .bool true ∧ Rs = [] := by
  refine spec_w (fun _ _ _ x => progI_call rfl rfl x) (by repeat (first | exact trivial | refine ⟨by first | rfl | assumption, ?_⟩)) rfl (fun h F st => ?_); dsimp only [List.cons_append, List.nil_append] at st
  (repeat (first | (show W _ _ _ _ _ _ (.code (cond _ _ _) :: _) _ _; first | refine W.ct ?_ | refine W.cf ?_) | (show W _ _ _ _ _ _ (.ins (cond _ _ _ :: _) :: _) _ _; first | refine W.gt ?_ | refine W.gf ?_) | (show W _ _ _ _ _ _ [] _ _; refine W.of (.done ?_)) | (apply W.of; constructor <;> first | (show W _ _ _ _ _ _ _ _ _) | (intro (al : Nat) h st; show W _ _ _ _ _ _ _ _ _) | (intro _ h st; show W _ _ _ _ _ _ _ _ _) | (first | (show (_ : Int) ≤ _; omega) | exact rfl | assumption | ((repeat (first | exact Take.here | apply Take.there)); done) | (show Ag _ _ _; (repeat (first | assumption | exact rfl | exact Ag.nil | exact Take.here | apply Take.there | (show Ag _ _ _; constructor))); done) | exact Pk.t | exact Pk.f)))); refine W.call (hs := file_New) (w := ?_); rintro vv _ ⟨D, rfl, rfl⟩ h st; refine nj ?_; dsimp only [List.cons_append, List.nil_append] at st
  (repeat (first | (show W _ _ _ _ _ _ (.code (cond _ _ _) :: _) _ _; first | refine W.ct ?_ | refine W.cf ?_) | (show W _ _ _ _ _ _ (.ins (cond _ _ _ :: _) :: _) _ _; first | refine W.gt ?_ | refine W.gf ?_) | (show W _ _ _ _ _ _ [] _ _; refine W.of (.done ?_)) | (apply W.of; constructor <;> first | (show W _ _ _ _ _ _ _ _ _) | (intro (al : Nat) h st; show W _ _ _ _ _ _ _ _ _) | (intro _ h st; show W _ _ _ _ _ _ _ _ _) | (first | (show (_ : Int) ≤ _; omega) | exact rfl | assumption | ((repeat (first | exact Take.here | apply Take.there)); done) | (show Ag _ _ _; (repeat (first | assumption | exact rfl | exact Ag.nil | exact Take.here | apply Take.there | (show Ag _ _ _; constructor))); done) | exact Pk.t | exact Pk.f)))); refine W.call (hs := (file_Make_ok (s := ⟨[], [], 0⟩) (n := 2) (by decide) (by decide) (by decide))) (w := ?_); rintro vv _ ⟨rfl, rfl⟩ h st; refine nj ?_; dsimp only [List.cons_append, List.nil_append] at st
  (repeat (first | (show W _ _ _ _ _ _ (.code (cond _ _ _) :: _) _ _; first | refine W.ct ?_ | refine W.cf ?_) | (show W _ _ _ _ _ _ (.ins (cond _ _ _ :: _) :: _) _ _; first | refine W.gt ?_ | refine W.gf ?_) | (show W _ _ _ _ _ _ [] _ _; refine W.of (.done ?_)) | (apply W.of; constructor <;> first | (show W _ _ _ _ _ _ _ _ _) | (intro (al : Nat) h st; show W _ _ _ _ _ _ _ _ _) | (intro _ h st; show W _ _ _ _ _ _ _ _ _) | (first | (show (_ : Int) ≤ _; omega) | exact rfl | assumption | ((repeat (first | exact Take.here | apply Take.there)); done) | (show Ag _ _ _; (repeat (first | assumption | exact rfl | exact Ag.nil | exact Take.here | apply Take.there | (show Ag _ _ _; constructor))); done) | exact Pk.t | exact Pk.f))))
  have st := St.byRow' (k := 1) (n := 7) st (by repeat (first | exact Take.here | apply Take.there)) (by decide)
  (repeat (first | (show W _ _ _ _ _ _ (.code (cond _ _ _) :: _) _ _; first | refine W.ct ?_ | refine W.cf ?_) | (show W _ _ _ _ _ _ (.ins (cond _ _ _ :: _) :: _) _ _; first | refine W.gt ?_ | refine W.gf ?_) | (show W _ _ _ _ _ _ [] _ _; refine W.of (.done ?_)) | (apply W.of; constructor <;> first | (show W _ _ _ _ _ _ _ _ _) | (intro (al : Nat) h st; show W _ _ _ _ _ _ _ _ _) | (intro _ h st; show W _ _ _ _ _ _ _ _ _) | (first | (show (_ : Int) ≤ _; omega) | exact rfl | assumption | ((repeat (first | exact Take.here | apply Take.there)); done) | (show Ag _ _ _; (repeat (first | assumption | exact rfl | exact Ag.nil | exact Take.here | apply Take.there | (show Ag _ _ _; constructor))); done) | exact Pk.t | exact Pk.f)))); refine W.call (hs := law10_page) (w := ?_); rintro vv _ ⟨⟨id1, rfl⟩, rfl⟩ h st; refine nj ?_; dsimp only [List.cons_append, List.nil_append] at st
  (repeat (first | (show W _ _ _ _ _ _ (.code (cond _ _ _) :: _) _ _; first | refine W.ct ?_ | refine W.cf ?_) | (show W _ _ _ _ _ _ (.ins (cond _ _ _ :: _) :: _) _ _; first | refine W.gt ?_ | refine W.gf ?_) | (show W _ _ _ _ _ _ [] _ _; refine W.of (.done ?_)) | (apply W.of; constructor <;> first | (show W _ _ _ _ _ _ _ _ _) | (intro (al : Nat) h st; show W _ _ _ _ _ _ _ _ _) | (intro _ h st; show W _ _ _ _ _ _ _ _ _) | (first | (show (_ : Int) ≤ _; omega) | exact rfl | assumption | ((repeat (first | exact Take.here | apply Take.there)); done) | (show Ag _ _ _; (repeat (first | assumption | exact rfl | exact Ag.nil | exact Take.here | apply Take.there | (show Ag _ _ _; constructor))); done) | exact Pk.t | exact Pk.f)))); refine W.call (hs := (file_Write_ok (D := D) (s := ⟨[2], [], 0⟩) (id := 1) (n := 1) (v := .sl id1 0 4096 4096) (by decide) (by rw [ok_some fiNew_size]; decide) (by decide))) (w := ?_); rintro vv _ ⟨rfl, rfl⟩ h st; refine nj ?_; dsimp only [List.cons_append, List.nil_append] at st
  have hlen := put_len (s := ⟨[2], [], 0⟩) (1, 1) (pageN 1 7)
  have st : St h (FiC D ⟨[2], ((⟨[2], [], 0⟩ : FiS).put (1, 1) (pageN 1 7)).pg, 0⟩ :: ByC (.sl id1 0 4096 4096) 4096 (pageN 1 7) true :: ByC (.sl al 0 1 1) 1 7 true :: F) := st
  have hn := st.fiNodup (by repeat (first | exact Take.here | apply Take.there))
  simp only at hn
  generalize ((⟨[2], [], 0⟩ : FiS).put (1, 1) (pageN 1 7)).pg = pg at *
  (repeat (first | (show W _ _ _ _ _ _ (.code (cond _ _ _) :: _) _ _; first | refine W.ct ?_ | refine W.cf ?_) | (show W _ _ _ _ _ _ (.ins (cond _ _ _ :: _) :: _) _ _; first | refine W.gt ?_ | refine W.gf ?_) | (show W _ _ _ _ _ _ [] _ _; refine W.of (.done ?_)) | (apply W.of; constructor <;> first | (show W _ _ _ _ _ _ _ _ _) | (intro (al : Nat) h st; show W _ _ _ _ _ _ _ _ _) | (intro _ h st; show W _ _ _ _ _ _ _ _ _) | (first | (show (_ : Int) ≤ _; omega) | exact rfl | assumption | ((repeat (first | exact Take.here | apply Take.there)); done) | (show Ag _ _ _; (repeat (first | assumption | exact rfl | exact Ag.nil | exact Take.here | apply Take.there | (show Ag _ _ _; constructor))); done) | exact Pk.t | exact Pk.f)))); refine W.call (hs := (file_Resize_ok (s := ⟨[2], pg, 0⟩) (id := 1) (z := 1) (y := 2) (by show pg.length < 100000; simp only [List.length_nil] at hlen; omega) rfl (by decide) (by decide))) (w := ?_); rintro vv _ ⟨rfl, rfl⟩ h st; refine nj ?_; dsimp only [List.cons_append, List.nil_append] at st
  have hl2 : (pg.filter fun q => !cutQ 1 1 q.1).length ≤ pg.length := List.length_filter_le _ _
  have st : St h (FiC D ⟨[1], pg.filter fun q => !cutQ 1 1 q.1, 0⟩ :: ByC (.sl id1 0 4096 4096) 4096 (pageN 1 7) true :: ByC (.sl al 0 1 1) 1 7 true :: F) := st
  (repeat (first | (show W _ _ _ _ _ _ (.code (cond _ _ _) :: _) _ _; first | refine W.ct ?_ | refine W.cf ?_) | (show W _ _ _ _ _ _ (.ins (cond _ _ _ :: _) :: _) _ _; first | refine W.gt ?_ | refine W.gf ?_) | (show W _ _ _ _ _ _ [] _ _; refine W.of (.done ?_)) | (apply W.of; constructor <;> first | (show W _ _ _ _ _ _ _ _ _) | (intro (al : Nat) h st; show W _ _ _ _ _ _ _ _ _) | (intro _ h st; show W _ _ _ _ _ _ _ _ _) | (first | (show (_ : Int) ≤ _; omega) | exact rfl | assumption | ((repeat (first | exact Take.here | apply Take.there)); done) | (show Ag _ _ _; (repeat (first | assumption | exact rfl | exact Ag.nil | exact Take.here | apply Take.there | (show Ag _ _ _; constructor))); done) | exact Pk.t | exact Pk.f)))); refine W.call (hs := (file_Resize_ok (s := ⟨[1], pg.filter fun q => !cutQ 1 1 q.1, 0⟩) (id := 1) (z := 2) (y := 1) (by show (pg.filter fun q => !cutQ 1 1 q.1).length < 100000; simp only [List.length_nil] at hlen; omega) rfl (by decide) (by decide))) (w := ?_); rintro vv _ ⟨rfl, rfl⟩ h st; refine nj ?_; dsimp only [List.cons_append, List.nil_append] at st
  have st : St h (FiC D ⟨[2], (pg.filter fun q => !cutQ 1 1 q.1).filter fun q => !cutQ 1 2 q.1, 0⟩ :: F) := st.sel (by repeat (first | exact Sel.nil | exact Take.here | apply Sel.cons | apply Take.there | apply Sel.skip))
  have hn' : (keys (pg.filter fun q => !cutQ 1 1 q.1)).Nodup := by unfold keys at *; exact hn.sublist (List.filter_sublist.map _)
  have hc : (alook ((pg.filter fun q => !cutQ 1 1 q.1).filter fun q => !cutQ 1 2 q.1) (1, 1)).getD 0 = 0 := by
    rw [alook_filter hn' (fun p => !cutQ 1 2 p), alook_filter hn (fun p => !cutQ 1 1 p)]
    rw [if_pos (by decide), if_neg (by decide)]; rfl
  generalize ((pg.filter fun q => !cutQ 1 1 q.1).filter fun q => !cutQ 1 2 q.1) = pg2 at *
  (repeat (first | (show W _ _ _ _ _ _ (.code (cond _ _ _) :: _) _ _; first | refine W.ct ?_ | refine W.cf ?_) | (show W _ _ _ _ _ _ (.ins (cond _ _ _ :: _) :: _) _ _; first | refine W.gt ?_ | refine W.gf ?_) | (show W _ _ _ _ _ _ [] _ _; refine W.of (.done ?_)) | (apply W.of; constructor <;> first | (show W _ _ _ _ _ _ _ _ _) | (intro (al : Nat) h st; show W _ _ _ _ _ _ _ _ _) | (intro _ h st; show W _ _ _ _ _ _ _ _ _) | (first | (show (_ : Int) ≤ _; omega) | exact rfl | assumption | ((repeat (first | exact Take.here | apply Take.there)); done) | (show Ag _ _ _; (repeat (first | assumption | exact rfl | exact Ag.nil | exact Take.here | apply Take.there | (show Ag _ _ _; constructor))); done) | exact Pk.t | exact Pk.f)))); refine W.call (hs := (file_Read_ok (s := ⟨[2], pg2, 0⟩) (id := 1) (n := 1) (by show (0 : Int) ≤ 9223372036854775807; decide) (by rw [ok_some (z := 2) rfl]; decide) (by show ¬ (0 : Int) = 1; decide))) (w := ?_); rintro vv _ ⟨x, rfl, gx, gl, rfl⟩ h st; refine nj ?_; dsimp only [List.cons_append, List.nil_append] at st
  rw [show (⟨[2], pg2, 0⟩ : FiS).cell (1, 1) = 0 from hc] at st
  (repeat (first | (show W _ _ _ _ _ _ (.code (cond _ _ _) :: _) _ _; first | refine W.ct ?_ | refine W.cf ?_) | (show W _ _ _ _ _ _ (.ins (cond _ _ _ :: _) :: _) _ _; first | refine W.gt ?_ | refine W.gf ?_) | (show W _ _ _ _ _ _ [] _ _; refine W.of (.done ?_)) | (apply W.of; constructor <;> first | (show W _ _ _ _ _ _ _ _ _) | (intro (al : Nat) h st; show W _ _ _ _ _ _ _ _ _) | (intro _ h st; show W _ _ _ _ _ _ _ _ _) | (first | (show (_ : Int) ≤ _; omega) | exact rfl | assumption | ((repeat (first | exact Take.here | apply Take.there)); done) | (show Ag _ _ _; (repeat (first | assumption | exact rfl | exact Ag.nil | exact Take.here | apply Take.there | (show Ag _ _ _; constructor))); done) | exact Pk.t | exact Pk.f))))
  have st := st.byNil false
  (repeat (first | (show W _ _ _ _ _ _ (.code (cond _ _ _) :: _) _ _; first | refine W.ct ?_ | refine W.cf ?_) | (show W _ _ _ _ _ _ (.ins (cond _ _ _ :: _) :: _) _ _; first | refine W.gt ?_ | refine W.gf ?_) | (show W _ _ _ _ _ _ [] _ _; refine W.of (.done ?_)) | (apply W.of; constructor <;> first | (show W _ _ _ _ _ _ _ _ _) | (intro (al : Nat) h st; show W _ _ _ _ _ _ _ _ _) | (intro _ h st; show W _ _ _ _ _ _ _ _ _) | (first | (show (_ : Int) ≤ _; omega) | exact rfl | assumption | ((repeat (first | exact Take.here | apply Take.there)); done) | (show Ag _ _ _; (repeat (first | assumption | exact rfl | exact Ag.nil | exact Take.here | apply Take.there | (show Ag _ _ _; constructor))); done) | exact Pk.t | exact Pk.f)))); refine W.call (hs := (law10_page (v := .nilsl) (k := 0) (n := 0) (w := false))) (w := ?_); rintro vv _ ⟨⟨id2, rfl⟩, rfl⟩ h st; refine nj ?_; dsimp only [List.cons_append, List.nil_append] at st
  rw [show pageN 0 0 = 0 by decide] at st
  (repeat (first | (show W _ _ _ _ _ _ (.code (cond _ _ _) :: _) _ _; first | refine W.ct ?_ | refine W.cf ?_) | (show W _ _ _ _ _ _ (.ins (cond _ _ _ :: _) :: _) _ _; first | refine W.gt ?_ | refine W.gf ?_) | (show W _ _ _ _ _ _ [] _ _; refine W.of (.done ?_)) | (apply W.of; constructor <;> first | (show W _ _ _ _ _ _ _ _ _) | (intro (al : Nat) h st; show W _ _ _ _ _ _ _ _ _) | (intro _ h st; show W _ _ _ _ _ _ _ _ _) | (first | (show (_ : Int) ≤ _; omega) | exact rfl | assumption | ((repeat (first | exact Take.here | apply Take.there)); done) | (show Ag _ _ _; (repeat (first | assumption | exact rfl | exact Ag.nil | exact Take.here | apply Take.there | (show Ag _ _ _; constructor))); done) | exact Pk.t | exact Pk.f)))); refine W.call (hs := (Bytes_t (a := x))) (w := ?_); rintro vv _ ⟨rfl, rfl⟩ h st; refine nj ?_; dsimp only [List.cons_append, List.nil_append] at st
  (repeat (first | (show W _ _ _ _ _ _ (.code (cond _ _ _) :: _) _ _; first | refine W.ct ?_ | refine W.cf ?_) | (show W _ _ _ _ _ _ (.ins (cond _ _ _ :: _) :: _) _ _; first | refine W.gt ?_ | refine W.gf ?_) | (show W _ _ _ _ _ _ [] _ _; refine W.of (.done ?_)) | (apply W.of; constructor <;> first | (show W _ _ _ _ _ _ _ _ _) | (intro (al : Nat) h st; show W _ _ _ _ _ _ _ _ _) | (intro _ h st; show W _ _ _ _ _ _ _ _ _) | (first | (show (_ : Int) ≤ _; omega) | exact rfl | assumption | ((repeat (first | exact Take.here | apply Take.there)); done) | (show Ag _ _ _; (repeat (first | assumption | exact rfl | exact Ag.nil | exact Take.here | apply Take.there | (show Ag _ _ _; constructor))); done) | exact Pk.t | exact Pk.f))))
  exact ⟨_, rfl, _, ⟨rfl, rfl⟩, st.sel (by repeat (first | exact Sel.nil | exact Take.here | apply Sel.cons | apply Take.there | apply Sel.skip))⟩

end Go.Proofs.Ytjdemlagmamlbaa
