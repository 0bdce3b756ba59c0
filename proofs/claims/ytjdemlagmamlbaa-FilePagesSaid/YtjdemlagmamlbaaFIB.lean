/- Files: Write, Resize, Ids. -/
import Derived.Test.YtjdemlagmamlbaaFIA
namespace Go.Proofs.Ytjdemlagmamlbaa
variable {D : Nat} {s : FiS}

theorem d_eqPage {h : AHeap} {a : Nat} (ha : a < 2 ^ (8 * 4096)) : Does (.eqv false (.bytes 4096)) [.bytes 4096 a, .bytes 4096 0] h (.bool (decide (a = 0))) h := ⟨rfl, by
  simp only [aop, avEq, and_self, if_true, Option.map_some, Bool.false_eq_true, if_false, Nat.mod_eq_of_lt ha, Nat.zero_mod]
  congr 3⟩

/-- a page is written -/
def FiS.put (s : FiS) (p : Pl) (n : Nat) : FiS := { s with pg := if n = 0 then adel s.pg p else aput s.pg p n }
def FiS.write (s : FiS) (id n : Int) (k N : Nat) : AtV :=
  let a := s.at' id n ((k : Int) == 4096)
  ⟨if a.e = 0 then a.s.put (id, n) N else a.s, a.e⟩

theorem plOk_put {l : List (Pl × Nat)} {p : Pl} {n : Nat} (h : PlOk l) (hn : n < 2 ^ (8 * 4096)) : PlOk (aput l p n) := by
  intro q hq
  induction l with
  | nil => simp [aput] at hq; subst hq; exact hn
  | cons a l ih =>
    obtain ⟨k, v⟩ := a
    simp only [aput] at hq
    split at hq
    · rcases List.mem_cons.1 hq with rfl | hq
      · exact hn
      · exact h q (List.mem_cons_of_mem _ hq)
    · rcases List.mem_cons.1 hq with rfl | hq
      · exact h _ List.mem_cons_self
      · exact ih (fun q hq => h q (List.mem_cons_of_mem _ hq)) hq
theorem adel_sub {l : List (Pl × Nat)} {p : Pl} : ∀ q, q ∈ adel l p → q ∈ l := by
  induction l with
  | nil => exact fun q h => h
  | cons a l ih =>
    obtain ⟨k, v⟩ := a
    intro q hq
    simp only [adel] at hq
    split at hq
    · exact List.mem_cons_of_mem _ hq
    · rcases List.mem_cons.1 hq with rfl | hq
      · exact List.mem_cons_self
      · exact List.mem_cons_of_mem _ (ih q hq)

theorem file_Write {id n : Int} {v : AV} {k N : Nat} {w : Bool} (hlo : s.left ≤ 9223372036854775807) : Spec R (.f n_file_Store_Write) [.ptr D 0, .int .i64 id, .int .i64 n, v] [FiC D s, ByC v k N w] fun r Rs =>
    r = .int .i64 (s.write id n k N).e ∧ Rs = [FiC D (s.write id n k N).s, ByC v k N w] := by
  refine spec_in fun h F st => ?_
  obtain ⟨vl, vj⟩ := st.by2 (by repeat (first | exact Take.here | apply Take.there))
  have hN : k = 4096 → N < 2 ^ (8 * 4096) := fun e => e ▸ (st.by (by repeat (first | exact Take.here | apply Take.there))).2.2
  clear st h F; refine spec_w (fun _ _ _ x => progI_call rfl rfl x) (by repeat (first | exact trivial | refine ⟨by first | rfl | assumption, ?_⟩)) rfl (fun h F st => ?_); dsimp only [List.cons_append, List.nil_append] at st
  (repeat (first | (show W _ _ _ _ _ _ (.code (cond _ _ _) :: _) _ _; first | refine W.ct ?_ | refine W.cf ?_) | (show W _ _ _ _ _ _ (.ins (cond _ _ _ :: _) :: _) _ _; first | refine W.gt ?_ | refine W.gf ?_) | (show W _ _ _ _ _ _ [] _ _; refine W.of (.done ?_)) | (apply W.of; constructor <;> first | (show W _ _ _ _ _ _ _ _ _) | (intro (al : Nat) h st; show W _ _ _ _ _ _ _ _ _) | (intro _ h st; show W _ _ _ _ _ _ _ _ _) | (first | (show (_ : Int) ≤ _; omega) | exact rfl | assumption | ((repeat (first | exact Take.here | apply Take.there)); done) | (show Ag _ _ _; (repeat (first | assumption | exact rfl | exact Ag.nil | exact Take.here | apply Take.there | (show Ag _ _ _; constructor))); done) | exact Pk.t | exact Pk.f)))); refine W.call (hs := (file_at hlo)) (w := ?_); rintro vv _ ⟨p, hp, rfl, rfl⟩ h st; refine nj ?_; dsimp only [List.cons_append, List.nil_append] at st
  obtain ⟨q1, q2, q3⟩ := at_pg (s := s) (id := id) (n := n) (g := (k : Int) == 4096)
  unfold FiS.write
  dsimp only
  by_cases h0 : (s.at' id n ((k : Int) == 4096)).e = 0
  · rw [if_pos h0]
    have e := hp h0
    subst e
    have hk : k = 4096 := by have := eq_of_beq (q3 h0).2; omega
    subst hk
    (repeat (first | (show W _ _ _ _ _ _ (.code (cond _ _ _) :: _) _ _; first | refine W.ct ?_ | refine W.cf ?_) | (show W _ _ _ _ _ _ (.ins (cond _ _ _ :: _) :: _) _ _; first | refine W.gt ?_ | refine W.gf ?_) | (show W _ _ _ _ _ _ [] _ _; refine W.of (.done ?_)) | (apply W.of; constructor <;> first | (show W _ _ _ _ _ _ _ _ _) | (intro (al : Nat) h st; show W _ _ _ _ _ _ _ _ _) | (intro _ h st; show W _ _ _ _ _ _ _ _ _) | (first | (show (_ : Int) ≤ _; omega) | exact rfl | assumption | ((repeat (first | exact Take.here | apply Take.there)); done) | (show Ag _ _ _; (repeat (first | assumption | exact rfl | exact Ag.nil | exact Take.here | apply Take.there | (show Ag _ _ _; constructor))); done) | exact Pk.t | exact Pk.f))))
    obtain ⟨q, hq1, hq2, hq3⟩ := d_page (v := v) (m := 4096) st (by repeat (first | exact Take.here | apply Take.there)) (Nat.le_refl _) (by decide)
    (repeat (first | (show W _ _ _ _ _ _ (.code (cond _ _ _) :: _) _ _; first | refine W.ct ?_ | refine W.cf ?_) | (show W _ _ _ _ _ _ (.ins (cond _ _ _ :: _) :: _) _ _; first | refine W.gt ?_ | refine W.gf ?_) | (show W _ _ _ _ _ _ [] _ _; refine W.of (.done ?_)) | (apply W.of; constructor <;> first | (show W _ _ _ _ _ _ _ _ _) | (intro (al : Nat) h st; show W _ _ _ _ _ _ _ _ _) | (intro _ h st; show W _ _ _ _ _ _ _ _ _) | (first | (show (_ : Int) ≤ _; omega) | exact rfl | assumption | ((repeat (first | exact Take.here | apply Take.there)); done) | (show Ag _ _ _; (repeat (first | assumption | exact rfl | exact Ag.nil | exact Take.here | apply Take.there | (show Ag _ _ _; constructor))); done) | exact Pk.t | exact Pk.f)))); refine W.do (ho := hq1) (w := ?_)
    (repeat (first | (show W _ _ _ _ _ _ (.code (cond _ _ _) :: _) _ _; first | refine W.ct ?_ | refine W.cf ?_) | (show W _ _ _ _ _ _ (.ins (cond _ _ _ :: _) :: _) _ _; first | refine W.gt ?_ | refine W.gf ?_) | (show W _ _ _ _ _ _ [] _ _; refine W.of (.done ?_)) | (apply W.of; constructor <;> first | (show W _ _ _ _ _ _ _ _ _) | (intro (al : Nat) h st; show W _ _ _ _ _ _ _ _ _) | (intro _ h st; show W _ _ _ _ _ _ _ _ _) | (first | (show (_ : Int) ≤ _; omega) | exact rfl | assumption | ((repeat (first | exact Take.here | apply Take.there)); done) | (show Ag _ _ _; (repeat (first | assumption | exact rfl | exact Ag.nil | exact Take.here | apply Take.there | (show Ag _ _ _; constructor))); done) | exact Pk.t | exact Pk.f)))); refine W.do (ho := hq3) (w := ?_)
    have hn := hN rfl
    rw [bsub_whole hn]
    (repeat (first | (show W _ _ _ _ _ _ (.code (cond _ _ _) :: _) _ _; first | refine W.ct ?_ | refine W.cf ?_) | (show W _ _ _ _ _ _ (.ins (cond _ _ _ :: _) :: _) _ _; first | refine W.gt ?_ | refine W.gf ?_) | (show W _ _ _ _ _ _ [] _ _; refine W.of (.done ?_)) | (apply W.of; constructor <;> first | (show W _ _ _ _ _ _ _ _ _) | (intro (al : Nat) h st; show W _ _ _ _ _ _ _ _ _) | (intro _ h st; show W _ _ _ _ _ _ _ _ _) | (first | (show (_ : Int) ≤ _; omega) | exact rfl | assumption | ((repeat (first | exact Take.here | apply Take.there)); done) | (show Ag _ _ _; (repeat (first | assumption | exact rfl | exact Ag.nil | exact Take.here | apply Take.there | (show Ag _ _ _; constructor))); done) | exact Pk.t | exact Pk.f))))
    rw [bput_new hn] at st
    rw [bput_new hn, bsub_whole hn]
    (repeat (first | (show W _ _ _ _ _ _ (.code (cond _ _ _) :: _) _ _; first | refine W.ct ?_ | refine W.cf ?_) | (show W _ _ _ _ _ _ (.ins (cond _ _ _ :: _) :: _) _ _; first | refine W.gt ?_ | refine W.gf ?_) | (show W _ _ _ _ _ _ [] _ _; refine W.of (.done ?_)) | (apply W.of; constructor <;> first | (show W _ _ _ _ _ _ _ _ _) | (intro (al : Nat) h st; show W _ _ _ _ _ _ _ _ _) | (intro _ h st; show W _ _ _ _ _ _ _ _ _) | (first | (show (_ : Int) ≤ _; omega) | exact rfl | assumption | ((repeat (first | exact Take.here | apply Take.there)); done) | (show Ag _ _ _; (repeat (first | assumption | exact rfl | exact Ag.nil | exact Take.here | apply Take.there | (show Ag _ _ _; constructor))); done) | exact Pk.t | exact Pk.f)))); refine W.do (ho := (d_eqPage hn)) (w := ?_)
    have st := st.take (c := FiC D (s.at' id n (((4096 : Nat) : Int) == 4096)).s) (by repeat (first | exact Take.here | apply Take.there))
    obtain ⟨_, ⟨lv, M, rfl, hok⟩, st⟩ := St.unpack st; dsimp only [List.cons_append, List.nil_append] at st
    by_cases hz : N = 0
    · subst hz
      (repeat (first | (show W _ _ _ _ _ _ (.code (cond _ _ _) :: _) _ _; first | refine W.ct ?_ | refine W.cf ?_) | (show W _ _ _ _ _ _ (.ins (cond _ _ _ :: _) :: _) _ _; first | refine W.gt ?_ | refine W.gf ?_) | (show W _ _ _ _ _ _ [] _ _; refine W.of (.done ?_)) | (apply W.of; constructor <;> first | (show W _ _ _ _ _ _ _ _ _) | (intro (al : Nat) h st; show W _ _ _ _ _ _ _ _ _) | (intro _ h st; show W _ _ _ _ _ _ _ _ _) | (first | (show (_ : Int) ≤ _; omega) | exact rfl | assumption | ((repeat (first | exact Take.here | apply Take.there)); done) | (show Ag _ _ _; (repeat (first | assumption | exact rfl | exact Ag.nil | exact Take.here | apply Take.there | (show Ag _ _ _; constructor))); done) | exact Pk.t | exact Pk.f))))
      (repeat (first | (show W _ _ _ _ _ _ (.code (cond _ _ _) :: _) _ _; first | refine W.ct ?_ | refine W.cf ?_) | (show W _ _ _ _ _ _ (.ins (cond _ _ _ :: _) :: _) _ _; first | refine W.gt ?_ | refine W.gf ?_) | (show W _ _ _ _ _ _ [] _ _; refine W.of (.done ?_)) | (apply W.of; constructor <;> first | (show W _ _ _ _ _ _ _ _ _) | (intro (al : Nat) h st; show W _ _ _ _ _ _ _ _ _) | (intro _ h st; show W _ _ _ _ _ _ _ _ _) | (first | (show (_ : Int) ≤ _; omega) | exact rfl | assumption | ((repeat (first | exact Take.here | apply Take.there)); done) | (show Ag _ _ _; (repeat (first | assumption | exact rfl | exact Ag.nil | exact Take.here | apply Take.there | (show Ag _ _ _; constructor))); done) | exact Pk.t | exact Pk.f)))); refine W.ef0 (ho := (e_delete st (by repeat (first | exact Take.here | apply Take.there)) keyPl (id, n))) (w := ?_); rintro _ h ⟨_, st⟩
      (repeat (first | (show W _ _ _ _ _ _ (.code (cond _ _ _) :: _) _ _; first | refine W.ct ?_ | refine W.cf ?_) | (show W _ _ _ _ _ _ (.ins (cond _ _ _ :: _) :: _) _ _; first | refine W.gt ?_ | refine W.gf ?_) | (show W _ _ _ _ _ _ [] _ _; refine W.of (.done ?_)) | (apply W.of; constructor <;> first | (show W _ _ _ _ _ _ _ _ _) | (intro (al : Nat) h st; show W _ _ _ _ _ _ _ _ _) | (intro _ h st; show W _ _ _ _ _ _ _ _ _) | (first | (show (_ : Int) ≤ _; omega) | exact rfl | assumption | ((repeat (first | exact Take.here | apply Take.there)); done) | (show Ag _ _ _; (repeat (first | assumption | exact rfl | exact Ag.nil | exact Take.here | apply Take.there | (show Ag _ _ _; constructor))); done) | exact Pk.t | exact Pk.f))))
      have st := St.packP (t := 22) (k := .ptr D 0) (P := FiIs D ((s.at' id n (((4096 : Nat) : Int) == 4096)).s.put (id, n) 0)) st ⟨lv, M, rfl, fun q hq => hok.1 q (adel_sub q hq), hok.2⟩ (by repeat (first | exact Take.here | exact Pick.nil | apply Pick.cons | apply Take.there))
      exact ⟨_, rfl, _, ⟨by rw [h0]; rfl, rfl⟩, st.sel (by repeat (first | exact Sel.nil | exact Take.here | apply Sel.cons | apply Take.there | apply Sel.skip))⟩
    · (repeat (first | (show W _ _ _ _ _ _ (.code (cond _ _ _) :: _) _ _; first | refine W.ct ?_ | refine W.cf ?_) | (show W _ _ _ _ _ _ (.ins (cond _ _ _ :: _) :: _) _ _; first | refine W.gt ?_ | refine W.gf ?_) | (show W _ _ _ _ _ _ [] _ _; refine W.of (.done ?_)) | (apply W.of; constructor <;> first | (show W _ _ _ _ _ _ _ _ _) | (intro (al : Nat) h st; show W _ _ _ _ _ _ _ _ _) | (intro _ h st; show W _ _ _ _ _ _ _ _ _) | (first | (show (_ : Int) ≤ _; omega) | exact rfl | assumption | ((repeat (first | exact Take.here | apply Take.there)); done) | (show Ag _ _ _; (repeat (first | assumption | exact rfl | exact Ag.nil | exact Take.here | apply Take.there | (show Ag _ _ _; constructor))); done) | exact Pk.t | exact Pk.f))))
      rw [bsub_whole hn]
      (repeat (first | (show W _ _ _ _ _ _ (.code (cond _ _ _) :: _) _ _; first | refine W.ct ?_ | refine W.cf ?_) | (show W _ _ _ _ _ _ (.ins (cond _ _ _ :: _) :: _) _ _; first | refine W.gt ?_ | refine W.gf ?_) | (show W _ _ _ _ _ _ [] _ _; refine W.of (.done ?_)) | (apply W.of; constructor <;> first | (show W _ _ _ _ _ _ _ _ _) | (intro (al : Nat) h st; show W _ _ _ _ _ _ _ _ _) | (intro _ h st; show W _ _ _ _ _ _ _ _ _) | (first | (show (_ : Int) ≤ _; omega) | exact rfl | assumption | ((repeat (first | exact Take.here | apply Take.there)); done) | (show Ag _ _ _; (repeat (first | assumption | exact rfl | exact Ag.nil | exact Take.here | apply Take.there | (show Ag _ _ _; constructor))); done) | exact Pk.t | exact Pk.f)))); refine W.ef0 (ho := (e_mapput st (by repeat (first | exact Take.here | apply Take.there)) keyPl (id, n) N)) (w := ?_); rintro _ h ⟨_, st⟩
      (repeat (first | (show W _ _ _ _ _ _ (.code (cond _ _ _) :: _) _ _; first | refine W.ct ?_ | refine W.cf ?_) | (show W _ _ _ _ _ _ (.ins (cond _ _ _ :: _) :: _) _ _; first | refine W.gt ?_ | refine W.gf ?_) | (show W _ _ _ _ _ _ [] _ _; refine W.of (.done ?_)) | (apply W.of; constructor <;> first | (show W _ _ _ _ _ _ _ _ _) | (intro (al : Nat) h st; show W _ _ _ _ _ _ _ _ _) | (intro _ h st; show W _ _ _ _ _ _ _ _ _) | (first | (show (_ : Int) ≤ _; omega) | exact rfl | assumption | ((repeat (first | exact Take.here | apply Take.there)); done) | (show Ag _ _ _; (repeat (first | assumption | exact rfl | exact Ag.nil | exact Take.here | apply Take.there | (show Ag _ _ _; constructor))); done) | exact Pk.t | exact Pk.f))))
      have e2 : (s.at' id n (((4096 : Nat) : Int) == 4096)).s.put (id, n) N = { (s.at' id n (((4096 : Nat) : Int) == 4096)).s with pg := aput (s.at' id n (((4096 : Nat) : Int) == 4096)).s.pg (id, n) N } := by unfold FiS.put; rw [if_neg hz]
      have st := St.packP (t := 22) (k := .ptr D 0) (P := FiIs D ((s.at' id n (((4096 : Nat) : Int) == 4096)).s.put (id, n) N)) st ⟨lv, M, by rw [e2], by rw [e2]; exact plOk_put hok.1 hn, by rw [e2]; exact hok.2⟩ (by repeat (first | exact Take.here | exact Pick.nil | apply Pick.cons | apply Take.there))
      exact ⟨_, rfl, _, ⟨by rw [h0]; rfl, rfl⟩, st.sel (by repeat (first | exact Sel.nil | exact Take.here | apply Sel.cons | apply Take.there | apply Sel.skip))⟩
  · rw [if_neg h0]
    (repeat (first | (show W _ _ _ _ _ _ (.code (cond _ _ _) :: _) _ _; first | refine W.ct ?_ | refine W.cf ?_) | (show W _ _ _ _ _ _ (.ins (cond _ _ _ :: _) :: _) _ _; first | refine W.gt ?_ | refine W.gf ?_) | (show W _ _ _ _ _ _ [] _ _; refine W.of (.done ?_)) | (apply W.of; constructor <;> first | (show W _ _ _ _ _ _ _ _ _) | (intro (al : Nat) h st; show W _ _ _ _ _ _ _ _ _) | (intro _ h st; show W _ _ _ _ _ _ _ _ _) | (first | (show (_ : Int) ≤ _; omega) | exact rfl | assumption | ((repeat (first | exact Take.here | apply Take.there)); done) | (show Ag _ _ _; (repeat (first | assumption | exact rfl | exact Ag.nil | exact Take.here | apply Take.there | (show Ag _ _ _; constructor))); done) | exact Pk.t | exact Pk.f))))
    exact ⟨_, rfl, _, ⟨rfl, rfl⟩, st.sel (by repeat (first | exact Sel.nil | exact Take.here | apply Sel.cons | apply Take.there | apply Sel.skip))⟩

end Go.Proofs.Ytjdemlagmamlbaa
