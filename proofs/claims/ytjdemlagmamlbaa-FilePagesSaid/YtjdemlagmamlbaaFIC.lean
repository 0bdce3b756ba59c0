/- Files: Resize, Ids. -/
import Derived.Test.YtjdemlagmamlbaaFIB
namespace Go.Proofs.Ytjdemlagmamlbaa
variable {D : Nat} {s : FiS}

abbrev ibox (n : Int) : AObj := .row 3 1 false false (.vals [.int .i64 n])
abbrev n_DelFunc : Nat := n_maps_DeleteFunc_map_file_place_4096_byte_file_place_4096_byte

/-- is it cut off? -/
def cutQ (id z : Int) (p : Pl) : Bool := decide (p.1 = id ∧ z ≤ p.2)

theorem file_cb {p : Pl} {N B1 B2 : Nat} {id z : Int} : Spec R (.f n_file_Store_Resize_1) [pkey p, pageV N, .ptr B1 0, .ptr B2 0] [.pt B1 (ibox id), .pt B2 (ibox z)] fun v Rs => v = .bool (cutQ id z p) ∧ Rs = [.pt B1 (ibox id), .pt B2 (ibox z)] := by
  refine spec_w (fun _ _ _ x => progI_call rfl rfl x) (by repeat (first | exact trivial | refine ⟨by first | rfl | assumption, ?_⟩)) rfl (fun h F st => ?_); dsimp only [List.cons_append, List.nil_append] at st
  unfold cutQ
  by_cases h1 : p.1 = id
  · have e1 : (p.1 == id) = true := by simp [h1]
    (repeat (first | (show W _ _ _ _ _ _ (.code (cond _ _ _) :: _) _ _; first | refine W.ct ?_ | refine W.cf ?_) | (show W _ _ _ _ _ _ (.ins (cond _ _ _ :: _) :: _) _ _; first | refine W.gt ?_ | refine W.gf ?_) | (show W _ _ _ _ _ _ [] _ _; refine W.of (.done ?_)) | (apply W.of; constructor <;> first | (show W _ _ _ _ _ _ _ _ _) | (intro (al : Nat) h st; show W _ _ _ _ _ _ _ _ _) | (intro _ h st; show W _ _ _ _ _ _ _ _ _) | (first | (show (_ : Int) ≤ _; omega) | exact rfl | assumption | ((repeat (first | exact Take.here | apply Take.there)); done) | (show Ag _ _ _; (repeat (first | assumption | exact rfl | exact Ag.nil | exact Take.here | apply Take.there | (show Ag _ _ _; constructor))); done) | exact Pk.t | exact Pk.f))))
    exact ⟨_, rfl, _, ⟨by simp [retA, h1], rfl⟩, st.sel (by repeat (first | exact Sel.nil | exact Take.here | apply Sel.cons | apply Take.there | apply Sel.skip))⟩
  · (repeat (first | (show W _ _ _ _ _ _ (.code (cond _ _ _) :: _) _ _; first | refine W.ct ?_ | refine W.cf ?_) | (show W _ _ _ _ _ _ (.ins (cond _ _ _ :: _) :: _) _ _; first | refine W.gt ?_ | refine W.gf ?_) | (show W _ _ _ _ _ _ [] _ _; refine W.of (.done ?_)) | (apply W.of; constructor <;> first | (show W _ _ _ _ _ _ _ _ _) | (intro (al : Nat) h st; show W _ _ _ _ _ _ _ _ _) | (intro _ h st; show W _ _ _ _ _ _ _ _ _) | (first | (show (_ : Int) ≤ _; omega) | exact rfl | assumption | ((repeat (first | exact Take.here | apply Take.there)); done) | (show Ag _ _ _; (repeat (first | assumption | exact rfl | exact Ag.nil | exact Take.here | apply Take.there | (show Ag _ _ _; constructor))); done) | exact Pk.t | exact Pk.f))))
    exact ⟨_, rfl, _, ⟨by simp [retA, h1], rfl⟩, st.sel (by repeat (first | exact Sel.nil | exact Take.here | apply Sel.cons | apply Take.there | apply Sel.skip))⟩

structure DelS where
  l : List (Pl × Nat)
  dn : List Pl
  cur : Option (Pl × Nat)

theorem filter_step {l : List (Pl × Nat)} (hn : (keys l).Nodup) {dn : List Pl} {c : Pl → Bool} {a : Pl} (hc : c a = true) :
    adel (l.filter fun q => !(decide (q.1 ∈ dn) && c q.1)) a = l.filter fun q => !(decide (q.1 ∈ a :: dn) && c q.1) := by
  have hn' : (keys (l.filter fun q => !(decide (q.1 ∈ dn) && c q.1))).Nodup := by
    unfold keys at *
    exact hn.sublist (List.filter_sublist.map _)
  rw [adel_filter hn', List.filter_filter]
  congr 1
  funext q
  by_cases e : q.1 = a
  · simp [e, hc]
  · simp [e]
theorem filter_keep {l : List (Pl × Nat)} {dn : List Pl} {c : Pl → Bool} {a : Pl} (hc : c a = false) :
    (l.filter fun q => !(decide (q.1 ∈ dn) && c q.1)) = l.filter fun q => !(decide (q.1 ∈ a :: dn) && c q.1) := by
  congr 1
  funext q
  by_cases e : q.1 = a
  · simp [e, hc]
  · simp [e]
theorem count_less {l : List (Pl × Nat)} {dn : List Pl} {a : Pl} {b : Nat} (h : alook l a = some b) (hd : a ∉ dn) (l2 : List (Pl × Nat)) (hs : l2.Sublist l) :
    (l2.filter fun q => decide (q.1 ∉ a :: dn)).length < (l.filter fun q => decide (q.1 ∉ dn)).length := by
  have h3 : (l2.filter fun q => decide (q.1 ∉ a :: dn)).length ≤ (l.filter fun q => decide (q.1 ∉ a :: dn)).length := (hs.filter _).length_le
  refine Nat.lt_of_le_of_lt h3 ?_
  clear h3 hs
  induction l with
  | nil => simp [alook] at h
  | cons x l ih =>
    obtain ⟨k, v⟩ := x
    simp only [alook] at h
    have mono : ∀ l : List (Pl × Nat), (l.filter fun q => decide (q.1 ∉ a :: dn)).length ≤ (l.filter fun q => decide (q.1 ∉ dn)).length := fun l => by
      induction l with
      | nil => simp
      | cons y l ih => simp only [List.filter_cons, List.mem_cons, not_or]; split <;> split <;> simp_all <;> omega
    by_cases e : k = a
    · subst e
      rw [List.filter_cons_of_neg (by simp), List.filter_cons_of_pos (by simpa using hd)]
      have := mono l
      simp only [List.length_cons]; omega
    · rw [if_neg e] at h
      have := ih h
      simp only [List.filter_cons, List.mem_cons, not_or]
      split <;> split <;> simp_all <;> omega

theorem del_func {M B1 B2 : Nat} {id z : Int} {l : List (Pl × Nat)} (hn : (keys l).Nodup) (hlen : l.length < 100000) : Spec R (.f n_DelFunc) [.map M, .func n_file_Store_Resize_1 [] [.ptr B1 0, .ptr B2 0]] [MpC M pkey pageV l, .pt B1 (ibox id), .pt B2 (ibox z)]
    fun v Rs => v = .tuple [] ∧ Rs = [MpC M pkey pageV (l.filter fun q => !cutQ id z q.1), .pt B1 (ibox id), .pt B2 (ibox z)] := by
  refine spec_w (fun _ _ _ x => progI_call rfl rfl x) (by repeat (first | exact trivial | refine ⟨by first | rfl | assumption, ?_⟩)) rfl (fun h F st => ?_); dsimp only [List.cons_append, List.nil_append] at st
  (repeat (first | (show W _ _ _ _ _ _ (.code (cond _ _ _) :: _) _ _; first | refine W.ct ?_ | refine W.cf ?_) | (show W _ _ _ _ _ _ (.ins (cond _ _ _ :: _) :: _) _ _; first | refine W.gt ?_ | refine W.gf ?_) | (show W _ _ _ _ _ _ [] _ _; refine W.of (.done ?_)) | (apply W.of; constructor <;> first | (show W _ _ _ _ _ _ _ _ _) | (intro (al : Nat) h st; show W _ _ _ _ _ _ _ _ _) | (intro _ h st; show W _ _ _ _ _ _ _ _ _) | (first | (show (_ : Int) ≤ _; omega) | exact rfl | assumption | ((repeat (first | exact Take.here | apply Take.there)); done) | (show Ag _ _ _; (repeat (first | assumption | exact rfl | exact Ag.nil | exact Take.here | apply Take.there | (show Ag _ _ _; constructor))); done) | exact Pk.t | exact Pk.f)))); refine W.ef (ho := (e_range st (by repeat (first | exact Take.here | apply Take.there)))) (w := ?_); rintro vv h ⟨I, rfl, st⟩; refine nj ?_
  (repeat (first | (show W _ _ _ _ _ _ (.code (cond _ _ _) :: _) _ _; first | refine W.ct ?_ | refine W.cf ?_) | (show W _ _ _ _ _ _ (.ins (cond _ _ _ :: _) :: _) _ _; first | refine W.gt ?_ | refine W.gf ?_) | (show W _ _ _ _ _ _ [] _ _; refine W.of (.done ?_)) | (apply W.of; constructor <;> first | (show W _ _ _ _ _ _ _ _ _) | (intro (al : Nat) h st; show W _ _ _ _ _ _ _ _ _) | (intro _ h st; show W _ _ _ _ _ _ _ _ _) | (first | (show (_ : Int) ≤ _; omega) | exact rfl | assumption | ((repeat (first | exact Take.here | apply Take.there)); done) | (show Ag _ _ _; (repeat (first | assumption | exact rfl | exact Ag.nil | exact Take.here | apply Take.there | (show Ag _ _ _; constructor))); done) | exact Pk.t | exact Pk.f))))
  refine W.loop (fun _ : DelS => [(0, .map M), (1, .func n_file_Store_Resize_1 [] [.ptr B1 0, .ptr B2 0]), (7, .ptr I 0)]) (fun y => ItC I M pkey pageV y.l y.dn y.cur :: .pt B1 (ibox id) :: .pt B2 (ibox z) :: F)
    (fun y => y.l = l.filter fun q => !(decide (q.1 ∈ y.dn) && cutQ id z q.1)) (fun y => (y.l.filter fun q => decide (q.1 ∉ y.dn)).length) ⟨l, [], none⟩ ?_ (by repeat (first | exact trivial | refine ⟨by first | rfl | assumption, ?_⟩)) st (List.filter_eq_self.2 (fun _ _ => by simp)).symm ?_
  · refine small_rounds (Nat.lt_of_le_of_lt (List.length_filter_le _ _) ?_)
    simp only; omega
  clear st
  intro ⟨l', dn, cur⟩ h hl st
  dsimp only at hl st ⊢
  (repeat (first | (show W _ _ _ _ _ _ (.code (cond _ _ _) :: _) _ _; first | refine W.ct ?_ | refine W.cf ?_) | (show W _ _ _ _ _ _ (.ins (cond _ _ _ :: _) :: _) _ _; first | refine W.gt ?_ | refine W.gf ?_) | (show W _ _ _ _ _ _ [] _ _; refine W.of (.done ?_)) | (apply W.of; constructor <;> first | (show W _ _ _ _ _ _ _ _ _) | (intro (al : Nat) h st; show W _ _ _ _ _ _ _ _ _) | (intro _ h st; show W _ _ _ _ _ _ _ _ _) | (first | (show (_ : Int) ≤ _; omega) | exact rfl | assumption | ((repeat (first | exact Take.here | apply Take.there)); done) | (show Ag _ _ _; (repeat (first | assumption | exact rfl | exact Ag.nil | exact Take.here | apply Take.there | (show Ag _ _ _; constructor))); done) | exact Pk.t | exact Pk.f))))
  refine W.ef (ho := e_next st (by repeat (first | exact Take.here | apply Take.there))) (w := ?_)
  rintro vv h (⟨a, b, g1, g2, rfl, st⟩ | ⟨g, rfl, st⟩)
  · refine nj ?_
    (repeat (first | (show W _ _ _ _ _ _ (.code (cond _ _ _) :: _) _ _; first | refine W.ct ?_ | refine W.cf ?_) | (show W _ _ _ _ _ _ (.ins (cond _ _ _ :: _) :: _) _ _; first | refine W.gt ?_ | refine W.gf ?_) | (show W _ _ _ _ _ _ [] _ _; refine W.of (.done ?_)) | (apply W.of; constructor <;> first | (show W _ _ _ _ _ _ _ _ _) | (intro (al : Nat) h st; show W _ _ _ _ _ _ _ _ _) | (intro _ h st; show W _ _ _ _ _ _ _ _ _) | (first | (show (_ : Int) ≤ _; omega) | exact rfl | assumption | ((repeat (first | exact Take.here | apply Take.there)); done) | (show Ag _ _ _; (repeat (first | assumption | exact rfl | exact Ag.nil | exact Take.here | apply Take.there | (show Ag _ _ _; constructor))); done) | exact Pk.t | exact Pk.f))))
    (repeat (first | (show W _ _ _ _ _ _ (.code (cond _ _ _) :: _) _ _; first | refine W.ct ?_ | refine W.cf ?_) | (show W _ _ _ _ _ _ (.ins (cond _ _ _ :: _) :: _) _ _; first | refine W.gt ?_ | refine W.gf ?_) | (show W _ _ _ _ _ _ [] _ _; refine W.of (.done ?_)) | (apply W.of; constructor <;> first | (show W _ _ _ _ _ _ _ _ _) | (intro (al : Nat) h st; show W _ _ _ _ _ _ _ _ _) | (intro _ h st; show W _ _ _ _ _ _ _ _ _) | (first | (show (_ : Int) ≤ _; omega) | exact rfl | assumption | ((repeat (first | exact Take.here | apply Take.there)); done) | (show Ag _ _ _; (repeat (first | assumption | exact rfl | exact Ag.nil | exact Take.here | apply Take.there | (show Ag _ _ _; constructor))); done) | exact Pk.t | exact Pk.f)))); refine W.do (ho := (d_entry st (by repeat (first | exact Take.here | apply Take.there)))) (w := ?_)
    (repeat (first | (show W _ _ _ _ _ _ (.code (cond _ _ _) :: _) _ _; first | refine W.ct ?_ | refine W.cf ?_) | (show W _ _ _ _ _ _ (.ins (cond _ _ _ :: _) :: _) _ _; first | refine W.gt ?_ | refine W.gf ?_) | (show W _ _ _ _ _ _ [] _ _; refine W.of (.done ?_)) | (apply W.of; constructor <;> first | (show W _ _ _ _ _ _ _ _ _) | (intro (al : Nat) h st; show W _ _ _ _ _ _ _ _ _) | (intro _ h st; show W _ _ _ _ _ _ _ _ _) | (first | (show (_ : Int) ≤ _; omega) | exact rfl | assumption | ((repeat (first | exact Take.here | apply Take.there)); done) | (show Ag _ _ _; (repeat (first | assumption | exact rfl | exact Ag.nil | exact Take.here | apply Take.there | (show Ag _ _ _; constructor))); done) | exact Pk.t | exact Pk.f)))); refine W.call (hs := (file_cb (p := a))) (w := ?_); rintro vv _ ⟨rfl, rfl⟩ h st; refine nj ?_; dsimp only [List.cons_append, List.nil_append] at st
    cases hc : cutQ id z a with
    | true =>
      (repeat (first | (show W _ _ _ _ _ _ (.code (cond _ _ _) :: _) _ _; first | refine W.ct ?_ | refine W.cf ?_) | (show W _ _ _ _ _ _ (.ins (cond _ _ _ :: _) :: _) _ _; first | refine W.gt ?_ | refine W.gf ?_) | (show W _ _ _ _ _ _ [] _ _; refine W.of (.done ?_)) | (apply W.of; constructor <;> first | (show W _ _ _ _ _ _ _ _ _) | (intro (al : Nat) h st; show W _ _ _ _ _ _ _ _ _) | (intro _ h st; show W _ _ _ _ _ _ _ _ _) | (first | (show (_ : Int) ≤ _; omega) | exact rfl | assumption | ((repeat (first | exact Take.here | apply Take.there)); done) | (show Ag _ _ _; (repeat (first | assumption | exact rfl | exact Ag.nil | exact Take.here | apply Take.there | (show Ag _ _ _; constructor))); done) | exact Pk.t | exact Pk.f))))
      (repeat (first | (show W _ _ _ _ _ _ (.code (cond _ _ _) :: _) _ _; first | refine W.ct ?_ | refine W.cf ?_) | (show W _ _ _ _ _ _ (.ins (cond _ _ _ :: _) :: _) _ _; first | refine W.gt ?_ | refine W.gf ?_) | (show W _ _ _ _ _ _ [] _ _; refine W.of (.done ?_)) | (apply W.of; constructor <;> first | (show W _ _ _ _ _ _ _ _ _) | (intro (al : Nat) h st; show W _ _ _ _ _ _ _ _ _) | (intro _ h st; show W _ _ _ _ _ _ _ _ _) | (first | (show (_ : Int) ≤ _; omega) | exact rfl | assumption | ((repeat (first | exact Take.here | apply Take.there)); done) | (show Ag _ _ _; (repeat (first | assumption | exact rfl | exact Ag.nil | exact Take.here | apply Take.there | (show Ag _ _ _; constructor))); done) | exact Pk.t | exact Pk.f)))); refine W.ef0 (ho := (e_itDelete st (by repeat (first | exact Take.here | apply Take.there)) keyPl a)) (w := ?_); rintro _ h ⟨_, st⟩
      (repeat (first | (show W _ _ _ _ _ _ (.code (cond _ _ _) :: _) _ _; first | refine W.ct ?_ | refine W.cf ?_) | (show W _ _ _ _ _ _ (.ins (cond _ _ _ :: _) :: _) _ _; first | refine W.gt ?_ | refine W.gf ?_) | (show W _ _ _ _ _ _ [] _ _; refine W.of (.done ?_)) | (apply W.of; constructor <;> first | (show W _ _ _ _ _ _ _ _ _) | (intro (al : Nat) h st; show W _ _ _ _ _ _ _ _ _) | (intro _ h st; show W _ _ _ _ _ _ _ _ _) | (first | (show (_ : Int) ≤ _; omega) | exact rfl | assumption | ((repeat (first | exact Take.here | apply Take.there)); done) | (show Ag _ _ _; (repeat (first | assumption | exact rfl | exact Ag.nil | exact Take.here | apply Take.there | (show Ag _ _ _; constructor))); done) | exact Pk.t | exact Pk.f))))
      refine W.of (.lp ?_)
      have hsub : (adel l' a).Sublist l' := by
        have hn' : (keys l').Nodup := by rw [hl]; unfold keys at *; exact hn.sublist (List.filter_sublist.map _)
        rw [adel_filter hn']; exact List.filter_sublist
      exact ⟨⟨adel l' a, a :: dn, none⟩, count_less g1 g2 _ hsub, by show adel l' a = _; rw [hl]; exact filter_step hn hc, (by repeat (first | exact trivial | refine ⟨by first | rfl | assumption, ?_⟩)), st.sel (by repeat (first | exact Sel.nil | exact Take.here | apply Sel.cons | apply Take.there | apply Sel.skip))⟩
    | false =>
      (repeat (first | (show W _ _ _ _ _ _ (.code (cond _ _ _) :: _) _ _; first | refine W.ct ?_ | refine W.cf ?_) | (show W _ _ _ _ _ _ (.ins (cond _ _ _ :: _) :: _) _ _; first | refine W.gt ?_ | refine W.gf ?_) | (show W _ _ _ _ _ _ [] _ _; refine W.of (.done ?_)) | (apply W.of; constructor <;> first | (show W _ _ _ _ _ _ _ _ _) | (intro (al : Nat) h st; show W _ _ _ _ _ _ _ _ _) | (intro _ h st; show W _ _ _ _ _ _ _ _ _) | (first | (show (_ : Int) ≤ _; omega) | exact rfl | assumption | ((repeat (first | exact Take.here | apply Take.there)); done) | (show Ag _ _ _; (repeat (first | assumption | exact rfl | exact Ag.nil | exact Take.here | apply Take.there | (show Ag _ _ _; constructor))); done) | exact Pk.t | exact Pk.f))))
      refine W.of (.lp ?_)
      exact ⟨⟨l', a :: dn, some (a, b)⟩, count_less g1 g2 _ (List.Sublist.refl _), by show l' = _; rw [hl]; exact filter_keep hc, (by repeat (first | exact trivial | refine ⟨by first | rfl | assumption, ?_⟩)), st.sel (by repeat (first | exact Sel.nil | exact Take.here | apply Sel.cons | apply Take.there | apply Sel.skip))⟩
  · refine nj ?_
    (repeat (first | (show W _ _ _ _ _ _ (.code (cond _ _ _) :: _) _ _; first | refine W.ct ?_ | refine W.cf ?_) | (show W _ _ _ _ _ _ (.ins (cond _ _ _ :: _) :: _) _ _; first | refine W.gt ?_ | refine W.gf ?_) | (show W _ _ _ _ _ _ [] _ _; refine W.of (.done ?_)) | (apply W.of; constructor <;> first | (show W _ _ _ _ _ _ _ _ _) | (intro (al : Nat) h st; show W _ _ _ _ _ _ _ _ _) | (intro _ h st; show W _ _ _ _ _ _ _ _ _) | (first | (show (_ : Int) ≤ _; omega) | exact rfl | assumption | ((repeat (first | exact Take.here | apply Take.there)); done) | (show Ag _ _ _; (repeat (first | assumption | exact rfl | exact Ag.nil | exact Take.here | apply Take.there | (show Ag _ _ _; constructor))); done) | exact Pk.t | exact Pk.f))))
    have st := st.itEnd (by repeat (first | exact Take.here | apply Take.there))
    have e : l' = l.filter fun q => !cutQ id z q.1 := by
      rw [hl]
      refine List.filter_congr fun q hq => ?_
      cases hc : cutQ id z q.1 with
      | false => simp
      | true =>
        have : q.1 ∈ dn := by
          by_cases hd : q.1 ∈ dn
          · exact hd
          · exact g q.1 (List.mem_map.2 ⟨q, by rw [hl]; exact List.mem_filter.2 ⟨hq, by simp [hd]⟩, rfl⟩)
        simp [this]
    rw [e] at st
    exact ⟨_, rfl, _, ⟨rfl, rfl⟩, st⟩

theorem St.mpNodup {α β : Type} {h : AHeap} {L R : List Chunk} {ke : α → AV} {ve : β → AV} {M : Nat} {l : List (α × β)} (st : St h L) (t : Take L (MpC M ke ve l) R) : (keys l).Nodup := by
  obtain ⟨cs, ⟨es, clock, rfl, h1, h2, h3⟩, _⟩ := (st.take t).unpack
  exact h2

/-- what Resize does -/
def FiS.resize (s : FiS) (id z : Int) : AtV :=
  if (s.size id).isNone = true then ⟨s, 7⟩ else if z < 0 ∨ z > 4096 then ⟨s, 2⟩ else ⟨{ s with sizes := s.sizes.set (id - 1).toNat z, pg := s.pg.filter fun q => !cutQ id z q.1 }, 0⟩

theorem file_Resize {id z : Int} (hlen : s.pg.length < 100000) : Spec R (.f n_file_Store_Resize) [.ptr D 0, .int .i64 id, .int .i64 z] [FiC D s] fun r Rs => r = .int .i64 (s.resize id z).e ∧ Rs = [FiC D (s.resize id z).s] := by
  refine spec_w (fun _ _ _ x => progI_call rfl rfl x) (by repeat (first | exact trivial | refine ⟨by first | rfl | assumption, ?_⟩)) rfl (fun h F st => ?_); dsimp only [List.cons_append, List.nil_append] at st
  unfold FiS.resize
  cases hs : s.size id with
  | none =>
    (repeat (first | (show W _ _ _ _ _ _ (.code (cond _ _ _) :: _) _ _; first | refine W.ct ?_ | refine W.cf ?_) | (show W _ _ _ _ _ _ (.ins (cond _ _ _ :: _) :: _) _ _; first | refine W.gt ?_ | refine W.gf ?_) | (show W _ _ _ _ _ _ [] _ _; refine W.of (.done ?_)) | (apply W.of; constructor <;> first | (show W _ _ _ _ _ _ _ _ _) | (intro (al : Nat) h st; show W _ _ _ _ _ _ _ _ _) | (intro _ h st; show W _ _ _ _ _ _ _ _ _) | (first | (show (_ : Int) ≤ _; omega) | exact rfl | assumption | ((repeat (first | exact Take.here | apply Take.there)); done) | (show Ag _ _ _; (repeat (first | assumption | exact rfl | exact Ag.nil | exact Take.here | apply Take.there | (show Ag _ _ _; constructor))); done) | exact Pk.t | exact Pk.f)))); refine W.call (hs := (file_known_n hs)) (w := ?_); rintro vv _ ⟨rfl, rfl⟩ h st; refine nj ?_; dsimp only [List.cons_append, List.nil_append] at st
    (repeat (first | (show W _ _ _ _ _ _ (.code (cond _ _ _) :: _) _ _; first | refine W.ct ?_ | refine W.cf ?_) | (show W _ _ _ _ _ _ (.ins (cond _ _ _ :: _) :: _) _ _; first | refine W.gt ?_ | refine W.gf ?_) | (show W _ _ _ _ _ _ [] _ _; refine W.of (.done ?_)) | (apply W.of; constructor <;> first | (show W _ _ _ _ _ _ _ _ _) | (intro (al : Nat) h st; show W _ _ _ _ _ _ _ _ _) | (intro _ h st; show W _ _ _ _ _ _ _ _ _) | (first | (show (_ : Int) ≤ _; omega) | exact rfl | assumption | ((repeat (first | exact Take.here | apply Take.there)); done) | (show Ag _ _ _; (repeat (first | assumption | exact rfl | exact Ag.nil | exact Take.here | apply Take.there | (show Ag _ _ _; constructor))); done) | exact Pk.t | exact Pk.f))))
    exact ⟨_, rfl, _, ⟨rfl, rfl⟩, st.sel (by repeat (first | exact Sel.nil | exact Take.here | apply Sel.cons | apply Take.there | apply Sel.skip))⟩
  | some y =>
    rw [if_neg (by simp)]
    (repeat (first | (show W _ _ _ _ _ _ (.code (cond _ _ _) :: _) _ _; first | refine W.ct ?_ | refine W.cf ?_) | (show W _ _ _ _ _ _ (.ins (cond _ _ _ :: _) :: _) _ _; first | refine W.gt ?_ | refine W.gf ?_) | (show W _ _ _ _ _ _ [] _ _; refine W.of (.done ?_)) | (apply W.of; constructor <;> first | (show W _ _ _ _ _ _ _ _ _) | (intro (al : Nat) h st; show W _ _ _ _ _ _ _ _ _) | (intro _ h st; show W _ _ _ _ _ _ _ _ _) | (first | (show (_ : Int) ≤ _; omega) | exact rfl | assumption | ((repeat (first | exact Take.here | apply Take.there)); done) | (show Ag _ _ _; (repeat (first | assumption | exact rfl | exact Ag.nil | exact Take.here | apply Take.there | (show Ag _ _ _; constructor))); done) | exact Pk.t | exact Pk.f)))); refine W.call (hs := (file_known_s hs)) (w := ?_); rintro vv _ ⟨rfl, rfl⟩ h st; refine nj ?_; dsimp only [List.cons_append, List.nil_append] at st
    by_cases h1 : z < 0
    · rw [if_pos (.inl h1)]
      (repeat (first | (show W _ _ _ _ _ _ (.code (cond _ _ _) :: _) _ _; first | refine W.ct ?_ | refine W.cf ?_) | (show W _ _ _ _ _ _ (.ins (cond _ _ _ :: _) :: _) _ _; first | refine W.gt ?_ | refine W.gf ?_) | (show W _ _ _ _ _ _ [] _ _; refine W.of (.done ?_)) | (apply W.of; constructor <;> first | (show W _ _ _ _ _ _ _ _ _) | (intro (al : Nat) h st; show W _ _ _ _ _ _ _ _ _) | (intro _ h st; show W _ _ _ _ _ _ _ _ _) | (first | (show (_ : Int) ≤ _; omega) | exact rfl | assumption | ((repeat (first | exact Take.here | apply Take.there)); done) | (show Ag _ _ _; (repeat (first | assumption | exact rfl | exact Ag.nil | exact Take.here | apply Take.there | (show Ag _ _ _; constructor))); done) | exact Pk.t | exact Pk.f))))
      exact ⟨_, rfl, _, ⟨rfl, rfl⟩, st.sel (by repeat (first | exact Sel.nil | exact Take.here | apply Sel.cons | apply Take.there | apply Sel.skip))⟩
    · by_cases h2 : z > 4096
      · rw [if_pos (.inr h2)]
        (repeat (first | (show W _ _ _ _ _ _ (.code (cond _ _ _) :: _) _ _; first | refine W.ct ?_ | refine W.cf ?_) | (show W _ _ _ _ _ _ (.ins (cond _ _ _ :: _) :: _) _ _; first | refine W.gt ?_ | refine W.gf ?_) | (show W _ _ _ _ _ _ [] _ _; refine W.of (.done ?_)) | (apply W.of; constructor <;> first | (show W _ _ _ _ _ _ _ _ _) | (intro (al : Nat) h st; show W _ _ _ _ _ _ _ _ _) | (intro _ h st; show W _ _ _ _ _ _ _ _ _) | (first | (show (_ : Int) ≤ _; omega) | exact rfl | assumption | ((repeat (first | exact Take.here | apply Take.there)); done) | (show Ag _ _ _; (repeat (first | assumption | exact rfl | exact Ag.nil | exact Take.here | apply Take.there | (show Ag _ _ _; constructor))); done) | exact Pk.t | exact Pk.f))))
        exact ⟨_, rfl, _, ⟨rfl, rfl⟩, st.sel (by repeat (first | exact Sel.nil | exact Take.here | apply Sel.cons | apply Take.there | apply Sel.skip))⟩
      · rw [if_neg (by omega)]
        obtain ⟨_, ⟨lv, M, rfl, hok⟩, st⟩ := St.unpack st; dsimp only [List.cons_append, List.nil_append] at st
        obtain ⟨hl, hj, _⟩ := FiS.slice st (by repeat (first | exact Take.here | apply Take.there))
        obtain ⟨g1, g2, g3⟩ := size_some hs
        have hb := hok.2
        have hi : (id - 1).toNat < s.sizes.length := by omega
        (repeat (first | (show W _ _ _ _ _ _ (.code (cond _ _ _) :: _) _ _; first | refine W.ct ?_ | refine W.cf ?_) | (show W _ _ _ _ _ _ (.ins (cond _ _ _ :: _) :: _) _ _; first | refine W.gt ?_ | refine W.gf ?_) | (show W _ _ _ _ _ _ [] _ _; refine W.of (.done ?_)) | (apply W.of; constructor <;> first | (show W _ _ _ _ _ _ _ _ _) | (intro (al : Nat) h st; show W _ _ _ _ _ _ _ _ _) | (intro _ h st; show W _ _ _ _ _ _ _ _ _) | (first | (show (_ : Int) ≤ _; omega) | exact rfl | assumption | ((repeat (first | exact Take.here | apply Take.there)); done) | (show Ag _ _ _; (repeat (first | assumption | exact rfl | exact Ag.nil | exact Take.here | apply Take.there | (show Ag _ _ _; constructor))); done) | exact Pk.t | exact Pk.f))))
        obtain ⟨gp, gq⟩ := d_vsIdx (l := s.sizes.map ikey) (i := (id - 1).toNat) (kk := .i64) st (by repeat (first | exact Take.here | apply Take.there)) (by rw [List.length_map]; exact hi)
        rw [show (((id - 1).toNat : Nat) : Int) = id - 1 by omega] at gp
        (repeat (first | (show W _ _ _ _ _ _ (.code (cond _ _ _) :: _) _ _; first | refine W.ct ?_ | refine W.cf ?_) | (show W _ _ _ _ _ _ (.ins (cond _ _ _ :: _) :: _) _ _; first | refine W.gt ?_ | refine W.gf ?_) | (show W _ _ _ _ _ _ [] _ _; refine W.of (.done ?_)) | (apply W.of; constructor <;> first | (show W _ _ _ _ _ _ _ _ _) | (intro (al : Nat) h st; show W _ _ _ _ _ _ _ _ _) | (intro _ h st; show W _ _ _ _ _ _ _ _ _) | (first | (show (_ : Int) ≤ _; omega) | exact rfl | assumption | ((repeat (first | exact Take.here | apply Take.there)); done) | (show Ag _ _ _; (repeat (first | assumption | exact rfl | exact Ag.nil | exact Take.here | apply Take.there | (show Ag _ _ _; constructor))); done) | exact Pk.t | exact Pk.f)))); refine W.do (ho := gp) (w := ?_)
        (repeat (first | (show W _ _ _ _ _ _ (.code (cond _ _ _) :: _) _ _; first | refine W.ct ?_ | refine W.cf ?_) | (show W _ _ _ _ _ _ (.ins (cond _ _ _ :: _) :: _) _ _; first | refine W.gt ?_ | refine W.gf ?_) | (show W _ _ _ _ _ _ [] _ _; refine W.of (.done ?_)) | (apply W.of; constructor <;> first | (show W _ _ _ _ _ _ _ _ _) | (intro (al : Nat) h st; show W _ _ _ _ _ _ _ _ _) | (intro _ h st; show W _ _ _ _ _ _ _ _ _) | (first | (show (_ : Int) ≤ _; omega) | exact rfl | assumption | ((repeat (first | exact Take.here | apply Take.there)); done) | (show Ag _ _ _; (repeat (first | assumption | exact rfl | exact Ag.nil | exact Take.here | apply Take.there | (show Ag _ _ _; constructor))); done) | exact Pk.t | exact Pk.f)))); refine W.ef0 (ho := (e_vsStore (l := s.sizes.map ikey) (i := (id - 1).toNat) st (by repeat (first | exact Take.here | apply Take.there)) (by rw [List.length_map]; exact hi) rfl)) (w := ?_); rintro _ h ⟨_, st⟩
        (repeat (first | (show W _ _ _ _ _ _ (.code (cond _ _ _) :: _) _ _; first | refine W.ct ?_ | refine W.cf ?_) | (show W _ _ _ _ _ _ (.ins (cond _ _ _ :: _) :: _) _ _; first | refine W.gt ?_ | refine W.gf ?_) | (show W _ _ _ _ _ _ [] _ _; refine W.of (.done ?_)) | (apply W.of; constructor <;> first | (show W _ _ _ _ _ _ _ _ _) | (intro (al : Nat) h st; show W _ _ _ _ _ _ _ _ _) | (intro _ h st; show W _ _ _ _ _ _ _ _ _) | (first | (show (_ : Int) ≤ _; omega) | exact rfl | assumption | ((repeat (first | exact Take.here | apply Take.there)); done) | (show Ag _ _ _; (repeat (first | assumption | exact rfl | exact Ag.nil | exact Take.here | apply Take.there | (show Ag _ _ _; constructor))); done) | exact Pk.t | exact Pk.f)))); refine W.call (hs := (del_func (id := id) (z := z) (St.mpNodup (ke := pkey) (ve := pageV) (l := s.pg) (M := M) st (by repeat (first | exact Take.here | apply Take.there))) hlen)) (w := ?_); rintro vv _ ⟨rfl, rfl⟩ h st; refine nj ?_; dsimp only [List.cons_append, List.nil_append] at st
        (repeat (first | (show W _ _ _ _ _ _ (.code (cond _ _ _) :: _) _ _; first | refine W.ct ?_ | refine W.cf ?_) | (show W _ _ _ _ _ _ (.ins (cond _ _ _ :: _) :: _) _ _; first | refine W.gt ?_ | refine W.gf ?_) | (show W _ _ _ _ _ _ [] _ _; refine W.of (.done ?_)) | (apply W.of; constructor <;> first | (show W _ _ _ _ _ _ _ _ _) | (intro (al : Nat) h st; show W _ _ _ _ _ _ _ _ _) | (intro _ h st; show W _ _ _ _ _ _ _ _ _) | (first | (show (_ : Int) ≤ _; omega) | exact rfl | assumption | ((repeat (first | exact Take.here | apply Take.there)); done) | (show Ag _ _ _; (repeat (first | assumption | exact rfl | exact Ag.nil | exact Take.here | apply Take.there | (show Ag _ _ _; constructor))); done) | exact Pk.t | exact Pk.f))))
        rw [show (s.sizes.map ikey).set (id - 1).toNat (.int .i64 z) = (s.sizes.set (id - 1).toNat z).map ikey by rw [List.map_set]] at st
        have st := St.packP (t := 22) (k := .ptr D 0) (P := FiIs D { s with sizes := s.sizes.set (id - 1).toNat z, pg := s.pg.filter fun q => !cutQ id z q.1 }) st ⟨lv, M, rfl, fun q hq => hok.1 q (List.mem_filter.1 hq).1, by simpa using hb⟩ (by repeat (first | exact Take.here | exact Pick.nil | apply Pick.cons | apply Take.there))
        exact ⟨_, rfl, _, ⟨rfl, rfl⟩, st.sel (by repeat (first | exact Sel.nil | exact Take.here | apply Sel.cons | apply Take.there | apply Sel.skip))⟩

abbrev idV (i : Nat) : AV := .int .i64 ((i : Int) + 1)

/-- all files -/
theorem file_Ids : Spec R (.f n_file_Store_Ids) [.ptr D 0] [FiC D s] fun v Rs => v.notJunk = some v ∧ sliceLen v = some s.sizes.length ∧ Rs = [VsC v 3 ((List.range s.sizes.length).map idV) true, FiC D s] := by
  refine spec_w (fun _ _ _ x => progI_call rfl rfl x) (by repeat (first | exact trivial | refine ⟨by first | rfl | assumption, ?_⟩)) rfl (fun h F st => ?_); dsimp only [List.cons_append, List.nil_append] at st
  (repeat (first | (show W _ _ _ _ _ _ (.code (cond _ _ _) :: _) _ _; first | refine W.ct ?_ | refine W.cf ?_) | (show W _ _ _ _ _ _ (.ins (cond _ _ _ :: _) :: _) _ _; first | refine W.gt ?_ | refine W.gf ?_) | (show W _ _ _ _ _ _ [] _ _; refine W.of (.done ?_)) | (apply W.of; constructor <;> first | (show W _ _ _ _ _ _ _ _ _) | (intro (al : Nat) h st; show W _ _ _ _ _ _ _ _ _) | (intro _ h st; show W _ _ _ _ _ _ _ _ _) | (first | (show (_ : Int) ≤ _; omega) | exact rfl | assumption | ((repeat (first | exact Take.here | apply Take.there)); done) | (show Ag _ _ _; (repeat (first | assumption | exact rfl | exact Ag.nil | exact Take.here | apply Take.there | (show Ag _ _ _; constructor))); done) | exact Pk.t | exact Pk.f)))); refine W.call (hs := file_made) (w := ?_); rintro vv _ ⟨rfl, rfl⟩ h st; refine nj ?_; dsimp only [List.cons_append, List.nil_append] at st
  obtain ⟨_, ⟨lv, M, rfl, hok⟩, st⟩ := St.unpack st; dsimp only [List.cons_append, List.nil_append] at st
  obtain ⟨hl, hj, _⟩ := FiS.slice st (by repeat (first | exact Take.here | apply Take.there))
  have hb := hok.2
  (repeat (first | (show W _ _ _ _ _ _ (.code (cond _ _ _) :: _) _ _; first | refine W.ct ?_ | refine W.cf ?_) | (show W _ _ _ _ _ _ (.ins (cond _ _ _ :: _) :: _) _ _; first | refine W.gt ?_ | refine W.gf ?_) | (show W _ _ _ _ _ _ [] _ _; refine W.of (.done ?_)) | (apply W.of; constructor <;> first | (show W _ _ _ _ _ _ _ _ _) | (intro (al : Nat) h st; show W _ _ _ _ _ _ _ _ _) | (intro _ h st; show W _ _ _ _ _ _ _ _ _) | (first | (show (_ : Int) ≤ _; omega) | exact rfl | assumption | ((repeat (first | exact Take.here | apply Take.there)); done) | (show Ag _ _ _; (repeat (first | assumption | exact rfl | exact Ag.nil | exact Take.here | apply Take.there | (show Ag _ _ _; constructor))); done) | exact Pk.t | exact Pk.f))))
  have st := St.packP (t := 22) (k := .ptr D 0) (P := FiIs D s) st ⟨lv, M, rfl, hok⟩ (by repeat (first | exact Take.here | exact Pick.nil | apply Pick.cons | apply Take.there))
  have st := st.vsNil 3 true
  refine W.loop (fun y : AV × Nat => [(3, y.1), (12, .int .i64 s.sizes.length), (13, .int .i64 y.2)]) (fun y => VsC y.1 3 ((List.range y.2).map idV) true :: FiC D s :: F) (fun y => y.2 ≤ s.sizes.length) (fun y => s.sizes.length - y.2) (.nilsl, 0)
    (small_rounds (by simp only; omega)) (by repeat (first | exact trivial | refine ⟨by first | rfl | assumption, ?_⟩)) (st.sel (by repeat (first | exact Sel.nil | exact Take.here | apply Sel.cons | apply Take.there | apply Sel.skip))) (Nat.zero_le _) ?_
  clear st
  intro ⟨v, i⟩ h hi st
  dsimp only at hi st ⊢
  obtain ⟨vl, vj, _⟩ := St.vs (v := v) st (by repeat (first | exact Take.here | apply Take.there))
  by_cases hlt : i < s.sizes.length
  · (repeat (first | (show W _ _ _ _ _ _ (.code (cond _ _ _) :: _) _ _; first | refine W.ct ?_ | refine W.cf ?_) | (show W _ _ _ _ _ _ (.ins (cond _ _ _ :: _) :: _) _ _; first | refine W.gt ?_ | refine W.gf ?_) | (show W _ _ _ _ _ _ [] _ _; refine W.of (.done ?_)) | (apply W.of; constructor <;> first | (show W _ _ _ _ _ _ _ _ _) | (intro (al : Nat) h st; show W _ _ _ _ _ _ _ _ _) | (intro _ h st; show W _ _ _ _ _ _ _ _ _) | (first | (show (_ : Int) ≤ _; omega) | exact rfl | assumption | ((repeat (first | exact Take.here | apply Take.there)); done) | (show Ag _ _ _; (repeat (first | assumption | exact rfl | exact Ag.nil | exact Take.here | apply Take.there | (show Ag _ _ _; constructor))); done) | exact Pk.t | exact Pk.f))))
    have st := St.vsRow (l := [idV i]) (e := 3) st (by repeat (first | exact Take.here | apply Take.there)) rfl
    (repeat (first | (show W _ _ _ _ _ _ (.code (cond _ _ _) :: _) _ _; first | refine W.ct ?_ | refine W.cf ?_) | (show W _ _ _ _ _ _ (.ins (cond _ _ _ :: _) :: _) _ _; first | refine W.gt ?_ | refine W.gf ?_) | (show W _ _ _ _ _ _ [] _ _; refine W.of (.done ?_)) | (apply W.of; constructor <;> first | (show W _ _ _ _ _ _ _ _ _) | (intro (al : Nat) h st; show W _ _ _ _ _ _ _ _ _) | (intro _ h st; show W _ _ _ _ _ _ _ _ _) | (first | (show (_ : Int) ≤ _; omega) | exact rfl | assumption | ((repeat (first | exact Take.here | apply Take.there)); done) | (show Ag _ _ _; (repeat (first | assumption | exact rfl | exact Ag.nil | exact Take.here | apply Take.there | (show Ag _ _ _; constructor))); done) | exact Pk.t | exact Pk.f)))); refine W.ef (ho := (e_vsAppend (l' := [idV i]) st (by repeat (first | exact Take.here | apply Take.there)) (by repeat (first | exact Take.here | apply Take.there)) (by simp; omega) (by simp; omega))) (w := ?_); rintro vv h ⟨bj, bl, st⟩; refine nj ?_
    (repeat (first | (show W _ _ _ _ _ _ (.code (cond _ _ _) :: _) _ _; first | refine W.ct ?_ | refine W.cf ?_) | (show W _ _ _ _ _ _ (.ins (cond _ _ _ :: _) :: _) _ _; first | refine W.gt ?_ | refine W.gf ?_) | (show W _ _ _ _ _ _ [] _ _; refine W.of (.done ?_)) | (apply W.of; constructor <;> first | (show W _ _ _ _ _ _ _ _ _) | (intro (al : Nat) h st; show W _ _ _ _ _ _ _ _ _) | (intro _ h st; show W _ _ _ _ _ _ _ _ _) | (first | (show (_ : Int) ≤ _; omega) | exact rfl | assumption | ((repeat (first | exact Take.here | apply Take.there)); done) | (show Ag _ _ _; (repeat (first | assumption | exact rfl | exact Ag.nil | exact Take.here | apply Take.there | (show Ag _ _ _; constructor))); done) | exact Pk.t | exact Pk.f))))
    rw [show ((List.range i).map idV) ++ [idV i] = (List.range (i + 1)).map idV by rw [List.range_succ, List.map_append]; rfl] at st
    refine W.of (.lp ?_)
    exact ⟨(vv, i + 1), by simp only; omega, hlt, (by repeat (first | exact trivial | refine ⟨by first | rfl | assumption, ?_⟩)), st.sel (by repeat (first | exact Sel.nil | exact Take.here | apply Sel.cons | apply Take.there | apply Sel.skip))⟩
  · have e : i = s.sizes.length := by omega
    subst e
    (repeat (first | (show W _ _ _ _ _ _ (.code (cond _ _ _) :: _) _ _; first | refine W.ct ?_ | refine W.cf ?_) | (show W _ _ _ _ _ _ (.ins (cond _ _ _ :: _) :: _) _ _; first | refine W.gt ?_ | refine W.gf ?_) | (show W _ _ _ _ _ _ [] _ _; refine W.of (.done ?_)) | (apply W.of; constructor <;> first | (show W _ _ _ _ _ _ _ _ _) | (intro (al : Nat) h st; show W _ _ _ _ _ _ _ _ _) | (intro _ h st; show W _ _ _ _ _ _ _ _ _) | (first | (show (_ : Int) ≤ _; omega) | exact rfl | assumption | ((repeat (first | exact Take.here | apply Take.there)); done) | (show Ag _ _ _; (repeat (first | assumption | exact rfl | exact Ag.nil | exact Take.here | apply Take.there | (show Ag _ _ _; constructor))); done) | exact Pk.t | exact Pk.f))))
    rw [List.length_map, List.length_range] at vl
    exact ⟨_, rfl, _, ⟨vj, vl, rfl⟩, st⟩

end Go.Proofs.Ytjdemlagmamlbaa
