/- The walk: a machine whose steps 'constructor' finds. -/
import Derived.Test.YtjdemlagmamlbaaK1
namespace Go.Proofs.Ytjdemlagmamlbaa

theorem d_indexa {h : AHeap} {n es id off : Nat} {kk : IntKind} {i : Int} (h0 : 0 ≤ i) (h1 : i < n) : Does (.indexa n es) [.ptr id off, .int kk i] h (.ptr id (off + i.toNat * es)) h := ⟨rfl, by
  simp only [aop]; rw [if_pos ⟨h0, h1⟩]⟩

/-- what is still to be walked -/
inductive KI where
  | code (c : ACode)
  | ins (is : List AIn)
  | dis (ds : List DI)
  | ag (rs : List (Nat × AIn))
  | blk (id : Nat)
  /-- a loop's round ends here: what is to be shown -/
  | lp (J : Env → AHeap → Prop)

mutual
def okSame : AV → Bool
  | .bool _ => true
  | .int _ _ => true
  | .ptr _ _ => true
  | .nilptr => true
  | .sl _ _ _ _ => true
  | .ssl _ _ _ _ => true
  | .nilsl => true
  | .esl => true
  | .map _ => true
  | .nilmap => true
  | .func _ a b => okSameL a && okSameL b
  | .nilfunc => true
  | .yield _ => true
  | .agg a => okSameL a
  | .bytes _ _ => true
  | .tuple a => okSameL a
  | _ => false
def okSameL : List AV → Bool
  | [] => true
  | a :: l => okSame a && okSameL l
end

mutual
theorem same_self : ∀ (v : AV), okSame v = true → AV.same v v = true := by
  intro v h
  cases v with
  | func f a b =>
    simp only [okSame, Bool.and_eq_true] at h
    simp only [AV.same, beq_self_eq_true, Bool.and_eq_true]
    exact ⟨⟨trivial, same_selfL _ h.1⟩, same_selfL _ h.2⟩
  | agg a =>
    simp only [okSame] at h
    simp only [AV.same]
    exact same_selfL _ h
  | tuple a =>
    simp only [okSame] at h
    simp only [AV.same]
    exact same_selfL _ h
  | _ => simp [okSame, AV.same] at h ⊢
theorem same_selfL : ∀ (v : List AV), okSameL v = true → AV.sameL v v = true := by
  intro v h
  cases v with
  | nil => simp [AV.sameL]
  | cons a l =>
    simp only [okSameL, Bool.and_eq_true] at h
    simp only [AV.sameL, Bool.and_eq_true]
    exact ⟨same_self a h.1, same_selfL l h.2⟩
end

/-- what is looked at again tells the same -/
inductive Ag (s : Env) (h : AHeap) : List (Nat × AIn) → Prop where
  | nil : Ag s h []
  | ld {j t : Nat} {os : List Opd} {rs : List (Nat × AIn)} {id off e es : Nat} {soft ro' : Bool} {D : Dat} {v : AV} {L R : List Chunk} : evalLS s os = some [.ptr id off] → look s t = some v → St h L → Take L (.pt id (.row e es soft ro' D)) R → D.get off = some v → okSame v = true → Ag s h rs →
      Ag s h ((j, ⟨some t, .load1, os, none⟩) :: rs)
  | ldn {j t n : Nat} {os : List Opd} {rs : List (Nat × AIn)} {id off e es : Nat} {soft ro' : Bool} {D : Dat} {v : AV} {L R : List Chunk} : evalLS s os = some [.ptr id off] → look s t = some v → St h L → Take L (.pt id (.row e es soft ro' D)) R → D.sub off n = some v → okSame v = true → Ag s h rs →
      Ag s h ((j, ⟨some t, .loadn n, os, none⟩) :: rs)
  | gd {j : Nat} {d : Option Nat} {op : AOp} {os : List Opd} {g : Nat × Bool} {b : Bool} {rs : List (Nat × AIn)} : wantS s (some g) = some b → Ag s h (bif b then (j, ⟨d, op, os, none⟩) :: rs else rs) → Ag s h ((j, ⟨d, op, os, some g⟩) :: rs)
  | dz {j t : Nat} {op : AOp} {os : List Opd} {rs : List (Nat × AIn)} {vs : List AV} {v : AV} : evalLS s os = some vs → look s t = some v → Does op vs h v h → okSame v = true → Ag s h rs → Ag s h ((j, ⟨some t, op, os, none⟩) :: rs)

theorem Ag.ok {s : Env} {h : AHeap} {rs : List (Nat × AIn)} (a : Ag s h rs) : Again s h rs := by
  induction a with
  | nil => trivial
  | ld h1 h2 h3 h4 h5 h6 _ ih => exact ⟨.inr ⟨rfl, _, _, h, h1, (d_load1 (h3.get' h4) h5).run, fun t' e => (by cases e; exact h2), same_self _ h6⟩, ih⟩
  | ldn h1 h2 h3 h4 h5 h6 _ ih => exact ⟨.inr ⟨rfl, _, _, h, h1, (d_loadn (h3.get' h4) h5).run, fun t' e => (by cases e; exact h2), same_self _ h6⟩, ih⟩
  | dz h1 h2 h3 h4 _ ih => exact ⟨.inr ⟨rfl, _, _, h, h1, h3.run, fun t' e => (by cases e; exact h2), same_self _ h4⟩, ih⟩
  | @gd _ _ _ _ _ b _ h1 _ ih =>
    cases b with
    | false => exact ⟨.inl h1, ih⟩
    | true =>
      obtain ⟨h2, h3⟩ := ih
      refine ⟨?_, h3⟩
      rcases h2 with h2 | ⟨_, h2⟩
      · cases h2
      · exact .inr ⟨h1, h2⟩

/-- a choice -/
structure Pk (c : Bool) (a b v : AV) : Prop where
  is : (bif c then a else b) = v
theorem Pk.t {c : Bool} {a b : AV} (h : c = true := by first | rfl | assumption | exact d_t (by omega) | exact q_t (by omega) | exact nq_t (by omega) | exact nd_t (by omega)) : Pk c a b a := ⟨by subst h; rfl⟩
theorem Pk.f {c : Bool} {a b : AV} (h : c = false := by first | rfl | assumption | exact d_f (by omega) | exact q_f (by omega) | exact nq_f (by omega) | exact nd_f (by omega)) : Pk c a b b := ⟨by subst h; rfl⟩

section
variable (C : SemW) (ro : Option Nat) (N : Nat)

/-- what holds behind what is still to be walked -/
def postK : List KI → (AExit → List AV → AHeap → Prop) → AExit → List AV → AHeap → Prop
  | [], Q => Q
  | .code c :: k, Q => fun x e h => match x with
    | .normal => execW C ro c e h (postK k Q)
    | .exit i => postK k Q (.exit i) e h
    | .ret => postK k Q .ret e h
  | .ins is :: k, Q => fun x e h => match x with
    | .normal => runInsW C is e h (postK k Q .normal)
    | .exit i => postK k Q (.exit i) e h
    | .ret => postK k Q .ret e h
  | .dis ds :: k, Q => fun x e h => match x with
    | .normal => runDrawW C ds e h (postK k Q .normal)
    | .exit i => postK k Q (.exit i) e h
    | .ret => postK k Q .ret e h
  | .ag rs :: k, Q => fun x e h => match x with
    | .normal => rs.all (fun r => again r.2 e h) = true ∧ postK k Q .normal e h
    | .exit i => postK k Q (.exit i) e h
    | .ret => postK k Q .ret e h
  | .blk id :: k, Q => fun x e h => match x with
    | .normal => postK k Q .normal e h
    | .exit i => if i = id then postK k Q .normal e h else postK k Q (.exit i) e h
    | .ret => postK k Q .ret e h
  | .lp J :: k, Q => fun x e h => match x with
    | .normal => ∃ s, e.length = N ∧ Cov s e ∧ J s h
    | .exit i => postK k Q (.exit i) e h
    | .ret => postK k Q .ret e h

end

/-- THE (repeat (first | (show W _ _ _ _ _ _ (.code (cond _ _ _) :: _) _ _; first | refine W.ct ?_ | refine W.cf ?_) | (show W _ _ _ _ _ _ (.ins (cond _ _ _ :: _) :: _) _ _; first | refine W.gt ?_ | refine W.gf ?_) | (show W _ _ _ _ _ _ [] _ _; refine W.of (.done ?_)) | (apply W.of; constructor <;> first | (show W _ _ _ _ _ _ _ _ _) | (intro (al : Nat) h st; show W _ _ _ _ _ _ _ _ _) | (intro _ h st; show W _ _ _ _ _ _ _ _ _) | (first | (show (_ : Int) ≤ _; omega) | exact rfl | assumption | ((repeat (first | exact Take.here | apply Take.there)); done) | (show Ag _ _ _; (repeat (first | assumption | exact rfl | exact Ag.nil | exact Take.here | apply Take.there | (show Ag _ _ _; constructor))); done) | exact Pk.t | exact Pk.f)))): what is known of the slots, the heap; how it stands; what is still to be walked; what is to hold behind it. -/
structure W (O : Nat → Option FSpec) (T : BT) (ro : Option Nat) (N : Nat) (Q : AExit → Env → AHeap → Prop) (x : AExit) (k : List KI) (s : Env) (h : AHeap) : Prop where
  run : ∀ e, e.length = N → Cov s e → postK (progI O T) ro N k (fun x e h => ∃ s', e.length = N ∧ Cov s' e ∧ Q x s' h) x e h

section
variable {O : Nat → Option FSpec} {T : BT} {ro : Option Nat} {N : Nat} {Q : AExit → Env → AHeap → Prop} {x : AExit} {k : List KI} {s : Env} {h : AHeap}

theorem run_nil {C : SemW} {e : List AV} {K : List AV → AHeap → Prop} (h1 : K e h) : runInsW C [] e h K := h1

section ops
variable {d : Nat} {op : AOp} {os : List Opd} {g : Option (Nat × Bool)} {is : List AIn} {vs : List AV} {v : AV} {L R : List Chunk}

theorem W.dop (ha : evalLS s os = some vs) (ho : Does op vs h v h) (hj : v.notJunk = some v) (hd : Nat.blt d N = true) (w : W O T ro N Q .normal (.ins is :: k) ((d, v) :: s) h) : W O T ro N Q .normal (.ins (⟨some d, op, os, none⟩ :: is) :: k) s h :=
  ⟨fun e hl hc => by
    simp only [postK, runInsW]
    exact runIn_eff hc rfl ha (ho.do (w.run _ (by simpa [setDst] using hl) (hc.set (by rw [hl]; exact blt_of hd) hj)))⟩

theorem W.eff {K : AV → AHeap → Prop} (ho : Eff (progI O T) op vs h K) (ha : evalLS s os = some vs) (hd : Nat.blt d N = true) (w : ∀ v h', K v h' → v.notJunk = some v ∧ W O T ro N Q .normal (.ins is :: k) ((d, v) :: s) h') : W O T ro N Q .normal (.ins (⟨some d, op, os, none⟩ :: is) :: k) s h :=
  ⟨fun e hl hc => by
    simp only [postK, runInsW]
    exact runIn_eff hc rfl ha (doOpW_mono (fun _ _ _ _ x => x) progI_mono (fun v h1 q => (w v h1 q).2.run _ (by simpa [setDst] using hl) (hc.set (by rw [hl]; exact blt_of hd) (w v h1 q).1)) ho.run)⟩

theorem W.eff0 {K : AV → AHeap → Prop} (ho : Eff (progI O T) op vs h K) (ha : evalLS s os = some vs) (w : ∀ v h', K v h' → W O T ro N Q .normal (.ins is :: k) s h') : W O T ro N Q .normal (.ins (⟨none, op, os, none⟩ :: is) :: k) s h :=
  ⟨fun e hl hc => by
    simp only [postK, runInsW]
    exact runIn_eff hc rfl ha (doOpW_mono (fun _ _ _ _ x => x) progI_mono (fun v h1 q => (w v h1 q).run _ hl hc) ho.run)⟩

end ops
end

/-- one step of the walk -/
inductive Stp (O : Nat → Option FSpec) (T : BT) (ro : Option Nat) (N : Nat) (Q : AExit → Env → AHeap → Prop) : AExit → List KI → Env → AHeap → Prop where
  | done {x : AExit} {s : Env} {h : AHeap} : Q x s h → Stp O T ro N Q x [] s h
  | seq {k : List KI} {s : Env} {h : AHeap} {a b : ACode} : W O T ro N Q .normal (.code a :: .code b :: k) s h → Stp O T ro N Q .normal (.code (.seq a b) :: k) s h
  | region {k : List KI} {s : Env} {h : AHeap} {is : List AIn} : W O T ro N Q .normal (.ins is :: k) s h → Stp O T ro N Q .normal (.code (.region is) :: k) s h
  | draw1 {k : List KI} {s : Env} {h : AHeap} {ds : List DI} : W O T ro N Q .normal (.dis ds :: k) s h → Stp O T ro N Q .normal (.code (.draw [ds]) :: k) s h
  | block {k : List KI} {s : Env} {h : AHeap} {id : Nat} {b : ACode} : W O T ro N Q .normal (.code b :: .blk id :: k) s h → Stp O T ro N Q .normal (.code (.block id b) :: k) s h
  | blk {k : List KI} {s : Env} {h : AHeap} {id : Nat} : W O T ro N Q .normal k s h → Stp O T ro N Q .normal (.blk id :: k) s h
  | cond {k : List KI} {s : Env} {h : AHeap} {o : Opd} {q : Bool} {a b : ACode} : evalS s o = some (.bool q) → W O T ro N Q .normal (.code (bif q then a else b) :: k) s h → Stp O T ro N Q .normal (.code (.cond o a b) :: k) s h
  | skip {k : List KI} {s : Env} {h : AHeap} : W O T ro N Q .normal k s h → Stp O T ro N Q .normal (.code .skip :: k) s h
  | ret {k : List KI} {s : Env} {h : AHeap} : W O T ro N Q .ret k s h → Stp O T ro N Q .normal (.code .ret :: k) s h
  | exit {k : List KI} {s : Env} {h : AHeap} {id : Nat} : W O T ro N Q (.exit id) k s h → Stp O T ro N Q .normal (.code (.exit id) :: k) s h
  | rcode {k : List KI} {s : Env} {h : AHeap} {c : ACode} : W O T ro N Q .ret k s h → Stp O T ro N Q .ret (.code c :: k) s h
  | rblk {k : List KI} {s : Env} {h : AHeap} {id : Nat} : W O T ro N Q .ret k s h → Stp O T ro N Q .ret (.blk id :: k) s h
  | rlp {k : List KI} {s : Env} {h : AHeap} {J : Env → AHeap → Prop} : W O T ro N Q .ret k s h → Stp O T ro N Q .ret (.lp J :: k) s h
  | xcode {k : List KI} {s : Env} {h : AHeap} {c : ACode} {i : Nat} : W O T ro N Q (.exit i) k s h → Stp O T ro N Q (.exit i) (.code c :: k) s h
  | xblk {k : List KI} {s : Env} {h : AHeap} {i id : Nat} : W O T ro N Q (bif Nat.beq i id then .normal else .exit i) k s h → Stp O T ro N Q (.exit i) (.blk id :: k) s h
  | xlp {k : List KI} {s : Env} {h : AHeap} {i : Nat} {J : Env → AHeap → Prop} : W O T ro N Q (.exit i) k s h → Stp O T ro N Q (.exit i) (.lp J :: k) s h
  | lp {k : List KI} {s : Env} {h : AHeap} {J : Env → AHeap → Prop} : J s h → Stp O T ro N Q .normal (.lp J :: k) s h
  | inil {k : List KI} {s : Env} {h : AHeap} : W O T ro N Q .normal k s h → Stp O T ro N Q .normal (.ins [] :: k) s h
  | dnil {k : List KI} {s : Env} {h : AHeap} : W O T ro N Q .normal k s h → Stp O T ro N Q .normal (.dis [] :: k) s h
  | dcons {k : List KI} {s : Env} {h : AHeap} {j : Nat} {i : AIn} {rs : List (Nat × AIn)} {fin : Bool} {ds : List DI} : W O T ro N Q .normal (.ins [i] :: .ag rs :: .dis ds :: k) s h → Stp O T ro N Q .normal (.dis (⟨j, i, rs, fin⟩ :: ds) :: k) s h
  | ag {k : List KI} {s : Env} {h : AHeap} {rs : List (Nat × AIn)} : Ag s h rs → W O T ro N Q .normal k s h → Stp O T ro N Q .normal (.ag rs :: k) s h
  | guard {k : List KI} {s : Env} {h : AHeap} {d : Option Nat} {op : AOp} {os : List Opd} {g : Nat × Bool} {b : Bool} {is : List AIn} : wantS s (some g) = some b → W O T ro N Q .normal (.ins ((bif b then ⟨d, op, os, none⟩ else ⟨d, .mv, [.lit (.tuple [])], none⟩) :: is) :: k) s h → Stp O T ro N Q .normal (.ins (⟨d, op, os, some g⟩ :: is) :: k) s h
  | mv {k : List KI} {s : Env} {h : AHeap} {d : Nat} {os : List Opd} {is : List AIn} {v : AV} : evalLS s os = some [v] → AV.notJunk v = some v → Nat.blt d N = true → W O T ro N Q .normal (.ins is :: k) ((d, v) :: s) h → Stp O T ro N Q .normal (.ins (⟨some d, .mv, os, none⟩ :: is) :: k) s h
  | load1 {k : List KI} {s : Env} {h : AHeap} {d : Nat} {os : List Opd} {is : List AIn} {id off e es : Nat} {soft ro' : Bool} {D : Dat} {L R : List Chunk} {v : AV} : evalLS s os = some [.ptr id off] → St h L → Take L (.pt id (.row e es soft ro' D)) R → D.get off = some v → AV.notJunk v = some v → Nat.blt d N = true → W O T ro N Q .normal (.ins is :: k) ((d, v) :: s) h → Stp O T ro N Q .normal (.ins (⟨some d, .load1, os, none⟩ :: is) :: k) s h
  | loadn {k : List KI} {s : Env} {h : AHeap} {d : Nat} {os : List Opd} {is : List AIn} {id off e es : Nat} {soft ro' : Bool} {D : Dat} {L R : List Chunk} {v : AV} {n : Nat} : evalLS s os = some [.ptr id off] → St h L → Take L (.pt id (.row e es soft ro' D)) R → D.sub off n = some v → AV.notJunk v = some v → Nat.blt d N = true → W O T ro N Q .normal (.ins is :: k) ((d, v) :: s) h → Stp O T ro N Q .normal (.ins (⟨some d, (.loadn n), os, none⟩ :: is) :: k) s h
  | pick {k : List KI} {s : Env} {h : AHeap} {d : Nat} {os : List Opd} {is : List AIn} {c : Bool} {a b v : AV} : evalLS s os = some [.bool c, a, b] → Pk c a b v → AV.notJunk v = some v → Nat.blt d N = true → W O T ro N Q .normal (.ins is :: k) ((d, v) :: s) h → Stp O T ro N Q .normal (.ins (⟨some d, .pick, os, none⟩ :: is) :: k) s h
  | lens {k : List KI} {s : Env} {h : AHeap} {d : Nat} {os : List Opd} {is : List AIn} {v : AV} {n : Nat} : evalLS s os = some [v] → sliceLen v = some n → AV.notJunk (.int .i64 n) = some (.int .i64 n) → Nat.blt d N = true → W O T ro N Q .normal (.ins is :: k) ((d, (.int .i64 n)) :: s) h → Stp O T ro N Q .normal (.ins (⟨some d, .lens, os, none⟩ :: is) :: k) s h
  | add {k : List KI} {s : Env} {h : AHeap} {d : Nat} {os : List Opd} {is : List AIn} {a b : Int} : evalLS s os = some [.int .i64 a, .int .i64 b] → -9223372036854775808 ≤ a + b → a + b ≤ 9223372036854775807 → AV.notJunk (.int .i64 (a + b)) = some (.int .i64 (a + b)) → Nat.blt d N = true → W O T ro N Q .normal (.ins is :: k) ((d, (.int .i64 (a + b))) :: s) h → Stp O T ro N Q .normal (.ins (⟨some d, (.bin .add), os, none⟩ :: is) :: k) s h
  | sub {k : List KI} {s : Env} {h : AHeap} {d : Nat} {os : List Opd} {is : List AIn} {a b : Int} : evalLS s os = some [.int .i64 a, .int .i64 b] → -9223372036854775808 ≤ a - b → a - b ≤ 9223372036854775807 → AV.notJunk (.int .i64 (a - b)) = some (.int .i64 (a - b)) → Nat.blt d N = true → W O T ro N Q .normal (.ins is :: k) ((d, (.int .i64 (a - b))) :: s) h → Stp O T ro N Q .normal (.ins (⟨some d, (.bin .sub), os, none⟩ :: is) :: k) s h
  | indexa {k : List KI} {s : Env} {h : AHeap} {d : Nat} {os : List Opd} {is : List AIn} {n es id off : Nat} {kk : IntKind} {i : Int} : evalLS s os = some [.ptr id off, .int kk i] → 0 ≤ i → i < n → AV.notJunk (.ptr id (off + i.toNat * es)) = some (.ptr id (off + i.toNat * es)) → Nat.blt d N = true → W O T ro N Q .normal (.ins is :: k) ((d, (.ptr id (off + i.toNat * es))) :: s) h → Stp O T ro N Q .normal (.ins (⟨some d, (.indexa n es), os, none⟩ :: is) :: k) s h
  | nilCheck {k : List KI} {s : Env} {h : AHeap} {d : Nat} {os : List Opd} {is : List AIn} {vs : List AV} {v : AV} : evalLS s os = some vs → aop .nilCheck vs h = some (v, h) → AV.notJunk v = some v → Nat.blt d N = true → W O T ro N Q .normal (.ins is :: k) ((d, v) :: s) h → Stp O T ro N Q .normal (.ins (⟨some d, .nilCheck, os, none⟩ :: is) :: k) s h
  | eqvS {k : List KI} {s : Env} {h : AHeap} {d : Nat} {os : List Opd} {is : List AIn} {vs : List AV} {v : AV} {n : Bool} {q : Sc} : evalLS s os = some vs → aop (.eqv n (.scal q)) vs h = some (v, h) → AV.notJunk v = some v → Nat.blt d N = true → W O T ro N Q .normal (.ins is :: k) ((d, v) :: s) h → Stp O T ro N Q .normal (.ins (⟨some d, (.eqv n (.scal q)), os, none⟩ :: is) :: k) s h
  | eqvP {k : List KI} {s : Env} {h : AHeap} {d : Nat} {os : List Opd} {is : List AIn} {vs : List AV} {v : AV} {n : Bool} : evalLS s os = some vs → aop (.eqv n .ptr) vs h = some (v, h) → AV.notJunk v = some v → Nat.blt d N = true → W O T ro N Q .normal (.ins is :: k) ((d, v) :: s) h → Stp O T ro N Q .normal (.ins (⟨some d, (.eqv n .ptr), os, none⟩ :: is) :: k) s h
  | eqvL {k : List KI} {s : Env} {h : AHeap} {d : Nat} {os : List Opd} {is : List AIn} {vs : List AV} {v : AV} {n : Bool} : evalLS s os = some vs → aop (.eqv n .slice) vs h = some (v, h) → AV.notJunk v = some v → Nat.blt d N = true → W O T ro N Q .normal (.ins is :: k) ((d, v) :: s) h → Stp O T ro N Q .normal (.ins (⟨some d, (.eqv n .slice), os, none⟩ :: is) :: k) s h
  | eqvM {k : List KI} {s : Env} {h : AHeap} {d : Nat} {os : List Opd} {is : List AIn} {vs : List AV} {v : AV} {n : Bool} : evalLS s os = some vs → aop (.eqv n .map) vs h = some (v, h) → AV.notJunk v = some v → Nat.blt d N = true → W O T ro N Q .normal (.ins is :: k) ((d, v) :: s) h → Stp O T ro N Q .normal (.ins (⟨some d, (.eqv n .map), os, none⟩ :: is) :: k) s h
  | eqvF {k : List KI} {s : Env} {h : AHeap} {d : Nat} {os : List Opd} {is : List AIn} {vs : List AV} {v : AV} {n : Bool} : evalLS s os = some vs → aop (.eqv n .func) vs h = some (v, h) → AV.notJunk v = some v → Nat.blt d N = true → W O T ro N Q .normal (.ins is :: k) ((d, v) :: s) h → Stp O T ro N Q .normal (.ins (⟨some d, (.eqv n .func), os, none⟩ :: is) :: k) s h
  | eqvA {k : List KI} {s : Env} {h : AHeap} {d : Nat} {os : List Opd} {is : List AIn} {vs : List AV} {v : AV} {n : Bool} {q : List Sc} : evalLS s os = some vs → aop (.eqv n (.flat q)) vs h = some (v, h) → AV.notJunk v = some v → Nat.blt d N = true → W O T ro N Q .normal (.ins is :: k) ((d, v) :: s) h → Stp O T ro N Q .normal (.ins (⟨some d, (.eqv n (.flat q)), os, none⟩ :: is) :: k) s h
  | un {k : List KI} {s : Env} {h : AHeap} {d : Nat} {os : List Opd} {is : List AIn} {vs : List AV} {v : AV} {u : UnOp} : evalLS s os = some vs → aop (.un u) vs h = some (v, h) → AV.notJunk v = some v → Nat.blt d N = true → W O T ro N Q .normal (.ins is :: k) ((d, v) :: s) h → Stp O T ro N Q .normal (.ins (⟨some d, (.un u), os, none⟩ :: is) :: k) s h
  | conv {k : List KI} {s : Env} {h : AHeap} {d : Nat} {os : List Opd} {is : List AIn} {vs : List AV} {v : AV} {q : IntKind} : evalLS s os = some vs → aop (.conv q) vs h = some (v, h) → AV.notJunk v = some v → Nat.blt d N = true → W O T ro N Q .normal (.ins is :: k) ((d, v) :: s) h → Stp O T ro N Q .normal (.ins (⟨some d, (.conv q), os, none⟩ :: is) :: k) s h
  | sl2arr {k : List KI} {s : Env} {h : AHeap} {d : Nat} {os : List Opd} {is : List AIn} {vs : List AV} {v : AV} {n : Nat} : evalLS s os = some vs → aop (.sl2arr n) vs h = some (v, h) → AV.notJunk v = some v → Nat.blt d N = true → W O T ro N Q .normal (.ins is :: k) ((d, v) :: s) h → Stp O T ro N Q .normal (.ins (⟨some d, (.sl2arr n), os, none⟩ :: is) :: k) s h
  | mkfunc {k : List KI} {s : Env} {h : AHeap} {d : Nat} {os : List Opd} {is : List AIn} {vs : List AV} {v : AV} {f n : Nat} : evalLS s os = some vs → aop (.mkfunc f n) vs h = some (v, h) → AV.notJunk v = some v → Nat.blt d N = true → W O T ro N Q .normal (.ins is :: k) ((d, v) :: s) h → Stp O T ro N Q .normal (.ins (⟨some d, (.mkfunc f n), os, none⟩ :: is) :: k) s h
  | slice {k : List KI} {s : Env} {h : AHeap} {d : Nat} {os : List Opd} {is : List AIn} {vs : List AV} {v : AV} {es : Nat} {a b c : Bool} : evalLS s os = some vs → aop (.slice es a b c) vs h = some (v, h) → AV.notJunk v = some v → Nat.blt d N = true → W O T ro N Q .normal (.ins is :: k) ((d, v) :: s) h → Stp O T ro N Q .normal (.ins (⟨some d, (.slice es a b c), os, none⟩ :: is) :: k) s h
  | slicea {k : List KI} {s : Env} {h : AHeap} {d : Nat} {os : List Opd} {is : List AIn} {vs : List AV} {v : AV} {n es : Nat} {a b c : Bool} : evalLS s os = some vs → aop (.slicea n es a b c) vs h = some (v, h) → AV.notJunk v = some v → Nat.blt d N = true → W O T ro N Q .normal (.ins is :: k) ((d, v) :: s) h → Stp O T ro N Q .normal (.ins (⟨some d, (.slicea n es a b c), os, none⟩ :: is) :: k) s h
  | fieldAddr {k : List KI} {s : Env} {h : AHeap} {d : Nat} {os : List Opd} {is : List AIn} {vs : List AV} {v : AV} {n : Nat} : evalLS s os = some vs → aop (.fieldAddr n) vs h = some (v, h) → AV.notJunk v = some v → Nat.blt d N = true → W O T ro N Q .normal (.ins is :: k) ((d, v) :: s) h → Stp O T ro N Q .normal (.ins (⟨some d, (.fieldAddr n), os, none⟩ :: is) :: k) s h
  | field {k : List KI} {s : Env} {h : AHeap} {d : Nat} {os : List Opd} {is : List AIn} {vs : List AV} {v : AV} {a b : Nat} {c : Bool} : evalLS s os = some vs → aop (.field a b c) vs h = some (v, h) → AV.notJunk v = some v → Nat.blt d N = true → W O T ro N Q .normal (.ins is :: k) ((d, v) :: s) h → Stp O T ro N Q .normal (.ins (⟨some d, (.field a b c), os, none⟩ :: is) :: k) s h
  | indexv {k : List KI} {s : Env} {h : AHeap} {d : Nat} {os : List Opd} {is : List AIn} {vs : List AV} {v : AV} {a b : Nat} {c : Bool} : evalLS s os = some vs → aop (.indexv a b c) vs h = some (v, h) → AV.notJunk v = some v → Nat.blt d N = true → W O T ro N Q .normal (.ins is :: k) ((d, v) :: s) h → Stp O T ro N Q .normal (.ins (⟨some d, (.indexv a b c), os, none⟩ :: is) :: k) s h
  | extract {k : List KI} {s : Env} {h : AHeap} {d : Nat} {os : List Opd} {is : List AIn} {vs : List AV} {v : AV} {i : Nat} : evalLS s os = some vs → aop (.extract i) vs h = some (v, h) → AV.notJunk v = some v → Nat.blt d N = true → W O T ro N Q .normal (.ins is :: k) ((d, v) :: s) h → Stp O T ro N Q .normal (.ins (⟨some d, (.extract i), os, none⟩ :: is) :: k) s h
  | lenc {k : List KI} {s : Env} {h : AHeap} {d : Nat} {os : List Opd} {is : List AIn} {vs : List AV} {v : AV} {n : Nat} : evalLS s os = some vs → aop (.lenc n) vs h = some (v, h) → AV.notJunk v = some v → Nat.blt d N = true → W O T ro N Q .normal (.ins is :: k) ((d, v) :: s) h → Stp O T ro N Q .normal (.ins (⟨some d, (.lenc n), os, none⟩ :: is) :: k) s h
  | min {k : List KI} {s : Env} {h : AHeap} {d : Nat} {os : List Opd} {is : List AIn} {vs : List AV} {v : AV} : evalLS s os = some vs → aop .min vs h = some (v, h) → AV.notJunk v = some v → Nat.blt d N = true → W O T ro N Q .normal (.ins is :: k) ((d, v) :: s) h → Stp O T ro N Q .normal (.ins (⟨some d, .min, os, none⟩ :: is) :: k) s h
  | max {k : List KI} {s : Env} {h : AHeap} {d : Nat} {os : List Opd} {is : List AIn} {vs : List AV} {v : AV} : evalLS s os = some vs → aop .max vs h = some (v, h) → AV.notJunk v = some v → Nat.blt d N = true → W O T ro N Q .normal (.ins is :: k) ((d, v) :: s) h → Stp O T ro N Q .normal (.ins (⟨some d, .max, os, none⟩ :: is) :: k) s h
  | build {k : List KI} {s : Env} {h : AHeap} {d : Nat} {os : List Opd} {is : List AIn} {vs : List AV} {v : AV} {z : AV} {ps : List (Nat × Nat)} : evalLS s os = some vs → aop (.build z ps) vs h = some (v, h) → AV.notJunk v = some v → Nat.blt d N = true → W O T ro N Q .normal (.ins is :: k) ((d, v) :: s) h → Stp O T ro N Q .normal (.ins (⟨some d, (.build z ps), os, none⟩ :: is) :: k) s h
  | lss {k : List KI} {s : Env} {h : AHeap} {d : Nat} {os : List Opd} {is : List AIn} {vs : List AV} {v : AV} : evalLS s os = some vs → aop (.bin .lss) vs h = some (v, h) → AV.notJunk v = some v → Nat.blt d N = true → W O T ro N Q .normal (.ins is :: k) ((d, v) :: s) h → Stp O T ro N Q .normal (.ins (⟨some d, (.bin .lss), os, none⟩ :: is) :: k) s h
  | leq {k : List KI} {s : Env} {h : AHeap} {d : Nat} {os : List Opd} {is : List AIn} {vs : List AV} {v : AV} : evalLS s os = some vs → aop (.bin .leq) vs h = some (v, h) → AV.notJunk v = some v → Nat.blt d N = true → W O T ro N Q .normal (.ins is :: k) ((d, v) :: s) h → Stp O T ro N Q .normal (.ins (⟨some d, (.bin .leq), os, none⟩ :: is) :: k) s h
  | gtr {k : List KI} {s : Env} {h : AHeap} {d : Nat} {os : List Opd} {is : List AIn} {vs : List AV} {v : AV} : evalLS s os = some vs → aop (.bin .gtr) vs h = some (v, h) → AV.notJunk v = some v → Nat.blt d N = true → W O T ro N Q .normal (.ins is :: k) ((d, v) :: s) h → Stp O T ro N Q .normal (.ins (⟨some d, (.bin .gtr), os, none⟩ :: is) :: k) s h
  | geq {k : List KI} {s : Env} {h : AHeap} {d : Nat} {os : List Opd} {is : List AIn} {vs : List AV} {v : AV} : evalLS s os = some vs → aop (.bin .geq) vs h = some (v, h) → AV.notJunk v = some v → Nat.blt d N = true → W O T ro N Q .normal (.ins is :: k) ((d, v) :: s) h → Stp O T ro N Q .normal (.ins (⟨some d, (.bin .geq), os, none⟩ :: is) :: k) s h
  | eql {k : List KI} {s : Env} {h : AHeap} {d : Nat} {os : List Opd} {is : List AIn} {vs : List AV} {v : AV} : evalLS s os = some vs → aop (.bin .eql) vs h = some (v, h) → AV.notJunk v = some v → Nat.blt d N = true → W O T ro N Q .normal (.ins is :: k) ((d, v) :: s) h → Stp O T ro N Q .normal (.ins (⟨some d, (.bin .eql), os, none⟩ :: is) :: k) s h
  | neq {k : List KI} {s : Env} {h : AHeap} {d : Nat} {os : List Opd} {is : List AIn} {vs : List AV} {v : AV} : evalLS s os = some vs → aop (.bin .neq) vs h = some (v, h) → AV.notJunk v = some v → Nat.blt d N = true → W O T ro N Q .normal (.ins is :: k) ((d, v) :: s) h → Stp O T ro N Q .normal (.ins (⟨some d, (.bin .neq), os, none⟩ :: is) :: k) s h
  | mul {k : List KI} {s : Env} {h : AHeap} {d : Nat} {os : List Opd} {is : List AIn} {vs : List AV} {v : AV} : evalLS s os = some vs → aop (.bin .mul) vs h = some (v, h) → AV.notJunk v = some v → Nat.blt d N = true → W O T ro N Q .normal (.ins is :: k) ((d, v) :: s) h → Stp O T ro N Q .normal (.ins (⟨some d, (.bin .mul), os, none⟩ :: is) :: k) s h
  | quo {k : List KI} {s : Env} {h : AHeap} {d : Nat} {os : List Opd} {is : List AIn} {vs : List AV} {v : AV} : evalLS s os = some vs → aop (.bin .quo) vs h = some (v, h) → AV.notJunk v = some v → Nat.blt d N = true → W O T ro N Q .normal (.ins is :: k) ((d, v) :: s) h → Stp O T ro N Q .normal (.ins (⟨some d, (.bin .quo), os, none⟩ :: is) :: k) s h
  | rem {k : List KI} {s : Env} {h : AHeap} {d : Nat} {os : List Opd} {is : List AIn} {vs : List AV} {v : AV} : evalLS s os = some vs → aop (.bin .rem) vs h = some (v, h) → AV.notJunk v = some v → Nat.blt d N = true → W O T ro N Q .normal (.ins is :: k) ((d, v) :: s) h → Stp O T ro N Q .normal (.ins (⟨some d, (.bin .rem), os, none⟩ :: is) :: k) s h
  | band {k : List KI} {s : Env} {h : AHeap} {d : Nat} {os : List Opd} {is : List AIn} {vs : List AV} {v : AV} : evalLS s os = some vs → aop (.bin .and) vs h = some (v, h) → AV.notJunk v = some v → Nat.blt d N = true → W O T ro N Q .normal (.ins is :: k) ((d, v) :: s) h → Stp O T ro N Q .normal (.ins (⟨some d, (.bin .and), os, none⟩ :: is) :: k) s h
  | bor {k : List KI} {s : Env} {h : AHeap} {d : Nat} {os : List Opd} {is : List AIn} {vs : List AV} {v : AV} : evalLS s os = some vs → aop (.bin .or) vs h = some (v, h) → AV.notJunk v = some v → Nat.blt d N = true → W O T ro N Q .normal (.ins is :: k) ((d, v) :: s) h → Stp O T ro N Q .normal (.ins (⟨some d, (.bin .or), os, none⟩ :: is) :: k) s h
  | shl {k : List KI} {s : Env} {h : AHeap} {d : Nat} {os : List Opd} {is : List AIn} {vs : List AV} {v : AV} : evalLS s os = some vs → aop (.bin .shl) vs h = some (v, h) → AV.notJunk v = some v → Nat.blt d N = true → W O T ro N Q .normal (.ins is :: k) ((d, v) :: s) h → Stp O T ro N Q .normal (.ins (⟨some d, (.bin .shl), os, none⟩ :: is) :: k) s h
  | shr {k : List KI} {s : Env} {h : AHeap} {d : Nat} {os : List Opd} {is : List AIn} {vs : List AV} {v : AV} : evalLS s os = some vs → aop (.bin .shr) vs h = some (v, h) → AV.notJunk v = some v → Nat.blt d N = true → W O T ro N Q .normal (.ins is :: k) ((d, v) :: s) h → Stp O T ro N Q .normal (.ins (⟨some d, (.bin .shr), os, none⟩ :: is) :: k) s h
  | bandn {k : List KI} {s : Env} {h : AHeap} {d : Nat} {os : List Opd} {is : List AIn} {vs : List AV} {v : AV} : evalLS s os = some vs → aop (.bin .andNot) vs h = some (v, h) → AV.notJunk v = some v → Nat.blt d N = true → W O T ro N Q .normal (.ins is :: k) ((d, v) :: s) h → Stp O T ro N Q .normal (.ins (⟨some d, (.bin .andNot), os, none⟩ :: is) :: k) s h
  | alloc {k : List KI} {s : Env} {h : AHeap} {d : Nat} {os : List Opd} {is : List AIn} {L : List Chunk} {e es : Nat} {z : Dat} : evalLS s os = some [] → St h L → z.len = es → Nat.blt 0 es = true → Nat.blt d N = true → (∀ p h', St h' (.pt p (.row e es false false z) :: L) → W O T ro N Q .normal (.ins is :: k) ((d, .ptr p 0) :: s) h') → Stp O T ro N Q .normal (.ins (⟨some d, (.alloc e es z), os, none⟩ :: is) :: k) s h
  | box {k : List KI} {s : Env} {h : AHeap} {d : Nat} {os : List Opd} {is : List AIn} {L : List Chunk} {e es : Nat} {v : AV} : evalLS s os = some [v] → St h L → v.dat.len = es → Nat.blt 0 es = true → Nat.blt d N = true → (∀ p h', St h' (.pt p (.row e es false false v.dat) :: L) → W O T ro N Q .normal (.ins is :: k) ((d, .ptr p 0) :: s) h') → Stp O T ro N Q .normal (.ins (⟨some d, (.box e es), os, none⟩ :: is) :: k) s h
  | bslice {k : List KI} {s : Env} {h : AHeap} {d : Nat} {os : List Opd} {is : List AIn} {L : List Chunk} {e es len : Nat} {z dd : Dat} {parts : List Nat} {args : List AV} : evalLS s os = some args → St h L → fills (parts.map fun i => (i * es, es)) args (z.rep len) = some dd → dd.len = len * es → Nat.blt 0 es = true → Nat.blt d N = true → (∀ p h', St h' (.pt p (.row e es false false dd) :: L) → W O T ro N Q .normal (.ins is :: k) ((d, .sl p 0 len len) :: s) h') → Stp O T ro N Q .normal (.ins (⟨some d, (.bslice e es len z parts), os, none⟩ :: is) :: k) s h
  | store {k : List KI} {s : Env} {h : AHeap} {os : List Opd} {is : List AIn} {L R : List Chunk} {id off e es n : Nat} {soft : Bool} {D D' : Dat} {v : AV} : evalLS s os = some [.ptr id off, v] → St h L → Take L (.pt id (.row e es soft false D)) R → v.dat.len = n → Nat.blt 0 n = true → D.put off v.dat = some D' → (∀ (_ : Unit) h', St h' (.pt id (.row e es soft false D') :: R) → W O T ro N Q .normal (.ins is :: k) s h') → Stp O T ro N Q .normal (.ins (⟨none, .store n, os, none⟩ :: is) :: k) s h
  | skip0 {k : List KI} {s : Env} {h : AHeap} {os : List Opd} {is : List AIn} {v : AV} : evalLS s os = some [v] → W O T ro N Q .normal (.ins is :: k) s h → Stp O T ro N Q .normal (.ins (⟨none, .mv, os, none⟩ :: is) :: k) s h

section
variable {O : Nat → Option FSpec} {T : BT} {ro : Option Nat} {N : Nat} {Q : AExit → Env → AHeap → Prop} {x : AExit} {k : List KI} {s : Env} {h : AHeap} {L R : List Chunk}

theorem W.of (p : Stp O T ro N Q x k s h) : W O T ro N Q x k s h := by
  cases p with
  | done q => exact ⟨fun e hl hc => ⟨_, hl, hc, q⟩⟩
  | seq w => exact ⟨fun e hl hc => by
      refine execW_mono (fun _ _ _ _ x => x) progI_mono (fun y e h q => ?_) (w.run e hl hc)
      cases y <;> exact q⟩
  | region w => exact ⟨fun e hl hc => w.run e hl hc⟩
  | draw1 w => exact ⟨fun e hl hc ds hd => by rw [List.mem_singleton.1 hd]; exact w.run e hl hc⟩
  | block w => exact ⟨fun e hl hc => by
      refine execW_mono (fun _ _ _ _ x => x) progI_mono (fun y e h q => ?_) (w.run e hl hc)
      cases y <;> exact q⟩
  | blk w => exact ⟨fun e hl hc => w.run e hl hc⟩
  | cond ho w => exact ⟨fun e hl hc => by
      have := w.run e hl hc
      simp only [postK, execW, hc.eval ho] at this ⊢
      rename_i q _ _
      cases q <;> exact this⟩
  | skip w => exact ⟨fun e hl hc => w.run e hl hc⟩
  | ret w => exact ⟨fun e hl hc => w.run e hl hc⟩
  | exit w => exact ⟨fun e hl hc => w.run e hl hc⟩
  | rcode w => exact ⟨fun e hl hc => w.run e hl hc⟩
  | rblk w => exact ⟨fun e hl hc => w.run e hl hc⟩
  | rlp w => exact ⟨fun e hl hc => w.run e hl hc⟩
  | xcode w => exact ⟨fun e hl hc => w.run e hl hc⟩
  | xblk w => exact ⟨fun e hl hc => by
      have := w.run e hl hc
      simp only [postK]
      rename_i i id
      cases hb : Nat.beq i id with
      | true => rw [hb] at this; rw [if_pos (Nat.eq_of_beq_eq_true hb)]; exact this
      | false => rw [hb] at this; rw [if_neg (Nat.ne_of_beq_eq_false hb)]; exact this⟩
  | xlp w => exact ⟨fun e hl hc => w.run e hl hc⟩
  | lp j => exact ⟨fun e hl hc => ⟨_, hl, hc, j⟩⟩
  | inil w => exact ⟨fun e hl hc => w.run e hl hc⟩
  | dnil w => exact ⟨fun e hl hc => w.run e hl hc⟩
  | dcons w => exact ⟨fun e hl hc => w.run e hl hc⟩
  | ag a w => exact ⟨fun e hl hc => ⟨again_ok hc a.ok, w.run e hl hc⟩⟩
  | guard hw w => exact ⟨fun e hl hc => by
      have := w.run e hl hc
      simp only [postK, runInsW, runInW, hc.want hw] at this ⊢
      rename_i b _
      cases b with
      | true => exact this
      | false => simpa only [cond_false, wantedA, evalL, Opd.eval, doOpW, aop] using this⟩
  | mv ha  hj hd w => exact W.dop ha (⟨rfl, rfl⟩) hj hd w
  | load1 ha p0 p1 p2 hj hd w => exact W.dop ha (d_load1 (p0.get' p1) p2) hj hd w
  | loadn ha p0 p1 p2 hj hd w => exact W.dop ha (d_loadn (p0.get' p1) p2) hj hd w
  | pick ha p0 hj hd w => exact W.dop ha (⟨rfl, by obtain ⟨rfl⟩ := p0; cases ‹Bool› <;> rfl⟩) hj hd w
  | lens ha p0 hj hd w => exact W.dop ha (d_lens p0) hj hd w
  | add ha p0 p1 hj hd w => exact W.dop ha (d_add p0 p1) hj hd w
  | sub ha p0 p1 hj hd w => exact W.dop ha (d_sub p0 p1) hj hd w
  | indexa ha p0 p1 hj hd w => exact W.dop ha (d_indexa p0 p1) hj hd w
  | nilCheck ha p0 hj hd w => exact W.dop ha (⟨rfl, p0⟩) hj hd w
  | eqvS ha p0 hj hd w => exact W.dop ha (⟨rfl, p0⟩) hj hd w
  | eqvP ha p0 hj hd w => exact W.dop ha (⟨rfl, p0⟩) hj hd w
  | eqvL ha p0 hj hd w => exact W.dop ha (⟨rfl, p0⟩) hj hd w
  | eqvM ha p0 hj hd w => exact W.dop ha (⟨rfl, p0⟩) hj hd w
  | eqvF ha p0 hj hd w => exact W.dop ha (⟨rfl, p0⟩) hj hd w
  | eqvA ha p0 hj hd w => exact W.dop ha (⟨rfl, p0⟩) hj hd w
  | un ha p0 hj hd w => exact W.dop ha (⟨rfl, p0⟩) hj hd w
  | conv ha p0 hj hd w => exact W.dop ha (⟨rfl, p0⟩) hj hd w
  | sl2arr ha p0 hj hd w => exact W.dop ha (⟨rfl, p0⟩) hj hd w
  | mkfunc ha p0 hj hd w => exact W.dop ha (⟨rfl, p0⟩) hj hd w
  | slice ha p0 hj hd w => exact W.dop ha (⟨rfl, p0⟩) hj hd w
  | slicea ha p0 hj hd w => exact W.dop ha (⟨rfl, p0⟩) hj hd w
  | fieldAddr ha p0 hj hd w => exact W.dop ha (⟨rfl, p0⟩) hj hd w
  | field ha p0 hj hd w => exact W.dop ha (⟨rfl, p0⟩) hj hd w
  | indexv ha p0 hj hd w => exact W.dop ha (⟨rfl, p0⟩) hj hd w
  | extract ha p0 hj hd w => exact W.dop ha (⟨rfl, p0⟩) hj hd w
  | lenc ha p0 hj hd w => exact W.dop ha (⟨rfl, p0⟩) hj hd w
  | min ha p0 hj hd w => exact W.dop ha (⟨rfl, p0⟩) hj hd w
  | max ha p0 hj hd w => exact W.dop ha (⟨rfl, p0⟩) hj hd w
  | build ha p0 hj hd w => exact W.dop ha (⟨rfl, p0⟩) hj hd w
  | lss ha p0 hj hd w => exact W.dop ha (⟨rfl, p0⟩) hj hd w
  | leq ha p0 hj hd w => exact W.dop ha (⟨rfl, p0⟩) hj hd w
  | gtr ha p0 hj hd w => exact W.dop ha (⟨rfl, p0⟩) hj hd w
  | geq ha p0 hj hd w => exact W.dop ha (⟨rfl, p0⟩) hj hd w
  | eql ha p0 hj hd w => exact W.dop ha (⟨rfl, p0⟩) hj hd w
  | neq ha p0 hj hd w => exact W.dop ha (⟨rfl, p0⟩) hj hd w
  | mul ha p0 hj hd w => exact W.dop ha (⟨rfl, p0⟩) hj hd w
  | quo ha p0 hj hd w => exact W.dop ha (⟨rfl, p0⟩) hj hd w
  | rem ha p0 hj hd w => exact W.dop ha (⟨rfl, p0⟩) hj hd w
  | band ha p0 hj hd w => exact W.dop ha (⟨rfl, p0⟩) hj hd w
  | bor ha p0 hj hd w => exact W.dop ha (⟨rfl, p0⟩) hj hd w
  | shl ha p0 hj hd w => exact W.dop ha (⟨rfl, p0⟩) hj hd w
  | shr ha p0 hj hd w => exact W.dop ha (⟨rfl, p0⟩) hj hd w
  | bandn ha p0 hj hd w => exact W.dop ha (⟨rfl, p0⟩) hj hd w
  | alloc ha st p0 p1 hd w => exact W.eff (e_alloc st p0 p1) ha hd fun _ h' ⟨p, e, st'⟩ => by subst e; exact ⟨rfl, w p h' st'⟩
  | box ha st p0 p1 hd w => exact W.eff (e_box st p0 p1) ha hd fun _ h' ⟨p, e, st'⟩ => by subst e; exact ⟨rfl, w p h' st'⟩
  | bslice ha st p0 p1 p2 hd w => exact W.eff (e_bslice st p0 p1 p2) ha hd fun _ h' ⟨p, e, st'⟩ => by subst e; exact ⟨rfl, w p h' st'⟩
  | store ha st t h1 h2 h3 w => exact W.eff0 (e_store st t h1 h2 h3) ha fun _ h' ⟨_, st'⟩ => w () h' st'
  | skip0 ha w => exact W.eff0 (K := fun _ h' => h' = h) ⟨by simp only [doOpW, aop]⟩ ha fun _ h' e => by subst e; exact w
theorem be_t {q : Bool} (h : q = true) : (q == true) = true := by subst h; rfl
theorem be_f {q : Bool} (h : q = false) : (q == true) = false := by subst h; rfl
theorem bo_t {q : Bool} (h : q = false) : (q == false) = true := by subst h; rfl
theorem bo_f {q : Bool} (h : q = true) : (q == false) = false := by subst h; rfl


/-- a branch whose way is known -/
theorem W.ct {q : Bool} {a b : ACode} (w : W O T ro N Q .normal (.code a :: k) s h) (hq : q = true := by first | assumption | exact d_t (by omega) | exact q_t (by omega) | exact nq_t (by omega) | exact nd_t (by omega)) : W O T ro N Q .normal (.code (bif q then a else b) :: k) s h := by subst hq; exact w
theorem W.cf {q : Bool} {a b : ACode} (w : W O T ro N Q .normal (.code b :: k) s h) (hq : q = false := by first | assumption | exact d_f (by omega) | exact q_f (by omega) | exact nq_f (by omega) | exact nd_f (by omega)) : W O T ro N Q .normal (.code (bif q then a else b) :: k) s h := by subst hq; exact w
theorem W.gt {q : Bool} {a b : AIn} {is : List AIn} (w : W O T ro N Q .normal (.ins (a :: is) :: k) s h) (hq : q = true := by first | exact be_t (by first | assumption | exact d_t (by omega) | exact q_t (by omega) | exact nq_t (by omega) | exact nd_t (by omega)) | exact bo_t (by first | assumption | exact d_f (by omega) | exact q_f (by omega) | exact nq_f (by omega) | exact nd_f (by omega))) : W O T ro N Q .normal (.ins ((bif q then a else b) :: is) :: k) s h := by subst hq; exact w
theorem W.gf {q : Bool} {a b : AIn} {is : List AIn} (w : W O T ro N Q .normal (.ins (b :: is) :: k) s h) (hq : q = false := by first | exact be_f (by first | assumption | exact d_f (by omega) | exact q_f (by omega) | exact nq_f (by omega) | exact nd_f (by omega)) | exact bo_f (by first | assumption | exact d_t (by omega) | exact q_t (by omega) | exact nq_t (by omega) | exact nd_t (by omega))) : W O T ro N Q .normal (.ins ((bif q then a else b) :: is) :: k) s h := by subst hq; exact w

/-- a call, by what is known of the function -/
theorem W.call {d f : Nat} {os : List Opd} {is : List AIn} {first captured rest args : List AV} {Ps : List Chunk} {post : AV → List Chunk → Prop} (ha : evalLS s os = some (.func f first captured :: rest) := by rfl) (hx : first ++ rest ++ captured = args := by rfl) (hs : Spec (progI O T) (.f f) args Ps post)
    (st : St h L := by assumption) (hp : Pick L Ps R := by repeat (first | exact Take.here | exact Pick.nil | apply Pick.cons | apply Take.there)) (hd : Nat.blt d N = true := by rfl) (w : ∀ v Rs, post v Rs → ∀ h', St h' (Rs ++ R) → v.notJunk = some v ∧ W O T ro N Q .normal (.ins is :: k) ((d, v) :: s) h') : W O T ro N Q .normal (.ins (⟨some d, .callv, os, none⟩ :: is) :: k) s h :=
  W.eff (e_call progI_mono hs hx st hp) ha hd fun v h' ⟨Rs, y, z⟩ => w v Rs y h' z
theorem W.call0 {f : Nat} {os : List Opd} {is : List AIn} {first captured rest args : List AV} {Ps : List Chunk} {post : AV → List Chunk → Prop} (ha : evalLS s os = some (.func f first captured :: rest) := by rfl) (hx : first ++ rest ++ captured = args := by rfl) (hs : Spec (progI O T) (.f f) args Ps post)
    (st : St h L := by assumption) (hp : Pick L Ps R := by repeat (first | exact Take.here | exact Pick.nil | apply Pick.cons | apply Take.there)) (w : ∀ v Rs, post v Rs → ∀ h', St h' (Rs ++ R) → W O T ro N Q .normal (.ins is :: k) s h') : W O T ro N Q .normal (.ins (⟨none, .callv, os, none⟩ :: is) :: k) s h :=
  W.eff0 (e_call progI_mono hs hx st hp) ha fun v h' ⟨Rs, y, z⟩ => w v Rs y h' z
theorem W.ef {d : Nat} {op : AOp} {os : List Opd} {is : List AIn} {vs : List AV} {K : AV → AHeap → Prop} (ha : evalLS s os = some vs := by rfl) (ho : Eff (progI O T) op vs h K) (hd : Nat.blt d N = true := by rfl) (w : ∀ v h', K v h' → v.notJunk = some v ∧ W O T ro N Q .normal (.ins is :: k) ((d, v) :: s) h') :
    W O T ro N Q .normal (.ins (⟨some d, op, os, none⟩ :: is) :: k) s h := W.eff ho ha hd w
theorem W.ef0 {op : AOp} {os : List Opd} {is : List AIn} {vs : List AV} {K : AV → AHeap → Prop} (ha : evalLS s os = some vs := by rfl) (ho : Eff (progI O T) op vs h K) (w : ∀ v h', K v h' → W O T ro N Q .normal (.ins is :: k) s h') :
    W O T ro N Q .normal (.ins (⟨none, op, os, none⟩ :: is) :: k) s h := W.eff0 ho ha w
theorem W.do {d : Nat} {op : AOp} {os : List Opd} {is : List AIn} {vs : List AV} {v : AV} (ha : evalLS s os = some vs := by rfl) (ho : Does op vs h v h) (hj : v.notJunk = some v := by first | rfl | assumption) (hd : Nat.blt d N = true := by rfl) (w : W O T ro N Q .normal (.ins is :: k) ((d, v) :: s) h) :
    W O T ro N Q .normal (.ins (⟨some d, op, os, none⟩ :: is) :: k) s h := W.dop ha ho hj hd w
theorem nj {v : AV} {A : Prop} (k : A) (hj : v.notJunk = some v := by first | rfl | assumption) : v.notJunk = some v ∧ A := ⟨hj, k⟩

theorem W.sub {s' : Env} (hs : Sub s' s) (w : W O T ro N Q x k s' h) : W O T ro N Q x k s h := ⟨fun e hl hc => w.run e hl (hc.sub hs)⟩

/-- every order of a region whose order is open -/
theorem W.draw2 {ds ds' : List DI} (w : W O T ro N Q .normal (.dis ds :: k) s h) (w' : W O T ro N Q .normal (.dis ds' :: k) s h) : W O T ro N Q .normal (.code (.draw [ds, ds']) :: k) s h := ⟨fun e hl hc _ hd => by
  rcases List.mem_cons.1 hd with rfl | hd
  · exact w.run e hl hc
  · rw [List.mem_singleton.1 hd]; exact w'.run e hl hc⟩

theorem small_rounds {n : Nat} (h : n < 1000000) : n < rounds := by unfold rounds; omega

/-- A LOOP: a state, the slots and the parts of the heap by it, and what gets less. -/
theorem W.loop {σ : Type} {b : ACode} (E : σ → Env) (G : σ → List Chunk) (φ : σ → Prop) (m : σ → Nat) (x0 : σ) (hm : m x0 < rounds) (hs : Sub (E x0) s) (st : St h (G x0)) (h0 : φ x0)
    (hb : ∀ y h, φ y → St h (G y) → W O T ro N Q .normal (.code b :: .lp (fun s' h' => ∃ z, m z < m y ∧ φ z ∧ Sub (E z) s' ∧ St h' (G z)) :: k) (E y) h) : W O T ro N Q .normal (.code (.loop b) :: k) s h := by
  have key : ∀ (n : Nat) (y : σ) (h : AHeap), m y < n → φ y → St h (G y) → ∀ e, e.length = N → Cov (E y) e → iterW (execW (progI O T) ro b) n e h (postK (progI O T) ro N k fun x e h => ∃ s', e.length = N ∧ Cov s' e ∧ Q x s' h) := by
    intro n
    induction n with
    | zero => intro y h hy; omega
    | succ n ih =>
      intro y h hy hφ st e hl hc
      refine execW_mono (fun _ _ _ _ x => x) progI_mono (fun z e' h' q => ?_) ((hb y h hφ st).run e hl hc)
      cases z with
      | normal =>
        obtain ⟨s', p1, p2, z, hz, hφ', hsub, st'⟩ := q
        exact ih z h' (by omega) hφ' st' e' p1 (p2.sub hsub)
      | exit i => exact q
      | ret => exact q
  exact ⟨fun e hl hc => key rounds x0 h hm h0 st e hl (hc.sub hs)⟩

/-- a contract: what is known of the parts ahead of the walk -/
theorem spec_in {C : SemW} {f : Fn} {args : List AV} {Ps : List Chunk} {post : AV → List Chunk → Prop} (k : ∀ h F, St h (Ps ++ F) → Spec C f args Ps post) : Spec C f args Ps post := fun h F st => k h F st h F st

/-- a function's contract, by a walk over its code -/
theorem spec_w {n : Nat} {f : AFn} {args : List AV} {Ps : List Chunk} {post : AV → List Chunk → Prop} (u : ∀ args h Q, callW (progI O T) f args h Q → progI O T (.f n) args h Q) (hj : NoJunk args) (hl : Nat.ble args.length f.ntmps = true)
    (k : ∀ h F, St h (Ps ++ F) → W O T none f.ntmps (fnQ f.res fun v h' => ∃ Rs, post v Rs ∧ St h' (Rs ++ F)) .normal [.code f.body] (argS 0 args) h) : Spec (progI O T) (.f n) args Ps post :=
  fun h F st => u _ _ _ (call_walk progI_mono hj hl ⟨fun e hl hc => execW_mono (fun _ _ _ _ x => x) progI_mono (fun y e h q => by cases y <;> exact q) ((k h F st).run e hl hc)⟩)

end
end Go.Proofs.Ytjdemlagmamlbaa
