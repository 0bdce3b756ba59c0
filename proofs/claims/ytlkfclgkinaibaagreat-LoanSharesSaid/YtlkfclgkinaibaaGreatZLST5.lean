/- BY PROGRAM (wip/tool/shake.py): own texts, one behind the other, without what is not needed. -/
import Derived.Control
import Derived.Calls
import Derived.KernelRfl
import Derived.Laws.Sem
import Derived.Laws.Cells
import Derived.Laws.World
import GoSem.Dispatch
import Derived.Laws.StructEq
import Derived.IntWalk
import Derived.WideKeyRuns
import Derived.Laws.BytesArg
import Derived.Orders
import Derived.ChangeArms
import Derived.OpenShut
import Derived.ChangeShapes
import Derived.ProofKit
import Derived.Test.YtlkfclgkinaibaaGreatProg
import Derived.Test.YtlkfclgkinaibaaGreatZLST4

namespace Go.Proofs.YtlkfclgkinaibaaGreat
theorem d_indexa {h : AHeap} {n es id off : Nat} {kk : IntKind} {i : Int} (h0 : 0 ≤ i) (h1 : i < n) : Does (.indexa n es) [.ptr id off, .int kk i] h (.ptr id (off + i.toNat * es)) h := ⟨rfl, by
  simp only [aop]; rw [if_pos ⟨h0, h1⟩]⟩
theorem Sbs {P : Prop} (h : P := by repeat (first | exact trivial | refine ⟨by first | rfl | assumption, ?_⟩)) : P := h
theorem Njs {P : Prop} (h : P := by repeat (first | exact trivial | refine ⟨by first | rfl | assumption, ?_⟩)) : P := h
inductive KI where
  | code (c : ACode)
  | ins (is : List AIn)
  | dis (ds : List DI)
  | ag (rs : List (Nat × AIn))
  | blk (id : Nat)
  | lp (J : Env → AHeap → Prop)
mutual
def okSame : AV → Bool
  | .bool _ => true
  | .int _ _ => true
  | .ptr _ _ => true
  | .nilptr => true
  | .sl _ _ _ _ => true
  | .ssl _ _ _ _ => true
  | .nilsl => true
  | .esl => true
  | .map _ => true
  | .nilmap => true
  | .func _ a b => okSameL a && okSameL b
  | .nilfunc => true
  | .yield _ => true
  | .agg a => okSameL a
  | .bytes _ _ => true
  | .tuple a => okSameL a
  | _ => false
def okSameL : List AV → Bool
  | [] => true
  | a :: l => okSame a && okSameL l
end
mutual
theorem same_self : ∀ (v : AV), okSame v = true → AV.same v v = true := by
  intro v h
  cases v with
  | func f a b =>
    simp only [okSame, Bool.and_eq_true] at h
    simp only [AV.same, beq_self_eq_true, Bool.and_eq_true]
    exact ⟨⟨trivial, same_selfL _ h.1⟩, same_selfL _ h.2⟩
  | agg a =>
    simp only [okSame] at h
    simp only [AV.same]
    exact same_selfL _ h
  | tuple a =>
    simp only [okSame] at h
    simp only [AV.same]
    exact same_selfL _ h
  | _ => simp [okSame, AV.same] at h ⊢
theorem same_selfL : ∀ (v : List AV), okSameL v = true → AV.sameL v v = true := by
  intro v h
  cases v with
  | nil => simp [AV.sameL]
  | cons a l =>
    simp only [okSameL, Bool.and_eq_true] at h
    simp only [AV.sameL, Bool.and_eq_true]
    exact ⟨same_self a h.1, same_selfL l h.2⟩
end
inductive Ag (s : Env) (h : AHeap) : List (Nat × AIn) → Prop where
  | nil : Ag s h []
  | ld {j t : Nat} {os : List Opd} {rs : List (Nat × AIn)} {id off e es : Nat} {soft ro' : Bool} {D : Dat} {v : AV} {L R : List Chunk} : evalLS s os = some [.ptr id off] → look s t = some v → St h L → Take L (.pt id (.row e es soft ro' D)) R → D.get off = some v → okSame v = true → Ag s h rs →
      Ag s h ((j, ⟨some t, .load1, os, none⟩) :: rs)
  | ldn {j t n : Nat} {os : List Opd} {rs : List (Nat × AIn)} {id off e es : Nat} {soft ro' : Bool} {D : Dat} {v : AV} {L R : List Chunk} : evalLS s os = some [.ptr id off] → look s t = some v → St h L → Take L (.pt id (.row e es soft ro' D)) R → D.sub off n = some v → okSame v = true → Ag s h rs →
      Ag s h ((j, ⟨some t, .loadn n, os, none⟩) :: rs)
  | gd {j : Nat} {d : Option Nat} {op : AOp} {os : List Opd} {g : Nat × Bool} {b : Bool} {rs : List (Nat × AIn)} : wantS s (some g) = some b → Ag s h (bif b then (j, ⟨d, op, os, none⟩) :: rs else rs) → Ag s h ((j, ⟨d, op, os, some g⟩) :: rs)
  | dz {j t : Nat} {op : AOp} {os : List Opd} {rs : List (Nat × AIn)} {vs : List AV} {v : AV} : evalLS s os = some vs → look s t = some v → Does op vs h v h → okSame v = true → Ag s h rs → Ag s h ((j, ⟨some t, op, os, none⟩) :: rs)
theorem Ag.ok {s : Env} {h : AHeap} {rs : List (Nat × AIn)} (a : Ag s h rs) : Again s h rs := by
  induction a with
  | nil => trivial
  | ld h1 h2 h3 h4 h5 h6 _ ih => exact ⟨.inr ⟨rfl, _, _, h, h1, (d_load1 (h3.get' h4) h5).run, fun t' e => (by cases e; exact h2), same_self _ h6⟩, ih⟩
  | ldn h1 h2 h3 h4 h5 h6 _ ih => exact ⟨.inr ⟨rfl, _, _, h, h1, (d_loadn (h3.get' h4) h5).run, fun t' e => (by cases e; exact h2), same_self _ h6⟩, ih⟩
  | dz h1 h2 h3 h4 _ ih => exact ⟨.inr ⟨rfl, _, _, h, h1, h3.run, fun t' e => (by cases e; exact h2), same_self _ h4⟩, ih⟩
  | @gd _ _ _ _ _ b _ h1 _ ih =>
    cases b with
    | false => exact ⟨.inl h1, ih⟩
    | true =>
      obtain ⟨h2, h3⟩ := ih
      refine ⟨?_, h3⟩
      rcases h2 with h2 | ⟨_, h2⟩
      · cases h2
      · exact .inr ⟨h1, h2⟩
structure Pk (c : Bool) (a b v : AV) : Prop where
  is : (bif c then a else b) = v
theorem Pk.t {c : Bool} {a b : AV} (h : c = true := by first | rfl | assumption | exact d_t (by omega) | exact q_t (by omega) | exact nq_t (by omega) | exact nd_t (by omega)) : Pk c a b a := ⟨by subst h; rfl⟩
theorem Pk.f {c : Bool} {a b : AV} (h : c = false := by first | rfl | assumption | exact d_f (by omega) | exact q_f (by omega) | exact nq_f (by omega) | exact nd_f (by omega)) : Pk c a b b := ⟨by subst h; rfl⟩
theorem Sd {P : Prop} (h : P := by first | (show (_ : Int) ≤ _; omega) | exact rfl | assumption | ((repeat (first | exact Take.here | apply Take.there)); done) | (show Ag _ _ _; (repeat (first | assumption | exact rfl | exact Ag.nil | exact Take.here | apply Take.there | (show Ag _ _ _; constructor))); done) | exact Pk.t | exact Pk.f) : P := h
section
variable (C : SemW) (ro : Option Nat) (N : Nat)
def postK : List KI → (AExit → List AV → AHeap → Prop) → AExit → List AV → AHeap → Prop
  | [], Q => Q
  | .code c :: k, Q => fun x e h => match x with
    | .normal => execW C ro c e h (postK k Q)
    | .exit i => postK k Q (.exit i) e h
    | .ret => postK k Q .ret e h
  | .ins is :: k, Q => fun x e h => match x with
    | .normal => runInsW C is e h (postK k Q .normal)
    | .exit i => postK k Q (.exit i) e h
    | .ret => postK k Q .ret e h
  | .dis ds :: k, Q => fun x e h => match x with
    | .normal => runDrawW C ds e h (postK k Q .normal)
    | .exit i => postK k Q (.exit i) e h
    | .ret => postK k Q .ret e h
  | .ag rs :: k, Q => fun x e h => match x with
    | .normal => rs.all (fun r => again r.2 e h) = true ∧ postK k Q .normal e h
    | .exit i => postK k Q (.exit i) e h
    | .ret => postK k Q .ret e h
  | .blk id :: k, Q => fun x e h => match x with
    | .normal => postK k Q .normal e h
    | .exit i => if i = id then postK k Q .normal e h else postK k Q (.exit i) e h
    | .ret => postK k Q .ret e h
  | .lp J :: k, Q => fun x e h => match x with
    | .normal => ∃ s, e.length = N ∧ Cov s e ∧ J s h
    | .exit i => postK k Q (.exit i) e h
    | .ret => postK k Q .ret e h
end
structure W (O : Nat → Option FSpec) (T : BT) (ro : Option Nat) (N : Nat) (Q : AExit → Env → AHeap → Prop) (x : AExit) (k : List KI) (s : Env) (h : AHeap) : Prop where
  run : ∀ e, e.length = N → Cov s e → postK (progI O T) ro N k (fun x e h => ∃ s', e.length = N ∧ Cov s' e ∧ Q x s' h) x e h
section
variable {O : Nat → Option FSpec} {T : BT} {ro : Option Nat} {N : Nat} {Q : AExit → Env → AHeap → Prop} {x : AExit} {k : List KI} {s : Env} {h : AHeap}
section ops
variable {d : Nat} {op : AOp} {os : List Opd} {g : Option (Nat × Bool)} {is : List AIn} {vs : List AV} {v : AV} {L R : List Chunk}
theorem W.dop (ha : evalLS s os = some vs) (ho : Does op vs h v h) (hj : v.notJunk = some v) (hd : Nat.blt d N = true) (w : W O T ro N Q .normal (.ins is :: k) ((d, v) :: s) h) : W O T ro N Q .normal (.ins (⟨some d, op, os, none⟩ :: is) :: k) s h :=
  ⟨fun e hl hc => by
    simp only [postK, runInsW]
    exact runIn_eff hc rfl ha (ho.do (w.run _ (by simpa [setDst] using hl) (hc.set (by rw [hl]; exact blt_of hd) hj)))⟩
theorem W.eff {K : AV → AHeap → Prop} (ho : Eff (progI O T) op vs h K) (ha : evalLS s os = some vs) (hd : Nat.blt d N = true) (w : ∀ v h', K v h' → v.notJunk = some v ∧ W O T ro N Q .normal (.ins is :: k) ((d, v) :: s) h') : W O T ro N Q .normal (.ins (⟨some d, op, os, none⟩ :: is) :: k) s h :=
  ⟨fun e hl hc => by
    simp only [postK, runInsW]
    exact runIn_eff hc rfl ha (doOpW_mono (fun _ _ _ _ x => x) progI_mono (fun v h1 q => (w v h1 q).2.run _ (by simpa [setDst] using hl) (hc.set (by rw [hl]; exact blt_of hd) (w v h1 q).1)) ho.run)⟩
theorem W.eff0 {K : AV → AHeap → Prop} (ho : Eff (progI O T) op vs h K) (ha : evalLS s os = some vs) (w : ∀ v h', K v h' → W O T ro N Q .normal (.ins is :: k) s h') : W O T ro N Q .normal (.ins (⟨none, op, os, none⟩ :: is) :: k) s h :=
  ⟨fun e hl hc => by
    simp only [postK, runInsW]
    exact runIn_eff hc rfl ha (doOpW_mono (fun _ _ _ _ x => x) progI_mono (fun v h1 q => (w v h1 q).run _ hl hc) ho.run)⟩
end ops
end
inductive Stp (O : Nat → Option FSpec) (T : BT) (ro : Option Nat) (N : Nat) (Q : AExit → Env → AHeap → Prop) : AExit → List KI → Env → AHeap → Prop where
  | done {x : AExit} {s : Env} {h : AHeap} : Q x s h → Stp O T ro N Q x [] s h
  | seq {k : List KI} {s : Env} {h : AHeap} {a b : ACode} : W O T ro N Q .normal (.code a :: .code b :: k) s h → Stp O T ro N Q .normal (.code (.seq a b) :: k) s h
  | region {k : List KI} {s : Env} {h : AHeap} {is : List AIn} : W O T ro N Q .normal (.ins is :: k) s h → Stp O T ro N Q .normal (.code (.region is) :: k) s h
  | draw1 {k : List KI} {s : Env} {h : AHeap} {ds : List DI} : W O T ro N Q .normal (.dis ds :: k) s h → Stp O T ro N Q .normal (.code (.draw [ds]) :: k) s h
  | block {k : List KI} {s : Env} {h : AHeap} {id : Nat} {b : ACode} : W O T ro N Q .normal (.code b :: .blk id :: k) s h → Stp O T ro N Q .normal (.code (.block id b) :: k) s h
  | blk {k : List KI} {s : Env} {h : AHeap} {id : Nat} : W O T ro N Q .normal k s h → Stp O T ro N Q .normal (.blk id :: k) s h
  | cond {k : List KI} {s : Env} {h : AHeap} {o : Opd} {q : Bool} {a b : ACode} : evalS s o = some (.bool q) → W O T ro N Q .normal (.code (bif q then a else b) :: k) s h → Stp O T ro N Q .normal (.code (.cond o a b) :: k) s h
  | skip {k : List KI} {s : Env} {h : AHeap} : W O T ro N Q .normal k s h → Stp O T ro N Q .normal (.code .skip :: k) s h
  | ret {k : List KI} {s : Env} {h : AHeap} : W O T ro N Q .ret k s h → Stp O T ro N Q .normal (.code .ret :: k) s h
  | exit {k : List KI} {s : Env} {h : AHeap} {id : Nat} : W O T ro N Q (.exit id) k s h → Stp O T ro N Q .normal (.code (.exit id) :: k) s h
  | rcode {k : List KI} {s : Env} {h : AHeap} {c : ACode} : W O T ro N Q .ret k s h → Stp O T ro N Q .ret (.code c :: k) s h
  | rblk {k : List KI} {s : Env} {h : AHeap} {id : Nat} : W O T ro N Q .ret k s h → Stp O T ro N Q .ret (.blk id :: k) s h
  | rlp {k : List KI} {s : Env} {h : AHeap} {J : Env → AHeap → Prop} : W O T ro N Q .ret k s h → Stp O T ro N Q .ret (.lp J :: k) s h
  | xcode {k : List KI} {s : Env} {h : AHeap} {c : ACode} {i : Nat} : W O T ro N Q (.exit i) k s h → Stp O T ro N Q (.exit i) (.code c :: k) s h
  | xblk {k : List KI} {s : Env} {h : AHeap} {i id : Nat} : W O T ro N Q (bif Nat.beq i id then .normal else .exit i) k s h → Stp O T ro N Q (.exit i) (.blk id :: k) s h
  | xlp {k : List KI} {s : Env} {h : AHeap} {i : Nat} {J : Env → AHeap → Prop} : W O T ro N Q (.exit i) k s h → Stp O T ro N Q (.exit i) (.lp J :: k) s h
  | lp {k : List KI} {s : Env} {h : AHeap} {J : Env → AHeap → Prop} : J s h → Stp O T ro N Q .normal (.lp J :: k) s h
  | inil {k : List KI} {s : Env} {h : AHeap} : W O T ro N Q .normal k s h → Stp O T ro N Q .normal (.ins [] :: k) s h
  | dnil {k : List KI} {s : Env} {h : AHeap} : W O T ro N Q .normal k s h → Stp O T ro N Q .normal (.dis [] :: k) s h
  | dcons {k : List KI} {s : Env} {h : AHeap} {j : Nat} {i : AIn} {rs : List (Nat × AIn)} {fin : Bool} {ds : List DI} : W O T ro N Q .normal (.ins [i] :: .ag rs :: .dis ds :: k) s h → Stp O T ro N Q .normal (.dis (⟨j, i, rs, fin⟩ :: ds) :: k) s h
  | ag {k : List KI} {s : Env} {h : AHeap} {rs : List (Nat × AIn)} : Ag s h rs → W O T ro N Q .normal k s h → Stp O T ro N Q .normal (.ag rs :: k) s h
  | guard {k : List KI} {s : Env} {h : AHeap} {d : Option Nat} {op : AOp} {os : List Opd} {g : Nat × Bool} {b : Bool} {is : List AIn} : wantS s (some g) = some b → W O T ro N Q .normal (.ins ((bif b then ⟨d, op, os, none⟩ else ⟨d, .mv, [.lit (.tuple [])], none⟩) :: is) :: k) s h → Stp O T ro N Q .normal (.ins (⟨d, op, os, some g⟩ :: is) :: k) s h
  | mv {k : List KI} {s : Env} {h : AHeap} {d : Nat} {os : List Opd} {is : List AIn} {v : AV} : evalLS s os = some [v] → AV.notJunk v = some v → Nat.blt d N = true → W O T ro N Q .normal (.ins is :: k) ((d, v) :: s) h → Stp O T ro N Q .normal (.ins (⟨some d, .mv, os, none⟩ :: is) :: k) s h
  | load1 {k : List KI} {s : Env} {h : AHeap} {d : Nat} {os : List Opd} {is : List AIn} {id off e es : Nat} {soft ro' : Bool} {D : Dat} {L R : List Chunk} {v : AV} : evalLS s os = some [.ptr id off] → St h L → Take L (.pt id (.row e es soft ro' D)) R → D.get off = some v → AV.notJunk v = some v → Nat.blt d N = true → W O T ro N Q .normal (.ins is :: k) ((d, v) :: s) h → Stp O T ro N Q .normal (.ins (⟨some d, .load1, os, none⟩ :: is) :: k) s h
  | loadn {k : List KI} {s : Env} {h : AHeap} {d : Nat} {os : List Opd} {is : List AIn} {id off e es : Nat} {soft ro' : Bool} {D : Dat} {L R : List Chunk} {v : AV} {n : Nat} : evalLS s os = some [.ptr id off] → St h L → Take L (.pt id (.row e es soft ro' D)) R → D.sub off n = some v → AV.notJunk v = some v → Nat.blt d N = true → W O T ro N Q .normal (.ins is :: k) ((d, v) :: s) h → Stp O T ro N Q .normal (.ins (⟨some d, (.loadn n), os, none⟩ :: is) :: k) s h
  | pick {k : List KI} {s : Env} {h : AHeap} {d : Nat} {os : List Opd} {is : List AIn} {c : Bool} {a b v : AV} : evalLS s os = some [.bool c, a, b] → Pk c a b v → AV.notJunk v = some v → Nat.blt d N = true → W O T ro N Q .normal (.ins is :: k) ((d, v) :: s) h → Stp O T ro N Q .normal (.ins (⟨some d, .pick, os, none⟩ :: is) :: k) s h
  | lens {k : List KI} {s : Env} {h : AHeap} {d : Nat} {os : List Opd} {is : List AIn} {v : AV} {n : Nat} : evalLS s os = some [v] → sliceLen v = some n → AV.notJunk (.int .i64 n) = some (.int .i64 n) → Nat.blt d N = true → W O T ro N Q .normal (.ins is :: k) ((d, (.int .i64 n)) :: s) h → Stp O T ro N Q .normal (.ins (⟨some d, .lens, os, none⟩ :: is) :: k) s h
  | add {k : List KI} {s : Env} {h : AHeap} {d : Nat} {os : List Opd} {is : List AIn} {a b : Int} : evalLS s os = some [.int .i64 a, .int .i64 b] → -9223372036854775808 ≤ a + b → a + b ≤ 9223372036854775807 → AV.notJunk (.int .i64 (a + b)) = some (.int .i64 (a + b)) → Nat.blt d N = true → W O T ro N Q .normal (.ins is :: k) ((d, (.int .i64 (a + b))) :: s) h → Stp O T ro N Q .normal (.ins (⟨some d, (.bin .add), os, none⟩ :: is) :: k) s h
  | sub {k : List KI} {s : Env} {h : AHeap} {d : Nat} {os : List Opd} {is : List AIn} {a b : Int} : evalLS s os = some [.int .i64 a, .int .i64 b] → -9223372036854775808 ≤ a - b → a - b ≤ 9223372036854775807 → AV.notJunk (.int .i64 (a - b)) = some (.int .i64 (a - b)) → Nat.blt d N = true → W O T ro N Q .normal (.ins is :: k) ((d, (.int .i64 (a - b))) :: s) h → Stp O T ro N Q .normal (.ins (⟨some d, (.bin .sub), os, none⟩ :: is) :: k) s h
  | indexa {k : List KI} {s : Env} {h : AHeap} {d : Nat} {os : List Opd} {is : List AIn} {n es id off : Nat} {kk : IntKind} {i : Int} : evalLS s os = some [.ptr id off, .int kk i] → 0 ≤ i → i < n → AV.notJunk (.ptr id (off + i.toNat * es)) = some (.ptr id (off + i.toNat * es)) → Nat.blt d N = true → W O T ro N Q .normal (.ins is :: k) ((d, (.ptr id (off + i.toNat * es))) :: s) h → Stp O T ro N Q .normal (.ins (⟨some d, (.indexa n es), os, none⟩ :: is) :: k) s h
  | nilCheck {k : List KI} {s : Env} {h : AHeap} {d : Nat} {os : List Opd} {is : List AIn} {vs : List AV} {v : AV} : evalLS s os = some vs → aop .nilCheck vs h = some (v, h) → AV.notJunk v = some v → Nat.blt d N = true → W O T ro N Q .normal (.ins is :: k) ((d, v) :: s) h → Stp O T ro N Q .normal (.ins (⟨some d, .nilCheck, os, none⟩ :: is) :: k) s h
  | eqvS {k : List KI} {s : Env} {h : AHeap} {d : Nat} {os : List Opd} {is : List AIn} {vs : List AV} {v : AV} {n : Bool} {q : Sc} : evalLS s os = some vs → aop (.eqv n (.scal q)) vs h = some (v, h) → AV.notJunk v = some v → Nat.blt d N = true → W O T ro N Q .normal (.ins is :: k) ((d, v) :: s) h → Stp O T ro N Q .normal (.ins (⟨some d, (.eqv n (.scal q)), os, none⟩ :: is) :: k) s h
  | eqvP {k : List KI} {s : Env} {h : AHeap} {d : Nat} {os : List Opd} {is : List AIn} {vs : List AV} {v : AV} {n : Bool} : evalLS s os = some vs → aop (.eqv n .ptr) vs h = some (v, h) → AV.notJunk v = some v → Nat.blt d N = true → W O T ro N Q .normal (.ins is :: k) ((d, v) :: s) h → Stp O T ro N Q .normal (.ins (⟨some d, (.eqv n .ptr), os, none⟩ :: is) :: k) s h
  | eqvL {k : List KI} {s : Env} {h : AHeap} {d : Nat} {os : List Opd} {is : List AIn} {vs : List AV} {v : AV} {n : Bool} : evalLS s os = some vs → aop (.eqv n .slice) vs h = some (v, h) → AV.notJunk v = some v → Nat.blt d N = true → W O T ro N Q .normal (.ins is :: k) ((d, v) :: s) h → Stp O T ro N Q .normal (.ins (⟨some d, (.eqv n .slice), os, none⟩ :: is) :: k) s h
  | eqvM {k : List KI} {s : Env} {h : AHeap} {d : Nat} {os : List Opd} {is : List AIn} {vs : List AV} {v : AV} {n : Bool} : evalLS s os = some vs → aop (.eqv n .map) vs h = some (v, h) → AV.notJunk v = some v → Nat.blt d N = true → W O T ro N Q .normal (.ins is :: k) ((d, v) :: s) h → Stp O T ro N Q .normal (.ins (⟨some d, (.eqv n .map), os, none⟩ :: is) :: k) s h
  | eqvF {k : List KI} {s : Env} {h : AHeap} {d : Nat} {os : List Opd} {is : List AIn} {vs : List AV} {v : AV} {n : Bool} : evalLS s os = some vs → aop (.eqv n .func) vs h = some (v, h) → AV.notJunk v = some v → Nat.blt d N = true → W O T ro N Q .normal (.ins is :: k) ((d, v) :: s) h → Stp O T ro N Q .normal (.ins (⟨some d, (.eqv n .func), os, none⟩ :: is) :: k) s h
  | eqvA {k : List KI} {s : Env} {h : AHeap} {d : Nat} {os : List Opd} {is : List AIn} {vs : List AV} {v : AV} {n : Bool} {q : List Sc} : evalLS s os = some vs → aop (.eqv n (.flat q)) vs h = some (v, h) → AV.notJunk v = some v → Nat.blt d N = true → W O T ro N Q .normal (.ins is :: k) ((d, v) :: s) h → Stp O T ro N Q .normal (.ins (⟨some d, (.eqv n (.flat q)), os, none⟩ :: is) :: k) s h
  | un {k : List KI} {s : Env} {h : AHeap} {d : Nat} {os : List Opd} {is : List AIn} {vs : List AV} {v : AV} {u : UnOp} : evalLS s os = some vs → aop (.un u) vs h = some (v, h) → AV.notJunk v = some v → Nat.blt d N = true → W O T ro N Q .normal (.ins is :: k) ((d, v) :: s) h → Stp O T ro N Q .normal (.ins (⟨some d, (.un u), os, none⟩ :: is) :: k) s h
  | conv {k : List KI} {s : Env} {h : AHeap} {d : Nat} {os : List Opd} {is : List AIn} {vs : List AV} {v : AV} {q : IntKind} : evalLS s os = some vs → aop (.conv q) vs h = some (v, h) → AV.notJunk v = some v → Nat.blt d N = true → W O T ro N Q .normal (.ins is :: k) ((d, v) :: s) h → Stp O T ro N Q .normal (.ins (⟨some d, (.conv q), os, none⟩ :: is) :: k) s h
  | sl2arr {k : List KI} {s : Env} {h : AHeap} {d : Nat} {os : List Opd} {is : List AIn} {vs : List AV} {v : AV} {n : Nat} : evalLS s os = some vs → aop (.sl2arr n) vs h = some (v, h) → AV.notJunk v = some v → Nat.blt d N = true → W O T ro N Q .normal (.ins is :: k) ((d, v) :: s) h → Stp O T ro N Q .normal (.ins (⟨some d, (.sl2arr n), os, none⟩ :: is) :: k) s h
  | mkfunc {k : List KI} {s : Env} {h : AHeap} {d : Nat} {os : List Opd} {is : List AIn} {vs : List AV} {v : AV} {f n : Nat} : evalLS s os = some vs → aop (.mkfunc f n) vs h = some (v, h) → AV.notJunk v = some v → Nat.blt d N = true → W O T ro N Q .normal (.ins is :: k) ((d, v) :: s) h → Stp O T ro N Q .normal (.ins (⟨some d, (.mkfunc f n), os, none⟩ :: is) :: k) s h
  | slice {k : List KI} {s : Env} {h : AHeap} {d : Nat} {os : List Opd} {is : List AIn} {vs : List AV} {v : AV} {es : Nat} {a b c : Bool} : evalLS s os = some vs → aop (.slice es a b c) vs h = some (v, h) → AV.notJunk v = some v → Nat.blt d N = true → W O T ro N Q .normal (.ins is :: k) ((d, v) :: s) h → Stp O T ro N Q .normal (.ins (⟨some d, (.slice es a b c), os, none⟩ :: is) :: k) s h
  | slicea {k : List KI} {s : Env} {h : AHeap} {d : Nat} {os : List Opd} {is : List AIn} {vs : List AV} {v : AV} {n es : Nat} {a b c : Bool} : evalLS s os = some vs → aop (.slicea n es a b c) vs h = some (v, h) → AV.notJunk v = some v → Nat.blt d N = true → W O T ro N Q .normal (.ins is :: k) ((d, v) :: s) h → Stp O T ro N Q .normal (.ins (⟨some d, (.slicea n es a b c), os, none⟩ :: is) :: k) s h
  | fieldAddr {k : List KI} {s : Env} {h : AHeap} {d : Nat} {os : List Opd} {is : List AIn} {vs : List AV} {v : AV} {n : Nat} : evalLS s os = some vs → aop (.fieldAddr n) vs h = some (v, h) → AV.notJunk v = some v → Nat.blt d N = true → W O T ro N Q .normal (.ins is :: k) ((d, v) :: s) h → Stp O T ro N Q .normal (.ins (⟨some d, (.fieldAddr n), os, none⟩ :: is) :: k) s h
  | field {k : List KI} {s : Env} {h : AHeap} {d : Nat} {os : List Opd} {is : List AIn} {vs : List AV} {v : AV} {a b : Nat} {c : Bool} : evalLS s os = some vs → aop (.field a b c) vs h = some (v, h) → AV.notJunk v = some v → Nat.blt d N = true → W O T ro N Q .normal (.ins is :: k) ((d, v) :: s) h → Stp O T ro N Q .normal (.ins (⟨some d, (.field a b c), os, none⟩ :: is) :: k) s h
  | indexv {k : List KI} {s : Env} {h : AHeap} {d : Nat} {os : List Opd} {is : List AIn} {vs : List AV} {v : AV} {a b : Nat} {c : Bool} : evalLS s os = some vs → aop (.indexv a b c) vs h = some (v, h) → AV.notJunk v = some v → Nat.blt d N = true → W O T ro N Q .normal (.ins is :: k) ((d, v) :: s) h → Stp O T ro N Q .normal (.ins (⟨some d, (.indexv a b c), os, none⟩ :: is) :: k) s h
  | extract {k : List KI} {s : Env} {h : AHeap} {d : Nat} {os : List Opd} {is : List AIn} {vs : List AV} {v : AV} {i : Nat} : evalLS s os = some vs → aop (.extract i) vs h = some (v, h) → AV.notJunk v = some v → Nat.blt d N = true → W O T ro N Q .normal (.ins is :: k) ((d, v) :: s) h → Stp O T ro N Q .normal (.ins (⟨some d, (.extract i), os, none⟩ :: is) :: k) s h
  | lenc {k : List KI} {s : Env} {h : AHeap} {d : Nat} {os : List Opd} {is : List AIn} {vs : List AV} {v : AV} {n : Nat} : evalLS s os = some vs → aop (.lenc n) vs h = some (v, h) → AV.notJunk v = some v → Nat.blt d N = true → W O T ro N Q .normal (.ins is :: k) ((d, v) :: s) h → Stp O T ro N Q .normal (.ins (⟨some d, (.lenc n), os, none⟩ :: is) :: k) s h
  | cap {k : List KI} {s : Env} {h : AHeap} {d : Nat} {os : List Opd} {is : List AIn} {vs : List AV} {v : AV} : evalLS s os = some vs → aop .cap vs h = some (v, h) → AV.notJunk v = some v → Nat.blt d N = true → W O T ro N Q .normal (.ins is :: k) ((d, v) :: s) h → Stp O T ro N Q .normal (.ins (⟨some d, .cap, os, none⟩ :: is) :: k) s h
  | lenstr {k : List KI} {s : Env} {h : AHeap} {d : Nat} {os : List Opd} {is : List AIn} {vs : List AV} {v : AV} : evalLS s os = some vs → aop .lenstr vs h = some (v, h) → AV.notJunk v = some v → Nat.blt d N = true → W O T ro N Q .normal (.ins is :: k) ((d, v) :: s) h → Stp O T ro N Q .normal (.ins (⟨some d, .lenstr, os, none⟩ :: is) :: k) s h
  | min {k : List KI} {s : Env} {h : AHeap} {d : Nat} {os : List Opd} {is : List AIn} {vs : List AV} {v : AV} : evalLS s os = some vs → aop .min vs h = some (v, h) → AV.notJunk v = some v → Nat.blt d N = true → W O T ro N Q .normal (.ins is :: k) ((d, v) :: s) h → Stp O T ro N Q .normal (.ins (⟨some d, .min, os, none⟩ :: is) :: k) s h
  | max {k : List KI} {s : Env} {h : AHeap} {d : Nat} {os : List Opd} {is : List AIn} {vs : List AV} {v : AV} : evalLS s os = some vs → aop .max vs h = some (v, h) → AV.notJunk v = some v → Nat.blt d N = true → W O T ro N Q .normal (.ins is :: k) ((d, v) :: s) h → Stp O T ro N Q .normal (.ins (⟨some d, .max, os, none⟩ :: is) :: k) s h
  | build {k : List KI} {s : Env} {h : AHeap} {d : Nat} {os : List Opd} {is : List AIn} {vs : List AV} {v : AV} {z : AV} {ps : List (Nat × Nat)} : evalLS s os = some vs → aop (.build z ps) vs h = some (v, h) → AV.notJunk v = some v → Nat.blt d N = true → W O T ro N Q .normal (.ins is :: k) ((d, v) :: s) h → Stp O T ro N Q .normal (.ins (⟨some d, (.build z ps), os, none⟩ :: is) :: k) s h
  | lss {k : List KI} {s : Env} {h : AHeap} {d : Nat} {os : List Opd} {is : List AIn} {vs : List AV} {v : AV} : evalLS s os = some vs → aop (.bin .lss) vs h = some (v, h) → AV.notJunk v = some v → Nat.blt d N = true → W O T ro N Q .normal (.ins is :: k) ((d, v) :: s) h → Stp O T ro N Q .normal (.ins (⟨some d, (.bin .lss), os, none⟩ :: is) :: k) s h
  | leq {k : List KI} {s : Env} {h : AHeap} {d : Nat} {os : List Opd} {is : List AIn} {vs : List AV} {v : AV} : evalLS s os = some vs → aop (.bin .leq) vs h = some (v, h) → AV.notJunk v = some v → Nat.blt d N = true → W O T ro N Q .normal (.ins is :: k) ((d, v) :: s) h → Stp O T ro N Q .normal (.ins (⟨some d, (.bin .leq), os, none⟩ :: is) :: k) s h
  | gtr {k : List KI} {s : Env} {h : AHeap} {d : Nat} {os : List Opd} {is : List AIn} {vs : List AV} {v : AV} : evalLS s os = some vs → aop (.bin .gtr) vs h = some (v, h) → AV.notJunk v = some v → Nat.blt d N = true → W O T ro N Q .normal (.ins is :: k) ((d, v) :: s) h → Stp O T ro N Q .normal (.ins (⟨some d, (.bin .gtr), os, none⟩ :: is) :: k) s h
  | geq {k : List KI} {s : Env} {h : AHeap} {d : Nat} {os : List Opd} {is : List AIn} {vs : List AV} {v : AV} : evalLS s os = some vs → aop (.bin .geq) vs h = some (v, h) → AV.notJunk v = some v → Nat.blt d N = true → W O T ro N Q .normal (.ins is :: k) ((d, v) :: s) h → Stp O T ro N Q .normal (.ins (⟨some d, (.bin .geq), os, none⟩ :: is) :: k) s h
  | eql {k : List KI} {s : Env} {h : AHeap} {d : Nat} {os : List Opd} {is : List AIn} {vs : List AV} {v : AV} : evalLS s os = some vs → aop (.bin .eql) vs h = some (v, h) → AV.notJunk v = some v → Nat.blt d N = true → W O T ro N Q .normal (.ins is :: k) ((d, v) :: s) h → Stp O T ro N Q .normal (.ins (⟨some d, (.bin .eql), os, none⟩ :: is) :: k) s h
  | neq {k : List KI} {s : Env} {h : AHeap} {d : Nat} {os : List Opd} {is : List AIn} {vs : List AV} {v : AV} : evalLS s os = some vs → aop (.bin .neq) vs h = some (v, h) → AV.notJunk v = some v → Nat.blt d N = true → W O T ro N Q .normal (.ins is :: k) ((d, v) :: s) h → Stp O T ro N Q .normal (.ins (⟨some d, (.bin .neq), os, none⟩ :: is) :: k) s h
  | mul {k : List KI} {s : Env} {h : AHeap} {d : Nat} {os : List Opd} {is : List AIn} {vs : List AV} {v : AV} : evalLS s os = some vs → aop (.bin .mul) vs h = some (v, h) → AV.notJunk v = some v → Nat.blt d N = true → W O T ro N Q .normal (.ins is :: k) ((d, v) :: s) h → Stp O T ro N Q .normal (.ins (⟨some d, (.bin .mul), os, none⟩ :: is) :: k) s h
  | quo {k : List KI} {s : Env} {h : AHeap} {d : Nat} {os : List Opd} {is : List AIn} {vs : List AV} {v : AV} : evalLS s os = some vs → aop (.bin .quo) vs h = some (v, h) → AV.notJunk v = some v → Nat.blt d N = true → W O T ro N Q .normal (.ins is :: k) ((d, v) :: s) h → Stp O T ro N Q .normal (.ins (⟨some d, (.bin .quo), os, none⟩ :: is) :: k) s h
  | rem {k : List KI} {s : Env} {h : AHeap} {d : Nat} {os : List Opd} {is : List AIn} {vs : List AV} {v : AV} : evalLS s os = some vs → aop (.bin .rem) vs h = some (v, h) → AV.notJunk v = some v → Nat.blt d N = true → W O T ro N Q .normal (.ins is :: k) ((d, v) :: s) h → Stp O T ro N Q .normal (.ins (⟨some d, (.bin .rem), os, none⟩ :: is) :: k) s h
  | band {k : List KI} {s : Env} {h : AHeap} {d : Nat} {os : List Opd} {is : List AIn} {vs : List AV} {v : AV} : evalLS s os = some vs → aop (.bin .and) vs h = some (v, h) → AV.notJunk v = some v → Nat.blt d N = true → W O T ro N Q .normal (.ins is :: k) ((d, v) :: s) h → Stp O T ro N Q .normal (.ins (⟨some d, (.bin .and), os, none⟩ :: is) :: k) s h
  | bor {k : List KI} {s : Env} {h : AHeap} {d : Nat} {os : List Opd} {is : List AIn} {vs : List AV} {v : AV} : evalLS s os = some vs → aop (.bin .or) vs h = some (v, h) → AV.notJunk v = some v → Nat.blt d N = true → W O T ro N Q .normal (.ins is :: k) ((d, v) :: s) h → Stp O T ro N Q .normal (.ins (⟨some d, (.bin .or), os, none⟩ :: is) :: k) s h
  | shl {k : List KI} {s : Env} {h : AHeap} {d : Nat} {os : List Opd} {is : List AIn} {vs : List AV} {v : AV} : evalLS s os = some vs → aop (.bin .shl) vs h = some (v, h) → AV.notJunk v = some v → Nat.blt d N = true → W O T ro N Q .normal (.ins is :: k) ((d, v) :: s) h → Stp O T ro N Q .normal (.ins (⟨some d, (.bin .shl), os, none⟩ :: is) :: k) s h
  | shr {k : List KI} {s : Env} {h : AHeap} {d : Nat} {os : List Opd} {is : List AIn} {vs : List AV} {v : AV} : evalLS s os = some vs → aop (.bin .shr) vs h = some (v, h) → AV.notJunk v = some v → Nat.blt d N = true → W O T ro N Q .normal (.ins is :: k) ((d, v) :: s) h → Stp O T ro N Q .normal (.ins (⟨some d, (.bin .shr), os, none⟩ :: is) :: k) s h
  | bandn {k : List KI} {s : Env} {h : AHeap} {d : Nat} {os : List Opd} {is : List AIn} {vs : List AV} {v : AV} : evalLS s os = some vs → aop (.bin .andNot) vs h = some (v, h) → AV.notJunk v = some v → Nat.blt d N = true → W O T ro N Q .normal (.ins is :: k) ((d, v) :: s) h → Stp O T ro N Q .normal (.ins (⟨some d, (.bin .andNot), os, none⟩ :: is) :: k) s h
  | alloc {k : List KI} {s : Env} {h : AHeap} {d : Nat} {os : List Opd} {is : List AIn} {L : List Chunk} {e es : Nat} {z : Dat} : evalLS s os = some [] → St h L → z.len = es → Nat.blt 0 es = true → Nat.blt d N = true → (∀ p h', St h' (.pt p (.row e es false false z) :: L) → W O T ro N Q .normal (.ins is :: k) ((d, .ptr p 0) :: s) h') → Stp O T ro N Q .normal (.ins (⟨some d, (.alloc e es z), os, none⟩ :: is) :: k) s h
  | box {k : List KI} {s : Env} {h : AHeap} {d : Nat} {os : List Opd} {is : List AIn} {L : List Chunk} {e es : Nat} {v : AV} : evalLS s os = some [v] → St h L → v.dat.len = es → Nat.blt 0 es = true → Nat.blt d N = true → (∀ p h', St h' (.pt p (.row e es false false v.dat) :: L) → W O T ro N Q .normal (.ins is :: k) ((d, .ptr p 0) :: s) h') → Stp O T ro N Q .normal (.ins (⟨some d, (.box e es), os, none⟩ :: is) :: k) s h
  | bslice {k : List KI} {s : Env} {h : AHeap} {d : Nat} {os : List Opd} {is : List AIn} {L : List Chunk} {e es len : Nat} {z dd : Dat} {parts : List Nat} {args : List AV} : evalLS s os = some args → St h L → fills (parts.map fun i => (i * es, es)) args (z.rep len) = some dd → dd.len = len * es → Nat.blt 0 es = true → Nat.blt d N = true → (∀ p h', St h' (.pt p (.row e es false false dd) :: L) → W O T ro N Q .normal (.ins is :: k) ((d, .sl p 0 len len) :: s) h') → Stp O T ro N Q .normal (.ins (⟨some d, (.bslice e es len z parts), os, none⟩ :: is) :: k) s h
  | store {k : List KI} {s : Env} {h : AHeap} {os : List Opd} {is : List AIn} {L R : List Chunk} {id off e es n : Nat} {soft : Bool} {D D' : Dat} {v : AV} : evalLS s os = some [.ptr id off, v] → St h L → Take L (.pt id (.row e es soft false D)) R → v.dat.len = n → Nat.blt 0 n = true → D.put off v.dat = some D' → (∀ (_ : Unit) h', St h' (.pt id (.row e es soft false D') :: R) → W O T ro N Q .normal (.ins is :: k) s h') → Stp O T ro N Q .normal (.ins (⟨none, .store n, os, none⟩ :: is) :: k) s h
  | skip0 {k : List KI} {s : Env} {h : AHeap} {os : List Opd} {is : List AIn} {v : AV} : evalLS s os = some [v] → W O T ro N Q .normal (.ins is :: k) s h → Stp O T ro N Q .normal (.ins (⟨none, .mv, os, none⟩ :: is) :: k) s h
section
variable {O : Nat → Option FSpec} {T : BT} {ro : Option Nat} {N : Nat} {Q : AExit → Env → AHeap → Prop} {x : AExit} {k : List KI} {s : Env} {h : AHeap} {L R : List Chunk}
theorem W.of (p : Stp O T ro N Q x k s h) : W O T ro N Q x k s h := by
  cases p with
  | done q => exact ⟨fun e hl hc => ⟨_, hl, hc, q⟩⟩
  | seq w => exact ⟨fun e hl hc => by
      refine execW_mono (fun _ _ _ _ x => x) progI_mono (fun y e h q => ?_) (w.run e hl hc)
      cases y <;> exact q⟩
  | region w => exact ⟨fun e hl hc => w.run e hl hc⟩
  | draw1 w => exact ⟨fun e hl hc ds hd => by rw [List.mem_singleton.1 hd]; exact runDrawW_mono (fun _ _ _ _ x => x) progI_mono (fun _ _ q => ⟨_, _, Ren.refl _ _ _, q⟩) (w.run e hl hc)⟩
  | block w => exact ⟨fun e hl hc => by
      refine execW_mono (fun _ _ _ _ x => x) progI_mono (fun y e h q => ?_) (w.run e hl hc)
      cases y <;> exact q⟩
  | blk w => exact ⟨fun e hl hc => w.run e hl hc⟩
  | cond ho w => exact ⟨fun e hl hc => by
      have := w.run e hl hc
      simp only [postK, execW, hc.eval ho] at this ⊢
      rename_i q _ _
      cases q <;> exact this⟩
  | skip w => exact ⟨fun e hl hc => w.run e hl hc⟩
  | ret w => exact ⟨fun e hl hc => w.run e hl hc⟩
  | exit w => exact ⟨fun e hl hc => w.run e hl hc⟩
  | rcode w => exact ⟨fun e hl hc => w.run e hl hc⟩
  | rblk w => exact ⟨fun e hl hc => w.run e hl hc⟩
  | rlp w => exact ⟨fun e hl hc => w.run e hl hc⟩
  | xcode w => exact ⟨fun e hl hc => w.run e hl hc⟩
  | xblk w => exact ⟨fun e hl hc => by
      have := w.run e hl hc
      simp only [postK]
      rename_i i id
      cases hb : Nat.beq i id with
      | true => rw [hb] at this; rw [if_pos (Nat.eq_of_beq_eq_true hb)]; exact this
      | false => rw [hb] at this; rw [if_neg (Nat.ne_of_beq_eq_false hb)]; exact this⟩
  | xlp w => exact ⟨fun e hl hc => w.run e hl hc⟩
  | lp j => exact ⟨fun e hl hc => ⟨_, hl, hc, j⟩⟩
  | inil w => exact ⟨fun e hl hc => w.run e hl hc⟩
  | dnil w => exact ⟨fun e hl hc => w.run e hl hc⟩
  | dcons w => exact ⟨fun e hl hc => w.run e hl hc⟩
  | ag a w => exact ⟨fun e hl hc => ⟨again_ok hc a.ok, w.run e hl hc⟩⟩
  | guard hw w => exact ⟨fun e hl hc => by
      have := w.run e hl hc
      simp only [postK, runInsW, runInW, hc.want hw] at this ⊢
      rename_i b _
      cases b with
      | true => exact this
      | false => simpa only [cond_false, wantedA, evalL, Opd.eval, doOpW, aop] using this⟩
  | mv ha  hj hd w => exact W.dop ha (⟨rfl, rfl⟩) hj hd w
  | load1 ha p0 p1 p2 hj hd w => exact W.dop ha (d_load1 (p0.get' p1) p2) hj hd w
  | loadn ha p0 p1 p2 hj hd w => exact W.dop ha (d_loadn (p0.get' p1) p2) hj hd w
  | pick ha p0 hj hd w => exact W.dop ha (⟨rfl, by obtain ⟨rfl⟩ := p0; cases ‹Bool› <;> rfl⟩) hj hd w
  | lens ha p0 hj hd w => exact W.dop ha (d_lens p0) hj hd w
  | add ha p0 p1 hj hd w => exact W.dop ha (d_add p0 p1) hj hd w
  | sub ha p0 p1 hj hd w => exact W.dop ha (d_sub p0 p1) hj hd w
  | indexa ha p0 p1 hj hd w => exact W.dop ha (d_indexa p0 p1) hj hd w
  | nilCheck ha p0 hj hd w => exact W.dop ha (⟨rfl, p0⟩) hj hd w
  | eqvS ha p0 hj hd w => exact W.dop ha (⟨rfl, p0⟩) hj hd w
  | eqvP ha p0 hj hd w => exact W.dop ha (⟨rfl, p0⟩) hj hd w
  | eqvL ha p0 hj hd w => exact W.dop ha (⟨rfl, p0⟩) hj hd w
  | eqvM ha p0 hj hd w => exact W.dop ha (⟨rfl, p0⟩) hj hd w
  | eqvF ha p0 hj hd w => exact W.dop ha (⟨rfl, p0⟩) hj hd w
  | eqvA ha p0 hj hd w => exact W.dop ha (⟨rfl, p0⟩) hj hd w
  | un ha p0 hj hd w => exact W.dop ha (⟨rfl, p0⟩) hj hd w
  | conv ha p0 hj hd w => exact W.dop ha (⟨rfl, p0⟩) hj hd w
  | sl2arr ha p0 hj hd w => exact W.dop ha (⟨rfl, p0⟩) hj hd w
  | mkfunc ha p0 hj hd w => exact W.dop ha (⟨rfl, p0⟩) hj hd w
  | slice ha p0 hj hd w => exact W.dop ha (⟨rfl, p0⟩) hj hd w
  | slicea ha p0 hj hd w => exact W.dop ha (⟨rfl, p0⟩) hj hd w
  | fieldAddr ha p0 hj hd w => exact W.dop ha (⟨rfl, p0⟩) hj hd w
  | field ha p0 hj hd w => exact W.dop ha (⟨rfl, p0⟩) hj hd w
  | indexv ha p0 hj hd w => exact W.dop ha (⟨rfl, p0⟩) hj hd w
  | extract ha p0 hj hd w => exact W.dop ha (⟨rfl, p0⟩) hj hd w
  | lenc ha p0 hj hd w => exact W.dop ha (⟨rfl, p0⟩) hj hd w
  | cap ha p0 hj hd w => exact W.dop ha (⟨rfl, p0⟩) hj hd w
  | lenstr ha p0 hj hd w => exact W.dop ha (⟨rfl, p0⟩) hj hd w
  | min ha p0 hj hd w => exact W.dop ha (⟨rfl, p0⟩) hj hd w
  | max ha p0 hj hd w => exact W.dop ha (⟨rfl, p0⟩) hj hd w
  | build ha p0 hj hd w => exact W.dop ha (⟨rfl, p0⟩) hj hd w
  | lss ha p0 hj hd w => exact W.dop ha (⟨rfl, p0⟩) hj hd w
  | leq ha p0 hj hd w => exact W.dop ha (⟨rfl, p0⟩) hj hd w
  | gtr ha p0 hj hd w => exact W.dop ha (⟨rfl, p0⟩) hj hd w
  | geq ha p0 hj hd w => exact W.dop ha (⟨rfl, p0⟩) hj hd w
  | eql ha p0 hj hd w => exact W.dop ha (⟨rfl, p0⟩) hj hd w
  | neq ha p0 hj hd w => exact W.dop ha (⟨rfl, p0⟩) hj hd w
  | mul ha p0 hj hd w => exact W.dop ha (⟨rfl, p0⟩) hj hd w
  | quo ha p0 hj hd w => exact W.dop ha (⟨rfl, p0⟩) hj hd w
  | rem ha p0 hj hd w => exact W.dop ha (⟨rfl, p0⟩) hj hd w
  | band ha p0 hj hd w => exact W.dop ha (⟨rfl, p0⟩) hj hd w
  | bor ha p0 hj hd w => exact W.dop ha (⟨rfl, p0⟩) hj hd w
  | shl ha p0 hj hd w => exact W.dop ha (⟨rfl, p0⟩) hj hd w
  | shr ha p0 hj hd w => exact W.dop ha (⟨rfl, p0⟩) hj hd w
  | bandn ha p0 hj hd w => exact W.dop ha (⟨rfl, p0⟩) hj hd w
  | alloc ha st p0 p1 hd w => exact W.eff (e_alloc st p0 p1) ha hd fun _ h' ⟨p, e, st'⟩ => by subst e; exact ⟨rfl, w p h' st'⟩
  | box ha st p0 p1 hd w => exact W.eff (e_box st p0 p1) ha hd fun _ h' ⟨p, e, st'⟩ => by subst e; exact ⟨rfl, w p h' st'⟩
  | bslice ha st p0 p1 p2 hd w => exact W.eff (e_bslice st p0 p1 p2) ha hd fun _ h' ⟨p, e, st'⟩ => by subst e; exact ⟨rfl, w p h' st'⟩
  | store ha st t h1 h2 h3 w => exact W.eff0 (e_store st t h1 h2 h3) ha fun _ h' ⟨_, st'⟩ => w () h' st'
  | skip0 ha w => exact W.eff0 (K := fun _ h' => h' = h) ⟨by simp only [doOpW, aop]⟩ ha fun _ h' e => by subst e; exact w
theorem be_t {q : Bool} (h : q = true) : (q == true) = true := by subst h; rfl
theorem be_f {q : Bool} (h : q = false) : (q == true) = false := by subst h; rfl
theorem bo_t {q : Bool} (h : q = false) : (q == false) = true := by subst h; rfl
theorem bo_f {q : Bool} (h : q = true) : (q == false) = false := by subst h; rfl
theorem W.ct {q : Bool} {a b : ACode} (w : W O T ro N Q .normal (.code a :: k) s h) (hq : q = true := by first | assumption | exact d_t (by omega) | exact q_t (by omega) | exact nq_t (by omega) | exact nd_t (by omega)) : W O T ro N Q .normal (.code (bif q then a else b) :: k) s h := by subst hq; exact w
theorem W.cf {q : Bool} {a b : ACode} (w : W O T ro N Q .normal (.code b :: k) s h) (hq : q = false := by first | assumption | exact d_f (by omega) | exact q_f (by omega) | exact nq_f (by omega) | exact nd_f (by omega)) : W O T ro N Q .normal (.code (bif q then a else b) :: k) s h := by subst hq; exact w
theorem W.gt {q : Bool} {a b : AIn} {is : List AIn} (w : W O T ro N Q .normal (.ins (a :: is) :: k) s h) (hq : q = true := by first | exact be_t (by first | assumption | exact d_t (by omega) | exact q_t (by omega) | exact nq_t (by omega) | exact nd_t (by omega)) | exact bo_t (by first | assumption | exact d_f (by omega) | exact q_f (by omega) | exact nq_f (by omega) | exact nd_f (by omega))) : W O T ro N Q .normal (.ins ((bif q then a else b) :: is) :: k) s h := by subst hq; exact w
theorem W.gf {q : Bool} {a b : AIn} {is : List AIn} (w : W O T ro N Q .normal (.ins (b :: is) :: k) s h) (hq : q = false := by first | exact be_f (by first | assumption | exact d_f (by omega) | exact q_f (by omega) | exact nq_f (by omega) | exact nd_f (by omega)) | exact bo_f (by first | assumption | exact d_t (by omega) | exact q_t (by omega) | exact nq_t (by omega) | exact nd_t (by omega))) : W O T ro N Q .normal (.ins ((bif q then a else b) :: is) :: k) s h := by subst hq; exact w
theorem W.call {d f : Nat} {os : List Opd} {is : List AIn} {first captured rest args : List AV} {Ps : List Chunk} {post : AV → List Chunk → Prop} (ha : evalLS s os = some (.func f first captured :: rest) := by rfl) (hx : first ++ rest ++ captured = args := by rfl) (hs : Spec (progI O T) (.f f) args Ps post)
    (st : St h L := by assumption) (hp : Pick L Ps R := by repeat (first | exact Take.here | exact Pick.nil | apply Pick.cons | apply Take.there)) (hd : Nat.blt d N = true := by rfl) (w : ∀ v Rs, post v Rs → ∀ h', St h' (Rs ++ R) → v.notJunk = some v ∧ W O T ro N Q .normal (.ins is :: k) ((d, v) :: s) h') : W O T ro N Q .normal (.ins (⟨some d, .callv, os, none⟩ :: is) :: k) s h :=
  W.eff (e_call progI_mono hs hx st hp) ha hd fun v h' ⟨Rs, y, z⟩ => w v Rs y h' z
theorem W.ef {d : Nat} {op : AOp} {os : List Opd} {is : List AIn} {vs : List AV} {K : AV → AHeap → Prop} (ha : evalLS s os = some vs := by rfl) (ho : Eff (progI O T) op vs h K) (hd : Nat.blt d N = true := by rfl) (w : ∀ v h', K v h' → v.notJunk = some v ∧ W O T ro N Q .normal (.ins is :: k) ((d, v) :: s) h') :
    W O T ro N Q .normal (.ins (⟨some d, op, os, none⟩ :: is) :: k) s h := W.eff ho ha hd w
theorem W.do {d : Nat} {op : AOp} {os : List Opd} {is : List AIn} {vs : List AV} {v : AV} (ha : evalLS s os = some vs := by rfl) (ho : Does op vs h v h) (hj : v.notJunk = some v := by first | rfl | assumption) (hd : Nat.blt d N = true := by rfl) (w : W O T ro N Q .normal (.ins is :: k) ((d, v) :: s) h) :
    W O T ro N Q .normal (.ins (⟨some d, op, os, none⟩ :: is) :: k) s h := W.dop ha ho hj hd w
theorem nj {v : AV} {A : Prop} (k : A) (hj : v.notJunk = some v := by first | rfl | assumption) : v.notJunk = some v ∧ A := ⟨hj, k⟩
theorem W.sub {s' : Env} (hs : Sub s' s) (w : W O T ro N Q x k s' h) : W O T ro N Q x k s h := ⟨fun e hl hc => w.run e hl (hc.sub hs)⟩
theorem W.loop {σ : Type} {b : ACode} (E : σ → Env) (G : σ → List Chunk) (φ : σ → Prop) (m : σ → Nat) (x0 : σ) (hm : m x0 < rounds) (hs : Sub (E x0) s) (st : St h (G x0)) (h0 : φ x0)
    (hb : ∀ y h, φ y → St h (G y) → W O T ro N Q .normal (.code b :: .lp (fun s' h' => ∃ z, m z < m y ∧ φ z ∧ Sub (E z) s' ∧ St h' (G z)) :: k) (E y) h) : W O T ro N Q .normal (.code (.loop b) :: k) s h := by
  have key : ∀ (n : Nat) (y : σ) (h : AHeap), m y < n → φ y → St h (G y) → ∀ e, e.length = N → Cov (E y) e → iterW (execW (progI O T) ro b) n e h (postK (progI O T) ro N k fun x e h => ∃ s', e.length = N ∧ Cov s' e ∧ Q x s' h) := by
    intro n
    induction n with
    | zero => intro y h hy; omega
    | succ n ih =>
      intro y h hy hφ st e hl hc
      refine execW_mono (fun _ _ _ _ x => x) progI_mono (fun z e' h' q => ?_) ((hb y h hφ st).run e hl hc)
      cases z with
      | normal =>
        obtain ⟨s', p1, p2, z, hz, hφ', hsub, st'⟩ := q
        exact ⟨h', fun _ => Less.refl h', ih z h' (by omega) hφ' st' e' p1 (p2.sub hsub)⟩
      | exit i => exact q
      | ret => exact q
  exact ⟨fun e hl hc => key rounds x0 h hm h0 st e hl (hc.sub hs)⟩
end
end Go.Proofs.YtlkfclgkinaibaaGreat

namespace Go.Proofs.YtlkfclgkinaibaaGreat
noncomputable def sel {α : Type} (b : Bool) (t e : α) : α := Bool.rec (motive := fun _ => α) e t b
theorem sel_true {α : Type} {t e : α} : sel true t e = t := rfl
theorem sel_false {α : Type} {t e : α} : sel false t e = e := rfl
theorem sel_eq {α : Type} {b : Bool} {t e : α} : sel b t e = if b = true then t else e := by cases b <;> rfl
noncomputable def trGet (v : Option AObj) (gl gr : Nat → Option AObj) (n : Nat) : Option AObj := sel (Nat.beq n 0) v (sel (Nat.beq (Nat.mod n 2) 1) (gl (Nat.div n 2)) (gr (Nat.sub (Nat.div n 2) 1)))
noncomputable def Tr.getK (t : Tr) : Nat → Option AObj := Tr.rec (motive := fun _ => Nat → Option AObj) (fun _ => none) (fun _ v _ gl gr => trGet v gl gr) t
theorem beqD {a b : Nat} : Nat.beq a b = decide (a = b) := by
  cases h : Nat.beq a b with
  | true => rw [Nat.eq_of_beq_eq_true h]; simp
  | false => have := Nat.ne_of_beq_eq_false h; simp [this]
theorem Tr.getK_eq : ∀ (t : Tr) (n : Nat), t.getK n = t.get n
  | .leaf, _ => rfl
  | .node l v r, n => by
    show trGet v l.getK r.getK n = _
    simp only [trGet, Tr.get, sel_eq, beqD, decide_eq_true_eq, Tr.getK_eq l, Tr.getK_eq r]
    rfl
noncomputable def trPut0 (p : Tr → Nat → Option AObj → Tr) (n : Nat) (o : Option AObj) : Tr := sel (Nat.beq n 0) (.node .leaf o .leaf) (sel (Nat.beq (Nat.mod n 2) 1) (.node (p .leaf (Nat.div n 2) o) none .leaf) (.node .leaf none (p .leaf (Nat.sub (Nat.div n 2) 1) o)))
noncomputable def trPut1 (p : Tr → Nat → Option AObj → Tr) (l : Tr) (v : Option AObj) (r : Tr) (n : Nat) (o : Option AObj) : Tr := sel (Nat.beq n 0) (.node l o r) (sel (Nat.beq (Nat.mod n 2) 1) (.node (p l (Nat.div n 2) o) v r) (.node l v (p r (Nat.sub (Nat.div n 2) 1) o)))
noncomputable def trPut (p : Tr → Nat → Option AObj → Tr) (t : Tr) : Nat → Option AObj → Tr := Tr.rec (motive := fun _ => Nat → Option AObj → Tr) (trPut0 p) (fun l v r _ _ => trPut1 p l v r) t
noncomputable def Tr.putK (f : Nat) : Tr → Nat → Option AObj → Tr := Nat.rec (motive := fun _ => Tr → Nat → Option AObj → Tr) (fun t _ _ => t) (fun _ p => trPut p) f
theorem Tr.putK_eq : ∀ (f : Nat) (t : Tr) (n : Nat) (o : Option AObj), Tr.putK f t n o = Tr.put f t n o
  | 0, _, _, _ => rfl
  | f + 1, .leaf, n, o => by
    show trPut0 (Tr.putK f) n o = _
    simp only [trPut0, Tr.put, sel_eq, beqD, decide_eq_true_eq, Tr.putK_eq f]
    rfl
  | f + 1, .node l v r, n, o => by
    show trPut1 (Tr.putK f) l v r n o = _
    simp only [trPut1, Tr.put, sel_eq, beqD, decide_eq_true_eq, Tr.putK_eq f]
    rfl
inductive Pth where
  | z
  | l (p : Pth)
  | r (p : Pth)
noncomputable def pthF (f : Nat) : Nat → Pth := Nat.rec (motive := fun _ => Nat → Pth) (fun _ => .z) (fun _ ih n => sel (Nat.beq n 0) .z (sel (Nat.beq (Nat.mod n 2) 1) (.l (ih (Nat.div n 2))) (.r (ih (Nat.sub (Nat.div n 2) 1))))) f
noncomputable def pth (n : Nat) : Pth := pthF (Nat.succ n) n
noncomputable def Tr.vl (t : Tr) : Option AObj := Tr.rec (motive := fun _ => Option AObj) none (fun _ v _ _ _ => v) t
noncomputable def Tr.lt (t : Tr) : Tr := Tr.rec (motive := fun _ => Tr) .leaf (fun l _ _ _ _ => l) t
noncomputable def Tr.rt (t : Tr) : Tr := Tr.rec (motive := fun _ => Tr) .leaf (fun _ _ r _ _ => r) t
noncomputable def getT (p : Pth) : Tr → Option AObj := Pth.rec (motive := fun _ => Tr → Option AObj) Tr.vl (fun _ ih t => ih (Tr.lt t)) (fun _ ih t => ih (Tr.rt t)) p
noncomputable def putTZ (o : Option AObj) (t : Tr) : Tr := Tr.rec (motive := fun _ => Tr) (.node .leaf o .leaf) (fun l _ r _ _ => .node l o r) t
noncomputable def putTL (ih : Option AObj → Tr → Tr) (o : Option AObj) (t : Tr) : Tr := Tr.rec (motive := fun _ => Tr) (.node (ih o .leaf) none .leaf) (fun l v r _ _ => .node (ih o l) v r) t
noncomputable def putTR (ih : Option AObj → Tr → Tr) (o : Option AObj) (t : Tr) : Tr := Tr.rec (motive := fun _ => Tr) (.node .leaf none (ih o .leaf)) (fun l v r _ _ => .node l v (ih o r)) t
noncomputable def putT (p : Pth) : Option AObj → Tr → Tr := Pth.rec (motive := fun _ => Option AObj → Tr → Tr) putTZ (fun _ ih => putTL ih) (fun _ ih => putTR ih) p
theorem getT_leaf : ∀ (p : Pth), getT p .leaf = none
  | .z => rfl
  | .l p => getT_leaf p
  | .r p => getT_leaf p
theorem getT_eq : ∀ (f n : Nat) (t : Tr), n < f → getT (pthF f n) t = t.get n
  | 0, n, t, h => by omega
  | f + 1, n, .leaf, h => by rw [getT_leaf]; rfl
  | f + 1, n, .node l v r, h => by
    show getT (sel (Nat.beq n 0) .z (sel (Nat.beq (n % 2) 1) (.l (pthF f (n / 2))) (.r (pthF f (n / 2 - 1))))) _ = _
    simp only [sel_eq, beqD, decide_eq_true_eq, Tr.get]
    split
    · rfl
    · split
      · exact getT_eq f _ l (by omega)
      · exact getT_eq f _ r (by omega)
theorem putT_eq {o : Option AObj} : ∀ (f g n : Nat) (t : Tr), n < f → n < g → putT (pthF f n) o t = Tr.put g t n o
  | 0, _, n, t, h, _ => by omega
  | _, 0, n, t, _, h => by omega
  | f + 1, g + 1, n, .leaf, h, h2 => by
    show putT (sel (Nat.beq n 0) .z (sel (Nat.beq (n % 2) 1) (.l (pthF f (n / 2))) (.r (pthF f (n / 2 - 1))))) _ _ = _
    simp only [sel_eq, beqD, decide_eq_true_eq, Tr.put]
    split
    · rfl
    · split
      · show Tr.node (putT (pthF f (n / 2)) o .leaf) none .leaf = _
        rw [putT_eq f g _ .leaf (by omega) (by omega)]
      · show Tr.node .leaf none (putT (pthF f (n / 2 - 1)) o .leaf) = _
        rw [putT_eq f g _ .leaf (by omega) (by omega)]
  | f + 1, g + 1, n, .node l v r, h, h2 => by
    show putT (sel (Nat.beq n 0) .z (sel (Nat.beq (n % 2) 1) (.l (pthF f (n / 2))) (.r (pthF f (n / 2 - 1))))) _ _ = _
    simp only [sel_eq, beqD, decide_eq_true_eq, Tr.put]
    split
    · rfl
    · split
      · show Tr.node (putT (pthF f (n / 2)) o l) v r = _
        rw [putT_eq f g _ l (by omega) (by omega)]
      · show Tr.node l v (putT (pthF f (n / 2 - 1)) o r) = _
        rw [putT_eq f g _ r (by omega) (by omega)]
noncomputable def AHeap.getK (h : AHeap) (id : Nat) : Option AObj := getT (pth id) h.objs
theorem AHeap.getK_eq : AHeap.getK = AHeap.get := funext fun _ => funext fun _ => getT_eq _ _ _ (Nat.lt_succ_self _)
noncomputable def AHeap.putK (h : AHeap) (id : Nat) (o : AObj) : AHeap := ⟨h.next, putT (pth id) (some o) h.objs⟩
theorem AHeap.putK_eq : AHeap.putK = AHeap.put := funext fun h => funext fun id => funext fun o => by
  show AHeap.mk _ _ = AHeap.mk _ _
  rw [pth, putT_eq _ (id + 2) _ _ (Nat.lt_succ_self _) (by omega)]
noncomputable def AHeap.killK (h : AHeap) (id : Nat) : AHeap := ⟨h.next, putT (pth id) none h.objs⟩
theorem AHeap.killK_eq : AHeap.killK = AHeap.kill := funext fun h => funext fun id => by
  show AHeap.mk _ _ = AHeap.mk _ _
  rw [pth, putT_eq _ (id + 2) _ _ (Nat.lt_succ_self _) (by omega)]
noncomputable def AHeap.newK (h : AHeap) (o : AObj) : AHeap := ⟨Nat.succ h.next, putT (pth h.next) (some o) h.objs⟩
theorem AHeap.newK_eq : AHeap.newK = AHeap.new := funext fun h => funext fun o => by
  show AHeap.mk _ _ = AHeap.mk _ _
  rw [pth, putT_eq _ (h.next + 2) _ _ (Nat.lt_succ_self _) (by omega)]
noncomputable def nthK (l : List AV) : Nat → Option AV := List.rec (motive := fun _ => Nat → Option AV) (fun _ => none) (fun a _ ih n => Nat.rec (motive := fun _ => Option AV) (some a) (fun m _ => ih m) n) l
theorem nthK_eq : ∀ (l : List AV) (n : Nat), nthK l n = l[n]?
  | [], _ => by simp [nthK]
  | a :: l, 0 => rfl
  | a :: l, n + 1 => by rw [List.getElem?_cons_succ, ← nthK_eq l n]; rfl
noncomputable def dropK (n : Nat) : List AV → Option (List AV) := Nat.rec (motive := fun _ => List AV → Option (List AV)) some (fun _ ih l => List.rec (motive := fun _ => Option (List AV)) none (fun _ t _ => ih t) l) n
theorem dropK_eq : ∀ (n : Nat) (l : List AV), dropK n l = if n ≤ l.length then some (l.drop n) else none
  | 0, l => rfl
  | n + 1, [] => by simp [dropK]
  | n + 1, a :: l => by
    show dropK n l = _
    rw [dropK_eq n l]; simp
noncomputable def consO (a : AV) (r : Option (List AV)) : Option (List AV) := Option.rec (motive := fun _ => Option (List AV)) none (fun l => some (a :: l)) r
noncomputable def takeK (n : Nat) : List AV → Option (List AV) := Nat.rec (motive := fun _ => List AV → Option (List AV)) (fun _ => some []) (fun _ ih l => List.rec (motive := fun _ => Option (List AV)) none (fun a t _ => consO a (ih t)) l) n
theorem takeK_eq : ∀ (n : Nat) (l : List AV), takeK n l = if n ≤ l.length then some (l.take n) else none
  | 0, l => rfl
  | n + 1, [] => by simp [takeK]
  | n + 1, a :: l => by
    show consO a (takeK n l) = _
    rw [takeK_eq n l]
    by_cases h : n ≤ l.length
    · rw [if_pos h, if_pos (by simpa using h)]; rfl
    · rw [if_neg h, if_neg (by simpa using h)]; rfl
noncomputable def overK (vs : List AV) : List AV → Option (List AV) := List.rec (motive := fun _ => List AV → Option (List AV)) some (fun v _ ih l => List.rec (motive := fun _ => Option (List AV)) none (fun _ t _ => consO v (ih t)) l) vs
theorem overK_eq : ∀ (vs l : List AV), overK vs l = if vs.length ≤ l.length then some (vs ++ l.drop vs.length) else none
  | [], l => by simp [overK]
  | v :: vs, [] => by simp [overK]
  | v :: vs, a :: l => by
    show consO v (overK vs l) = _
    rw [overK_eq vs l]
    by_cases h : vs.length ≤ l.length
    · rw [if_pos h, if_pos (by simpa using h)]; rfl
    · rw [if_neg h, if_neg (by simpa using h)]; rfl
noncomputable def putAtK (vs : List AV) (n : Nat) : List AV → Option (List AV) := Nat.rec (motive := fun _ => List AV → Option (List AV)) (overK vs) (fun _ ih l => List.rec (motive := fun _ => Option (List AV)) none (fun a t _ => consO a (ih t)) l) n
theorem putAtK_eq (vs : List AV) : ∀ (n : Nat) (l : List AV), putAtK vs n l = if n + vs.length ≤ l.length then some (l.take n ++ vs ++ l.drop (n + vs.length)) else none
  | 0, l => by
    show overK vs l = _
    rw [overK_eq]; simp
  | n + 1, [] => by
    rw [if_neg (by simp)]; rfl
  | n + 1, a :: l => by
    show consO a (putAtK vs n l) = _
    rw [putAtK_eq vs n l]
    by_cases h : n + vs.length ≤ l.length
    · rw [if_pos h, if_pos (by simp; omega)]
      simp [consO, show n + 1 + vs.length = (n + vs.length) + 1 by omega]
    · rw [if_neg h, if_neg (by simp; omega)]; rfl
noncomputable def Dat.getK (d : Dat) (i : Nat) : Option AV := Dat.rec (motive := fun _ => Option AV) (fun cs => nthK cs i) (fun len n => sel (Nat.blt i len) (some (.int .u8 (Int.ofNat (Nat.mod (Nat.shiftRight n (Nat.mul 8 i)) 256)))) none) d
theorem bltD {a b : Nat} : Nat.blt a b = decide (a < b) := by
  cases h : Nat.blt a b with
  | true => rw [Nat.blt_eq] at h; simp [h]
  | false => have : ¬ a < b := fun hc => by rw [← Nat.blt_eq] at hc; rw [hc] at h; cases h
             simp [this]
theorem Dat.getK_eq : Dat.getK = Dat.get := funext fun d => funext fun i => by
  cases d with
  | vals cs => exact nthK_eq _ _
  | bytes l n =>
    show sel (Nat.blt i l) _ none = _
    rw [sel_eq, bltD]
    simp only [decide_eq_true_eq]
    rfl
noncomputable def aggO (r : Option (List AV)) : Option AV := Option.rec (motive := fun _ => Option AV) none (fun l => some (.agg l)) r
noncomputable def bindO (r : Option (List AV)) (k : List AV → Option (List AV)) : Option (List AV) := Option.rec (motive := fun _ => Option (List AV)) none k r
noncomputable def Dat.subK (d : Dat) (off len : Nat) : Option AV := Dat.rec (motive := fun _ => Option AV) (fun cs => aggO (bindO (dropK off cs) (takeK len))) (fun l n => sel (Nat.ble (Nat.add off len) l) (some (.bytes len (bsub n off len))) none) d
theorem bleD {a b : Nat} : Nat.ble a b = decide (a ≤ b) := by
  cases h : Nat.ble a b with
  | true => have := Nat.le_of_ble_eq_true h; simp [this]
  | false => have : ¬ a ≤ b := fun hc => by rw [Nat.ble_eq_true_of_le hc] at h; cases h
             simp [this]
theorem dropTake {cs : List AV} {off len : Nat} : bindO (dropK off cs) (takeK len) = if off + len ≤ cs.length then some ((cs.drop off).take len) else none := by
  rw [dropK_eq]
  by_cases h : off ≤ cs.length
  · rw [if_pos h]
    show takeK len _ = _
    rw [takeK_eq, List.length_drop]
    by_cases h2 : off + len ≤ cs.length
    · rw [if_pos (by omega), if_pos h2]
    · rw [if_neg (by omega), if_neg h2]
  · rw [if_neg h, if_neg (by omega)]; rfl
theorem Dat.subK_eq : Dat.subK = Dat.sub := funext fun d => funext fun off => funext fun len => by
  cases d with
  | vals cs =>
    show aggO (bindO _ _) = _
    rw [dropTake]
    simp only [Dat.sub]
    split <;> rfl
  | bytes l n =>
    show sel (Nat.ble (off + len) l) _ none = _
    rw [sel_eq, bleD]
    simp only [decide_eq_true_eq]
    rfl
noncomputable def valsO (r : Option (List AV)) : Option Dat := Option.rec (motive := fun _ => Option Dat) none (fun l => some (.vals l)) r
noncomputable def Dat.takeK (d : Dat) (off len : Nat) : Option Dat := Dat.rec (motive := fun _ => Option Dat) (fun cs => valsO (bindO (dropK off cs) (Go.Proofs.YtlkfclgkinaibaaGreat.takeK len))) (fun l n => sel (Nat.ble (Nat.add off len) l) (some (.bytes len (bsub n off len))) none) d
theorem Dat.takeK_eq : Dat.takeK = Dat.take := funext fun d => funext fun off => funext fun len => by
  cases d with
  | vals cs =>
    show valsO (bindO _ _) = _
    rw [dropTake]
    simp only [Dat.take]
    split <;> rfl
  | bytes l n =>
    show sel (Nat.ble (off + len) l) _ none = _
    rw [sel_eq, bleD]
    simp only [decide_eq_true_eq]
    rfl
noncomputable def Dat.putK (d : Dat) (off : Nat) (v : Dat) : Option Dat := Dat.rec (motive := fun _ => Option Dat) (fun cs => Dat.rec (motive := fun _ => Option Dat) (fun vs => valsO (putAtK vs off cs)) (fun _ _ => Dat.put (.vals cs) off v) v) (fun l n => Dat.put (.bytes l n) off v) d
theorem Dat.putK_eq : Dat.putK = Dat.put := funext fun d => funext fun off => funext fun v => by
  cases d with
  | vals cs =>
    cases v with
    | vals vs =>
      show valsO (putAtK vs off cs) = _
      rw [putAtK_eq]
      simp only [Dat.put]
      split <;> rfl
    | bytes l n => rfl
  | bytes l n => rfl
noncomputable def Dat.partK (d : Dat) (off size : Nat) (agg : Bool) : Option AV := sel agg (d.subK off size) (d.getK off)
theorem Dat.partK_eq : Dat.partK = Dat.part := funext fun d => funext fun off => funext fun size => funext fun agg => by
  rw [Dat.partK, Dat.part, Dat.subK_eq, Dat.getK_eq, sel_eq]
noncomputable def limR (k : IntKind) : Nat := IntKind.rec (motive := fun _ => Nat) 128 32768 2147483648 9223372036854775808 256 65536 4294967296 18446744073709551616 k
noncomputable def sgnR (k : IntKind) : Bool := IntKind.rec (motive := fun _ => Bool) true true true true false false false false k
noncomputable def wrapK (k : IntKind) (n : Int) : Int := Int.rec (motive := fun _ => Int) (fun m => sel (Nat.blt m (limR k)) (Int.ofNat m) (k.wrap (Int.ofNat m))) (fun m => sel (sgnR k) (sel (Nat.blt m (limR k)) (Int.negSucc m) (k.wrap (Int.negSucc m))) (k.wrap (Int.negSucc m))) n
theorem wrap_fit {k : IntKind} {n : Int} (h1 : (if sgnR k = true then -(limR k : Int) else 0) ≤ n) (h2 : n < (limR k : Int)) : k.wrap n = n := by
  cases k <;> simp [limR, sgnR] at h1 h2 <;> simp [Go.IntKind.wrap, Go.IntKind.bits, Go.IntKind.signed] <;> omega
theorem wrapK_eq : wrapK = Go.IntKind.wrap := funext fun k => funext fun n => by
  cases n with
  | ofNat m =>
    show sel (Nat.blt m (limR k)) _ _ = _
    rw [sel_eq, bltD]
    split
    · rename_i h
      simp only [decide_eq_true_eq] at h
      refine (wrap_fit ?_ ?_).symm
      · split <;> simp only [Int.ofNat_eq_natCast] <;> omega
      · simp only [Int.ofNat_eq_natCast]; omega
    · rfl
  | negSucc m =>
    show sel (sgnR k) (sel (Nat.blt m (limR k)) _ _) _ = _
    rw [sel_eq, sel_eq, bltD]
    split
    · rename_i hs
      split
      · rename_i h
        simp only [decide_eq_true_eq] at h
        refine (wrap_fit ?_ ?_).symm
        · rw [if_pos hs]; omega
        · omega
      · rfl
    · rfl
noncomputable def ltK (a b : Int) : Bool := Int.rec (motive := fun _ => Bool) (fun m => Int.rec (motive := fun _ => Bool) (fun n => Nat.blt m n) (fun _ => false) b) (fun m => Int.rec (motive := fun _ => Bool) (fun _ => true) (fun n => Nat.blt n m) b) a
theorem ltK_eq {a b : Int} : ltK a b = decide (a < b) := by
  cases a with
  | ofNat m => cases b with
    | ofNat n => show Nat.blt m n = _; rw [bltD]; exact decide_eq_decide.2 ⟨fun h => Int.ofNat_lt.2 h, fun h => Int.ofNat_lt.1 h⟩
    | negSucc n => exact (decide_eq_false (by simp only [Int.ofNat_eq_natCast]; omega)).symm
  | negSucc m => cases b with
    | ofNat n => exact (decide_eq_true (by simp only [Int.ofNat_eq_natCast]; omega)).symm
    | negSucc n => show Nat.blt n m = _; rw [bltD]; exact decide_eq_decide.2 (by omega)
noncomputable def leK (a b : Int) : Bool := Int.rec (motive := fun _ => Bool) (fun m => Int.rec (motive := fun _ => Bool) (fun n => Nat.ble m n) (fun _ => false) b) (fun m => Int.rec (motive := fun _ => Bool) (fun _ => true) (fun n => Nat.ble n m) b) a
theorem leK_eq {a b : Int} : leK a b = decide (a ≤ b) := by
  cases a with
  | ofNat m => cases b with
    | ofNat n => show Nat.ble m n = _; rw [bleD]; exact decide_eq_decide.2 ⟨fun h => Int.ofNat_le.2 h, fun h => Int.ofNat_le.1 h⟩
    | negSucc n => exact (decide_eq_false (by simp only [Int.ofNat_eq_natCast]; omega)).symm
  | negSucc m => cases b with
    | ofNat n => exact (decide_eq_true (by simp only [Int.ofNat_eq_natCast]; omega)).symm
    | negSucc n => show Nat.ble n m = _; rw [bleD]; exact decide_eq_decide.2 (by omega)
noncomputable def eqK (a b : Int) : Bool := Int.rec (motive := fun _ => Bool) (fun m => Int.rec (motive := fun _ => Bool) (fun n => Nat.beq m n) (fun _ => false) b) (fun m => Int.rec (motive := fun _ => Bool) (fun _ => false) (fun n => Nat.beq m n) b) a
theorem eqK_eq {a b : Int} : eqK a b = (a == b) := by
  rw [show (a == b) = decide (a = b) from rfl]
  cases a with
  | ofNat m => cases b with
    | ofNat n => show Nat.beq m n = _; rw [beqD]; exact decide_eq_decide.2 ⟨fun h => congrArg _ h, fun h => Int.ofNat.inj h⟩
    | negSucc n => exact (decide_eq_false (by simp only [Int.ofNat_eq_natCast]; omega)).symm
  | negSucc m => cases b with
    | ofNat n => exact (decide_eq_false (by simp only [Int.ofNat_eq_natCast]; omega)).symm
    | negSucc n => show Nat.beq m n = _; rw [beqD]; exact decide_eq_decide.2 ⟨fun h => congrArg _ h, fun h => Int.negSucc.inj h⟩
noncomputable def kindNo (k : IntKind) : Nat := IntKind.rec (motive := fun _ => Nat) 0 1 2 3 4 5 6 7 k
theorem kindNo_eq {a b : IntKind} : Nat.beq (kindNo a) (kindNo b) = decide (a = b) := by cases a <;> cases b <;> rfl
noncomputable def binIntK (op : BinOp) (k : IntKind) (a : Int) (k' : IntKind) (b : Int) : Option AV :=
  BinOp.rec (motive := fun _ => Option AV)
    (sel (Nat.beq (kindNo k) (kindNo k')) (some (.int k (wrapK k (Int.add a b)))) none)
    (sel (Nat.beq (kindNo k) (kindNo k')) (some (.int k (wrapK k (Int.sub a b)))) none)
    (sel (Nat.beq (kindNo k) (kindNo k')) (some (.int k (wrapK k (Int.mul a b)))) none)
    (binInt .quo k a k' b) (binInt .rem k a k' b) (binInt .and k a k' b) (binInt .or k a k' b) (binInt .xor k a k' b) (binInt .shl k a k' b) (binInt .shr k a k' b) (binInt .andNot k a k' b)
    (sel (Nat.beq (kindNo k) (kindNo k')) (some (.bool (eqK a b))) none)
    (sel (Nat.beq (kindNo k) (kindNo k')) (some (.bool (Bool.not (eqK a b)))) none)
    (sel (Nat.beq (kindNo k) (kindNo k')) (some (.bool (ltK a b))) none)
    (sel (Nat.beq (kindNo k) (kindNo k')) (some (.bool (leK a b))) none)
    (sel (Nat.beq (kindNo k) (kindNo k')) (some (.bool (ltK b a))) none)
    (sel (Nat.beq (kindNo k) (kindNo k')) (some (.bool (leK b a))) none) op
theorem binIntK_eq {op : BinOp} {k k' : IntKind} {a b : Int} : binIntK op k a k' b = binInt op k a k' b := by
  cases op <;> simp only [binIntK, binInt, sel_eq, kindNo_eq, wrapK_eq, eqK_eq, ltK_eq, leK_eq, decide_eq_true_eq, ne_eq, ite_not] <;> rfl
end Go.Proofs.YtlkfclgkinaibaaGreat

namespace Go.Proofs.YtlkfclgkinaibaaGreat
structure HO where
  get : AHeap → Nat → Option AObj
  put : AHeap → Nat → AObj → AHeap
  new : AHeap → AObj → AHeap
  kill : AHeap → Nat → AHeap
  dget : Dat → Nat → Option AV
  dsub : Dat → Nat → Nat → Option AV
  dtake : Dat → Nat → Nat → Option Dat
  dput : Dat → Nat → Dat → Option Dat
  part : Dat → Nat → Nat → Bool → Option AV
  wrap : IntKind → Int → Int
  bin : BinOp → IntKind → Int → IntKind → Int → Option AV
noncomputable def hoD : HO := ⟨AHeap.get, AHeap.put, AHeap.new, AHeap.kill, Dat.get, Dat.sub, Dat.take, Dat.put, Dat.part, Go.IntKind.wrap, binInt⟩
noncomputable def hoK : HO := ⟨AHeap.getK, AHeap.putK, AHeap.newK, AHeap.killK, Dat.getK, Dat.subK, Dat.takeK, Dat.putK, Dat.partK, wrapK, binIntK⟩
theorem hoEq : hoK = hoD := by
  have e : binIntK = binInt := funext fun _ => funext fun _ => funext fun _ => funext fun _ => funext fun _ => binIntK_eq
  rw [hoK, hoD, AHeap.getK_eq, AHeap.putK_eq, AHeap.newK_eq, AHeap.killK_eq, Dat.getK_eq, Dat.subK_eq, Dat.takeK_eq, Dat.putK_eq, Dat.partK_eq, wrapK_eq, e]
noncomputable def newRowH (H : HO) (h : AHeap) (elem es : Nat) (soft : Bool) (d : Dat) : Option AHeap :=
  if 0 < es then some (H.new h (.row elem es soft false d)) else none
noncomputable def sliceDatH (H : HO) (h : AHeap) (es : Nat) (v : AV) : Option Dat :=
  match v with
  | .nilsl => some (.vals [])
  | .esl => some (.vals [])
  | .sl id off len _ => match H.get h id with
    | some (.row _ _ _ _ d) => H.dtake d off (len * es)
    | _ => none
  | .ssl id idx es' len => match H.get h id with
    | some (.row _ _ _ _ d) => if es' = es then H.dtake d (idx * es) (len * es) else none
    | _ => none
  | _ => none
noncomputable def appendToH (H : HO) (h : AHeap) (elem es bytes : Nat) (s : AV) (new : Dat) (k : Nat) : Option (AV × AHeap) :=
  if k = 0 then (match s with
    | .sl _ _ len cap => if len ≤ cap then some (s, h) else none
    | .ssl _ _ _ _ => some (s, h)
    | .nilsl => some (s, h)
    | .esl => some (s, h)
    | _ => none)
  else match s with
  | .nilsl =>
    if k * bytes ≤ 2 ^ 40 ∧ k ≤ 2 ^ 40 ∧ new.len = k * es then (newRowH H h elem es true new).map fun h' => (.ssl h.next 0 es k, h') else none
  | .sl id off len cap =>
    match H.get h id with
    | some (.row elem' es' soft ro d) =>
      if len + k ≤ cap then
        if ro then none else (H.dput d (off + len * es) new).map fun d' => (.sl id off (len + k) cap, H.put h id (.row elem' es' soft ro d'))
      else if (len + k) * bytes ≤ 2 ^ 40 ∧ len + k ≤ 2 ^ 40 ∧ new.len = k * es then
        (H.dtake d off (len * es)).bind fun old => (old.app new).bind fun all =>
          (newRowH H h elem es true all).map fun h' => (.ssl h.next 0 es (len + k), h')
      else none
    | _ => none
  | .ssl id idx es' len =>
    match H.get h id with
    | some (.row elem' es'' true false d) =>
      if es' = es ∧ es'' = es ∧ elem' = elem ∧ 0 < es then
        if (idx + len + k) * es ≤ d.len then
          (H.dput d ((idx + len) * es) new).map fun d' => (.ssl id idx es (len + k), H.put h id (.row elem' es'' true false d'))
        else if (idx + len) * es = d.len ∧ (len + k) * bytes ≤ 2 ^ 40 ∧ len + k ≤ 2 ^ 40 ∧ new.len = k * es then
          (H.dtake d (idx * es) (len * es)).bind fun old => (old.app new).bind fun all =>
            (newRowH H (H.kill h id) elem es true all).map fun h' => (.ssl h.next 0 es (len + k), h')
        else none
      else none
    | _ => none
  | _ => none
noncomputable def aop_mv (_H : HO)  (args : List AV) (h : AHeap) : Option (AV × AHeap) := match args with
    | [x] => some (x, h)
    | _ => none
noncomputable def aop_pick (_H : HO)  (args : List AV) (h : AHeap) : Option (AV × AHeap) := match args with
    | [.bool c, a, b] => some (if c then a else b, h)
    | _ => none
noncomputable def aop_alloc (H : HO) (elem : Nat) (es : Nat) (z : Dat) (args : List AV) (h : AHeap) : Option (AV × AHeap) := match args with
    | [] => if z.len = es then (newRowH H h elem es false z).map fun h' => (.ptr h.next 0, h') else none
    | _ => none
noncomputable def aop_box (H : HO) (elem : Nat) (es : Nat) (args : List AV) (h : AHeap) : Option (AV × AHeap) := match args with
    | [x] => if x.dat.len = es ∧ 0 < es then (newRowH H h elem es false x.dat).map fun h' => (.ptr h.next 0, h') else none
    | _ => none
noncomputable def aop_build (_H : HO) (z : AV) (parts : List (Nat × Nat)) (args : List AV) (h : AHeap) : Option (AV × AHeap) := (fills parts args z.dat).map fun d => (d.agg, h)
noncomputable def aop_bslice (H : HO) (elem : Nat) (es : Nat) (len : Nat) (z : Dat) (parts : List Nat) (args : List AV) (h : AHeap) : Option (AV × AHeap) :=
    (fills (parts.map fun i => (i * es, es)) args (z.rep len)).bind fun d =>
      if d.len = len * es then (newRowH H h elem es false d).map fun h' => (.sl h.next 0 len len, h') else none
noncomputable def aop_load1 (H : HO)  (args : List AV) (h : AHeap) : Option (AV × AHeap) := match args with
    | [.ptr id off] => match H.get h id with
      | some (.row _ _ _ _ d) => (H.dget d off).map (·, h)
      | _ => none
    | _ => none
noncomputable def aop_loadn (H : HO) (n : Nat) (args : List AV) (h : AHeap) : Option (AV × AHeap) := match args with
    | [.ptr id off] => match H.get h id with
      | some (.row _ _ _ _ d) => (H.dsub d off n).map (·, h)
      | _ => none
    | _ => none
noncomputable def aop_store (H : HO) (n : Nat) (args : List AV) (h : AHeap) : Option (AV × AHeap) := match args with
    | [.ptr id off, v] => match H.get h id with
      | some (.row e es soft false d) => if v.dat.len = n ∧ 0 < n then (H.dput d off v.dat).map fun d' => (.tuple [], H.put h id (.row e es soft false d')) else none
      | _ => none
    | _ => none
noncomputable def aop_nilCheck (_H : HO)  (args : List AV) (h : AHeap) : Option (AV × AHeap) := match args with
    | [x] => match x with
      | .ptr _ _ => some (x, h)
      | .func _ _ _ => some (x, h)
      | _ => none
    | _ => none
noncomputable def aop_bin (H : HO) (op : BinOp) (args : List AV) (h : AHeap) : Option (AV × AHeap) := match args with
    | [.int k a, .int k' b] => (H.bin op k a k' b).map (·, h)
    | _ => none
noncomputable def aop_eqv (_H : HO) (neg : Bool) (k : EqK) (args : List AV) (h : AHeap) : Option (AV × AHeap) := match args with
    | [a, b] => (avEq k a b).map fun r => (.bool (if neg then !r else r), h)
    | _ => none
noncomputable def aop_un (H : HO) (u : UnOp) (args : List AV) (h : AHeap) : Option (AV × AHeap) := match u, args with
    | .neg, [.int k n] => some (.int k (H.wrap k (0 - n)), h)
    | .not, [.bool b] => some (.bool !b, h)
    | _, _ => none
noncomputable def aop_conv (H : HO) (k : IntKind) (args : List AV) (h : AHeap) : Option (AV × AHeap) := match args with
    | [.int _ n] => some (.int k (H.wrap k n), h)
    | _ => none
noncomputable def aop_tostr (H : HO)  (args : List AV) (h : AHeap) : Option (AV × AHeap) := match args with
    | [x] => match sliceDatH H h 1 x with
      | some (.bytes l n) => some (.str (packStr l n), h)
      | some (.vals []) => some (.str ByteArray.empty, h)
      | _ => none
    | _ => none
noncomputable def aop_sl2arr (_H : HO) (n : Nat) (args : List AV) (h : AHeap) : Option (AV × AHeap) := match args with
    | [.sl id off len _] => if n ≤ len then some (.ptr id off, h) else none
    | [.ssl id idx es len] => if n ≤ len then some (.ptr id (idx * es), h) else none
    | _ => none
noncomputable def aop_mkfunc (_H : HO) (f : Nat) (nf : Nat) (args : List AV) (h : AHeap) : Option (AV × AHeap) := some (.func f (args.take nf) (args.drop nf), h)
noncomputable def aop_mkmap (H : HO)  (_args : List AV) (h : AHeap) : Option (AV × AHeap) := some (.map h.next, H.new h (.map [] 0))
noncomputable def aop_mkslice (H : HO) (elem : Nat) (es : Nat) (bytes : Nat) (z : Dat) (args : List AV) (h : AHeap) : Option (AV × AHeap) := match args with
    | [.int _ l, .int _ c] =>
      if 0 ≤ l ∧ l ≤ c ∧ c * bytes ≤ 2 ^ 40 ∧ c ≤ 2 ^ 40 ∧ z.len = es ∧ (z.rep c.toNat).len = c.toNat * es then
        (newRowH H h elem es false (z.rep c.toNat)).map fun h' => (.sl h.next 0 l.toNat c.toNat, h')
      else none
    | _ => none
noncomputable def aop_slice (_H : HO) (es : Nat) (lo : Bool) (hi : Bool) (mx : Bool) (args : List AV) (h : AHeap) : Option (AV × AHeap) := match args with
    | x :: args => match x with
      | .nilsl => (bounds3 0 0 lo hi mx args).map fun _ => (.nilsl, h)
      | .esl => if mx then none else (bounds3 0 0 lo hi mx args).map fun _ => (.esl, h)
      | .sl id off len cap => (bounds3 len cap lo hi mx args).map fun (l, r, m) => (.sl id (if m = l then off else off + l * es) (r - l) (m - l), h)
      | .ssl id idx es' len =>
        if es' = es then (match mx with
          | false => (bounds3 len len lo hi false args).bind fun (l, r, _) => if l < len ∨ l = 0 then some (.ssl id (idx + l) es (r - l), h) else some (.esl, h)
          | true => (bounds3 len len lo hi true args).map fun (l, r, m) => (.sl id (if m = l then idx * es else (idx + l) * es) (r - l) (m - l), h))
        else none
      | _ => none
    | _ => none
noncomputable def aop_slicea (_H : HO) (n : Nat) (es : Nat) (lo : Bool) (hi : Bool) (mx : Bool) (args : List AV) (h : AHeap) : Option (AV × AHeap) := match args with
    | .ptr id off :: args =>
      (bounds3 n n lo hi mx args).map fun (l, r, m) => (.sl id (if m = l then off else off + l * es) (r - l) (m - l), h)
    | _ => none
noncomputable def aop_fieldAddr (_H : HO) (o : Nat) (args : List AV) (h : AHeap) : Option (AV × AHeap) := match args with
    | [.ptr id off] => some (.ptr id (off + o), h)
    | _ => none
noncomputable def aop_field (H : HO) (off : Nat) (size : Nat) (agg : Bool) (args : List AV) (h : AHeap) : Option (AV × AHeap) := match args with
    | [x] => if x.isAgg then (H.part x.dat off size agg).map (·, h) else none
    | _ => none
noncomputable def aop_indexa (_H : HO) (len : Nat) (es : Nat) (args : List AV) (h : AHeap) : Option (AV × AHeap) := match args with
    | [.ptr id off, .int _ i] => if 0 ≤ i ∧ i < len then some (.ptr id (off + i.toNat * es), h) else none
    | _ => none
noncomputable def aop_indexs (_H : HO) (es : Nat) (args : List AV) (h : AHeap) : Option (AV × AHeap) := match args with
    | [.sl id off len _, .int _ i] => if 0 ≤ i ∧ i < len then some (.ptr id (off + i.toNat * es), h) else none
    | [.ssl id idx es' len, .int _ i] => if 0 ≤ i ∧ i < len ∧ es' = es then some (.ptr id ((idx + i.toNat) * es), h) else none
    | _ => none
noncomputable def aop_indexv (H : HO) (len : Nat) (es : Nat) (agg : Bool) (args : List AV) (h : AHeap) : Option (AV × AHeap) := match args with
    | [x, .int _ i] =>
      if 0 ≤ i ∧ i < len ∧ x.isAgg then (H.part x.dat (i.toNat * es) es agg).map (·, h) else none
    | _ => none
noncomputable def aop_indexstr (_H : HO)  (args : List AV) (h : AHeap) : Option (AV × AHeap) := match args with
    | [.str s, .int _ i] => if 0 ≤ i then (s[i.toNat]?).map fun b => (.int .u8 b.toNat, h) else none
    | _ => none
noncomputable def aop_lookup (H : HO) (k : EqK) (z : AV) (ok : Bool) (args : List AV) (h : AHeap) : Option (AV × AHeap) := match args with
    | [m, key] => if (avEq k key key).isSome = false then none else
      let back (v : AV) (is : Bool) : AV := if ok then .tuple [v, .bool is] else v
      match m with
      | .nilmap => some (back z false, h)
      | .map id => match H.get h id with
        | some (.map es _) => match findE k key es with
          | some (some i) => (es[i]?).map fun e => (back e.2.1 true, h)
          | some none => some (back z false, h)
          | none => none
        | _ => none
      | _ => none
    | _ => none
noncomputable def aop_mapput (H : HO) (k : EqK) (args : List AV) (h : AHeap) : Option (AV × AHeap) := match args with
    | [.map id, key, v] => if (avEq k key key).isSome = false then none else match H.get h id with
      | some (.map es clock) => (match findE k key es with
        | some (some i) => some (.tuple [], H.put h id (.map (es.modify i fun e => (key, v, e.2.2)) clock))
        | some none => some (.tuple [], H.put h id (.map (es ++ [(key, v, clock)]) (clock + 1)))
        | none => none)
      | _ => none
    | _ => none
noncomputable def aop_extract (_H : HO) (i : Nat) (args : List AV) (h : AHeap) : Option (AV × AHeap) := match args with
    | [.tuple vs] => (vs[i]?).map (·, h)
    | _ => none
noncomputable def aop_lens (_H : HO)  (args : List AV) (h : AHeap) : Option (AV × AHeap) := match args with
    | [x] => (sliceLen x).map fun n => (.int .i64 n, h)
    | _ => none
noncomputable def aop_lenc (_H : HO) (n : Nat) (args : List AV) (h : AHeap) : Option (AV × AHeap) := match args with
    | [_] => some (.int .i64 n, h)
    | _ => none
noncomputable def aop_lenstr (_H : HO)  (args : List AV) (h : AHeap) : Option (AV × AHeap) := match args with
    | [.str s] => some (.int .i64 s.size, h)
    | _ => none
noncomputable def aop_lenm (H : HO)  (args : List AV) (h : AHeap) : Option (AV × AHeap) := match args with
    | [.nilmap] => some (.int .i64 0, h)
    | [.map id] => match H.get h id with
      | some (.map es _) => some (.int .i64 es.length, h)
      | _ => none
    | _ => none
noncomputable def aop_append (H : HO) (elem : Nat) (es : Nat) (bytes : Nat) (_ : Dat) (args : List AV) (h : AHeap) : Option (AV × AHeap) := match args with
    | [s, x] => match sliceLen x, sliceDatH H h es x with
      | some k, some new => appendToH H h elem es bytes s new k
      | _, _ => none
    | _ => none
noncomputable def aop_appendz (H : HO) (elem : Nat) (es : Nat) (bytes : Nat) (z : Dat) (args : List AV) (h : AHeap) : Option (AV × AHeap) := match args with
    | [s, .int _ n] =>
      if 0 ≤ n ∧ n * bytes ≤ 2 ^ 40 ∧ n ≤ 2 ^ 40 ∧ (z.rep n.toNat).len = n.toNat * es then appendToH H h elem es bytes s (z.rep n.toNat) n.toNat else none
    | _ => none
noncomputable def aop_copy (H : HO) (es : Nat) (args : List AV) (h : AHeap) : Option (AV × AHeap) := match args with
    | [a, b] => match sliceLen a, sliceLen b with
      | some m, some n => if Nat.min n m = 0 then some (.int .i64 0, h) else
        (match sliceDatH H h es b, a with
        | some d, .sl id off _ _ => (H.dtake d 0 (Nat.min n m * es)).bind fun src => match H.get h id with
          | some (.row e es' soft false t) => (H.dput t off src).map fun t' => (.int .i64 (Nat.min n m), H.put h id (.row e es' soft false t'))
          | _ => none
        | some d, .ssl id idx es'' _ => (H.dtake d 0 (Nat.min n m * es)).bind fun src => match H.get h id with
          | some (.row e es' soft false t) => if es'' = es then (H.dput t (idx * es) src).map fun t' => (.int .i64 (Nat.min n m), H.put h id (.row e es' soft false t')) else none
          | _ => none
        | _, _ => none)
      | _, _ => none
    | _ => none
noncomputable def aop_delete (H : HO) (k : EqK) (args : List AV) (h : AHeap) : Option (AV × AHeap) := match args with
    | [m, key] => if (avEq k key key).isSome = false then none else match m with
      | .nilmap => some (.tuple [], h)
      | .map id => match H.get h id with
        | some (.map es clock) => (match findE k key es with
          | some (some i) => some (.tuple [], H.put h id (.map (es.eraseIdx i) clock))
          | some none => some (.tuple [], h)
          | none => none)
        | _ => none
      | _ => none
    | _ => none
noncomputable def aop_cap (_H : HO)  (args : List AV) (h : AHeap) : Option (AV × AHeap) := match args with
    | [.nilsl] => some (.int .i64 0, h)
    | [.sl _ _ _ cap] => some (.int .i64 cap, h)
    | _ => none
noncomputable def aop_clear (H : HO) (es : Nat) (z : Dat) (args : List AV) (h : AHeap) : Option (AV × AHeap) := match args with
    | [.nilsl] => some (.tuple [], h)
    | [.esl] => some (.tuple [], h)
    | [.sl id off len _] => if len = 0 then some (.tuple [], h) else match H.get h id with
      | some (.row e es' soft false t) => if (z.rep len).len = len * es then (H.dput t off (z.rep len)).map fun t' => (.tuple [], H.put h id (.row e es' soft false t')) else none
      | _ => none
    | [.ssl id idx es'' len] => if len = 0 then some (.tuple [], h) else match H.get h id with
      | some (.row e es' soft false t) => if es'' = es ∧ (z.rep len).len = len * es then (H.dput t (idx * es) (z.rep len)).map fun t' => (.tuple [], H.put h id (.row e es' soft false t')) else none
      | _ => none
    | _ => none
noncomputable def aop_range (H : HO)  (args : List AV) (h : AHeap) : Option (AV × AHeap) := match args with
    | [.nilmap] => some (.ptr h.next 0, H.new h (.iter none 0 [] 0))
    | [.map id] => match H.get h id with
      | some (.map _ clock) => some (.ptr h.next 0, H.new h (.iter (some id) clock [] clock))
      | _ => none
    | _ => none
noncomputable def aop_entry (H : HO)  (args : List AV) (h : AHeap) : Option (AV × AHeap) := match args with
    | [.ptr id 0] => match H.get h id with
      | some (.iter (some m) _ seen stepped) => match H.get h m with
        | some (.map es clock) => match seen.getLast? with
          | some stamp => if clock = stepped then (es.find? fun e => e.2.2 == stamp).map fun e => (.tuple [e.1, e.2.1], h) else none
          | none => none
        | _ => none
      | _ => none
    | _ => none
noncomputable def aop_min (_H : HO)  (args : List AV) (h : AHeap) : Option (AV × AHeap) := match args with
    | [.int k a, .int _ b] => some (.int k (if b < a then b else a), h)
    | _ => none
noncomputable def aop_max (_H : HO)  (args : List AV) (h : AHeap) : Option (AV × AHeap) := match args with
    | [.int k a, .int _ b] => some (.int k (if b > a then b else a), h)
    | _ => none
theorem aop_mv_eq  {args : List AV} {h : AHeap} : aop_mv hoK  args h = aop (.mv ) args h := by
  rw [hoEq]; rfl
theorem aop_pick_eq  {args : List AV} {h : AHeap} : aop_pick hoK  args h = aop (.pick ) args h := by
  rw [hoEq]; rfl
theorem aop_alloc_eq {x0 : Nat} {x1 : Nat} {x2 : Dat} {args : List AV} {h : AHeap} : aop_alloc hoK x0 x1 x2 args h = aop (.alloc x0 x1 x2) args h := by
  rw [hoEq]; rfl
theorem aop_box_eq {x0 : Nat} {x1 : Nat} {args : List AV} {h : AHeap} : aop_box hoK x0 x1 args h = aop (.box x0 x1) args h := by
  rw [hoEq]; rfl
theorem aop_build_eq {x0 : AV} {x1 : List (Nat × Nat)} {args : List AV} {h : AHeap} : aop_build hoK x0 x1 args h = aop (.build x0 x1) args h := by
  rw [hoEq]; rfl
theorem aop_bslice_eq {x0 : Nat} {x1 : Nat} {x2 : Nat} {x3 : Dat} {x4 : List Nat} {args : List AV} {h : AHeap} : aop_bslice hoK x0 x1 x2 x3 x4 args h = aop (.bslice x0 x1 x2 x3 x4) args h := by
  rw [hoEq]; rfl
theorem aop_load1_eq  {args : List AV} {h : AHeap} : aop_load1 hoK  args h = aop (.load1 ) args h := by
  rw [hoEq]; rfl
theorem aop_loadn_eq {x0 : Nat} {args : List AV} {h : AHeap} : aop_loadn hoK x0 args h = aop (.loadn x0) args h := by
  rw [hoEq]; rfl
theorem aop_store_eq {x0 : Nat} {args : List AV} {h : AHeap} : aop_store hoK x0 args h = aop (.store x0) args h := by
  rw [hoEq]; rfl
theorem aop_nilCheck_eq  {args : List AV} {h : AHeap} : aop_nilCheck hoK  args h = aop (.nilCheck ) args h := by
  rw [hoEq]; rfl
theorem aop_bin_eq {x0 : BinOp} {args : List AV} {h : AHeap} : aop_bin hoK x0 args h = aop (.bin x0) args h := by
  rw [hoEq]; rfl
theorem aop_eqv_eq {x0 : Bool} {x1 : EqK} {args : List AV} {h : AHeap} : aop_eqv hoK x0 x1 args h = aop (.eqv x0 x1) args h := by
  rw [hoEq]; rfl
theorem aop_un_eq {x0 : UnOp} {args : List AV} {h : AHeap} : aop_un hoK x0 args h = aop (.un x0) args h := by
  rw [hoEq]; rfl
theorem aop_conv_eq {x0 : IntKind} {args : List AV} {h : AHeap} : aop_conv hoK x0 args h = aop (.conv x0) args h := by
  rw [hoEq]; rfl
theorem aop_tostr_eq  {args : List AV} {h : AHeap} : aop_tostr hoK  args h = aop (.tostr ) args h := by
  rw [hoEq]; rfl
theorem aop_sl2arr_eq {x0 : Nat} {args : List AV} {h : AHeap} : aop_sl2arr hoK x0 args h = aop (.sl2arr x0) args h := by
  rw [hoEq]; rfl
theorem aop_mkfunc_eq {x0 : Nat} {x1 : Nat} {args : List AV} {h : AHeap} : aop_mkfunc hoK x0 x1 args h = aop (.mkfunc x0 x1) args h := by
  rw [hoEq]; rfl
theorem aop_mkmap_eq  {args : List AV} {h : AHeap} : aop_mkmap hoK  args h = aop (.mkmap ) args h := by
  rw [hoEq]; rfl
theorem aop_mkslice_eq {x0 : Nat} {x1 : Nat} {x2 : Nat} {x3 : Dat} {args : List AV} {h : AHeap} : aop_mkslice hoK x0 x1 x2 x3 args h = aop (.mkslice x0 x1 x2 x3) args h := by
  rw [hoEq]; rfl
theorem aop_slice_eq {x0 : Nat} {x1 : Bool} {x2 : Bool} {x3 : Bool} {args : List AV} {h : AHeap} : aop_slice hoK x0 x1 x2 x3 args h = aop (.slice x0 x1 x2 x3) args h := by
  rw [hoEq]; rfl
theorem aop_slicea_eq {x0 : Nat} {x1 : Nat} {x2 : Bool} {x3 : Bool} {x4 : Bool} {args : List AV} {h : AHeap} : aop_slicea hoK x0 x1 x2 x3 x4 args h = aop (.slicea x0 x1 x2 x3 x4) args h := by
  rw [hoEq]; rfl
theorem aop_fieldAddr_eq {x0 : Nat} {args : List AV} {h : AHeap} : aop_fieldAddr hoK x0 args h = aop (.fieldAddr x0) args h := by
  rw [hoEq]; rfl
theorem aop_field_eq {x0 : Nat} {x1 : Nat} {x2 : Bool} {args : List AV} {h : AHeap} : aop_field hoK x0 x1 x2 args h = aop (.field x0 x1 x2) args h := by
  rw [hoEq]; rfl
theorem aop_indexa_eq {x0 : Nat} {x1 : Nat} {args : List AV} {h : AHeap} : aop_indexa hoK x0 x1 args h = aop (.indexa x0 x1) args h := by
  rw [hoEq]; rfl
theorem aop_indexs_eq {x0 : Nat} {args : List AV} {h : AHeap} : aop_indexs hoK x0 args h = aop (.indexs x0) args h := by
  rw [hoEq]; rfl
theorem aop_indexv_eq {x0 : Nat} {x1 : Nat} {x2 : Bool} {args : List AV} {h : AHeap} : aop_indexv hoK x0 x1 x2 args h = aop (.indexv x0 x1 x2) args h := by
  rw [hoEq]; rfl
theorem aop_indexstr_eq  {args : List AV} {h : AHeap} : aop_indexstr hoK  args h = aop (.indexstr ) args h := by
  rw [hoEq]; rfl
theorem aop_lookup_eq {x0 : EqK} {x1 : AV} {x2 : Bool} {args : List AV} {h : AHeap} : aop_lookup hoK x0 x1 x2 args h = aop (.lookup x0 x1 x2) args h := by
  rw [hoEq]; rfl
theorem aop_mapput_eq {x0 : EqK} {args : List AV} {h : AHeap} : aop_mapput hoK x0 args h = aop (.mapput x0) args h := by
  rw [hoEq]; rfl
theorem aop_extract_eq {x0 : Nat} {args : List AV} {h : AHeap} : aop_extract hoK x0 args h = aop (.extract x0) args h := by
  rw [hoEq]; rfl
theorem aop_lens_eq  {args : List AV} {h : AHeap} : aop_lens hoK  args h = aop (.lens ) args h := by
  rw [hoEq]; rfl
theorem aop_lenc_eq {x0 : Nat} {args : List AV} {h : AHeap} : aop_lenc hoK x0 args h = aop (.lenc x0) args h := by
  rw [hoEq]; rfl
theorem aop_lenstr_eq  {args : List AV} {h : AHeap} : aop_lenstr hoK  args h = aop (.lenstr ) args h := by
  rw [hoEq]; rfl
theorem aop_lenm_eq  {args : List AV} {h : AHeap} : aop_lenm hoK  args h = aop (.lenm ) args h := by
  rw [hoEq]; rfl
theorem aop_append_eq {x0 : Nat} {x1 : Nat} {x2 : Nat} {x3 : Dat} {args : List AV} {h : AHeap} : aop_append hoK x0 x1 x2 x3 args h = aop (.append x0 x1 x2 x3) args h := by
  rw [hoEq]; rfl
theorem aop_appendz_eq {x0 : Nat} {x1 : Nat} {x2 : Nat} {x3 : Dat} {args : List AV} {h : AHeap} : aop_appendz hoK x0 x1 x2 x3 args h = aop (.appendz x0 x1 x2 x3) args h := by
  rw [hoEq]; rfl
theorem aop_copy_eq {x0 : Nat} {args : List AV} {h : AHeap} : aop_copy hoK x0 args h = aop (.copy x0) args h := by
  rw [hoEq]; rfl
theorem aop_delete_eq {x0 : EqK} {args : List AV} {h : AHeap} : aop_delete hoK x0 args h = aop (.delete x0) args h := by
  rw [hoEq]; rfl
theorem aop_cap_eq  {args : List AV} {h : AHeap} : aop_cap hoK  args h = aop (.cap ) args h := by
  rw [hoEq]; rfl
theorem aop_clear_eq {x0 : Nat} {x1 : Dat} {args : List AV} {h : AHeap} : aop_clear hoK x0 x1 args h = aop (.clear x0 x1) args h := by
  rw [hoEq]; rfl
theorem aop_range_eq  {args : List AV} {h : AHeap} : aop_range hoK  args h = aop (.range ) args h := by
  rw [hoEq]; rfl
theorem aop_entry_eq  {args : List AV} {h : AHeap} : aop_entry hoK  args h = aop (.entry ) args h := by
  rw [hoEq]; rfl
theorem aop_min_eq  {args : List AV} {h : AHeap} : aop_min hoK  args h = aop (.min ) args h := by
  rw [hoEq]; rfl
theorem aop_max_eq  {args : List AV} {h : AHeap} : aop_max hoK  args h = aop (.max ) args h := by
  rw [hoEq]; rfl
noncomputable def callK (D : DSem) (args : List AV) (h : AHeap) : Option (AV × AHeap) := match args with
  | .func f first captured :: rest => D (.f f) (first ++ rest ++ captured) h
  | .yield l :: rest => D (.y l) rest h
  | _ => none
noncomputable def doOpF (D : DSem) (o : AOp) : List AV → AHeap → Option (AV × AHeap) :=
  AOp.rec (motive := fun _ => List AV → AHeap → Option (AV × AHeap)) (aop_mv hoK) (aop_pick hoK) (fun x0 x1 x2 => aop_alloc hoK x0 x1 x2) (fun x0 x1 => aop_box hoK x0 x1) (fun x0 x1 => aop_build hoK x0 x1) (fun x0 x1 x2 x3 x4 => aop_bslice hoK x0 x1 x2 x3 x4) (aop_load1 hoK) (fun x0 => aop_loadn hoK x0) (fun x0 => aop_store hoK x0) (aop_nilCheck hoK) (fun x0 => aop_bin hoK x0) (fun x0 x1 => aop_eqv hoK x0 x1) (fun x0 => aop_un hoK x0) (fun x0 => aop_conv hoK x0) (aop_tostr hoK) (fun x0 => aop_sl2arr hoK x0) (fun x0 x1 => aop_mkfunc hoK x0 x1) (aop_mkmap hoK) (fun x0 x1 x2 x3 => aop_mkslice hoK x0 x1 x2 x3) (fun x0 x1 x2 x3 => aop_slice hoK x0 x1 x2 x3) (fun x0 x1 x2 x3 x4 => aop_slicea hoK x0 x1 x2 x3 x4) (fun x0 => aop_fieldAddr hoK x0) (fun x0 x1 x2 => aop_field hoK x0 x1 x2) (fun x0 x1 => aop_indexa hoK x0 x1) (fun x0 => aop_indexs hoK x0) (fun x0 x1 x2 => aop_indexv hoK x0 x1 x2) (aop_indexstr hoK) (fun x0 x1 x2 => aop_lookup hoK x0 x1 x2) (fun x0 => aop_mapput hoK x0) (fun x0 => aop_extract hoK x0) (aop_lens hoK) (aop_lenm hoK) (fun x0 => aop_lenc hoK x0) (aop_lenstr hoK) (aop_cap hoK) (fun x0 x1 x2 x3 => aop_append hoK x0 x1 x2 x3) (fun x0 x1 x2 x3 => aop_appendz hoK x0 x1 x2 x3) (fun x0 => aop_copy hoK x0) (fun x0 => aop_delete hoK x0) (fun x0 x1 => aop_clear hoK x0 x1) (aop_min hoK) (aop_max hoK) (aop_range hoK) nextD (aop_entry hoK) (callK D) (fun _ _ => none) (fun _ _ => none) o
theorem doOpF_eq {D : DSem} {o : AOp} {args : List AV} {h : AHeap} : doOpF D o args h = doOpD D o args h := by
  cases o with
  | mv => exact aop_mv_eq (args := args) (h := h)
  | pick => exact aop_pick_eq (args := args) (h := h)
  | alloc y0 y1 y2 => exact aop_alloc_eq (args := args) (h := h) (x0 := y0) (x1 := y1) (x2 := y2)
  | box y0 y1 => exact aop_box_eq (args := args) (h := h) (x0 := y0) (x1 := y1)
  | build y0 y1 => exact aop_build_eq (args := args) (h := h) (x0 := y0) (x1 := y1)
  | bslice y0 y1 y2 y3 y4 => exact aop_bslice_eq (args := args) (h := h) (x0 := y0) (x1 := y1) (x2 := y2) (x3 := y3) (x4 := y4)
  | load1 => exact aop_load1_eq (args := args) (h := h)
  | loadn y0 => exact aop_loadn_eq (args := args) (h := h) (x0 := y0)
  | store y0 => exact aop_store_eq (args := args) (h := h) (x0 := y0)
  | nilCheck => exact aop_nilCheck_eq (args := args) (h := h)
  | bin y0 => exact aop_bin_eq (args := args) (h := h) (x0 := y0)
  | eqv y0 y1 => exact aop_eqv_eq (args := args) (h := h) (x0 := y0) (x1 := y1)
  | un y0 => exact aop_un_eq (args := args) (h := h) (x0 := y0)
  | conv y0 => exact aop_conv_eq (args := args) (h := h) (x0 := y0)
  | tostr => exact aop_tostr_eq (args := args) (h := h)
  | sl2arr y0 => exact aop_sl2arr_eq (args := args) (h := h) (x0 := y0)
  | mkfunc y0 y1 => exact aop_mkfunc_eq (args := args) (h := h) (x0 := y0) (x1 := y1)
  | mkmap => exact aop_mkmap_eq (args := args) (h := h)
  | mkslice y0 y1 y2 y3 => exact aop_mkslice_eq (args := args) (h := h) (x0 := y0) (x1 := y1) (x2 := y2) (x3 := y3)
  | slice y0 y1 y2 y3 => exact aop_slice_eq (args := args) (h := h) (x0 := y0) (x1 := y1) (x2 := y2) (x3 := y3)
  | slicea y0 y1 y2 y3 y4 => exact aop_slicea_eq (args := args) (h := h) (x0 := y0) (x1 := y1) (x2 := y2) (x3 := y3) (x4 := y4)
  | fieldAddr y0 => exact aop_fieldAddr_eq (args := args) (h := h) (x0 := y0)
  | field y0 y1 y2 => exact aop_field_eq (args := args) (h := h) (x0 := y0) (x1 := y1) (x2 := y2)
  | indexa y0 y1 => exact aop_indexa_eq (args := args) (h := h) (x0 := y0) (x1 := y1)
  | indexs y0 => exact aop_indexs_eq (args := args) (h := h) (x0 := y0)
  | indexv y0 y1 y2 => exact aop_indexv_eq (args := args) (h := h) (x0 := y0) (x1 := y1) (x2 := y2)
  | indexstr => exact aop_indexstr_eq (args := args) (h := h)
  | lookup y0 y1 y2 => exact aop_lookup_eq (args := args) (h := h) (x0 := y0) (x1 := y1) (x2 := y2)
  | mapput y0 => exact aop_mapput_eq (args := args) (h := h) (x0 := y0)
  | extract y0 => exact aop_extract_eq (args := args) (h := h) (x0 := y0)
  | lens => exact aop_lens_eq (args := args) (h := h)
  | lenm => exact aop_lenm_eq (args := args) (h := h)
  | lenc y0 => exact aop_lenc_eq (args := args) (h := h) (x0 := y0)
  | lenstr => exact aop_lenstr_eq (args := args) (h := h)
  | cap => exact aop_cap_eq (args := args) (h := h)
  | append y0 y1 y2 y3 => exact aop_append_eq (args := args) (h := h) (x0 := y0) (x1 := y1) (x2 := y2) (x3 := y3)
  | appendz y0 y1 y2 y3 => exact aop_appendz_eq (args := args) (h := h) (x0 := y0) (x1 := y1) (x2 := y2) (x3 := y3)
  | copy y0 => exact aop_copy_eq (args := args) (h := h) (x0 := y0)
  | delete y0 => exact aop_delete_eq (args := args) (h := h) (x0 := y0)
  | clear y0 y1 => exact aop_clear_eq (args := args) (h := h) (x0 := y0) (x1 := y1)
  | min => exact aop_min_eq (args := args) (h := h)
  | max => exact aop_max_eq (args := args) (h := h)
  | range => exact aop_range_eq (args := args) (h := h)
  | next => exact rfl
  | entry => exact aop_entry_eq (args := args) (h := h)
  | callv => exact rfl
  | defer => exact rfl
  | bad => exact rfl
end Go.Proofs.YtlkfclgkinaibaaGreat

namespace Go.Proofs.YtlkfclgkinaibaaGreat
inductive ET where
  | leaf
  | node (l : ET) (v : AV) (r : ET)
noncomputable def etGet (v : AV) (gl gr : Nat → AV) (n : Nat) : AV := sel (Nat.beq n 0) v (sel (Nat.beq (Nat.mod n 2) 1) (gl (Nat.div n 2)) (gr (Nat.sub (Nat.div n 2) 1)))
noncomputable def ET.getO (t : ET) : Nat → AV := ET.rec (motive := fun _ => Nat → AV) (fun _ => .junk) (fun _ v _ gl gr => etGet v gl gr) t
noncomputable def etPut (l : ET) (x : AV) (r : ET) (pl pr : Nat → AV → ET) (n : Nat) (v : AV) : ET := sel (Nat.beq n 0) (.node l v r) (sel (Nat.beq (Nat.mod n 2) 1) (.node (pl (Nat.div n 2) v) x r) (.node l x (pr (Nat.sub (Nat.div n 2) 1) v)))
noncomputable def ET.putO (t : ET) : Nat → AV → ET := ET.rec (motive := fun _ => Nat → AV → ET) (fun _ _ => .leaf) (fun l x r pl pr => etPut l x r pl pr) t
noncomputable def ET.full (d : Nat) : ET := Nat.rec (motive := fun _ => ET) .leaf (fun _ t => .node t .junk t) d
def IsFull : Nat → ET → Prop
  | 0, .leaf => True
  | d + 1, .node l _ r => IsFull d l ∧ IsFull d r
  | _, _ => False
theorem ET.full_is : ∀ d, IsFull d (ET.full d)
  | 0 => trivial
  | d + 1 => ⟨ET.full_is d, ET.full_is d⟩
theorem ET.fullO_get : ∀ (d n : Nat), (ET.full d).getO n = .junk
  | 0, _ => rfl
  | d + 1, n => by
    show etGet .junk (ET.full d).getO (ET.full d).getO n = _
    simp only [etGet, sel_eq, ET.fullO_get d]
    split <;> (try split) <;> rfl
theorem ET.putO_full : ∀ {d : Nat} {t : ET} {n : Nat} {v : AV}, IsFull d t → IsFull d (t.putO n v)
  | 0, .leaf, _, _, _ => trivial
  | d + 1, .node l x r, n, v, h => by
    show IsFull (d + 1) (etPut l x r l.putO r.putO n v)
    simp only [etPut, sel_eq]
    split
    · exact h
    · split
      · exact ⟨ET.putO_full h.1, h.2⟩
      · exact ⟨h.1, ET.putO_full h.2⟩
  | 0, .node .., _, _, h => h.elim
  | d + 1, .leaf, _, _, h => h.elim
def gN (x : AV) (gl gr : Nat → AV) (m : Nat) : AV := if m = 0 then x else if m % 2 = 1 then gl (m / 2) else gr (m / 2 - 1)
theorem etGet_eq {x : AV} {gl gr : Nat → AV} {m : Nat} : etGet x gl gr m = gN x gl gr m := by
  simp only [etGet, gN, sel_eq, beqD, decide_eq_true_eq]
  rfl
theorem gN_0 {x v : AV} {gl gr : Nat → AV} {m : Nat} : gN v gl gr m = if m = 0 then v else gN x gl gr m := by
  unfold gN
  by_cases hm : m = 0
  · simp [hm]
  · simp [hm]
theorem gN_l {x v : AV} {gl gl' gr : Nat → AV} {n m : Nat} (h0 : ¬ n = 0) (h1 : n % 2 = 1) (hg : ∀ k, gl' k = if k = n / 2 then v else gl k) : gN x gl' gr m = if m = n then v else gN x gl gr m := by
  unfold gN
  rw [hg]
  by_cases e : m = n
  · subst e; simp [h0, h1]
  · rw [if_neg e]
    by_cases hm : m = 0
    · simp [hm]
    · by_cases ho : m % 2 = 1
      · rw [if_neg (show ¬ m / 2 = n / 2 by omega)]
      · simp [hm, ho]
theorem gN_r {x v : AV} {gl gr gr' : Nat → AV} {n m : Nat} (h0 : ¬ n = 0) (h1 : ¬ n % 2 = 1) (hg : ∀ k, gr' k = if k = n / 2 - 1 then v else gr k) : gN x gl gr' m = if m = n then v else gN x gl gr m := by
  unfold gN
  rw [hg]
  by_cases e : m = n
  · subst e; simp [h0, h1]
  · rw [if_neg e]
    by_cases hm : m = 0
    · simp [hm]
    · by_cases ho : m % 2 = 1
      · simp [hm, ho]
      · rw [if_neg (show ¬ m / 2 - 1 = n / 2 - 1 by omega)]
theorem ET.getO_put : ∀ {d : Nat} {t : ET} {n m : Nat} {v : AV}, IsFull d t → n + 1 < 2 ^ d → (t.putO n v).getO m = if m = n then v else t.getO m
  | 0, .leaf, n, m, v, _, hn => by simp at hn
  | d + 1, .node l x r, n, m, v, h, hn => by
    rw [Nat.pow_succ] at hn
    show ET.getO (etPut l x r l.putO r.putO n v) m = if m = n then v else etGet x l.getO r.getO m
    rw [etGet_eq]
    simp only [etPut, sel_eq, beqD, decide_eq_true_eq]
    split
    · rename_i h0
      subst h0
      show etGet v l.getO r.getO m = _
      rw [etGet_eq]
      exact gN_0
    · rename_i h0
      split
      · rename_i h1
        show etGet x (ET.getO (l.putO (n / 2) v)) r.getO m = _
        rw [etGet_eq]
        have h1 : n % 2 = 1 := h1
        exact gN_l h0 h1 fun k => ET.getO_put h.1 (by omega)
      · rename_i h1
        show etGet x l.getO (ET.getO (r.putO (n / 2 - 1) v)) m = _
        rw [etGet_eq]
        have h1 : ¬ n % 2 = 1 := h1
        exact gN_r h0 h1 fun k => ET.getO_put h.2 (by omega)
  | 0, .node .., _, _, _, h, _ => h.elim
  | d + 1, .leaf, _, _, _, h, _ => h.elim
noncomputable def ET.val (t : ET) : AV := ET.rec (motive := fun _ => AV) .junk (fun _ v _ _ _ => v) t
noncomputable def ET.lt (t : ET) : ET := ET.rec (motive := fun _ => ET) .leaf (fun l _ _ _ _ => l) t
noncomputable def ET.rt (t : ET) : ET := ET.rec (motive := fun _ => ET) .leaf (fun _ _ r _ _ => r) t
noncomputable def getP (p : Pth) : ET → AV := Pth.rec (motive := fun _ => ET → AV) ET.val (fun _ ih t => ih (ET.lt t)) (fun _ ih t => ih (ET.rt t)) p
noncomputable def putZ' (v : AV) (t : ET) : ET := ET.rec (motive := fun _ => ET) .leaf (fun l _ r _ _ => .node l v r) t
noncomputable def putL' (ih : AV → ET → ET) (v : AV) (t : ET) : ET := ET.rec (motive := fun _ => ET) .leaf (fun l x r _ _ => .node (ih v l) x r) t
noncomputable def putR' (ih : AV → ET → ET) (v : AV) (t : ET) : ET := ET.rec (motive := fun _ => ET) .leaf (fun l x r _ _ => .node l x (ih v r)) t
noncomputable def putP (p : Pth) : AV → ET → ET := Pth.rec (motive := fun _ => AV → ET → ET) putZ' (fun _ ih => putL' ih) (fun _ ih => putR' ih) p
noncomputable def ET.get (t : ET) (n : Nat) : AV := getP (pth n) t
noncomputable def ET.put (t : ET) (n : Nat) (v : AV) : ET := putP (pth n) v t
theorem getP_leaf : ∀ (p : Pth), getP p .leaf = .junk
  | .z => rfl
  | .l p => getP_leaf p
  | .r p => getP_leaf p
theorem putP_leaf {v : AV} : ∀ (p : Pth), putP p v .leaf = .leaf
  | .z => rfl
  | .l _ => rfl
  | .r _ => rfl
theorem getP_eq : ∀ (f n : Nat) (t : ET), n < f → getP (pthF f n) t = t.getO n
  | 0, n, t, h => by omega
  | f + 1, n, .leaf, h => by rw [getP_leaf]; rfl
  | f + 1, n, .node l v r, h => by
    show getP (sel (Nat.beq n 0) .z (sel (Nat.beq (n % 2) 1) (.l (pthF f (n / 2))) (.r (pthF f (n / 2 - 1))))) _ = etGet v l.getO r.getO n
    rw [etGet_eq]
    simp only [sel_eq, beqD, decide_eq_true_eq, gN]
    split
    · rfl
    · split
      · exact getP_eq f _ l (by omega)
      · exact getP_eq f _ r (by omega)
theorem putP_eq {v : AV} : ∀ (f n : Nat) (t : ET), n < f → putP (pthF f n) v t = t.putO n v
  | 0, n, t, h => by omega
  | f + 1, n, .leaf, h => by rw [putP_leaf]; rfl
  | f + 1, n, .node l x r, h => by
    show putP (sel (Nat.beq n 0) .z (sel (Nat.beq (n % 2) 1) (.l (pthF f (n / 2))) (.r (pthF f (n / 2 - 1))))) _ _ = etPut l x r l.putO r.putO n v
    simp only [sel_eq, beqD, decide_eq_true_eq, etPut]
    split
    · rfl
    · rename_i h0
      split
      · rename_i h1
        rw [if_pos (show n.mod 2 = 1 from h1)]
        show ET.node (putP (pthF f (n / 2)) v l) x r = _
        rw [putP_eq f _ l (by omega)]; rfl
      · rename_i h1
        rw [if_neg (show ¬ n.mod 2 = 1 from h1)]
        show ET.node l x (putP (pthF f (n / 2 - 1)) v r) = _
        rw [putP_eq f _ r (by omega)]; rfl
theorem ET.get_eq (t : ET) (n : Nat) : t.get n = t.getO n := getP_eq _ _ _ (Nat.lt_succ_self n)
theorem ET.put_eq (t : ET) (n : Nat) (v : AV) : t.put n v = t.putO n v := putP_eq _ _ _ (Nat.lt_succ_self n)
theorem ET.full_get (d n : Nat) : (ET.full d).get n = .junk := by rw [ET.get_eq, ET.fullO_get]
theorem ET.put_full {d : Nat} {t : ET} {n : Nat} {v : AV} (h : IsFull d t) : IsFull d (t.put n v) := by rw [ET.put_eq]; exact ET.putO_full h
theorem ET.get_put {d : Nat} {t : ET} {n m : Nat} {v : AV} (h : IsFull d t) (hn : n + 1 < 2 ^ d) : (t.put n v).get m = if m = n then v else t.get m := by
  rw [ET.get_eq, ET.put_eq, ET.get_eq, ET.getO_put h hn]
noncomputable def ET.putL (l : List AV) : Nat → ET → ET := List.rec (motive := fun _ => Nat → ET → ET) (fun _ t => t) (fun v _ ih n t => ih (Nat.succ n) (ET.put t n v)) l
noncomputable def toL (t : ET) (N : Nat) : List AV := (List.range N).map t.get
theorem toL_get {t : ET} {N i : Nat} : (toL t N)[i]? = if i < N then some (t.get i) else none := by
  simp only [toL, List.getElem?_map]
  split
  · rename_i h; rw [List.getElem?_eq_getElem (by simpa using h)]; simp
  · rename_i h; rw [List.getElem?_eq_none (by simpa using h)]; rfl
theorem toL_length {t : ET} {N : Nat} : (toL t N).length = N := by simp [toL]
structure Good (N : Nat) (t : ET) : Prop where
  full : ∃ d, IsFull d t ∧ N < 2 ^ d
  out : ∀ n, N ≤ n → t.get n = .junk
theorem Good.put {N : Nat} {t : ET} {n : Nat} {v : AV} (g : Good N t) (hn : n < N) : Good N (t.put n v) ∧ toL (t.put n v) N = (toL t N).set n v := by
  obtain ⟨d, h1, h2⟩ := g.full
  have hg := fun m => ET.get_put (n := n) (m := m) (v := v) h1 (by omega)
  refine ⟨⟨⟨d, ET.put_full h1, h2⟩, fun m hm => ?_⟩, ?_⟩
  · rw [hg, if_neg (by omega), g.out m hm]
  · apply List.ext_getElem?
    intro i
    rw [toL_get, List.getElem?_set, toL_get, toL_length]
    by_cases e : n = i
    · subst e; rw [if_pos hn, if_pos rfl, if_pos hn, hg, if_pos rfl]
    · rw [if_neg e]
      split
      · rw [hg, if_neg (fun q => e q.symm)]
      · rfl
theorem Good.look {N : Nat} {t : ET} (g : Good N t) {i : Nat} : ((toL t N)[i]?).bind AV.notJunk = AV.notJunk (t.get i) := by
  rw [toL_get]
  split
  · rfl
  · rename_i h; rw [g.out i (by omega)]; rfl
noncomputable def opdF (E : ET) (o : Opd) : Option AV := Opd.rec (motive := fun _ => Option AV) (fun t => AV.notJunk (E.get t)) some o
noncomputable def consV (x : Option AV) (r : Option (List AV)) : Option (List AV) := Option.rec (motive := fun _ => Option (List AV)) none (fun v => Option.rec (motive := fun _ => Option (List AV)) none (fun l => some (v :: l)) r) x
noncomputable def evalLF (E : ET) (l : List Opd) : Option (List AV) := List.rec (motive := fun _ => Option (List AV)) (some []) (fun o _ ih => consV (opdF E o) ih) l
theorem opdF_eq {N : Nat} {E : ET} (g : Good N E) {o : Opd} : opdF E o = o.eval (toL E N) := by
  cases o with
  | tmp t => exact g.look.symm
  | lit v => rfl
theorem evalLF_eq {N : Nat} {E : ET} (g : Good N E) : ∀ {l : List Opd}, evalLF E l = evalL (toL E N) l
  | [] => rfl
  | o :: l => by
    show consV (opdF E o) (evalLF E l) = _
    rw [opdF_eq g, evalLF_eq g]
    simp only [evalL]
    cases o.eval (toL E N) with
    | none => rfl
    | some v => cases evalL (toL E N) l <;> rfl
noncomputable def boolV (v : AV) (f : Bool → Option Bool) : Option Bool := match v with
  | .bool b => f b
  | .tuple _ => some false
  | _ => none
noncomputable def wantF (E : ET) (g : Option (Nat × Bool)) : Option Bool := Option.rec (motive := fun _ => Option Bool) (some true) (fun p => boolV (E.get p.1) fun b => some (b == p.2)) g
theorem wantF_eq {N : Nat} {E : ET} (g : Good N E) {w : Option (Nat × Bool)} : wantF E w = wantedA (toL E N) w := by
  cases w with
  | none => rfl
  | some p =>
    obtain ⟨s, q⟩ := p
    show boolV (E.get s) _ = _
    simp only [wantedA, toL_get]
    by_cases h : s < N
    · rw [if_pos h]; simp only [boolV]; split <;> simp_all
    · rw [if_neg h, g.out s (by omega)]; rfl
abbrev RF := Option (ET × AHeap)
noncomputable def setF (N : Nat) (dst : Option Nat) (E : ET) (v : AV) (h : AHeap) : RF := Option.rec (motive := fun _ => RF) (some (E, h)) (fun d => sel (Nat.blt d N) (some (E.put d v, h)) none) dst
noncomputable def finF (N : Nat) (dst : Option Nat) (E : ET) (r : Option (AV × AHeap)) : RF := Option.rec (motive := fun _ => RF) none (fun p => Prod.rec (motive := fun _ => RF) (fun v h => setF N dst E v h) p) r
noncomputable def runOpF (D : DSem) (N : Nat) (dst : Option Nat) (op : AOp) (args : List Opd) (E : ET) (h : AHeap) : RF := Option.rec (motive := fun _ => RF) none (fun vs => finF N dst E (doOpF D op vs h)) (evalLF E args)
noncomputable def guardF (D : DSem) (N : Nat) (dst : Option Nat) (op : AOp) (args : List Opd) (E : ET) (h : AHeap) (w : Option Bool) : RF := Option.rec (motive := fun _ => RF) none (fun b => sel b (runOpF D N dst op args E h) (setF N dst E (.tuple []) h)) w
noncomputable def runInF (D : DSem) (N : Nat) (i : AIn) (E : ET) (h : AHeap) : RF := AIn.rec (motive := fun _ => RF) (fun dst op args g => Option.rec (motive := fun _ => RF) (runOpF D N dst op args E h) (fun p => guardF D N dst op args E h (wantF E (some p))) g) i
noncomputable def bindEH {β : Type} (r : RF) (k : ET → AHeap → Option β) : Option β := Option.rec (motive := fun _ => Option β) none (fun p => Prod.rec (motive := fun _ => Option β) k p) r
noncomputable def runInsF (D : DSem) (N : Nat) (is : List AIn) : ET → AHeap → RF := List.rec (motive := fun _ => ET → AHeap → RF) (fun E h => some (E, h)) (fun i _ ih E h => bindEH (runInF D N i E h) ih) is
section
variable {D : DSem} {N : Nat}
theorem setF_ok {dst : Option Nat} {E E' : ET} {v : AV} {h h' : AHeap} (g : Good N E) (x : setF N dst E v h = some (E', h')) : Good N E' ∧ toL E' N = setDst (toL E N) dst v ∧ h' = h := by
  cases dst with
  | none => cases x; exact ⟨g, rfl, rfl⟩
  | some d =>
    change sel (Nat.blt d N) (some (E.put d v, h)) none = _ at x
    rw [sel_eq, bltD] at x
    split at x
    · rename_i hd
      cases x
      obtain ⟨g1, g2⟩ := g.put (v := v) (of_decide_eq_true hd)
      exact ⟨g1, g2, rfl⟩
    · cases x
theorem runOpF_ok {dst : Option Nat} {op : AOp} {args : List Opd} {E E' : ET} {h h' : AHeap} (g : Good N E) (x : runOpF D N dst op args E h = some (E', h')) : Good N E' ∧ runInD D ⟨dst, op, args, none⟩ (toL E N) h = some (toL E' N, h') := by
  unfold runOpF at x
  rw [evalLF_eq g] at x
  unfold runInD
  simp only [wantedA]
  cases he : evalL (toL E N) args with
  | none => rw [he] at x; cases x
  | some vs =>
    rw [he] at x
    change finF N dst E (doOpF D op vs h) = _ at x
    rw [doOpF_eq] at x
    cases hd : doOpD D op vs h with
    | none => rw [hd] at x; cases x
    | some p =>
      obtain ⟨v, h1⟩ := p
      rw [hd] at x
      obtain ⟨g1, g2, rfl⟩ := setF_ok g x
      exact ⟨g1, by simp only [hd, g2]⟩
theorem runInF_ok {i : AIn} {E E' : ET} {h h' : AHeap} (g : Good N E) (x : runInF D N i E h = some (E', h')) : Good N E' ∧ runInD D i (toL E N) h = some (toL E' N, h') := by
  obtain ⟨dst, op, args, w⟩ := i
  cases w with
  | none => exact runOpF_ok g x
  | some p =>
    change guardF D N dst op args E h (wantF E (some p)) = _ at x
    rw [wantF_eq g] at x
    unfold runInD
    cases hw : wantedA (toL E N) (some p) with
    | none => rw [hw] at x; cases x
    | some b =>
      rw [hw] at x
      cases b with
      | true =>
        obtain ⟨g1, g2⟩ := runOpF_ok g x
        refine ⟨g1, ?_⟩
        unfold runInD at g2
        simpa only [wantedA] using g2
      | false =>
        obtain ⟨g1, g2, rfl⟩ := setF_ok g x
        exact ⟨g1, by rw [g2]⟩
theorem runInsF_ok : ∀ {is : List AIn} {E E' : ET} {h h' : AHeap}, Good N E → runInsF D N is E h = some (E', h') → Good N E' ∧ runInsD D is (toL E N) h = some (toL E' N, h')
  | [], _, _, _, _, g, x => by cases x; exact ⟨g, rfl⟩
  | i :: is, E, E', h, h', g, x => by
    change bindEH (runInF D N i E h) (runInsF D N is) = _ at x
    cases hi : runInF D N i E h with
    | none => rw [hi] at x; cases x
    | some p =>
      obtain ⟨E1, h1⟩ := p
      rw [hi] at x
      obtain ⟨g1, g2⟩ := runInF_ok g hi
      obtain ⟨g3, g4⟩ := runInsF_ok g1 x
      refine ⟨g3, ?_⟩
      simp only [runInsD, g2]
      exact g4
end
noncomputable def againF (N : Nat) (r : AIn) (E : ET) (h : AHeap) : Bool := again r (toL E N) h
noncomputable def runDrawF (D : DSem) (N : Nat) (ds : List DI) : ET → AHeap → Option ((ET × AHeap) × List (Nat × Nat × Nat)) := List.rec (motive := fun _ => ET → AHeap → Option ((ET × AHeap) × List (Nat × Nat × Nat))) (fun E h => some ((E, h), []))
  (fun d _ ih E h => bindEH (runInF D N d.i E h) fun E' h' => sel (d.rs.all fun r => againF N r.2 E' h') (Option.rec (motive := fun _ => Option ((ET × AHeap) × List (Nat × Nat × Nat))) none (fun p => some (p.1, (d.j, h.next, h'.next) :: p.2)) (ih E' h')) none) ds
theorem runDrawF_ok {D : DSem} {N : Nat} : ∀ {ds : List DI} {E E' : ET} {h h' : AHeap} {l : List (Nat × Nat × Nat)}, Good N E → runDrawF D N ds E h = some ((E', h'), l) → Good N E' ∧ runDrawT D ds (toL E N) h = some ((toL E' N, h'), l)
  | [], _, _, _, _, _, g, x => by cases x; exact ⟨g, rfl⟩
  | d :: ds, E, E', h, h', l, g, x => by
    change bindEH (runInF D N d.i E h) (fun E1 h1 => sel (d.rs.all fun r => againF N r.2 E1 h1) (Option.rec (motive := fun _ => Option ((ET × AHeap) × List (Nat × Nat × Nat))) none (fun p => some (p.1, (d.j, h.next, h1.next) :: p.2)) (runDrawF D N ds E1 h1)) none) = _ at x
    cases hi : runInF D N d.i E h with
    | none => rw [hi] at x; cases x
    | some p =>
      obtain ⟨E1, h1⟩ := p
      rw [hi] at x
      change sel (d.rs.all fun r => againF N r.2 E1 h1) _ none = _ at x
      obtain ⟨g1, g2⟩ := runInF_ok g hi
      rw [sel_eq] at x
      simp only [runDrawT, g2]
      split at x
      · rename_i ha
        rw [if_pos (by simpa only [againF] using ha)]
        cases hr : runDrawF D N ds E1 h1 with
        | none => rw [hr] at x; cases x
        | some q =>
          obtain ⟨⟨E2, h2⟩, l2⟩ := q
          rw [hr] at x
          cases x
          obtain ⟨g3, g4⟩ := runDrawF_ok g1 hr
          exact ⟨g3, by rw [g4]⟩
      · cases x
abbrev XF := Option (AExit × ET × AHeap)
noncomputable def bindX (r : XF) (n : ET → AHeap → XF) (e : Nat → ET → AHeap → XF) (t : ET → AHeap → XF) : XF :=
  Option.rec (motive := fun _ => XF) none (fun p => Prod.rec (motive := fun _ => XF) (fun x q => Prod.rec (motive := fun _ => XF) (fun E h => AExit.rec (motive := fun _ => XF) (n E h) (fun i => e i E h) (t E h) x) q) p) r
noncomputable def exitX (i : Nat) (E : ET) (h : AHeap) : XF := some (.exit i, E, h)
noncomputable def retX (E : ET) (h : AHeap) : XF := some (.ret, E, h)
noncomputable def normX (E : ET) (h : AHeap) : XF := some (.normal, E, h)
noncomputable def loopF (b : ET → AHeap → XF) (k : Nat) : ET → AHeap → XF := Nat.rec (motive := fun _ => ET → AHeap → XF) b (fun _ ih E h => bindX (ih E h) ih exitX retX) k
noncomputable def noX (_ : ET) (_ : AHeap) : XF := none
noncomputable def condF (v : Option AV) (a b : XF) : XF := Option.rec (motive := fun _ => XF) none (fun v => Option.rec (motive := fun _ => XF) none (fun q => sel q a b) (boolV2 v)) v
where boolV2 (v : AV) : Option Bool := match v with
  | .bool b => some b
  | _ => none
noncomputable def execF (D : DSem) (N : Nat) (ro : Option Nat) (c : ACode) : ET → AHeap → XF := ACode.rec (motive := fun _ => ET → AHeap → XF)
  normX
  (fun ops E h => bindEH (runInsF D N ops E h) normX)
  (fun _ _ fa fb E h => bindX (fa E h) fb exitX retX)
  (fun c _ _ fa fb E h => condF (opdF E c) (fa E h) (fb E h))
  (fun id _ f E h => bindX (f E h) normX (fun i E h => sel (Nat.beq i id) (normX E h) (exitX i E h)) retX)
  (fun _ f E h => bindX (loopF f 40 E h) noX exitX retX)
  (fun f ps asg body _ _ E h => rfunF D N ro f ps asg body E h)
  exitX
  retX
  (fun alts E h => drawF D N alts E h)
  noX c
where
  rfunF (D : DSem) (N : Nat) (ro : Option Nat) (f : Opd) (ps : List Nat) (asg body : ACode) (E : ET) (h : AHeap) : XF :=
    match opdF E f with
    | some (.func g first captured) => if isLoopD h ro then
        match D (.f g) (first ++ [.yield h.next] ++ captured) (h.new (.loop .ready none (toL E N) ps asg body)) with
        | some (_, h') => match h'.get h.next with
          | some (.loop .busy _ _ _ _ _) => none
          | some (.loop _ j _ _ _ _) => some (j.getD .normal, E, h'.kill h.next)
          | _ => none
        | none => none
      else none
    | _ => none
  drawF (D : DSem) (N : Nat) (alts : List (List DI)) (E : ET) (h : AHeap) : XF :=
    match alts with
    | ds :: rest => match runDrawF D N ds E h with
      | some ((E0, h0), l0) => if rest.all (fun d1 => match runDrawF D N d1 E h with
          | some ((E1, h1), l1) => renOk h.next (shiftOf l0 l1) (shiftOf l1 l0) (toL E0 N) h0 (toL E1 N) h1
          | none => false) then some (.normal, E0, h0) else none
      | none => none
    | _ => none
end Go.Proofs.YtlkfclgkinaibaaGreat

namespace Go.Proofs.YtlkfclgkinaibaaGreat
section
variable {D : DSem} {N : Nat}
theorem bindX_some {r : XF} {n : ET → AHeap → XF} {e : Nat → ET → AHeap → XF} {t : ET → AHeap → XF} {y : AExit × ET × AHeap} (x : bindX r n e t = some y) :
    ∃ z E h, r = some (z, E, h) ∧ (match z with | .normal => n E h | .exit i => e i E h | .ret => t E h) = some y := by
  cases r with
  | none => cases x
  | some p =>
    obtain ⟨z, E, h⟩ := p
    refine ⟨z, E, h, rfl, ?_⟩
    cases z <;> exact x
theorem loopF_ok {b : ET → AHeap → XF} {body : List AV → AHeap → OutD} (hb : ∀ E h x E' h', Good N E → b E h = some (x, E', h') → Good N E' ∧ body (toL E N) h = some (x, toL E' N, h')) :
    ∀ (k : Nat) {E E' : ET} {h h' : AHeap} {x : AExit}, Good N E → loopF b k E h = some (x, E', h') → Good N E' ∧ (x = .normal → ∀ n, iterD body (n + 2 ^ k) (toL E N) h = iterD body n (toL E' N) h') ∧ (x ≠ .normal → ∀ n, iterD body (n + 2 ^ k) (toL E N) h = some (x, toL E' N, h'))
  | 0, E, E', h, h', x, g, e => by
    obtain ⟨g1, g2⟩ := hb _ _ _ _ _ g e
    refine ⟨g1, fun hx n => ?_, fun hx n => ?_⟩
    · subst hx
      simp only [Nat.pow_zero, iterD, g2]
    · simp only [Nat.pow_zero, iterD, g2]
      cases x with
      | normal => exact absurd rfl hx
      | exit i => rfl
      | ret => rfl
  | k + 1, E, E', h, h', x, g, e => by
    have e : bindX (loopF b k E h) (loopF b k) exitX retX = some (x, E', h') := e
    obtain ⟨z, E1, h1, e1, e2⟩ := bindX_some e
    obtain ⟨g1, p1, p2⟩ := loopF_ok hb k g e1
    cases z with
    | normal =>
      obtain ⟨g2, q1, q2⟩ := loopF_ok hb k g1 e2
      refine ⟨g2, fun hx n => ?_, fun hx n => ?_⟩
      · rw [Nat.pow_succ, show n + 2 ^ k * 2 = (n + 2 ^ k) + 2 ^ k by omega, p1 rfl, q1 hx]
      · rw [Nat.pow_succ, show n + 2 ^ k * 2 = (n + 2 ^ k) + 2 ^ k by omega, p1 rfl, q2 hx]
    | exit i =>
      cases e2
      refine ⟨g1, fun hx => (by cases hx), fun hx n => ?_⟩
      rw [Nat.pow_succ, show n + 2 ^ k * 2 = (n + 2 ^ k) + 2 ^ k by omega]
      exact p2 hx _
    | ret =>
      cases e2
      refine ⟨g1, fun hx => (by cases hx), fun hx n => ?_⟩
      rw [Nat.pow_succ, show n + 2 ^ k * 2 = (n + 2 ^ k) + 2 ^ k by omega]
      exact p2 hx _
theorem rounds_eq : rounds = 0 + 2 ^ 40 := by decide
theorem execF_ok {ro : Option Nat} : ∀ {c : ACode} {E E' : ET} {h h' : AHeap} {x : AExit}, Good N E → execF D N ro c E h = some (x, E', h') → Good N E' ∧ execD D ro c (toL E N) h = some (x, toL E' N, h')
  | .skip, _, _, _, _, _, g, e => by cases e; exact ⟨g, rfl⟩
  | .region ops, E, E', h, h', x, g, e => by
    change bindEH (runInsF D N ops E h) normX = _ at e
    cases hi : runInsF D N ops E h with
    | none => rw [hi] at e; cases e
    | some p =>
      obtain ⟨E1, h1⟩ := p
      rw [hi] at e
      cases e
      obtain ⟨g1, g2⟩ := runInsF_ok g hi
      exact ⟨g1, by simp only [execD, g2]⟩
  | .seq a b, E, E', h, h', x, g, e => by
    change bindX (execF D N ro a E h) (execF D N ro b) exitX retX = _ at e
    obtain ⟨z, E1, h1, e1, e2⟩ := bindX_some e
    obtain ⟨g1, p1⟩ := execF_ok g e1
    cases z with
    | normal =>
      obtain ⟨g2, p2⟩ := execF_ok g1 e2
      exact ⟨g2, by simp only [execD, p1, p2]⟩
    | exit i => cases e2; exact ⟨g1, by simp only [execD, p1]⟩
    | ret => cases e2; exact ⟨g1, by simp only [execD, p1]⟩
  | .cond c a b, E, E', h, h', x, g, e => by
    change condF (opdF E c) (execF D N ro a E h) (execF D N ro b E h) = _ at e
    rw [opdF_eq g] at e
    simp only [execD]
    cases hc : c.eval (toL E N) with
    | none => rw [hc] at e; cases e
    | some v =>
      rw [hc] at e
      cases v with
      | bool q =>
        cases q with
        | true => exact execF_ok g e
        | false => exact execF_ok g e
      | _ => cases e
  | .block id b, E, E', h, h', x, g, e => by
    change bindX (execF D N ro b E h) normX (fun i E h => sel (Nat.beq i id) (normX E h) (exitX i E h)) retX = _ at e
    obtain ⟨z, E1, h1, e1, e2⟩ := bindX_some e
    obtain ⟨g1, p1⟩ := execF_ok g e1
    cases z with
    | normal => cases e2; exact ⟨g1, by simp only [execD, p1]⟩
    | exit i =>
      change sel (Nat.beq i id) (normX E1 h1) (exitX i E1 h1) = _ at e2
      rw [sel_eq, beqD] at e2
      split at e2
      · rename_i hi
        cases e2
        exact ⟨g1, by simp only [execD, p1, if_pos (of_decide_eq_true hi)]⟩
      · rename_i hi
        cases e2
        exact ⟨g1, by simp only [execD, p1, if_neg (fun q => hi (decide_eq_true q))]⟩
    | ret => cases e2; exact ⟨g1, by simp only [execD, p1]⟩
  | .loop b, E, E', h, h', x, g, e => by
    change bindX (loopF (execF D N ro b) 40 E h) noX exitX retX = _ at e
    obtain ⟨z, E1, h1, e1, e2⟩ := bindX_some e
    obtain ⟨g1, p1, p2⟩ := loopF_ok (body := execD D ro b) (fun E h x E' h' g e => execF_ok g e) 40 g e1
    simp only [execD, rounds_eq]
    cases z with
    | normal => cases e2
    | exit i => cases e2; exact ⟨g1, p2 (fun q => by cases q) 0⟩
    | ret => cases e2; exact ⟨g1, p2 (fun q => by cases q) 0⟩
  | .exit _, _, _, _, _, _, g, e => by cases e; exact ⟨g, rfl⟩
  | .ret, _, _, _, _, _, g, e => by cases e; exact ⟨g, rfl⟩
  | .draw alts, E, E', h, h', x, g, e => by
    change execF.drawF D N alts E h = _ at e
    unfold execF.drawF at e
    simp only [execD]
    split at e
    · rename_i ds rest
      split at e
      · rename_i E0 h0 l0 h1
        obtain ⟨g1, p1⟩ := runDrawF_ok g h1
        split at e
        · rename_i hall
          cases e
          refine ⟨g1, ?_⟩
          dsimp only
          rw [p1]
          dsimp only
          rw [if_pos]
          refine List.all_eq_true.2 fun d1 hd => ?_
          have := List.all_eq_true.1 hall d1 hd
          split at this
          · rename_i E1 hh1 l1 h2
            obtain ⟨g2, p2⟩ := runDrawF_ok g h2
            rw [p2]
            exact this
          · cases this
        · cases e
      · cases e
    · cases e
  | .rfun f ps asg body, E, E', h, h', x, g, e => by
    change execF.rfunF D N ro f ps asg body E h = _ at e
    unfold execF.rfunF at e
    rw [opdF_eq g] at e
    simp only [execD]
    split at e
    · rename_i gg first captured hf
      rw [hf]
      dsimp only
      split at e
      · rename_i hl
        rw [if_pos hl]
        split at e
        · rename_i v h1 h2
          rw [h2]
          dsimp only
          split at e
          · cases e
          · rename_i st j t p a b hne hg
            cases e
            refine ⟨g, ?_⟩
            rw [hg]
            split
            · rename_i heq; cases heq; exact absurd rfl hne
            · rename_i heq; cases heq; rfl
            · rename_i h3 h4; exact absurd rfl (h4 _ _ _ _ _ _)
          · cases e
        · cases e
      · cases e
    · cases e
  | .bad, _, _, _, _, _, _, e => by cases e
theorem putL_good : ∀ {l : List AV} {n : Nat} {E : ET}, Good N E → n + l.length ≤ N → Good N (ET.putL l n E) ∧ toL (ET.putL l n E) N = (toL E N).take n ++ l ++ (toL E N).drop (n + l.length)
  | [], n, E, g, hn => ⟨g, by
    show toL E N = _
    simp⟩
  | v :: l, n, E, g, hn => by
    simp only [List.length_cons] at hn
    obtain ⟨g1, p1⟩ := g.put (n := n) (v := v) (by omega)
    obtain ⟨g2, p2⟩ := putL_good (l := l) (n := n + 1) g1 (by omega)
    refine ⟨g2, ?_⟩
    show toL (ET.putL l (n + 1) (E.put n v)) N = _
    rw [p2, p1]
    have hl : (toL E N).length = N := toL_length
    have ht : ((toL E N).set n v).take (n + 1) = (toL E N).take n ++ [v] := by
      rw [List.take_add_one, List.take_set, List.set_eq_of_length_le (by rw [List.length_take]; omega), List.getElem?_set, if_pos rfl, if_pos (by omega)]; rfl
    have hd : ((toL E N).set n v).drop (n + 1 + l.length) = (toL E N).drop (n + (v :: l).length) := by
      rw [List.drop_set, if_pos (by omega), List.length_cons, show n + 1 + l.length = n + (l.length + 1) by omega]
    rw [ht, hd, List.append_assoc, List.append_assoc, List.append_assoc]
    rfl
noncomputable def newE (n : Nat) : ET := ET.full (Nat.succ (Nat.log2 n))
theorem newE_good (n : Nat) : Good n (newE n) ∧ toL (newE n) n = List.replicate n .junk := by
  refine ⟨⟨⟨_, ET.full_is _, Nat.lt_log2_self⟩, fun m _ => ET.full_get _ _⟩, ?_⟩
  apply List.ext_getElem?
  intro i
  rw [toL_get, List.getElem?_replicate]
  split
  · rw [newE, ET.full_get]
  · rfl
noncomputable def cellF (v : Option AV) (o : AOp) (h : AHeap) : Option AV := Option.rec (motive := fun _ => Option AV) none (fun a => Option.rec (motive := fun _ => Option AV) none (fun p => some p.1) (aop o [a] h)) v
noncomputable def resOneF (E : ET) (h : AHeap) (r : ARes) : Option AV := ARes.rec (motive := fun _ => Option AV) (fun t => AV.notJunk (E.get t)) (fun t o => cellF (AV.notJunk (E.get t)) o h) r
noncomputable def resF (E : ET) (h : AHeap) (rs : List ARes) : Option (List AV) := List.rec (motive := fun _ => Option (List AV)) (some []) (fun r _ ih => consV (resOneF E h r) ih) rs
theorem resF_eq {E : ET} (g : Good N E) {h : AHeap} : ∀ {rs : List ARes}, resF E h rs = resA (toL E N) h rs
  | [] => rfl
  | .tmp t :: rs => by
    show consV (AV.notJunk (E.get t)) (resF E h rs) = _
    simp only [resA, Opd.eval, g.look, resF_eq g (rs := rs)]
    cases AV.notJunk (E.get t) with
    | none => rfl
    | some v => cases resA (toL E N) h rs <;> rfl
  | .cell t o :: rs => by
    show consV (cellF (AV.notJunk (E.get t)) o h) (resF E h rs) = _
    simp only [resA, Opd.eval, g.look, resF_eq g (rs := rs)]
    cases AV.notJunk (E.get t) with
    | none => rfl
    | some v =>
      show consV (Option.rec (motive := fun _ => Option AV) none (fun p => some p.1) (aop o [v] h)) _ = _
      dsimp only
      cases aop o [v] h with
      | none => rfl
      | some p => cases resA (toL E N) h rs <;> rfl
noncomputable def retF (vs : Option (List AV)) (h : AHeap) : Option (AV × AHeap) := Option.rec (motive := fun _ => Option (AV × AHeap)) none (fun vs => some (retA vs, h)) vs
noncomputable def setPs (N : Nat) (ps : List Nat) : List AV → ET → Option ET := List.rec (motive := fun _ => List AV → ET → Option ET) (fun _ E => some E) (fun p _ ih vs E => List.rec (motive := fun _ => Option ET) (some E) (fun v r _ => sel (Nat.blt p N) (ih r (E.put p v)) none) vs) ps
theorem setPs_ok : ∀ {ps : List Nat} {vs : List AV} {E E' : ET}, Good N E → setPs N ps vs E = some E' → Good N E' ∧ toL E' N = setAll (toL E N) ps vs
  | [], vs, E, E', g, x => by cases x; exact ⟨g, by simp [setAll]⟩
  | p :: ps, [], E, E', g, x => by cases x; exact ⟨g, by simp [setAll]⟩
  | p :: ps, v :: vs, E, E', g, x => by
    change sel (Nat.blt p N) (setPs N ps vs (E.put p v)) none = _ at x
    rw [sel_eq, bltD] at x
    split at x
    · rename_i hp
      obtain ⟨g1, p1⟩ := g.put (n := p) (v := v) (of_decide_eq_true hp)
      obtain ⟨g2, p2⟩ := setPs_ok g1 x
      exact ⟨g2, by rw [p2, p1, setAll]⟩
    · cases x
noncomputable def roundF (D : DSem) (l : Nat) (args : List AV) (h : AHeap) : Option (AV × AHeap) :=
  match h.get l with
  | some (.loop _ _ tmps ps asg body) => if args.length = ps.length then
      match setPs tmps.length ps args (ET.putL tmps 0 (newE tmps.length)) with
      | some E => match execF D tmps.length (some l) asg E h with
        | some (.normal, E1, h1) => match h1.get l with
          | some (.loop .ready j t p a b) => match execF D tmps.length (some l) body E1 (h1.put l (.loop .busy j t p a b)) with
            | some (x, _, h2) => match h2.get l with
              | some (.loop _ _ t p a b) => match x with
                | .normal => some (.bool true, h2.put l (.loop .ready none t p a b))
                | .exit i => some (.bool false, h2.put l (.loop .done (some (.exit i)) t p a b))
                | .ret => some (.bool false, h2.put l (.loop .done (some .ret) t p a b))
              | _ => none
            | none => none
          | _ => none
        | _ => none
      | none => none
    else none
  | _ => none
theorem roundF_ok {l : Nat} {args : List AV} {h h' : AHeap} {v : AV} (x : roundF D l args h = some (v, h')) : roundD D l args h = some (v, h') := by
  unfold roundF at x
  unfold roundD
  split at x
  · rename_i st0 j0 tmps ps asg body hg
    rw [hg]
    dsimp only
    split at x
    · rename_i hl
      rw [if_pos hl]
      split at x
      · rename_i E hE
        obtain ⟨g0, p0⟩ := newE_good tmps.length
        obtain ⟨g1, p1⟩ := putL_good (l := tmps) (n := 0) g0 (by omega)
        obtain ⟨g2, p2⟩ := setPs_ok g1 hE
        have e0 : toL (ET.putL tmps 0 (newE tmps.length)) tmps.length = tmps := by rw [p1, p0]; simp
        rw [e0] at p2
        rw [← p2]
        split at x
        · rename_i E1 h1 he
          obtain ⟨g3, p3⟩ := execF_ok g2 he
          rw [p3]
          dsimp only
          split at x
          · rename_i j t p a b hg1
            rw [hg1]
            dsimp only
            split at x
            · rename_i y E2 h2 he2
              obtain ⟨g4, p4⟩ := execF_ok g3 he2
              rw [p4]
              exact x
            · cases x
          · cases x
        · cases x
      · cases x
    · cases x
  · cases x
end
noncomputable def BT.getK (t : BT) (n : Nat) : Option AFn := BT.rec (motive := fun _ => Option AFn) none (fun _ k v _ gl gr => sel (Nat.beq n k) (some v) (sel (Nat.blt n k) gl gr)) t
theorem BT.getK_eq {n : Nat} : ∀ {t : BT}, t.getK n = t.get n
  | .leaf => rfl
  | .node l k v r => by
    show sel (Nat.beq n k) (some v) (sel (Nat.blt n k) (l.getK n) (r.getK n)) = _
    simp only [BT.get, sel_eq, beqD, bltD, decide_eq_true_eq, BT.getK_eq (t := l), BT.getK_eq (t := r)]
noncomputable def orF (a b : Option (AV × AHeap)) : Option (AV × AHeap) := Option.rec (motive := fun _ => Option (AV × AHeap)) b some a
end Go.Proofs.YtlkfclgkinaibaaGreat

namespace Go.Proofs.YtlkfclgkinaibaaGreat
def Runs (O : Nat → Option FSpec) (T : BT) (f : Nat) (args : List AV) (h : AHeap) (v : AV) (h1 : AHeap) : Prop := ∀ Q : AV → AHeap → Prop, Q v h1 → progI O T (.f f) args h Q
section
variable {O : Nat → Option FSpec} {T : BT} {ro : Option Nat} {N : Nat} {Q : AExit → Env → AHeap → Prop} {k : List KI} {s : Env} {h h1 : AHeap}
theorem W.dx {d : Nat} {op : AOp} {os : List Opd} {is : List AIn} {vs : List AV} {v : AV} (ha : evalLS s os = some vs := by rfl) (ho : Does op vs h v h1) (hj : v.notJunk = some v := by first | rfl | assumption) (hd : Nat.blt d N = true := by rfl) (w : W O T ro N Q .normal (.ins is :: k) ((d, v) :: s) h1) :
    W O T ro N Q .normal (.ins (⟨some d, op, os, none⟩ :: is) :: k) s h :=
  W.eff (K := fun v' h' => v' = v ∧ h' = h1) ⟨ho.do ⟨rfl, rfl⟩⟩ ha hd fun _ _ ⟨e1, e2⟩ => by subst e1; subst e2; exact ⟨hj, w⟩
theorem W.dx0 {op : AOp} {os : List Opd} {is : List AIn} {vs : List AV} {v : AV} (ha : evalLS s os = some vs := by rfl) (ho : Does op vs h v h1) (w : W O T ro N Q .normal (.ins is :: k) s h1) :
    W O T ro N Q .normal (.ins (⟨none, op, os, none⟩ :: is) :: k) s h :=
  W.eff0 (K := fun v' h' => v' = v ∧ h' = h1) ⟨ho.do ⟨rfl, rfl⟩⟩ ha fun _ _ ⟨e1, e2⟩ => by subst e1; subst e2; exact w
theorem W.cx {d f : Nat} {os : List Opd} {is : List AIn} {first captured rest args : List AV} {v : AV} (ha : evalLS s os = some (.func f first captured :: rest) := by rfl) (hx : first ++ rest ++ captured = args := by rfl) (hr : Runs O T f args h v h1) (hj : v.notJunk = some v := by first | rfl | assumption) (hd : Nat.blt d N = true := by rfl) (w : W O T ro N Q .normal (.ins is :: k) ((d, v) :: s) h1) :
    W O T ro N Q .normal (.ins (⟨some d, .callv, os, none⟩ :: is) :: k) s h :=
  W.eff (K := fun v' h' => v' = v ∧ h' = h1) ⟨by subst hx; exact hr _ ⟨rfl, rfl⟩⟩ ha hd fun _ _ ⟨e1, e2⟩ => by subst e1; subst e2; exact ⟨hj, w⟩
theorem x_alloc {e es : Nat} {z : Dat} (hz : z.len = es) (h0 : Nat.blt 0 es = true) : Does (.alloc e es z) [] h (.ptr h.next 0) (h.new (.row e es false false z)) := ⟨rfl, by
  simp only [aop, newRow']; rw [if_pos hz, if_pos (blt_of h0)]; rfl⟩
theorem x_box {e es : Nat} {v : AV} (hz : v.dat.len = es) (h0 : Nat.blt 0 es = true) : Does (.box e es) [v] h (.ptr h.next 0) (h.new (.row e es false false v.dat)) := ⟨rfl, by
  have hlt := blt_of h0
  simp only [aop, newRow']; rw [if_pos ⟨hz, hlt⟩, if_pos hlt]; rfl⟩
theorem x_store {id off e es n : Nat} {soft : Bool} {d d' : Dat} {v : AV} (hg : h.get id = some (.row e es soft false d)) (hn : v.dat.len = n) (h0 : Nat.blt 0 n = true) (hd : d.put off v.dat = some d') : Does (.store n) [.ptr id off, v] h (.tuple []) (h.put id (.row e es soft false d')) := ⟨rfl, by
  simp only [aop, hg]; rw [if_pos ⟨hn, blt_of h0⟩, hd]; rfl⟩
theorem W.loopx {σ : Type} {b : ACode} (E : σ → Env) (H : σ → AHeap) (φ : σ → Prop) (m : σ → Nat) (x0 : σ) (hm : m x0 < rounds) (hs : Sub (E x0) s) (hh : h = H x0) (h0 : φ x0)
    (hb : ∀ y, φ y → W O T ro N Q .normal (.code b :: .lp (fun s' h' => ∃ z, m z < m y ∧ φ z ∧ Sub (E z) s' ∧ h' = H z) :: k) (E y) (H y)) : W O T ro N Q .normal (.code (.loop b) :: k) s h := by
  have key : ∀ (n : Nat) (y : σ), m y < n → φ y → ∀ e, e.length = N → Cov (E y) e → iterW (execW (progI O T) ro b) n e (H y) (postK (progI O T) ro N k fun x e h => ∃ s', e.length = N ∧ Cov s' e ∧ Q x s' h) := by
    intro n
    induction n with
    | zero => intro y hy; omega
    | succ n ih =>
      intro y hy hφ e hl hc
      refine execW_mono (fun _ _ _ _ x => x) progI_mono (fun z e' h' q => ?_) ((hb y hφ).run e hl hc)
      cases z with
      | normal =>
        obtain ⟨s', p1, p2, z, hz, hφ', hsub, rfl⟩ := q
        exact ⟨_, fun _ => Less.refl _, ih z (by omega) hφ' e' p1 (p2.sub hsub)⟩
      | exit i => exact q
      | ret => exact q
  subst hh
  exact ⟨fun e hl hc => key rounds x0 hm h0 e hl (hc.sub hs)⟩
theorem W.loopd {σ : Type} {b : ACode} (E : σ → Env) (H : σ → AHeap) (φ : σ → Prop) (m : σ → Nat) (x0 : σ) (hm : m x0 < rounds) (hs : Sub (E x0) s) (hh : h = H x0) (h0 : φ x0)
    (hb : ∀ y, φ y → W O T ro N Q .normal (.code b :: .lp (fun s' h' => ∃ z, m z < m y ∧ φ z ∧ Sub (E z) s' ∧ ((∀ id o, (H y).get id = some o → id < (H y).next) → Less (H z) h')) :: k) (E y) (H y)) : W O T ro N Q .normal (.code (.loop b) :: k) s h := by
  have key : ∀ (n : Nat) (y : σ), m y < n → φ y → ∀ e, e.length = N → Cov (E y) e → iterW (execW (progI O T) ro b) n e (H y) (postK (progI O T) ro N k fun x e h => ∃ s', e.length = N ∧ Cov s' e ∧ Q x s' h) := by
    intro n
    induction n with
    | zero => intro y hy; omega
    | succ n ih =>
      intro y hy hφ e hl hc
      refine execW_mono (fun _ _ _ _ x => x) progI_mono (fun z e' h' q => ?_) ((hb y hφ).run e hl hc)
      cases z with
      | normal =>
        obtain ⟨s', p1, p2, z, hz, hφ', hsub, hl⟩ := q
        exact ⟨H z, hl, ih z (by omega) hφ' e' p1 (p2.sub hsub)⟩
      | exit i => exact q
      | ret => exact q
  subst hh
  exact ⟨fun e hl hc => key rounds x0 hm h0 e hl (hc.sub hs)⟩
theorem runs_w {n : Nat} {f : AFn} {args : List AV} {v : AV} (u : ∀ args h Q, callW (progI O T) f args h Q → progI O T (.f n) args h Q) (hj : NoJunk args) (hl : Nat.ble args.length f.ntmps = true)
    (w : W O T none f.ntmps (fnQ f.res fun v' h' => v' = v ∧ h' = h1) .normal [.code f.body] (argS 0 args) h) : Runs O T n args h v h1 := fun Q q =>
  u _ _ _ (call_walk progI_mono hj hl ⟨fun e hl hc => execW_mono (fun _ _ _ _ x => x) progI_mono (fun y e h q => by cases y <;> exact q) ((show W O T none f.ntmps (fnQ f.res Q) .normal [.code f.body] (argS 0 args) h from
    ⟨fun e hl hc => execW_mono (fun _ _ _ _ x => x) progI_mono (fun y e h ⟨s', p1, p2, p3⟩ => by
      cases y with
      | normal => obtain ⟨vs, a, rfl, rfl⟩ := p3; exact ⟨s', p1, p2, vs, a, q⟩
      | exit i => exact p3.elim
      | ret => obtain ⟨vs, a, rfl, rfl⟩ := p3; exact ⟨s', p1, p2, vs, a, q⟩) (w.run e hl hc)⟩).run e hl hc)⟩)
theorem runs_wl {n : Nat} {f : AFn} {args : List AV} {v : AV} (hO : O n = none) (hT : T.get n = some f) (hj : NoJunk args) (hl : Nat.ble args.length f.ntmps = true)
    (w : W O T none f.ntmps (fnQ f.res fun v' h' => v' = v ∧ ((∀ id o, h.get id = some o → id < h.next) → Less h1 h')) .normal [.code f.body] (argS 0 args) h) : Runs O T n args h v h1 := fun Q q =>
  progI_drop hO hT (call_walk progI_mono hj hl ⟨fun e hl hc => execW_mono (fun _ _ _ _ x => x) progI_mono (fun y e h q => by cases y <;> exact q) ((show W O T none f.ntmps (fnQ f.res fun v' h' => ∃ h2, ((∀ id o, h.get id = some o → id < h.next) → Less h2 h') ∧ Q v' h2) .normal [.code f.body] (argS 0 args) h from
    ⟨fun e hl hc => execW_mono (fun _ _ _ _ x => x) progI_mono (fun y e h ⟨s', p1, p2, p3⟩ => by
      cases y with
      | normal => obtain ⟨vs, a, rfl, c⟩ := p3; exact ⟨s', p1, p2, vs, a, h1, c, q⟩
      | exit i => exact p3.elim
      | ret => obtain ⟨vs, a, rfl, c⟩ := p3; exact ⟨s', p1, p2, vs, a, h1, c, q⟩) (w.run e hl hc)⟩).run e hl hc)⟩)
theorem stepW_mono {S S' : SemW} (hS : ∀ g args h Q, S g args h Q → S' g args h Q) (hM : MonoW S') {g : Fn} {args : List AV} {h : AHeap} {Q Q' : AV → AHeap → Prop} (hQ : ∀ v h, Q v h → Q' v h) (hF : ∀ n F, O n = some F → ∀ args h (Q Q' : AV → AHeap → Prop), (∀ v h, Q v h → Q' v h) → F args h Q → F args h Q') (x : stepW O T S g args h Q) : stepW O T S' g args h Q' := by
  cases g with
  | f n =>
    simp only [stepW] at x ⊢
    split at x
    · rename_i F hF'; exact hF _ _ hF' _ _ _ _ hQ x
    · split at x
      · exact callW_mono hS hM (fun _ _ ⟨h2, a, b⟩ => ⟨h2, a, hQ _ _ b⟩) x
      · exact x.elim
  | y l => exact roundW_mono hS hM hQ x
structure OFree (O : Nat → Option FSpec) : Prop where
  free : ∀ n, isLives n = false → O n = none
  mono : ∀ n F, O n = some F → ∀ args h (Q Q' : AV → AHeap → Prop), (∀ v h, Q v h → Q' v h) → F args h Q → F args h Q'
theorem progI_inv (hO : OFree O) {g : Fn} {args : List AV} {h : AHeap} {Q : AV → AHeap → Prop} (x : progI O T g args h Q) : stepW O T (progI O T) g args h Q :=
  x (stepW O T (progI O T)) (fun _ _ _ _ _ hQ y => stepW_mono (fun _ _ _ _ z => z) progI_mono hQ hO.mono y) fun _ _ _ _ y => stepW_mono (fun _ _ _ _ z => progI_step z) progI_mono (fun _ _ q => q) hO.mono y
theorem Runs.drop (hO : OFree O) {n : Nat} {af : AFn} {args : List AV} {v : AV} {h2 : AHeap} (hn : O n = none) (hT : T.get n = some af) (r : Runs O T n args h v h1) (hl : (∀ id o, h.get id = some o → id < h.next) → Less h2 h1) : Runs O T n args h v h2 := fun Q q => by
  have x := progI_inv hO (r (fun v' h' => v' = v ∧ h' = h1) ⟨rfl, rfl⟩)
  simp only [stepW, hn, hT] at x
  exact progI_drop hn hT (callW_mono (fun _ _ _ _ y => y) progI_mono (fun v' h' ⟨h3, a, e1, e2⟩ => ⟨h2, fun w => by subst e2; exact (hl w).trans (a w), by subst e1; exact q⟩) x)
def AHeap.bump (h : AHeap) (c : Nat) : AHeap := ⟨h.next + c, h.objs⟩
theorem AHeap.bump_less {h : AHeap} (hw : ∀ id o, h.get id = some o → id < h.next) {c : Nat} {h' : AHeap} (hn : h'.next = h.next + c) (hg : ∀ id, id < h.next → h'.get id = h.get id) : Less (h.bump c) h' :=
  ⟨fun id o (e : h.get id = some o) => by rw [hg id (hw id o e)]; exact e, by rw [hn]; exact Nat.le_refl _⟩
end
theorem OFree.none : OFree fun _ => Option.none := ⟨fun _ _ => rfl, fun _ _ e => by cases e⟩
end Go.Proofs.YtlkfclgkinaibaaGreat

namespace Go.Proofs.YtlkfclgkinaibaaGreat
variable {O : Nat → Option FSpec}
structure MemH (h : AHeap) (M id off len L N : Nat) : Prop where
  m : ∃ e es s ro cap, h.get M = some (.row e es s ro (.vals [.sl id off len cap]))
  r : ∃ e es s ro, h.get id = some (.row e es s ro (.bytes L N))
section
variable {h : AHeap} {M id off len L N n i : Nat}
theorem k_Frames (hO : OFree O) (hm : MemH h M id off len L N) : Runs O tab n_phys_Memory_Frames [.ptr M 0] h (.int .i64 len) h := by
  obtain ⟨e, es, s, ro, cap, hM⟩ := hm.m
  refine runs_w (fun _ _ _ x => progI_call (hO.free _ rfl) rfl x) Njs rfl ?_
  (repeat (first | (show W _ _ _ _ _ _ (.code (cond _ _ _) :: _) _ _; first | refine W.ct ?_ | refine W.cf ?_) | (show W _ _ _ _ _ _ (.ins (cond _ _ _ :: _) :: _) _ _; first | refine W.gt ?_ | refine W.gf ?_) | (show W _ _ _ _ _ _ [] _ _; refine W.of (.done ?_)) | (apply W.of; constructor <;> first | (show W _ _ _ _ _ _ _ _ _) | (intro (al : Nat) h st; show W _ _ _ _ _ _ _ _ _) | (intro _ h st; show W _ _ _ _ _ _ _ _ _) | exact Sd))); refine W.do (ho := (d_load1 hM rfl)) (w := ?_)
  (repeat (first | (show W _ _ _ _ _ _ (.code (cond _ _ _) :: _) _ _; first | refine W.ct ?_ | refine W.cf ?_) | (show W _ _ _ _ _ _ (.ins (cond _ _ _ :: _) :: _) _ _; first | refine W.gt ?_ | refine W.gf ?_) | (show W _ _ _ _ _ _ [] _ _; refine W.of (.done ?_)) | (apply W.of; constructor <;> first | (show W _ _ _ _ _ _ _ _ _) | (intro (al : Nat) h st; show W _ _ _ _ _ _ _ _ _) | (intro _ h st; show W _ _ _ _ _ _ _ _ _) | exact Sd)))
  exact ⟨_, rfl, rfl, rfl⟩
theorem k_at (hO : OFree O) (hm : MemH h M id off len L N) (hn : n < len) : Runs O tab n_phys_Memory_at [.ptr M 0, .int .i64 (n : Nat)] h (.ptr id (off + n * 4096)) h := by
  obtain ⟨e, es, s, ro, cap, hM⟩ := hm.m
  refine runs_w (fun _ _ _ x => progI_call (hO.free _ rfl) rfl x) Njs rfl ?_
  (repeat (first | (show W _ _ _ _ _ _ (.code (cond _ _ _) :: _) _ _; first | refine W.ct ?_ | refine W.cf ?_) | (show W _ _ _ _ _ _ (.ins (cond _ _ _ :: _) :: _) _ _; first | refine W.gt ?_ | refine W.gf ?_) | (show W _ _ _ _ _ _ [] _ _; refine W.of (.done ?_)) | (apply W.of; constructor <;> first | (show W _ _ _ _ _ _ _ _ _) | (intro (al : Nat) h st; show W _ _ _ _ _ _ _ _ _) | (intro _ h st; show W _ _ _ _ _ _ _ _ _) | exact Sd)))
  refine W.cx (hr := k_Frames hO hm) (w := ?_)
  (repeat (first | (show W _ _ _ _ _ _ (.code (cond _ _ _) :: _) _ _; first | refine W.ct ?_ | refine W.cf ?_) | (show W _ _ _ _ _ _ (.ins (cond _ _ _ :: _) :: _) _ _; first | refine W.gt ?_ | refine W.gf ?_) | (show W _ _ _ _ _ _ [] _ _; refine W.of (.done ?_)) | (apply W.of; constructor <;> first | (show W _ _ _ _ _ _ _ _ _) | (intro (al : Nat) h st; show W _ _ _ _ _ _ _ _ _) | (intro _ h st; show W _ _ _ _ _ _ _ _ _) | exact Sd)))
  refine W.do (ho := d_load1 hM rfl) (w := ?_)
  (repeat (first | (show W _ _ _ _ _ _ (.code (cond _ _ _) :: _) _ _; first | refine W.ct ?_ | refine W.cf ?_) | (show W _ _ _ _ _ _ (.ins (cond _ _ _ :: _) :: _) _ _; first | refine W.gt ?_ | refine W.gf ?_) | (show W _ _ _ _ _ _ [] _ _; refine W.of (.done ?_)) | (apply W.of; constructor <;> first | (show W _ _ _ _ _ _ _ _ _) | (intro (al : Nat) h st; show W _ _ _ _ _ _ _ _ _) | (intro _ h st; show W _ _ _ _ _ _ _ _ _) | exact Sd)))
  have hx : Does (.indexs 4096) [.sl id off len cap, .int .i64 (n : Nat)] h (.ptr id (off + n * 4096)) h := ⟨rfl, by
    simp only [aop]; rw [if_pos ⟨by omega, by omega⟩, Int.toNat_natCast]⟩
  (repeat (first | (show W _ _ _ _ _ _ (.code (cond _ _ _) :: _) _ _; first | refine W.ct ?_ | refine W.cf ?_) | (show W _ _ _ _ _ _ (.ins (cond _ _ _ :: _) :: _) _ _; first | refine W.gt ?_ | refine W.gf ?_) | (show W _ _ _ _ _ _ [] _ _; refine W.of (.done ?_)) | (apply W.of; constructor <;> first | (show W _ _ _ _ _ _ _ _ _) | (intro (al : Nat) h st; show W _ _ _ _ _ _ _ _ _) | (intro _ h st; show W _ _ _ _ _ _ _ _ _) | exact Sd))); refine W.do (ho := hx) (w := ?_)
  (repeat (first | (show W _ _ _ _ _ _ (.code (cond _ _ _) :: _) _ _; first | refine W.ct ?_ | refine W.cf ?_) | (show W _ _ _ _ _ _ (.ins (cond _ _ _ :: _) :: _) _ _; first | refine W.gt ?_ | refine W.gf ?_) | (show W _ _ _ _ _ _ [] _ _; refine W.of (.done ?_)) | (apply W.of; constructor <;> first | (show W _ _ _ _ _ _ _ _ _) | (intro (al : Nat) h st; show W _ _ _ _ _ _ _ _ _) | (intro _ h st; show W _ _ _ _ _ _ _ _ _) | exact Sd)))
  exact ⟨_, rfl, rfl, rfl⟩
theorem k_cell (hO : OFree O) (hm : MemH h M id off len L N) (hn : n < len) (hi : i < 512) : Runs O tab n_phys_Memory_cell [.ptr M 0, .int .i64 (n : Nat), .int .i64 (i : Nat)] h (.sl id (off + n * 4096 + 8 * i) 8 (4096 - 8 * i)) h := by
  refine runs_w (fun _ _ _ x => progI_call (hO.free _ rfl) rfl x) Njs rfl ?_
  (repeat (first | (show W _ _ _ _ _ _ (.code (cond _ _ _) :: _) _ _; first | refine W.ct ?_ | refine W.cf ?_) | (show W _ _ _ _ _ _ (.ins (cond _ _ _ :: _) :: _) _ _; first | refine W.gt ?_ | refine W.gf ?_) | (show W _ _ _ _ _ _ [] _ _; refine W.of (.done ?_)) | (apply W.of; constructor <;> first | (show W _ _ _ _ _ _ _ _ _) | (intro (al : Nat) h st; show W _ _ _ _ _ _ _ _ _) | (intro _ h st; show W _ _ _ _ _ _ _ _ _) | exact Sd)))
  refine W.cx (hr := k_at hO hm hn) (w := ?_)
  (repeat (first | (show W _ _ _ _ _ _ (.code (cond _ _ _) :: _) _ _; first | refine W.ct ?_ | refine W.cf ?_) | (show W _ _ _ _ _ _ (.ins (cond _ _ _ :: _) :: _) _ _; first | refine W.gt ?_ | refine W.gf ?_) | (show W _ _ _ _ _ _ [] _ _; refine W.of (.done ?_)) | (apply W.of; constructor <;> first | (show W _ _ _ _ _ _ _ _ _) | (intro (al : Nat) h st; show W _ _ _ _ _ _ _ _ _) | (intro _ h st; show W _ _ _ _ _ _ _ _ _) | exact Sd)))
  obtain ⟨b, hb⟩ : ∃ b : Nat, b = 8 * i := ⟨_, rfl⟩
  have hx : Does (.slicea 4096 1 true true false) [.ptr id (off + n * 4096), .int .i64 (b : Nat), .int .i64 ((b : Nat) + 8)] h (.sl id (off + n * 4096 + b) 8 (4096 - b)) h := ⟨rfl, by
    simp only [aop, bounds3]
    rw [if_pos ⟨by omega, by omega, by omega⟩]
    simp only [Option.map_some, Int.toNat_natCast]
    rw [if_neg (by omega), show ((b : Int) + 8).toNat - b = 8 by omega, Nat.mul_one]⟩
  rw [wrap64 (n := 8 * (i : Int)) (by omega) (by omega), show 8 * (i : Int) = (b : Int) by omega]
  (repeat (first | (show W _ _ _ _ _ _ (.code (cond _ _ _) :: _) _ _; first | refine W.ct ?_ | refine W.cf ?_) | (show W _ _ _ _ _ _ (.ins (cond _ _ _ :: _) :: _) _ _; first | refine W.gt ?_ | refine W.gf ?_) | (show W _ _ _ _ _ _ [] _ _; refine W.of (.done ?_)) | (apply W.of; constructor <;> first | (show W _ _ _ _ _ _ _ _ _) | (intro (al : Nat) h st; show W _ _ _ _ _ _ _ _ _) | (intro _ h st; show W _ _ _ _ _ _ _ _ _) | exact Sd)))
  (repeat (first | (show W _ _ _ _ _ _ (.code (cond _ _ _) :: _) _ _; first | refine W.ct ?_ | refine W.cf ?_) | (show W _ _ _ _ _ _ (.ins (cond _ _ _ :: _) :: _) _ _; first | refine W.gt ?_ | refine W.gf ?_) | (show W _ _ _ _ _ _ [] _ _; refine W.of (.done ?_)) | (apply W.of; constructor <;> first | (show W _ _ _ _ _ _ _ _ _) | (intro (al : Nat) h st; show W _ _ _ _ _ _ _ _ _) | (intro _ h st; show W _ _ _ _ _ _ _ _ _) | exact Sd))); refine W.do (ho := hx) (w := ?_)
  (repeat (first | (show W _ _ _ _ _ _ (.code (cond _ _ _) :: _) _ _; first | refine W.ct ?_ | refine W.cf ?_) | (show W _ _ _ _ _ _ (.ins (cond _ _ _ :: _) :: _) _ _; first | refine W.gt ?_ | refine W.gf ?_) | (show W _ _ _ _ _ _ [] _ _; refine W.of (.done ?_)) | (apply W.of; constructor <;> first | (show W _ _ _ _ _ _ _ _ _) | (intro (al : Nat) h st; show W _ _ _ _ _ _ _ _ _) | (intro _ h st; show W _ _ _ _ _ _ _ _ _) | exact Sd)))
  exact ⟨_, rfl, by rw [hb]; rfl, rfl⟩
theorem word_step (X m : Nat) : X % 2 ^ (8 * (m + 1)) = X / 256 % 2 ^ (8 * m) * 256 + X % 256 := by
  rw [show 8 * (m + 1) = 8 + 8 * m by omega, Nat.pow_add, show (2 : Nat) ^ 8 = 256 from rfl, Nat.mod_mul, Nat.add_comm, Nat.mul_comm 256]
theorem or_step {a b : Nat} (hb : b < 256) : a * 256 ||| b = a * 256 + b := by
  have := Nat.shiftLeft_add_eq_or_of_lt (i := 8) (b := b) hb a
  rw [Nat.shiftLeft_eq] at this
  exact this.symm
theorem shl8 {a : Nat} (ha : a < 2 ^ 56) : IntKind.u64.wrap ((a : Int) * 2 ^ ((8 : Int).toNat.min IntKind.u64.bits)) = ((a * 256 : Nat) : Int) := by
  rw [show (a : Int) * 2 ^ ((8 : Int).toNat.min IntKind.u64.bits) = ((a * 256 : Nat) : Int) by
    rw [show (8 : Int).toNat.min IntKind.u64.bits = 8 from rfl]; omega]
  exact wrap_id (k := .u64) (by show (0 : Int) ≤ _; omega) (by show (_ : Int) ≤ 18446744073709551615; omega)
theorem d_or8 {a b : Nat} (ha : a < 2 ^ 56) (hb : b < 256) : Does (.bin .or) [.int .u64 ((a * 256 : Nat) : Int), .int .u64 (b : Nat)] h (.int .u64 ((a * 256 + b : Nat) : Int)) h := ⟨rfl, by
  show some (AV.int .u64 (IntKind.u64.wrap ((BitVec.ofInt 64 ((a * 256 : Nat) : Int) ||| BitVec.ofInt 64 (b : Nat)).toNat : Int)), h) = _
  rw [BitVec.ofInt_natCast, BitVec.ofInt_natCast, BitVec.toNat_or, BitVec.toNat_ofNat, BitVec.toNat_ofNat, Nat.mod_eq_of_lt (by omega), Nat.mod_eq_of_lt (by omega), or_step hb]
  rw [wrap_id (k := .u64) (by show (0 : Int) ≤ _; omega) (by show (_ : Int) ≤ 18446744073709551615; omega)]⟩
abbrev wordN (N base : Nat) : Nat := (N >>> (8 * base)) % 2 ^ 64
theorem k_Word (hO : OFree O) (hm : MemH h M id off len L N) (hn : n < len) (hi : i < 512) (hL : off + n * 4096 + 4096 ≤ L) : Runs O tab n_phys_Memory_Word [.ptr M 0, .int .i64 (n : Nat), .int .i64 (i : Nat)] h (.tuple [.int .u64 (wordN N (off + n * 4096 + 8 * i) : Nat), .bool true]) h := by
  obtain ⟨e, es, s, ro, hid⟩ := hm.r
  obtain ⟨b, hb⟩ : ∃ b : Nat, b = off + n * 4096 + 8 * i := ⟨_, rfl⟩
  refine runs_w (fun _ _ _ x => progI_call (hO.free _ rfl) rfl x) Njs rfl ?_
  (repeat (first | (show W _ _ _ _ _ _ (.code (cond _ _ _) :: _) _ _; first | refine W.ct ?_ | refine W.cf ?_) | (show W _ _ _ _ _ _ (.ins (cond _ _ _ :: _) :: _) _ _; first | refine W.gt ?_ | refine W.gf ?_) | (show W _ _ _ _ _ _ [] _ _; refine W.of (.done ?_)) | (apply W.of; constructor <;> first | (show W _ _ _ _ _ _ _ _ _) | (intro (al : Nat) h st; show W _ _ _ _ _ _ _ _ _) | (intro _ h st; show W _ _ _ _ _ _ _ _ _) | exact Sd)))
  refine W.cx (hr := k_cell hO hm hn hi) (w := ?_)
  rw [← hb]
  (repeat (first | (show W _ _ _ _ _ _ (.code (cond _ _ _) :: _) _ _; first | refine W.ct ?_ | refine W.cf ?_) | (show W _ _ _ _ _ _ (.ins (cond _ _ _ :: _) :: _) _ _; first | refine W.gt ?_ | refine W.gf ?_) | (show W _ _ _ _ _ _ [] _ _; refine W.of (.done ?_)) | (apply W.of; constructor <;> first | (show W _ _ _ _ _ _ _ _ _) | (intro (al : Nat) h st; show W _ _ _ _ _ _ _ _ _) | (intro _ h st; show W _ _ _ _ _ _ _ _ _) | exact Sd)))
  refine W.loopx (fun j : Nat => [(8, .sl id b 8 (4096 - 8 * i)), (9, .int .u64 (((N >>> (8 * (b + (8 - j)))) % 2 ^ (8 * j) : Nat) : Int)), (10, .int .i64 (7 - (j : Int)))]) (fun _ => h) (fun j => j ≤ 8) (fun j => 8 - j) 0 (by unfold rounds; omega) ⟨rfl, by rw [Nat.mul_zero, Nat.pow_zero, Nat.mod_one]; rfl, rfl, trivial⟩ rfl (Nat.zero_le _) ?_
  intro j hj
  by_cases hlt : j < 8
  · obtain ⟨X, hX⟩ : ∃ X, X = N >>> (8 * (b + (8 - (j + 1)))) := ⟨_, rfl⟩
    have e1 : N >>> (8 * (b + (8 - j))) = X / 256 := by
      rw [hX, show 8 * (b + (8 - j)) = 8 * (b + (8 - (j + 1))) + 8 by omega, Nat.shiftRight_add, Nat.shiftRight_eq_div_pow _ 8]
    have hA : X / 256 % 2 ^ (8 * j) < 2 ^ 56 := Nat.lt_of_lt_of_le (Nat.mod_lt _ (Nat.two_pow_pos _)) (Nat.pow_le_pow_right (by omega) (by omega))
    obtain ⟨A, hAe⟩ : ∃ A, A = X / 256 % 2 ^ (8 * j) := ⟨_, rfl⟩
    have hld : Does .load1 [.ptr id (b + (7 - j))] h (.int .u8 ((X % 256 : Nat) : Int)) h := d_load1 hid (by
      show (if _ < L then some (AV.int .u8 (byteAt N (b + (7 - j)) : Nat)) else none) = _
      rw [if_pos (by omega), byteAt, hX, show 8 - (j + 1) = 7 - j by omega])
    have hix : Does (.indexs 1) [.sl id b 8 (4096 - 8 * i), .int .i64 (7 - (j : Int))] h (.ptr id (b + (7 - j))) h := ⟨rfl, by
      simp only [aop]; rw [if_pos ⟨by omega, by omega⟩, Nat.mul_one, show (7 - (j : Int)).toNat = 7 - j by omega]⟩
    rw [e1, ← hAe]
    rw [← hAe] at hA
    (repeat (first | (show W _ _ _ _ _ _ (.code (cond _ _ _) :: _) _ _; first | refine W.ct ?_ | refine W.cf ?_) | (show W _ _ _ _ _ _ (.ins (cond _ _ _ :: _) :: _) _ _; first | refine W.gt ?_ | refine W.gf ?_) | (show W _ _ _ _ _ _ [] _ _; refine W.of (.done ?_)) | (apply W.of; constructor <;> first | (show W _ _ _ _ _ _ _ _ _) | (intro (al : Nat) h st; show W _ _ _ _ _ _ _ _ _) | (intro _ h st; show W _ _ _ _ _ _ _ _ _) | exact Sd)))
    rw [shl8 hA]
    (repeat (first | (show W _ _ _ _ _ _ (.code (cond _ _ _) :: _) _ _; first | refine W.ct ?_ | refine W.cf ?_) | (show W _ _ _ _ _ _ (.ins (cond _ _ _ :: _) :: _) _ _; first | refine W.gt ?_ | refine W.gf ?_) | (show W _ _ _ _ _ _ [] _ _; refine W.of (.done ?_)) | (apply W.of; constructor <;> first | (show W _ _ _ _ _ _ _ _ _) | (intro (al : Nat) h st; show W _ _ _ _ _ _ _ _ _) | (intro _ h st; show W _ _ _ _ _ _ _ _ _) | exact Sd))); refine W.do (ho := hix) (w := ?_)
    (repeat (first | (show W _ _ _ _ _ _ (.code (cond _ _ _) :: _) _ _; first | refine W.ct ?_ | refine W.cf ?_) | (show W _ _ _ _ _ _ (.ins (cond _ _ _ :: _) :: _) _ _; first | refine W.gt ?_ | refine W.gf ?_) | (show W _ _ _ _ _ _ [] _ _; refine W.of (.done ?_)) | (apply W.of; constructor <;> first | (show W _ _ _ _ _ _ _ _ _) | (intro (al : Nat) h st; show W _ _ _ _ _ _ _ _ _) | (intro _ h st; show W _ _ _ _ _ _ _ _ _) | exact Sd))); refine W.do (ho := hld) (w := ?_)
    have hcv : Does (.conv .u64) [.int .u8 ((X % 256 : Nat) : Int)] h (.int .u64 ((X % 256 : Nat) : Int)) h := ⟨rfl, by
      show some (AV.int .u64 (IntKind.u64.wrap ((X % 256 : Nat) : Int)), h) = _
      rw [wrap_id (k := .u64) (by show (0 : Int) ≤ _; omega) (by show (_ : Int) ≤ 18446744073709551615; omega)]⟩
    refine W.do (ho := hcv) (w := ?_)
    refine W.do (ho := d_or8 (b := X % 256) hA (Nat.mod_lt _ (by omega))) (w := ?_)
    (repeat (first | (show W _ _ _ _ _ _ (.code (cond _ _ _) :: _) _ _; first | refine W.ct ?_ | refine W.cf ?_) | (show W _ _ _ _ _ _ (.ins (cond _ _ _ :: _) :: _) _ _; first | refine W.gt ?_ | refine W.gf ?_) | (show W _ _ _ _ _ _ [] _ _; refine W.of (.done ?_)) | (apply W.of; constructor <;> first | (show W _ _ _ _ _ _ _ _ _) | (intro (al : Nat) h st; show W _ _ _ _ _ _ _ _ _) | (intro _ h st; show W _ _ _ _ _ _ _ _ _) | exact Sd)))
    refine W.of (.lp ?_)
    refine ⟨j + 1, by omega, hlt, ⟨rfl, ?_, ?_, trivial⟩, rfl⟩
    · rw [← hX, word_step X j, ← hAe]; rfl
    · show some (AV.int .i64 (7 - (j : Int) - 1)) = some (AV.int .i64 (7 - ((j + 1 : Nat) : Int)))
      rw [show 7 - ((j + 1 : Nat) : Int) = 7 - (j : Int) - 1 by omega]
  · obtain rfl : j = 8 := by omega
    (repeat (first | (show W _ _ _ _ _ _ (.code (cond _ _ _) :: _) _ _; first | refine W.ct ?_ | refine W.cf ?_) | (show W _ _ _ _ _ _ (.ins (cond _ _ _ :: _) :: _) _ _; first | refine W.gt ?_ | refine W.gf ?_) | (show W _ _ _ _ _ _ [] _ _; refine W.of (.done ?_)) | (apply W.of; constructor <;> first | (show W _ _ _ _ _ _ _ _ _) | (intro (al : Nat) h st; show W _ _ _ _ _ _ _ _ _) | (intro _ h st; show W _ _ _ _ _ _ _ _ _) | exact Sd)))
    exact ⟨_, rfl, rfl, rfl⟩
end
end Go.Proofs.YtlkfclgkinaibaaGreat

namespace Go.Proofs.YtlkfclgkinaibaaGreat
variable {O : Nat → Option FSpec}
theorem Tr.put_put : ∀ (f : Nat) (t : Tr) (n : Nat) (a b : Option AObj), Tr.put f (Tr.put f t n a) n b = Tr.put f t n b
  | 0, _, _, _, _ => rfl
  | f + 1, .leaf, n, a, b => by
    simp only [Tr.put]
    by_cases h0 : n = 0
    · simp only [h0, if_true, Tr.put]
    · by_cases h1 : n % 2 = 1
      · simp only [h0, h1, if_true, if_false, Tr.put, Tr.put_put f]
      · simp only [h0, h1, if_false, Tr.put, Tr.put_put f]
  | f + 1, .node l v r, n, a, b => by
    simp only [Tr.put]
    by_cases h0 : n = 0
    · simp only [h0, if_true, Tr.put]
    · by_cases h1 : n % 2 = 1
      · simp only [h0, h1, if_true, if_false, Tr.put, Tr.put_put f]
      · simp only [h0, h1, if_false, Tr.put, Tr.put_put f]
theorem AHeap.new_put (h : AHeap) (a b : AObj) : (h.new a).put h.next b = h.new b := by
  simp only [AHeap.new, AHeap.put, Tr.put_put]
abbrev pteRow (f p : Nat) : AObj := .row ty_api_PTE 2 false false (.vals [.int .i64 (f : Nat), .int .i64 (p : Nat)])
abbrev pteV (f p : Nat) : AV := .agg [.int .i64 (f : Nat), .int .i64 (p : Nat)]
section
variable {h : AHeap} {M id off len L N n i v f p : Nat}
theorem band_low {v m : Nat} (hv : v < 2 ^ 64) (hm : m ≤ 63) : IntKind.u64.wrap ((BitVec.ofInt 64 (v : Nat) &&& BitVec.ofInt 64 ((2 ^ m - 1 : Nat) : Int)).toNat : Int) = ((v % 2 ^ m : Nat) : Int) := by
  have h1 : 2 ^ m ≤ 2 ^ 63 := Nat.pow_le_pow_right (by omega) hm
  have h2 : v % 2 ^ m ≤ v := Nat.mod_le _ _
  rw [BitVec.ofInt_natCast, BitVec.ofInt_natCast, BitVec.toNat_and, BitVec.toNat_ofNat, BitVec.toNat_ofNat, Nat.mod_eq_of_lt hv, Nat.mod_eq_of_lt (by omega), Nat.and_two_pow_sub_one_eq_mod]
  exact wrap_id (k := .u64) (by show (0 : Int) ≤ _; omega) (by show (_ : Int) ≤ 18446744073709551615; omega)
theorem k_low8 (hO : OFree O) (hv : v < 2 ^ 64) : Runs O tab n_pte_low [.int .u64 (v : Nat), .int .i64 8] h (.int .u64 ((v % 2 ^ 8 : Nat) : Int)) h := by
  refine runs_w (fun _ _ _ x => progI_call (hO.free _ rfl) rfl x) Njs rfl ?_
  (repeat (first | (show W _ _ _ _ _ _ (.code (cond _ _ _) :: _) _ _; first | refine W.ct ?_ | refine W.cf ?_) | (show W _ _ _ _ _ _ (.ins (cond _ _ _ :: _) :: _) _ _; first | refine W.gt ?_ | refine W.gf ?_) | (show W _ _ _ _ _ _ [] _ _; refine W.of (.done ?_)) | (apply W.of; constructor <;> first | (show W _ _ _ _ _ _ _ _ _) | (intro (al : Nat) h st; show W _ _ _ _ _ _ _ _ _) | (intro _ h st; show W _ _ _ _ _ _ _ _ _) | exact Sd)))
  have hx : Does (.bin .sub) [.int .u64 (IntKind.u64.wrap (1 * 2 ^ ((8 : Int).toNat.min IntKind.u64.bits))), .int .u64 1] h (.int .u64 ((2 ^ 8 - 1 : Nat) : Int)) h := ⟨rfl, rfl⟩
  (repeat (first | (show W _ _ _ _ _ _ (.code (cond _ _ _) :: _) _ _; first | refine W.ct ?_ | refine W.cf ?_) | (show W _ _ _ _ _ _ (.ins (cond _ _ _ :: _) :: _) _ _; first | refine W.gt ?_ | refine W.gf ?_) | (show W _ _ _ _ _ _ [] _ _; refine W.of (.done ?_)) | (apply W.of; constructor <;> first | (show W _ _ _ _ _ _ _ _ _) | (intro (al : Nat) h st; show W _ _ _ _ _ _ _ _ _) | (intro _ h st; show W _ _ _ _ _ _ _ _ _) | exact Sd))); refine W.do (ho := hx) (w := ?_)
  (repeat (first | (show W _ _ _ _ _ _ (.code (cond _ _ _) :: _) _ _; first | refine W.ct ?_ | refine W.cf ?_) | (show W _ _ _ _ _ _ (.ins (cond _ _ _ :: _) :: _) _ _; first | refine W.gt ?_ | refine W.gf ?_) | (show W _ _ _ _ _ _ [] _ _; refine W.of (.done ?_)) | (apply W.of; constructor <;> first | (show W _ _ _ _ _ _ _ _ _) | (intro (al : Nat) h st; show W _ _ _ _ _ _ _ _ _) | (intro _ h st; show W _ _ _ _ _ _ _ _ _) | exact Sd)))
  exact ⟨_, rfl, congrArg (AV.int .u64) (band_low (m := 8) hv (by omega)), rfl⟩
theorem k_low44 (hO : OFree O) (hv : v < 2 ^ 64) : Runs O tab n_pte_low [.int .u64 (v : Nat), .int .i64 44] h (.int .u64 ((v % 2 ^ 44 : Nat) : Int)) h := by
  refine runs_w (fun _ _ _ x => progI_call (hO.free _ rfl) rfl x) Njs rfl ?_
  (repeat (first | (show W _ _ _ _ _ _ (.code (cond _ _ _) :: _) _ _; first | refine W.ct ?_ | refine W.cf ?_) | (show W _ _ _ _ _ _ (.ins (cond _ _ _ :: _) :: _) _ _; first | refine W.gt ?_ | refine W.gf ?_) | (show W _ _ _ _ _ _ [] _ _; refine W.of (.done ?_)) | (apply W.of; constructor <;> first | (show W _ _ _ _ _ _ _ _ _) | (intro (al : Nat) h st; show W _ _ _ _ _ _ _ _ _) | (intro _ h st; show W _ _ _ _ _ _ _ _ _) | exact Sd)))
  have hx : Does (.bin .sub) [.int .u64 (IntKind.u64.wrap (1 * 2 ^ ((44 : Int).toNat.min IntKind.u64.bits))), .int .u64 1] h (.int .u64 ((2 ^ 44 - 1 : Nat) : Int)) h := ⟨rfl, rfl⟩
  (repeat (first | (show W _ _ _ _ _ _ (.code (cond _ _ _) :: _) _ _; first | refine W.ct ?_ | refine W.cf ?_) | (show W _ _ _ _ _ _ (.ins (cond _ _ _ :: _) :: _) _ _; first | refine W.gt ?_ | refine W.gf ?_) | (show W _ _ _ _ _ _ [] _ _; refine W.of (.done ?_)) | (apply W.of; constructor <;> first | (show W _ _ _ _ _ _ _ _ _) | (intro (al : Nat) h st; show W _ _ _ _ _ _ _ _ _) | (intro _ h st; show W _ _ _ _ _ _ _ _ _) | exact Sd))); refine W.do (ho := hx) (w := ?_)
  (repeat (first | (show W _ _ _ _ _ _ (.code (cond _ _ _) :: _) _ _; first | refine W.ct ?_ | refine W.cf ?_) | (show W _ _ _ _ _ _ (.ins (cond _ _ _ :: _) :: _) _ _; first | refine W.gt ?_ | refine W.gf ?_) | (show W _ _ _ _ _ _ [] _ _; refine W.of (.done ?_)) | (apply W.of; constructor <;> first | (show W _ _ _ _ _ _ _ _ _) | (intro (al : Nat) h st; show W _ _ _ _ _ _ _ _ _) | (intro _ h st; show W _ _ _ _ _ _ _ _ _) | exact Sd)))
  exact ⟨_, rfl, congrArg (AV.int .u64) (band_low (m := 44) hv (by omega)), rfl⟩
abbrev flN (v : Nat) : Nat := v % 2 ^ 8
abbrev ppN (v : Nat) : Nat := (v >>> 10) % 2 ^ 44
theorem shr10 : Does (.bin .shr) [.int .u64 (v : Nat), .int .u64 10] h (.int .u64 ((v >>> 10 : Nat) : Int)) h := ⟨rfl, by
  show some (AV.int .u64 ((v : Int).fdiv (2 ^ ((10 : Int).toNat.min IntKind.u64.bits))), h) = _
  rw [show ((10 : Int).toNat.min IntKind.u64.bits) = 10 from rfl, Int.fdiv_eq_ediv_of_nonneg _ (by decide), Nat.shiftRight_eq_div_pow]
  rfl⟩
theorem conv64 {a : Nat} (ha : a < 2 ^ 63) : Does (.conv .i64) [.int .u64 (a : Nat)] h (.int .i64 (a : Nat)) h := ⟨rfl, by
  show some (AV.int .i64 (IntKind.i64.wrap (a : Int)), h) = _
  rw [wrap64 (by omega) (by omega)]⟩
theorem k_Decode (hO : OFree O) (hv : v < 2 ^ 64) : Runs O tab n_pte_Decode [.int .u64 (v : Nat)] h (pteV (flN v) (ppN v)) (h.new (pteRow (flN v) (ppN v))) := by
  have h1 : flN v < 2 ^ 8 := Nat.mod_lt _ (by decide)
  have h2 : ppN v < 2 ^ 44 := Nat.mod_lt _ (by decide)
  have h3 : v >>> 10 < 2 ^ 64 := Nat.lt_of_le_of_lt (by rw [Nat.shiftRight_eq_div_pow]; exact Nat.div_le_self _ _) hv
  refine runs_w (fun _ _ _ x => progI_call (hO.free _ rfl) rfl x) Njs rfl ?_
  (repeat (first | (show W _ _ _ _ _ _ (.code (cond _ _ _) :: _) _ _; first | refine W.ct ?_ | refine W.cf ?_) | (show W _ _ _ _ _ _ (.ins (cond _ _ _ :: _) :: _) _ _; first | refine W.gt ?_ | refine W.gf ?_) | (show W _ _ _ _ _ _ [] _ _; refine W.of (.done ?_)) | (apply W.of; constructor <;> first | (show W _ _ _ _ _ _ _ _ _) | (intro (al : Nat) h st; show W _ _ _ _ _ _ _ _ _) | (intro _ h st; show W _ _ _ _ _ _ _ _ _) | exact Sd)))
  refine W.dx (ho := x_alloc rfl rfl) (w := ?_)
  (repeat (first | (show W _ _ _ _ _ _ (.code (cond _ _ _) :: _) _ _; first | refine W.ct ?_ | refine W.cf ?_) | (show W _ _ _ _ _ _ (.ins (cond _ _ _ :: _) :: _) _ _; first | refine W.gt ?_ | refine W.gf ?_) | (show W _ _ _ _ _ _ [] _ _; refine W.of (.done ?_)) | (apply W.of; constructor <;> first | (show W _ _ _ _ _ _ _ _ _) | (intro (al : Nat) h st; show W _ _ _ _ _ _ _ _ _) | (intro _ h st; show W _ _ _ _ _ _ _ _ _) | exact Sd)))
  refine W.cx (hr := k_low8 hO hv) (w := ?_)
  refine W.do (ho := conv64 (Nat.lt_of_lt_of_le h1 (by decide))) (w := ?_)
  refine W.of (.mv rfl rfl rfl ?_)
  refine W.do (ho := shr10) (w := ?_)
  (repeat (first | (show W _ _ _ _ _ _ (.code (cond _ _ _) :: _) _ _; first | refine W.ct ?_ | refine W.cf ?_) | (show W _ _ _ _ _ _ (.ins (cond _ _ _ :: _) :: _) _ _; first | refine W.gt ?_ | refine W.gf ?_) | (show W _ _ _ _ _ _ [] _ _; refine W.of (.done ?_)) | (apply W.of; constructor <;> first | (show W _ _ _ _ _ _ _ _ _) | (intro (al : Nat) h st; show W _ _ _ _ _ _ _ _ _) | (intro _ h st; show W _ _ _ _ _ _ _ _ _) | exact Sd)))
  refine W.cx (hr := k_low44 hO h3) (w := ?_)
  refine W.do (ho := conv64 (Nat.lt_of_lt_of_le h2 (by decide))) (w := ?_)
  (repeat (first | (show W _ _ _ _ _ _ (.code (cond _ _ _) :: _) _ _; first | refine W.ct ?_ | refine W.cf ?_) | (show W _ _ _ _ _ _ (.ins (cond _ _ _ :: _) :: _) _ _; first | refine W.gt ?_ | refine W.gf ?_) | (show W _ _ _ _ _ _ [] _ _; refine W.of (.done ?_)) | (apply W.of; constructor <;> first | (show W _ _ _ _ _ _ _ _ _) | (intro (al : Nat) h st; show W _ _ _ _ _ _ _ _ _) | (intro _ h st; show W _ _ _ _ _ _ _ _ _) | exact Sd)))
  refine W.dx0 (ho := x_store (d := .vals [.int .i64 0, .int .i64 0]) (d' := .vals [.int .i64 (flN v : Nat), .int .i64 (ppN v : Nat)]) (AHeap.get_new_same _ _) rfl rfl rfl) (w := ?_)
  rw [show (h.new (.row ty_api_PTE 2 false false (.vals [.int .i64 0, .int .i64 0]))).put h.next (.row ty_api_PTE 2 false false (.vals [.int .i64 (flN v : Nat), .int .i64 (ppN v : Nat)])) = h.new (pteRow (flN v) (ppN v)) from AHeap.new_put _ _ _]
  (repeat (first | (show W _ _ _ _ _ _ (.code (cond _ _ _) :: _) _ _; first | refine W.ct ?_ | refine W.cf ?_) | (show W _ _ _ _ _ _ (.ins (cond _ _ _ :: _) :: _) _ _; first | refine W.gt ?_ | refine W.gf ?_) | (show W _ _ _ _ _ _ [] _ _; refine W.of (.done ?_)) | (apply W.of; constructor <;> first | (show W _ _ _ _ _ _ _ _ _) | (intro (al : Nat) h st; show W _ _ _ _ _ _ _ _ _) | (intro _ h st; show W _ _ _ _ _ _ _ _ _) | exact Sd)))
  refine ⟨[pteV (flN v) (ppN v)], ?_, rfl, rfl⟩
  show (match aop (.loadn 2) [.ptr h.next 0] (h.new (pteRow (flN v) (ppN v))), some [] with
    | some (v, _), some vs => some (v :: vs)
    | _, _ => none) = _
  rw [show aop (.loadn 2) [.ptr h.next 0] (h.new (pteRow (flN v) (ppN v))) = some (pteV (flN v) (ppN v), h.new (pteRow (flN v) (ppN v))) from (d_loadn (AHeap.get_new_same _ _) rfl).run]
noncomputable def kindM (f : Nat) : Nat := sel (Nat.beq (Nat.land f 1) 0) 0 (sel (Nat.beq (Nat.land f 6) 4) 0 (sel (Nat.beq (Nat.land f 10) 0) 1 2))
theorem band64 {a b : Nat} (ha : a < 2 ^ 63) (hb : b < 2 ^ 63) : IntKind.i64.wrap ((BitVec.ofInt 64 (a : Nat) &&& BitVec.ofInt 64 ((b : Nat) : Int)).toNat : Int) = ((Nat.land a b : Nat) : Int) := by
  have h2 : a &&& b ≤ a := Nat.and_le_left
  rw [BitVec.ofInt_natCast, BitVec.ofInt_natCast, BitVec.toNat_and, BitVec.toNat_ofNat, BitVec.toNat_ofNat, Nat.mod_eq_of_lt (by omega), Nat.mod_eq_of_lt (by omega)]
  exact wrap64 (by omega) (by omega)
theorem k_Kind (hO : OFree O) (hf : f < 2 ^ 63) : Runs O tab n_pte_Kind [pteV f p] h (.int .i64 (kindM f : Nat)) (h.new (pteRow f p)) := by
  obtain ⟨x1, e1⟩ : ∃ x, x = Nat.land f 1 := ⟨_, rfl⟩
  obtain ⟨x6, e6⟩ : ∃ x, x = Nat.land f 6 := ⟨_, rfl⟩
  obtain ⟨x10, e10⟩ : ∃ x, x = Nat.land f 10 := ⟨_, rfl⟩
  have a1 : IntKind.i64.wrap ((BitVec.ofInt IntKind.i64.bits (f : Nat) &&& BitVec.ofInt IntKind.i64.bits 1).toNat : Int) = (x1 : Nat) := e1 ▸ band64 (b := 1) hf (by decide)
  have a6 : IntKind.i64.wrap ((BitVec.ofInt IntKind.i64.bits (f : Nat) &&& BitVec.ofInt IntKind.i64.bits 6).toNat : Int) = (x6 : Nat) := e6 ▸ band64 (b := 6) hf (by decide)
  have a10 : IntKind.i64.wrap ((BitVec.ofInt IntKind.i64.bits (f : Nat) &&& BitVec.ofInt IntKind.i64.bits 10).toNat : Int) = (x10 : Nat) := e10 ▸ band64 (b := 10) hf (by decide)
  have hg : (h.new (pteRow f p)).get h.next = some (pteRow f p) := AHeap.get_new_same _ _
  unfold kindM
  rw [sel_eq, sel_eq, sel_eq, beqD, beqD, beqD]
  simp only [decide_eq_true_eq]
  rw [← e1, ← e6, ← e10]
  refine runs_w (fun _ _ _ x => progI_call (hO.free _ rfl) rfl x) Njs rfl ?_
  (repeat (first | (show W _ _ _ _ _ _ (.code (cond _ _ _) :: _) _ _; first | refine W.ct ?_ | refine W.cf ?_) | (show W _ _ _ _ _ _ (.ins (cond _ _ _ :: _) :: _) _ _; first | refine W.gt ?_ | refine W.gf ?_) | (show W _ _ _ _ _ _ [] _ _; refine W.of (.done ?_)) | (apply W.of; constructor <;> first | (show W _ _ _ _ _ _ _ _ _) | (intro (al : Nat) h st; show W _ _ _ _ _ _ _ _ _) | (intro _ h st; show W _ _ _ _ _ _ _ _ _) | exact Sd)))
  refine W.dx (ho := x_box rfl rfl) (w := ?_)
  (repeat (first | (show W _ _ _ _ _ _ (.code (cond _ _ _) :: _) _ _; first | refine W.ct ?_ | refine W.cf ?_) | (show W _ _ _ _ _ _ (.ins (cond _ _ _ :: _) :: _) _ _; first | refine W.gt ?_ | refine W.gf ?_) | (show W _ _ _ _ _ _ [] _ _; refine W.of (.done ?_)) | (apply W.of; constructor <;> first | (show W _ _ _ _ _ _ _ _ _) | (intro (al : Nat) h st; show W _ _ _ _ _ _ _ _ _) | (intro _ h st; show W _ _ _ _ _ _ _ _ _) | exact Sd))); refine W.do (ho := (d_load1 hg rfl)) (w := ?_)
  (repeat (first | (show W _ _ _ _ _ _ (.code (cond _ _ _) :: _) _ _; first | refine W.ct ?_ | refine W.cf ?_) | (show W _ _ _ _ _ _ (.ins (cond _ _ _ :: _) :: _) _ _; first | refine W.gt ?_ | refine W.gf ?_) | (show W _ _ _ _ _ _ [] _ _; refine W.of (.done ?_)) | (apply W.of; constructor <;> first | (show W _ _ _ _ _ _ _ _ _) | (intro (al : Nat) h st; show W _ _ _ _ _ _ _ _ _) | (intro _ h st; show W _ _ _ _ _ _ _ _ _) | exact Sd)))
  rw [a1]
  by_cases c1 : x1 = 0
  · rw [if_pos c1]
    (repeat (first | (show W _ _ _ _ _ _ (.code (cond _ _ _) :: _) _ _; first | refine W.ct ?_ | refine W.cf ?_) | (show W _ _ _ _ _ _ (.ins (cond _ _ _ :: _) :: _) _ _; first | refine W.gt ?_ | refine W.gf ?_) | (show W _ _ _ _ _ _ [] _ _; refine W.of (.done ?_)) | (apply W.of; constructor <;> first | (show W _ _ _ _ _ _ _ _ _) | (intro (al : Nat) h st; show W _ _ _ _ _ _ _ _ _) | (intro _ h st; show W _ _ _ _ _ _ _ _ _) | exact Sd)))
    exact ⟨_, rfl, rfl, rfl⟩
  · rw [if_neg c1]
    (repeat (first | (show W _ _ _ _ _ _ (.code (cond _ _ _) :: _) _ _; first | refine W.ct ?_ | refine W.cf ?_) | (show W _ _ _ _ _ _ (.ins (cond _ _ _ :: _) :: _) _ _; first | refine W.gt ?_ | refine W.gf ?_) | (show W _ _ _ _ _ _ [] _ _; refine W.of (.done ?_)) | (apply W.of; constructor <;> first | (show W _ _ _ _ _ _ _ _ _) | (intro (al : Nat) h st; show W _ _ _ _ _ _ _ _ _) | (intro _ h st; show W _ _ _ _ _ _ _ _ _) | exact Sd)))
    (repeat (first | (show W _ _ _ _ _ _ (.code (cond _ _ _) :: _) _ _; first | refine W.ct ?_ | refine W.cf ?_) | (show W _ _ _ _ _ _ (.ins (cond _ _ _ :: _) :: _) _ _; first | refine W.gt ?_ | refine W.gf ?_) | (show W _ _ _ _ _ _ [] _ _; refine W.of (.done ?_)) | (apply W.of; constructor <;> first | (show W _ _ _ _ _ _ _ _ _) | (intro (al : Nat) h st; show W _ _ _ _ _ _ _ _ _) | (intro _ h st; show W _ _ _ _ _ _ _ _ _) | exact Sd))); refine W.do (ho := (d_load1 hg rfl)) (w := ?_)
    (repeat (first | (show W _ _ _ _ _ _ (.code (cond _ _ _) :: _) _ _; first | refine W.ct ?_ | refine W.cf ?_) | (show W _ _ _ _ _ _ (.ins (cond _ _ _ :: _) :: _) _ _; first | refine W.gt ?_ | refine W.gf ?_) | (show W _ _ _ _ _ _ [] _ _; refine W.of (.done ?_)) | (apply W.of; constructor <;> first | (show W _ _ _ _ _ _ _ _ _) | (intro (al : Nat) h st; show W _ _ _ _ _ _ _ _ _) | (intro _ h st; show W _ _ _ _ _ _ _ _ _) | exact Sd)))
    rw [a6]
    by_cases c6 : x6 = 4
    · rw [if_pos c6]
      (repeat (first | (show W _ _ _ _ _ _ (.code (cond _ _ _) :: _) _ _; first | refine W.ct ?_ | refine W.cf ?_) | (show W _ _ _ _ _ _ (.ins (cond _ _ _ :: _) :: _) _ _; first | refine W.gt ?_ | refine W.gf ?_) | (show W _ _ _ _ _ _ [] _ _; refine W.of (.done ?_)) | (apply W.of; constructor <;> first | (show W _ _ _ _ _ _ _ _ _) | (intro (al : Nat) h st; show W _ _ _ _ _ _ _ _ _) | (intro _ h st; show W _ _ _ _ _ _ _ _ _) | exact Sd)))
      exact ⟨_, rfl, rfl, rfl⟩
    · rw [if_neg c6]
      (repeat (first | (show W _ _ _ _ _ _ (.code (cond _ _ _) :: _) _ _; first | refine W.ct ?_ | refine W.cf ?_) | (show W _ _ _ _ _ _ (.ins (cond _ _ _ :: _) :: _) _ _; first | refine W.gt ?_ | refine W.gf ?_) | (show W _ _ _ _ _ _ [] _ _; refine W.of (.done ?_)) | (apply W.of; constructor <;> first | (show W _ _ _ _ _ _ _ _ _) | (intro (al : Nat) h st; show W _ _ _ _ _ _ _ _ _) | (intro _ h st; show W _ _ _ _ _ _ _ _ _) | exact Sd)))
      (repeat (first | (show W _ _ _ _ _ _ (.code (cond _ _ _) :: _) _ _; first | refine W.ct ?_ | refine W.cf ?_) | (show W _ _ _ _ _ _ (.ins (cond _ _ _ :: _) :: _) _ _; first | refine W.gt ?_ | refine W.gf ?_) | (show W _ _ _ _ _ _ [] _ _; refine W.of (.done ?_)) | (apply W.of; constructor <;> first | (show W _ _ _ _ _ _ _ _ _) | (intro (al : Nat) h st; show W _ _ _ _ _ _ _ _ _) | (intro _ h st; show W _ _ _ _ _ _ _ _ _) | exact Sd))); refine W.do (ho := (d_load1 hg rfl)) (w := ?_)
      (repeat (first | (show W _ _ _ _ _ _ (.code (cond _ _ _) :: _) _ _; first | refine W.ct ?_ | refine W.cf ?_) | (show W _ _ _ _ _ _ (.ins (cond _ _ _ :: _) :: _) _ _; first | refine W.gt ?_ | refine W.gf ?_) | (show W _ _ _ _ _ _ [] _ _; refine W.of (.done ?_)) | (apply W.of; constructor <;> first | (show W _ _ _ _ _ _ _ _ _) | (intro (al : Nat) h st; show W _ _ _ _ _ _ _ _ _) | (intro _ h st; show W _ _ _ _ _ _ _ _ _) | exact Sd)))
      rw [a10]
      by_cases c10 : x10 = 0
      · rw [if_pos c10]
        (repeat (first | (show W _ _ _ _ _ _ (.code (cond _ _ _) :: _) _ _; first | refine W.ct ?_ | refine W.cf ?_) | (show W _ _ _ _ _ _ (.ins (cond _ _ _ :: _) :: _) _ _; first | refine W.gt ?_ | refine W.gf ?_) | (show W _ _ _ _ _ _ [] _ _; refine W.of (.done ?_)) | (apply W.of; constructor <;> first | (show W _ _ _ _ _ _ _ _ _) | (intro (al : Nat) h st; show W _ _ _ _ _ _ _ _ _) | (intro _ h st; show W _ _ _ _ _ _ _ _ _) | exact Sd)))
        exact ⟨_, rfl, rfl, rfl⟩
      · rw [if_neg c10]
        (repeat (first | (show W _ _ _ _ _ _ (.code (cond _ _ _) :: _) _ _; first | refine W.ct ?_ | refine W.cf ?_) | (show W _ _ _ _ _ _ (.ins (cond _ _ _ :: _) :: _) _ _; first | refine W.gt ?_ | refine W.gf ?_) | (show W _ _ _ _ _ _ [] _ _; refine W.of (.done ?_)) | (apply W.of; constructor <;> first | (show W _ _ _ _ _ _ _ _ _) | (intro (al : Nat) h st; show W _ _ _ _ _ _ _ _ _) | (intro _ h st; show W _ _ _ _ _ _ _ _ _) | exact Sd)))
        exact ⟨_, rfl, rfl, rfl⟩
end
end Go.Proofs.YtlkfclgkinaibaaGreat

namespace Go.Proofs.YtlkfclgkinaibaaGreat
variable {O : Nat → Option FSpec}
def rdH (h : AHeap) (f p : Nat) : AHeap := ((h.new (pteRow 0 0)).new (pteRow f p)).put h.next (pteRow f p)
def blH (h : AHeap) (f p : Nat) : AHeap := ((rdH h f p).new (pteRow f p)).new (pteRow f p)
theorem rdH_next (h : AHeap) (f p : Nat) : (rdH h f p).next = h.next + 2 := rfl
section
variable {h : AHeap} {M id off len L N n i v f p : Nat}
theorem MemH.new (hm : MemH h M id off len L N) (h1 : M < h.next) (h2 : id < h.next) (o : AObj) : MemH (h.new o) M id off len L N := by
  obtain ⟨⟨a, b, c, d, e, g1⟩, ⟨a', b', c', d', g2⟩⟩ := hm
  exact ⟨⟨a, b, c, d, e, by rw [AHeap.get_new_ne _ _ (by omega)]; exact g1⟩, ⟨a', b', c', d', by rw [AHeap.get_new_ne _ _ (by omega)]; exact g2⟩⟩
theorem MemH.put (hm : MemH h M id off len L N) {j : Nat} (h1 : M ≠ j) (h2 : id ≠ j) (o : AObj) : MemH (h.put j o) M id off len L N := by
  obtain ⟨⟨a, b, c, d, e, g1⟩, ⟨a', b', c', d', g2⟩⟩ := hm
  exact ⟨⟨a, b, c, d, e, by rw [AHeap.get_put_ne _ _ (fun q => h1 q.symm)]; exact g1⟩, ⟨a', b', c', d', by rw [AHeap.get_put_ne _ _ (fun q => h2 q.symm)]; exact g2⟩⟩
theorem k_read (hO : OFree O) (hm : MemH h M id off len L N) (h1 : M < h.next) (h2 : id < h.next) (hn : n < len) (hi : i < 512) (hL : off + n * 4096 + 4096 ≤ L) (hv : v = wordN N (off + n * 4096 + 8 * i)) :
    Runs O tab n_walk_read [.ptr M 0, .int .i64 (n : Nat), .int .i64 (i : Nat)] h (pteV (flN v) (ppN v)) (rdH h (flN v) (ppN v)) := by
  have hv64 : v < 2 ^ 64 := by rw [hv]; exact Nat.mod_lt _ (by decide)
  refine runs_w (fun _ _ _ x => progI_call (hO.free _ rfl) rfl x) Njs rfl ?_
  (repeat (first | (show W _ _ _ _ _ _ (.code (cond _ _ _) :: _) _ _; first | refine W.ct ?_ | refine W.cf ?_) | (show W _ _ _ _ _ _ (.ins (cond _ _ _ :: _) :: _) _ _; first | refine W.gt ?_ | refine W.gf ?_) | (show W _ _ _ _ _ _ [] _ _; refine W.of (.done ?_)) | (apply W.of; constructor <;> first | (show W _ _ _ _ _ _ _ _ _) | (intro (al : Nat) h st; show W _ _ _ _ _ _ _ _ _) | (intro _ h st; show W _ _ _ _ _ _ _ _ _) | exact Sd)))
  refine W.dx (ho := x_alloc rfl rfl) (w := ?_)
  (repeat (first | (show W _ _ _ _ _ _ (.code (cond _ _ _) :: _) _ _; first | refine W.ct ?_ | refine W.cf ?_) | (show W _ _ _ _ _ _ (.ins (cond _ _ _ :: _) :: _) _ _; first | refine W.gt ?_ | refine W.gf ?_) | (show W _ _ _ _ _ _ [] _ _; refine W.of (.done ?_)) | (apply W.of; constructor <;> first | (show W _ _ _ _ _ _ _ _ _) | (intro (al : Nat) h st; show W _ _ _ _ _ _ _ _ _) | (intro _ h st; show W _ _ _ _ _ _ _ _ _) | exact Sd)))
  refine W.cx (hr := k_Word hO (hm.new h1 h2 _) hn hi hL) (w := ?_)
  rw [← hv]
  (repeat (first | (show W _ _ _ _ _ _ (.code (cond _ _ _) :: _) _ _; first | refine W.ct ?_ | refine W.cf ?_) | (show W _ _ _ _ _ _ (.ins (cond _ _ _ :: _) :: _) _ _; first | refine W.gt ?_ | refine W.gf ?_) | (show W _ _ _ _ _ _ [] _ _; refine W.of (.done ?_)) | (apply W.of; constructor <;> first | (show W _ _ _ _ _ _ _ _ _) | (intro (al : Nat) h st; show W _ _ _ _ _ _ _ _ _) | (intro _ h st; show W _ _ _ _ _ _ _ _ _) | exact Sd)))
  refine W.cx (hr := k_Decode hO hv64) (w := ?_)
  (repeat (first | (show W _ _ _ _ _ _ (.code (cond _ _ _) :: _) _ _; first | refine W.ct ?_ | refine W.cf ?_) | (show W _ _ _ _ _ _ (.ins (cond _ _ _ :: _) :: _) _ _; first | refine W.gt ?_ | refine W.gf ?_) | (show W _ _ _ _ _ _ [] _ _; refine W.of (.done ?_)) | (apply W.of; constructor <;> first | (show W _ _ _ _ _ _ _ _ _) | (intro (al : Nat) h st; show W _ _ _ _ _ _ _ _ _) | (intro _ h st; show W _ _ _ _ _ _ _ _ _) | exact Sd)))
  have hg : (((h.new (pteRow 0 0)).new (pteRow (flN v) (ppN v))).get h.next) = some (pteRow 0 0) := by
    rw [AHeap.get_new_ne _ _ (by show h.next + 1 ≠ h.next; omega)]; exact AHeap.get_new_same _ _
  refine W.dx0 (ho := x_store (d := .vals [.int .i64 ((0 : Nat) : Int), .int .i64 ((0 : Nat) : Int)]) (d' := .vals [.int .i64 (flN v : Nat), .int .i64 (ppN v : Nat)]) hg rfl rfl rfl) (w := ?_)
  (repeat (first | (show W _ _ _ _ _ _ (.code (cond _ _ _) :: _) _ _; first | refine W.ct ?_ | refine W.cf ?_) | (show W _ _ _ _ _ _ (.ins (cond _ _ _ :: _) :: _) _ _; first | refine W.gt ?_ | refine W.gf ?_) | (show W _ _ _ _ _ _ [] _ _; refine W.of (.done ?_)) | (apply W.of; constructor <;> first | (show W _ _ _ _ _ _ _ _ _) | (intro (al : Nat) h st; show W _ _ _ _ _ _ _ _ _) | (intro _ h st; show W _ _ _ _ _ _ _ _ _) | exact Sd)))
  refine ⟨[pteV (flN v) (ppN v)], ?_, rfl, rfl⟩
  show (match aop (.loadn 2) [.ptr h.next 0] (rdH h (flN v) (ppN v)), some [] with
    | some (v, _), some vs => some (v :: vs)
    | _, _ => none) = _
  rw [show aop (.loadn 2) [.ptr h.next 0] (rdH h (flN v) (ppN v)) = some (pteV (flN v) (ppN v), rdH h (flN v) (ppN v)) from (d_loadn (AHeap.get_put_same _ _ _) rfl).run]
theorem k_below (hO : OFree O) (hm : MemH h M id off len L N) (h1 : M < h.next) (h2 : id < h.next) (hn : n < len) (hi : i < 512) (hL : off + n * 4096 + 4096 ≤ L) (hv : v = wordN N (off + n * 4096 + 8 * i)) :
    Runs O tab n_walk_below [.ptr M 0, .int .i64 (n : Nat), .int .i64 (i : Nat)] h (.tuple [.int .i64 (ppN v : Nat), .bool (sel (Nat.beq (kindM (flN v)) 1) (Nat.blt (ppN v) len) false)]) (blH h (flN v) (ppN v)) := by
  obtain ⟨f, hf⟩ : ∃ f, f = flN v := ⟨_, rfl⟩
  obtain ⟨p, hp⟩ : ∃ p, p = ppN v := ⟨_, rfl⟩
  have hf63 : f < 2 ^ 63 := by rw [hf]; exact Nat.lt_of_lt_of_le (Nat.mod_lt _ (by decide)) (by decide)
  rw [← hf, ← hp]
  have g1 : ((rdH h f p).new (pteRow f p)).get (h.next + 2) = some (pteRow f p) := AHeap.get_new_same _ _
  have g2 : (blH h f p).get (h.next + 2) = some (pteRow f p) := by
    unfold blH
    rw [AHeap.get_new_ne _ _ (by show h.next + 3 ≠ h.next + 2; omega)]; exact g1
  have hmb : MemH (blH h f p) M id off len L N := by
    have a1 := hm.new h1 h2 (pteRow 0 0)
    have a2 := a1.new (Nat.lt_succ_of_lt h1) (Nat.lt_succ_of_lt h2) (pteRow f p)
    have a3 := a2.put (j := h.next) (by omega) (by omega) (pteRow f p)
    have a4 := a3.new (by show M < h.next + 2; omega) (by show id < h.next + 2; omega) (pteRow f p)
    exact a4.new (by show M < h.next + 3; omega) (by show id < h.next + 3; omega) (pteRow f p)
  refine runs_w (fun _ _ _ x => progI_call (hO.free _ rfl) rfl x) Njs rfl ?_
  (repeat (first | (show W _ _ _ _ _ _ (.code (cond _ _ _) :: _) _ _; first | refine W.ct ?_ | refine W.cf ?_) | (show W _ _ _ _ _ _ (.ins (cond _ _ _ :: _) :: _) _ _; first | refine W.gt ?_ | refine W.gf ?_) | (show W _ _ _ _ _ _ [] _ _; refine W.of (.done ?_)) | (apply W.of; constructor <;> first | (show W _ _ _ _ _ _ _ _ _) | (intro (al : Nat) h st; show W _ _ _ _ _ _ _ _ _) | (intro _ h st; show W _ _ _ _ _ _ _ _ _) | exact Sd)))
  have hr := k_read hO hm h1 h2 hn hi hL hv
  rw [← hf, ← hp] at hr
  refine W.cx (hr := hr) (w := ?_)
  refine W.dx (ho := x_alloc rfl rfl) (w := ?_)
  (repeat (first | (show W _ _ _ _ _ _ (.code (cond _ _ _) :: _) _ _; first | refine W.ct ?_ | refine W.cf ?_) | (show W _ _ _ _ _ _ (.ins (cond _ _ _ :: _) :: _) _ _; first | refine W.gt ?_ | refine W.gf ?_) | (show W _ _ _ _ _ _ [] _ _; refine W.of (.done ?_)) | (apply W.of; constructor <;> first | (show W _ _ _ _ _ _ _ _ _) | (intro (al : Nat) h st; show W _ _ _ _ _ _ _ _ _) | (intro _ h st; show W _ _ _ _ _ _ _ _ _) | exact Sd)))
  refine W.dx0 (ho := x_store (d := .vals [.int .i64 0, .int .i64 0]) (d' := .vals [.int .i64 (f : Nat), .int .i64 (p : Nat)]) (AHeap.get_new_same _ _) rfl rfl rfl) (w := ?_)
  rw [show ((rdH h f p).new (.row ty_api_PTE 2 false false (.vals [.int .i64 0, .int .i64 0]))).put (rdH h f p).next (.row ty_api_PTE 2 false false (.vals [.int .i64 (f : Nat), .int .i64 (p : Nat)])) = (rdH h f p).new (pteRow f p) from AHeap.new_put _ _ _, rdH_next]
  (repeat (first | (show W _ _ _ _ _ _ (.code (cond _ _ _) :: _) _ _; first | refine W.ct ?_ | refine W.cf ?_) | (show W _ _ _ _ _ _ (.ins (cond _ _ _ :: _) :: _) _ _; first | refine W.gt ?_ | refine W.gf ?_) | (show W _ _ _ _ _ _ [] _ _; refine W.of (.done ?_)) | (apply W.of; constructor <;> first | (show W _ _ _ _ _ _ _ _ _) | (intro (al : Nat) h st; show W _ _ _ _ _ _ _ _ _) | (intro _ h st; show W _ _ _ _ _ _ _ _ _) | exact Sd))); refine W.do (ho := (d_load1 g1 rfl)) (w := ?_)
  (repeat (first | (show W _ _ _ _ _ _ (.code (cond _ _ _) :: _) _ _; first | refine W.ct ?_ | refine W.cf ?_) | (show W _ _ _ _ _ _ (.ins (cond _ _ _ :: _) :: _) _ _; first | refine W.gt ?_ | refine W.gf ?_) | (show W _ _ _ _ _ _ [] _ _; refine W.of (.done ?_)) | (apply W.of; constructor <;> first | (show W _ _ _ _ _ _ _ _ _) | (intro (al : Nat) h st; show W _ _ _ _ _ _ _ _ _) | (intro _ h st; show W _ _ _ _ _ _ _ _ _) | exact Sd))); refine W.do (ho := (d_loadn g1 rfl)) (w := ?_)
  (repeat (first | (show W _ _ _ _ _ _ (.code (cond _ _ _) :: _) _ _; first | refine W.ct ?_ | refine W.cf ?_) | (show W _ _ _ _ _ _ (.ins (cond _ _ _ :: _) :: _) _ _; first | refine W.gt ?_ | refine W.gf ?_) | (show W _ _ _ _ _ _ [] _ _; refine W.of (.done ?_)) | (apply W.of; constructor <;> first | (show W _ _ _ _ _ _ _ _ _) | (intro (al : Nat) h st; show W _ _ _ _ _ _ _ _ _) | (intro _ h st; show W _ _ _ _ _ _ _ _ _) | exact Sd)))
  refine W.cx (hr := k_Kind hO hf63) (w := ?_)
  change W _ _ _ _ _ _ _ _ (blH h f p)
  (repeat (first | (show W _ _ _ _ _ _ (.code (cond _ _ _) :: _) _ _; first | refine W.ct ?_ | refine W.cf ?_) | (show W _ _ _ _ _ _ (.ins (cond _ _ _ :: _) :: _) _ _; first | refine W.gt ?_ | refine W.gf ?_) | (show W _ _ _ _ _ _ [] _ _; refine W.of (.done ?_)) | (apply W.of; constructor <;> first | (show W _ _ _ _ _ _ _ _ _) | (intro (al : Nat) h st; show W _ _ _ _ _ _ _ _ _) | (intro _ h st; show W _ _ _ _ _ _ _ _ _) | exact Sd))); refine W.of (.ag (.dz rfl rfl (d_load1 g2 rfl) rfl .nil) ?_)
  obtain ⟨kd, hkd⟩ : ∃ kd, kd = kindM f := ⟨_, rfl⟩
  rw [← hkd, sel_eq, beqD, bltD]
  simp only [decide_eq_true_eq]
  by_cases hk : kd = 1
  · rw [if_pos hk]
    have hq : (((kd : Nat) : Int) == 1) = true := q_t (by omega)
    (repeat (first | (show W _ _ _ _ _ _ (.code (cond _ _ _) :: _) _ _; first | refine W.ct ?_ | refine W.cf ?_) | (show W _ _ _ _ _ _ (.ins (cond _ _ _ :: _) :: _) _ _; first | refine W.gt ?_ | refine W.gf ?_) | (show W _ _ _ _ _ _ [] _ _; refine W.of (.done ?_)) | (apply W.of; constructor <;> first | (show W _ _ _ _ _ _ _ _ _) | (intro (al : Nat) h st; show W _ _ _ _ _ _ _ _ _) | (intro _ h st; show W _ _ _ _ _ _ _ _ _) | exact Sd)))
    (repeat (first | (show W _ _ _ _ _ _ (.code (cond _ _ _) :: _) _ _; first | refine W.ct ?_ | refine W.cf ?_) | (show W _ _ _ _ _ _ (.ins (cond _ _ _ :: _) :: _) _ _; first | refine W.gt ?_ | refine W.gf ?_) | (show W _ _ _ _ _ _ [] _ _; refine W.of (.done ?_)) | (apply W.of; constructor <;> first | (show W _ _ _ _ _ _ _ _ _) | (intro (al : Nat) h st; show W _ _ _ _ _ _ _ _ _) | (intro _ h st; show W _ _ _ _ _ _ _ _ _) | exact Sd))); refine W.do (ho := (d_load1 g2 rfl)) (w := ?_)
    (repeat (first | (show W _ _ _ _ _ _ (.code (cond _ _ _) :: _) _ _; first | refine W.ct ?_ | refine W.cf ?_) | (show W _ _ _ _ _ _ (.ins (cond _ _ _ :: _) :: _) _ _; first | refine W.gt ?_ | refine W.gf ?_) | (show W _ _ _ _ _ _ [] _ _; refine W.of (.done ?_)) | (apply W.of; constructor <;> first | (show W _ _ _ _ _ _ _ _ _) | (intro (al : Nat) h st; show W _ _ _ _ _ _ _ _ _) | (intro _ h st; show W _ _ _ _ _ _ _ _ _) | exact Sd)))
    refine W.cx (hr := k_Frames hO hmb) (w := ?_)
    rw [hq]
    (repeat (first | (show W _ _ _ _ _ _ (.code (cond _ _ _) :: _) _ _; first | refine W.ct ?_ | refine W.cf ?_) | (show W _ _ _ _ _ _ (.ins (cond _ _ _ :: _) :: _) _ _; first | refine W.gt ?_ | refine W.gf ?_) | (show W _ _ _ _ _ _ [] _ _; refine W.of (.done ?_)) | (apply W.of; constructor <;> first | (show W _ _ _ _ _ _ _ _ _) | (intro (al : Nat) h st; show W _ _ _ _ _ _ _ _ _) | (intro _ h st; show W _ _ _ _ _ _ _ _ _) | exact Sd))); refine W.of (.ag (.dz rfl rfl (d_load1 g2 rfl) rfl (.gd (b := true) rfl (.dz rfl rfl (d_load1 g2 rfl) rfl .nil))) ?_)
    (repeat (first | (show W _ _ _ _ _ _ (.code (cond _ _ _) :: _) _ _; first | refine W.ct ?_ | refine W.cf ?_) | (show W _ _ _ _ _ _ (.ins (cond _ _ _ :: _) :: _) _ _; first | refine W.gt ?_ | refine W.gf ?_) | (show W _ _ _ _ _ _ [] _ _; refine W.of (.done ?_)) | (apply W.of; constructor <;> first | (show W _ _ _ _ _ _ _ _ _) | (intro (al : Nat) h st; show W _ _ _ _ _ _ _ _ _) | (intro _ h st; show W _ _ _ _ _ _ _ _ _) | exact Sd)))
    refine ⟨_, rfl, ?_, rfl⟩
    rw [show (decide ((p : Int) < (len : Nat)) : Bool) = decide (p < len) from decide_eq_decide.2 (by omega)]
    rfl
  · rw [if_neg hk]
    have hq : (((kd : Nat) : Int) == 1) = false := q_f (by omega)
    (repeat (first | (show W _ _ _ _ _ _ (.code (cond _ _ _) :: _) _ _; first | refine W.ct ?_ | refine W.cf ?_) | (show W _ _ _ _ _ _ (.ins (cond _ _ _ :: _) :: _) _ _; first | refine W.gt ?_ | refine W.gf ?_) | (show W _ _ _ _ _ _ [] _ _; refine W.of (.done ?_)) | (apply W.of; constructor <;> first | (show W _ _ _ _ _ _ _ _ _) | (intro (al : Nat) h st; show W _ _ _ _ _ _ _ _ _) | (intro _ h st; show W _ _ _ _ _ _ _ _ _) | exact Sd)))
    rw [hq]
    (repeat (first | (show W _ _ _ _ _ _ (.code (cond _ _ _) :: _) _ _; first | refine W.ct ?_ | refine W.cf ?_) | (show W _ _ _ _ _ _ (.ins (cond _ _ _ :: _) :: _) _ _; first | refine W.gt ?_ | refine W.gf ?_) | (show W _ _ _ _ _ _ [] _ _; refine W.of (.done ?_)) | (apply W.of; constructor <;> first | (show W _ _ _ _ _ _ _ _ _) | (intro (al : Nat) h st; show W _ _ _ _ _ _ _ _ _) | (intro _ h st; show W _ _ _ _ _ _ _ _ _) | exact Sd))); refine W.of (.ag (.dz rfl rfl (d_load1 g2 rfl) rfl (.gd (b := false) rfl .nil)) ?_)
    (repeat (first | (show W _ _ _ _ _ _ (.code (cond _ _ _) :: _) _ _; first | refine W.ct ?_ | refine W.cf ?_) | (show W _ _ _ _ _ _ (.ins (cond _ _ _ :: _) :: _) _ _; first | refine W.gt ?_ | refine W.gf ?_) | (show W _ _ _ _ _ _ [] _ _; refine W.of (.done ?_)) | (apply W.of; constructor <;> first | (show W _ _ _ _ _ _ _ _ _) | (intro (al : Nat) h st; show W _ _ _ _ _ _ _ _ _) | (intro _ h st; show W _ _ _ _ _ _ _ _ _) | exact Sd)))
    exact ⟨_, rfl, rfl, rfl⟩
end
end Go.Proofs.YtlkfclgkinaibaaGreat

namespace Go.Proofs.YtlkfclgkinaibaaGreat
variable {O : Nat → Option FSpec}
section
variable {h : AHeap} {M id off len L N n i v f p : Nat}
theorem b_Decode (hO : OFree O) (hv : v < 2 ^ 64) : Runs O tab n_pte_Decode [.int .u64 (v : Nat)] h (pteV (flN v) (ppN v)) (h.bump 1) :=
  (k_Decode hO hv).drop hO (hO.free _ rfl) rfl fun hw => AHeap.bump_less hw rfl fun j hj => AHeap.get_new_ne _ _ (by omega)
theorem b_Kind (hO : OFree O) (hf : f < 2 ^ 63) : Runs O tab n_pte_Kind [pteV f p] h (.int .i64 (kindM f : Nat)) (h.bump 1) :=
  (k_Kind hO hf).drop hO (hO.free _ rfl) rfl fun hw => AHeap.bump_less hw rfl fun j hj => AHeap.get_new_ne _ _ (by omega)
theorem rdH_get {j : Nat} (hj : j < h.next) : (rdH h f p).get j = h.get j := by
  unfold rdH
  rw [AHeap.get_put_ne _ _ (by omega), AHeap.get_new_ne _ _ (by show h.next + 1 ≠ j; omega), AHeap.get_new_ne _ _ (by omega)]
theorem blH_get {j : Nat} (hj : j < h.next) : (blH h f p).get j = h.get j := by
  unfold blH
  rw [AHeap.get_new_ne _ _ (by show h.next + 3 ≠ j; omega), AHeap.get_new_ne _ _ (by show h.next + 2 ≠ j; omega)]
  exact rdH_get hj
theorem b_read (hO : OFree O) (hm : MemH h M id off len L N) (h1 : M < h.next) (h2 : id < h.next) (hn : n < len) (hi : i < 512) (hL : off + n * 4096 + 4096 ≤ L) (hv : v = wordN N (off + n * 4096 + 8 * i)) :
    Runs O tab n_walk_read [.ptr M 0, .int .i64 (n : Nat), .int .i64 (i : Nat)] h (pteV (flN v) (ppN v)) (h.bump 2) :=
  (k_read hO hm h1 h2 hn hi hL hv).drop hO (hO.free _ rfl) rfl fun hw => AHeap.bump_less hw rfl fun _ hj => rdH_get hj
theorem b_below (hO : OFree O) (hm : MemH h M id off len L N) (h1 : M < h.next) (h2 : id < h.next) (hn : n < len) (hi : i < 512) (hL : off + n * 4096 + 4096 ≤ L) (hv : v = wordN N (off + n * 4096 + 8 * i)) :
    Runs O tab n_walk_below [.ptr M 0, .int .i64 (n : Nat), .int .i64 (i : Nat)] h (.tuple [.int .i64 (ppN v : Nat), .bool (sel (Nat.beq (kindM (flN v)) 1) (Nat.blt (ppN v) len) false)]) (h.bump 4) :=
  (k_below hO hm h1 h2 hn hi hL hv).drop hO (hO.free _ rfl) rfl fun hw => AHeap.bump_less hw rfl fun _ hj => blH_get hj
end
end Go.Proofs.YtlkfclgkinaibaaGreat
