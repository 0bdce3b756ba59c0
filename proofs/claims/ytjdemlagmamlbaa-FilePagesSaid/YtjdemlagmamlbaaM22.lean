/- Runs without a choice, reckoned; what a run in no memory tells of any. -/
import Derived.Test.YtjdemlagmamlbaaM21
namespace Go.Proofs.Ytjdemlagmamlbaa

abbrev DSem := Fn → List AV → AHeap → Option (AV × AHeap)

def nextD (args : List AV) (h : AHeap) : Option (AV × AHeap) :=
  match args with
  | [.ptr id 0] => match h.get id with
    | some (.iter none _ _ _) => some (.tuple [.bool false], h)
    | some (.iter (some m) since seen last) => match h.get m with
      | some (.map es clock) => if seen.isEmpty || es.isEmpty || es.any (fun e => decide (e.2.2 < last)) then
          match es.filter fun e => !seen.contains e.2.2 with
          | [] => some (.tuple [.bool false], h)
          | [e] => if e.2.2 < since then some (.tuple [.bool true, e.1, e.2.1], h.put id (.iter (some m) since (seen ++ [e.2.2]) clock)) else none
          | _ => none
        else none
      | _ => none
    | _ => none
  | _ => none

def doOpD (C : DSem) (o : AOp) (args : List AV) (h : AHeap) : Option (AV × AHeap) :=
  match o with
  | .callv => match args with
    | .func f first captured :: rest => C (.f f) (first ++ rest ++ captured) h
    | .yield l :: rest => C (.y l) rest h
    | _ => none
  | .next => nextD args h
  | o => aop o args h

def runInD (C : DSem) (i : AIn) (e : List AV) (h : AHeap) : Option (List AV × AHeap) :=
  match wantedA e i.guard with
  | some true => match evalL e i.args with
    | some args => match doOpD C i.op args h with
      | some (v, h') => some (setDst e i.dst v, h')
      | none => none
    | none => none
  | some false => some (setDst e i.dst (.tuple []), h)
  | none => none

def runInsD (C : DSem) : List AIn → List AV → AHeap → Option (List AV × AHeap)
  | [], e, h => some (e, h)
  | i :: is, e, h => match runInD C i e h with
    | some (e', h') => runInsD C is e' h'
    | none => none

def runDrawD (C : DSem) : List DI → List AV → AHeap → Option (List AV × AHeap)
  | [], e, h => some (e, h)
  | d :: ds, e, h => match runInD C d.i e h with
    | some (e', h') => if d.rs.all (fun r => again r.2 e' h') then runDrawD C ds e' h' else none
    | none => none

abbrev OutD := Option (AExit × List AV × AHeap)

def iterD (body : List AV → AHeap → OutD) : Nat → List AV → AHeap → OutD
  | 0, _, _ => none
  | n + 1, e, h => match body e h with
    | some (.normal, e', h') => iterD body n e' h'
    | r => r

def isLoopD (h : AHeap) : Option Nat → Bool
  | none => true
  | some l => match h.get l with
    | some (.loop _ _ _ _ _ _) => true
    | _ => false

def execD (C : DSem) (ro : Option Nat) : ACode → List AV → AHeap → OutD
  | .skip, e, h => some (.normal, e, h)
  | .region ops, e, h => match runInsD C ops e h with
    | some (e', h') => some (.normal, e', h')
    | none => none
  | .seq a b, e, h => match execD C ro a e h with
    | some (.normal, e', h') => execD C ro b e' h'
    | r => r
  | .cond c a b, e, h => match c.eval e with
    | some (.bool true) => execD C ro a e h
    | some (.bool false) => execD C ro b e h
    | _ => none
  | .block id b, e, h => match execD C ro b e h with
    | some (.exit i, e', h') => if i = id then some (.normal, e', h') else some (.exit i, e', h')
    | r => r
  | .loop b, e, h => iterD (execD C ro b) rounds e h
  | .exit id, e, h => some (.exit id, e, h)
  | .ret, e, h => some (.ret, e, h)
  | .draw alts, e, h => match alts with
    | [ds] => match runDrawD C ds e h with
      | some (e', h') => some (.normal, e', h')
      | none => none
    | _ => none
  | .rfun f ps asg body, e, h => match f.eval e with
    | some (.func g first captured) => if isLoopD h ro then
        match C (.f g) (first ++ [.yield h.next] ++ captured) (h.new (.loop .ready none e ps asg body)) with
        | some (_, h') => match h'.get h.next with
          | some (.loop .busy _ _ _ _ _) => none
          | some (.loop _ j _ _ _ _) => some (j.getD .normal, e, h'.kill h.next)
          | _ => none
        | none => none
      else none
    | _ => none
  | .bad, _, _ => none

def callD (C : DSem) (f : AFn) (args : List AV) (h : AHeap) : Option (AV × AHeap) :=
  match execD C none f.body (args ++ List.replicate (f.ntmps - args.length) .junk) h with
  | some (.normal, e, h') => (resA e h' f.res).map fun vs => (retA vs, h')
  | some (.ret, e, h') => (resA e h' f.res).map fun vs => (retA vs, h')
  | _ => none

def roundD (C : DSem) (l : Nat) (args : List AV) (h : AHeap) : Option (AV × AHeap) :=
  match h.get l with
  | some (.loop _ _ tmps ps asg body) => if args.length = ps.length then
      match execD C (some l) asg (setAll tmps ps args) h with
      | some (.normal, e1, h1) => match h1.get l with
        | some (.loop .ready j t p a b) => match execD C (some l) body e1 (h1.put l (.loop .busy j t p a b)) with
          | some (x, _, h2) => match h2.get l with
            | some (.loop _ _ t p a b) => match x with
              | .normal => some (.bool true, h2.put l (.loop .ready none t p a b))
              | .exit i => some (.bool false, h2.put l (.loop .done (some (.exit i)) t p a b))
              | .ret => some (.bool false, h2.put l (.loop .done (some .ret) t p a b))
            | _ => none
          | none => none
        | _ => none
      | _ => none
    else none
  | _ => none

/-- the functions' code, called at most so deep -/
def progD (T : BT) : Nat → DSem
  | 0 => fun _ _ _ => none
  | d + 1 => fun g args h => match g with
    | .f n => match T.get n with
      | some af => callD (progD T d) af args h
      | none => none
    | .y l => roundD (progD T d) l args h

section
variable {D : DSem} {C : SemW} (hC : ∀ g args h v h' Q, D g args h = some (v, h') → Q v h' → C g args h Q)
include hC

omit hC in
theorem nextD_ok {args : List AV} {h h' : AHeap} {v : AV} {Q : AV → AHeap → Prop} (x : nextD args h = some (v, h')) (q : Q v h') : nextW args h Q := by
  unfold nextD at x
  split at x
  · rename_i id
    split at x
    · rename_i hg
      cases x
      simp only [nextW, hg]
      exact q
    · rename_i m since seen last hg
      split at x
      · rename_i es clock hm
        simp only [nextW, hg, hm]
        split at x
        · rename_i hc
          have hc' : seen = [] ∨ es = [] ∨ ∃ e, e ∈ es ∧ e.2.2 < last := by
            simp only [Bool.or_eq_true, List.isEmpty_iff, List.any_eq_true, decide_eq_true_eq] at hc
            rcases hc with (h | h) | ⟨e, h1, h2⟩
            · exact .inl h
            · exact .inr (.inl h)
            · exact .inr (.inr ⟨e, h1, h2⟩)
          split at x
          · rename_i hf
            cases x
            rw [List.filter_eq_nil_iff] at hf
            refine ⟨hc', fun e he hn => ?_, fun _ => q⟩
            have := hf e he
            simp [hn] at this
          · rename_i e0 hf
            split at x
            · rename_i hlt
              cases x
              have hmem : ∀ e, e ∈ es → e.2.2 ∉ seen → e = e0 := fun e he hn => by
                have : e ∈ es.filter fun e => !seen.contains e.2.2 := List.mem_filter.2 ⟨he, by simp [hn]⟩
                rw [hf] at this
                exact List.mem_singleton.1 this
              refine ⟨hc', fun e he hn => ?_, fun hall => ?_⟩
              · rw [hmem e he hn]; exact q
              · exfalso
                have : e0 ∈ es.filter fun e => !seen.contains e.2.2 := by rw [hf]; simp
                obtain ⟨h1, h2⟩ := List.mem_filter.1 this
                have h3 := hall e0 h1 hlt
                simp [h3] at h2
            · cases x
          · cases x
        · cases x
      · cases x
    · cases x
  · cases x

theorem doOpD_ok {o : AOp} {args : List AV} {h h' : AHeap} {v : AV} {Q : AV → AHeap → Prop} (x : doOpD D o args h = some (v, h')) (q : Q v h') : doOpW C o args h Q := by
  unfold doOpD at x
  unfold doOpW
  split at x
  · split at x
    · exact hC _ _ _ _ _ _ x q
    · exact hC _ _ _ _ _ _ x q
    · cases x
  · exact nextD_ok x q
  · split
    · exact absurd rfl (by assumption)
    · exact absurd rfl (by assumption)
    · rw [x]; exact q

theorem runInD_ok {i : AIn} {e e' : List AV} {h h' : AHeap} {Q : List AV → AHeap → Prop} (x : runInD D i e h = some (e', h')) (q : Q e' h') : runInW C i e h Q := by
  unfold runInD at x
  unfold runInW
  split at x
  · rename_i h1
    split at x
    · rename_i args h2
      split at x
      · rename_i v h3 h4
        cases x
        simp only [h1, h2]
        exact doOpD_ok hC h4 q
      · cases x
    · cases x
  · rename_i h1; cases x; simp only [h1]; exact q
  · cases x

theorem runInsD_ok : ∀ {is : List AIn} {e e' : List AV} {h h' : AHeap} {Q : List AV → AHeap → Prop}, runInsD D is e h = some (e', h') → Q e' h' → runInsW C is e h Q
  | [], _, _, _, _, _, x, q => by cases x; exact q
  | i :: is, e, e', h, h', Q, x, q => by
    simp only [runInsD] at x
    split at x
    · rename_i e1 h1 h2
      exact runInD_ok hC h2 (runInsD_ok x q)
    · cases x

theorem runDrawD_ok : ∀ {is : List DI} {e e' : List AV} {h h' : AHeap} {Q : List AV → AHeap → Prop}, runDrawD D is e h = some (e', h') → Q e' h' → runDrawW C is e h Q
  | [], _, _, _, _, _, x, q => by cases x; exact q
  | i :: is, e, e', h, h', Q, x, q => by
    simp only [runDrawD] at x
    split at x
    · rename_i e1 h1 h2
      split at x
      · rename_i h3
        exact runInD_ok hC h2 ⟨h3, runDrawD_ok x q⟩
      · cases x
    · cases x

theorem execD_ok {ro : Option Nat} : ∀ {c : ACode} {e e' : List AV} {h h' : AHeap} {y : AExit} {Q : AExit → List AV → AHeap → Prop}, execD D ro c e h = some (y, e', h') → Q y e' h' → execW C ro c e h Q
  | .skip, _, _, _, _, _, _, x, q => by cases x; exact q
  | .region ops, e, e', h, h', y, Q, x, q => by
    simp only [execD] at x
    split at x
    · rename_i h1
      cases x
      exact runInsD_ok hC h1 q
    · cases x
  | .seq a b, e, e', h, h', y, Q, x, q => by
    simp only [execD] at x
    simp only [execW]
    split at x
    · rename_i e1 h1 h2
      exact execD_ok (y := .normal) h2 (execD_ok x q)
    · rename_i hne
      refine execD_ok x ?_
      cases y with
      | normal => exact absurd x (hne _ _)
      | exit _ => exact q
      | ret => exact q
  | .cond c a b, e, e', h, h', y, Q, x, q => by
    simp only [execD] at x
    simp only [execW]
    split at x
    · rename_i h1; rw [h1]; exact execD_ok x q
    · rename_i h1; rw [h1]; exact execD_ok x q
    · cases x
  | .block id b, e, e', h, h', y, Q, x, q => by
    simp only [execD] at x
    simp only [execW]
    split at x
    · rename_i i e1 h1 h2
      refine execD_ok h2 ?_
      split at x
      · rename_i hi; cases x; simp only [hi, if_true]; exact q
      · rename_i hi; cases x; simp only [hi, if_false]; exact q
    · rename_i hne
      refine execD_ok x ?_
      cases y with
      | normal => exact q
      | exit i => exact absurd x (hne _ _ _)
      | ret => exact q
  | .loop b, e, e', h, h', y, Q, x, q => by
    simp only [execD] at x
    simp only [execW]
    have key : ∀ n e h, iterD (execD D ro b) n e h = some (y, e', h') → iterW (execW C ro b) n e h Q := by
      intro n
      induction n with
      | zero => intro e h x; cases x
      | succ n ih =>
        intro e h x
        simp only [iterD] at x
        simp only [iterW]
        split at x
        · rename_i e1 h1 h2
          exact execD_ok (y := .normal) h2 (ih _ _ x)
        · rename_i hne
          refine execD_ok x ?_
          cases y with
          | normal => exact absurd x (hne _ _)
          | exit _ => exact q
          | ret => exact q
    exact key _ _ _ x
  | .exit _, _, _, _, _, _, _, x, q => by cases x; exact q
  | .ret, _, _, _, _, _, _, x, q => by cases x; exact q
  | .draw alts, e, e', h, h', y, Q, x, q => by
    simp only [execD] at x
    split at x
    · split at x
      · rename_i h1
        cases x
        intro ds hd
        rw [List.mem_singleton.1 hd]
        exact runDrawD_ok hC h1 q
      · cases x
    · cases x
  | .rfun f ps asg body, e, e', h, h', y, Q, x, q => by
    simp only [execD] at x
    simp only [execW]
    split at x
    · rename_i g first captured hf
      rw [hf]
      split at x
      · rename_i hl
        split at x
        · rename_i v h1 h2
          refine ⟨fun l hlo => ?_, hC _ _ _ _ _ _ h2 ?_⟩
          · subst hlo
            unfold isLoopD at hl
            simp only at hl
            split at hl
            · exact ⟨_, _, _, _, _, _, by assumption⟩
            · cases hl
          · unfold endW
            split at x
            · cases x
            · rename_i st j t p a b hne hg
              cases x
              rw [hg]
              exact ⟨fun e => hne e, q⟩
            · cases x
        · cases x
      · cases x
    · cases x
  | .bad, _, _, _, _, _, _, x, _ => by cases x

theorem callD_ok {f : AFn} {args : List AV} {h h' : AHeap} {v : AV} {Q : AV → AHeap → Prop} (x : callD D f args h = some (v, h')) (q : Q v h') : callW C f args h Q := by
  unfold callD at x
  unfold callW
  split at x
  · rename_i e h1 h2
    refine execD_ok hC h2 ?_
    cases hr : resA e h1 f.res with
    | none => rw [hr] at x; cases x
    | some vs => rw [hr] at x; cases x; exact q
  · rename_i e h1 h2
    refine execD_ok hC h2 ?_
    cases hr : resA e h1 f.res with
    | none => rw [hr] at x; cases x
    | some vs => rw [hr] at x; cases x; exact q
  · cases x

theorem roundD_ok {l : Nat} {args : List AV} {h h' : AHeap} {v : AV} {Q : AV → AHeap → Prop} (x : roundD D l args h = some (v, h')) (q : Q v h') : roundW C l args h Q := by
  unfold roundD at x
  unfold roundW
  split at x
  · rename_i hg
    split at x
    · rename_i hl
      split at x
      · rename_i e1 h1 h2
        split at x
        · rename_i hg1
          split at x
          · rename_i y e2 h3 h4
            simp only [hg]
            refine ⟨hl, execD_ok hC h2 ⟨rfl, ?_⟩⟩
            simp only [hg1]
            refine execD_ok hC h4 ?_
            unfold roundEnd
            split at x
            · rename_i hg3
              rw [hg3]
              cases y <;> (cases x; exact q)
            · cases x
          · cases x
        · cases x
      · cases x
    · cases x
  · cases x

end

theorem progD_ok {T : BT} : ∀ (d : Nat) (g : Fn) (args : List AV) (h : AHeap) (v : AV) (h' : AHeap) (Q : AV → AHeap → Prop), progD T d g args h = some (v, h') → Q v h' → progI (fun _ => none) T g args h Q
  | 0, _, _, _, _, _, _, x, _ => by cases x
  | d + 1, g, args, h, v, h', Q, x, q => by
    refine progI_step ?_
    cases g with
    | f n =>
      simp only [progD] at x
      simp only [stepW]
      split at x
      · rename_i af hf
        rw [hf]
        exact callD_ok (progD_ok d) x q
      · cases x
    | y l =>
      simp only [progD] at x
      exact roundD_ok (progD_ok d) x q

/-- what a function without arguments answers whatever the memory is, if it answers so in none -/
def constF (v : AV) : FSpec := fun args h Q => args = [] ∧ Q v h

theorem ObjR.same {Λ : Lam} {μ : Mu} {w w' : World} {l : Loc} {o : AObj} (h : ObjR Λ μ w l o) (hb : w'.heap[l.block]? = w.heap[l.block]?) : ObjR Λ μ w' l o := ObjR.ext (Ext.refl μ) h hb

theorem FSound.closed {P : Program} {Λ : Lam} {f : FuncId} {F : FSpec} (hs : FSound P Λ f F) {b : Bool} (hc : F [] ⟨0, .leaf⟩ fun v _ => v = .bool b) : FSound P Λ f (constF (.bool b)) := by
  intro args h Q μ w cargs hF hr hargs cs
  obtain ⟨rfl, hq⟩ := hF
  simp only [VRL] at hargs
  subst hargs
  obtain ⟨r, h', fr, w', μ', cv, rfl, s, hf, hl, hv, _, hst⟩ := hs [] ⟨0, .leaf⟩ _ _ w [] hc (rel_empty w) (by simp [VRL]) cs
  have hb := hst.below ro_empty
  simp only [VR] at hv
  subst hv
  refine ⟨.bool b, h, fr, w', μ, .bool b, hq, s, hf, hl, by simp [VR], ⟨fun id o hg => ?_, hr.inj, fun id l hl => ?_⟩, ⟨Ext.refl μ, Nat.le_refl _, fun _ _ => rfl, hb.os, hb.tape, hb.output, hb.size, fun b hb' _ => hb.block b hb', fun id o l h1 h2 h3 => .inr ⟨id, o, l, h1, h2, h3, rfl⟩⟩⟩
  · obtain ⟨l, hl, hobj⟩ := hr.obj id o hg
    exact ⟨l, hl, hobj.same (hb.block _ (hr.dom _ _ hl).2)⟩
  · have := hr.dom id l hl
    exact ⟨this.1, Nat.lt_of_lt_of_le this.2 hb.size⟩

/-- a run in no memory that comes to true -/
def trueD : Option (AV × AHeap) → Bool
  | some (.bool true, _) => true
  | _ => false

theorem FSound.lives {P : Program} {T : BT} (hT : AllB (Is P) T) {f d : Nat} (h : trueD (progD T d (.f f) [] ⟨0, .leaf⟩) = true) : FSound P (LamP P) f (constF (.bool true)) := by
  refine (progI_sound (O := fun _ => none) (fun _ _ h => by cases h) hT f).closed ?_
  unfold trueD at h
  split at h
  · rename_i h' e
    exact progD_ok d _ _ _ _ _ _ e rfl
  · cases h

end Go.Proofs.Ytjdemlagmamlbaa
