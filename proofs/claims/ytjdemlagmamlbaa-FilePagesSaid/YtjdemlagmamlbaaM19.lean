/- A program's functions, as a least fixed point; some of them by what is known of them. -/
import Derived.Test.YtjdemlagmamlbaaM18
namespace Go.Proofs.Ytjdemlagmamlbaa

abbrev FSpec := List AV → AHeap → (AV → AHeap → Prop) → Prop

/-- a table of functions, as a search tree -/
inductive BT where
  | leaf
  | node (l : BT) (k : Nat) (v : AFn) (r : BT)

def BT.get : BT → Nat → Option AFn
  | .leaf, _ => none
  | .node l k v r, n => if n = k then some v else if n < k then l.get n else r.get n

/-- what is asked of a function of the table -/
def AllB (Q : Nat → AFn → Prop) : BT → Prop
  | .leaf => True
  | .node l k v r => AllB Q l ∧ Q k v ∧ AllB Q r

theorem BT.get_of {Q : Nat → AFn → Prop} {n : Nat} {v : AFn} : ∀ {t : BT}, AllB Q t → t.get n = some v → Q n v
  | .leaf, _, h => by simp [BT.get] at h
  | .node l k x r, ⟨h1, h2, h3⟩, h => by
    simp only [BT.get] at h
    split at h
    · rename_i e; subst e; cases h; exact h2
    · split at h
      · exact BT.get_of h1 h
      · exact BT.get_of h3 h

/-- a function of the table is the program's -/
def Is (P : Program) (f : Nat) (af : AFn) : Prop := ∃ fn, P.funcs[f]? = some fn ∧ trFn P fn = some af ∧ Enters P f

/-- what holds behind more holds behind less -/
def MonoW (C : SemW) : Prop := ∀ g args h (Q Q' : AV → AHeap → Prop), (∀ v h, Q v h → Q' v h) → C g args h Q → C g args h Q'

section mono
variable {C C' : SemW} (hC : ∀ g args h Q, C g args h Q → C' g args h Q) (hM : MonoW C')
include hC hM

theorem doOpW_mono {o : AOp} {args : List AV} {h : AHeap} {Q Q' : AV → AHeap → Prop} (hQ : ∀ v h, Q v h → Q' v h) (x : doOpW C o args h Q) : doOpW C' o args h Q' := by
  unfold doOpW at x ⊢
  split at x
  · split at x
    · exact hM _ _ _ _ _ hQ (hC _ _ _ _ x)
    · exact hM _ _ _ _ _ hQ (hC _ _ _ _ x)
    · exact x.elim
  · unfold nextW at x ⊢
    split at x
    · split at x
      · exact hQ _ _ x
      · split at x
        · exact ⟨x.1, fun e he hn => hQ _ _ (x.2.1 e he hn), fun hn => hQ _ _ (x.2.2 hn)⟩
        · exact x.elim
      · exact x.elim
    · exact x.elim
  · split at x
    · exact hQ _ _ x
    · exact x.elim

theorem runInW_mono {i : AIn} {e : List AV} {h : AHeap} {Q Q' : List AV → AHeap → Prop} (hQ : ∀ e h, Q e h → Q' e h) (x : runInW C i e h Q) : runInW C' i e h Q' := by
  unfold runInW at x ⊢
  split at x
  · split at x
    · exact doOpW_mono hC hM (fun v h q => hQ _ _ q) x
    · exact x.elim
  · exact hQ _ _ x
  · exact x.elim

theorem runInsW_mono : ∀ {is : List AIn} {e : List AV} {h : AHeap} {Q Q' : List AV → AHeap → Prop}, (∀ e h, Q e h → Q' e h) → runInsW C is e h Q → runInsW C' is e h Q'
  | [], _, _, _, _, hQ, x => hQ _ _ x
  | _ :: _, _, _, _, _, hQ, x => runInW_mono hC hM (fun _ _ q => runInsW_mono hQ q) x

theorem runDrawW_mono : ∀ {is : List DI} {e : List AV} {h : AHeap} {Q Q' : List AV → AHeap → Prop}, (∀ e h, Q e h → Q' e h) → runDrawW C is e h Q → runDrawW C' is e h Q'
  | [], _, _, _, _, hQ, x => hQ _ _ x
  | _ :: _, _, _, _, _, hQ, x => runInW_mono hC hM (fun _ _ q => ⟨q.1, runDrawW_mono hQ q.2⟩) x

theorem execW_mono {ro : Option Nat} : ∀ {c : ACode} {e : List AV} {h : AHeap} {Q Q' : AExit → List AV → AHeap → Prop}, (∀ x e h, Q x e h → Q' x e h) → execW C ro c e h Q → execW C' ro c e h Q'
  | .skip, _, _, _, _, hQ, x => hQ _ _ _ x
  | .region _, _, _, _, _, hQ, x => runInsW_mono hC hM (fun _ _ q => hQ _ _ _ q) x
  | .seq a b, e, h, Q, Q', hQ, x => by
    simp only [execW] at x ⊢
    refine execW_mono (fun y e h q => ?_) x
    cases y with
    | normal => exact execW_mono hQ q
    | exit id => exact hQ _ _ _ q
    | ret => exact hQ _ _ _ q
  | .cond c a b, e, h, Q, Q', hQ, x => by
    simp only [execW] at x ⊢
    split at x
    · exact execW_mono hQ x
    · exact execW_mono hQ x
    · exact x.elim
  | .block id b, e, h, Q, Q', hQ, x => by
    simp only [execW] at x ⊢
    refine execW_mono (fun y e h q => ?_) x
    cases y with
    | normal => exact hQ _ _ _ q
    | exit i =>
      simp only at q ⊢
      split
      · rename_i hi; rw [if_pos hi] at q; exact hQ _ _ _ q
      · rename_i hi; rw [if_neg hi] at q; exact hQ _ _ _ q
    | ret => exact hQ _ _ _ q
  | .loop b, e, h, Q, Q', hQ, x => by
    simp only [execW] at x ⊢
    have key : ∀ n e h, iterW (execW C ro b) n e h Q → iterW (execW C' ro b) n e h Q' := by
      intro n
      induction n with
      | zero => intro e h x; exact x
      | succ n ih =>
        intro e h x
        simp only [iterW] at x ⊢
        refine execW_mono (fun y e h q => ?_) x
        cases y with
        | normal => exact ih _ _ q
        | exit id => exact hQ _ _ _ q
        | ret => exact hQ _ _ _ q
    exact key _ _ _ x
  | .exit _, _, _, _, _, hQ, x => hQ _ _ _ x
  | .ret, _, _, _, _, hQ, x => hQ _ _ _ x
  | .draw _, _, _, _, _, hQ, x => fun ds hd => runDrawW_mono hC hM (fun _ _ q => hQ _ _ _ q) (x ds hd)
  | .rfun f ps asg body, e, h, Q, Q', hQ, x => by
    simp only [execW] at x ⊢
    split at x
    · refine ⟨x.1, hM _ _ _ _ _ (fun v h q => ?_) (hC _ _ _ _ x.2)⟩
      unfold endW at q ⊢
      split at q
      · exact ⟨q.1, hQ _ _ _ q.2⟩
      · exact q.elim
    · exact x.elim
  | .bad, _, _, _, _, _, x => x

theorem callW_mono {f : AFn} {args : List AV} {h : AHeap} {Q Q' : AV → AHeap → Prop} (hQ : ∀ v h, Q v h → Q' v h) (x : callW C f args h Q) : callW C' f args h Q' := by
  unfold callW at x ⊢
  refine execW_mono hC hM (fun y e h q => ?_) x
  cases y with
  | exit id => exact q
  | normal =>
    simp only at q ⊢
    split at q
    · exact hQ _ _ q
    · exact q.elim
  | ret =>
    simp only at q ⊢
    split at q
    · exact hQ _ _ q
    · exact q.elim

theorem roundW_mono {l : Nat} {args : List AV} {h : AHeap} {Q Q' : AV → AHeap → Prop} (hQ : ∀ v h, Q v h → Q' v h) (x : roundW C l args h Q) : roundW C' l args h Q' := by
  unfold roundW at x ⊢
  split at x
  · refine ⟨x.1, execW_mono hC hM (fun y e h q => ⟨q.1, ?_⟩) x.2⟩
    have q2 := q.2
    split at q2
    · refine execW_mono hC hM (fun y e h q => ?_) q2
      unfold roundEnd at q ⊢
      split at q
      · cases y <;> exact hQ _ _ q
      · exact q.elim
    · exact q2.elim
  · exact x.elim

end mono

/-- one call deeper -/
def stepW (O : Nat → Option FSpec) (T : BT) (S : SemW) : SemW
  | .f n, args, h, Q => match O n with
    | some F => F args h Q
    | none => match T.get n with
      | some af => callW S af args h Q
      | none => False
  | .y l, args, h, Q => roundW S l args h Q

/-- THE PROGRAM: what holds behind its calls, however deep. -/
def progI (O : Nat → Option FSpec) (T : BT) : SemW := fun g args h Q => ∀ S : SemW, MonoW S → (∀ g args h Q, stepW O T S g args h Q → S g args h Q) → S g args h Q

variable {O : Nat → Option FSpec} {T : BT}

theorem progI_mono : MonoW (progI O T) := fun g args h Q Q' hQ x S hS hcl => hS g args h Q Q' hQ (x S hS hcl)

theorem progI_step {g : Fn} {args : List AV} {h : AHeap} {Q : AV → AHeap → Prop} (x : stepW O T (progI O T) g args h Q) : progI O T g args h Q := by
  intro S hS hcl
  have hle : ∀ g args h Q, progI O T g args h Q → S g args h Q := fun g args h Q y => y S hS hcl
  refine hcl g args h Q ?_
  cases g with
  | f n =>
    simp only [stepW] at x ⊢
    split at x
    · exact x
    · split at x
      · exact callW_mono hle hS (fun _ _ q => q) x
      · exact x.elim
  | y l => exact roundW_mono hle hS (fun _ _ q => q) x

theorem progI_call {n : Nat} {af : AFn} {args : List AV} {h : AHeap} {Q : AV → AHeap → Prop} (hO : O n = none) (hT : T.get n = some af) (x : callW (progI O T) af args h Q) : progI O T (.f n) args h Q :=
  progI_step (by simp only [stepW, hO, hT]; exact x)

theorem progI_known {n : Nat} {F : FSpec} {args : List AV} {h : AHeap} {Q : AV → AHeap → Prop} (hO : O n = some F) (x : F args h Q) : progI O T (.f n) args h Q :=
  progI_step (by simp only [stepW, hO]; exact x)

theorem progI_round {l : Nat} {args : List AV} {h : AHeap} {Q : AV → AHeap → Prop} (x : roundW (progI O T) l args h Q) : progI O T (.y l) args h Q := progI_step x

/-- what is known holds of the program -/
def OSound (P : Program) (O : Nat → Option FSpec) : Prop := ∀ f F, O f = some F → FSound P (LamP P) f F ∧ Enters P f

/-- calls that the machine makes good -/
def soundS (P : Program) : SemW
  | .f n, args, h, Q => Enters P n ∧ ∀ (μ : Mu) (w : World) (cargs : List Value), Rel (LamP P) μ h w → VRL μ args cargs →
    ∀ cs, ∃ r h' fr w' μ' cv, Q r h' ∧ Steps P (lone (Frame.enter P n cargs.toArray .normal) cs w) (lone fr cs w') ∧ fr.fn = n ∧ fr.leaving P w' (.returned cv) ∧ VR μ' r cv ∧ Rel (LamP P) μ' h' w' ∧ Step μ h w μ' h' w'
  | .y l, args, h, Q => ∀ (μ : Mu) (w : World) (cargs : List Value), Rel (LamP P) μ h w → VRL μ args cargs →
    ∃ (lc : Loc) (r : Go.Loop), μ l = some lc ∧ w.heap[lc.block]? = some (.loop r) ∧ cargs.length = r.params.size ∧
      ∀ c cs, ∃ rv h' w' μ' cv, Q rv h' ∧ Steps P (lone (Frame.round lc.block r.fn ((r.params.zip cargs.toArray).foldl (fun tmps (t, a) => tmps.setIfInBounds t a) r.tmps) r.assign r.body .normal) (c :: cs) w) (lone (c.finish cv) cs w') ∧
        VR μ' rv cv ∧ Rel (LamP P) μ' h' w' ∧ Step μ h w μ' h' w'

theorem soundS_ok (P : Program) : CSound P (LamP P) (soundS P) :=
  ⟨fun _ _ _ _ x => x.1, fun _ _ _ _ μ w cargs x hr hv cs => x.2 μ w cargs hr hv cs, fun _ _ _ _ μ w cargs x hr hv => x μ w cargs hr hv⟩

theorem soundS_mono (P : Program) : MonoW (soundS P) := by
  intro g args h Q Q' hQ x
  cases g with
  | f n =>
    refine ⟨x.1, fun μ w cargs hr hv cs => ?_⟩
    obtain ⟨r, h', fr, w', μ', cv, q, y⟩ := x.2 μ w cargs hr hv cs
    exact ⟨r, h', fr, w', μ', cv, hQ _ _ q, y⟩
  | y l =>
    intro μ w cargs hr hv
    obtain ⟨lc, r, a, b, c, d⟩ := x μ w cargs hr hv
    refine ⟨lc, r, a, b, c, fun f cs => ?_⟩
    obtain ⟨rv, h', w', μ', cv, q, y⟩ := d f cs
    exact ⟨rv, h', w', μ', cv, hQ _ _ q, y⟩

theorem progI_le {P : Program} (hO : OSound P O) (hT : AllB (Is P) T) {g : Fn} {args : List AV} {h : AHeap} {Q : AV → AHeap → Prop} (x : progI O T g args h Q) : soundS P g args h Q := by
  refine x (soundS P) (soundS_mono P) fun g args h Q y => ?_
  cases g with
  | f n =>
    simp only [stepW] at y
    split at y
    · rename_i F hF
      obtain ⟨h1, h2⟩ := hO n F hF
      exact ⟨h2, fun μ w cargs hr hv cs => h1 args h Q μ w cargs y hr hv cs⟩
    · split at y
      · rename_i af hf
        obtain ⟨fn, h1, h2, h3⟩ := BT.get_of hT hf
        exact ⟨h3, fun μ w cargs hr hv cs => fn_sound h1 h2 (soundS_ok P) args h Q μ w cargs y hr hv cs⟩
      · exact y.elim
  | y l => exact fun μ w cargs hr hv => round_sound (soundS_ok P) l args h Q μ w cargs y hr hv

theorem progI_sound {P : Program} (hO : OSound P O) (hT : AllB (Is P) T) (n : Nat) : FSound P (LamP P) n (progI O T (.f n)) :=
  fun _ _ _ μ w cargs x hr hv cs => (progI_le hO hT x).2 μ w cargs hr hv cs

/-- a call of the model, by what is known of the function -/
theorem FSound.calls {P : Program} {Λ : Lam} {f : FuncId} {F : FSpec} (hs : FSound P Λ f F) {args : List AV} {h : AHeap} {Q : AV → AHeap → Prop} {μ : Mu} {w : World} {cargs : List Value} (hc : F args h Q) (hr : Rel Λ μ h w) (ha : VRL μ args cargs) :
    Calls P f cargs.toArray w fun e w' => ∃ μ' cv r h', Q r h' ∧ e = .returned cv ∧ VR μ' r cv ∧ Rel Λ μ' h' w' ∧ Step μ h w μ' h' w' := by
  intro cs
  obtain ⟨r, h', fr, w', μ', cv, q, s, hf, hl, hv, hr', hst⟩ := hs args h Q μ w cargs hc hr ha cs
  exact ⟨.returned cv, w', fr, ⟨μ', cv, r, h', q, rfl, hv, hr', hst⟩, s, hf, hl⟩

end Go.Proofs.Ytjdemlagmamlbaa
