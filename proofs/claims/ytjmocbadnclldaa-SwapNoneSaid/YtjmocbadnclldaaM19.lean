/- A table of functions: the program's, or of what they are known to do. -/
import Derived.Test.YtjmocbadnclldaaM18
namespace Go.Proofs.Ytjmocbadnclldaa

/-- a table of functions, as a search tree -/
inductive BT where
  | leaf
  | node (l : BT) (k : Nat) (v : AFn) (r : BT)

def BT.get : BT → Nat → Option AFn
  | .leaf, _ => none
  | .node l k v r, n => if n = k then some v else if n < k then l.get n else r.get n

/-- what is asked of a function of the table -/
def AllB (Q : Nat → AFn → Prop) : BT → Prop
  | .leaf => True
  | .node l k v r => AllB Q l ∧ Q k v ∧ AllB Q r

theorem BT.get_of {Q : Nat → AFn → Prop} {n : Nat} {v : AFn} : ∀ {t : BT}, AllB Q t → t.get n = some v → Q n v
  | .leaf, _, h => by simp [BT.get] at h
  | .node l k x r, ⟨h1, h2, h3⟩, h => by
    simp only [BT.get] at h
    split at h
    · rename_i e; subst e; cases h; exact h2
    · split at h
      · exact BT.get_of h1 h
      · exact BT.get_of h3 h

/-- the functions' code, called at most so deep -/
def progA (T : BT) : Nat → Sem1
  | 0 => fun _ _ _ => none
  | d + 1 => fun f args h => match T.get f with
    | some af => callA (progA T d) af args h
    | none => none

/-- a function of the table is the program's -/
def Is (P : Program) (f : Nat) (af : AFn) : Prop := ∃ fn K, P.funcs[f]? = some fn ∧ trFn P fn K = some af ∧ Enters P f

theorem progA_sound {P : Program} {T : BT} (hT : AllB (Is P) T) : ∀ d, CSound P (progA T d)
  | 0 => ⟨fun _ _ _ _ h => by simp [progA] at h, fun f args h r h' μ w cargs hc => by simp [progA] at hc⟩
  | d + 1 => by
    have ih := progA_sound hT d
    refine ⟨fun f args h r hc => ?_, fun f args h r h' μ w cargs hc => ?_⟩
    · simp only [progA] at hc
      split at hc
      · rename_i af hf
        obtain ⟨fn, K, h1, h2, h3⟩ := BT.get_of hT hf
        exact h3
      · cases hc
    · simp only [progA] at hc
      split at hc
      · rename_i af hf
        obtain ⟨fn, K, h1, h2, h3⟩ := BT.get_of hT hf
        exact fn_sound h1 h2 ih args h r h' μ w cargs hc
      · cases hc

/-- a call of the model, by what is known of the function -/
theorem FSound.calls {P : Program} {f : FuncId} {F : List AV → AHeap → Option (AV × AHeap)} (hs : FSound P f F) {args : List AV} {h h' : AHeap} {r : AV} {μ : Mu} {w : World} {cargs : List Value} (hc : F args h = some (r, h')) (hr : Rel μ h w) (ha : VRL μ args cargs) :
    Calls P f cargs.toArray w fun e w' => ∃ μ' cv, e = .returned cv ∧ VR μ' r cv ∧ Rel μ' h' w' ∧ Step μ h w μ' h' w' := by
  intro cs
  obtain ⟨fr, w', μ', cv, s, hf, hl, hv, hr', hst⟩ := hs args h r h' μ w cargs hc hr ha cs
  exact ⟨.returned cv, w', fr, ⟨μ', cv, rfl, hv, hr', hst⟩, s, hf, hl⟩

end Go.Proofs.Ytjmocbadnclldaa
