/- A law's row, out of what the abstract machine answers. -/
import Derived.Test.YtjdemlagmamlbaaM20
import Derived.ProofKit
namespace Go.Proofs.Ytjdemlagmamlbaa
variable {Λ : Lam}
open Go.ChangeShapes Go.WideShapes Go.ChangeAt Go.RowKit

/-- an argument, read: its value -/
def ArgA (h : AHeap) : Sh → AV → Prop
  | .fields l, a => ∃ as, a = .agg as ∧ ADs h l as
  | s, a => AD h s [a]

def ArgsA (h : AHeap) : List Sh → List AV → Prop
  | [], [] => True
  | s :: ss, a :: as => ArgA h s a ∧ ArgsA h ss as
  | _, _ => False

theorem ArgA.mono {h h' : AHeap} (hg : ∀ id o, h.get id = some o → h'.get id = some o) {s : Sh} {a : AV} (e : ArgA h s a) : ArgA h' s a := by
  cases s with
  | fields l => obtain ⟨as, h1, h2⟩ := e; exact ⟨as, h1, ADs.mono hg l as h2⟩
  | _ => exact AD.mono hg _ _ e

def shsOk (P : Program) : List Sh → List TypeId → Bool
  | [], [] => true
  | s :: ss, t :: ts => shOk P s t && P.readableRec t && decide (t < P.types.size) && shsOk P ss ts
  | _, _ => false

section
variable {H : Type} {enc : TypeId × Value → H} {P : Program} {W : World}

/-- a value of an argument's type is its cells -/
theorem value_of_cells {s : Sh} {t : TypeId} {v : Value} {sp : Nat → Bool} {fuel base : Nat} {x : DataW H × List MemPlace} (hs : shOk P s t = true) (hval : Value.okWide P W .any base t v) (ht : DataW.trod enc P W 0 sp true fuel t v.cells.toList = some x) :
    (∃ l cs, s = .fields l ∧ v = .agg cs) ∨ ((∀ l, s ≠ .fields l) ∧ v.cells.toList = [v]) := by
  cases s with
  | int k =>
    refine .inr ⟨fun l e => (by cases e), ?_⟩
    simp only [shOk] at hs
    split at hs
    · rename_i hu
      obtain ⟨n, rfl⟩ := okWide_int hu hval; rfl
    · cases hs
  | bool =>
    refine .inr ⟨fun l e => (by cases e), ?_⟩
    simp only [shOk] at hs
    split at hs
    · rename_i hu
      obtain ⟨n, rfl⟩ := okWide_bool hu hval; rfl
    · cases hs
  | str =>
    refine .inr ⟨fun l e => (by cases e), ?_⟩
    simp only [shOk] at hs
    split at hs
    · rename_i hu
      obtain ⟨n, rfl⟩ := okWide_string hu hval; rfl
    · cases hs
  | bytes =>
    refine .inr ⟨fun l e => (by cases e), ?_⟩
    simp only [shOk] at hs
    split at hs
    · rename_i hu
      obtain ⟨a, b, c, rfl⟩ := okWide_slice hu hval; rfl
    · cases hs
  | slice s =>
    refine .inr ⟨fun l e => (by cases e), ?_⟩
    simp only [shOk] at hs
    split at hs
    · rename_i hu
      obtain ⟨a, b, c, rfl⟩ := okWide_slice hu hval; rfl
    · cases hs
  | fields l =>
    refine .inl ?_
    simp only [shOk] at hs
    split at hs
    · rename_i hu
      obtain ⟨cs, rfl, _⟩ := okWide_struct hu hval
      exact ⟨l, cs, rfl, rfl⟩
    · rename_i hu
      unfold Value.okWide at hval
      rw [hu] at hval
      obtain ⟨cs, rfl, _⟩ := hval
      exact ⟨l, cs, rfl, rfl⟩
    · cases hs

theorem read_args {sp : Nat → Bool} {base : Nat} : ∀ {shs : List Sh} {ts : List TypeId} {vs : List Value} {ds : List (DataW H)} {p : List MemPlace} {μ : Mu} {h : AHeap}, shsOk P shs ts = true → DataW.TrodAll enc P W 0 sp true ts vs ds p →
    (∀ (j : Nat) t v, ts[j]? = some t → vs[j]? = some v → Value.okWide P W .any base t v) → Rel Λ μ h W → AllRo h →
    ∃ μ' h' avs, Rd Λ W μ h μ' h' ∧ VRL μ' avs vs ∧ ArgsA h' shs avs
  | [], [], vs, ds, p, μ, h, _, ht, _, hr, ho => by
    obtain ⟨rfl, rfl, rfl⟩ := trodAll_nil ht
    exact ⟨μ, h, [], Rd.refl hr ho, by simp [VRL], trivial⟩
  | s :: ss, t :: ts, vs, ds, p, μ, h, hs, ht, hv, hr, ho => by
    simp only [shsOk, Bool.and_eq_true] at hs
    obtain ⟨⟨⟨hs1, _⟩, _⟩, hs2⟩ := hs
    obtain ⟨v, vs', d, ds', p1, q1, rfl, rfl, rfl, ⟨fuel, h1⟩, h2⟩ := trodAll_cons ht
    obtain ⟨μ1, hh1, as, r1, v1, o1, a1⟩ := read_sh s t _ fuel _ μ h hs1 h1 hr ho
    obtain ⟨μ2, hh2, avs, r2, v2, a2⟩ := read_args hs2 h2 (fun j t' v' e1 e2 => hv (j + 1) t' v' (by simpa using e1) (by simpa using e2)) r1.rel r1.ro
    have hval := hv 0 t v rfl rfl
    rcases value_of_cells hs1 hval h1 with ⟨l, cs, rfl, rfl⟩ | ⟨hne, hcells⟩
    · refine ⟨μ2, hh2, .agg as :: avs, r1.trans r2, ?_, ?_⟩
      · simp only [VRL, VR]
        refine ⟨_, _, rfl, ⟨cs.toList, VRL.extend r2.ext v1, o1, by simp⟩, v2⟩
      · refine ⟨⟨as, rfl, ?_⟩, a2⟩
        simp only [AD] at a1
        exact ADs.mono r2.old l as a1
    · rw [hcells] at v1
      obtain ⟨a, rfl, hva⟩ : ∃ a, as = [a] ∧ VR μ1 a v := by
        cases as with
        | nil => simp [VRL] at v1
        | cons a as =>
          simp only [VRL] at v1
          obtain ⟨c, cs, e, hvr, hrest⟩ := v1
          cases e
          cases as with
          | nil => exact ⟨a, rfl, hvr⟩
          | cons b bs => simp [VRL] at hrest
      refine ⟨μ2, hh2, a :: avs, r1.trans r2, ?_, ?_, a2⟩
      · simp only [VRL]
        exact ⟨_, _, rfl, VR.ext r2.ext _ _ hva, v2⟩
      · have := AD.mono r2.old s _ a1
        cases s with
        | fields l => exact absurd rfl (hne l)
        | _ => exact this
  | [], _ :: _, _, _, _, _, _, hs, _, _, _, _ => by simp [shsOk] at hs
  | _ :: _, [], _, _, _, _, _, hs, _, _, _, _ => by simp [shsOk] at hs

/-- the arguments read as they did -/
theorem args_again (hl : laidOutB P = true) {W' : World} (hb : Below W.heap.size W W') (sp : Nat → Bool) : ∀ {shs : List Sh} {ts : List TypeId} {vs : List Value} {ds : List (DataW H)} {p : List MemPlace}, shsOk P shs ts = true → DataW.TrodAll enc P W 0 (fun _ => true) true ts vs ds p →
    (∀ x ∈ p, x.block < W.heap.size) → (∀ x ∈ p, sp x.block = true) → DataW.TrodAll enc P W' 0 sp true ts vs ds p
  | [], [], vs, ds, p, _, ht, _, _ => by
    obtain ⟨rfl, rfl, rfl⟩ := trodAll_nil ht
    exact rfl
  | s :: ss, t :: ts, vs, ds, p, hs, ht, hlt, hsp => by
    simp only [shsOk, Bool.and_eq_true, decide_eq_true_eq] at hs
    obtain ⟨⟨⟨_, hs1⟩, hs3⟩, hs2⟩ := hs
    obtain ⟨v, vs', d, ds', p1, q1, rfl, rfl, rfl, h1, h2⟩ := trodAll_cons ht
    exact ⟨p1, q1, WideElems.Trod_stays hl hs1 hs3 h1 (fun x hx => hb.same (hlt x (by simp [hx]))) (fun x hx => hsp x (by simp [hx])),
      args_again hl hb sp hs2 h2 (fun x hx => hlt x (by simp [hx])) (fun x hx => hsp x (by simp [hx])), rfl⟩
  | [], _ :: _, _, _, _, hs, _, _, _ => by simp [shsOk] at hs
  | _ :: _, [], _, _, _, hs, _, _, _ => by simp [shsOk] at hs

theorem Step.below {μ μ' : Mu} {h h' : AHeap} {w w' : World} (s : Step μ h w μ' h' w') (ho : AllRo h) : Below w.heap.size w w' :=
  ⟨s.os, s.tape, s.output, s.size, fun k hk => s.frame k hk fun id o _ hg hrw _ _ => by rw [ho id o hg] at hrw; cases hrw⟩

theorem rel_empty (W : World) : Rel Λ (fun _ => none) ⟨0, .leaf⟩ W :=
  ⟨fun id o h => by simp [AHeap.get, Tr.get] at h, fun i j oi oj li lj h => by simp [AHeap.get, Tr.get] at h, fun id l h => (by cases h)⟩
theorem ro_empty : AllRo ⟨0, .leaf⟩ := fun id o h => by simp [AHeap.get, Tr.get] at h

/-- A LAW: what the abstract machine answers, for whatever arguments that fit their shapes, is the row's contract. -/
theorem law_contract {fn : Func} {f : FuncId} {s : ChangeSpec} {apart fresh handsOn again : Bool} {F : FSpec} {shs : List Sh} {tb : TypeId} (hl : laidOutB P = true) (hsh : shsOk P shs fn.params.toList = true)
    (hres : fn.resultTypes = #[tb]) (htb : P.underlying tb = some .bool) (hvars : s.vars = []) (hspec : ∀ ds : List (DataW H), ds.length = shs.length → s.fn H ds = { results := [.lit (.bool true)], args := ds })
    (hs : FSound P Λ f F) (hF : ∀ avs h, (∀ id o, h.get id = some o → id < h.next) → AllRo h → ArgsA h shs avs → F avs h fun v _ => v = .bool true)
    (base : Nat) (args : Array Value) (ds gs : List (DataW H)) (before : List MemPlace)
    (hval : ∀ (j : Nat) t v, fn.params[j]? = some t → args[j]? = some v → Value.okWide P W .any base t v)
    (hW : DataW.Whole enc P fn.params.toList s.vars apart W args.toList ds gs before) :
    Calls P f args W fun e W' => ∃ v, e = .returned v ∧ s.post enc P fn apart fresh handsOn again W args v W' := by
  have hW0 := hW
  obtain ⟨p, q, hA, hV, rfl, hfz, hnd⟩ := hW
  rw [hvars] at hV
  obtain ⟨rfl, rfl⟩ := trodVars_none hV
  have hlt := hW0.lt
  simp only [List.append_nil] at *
  have hlen : ∀ {shs : List Sh} {ts : List TypeId} {vs : List Value} {ds : List (DataW H)} {p : List MemPlace}, shsOk P shs ts = true → DataW.TrodAll enc P W 0 (fun _ => true) true ts vs ds p → ds.length = shs.length := by
    intro shs
    induction shs with
    | nil =>
      intro ts vs ds p hs ht
      cases ts with
      | nil => obtain ⟨rfl, rfl, rfl⟩ := trodAll_nil ht; rfl
      | cons => simp [shsOk] at hs
    | cons s ss ih =>
      intro ts vs ds p hs ht
      cases ts with
      | nil => simp [shsOk] at hs
      | cons t ts =>
        simp only [shsOk, Bool.and_eq_true] at hs
        obtain ⟨v, vs', d, ds', p1, q1, rfl, rfl, rfl, _, h2⟩ := trodAll_cons ht
        simp [ih hs.2 h2]
  obtain ⟨μ, h, avs, rd, hvr, hargs⟩ := read_args hsh hA (fun j t v h1 h2 => hval j t v (by simpa using h1) (by simpa using h2)) (rel_empty (Λ := Λ) W) ro_empty
  have hF' := hF avs h (fun id o hg => rd.rel.lt hg) rd.ro hargs
  have hcalls := hs.calls hF' rd.rel hvr
  simp only [Array.toArray_toList] at hcalls
  refine hcalls.mono fun e W' ⟨μ', cv, r, h', hrb, he, hcv, hrel, hstep⟩ => ⟨cv, he, ?_⟩
  subst hrb
  have hb := hstep.below rd.ro
  simp only [VR] at hcv
  subst hcv
  have hsp := hspec ds (hlen hsh hA)
  have hres1 : ∀ (b : Nat) (sp : Nat → Bool) (hd : Bool), DataW.TrodAll enc P W' b sp hd fn.resultTypes.toList ((Value.bool true).resultList fn.resultTypes.size) (s.fn H ds).results [] := by
    intro b sp hd
    rw [hres, hsp]
    exact trodAll_mk1 (shut_bool htb true)
  have hargs1 : ∀ sp : Nat → Bool, (∀ x ∈ p, sp x.block = true) → DataW.TrodAll enc P W' 0 sp true fn.params.toList args.toList (s.fn H ds).args p := by
    intro sp hp
    rw [hsp]
    exact args_again hl hb sp hsh hA hlt hp
  have hv1 : ∀ sp : Nat → Bool, DataW.TrodVars enc P W' sp s.vars (s.fn H ds).vars [] := by
    intro sp
    rw [hvars, hsp]
    exact rfl
  refine ⟨ds, [], p, [], p, [], hW0, ?_, ?_, ?_, ?_, fun _ => ?_⟩
  · rw [List.append_nil]; exact hres1 _ _ _
  · rw [List.append_nil]; exact hargs1 _ fun x hx => by simpa using hlt x hx
  · rw [List.append_nil]; exact hv1 _
  · exact World.keptBut_mono (fun x hx => ⟨hx, .inr (.inl hx)⟩) (hb.frame _)
  · refine ⟨ok_one hres rfl (okWide_bool_mk htb true), [.lit (.bool true)] ++ ds, [], [] ++ p, ⟨[] ++ p, [], ?_, ?_, by simp, ?_, ?_⟩, ?_⟩
    · have h1 := hres1 0 (fun _ => true) true
      have h2 := hargs1 (fun _ => true) (fun _ _ => rfl)
      rw [hsp] at h1 h2
      exact trodAll_append h2 h1
    · have := hv1 fun _ => true
      rw [hsp] at this
      exact this
    · intro b off hx
      rw [List.nil_append] at hx
      have := hlt _ hx
      rw [hb.frozen (p := ⟨b, off, none⟩) this]
      exact hfz b off hx
    · intro ha; simpa using hnd ha
    · intro x hx _
      simpa using hx

end
end Go.Proofs.Ytjdemlagmamlbaa
