/- LoanNone holds, whatever the input is: its row's contract, by a walk over the code. -/
import Derived.Test.YtaheagdomahhgaaGreatRows
import Derived.Test.YtaheagdomahhgaaGreatZKLR6
namespace Go.Proofs.YtaheagdomahhgaaGreat
open Go.ChangeShapes Go.WideShapes Go.ChangeAt Go.RowKit

theorem ownKn : ownKnob Tryz.prog.godebug = none := by kernel_rfl
theorem laidOut : laidOutB Tryz.prog = true := by kernel_rfl
theorem enterOk : Tryz.prog.mayEnter = true := by kernel_rfl
theorem und4 : Tryz.prog.underlying 4 = some .bool := by kernel_rfl

theorem overSound : OSound Tryz.prog over := fun f F hf => by
  simp only [over] at hf
  cases hb : Nat.beq f n_law19_lives with
  | true =>
    rw [hb] at hf
    simp only [cond_true, Option.some.injEq] at hf
    subst hf
    rw [Nat.eq_of_beq_eq_true hb]
    exact ⟨FSound.livesF tabSound kAll_ok lives19T, Tryz.call12⟩
  | false => rw [hb] at hf; cases hf

theorem args1 {h : AHeap} {s : Sh} {avs : List AV} (ha : ArgsA h [s] avs) : ∃ x, avs = [x] ∧ ArgA h s x := by
  cases avs with
  | nil => exact ha.elim
  | cons x vs =>
    obtain ⟨h1, hr⟩ := ha
    cases vs with
    | cons => exact hr.elim
    | nil => exact ⟨x, rfl, h1⟩

def opSh : Sh := .fields [.int .i64, .int .i64, .int .i64, .int .i64, .int .i64, .bool, .int .i64, .int .i64, .bool, .int .i64, .int .i64, .int .i64, .int .i64, .int .i64]
theorem op_of {h : AHeap} {x : AV} (ha : ArgA h opSh x) : ∃ (c0 c1 c2 c3 c4 c6 c7 c9 c10 c11 c12 c13 : Int) (b5 b8 : Bool), x = .agg [.int .i64 c0, .int .i64 c1, .int .i64 c2, .int .i64 c3, .int .i64 c4, .bool b5, .int .i64 c6, .int .i64 c7, .bool b8, .int .i64 c9, .int .i64 c10, .int .i64 c11, .int .i64 c12, .int .i64 c13] := by
  obtain ⟨xs, rfl, hs⟩ := ha
  simp only [AD, ADs] at hs
  obtain ⟨x0, y0, rfl, ⟨c0, rfl, _⟩, x1, y1, rfl, ⟨c1, rfl, _⟩, x2, y2, rfl, ⟨c2, rfl, _⟩, x3, y3, rfl, ⟨c3, rfl, _⟩, x4, y4, rfl, ⟨c4, rfl, _⟩, x5, y5, rfl, ⟨b5, rfl⟩, x6, y6, rfl, ⟨c6, rfl, _⟩, x7, y7, rfl, ⟨c7, rfl, _⟩, x8, y8, rfl, ⟨b8, rfl⟩, x9, y9, rfl, ⟨c9, rfl, _⟩, x10, y10, rfl, ⟨c10, rfl, _⟩, x11, y11, rfl, ⟨c11, rfl, _⟩, x12, y12, rfl, ⟨c12, rfl, _⟩, x13, y13, rfl, ⟨c13, rfl, _⟩, rfl⟩ := hs
  exact ⟨c0, c1, c2, c3, c4, c6, c7, c9, c10, c11, c12, c13, b5, b8, rfl⟩

theorem loanNone_answers : ∀ avs h, (∀ id o, h.get id = some o → id < h.next) → AllRo h → ArgsA h [opSh] avs → progI over tab (.f 3) avs h fun v _ => v = .bool true := by
  intro avs h hwf _ ha
  obtain ⟨x, rfl, h1⟩ := args1 ha
  obtain ⟨c0, c1, c2, c3, c4, c6, c7, c9, c10, c11, c12, c13, b5, b8, rfl⟩ := op_of h1
  exact loanNone_w

theorem loanNone_sound : FSound Tryz.prog (LamP Tryz.prog) 3 (progI over tab (.f 3)) := progI_sound overSound tabSound 3
theorem loanNone_params : shsOk Tryz.prog [opSh] Tryz.f3.params.toList = true := by kernel_rfl
theorem loanNone_res : Tryz.f3.resultTypes = #[4] := by kernel_rfl

set_option maxRecDepth 100000 in
theorem loanNone_contract {H : Type} (enc : TypeId × Value → H) (W : World) (base : Nat) (args : Array Value) (ds gs : List (DataW H)) (before : List MemPlace)
    (hval : ∀ (j : Nat) t v, Tryz.f3.params[j]? = some t → args[j]? = some v → Value.okWide Tryz.prog W .any base t v)
    (hW : DataW.Whole enc Tryz.prog Tryz.f3.params.toList Rows.loanNoneSpec.vars false W args.toList ds gs before) :
    Calls Tryz.prog 3 args W fun e W' => ∃ v, e = .returned v ∧ Rows.loanNoneSpec.post enc Tryz.prog Tryz.f3 false true false false W args v W' :=
  law_contract (shs := [opSh]) (tb := 4) laidOut loanNone_params loanNone_res und4 rfl
    (fun ds hd => match ds, hd with
      | [_], _ => rfl) loanNone_sound loanNone_answers base args ds gs before hval hW

set_option maxRecDepth 100000 in
theorem loanNone_lifted (os : Os) (started : os.Started) (H : Type) (enc : TypeId × Value → H) :
    ReturnsInHanded {} Tryz.checked os 3 .any (Rows.loanNoneSpec.pre6 enc Tryz.prog Tryz.f3 Rows.loanNoneRow.domain false) (Rows.loanNoneSpec.post enc Tryz.prog Tryz.f3 false true false false) := by
  refine returnsInHanded_of_change (C := Tryz.checked) ownKn started (by kernel_rfl) Tryz.func3
    (ChangeSpec.witness6 (enc := enc) (C := Tryz.checked) false ⟨#[], #[.agg #[.int .i64 0, .int .i64 0, .int .i64 0, .int .i64 0, .int .i64 0, .bool false, .int .i64 0, .int .i64 0, .bool false, .int .i64 0, .int .i64 0, .int .i64 0, .int .i64 0, .int .i64 0]], []⟩ 8 (by kernel_rfl) (by kernel_rfl) (by kernel_rfl) (by kernel_rfl)) ?_
  intro W base args ds gs before hval hW _ _
  exact loanNone_contract enc W base args ds gs before hval hW

theorem loanNone_in : (Rows.loanNoneRow.inPlace == Tryz.prog.inPlace 3) = true := by kernel_rfl
theorem loanNone_un : (Rows.loanNoneRow.unfollowed == Tryz.prog.unfollowed 3) = true := by kernel_rfl
theorem loanNone_rc : (Rows.loanNoneRow.recurses == Tryz.prog.recurses 3) = true := by kernel_rfl
theorem loanNone_nm : (Rows.loanNoneRow.named == Tryz.prog.varsNamed 3) = true := by kernel_rfl
theorem loanNone_joined : joinedFacts Tryz.prog 3 Tryz.f3 Rows.loanNoneSpec Rows.loanNoneRow = true := by
  unfold joinedFacts
  rw [enterOk, laidOut, loanNone_in, loanNone_un, loanNone_rc, loanNone_nm]
  kernel_rfl

theorem loanNone_holds : Rows.LoanNoneSaid :=
  OpenClaim.holds_of_wide 3 Tryz.f3 rfl rfl rfl rfl rfl rfl rfl ⟨rfl, rfl, rfl, rfl, rfl⟩ rfl rfl rfl rfl rfl (by kernel_rfl) Tryz.func3 loanNone_joined
    (of_decide_eq_true (by kernel_rfl)) (by unfold Func.isWrapper; first | (rw [if_pos (by decide +kernel)]; kernel_rfl) | (rw [if_neg (by decide +kernel)]; exact ⟨rfl, rfl⟩))
    (fun os started H enc _ => loanNone_lifted os started H enc)

end Go.Proofs.YtaheagdomahhgaaGreat
