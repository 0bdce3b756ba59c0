/- SpreadNone holds, whatever the input is: its row's contract, by a walk over the code. -/
import Derived.Test.YtjdemlagmamlbaaZSPRa6
namespace Go.Proofs.Ytjdemlagmamlbaa
open Go.ChangeShapes Go.WideShapes Go.ChangeAt Go.RowKit

theorem spreadNone_answers : ∀ avs h, (∀ id o, h.get id = some o → id < h.next) → AllRo h → ArgsA h [.fields [.int .i64, .int .i64, .int .i64, .bool]] avs → progI over tab (.f 18) avs h fun v _ => v = .bool true := by
  intro avs h hwf _ ha
  cases avs with
  | nil => exact ha.elim
  | cons x vs =>
    obtain ⟨h1, hr⟩ := ha
    cases vs with
    | cons => exact hr.elim
    | nil =>
      obtain ⟨xs, rfl, hs⟩ := h1
      obtain ⟨a, rfl, _, _⟩ := actP_each (h := h) xs hs
      exact (snone_w (a := a)).law progI_mono (St.nil hwf) fun _ _ h => h

theorem spreadNone_sound : FSound Try.prog (LamP Try.prog) 18 (progI over tab (.f 18)) := progI_sound overSound tabSound 18
theorem spreadNone_params : shsOk Try.prog [.fields [.int .i64, .int .i64, .int .i64, .bool]] Try.f18.params.toList = true := by kernel_rfl
theorem spreadNone_res : Try.f18.resultTypes = #[4] := by kernel_rfl

set_option maxRecDepth 100000 in
theorem spreadNone_contract {H : Type} (enc : TypeId × Value → H) (W : World) (base : Nat) (args : Array Value) (ds gs : List (DataW H)) (before : List MemPlace)
    (hval : ∀ (j : Nat) t v, Try.f18.params[j]? = some t → args[j]? = some v → Value.okWide Try.prog W .any base t v)
    (hW : DataW.Whole enc Try.prog Try.f18.params.toList Rows.spreadNoneSpec.vars false W args.toList ds gs before) :
    Calls Try.prog 18 args W fun e W' => ∃ v, e = .returned v ∧ Rows.spreadNoneSpec.post enc Try.prog Try.f18 false true false false W args v W' :=
  law_contract (shs := [.fields [.int .i64, .int .i64, .int .i64, .bool]]) (tb := 4) laidOut spreadNone_params spreadNone_res und4 rfl
    (fun ds hd => match ds, hd with
      | [_], _ => rfl) spreadNone_sound spreadNone_answers base args ds gs before hval hW

set_option maxRecDepth 100000 in
theorem spreadNone_lifted (os : Os) (started : os.Started) (H : Type) (enc : TypeId × Value → H) :
    ReturnsInHanded {} Try.checked os 18 .any (Rows.spreadNoneSpec.pre6 enc Try.prog Try.f18 Rows.spreadNoneRow.domain false) (Rows.spreadNoneSpec.post enc Try.prog Try.f18 false true false false) := by
  refine returnsInHanded_of_change (C := Try.checked) ownKn started (by kernel_rfl) Try.func18
    (ChangeSpec.witness6 (enc := enc) (C := Try.checked) false ⟨#[], #[.agg #[.int .i64 0, .int .i64 0, .int .i64 0, .bool false]], []⟩ 8 (by kernel_rfl) (by kernel_rfl) (by kernel_rfl) (by kernel_rfl)) ?_
  intro W base args ds gs before hval hW _ _
  exact spreadNone_contract enc W base args ds gs before hval hW

theorem spreadNone_joined : joinedFacts Try.prog 18 Try.f18 Rows.spreadNoneSpec Rows.spreadNoneRow = true := by
  unfold joinedFacts
  rw [enterOk]
  kernel_rfl

theorem spreadNone_holds : Rows.SpreadNoneSaid :=
  OpenClaim.holds_of_wide 18 Try.f18 rfl rfl rfl rfl rfl rfl rfl ⟨rfl, rfl, rfl, rfl, rfl⟩ rfl rfl rfl rfl rfl (by kernel_rfl) Try.func18 spreadNone_joined
    (of_decide_eq_true (by kernel_rfl)) (by unfold Func.isWrapper; first | (rw [if_pos (by decide +kernel)]; kernel_rfl) | (rw [if_neg (by decide +kernel)]; exact ⟨rfl, rfl⟩))
    (fun os started H enc _ => spreadNone_lifted os started H enc)

end Go.Proofs.Ytjdemlagmamlbaa
