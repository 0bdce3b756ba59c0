/- SwapKeeps holds, whatever the input is: its row's contract, by a walk over the code. -/
import Derived.Test.YtjdemlagmamlbaaSWL
namespace Go.Proofs.Ytjdemlagmamlbaa
open Go.ChangeShapes Go.WideShapes Go.ChangeAt Go.RowKit

theorem swapKeeps_answers : ∀ avs h, (∀ id o, h.get id = some o → id < h.next) → AllRo h → ArgsA h [.slice actSh] avs → progI over tab (.f 3) avs h fun v _ => v = .bool true := by
  intro avs h hwf _ ha
  cases avs with
  | nil => exact ha.elim
  | cons v vs =>
    obtain ⟨ha, hr⟩ := ha
    cases vs with
    | cons => exact hr.elim
    | nil =>
      obtain ⟨l, st⟩ := acts_of hwf ha
      exact keeps_w.law progI_mono st fun _ _ h => h

theorem swapKeeps_sound : FSound Try.prog (LamP Try.prog) 3 (progI over tab (.f 3)) := progI_sound overSound tabSound 3
theorem swapKeeps_params : shsOk Try.prog [.slice actSh] Try.f3.params.toList = true := by kernel_rfl
theorem swapKeeps_res : Try.f3.resultTypes = #[4] := by kernel_rfl

set_option maxRecDepth 100000 in
theorem swapKeeps_contract {H : Type} (enc : TypeId × Value → H) (W : World) (base : Nat) (args : Array Value) (ds gs : List (DataW H)) (before : List MemPlace)
    (hval : ∀ (j : Nat) t v, Try.f3.params[j]? = some t → args[j]? = some v → Value.okWide Try.prog W .any base t v)
    (hW : DataW.Whole enc Try.prog Try.f3.params.toList Rows.swapKeepsSpec.vars false W args.toList ds gs before) :
    Calls Try.prog 3 args W fun e W' => ∃ v, e = .returned v ∧ Rows.swapKeepsSpec.post enc Try.prog Try.f3 false true false false W args v W' :=
  law_contract (shs := [.slice actSh]) (tb := 4) laidOut swapKeeps_params swapKeeps_res und4 rfl
    (fun ds hd => match ds, hd with
      | [_], _ => rfl) swapKeeps_sound swapKeeps_answers base args ds gs before hval hW

set_option maxRecDepth 100000 in
theorem swapKeeps_lifted (os : Os) (started : os.Started) (H : Type) (enc : TypeId × Value → H) :
    ReturnsInHanded {} Try.checked os 3 .any (Rows.swapKeepsSpec.pre6 enc Try.prog Try.f3 Rows.swapKeepsRow.domain false) (Rows.swapKeepsSpec.post enc Try.prog Try.f3 false true false false) := by
  refine returnsInHanded_of_change (C := Try.checked) ownKn started (by kernel_rfl) Try.func3
    (ChangeSpec.witness6 (enc := enc) (C := Try.checked) false ⟨#[], #[.slice none 0 0], []⟩ 8 (by kernel_rfl) (by kernel_rfl) (by kernel_rfl) (by kernel_rfl)) ?_
  intro W base args ds gs before hval hW _ _
  exact swapKeeps_contract enc W base args ds gs before hval hW

theorem swapKeeps_holds : Rows.SwapKeepsSaid :=
  OpenClaim.holds_of_wide 3 Try.f3 rfl rfl rfl rfl rfl rfl rfl ⟨rfl, rfl, rfl, rfl, rfl⟩ rfl rfl rfl rfl rfl (by kernel_rfl) Try.func3 (by kernel_rfl)
    (of_decide_eq_true (by kernel_rfl)) (by unfold Func.isWrapper; first | (rw [if_pos (by decide +kernel)]; kernel_rfl) | (rw [if_neg (by decide +kernel)]; exact ⟨rfl, rfl⟩))
    (fun os started H enc _ => swapKeeps_lifted os started H enc)

end Go.Proofs.Ytjdemlagmamlbaa
