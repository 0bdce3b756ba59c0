/- AmapNumbers holds, whatever the input is: its row's contract, by a walk over the code. -/
import Derived.Test.YtjdemlagmamlbaaZAPRa6
namespace Go.Proofs.Ytjdemlagmamlbaa
open Go.ChangeShapes Go.WideShapes Go.ChangeAt Go.RowKit

theorem amapNumbers_answers : ∀ avs h, (∀ id o, h.get id = some o → id < h.next) → AllRo h → ArgsA h [.int .u64, .int .u64] avs → progI over tab (.f 19) avs h fun v _ => v = .bool true := by
  intro avs h hwf _ ha
  obtain ⟨x, y, rfl, h1, h2⟩ := args2 ha
  obtain ⟨m, rfl⟩ := argU h1
  obtain ⟨d, rfl⟩ := argU h2
  exact numbers_w.law progI_mono (St.nil hwf) fun _ _ h => h

theorem amapNumbers_sound : FSound Try.prog (LamP Try.prog) 19 (progI over tab (.f 19)) := progI_sound overSound tabSound 19
theorem amapNumbers_params : shsOk Try.prog [.int .u64, .int .u64] Try.f19.params.toList = true := by kernel_rfl
theorem amapNumbers_res : Try.f19.resultTypes = #[4] := by kernel_rfl

set_option maxRecDepth 100000 in
theorem amapNumbers_contract {H : Type} (enc : TypeId × Value → H) (W : World) (base : Nat) (args : Array Value) (ds gs : List (DataW H)) (before : List MemPlace)
    (hval : ∀ (j : Nat) t v, Try.f19.params[j]? = some t → args[j]? = some v → Value.okWide Try.prog W .any base t v)
    (hW : DataW.Whole enc Try.prog Try.f19.params.toList Rows.amapNumbersSpec.vars false W args.toList ds gs before) :
    Calls Try.prog 19 args W fun e W' => ∃ v, e = .returned v ∧ Rows.amapNumbersSpec.post enc Try.prog Try.f19 false true false false W args v W' :=
  law_contract (shs := [.int .u64, .int .u64]) (tb := 4) laidOut amapNumbers_params amapNumbers_res und4 rfl
    (fun ds hd => match ds, hd with
      | [_, _], _ => rfl) amapNumbers_sound amapNumbers_answers base args ds gs before hval hW

set_option maxRecDepth 100000 in
theorem amapNumbers_lifted (os : Os) (started : os.Started) (H : Type) (enc : TypeId × Value → H) :
    ReturnsInHanded {} Try.checked os 19 .any (Rows.amapNumbersSpec.pre6 enc Try.prog Try.f19 Rows.amapNumbersRow.domain false) (Rows.amapNumbersSpec.post enc Try.prog Try.f19 false true false false) := by
  refine returnsInHanded_of_change (C := Try.checked) ownKn started (by kernel_rfl) Try.func19
    (ChangeSpec.witness6 (enc := enc) (C := Try.checked) false ⟨#[], #[.int .u64 0, .int .u64 0], []⟩ 8 (by kernel_rfl) (by kernel_rfl) (by kernel_rfl) (by kernel_rfl)) ?_
  intro W base args ds gs before hval hW _ _
  exact amapNumbers_contract enc W base args ds gs before hval hW

theorem amapNumbers_joined : joinedFacts Try.prog 19 Try.f19 Rows.amapNumbersSpec Rows.amapNumbersRow = true := by
  unfold joinedFacts
  rw [enterOk]
  kernel_rfl

theorem amapNumbers_holds : Rows.AmapNumbersSaid :=
  OpenClaim.holds_of_wide 19 Try.f19 rfl rfl rfl rfl rfl rfl rfl ⟨rfl, rfl, rfl, rfl, rfl⟩ rfl rfl rfl rfl rfl (by kernel_rfl) Try.func19 amapNumbers_joined
    (of_decide_eq_true (by kernel_rfl)) (by unfold Func.isWrapper; first | (rw [if_pos (by decide +kernel)]; kernel_rfl) | (rw [if_neg (by decide +kernel)]; exact ⟨rfl, rfl⟩))
    (fun os started H enc _ => amapNumbers_lifted os started H enc)

end Go.Proofs.Ytjdemlagmamlbaa
