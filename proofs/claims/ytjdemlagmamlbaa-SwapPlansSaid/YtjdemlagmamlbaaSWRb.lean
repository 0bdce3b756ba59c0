/- SwapPlans holds, whatever the input is: its row's contract, by a walk over the code. -/
import Derived.Test.YtjdemlagmamlbaaSWL
namespace Go.Proofs.Ytjdemlagmamlbaa
open Go.ChangeShapes Go.WideShapes Go.ChangeAt Go.RowKit

theorem swapPlans_answers : ∀ avs h, (∀ id o, h.get id = some o → id < h.next) → AllRo h → ArgsA h [.int .u64, .int .u64, .int .u64] avs → progI over tab (.f 4) avs h fun v _ => v = .bool true := by
  intro avs h hwf _ ha
  match avs, ha with
  | [a, b, c], ⟨h1, h2, h3, _⟩ =>
    simp only [ArgA, AD, List.cons.injEq, and_true] at h1 h2 h3
    obtain ⟨x, rfl, hx, _⟩ := h1
    obtain ⟨y, rfl, hy, _⟩ := h2
    obtain ⟨z, rfl, hz, _⟩ := h3
    exact (plans_w hx hy hz).law progI_mono (St.nil hwf) fun _ _ h => h

theorem swapPlans_sound : FSound Try.prog (LamP Try.prog) 4 (progI over tab (.f 4)) := progI_sound overSound tabSound 4
theorem swapPlans_params : shsOk Try.prog [.int .u64, .int .u64, .int .u64] Try.f4.params.toList = true := by kernel_rfl
theorem swapPlans_res : Try.f4.resultTypes = #[4] := by kernel_rfl

set_option maxRecDepth 100000 in
theorem swapPlans_contract {H : Type} (enc : TypeId × Value → H) (W : World) (base : Nat) (args : Array Value) (ds gs : List (DataW H)) (before : List MemPlace)
    (hval : ∀ (j : Nat) t v, Try.f4.params[j]? = some t → args[j]? = some v → Value.okWide Try.prog W .any base t v)
    (hW : DataW.Whole enc Try.prog Try.f4.params.toList Rows.swapPlansSpec.vars false W args.toList ds gs before) :
    Calls Try.prog 4 args W fun e W' => ∃ v, e = .returned v ∧ Rows.swapPlansSpec.post enc Try.prog Try.f4 false true false false W args v W' :=
  law_contract (shs := [.int .u64, .int .u64, .int .u64]) (tb := 4) laidOut swapPlans_params swapPlans_res und4 rfl
    (fun ds hd => match ds, hd with
      | [_, _, _], _ => rfl) swapPlans_sound swapPlans_answers base args ds gs before hval hW

set_option maxRecDepth 100000 in
theorem swapPlans_lifted (os : Os) (started : os.Started) (H : Type) (enc : TypeId × Value → H) :
    ReturnsInHanded {} Try.checked os 4 .any (Rows.swapPlansSpec.pre6 enc Try.prog Try.f4 Rows.swapPlansRow.domain false) (Rows.swapPlansSpec.post enc Try.prog Try.f4 false true false false) := by
  refine returnsInHanded_of_change (C := Try.checked) ownKn started (by kernel_rfl) Try.func4
    (ChangeSpec.witness6 (enc := enc) (C := Try.checked) false ⟨#[], #[.int .u64 0, .int .u64 0, .int .u64 0], []⟩ 8 (by kernel_rfl) (by kernel_rfl) (by kernel_rfl) (by kernel_rfl)) ?_
  intro W base args ds gs before hval hW _ _
  exact swapPlans_contract enc W base args ds gs before hval hW

theorem swapPlans_holds : Rows.SwapPlansSaid :=
  OpenClaim.holds_of_wide 4 Try.f4 rfl rfl rfl rfl rfl rfl rfl ⟨rfl, rfl, rfl, rfl, rfl⟩ rfl rfl rfl rfl rfl (by kernel_rfl) Try.func4 (by kernel_rfl)
    (of_decide_eq_true (by kernel_rfl)) (by unfold Func.isWrapper; first | (rw [if_pos (by decide +kernel)]; kernel_rfl) | (rw [if_neg (by decide +kernel)]; exact ⟨rfl, rfl⟩))
    (fun os started H enc _ => swapPlans_lifted os started H enc)

end Go.Proofs.Ytjdemlagmamlbaa
