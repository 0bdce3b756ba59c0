/- SwapActs holds, whatever the input is: its row's contract, by a walk over the code. -/
import Derived.Test.YtjdemlagmamlbaaSWL
import Derived.Test.YtjdemlagmamlbaaSWE
namespace Go.Proofs.Ytjdemlagmamlbaa
open Go.ChangeShapes Go.WideShapes Go.ChangeAt Go.RowKit

theorem swapActs_answers : ∀ avs h, (∀ id o, h.get id = some o → id < h.next) → AllRo h → ArgsA h [.int .i64, .slice actSh] avs → progI over tab (.f 6) avs h fun v _ => v = .bool true := by
  intro avs h hwf _ ha
  cases avs with
  | nil => exact ha.elim
  | cons a vs =>
    obtain ⟨h1, ha⟩ := ha
    cases vs with
    | nil => exact ha.elim
    | cons v vs =>
      obtain ⟨h2, hr⟩ := ha
      cases vs with
      | cons => exact hr.elim
      | nil =>
        simp only [ArgA, AD, List.cons.injEq, and_true] at h1
        obtain ⟨x, rfl, hx, _⟩ := h1
        obtain ⟨l, st⟩ := acts_of hwf h2
        exact acts_w.law progI_mono st fun _ _ h => h

theorem swapActs_sound : FSound Try.prog (LamP Try.prog) 6 (progI over tab (.f 6)) := progI_sound overSound tabSound 6
theorem swapActs_params : shsOk Try.prog [.int .i64, .slice actSh] Try.f6.params.toList = true := by kernel_rfl
theorem swapActs_res : Try.f6.resultTypes = #[4] := by kernel_rfl

set_option maxRecDepth 100000 in
theorem swapActs_contract {H : Type} (enc : TypeId × Value → H) (W : World) (base : Nat) (args : Array Value) (ds gs : List (DataW H)) (before : List MemPlace)
    (hval : ∀ (j : Nat) t v, Try.f6.params[j]? = some t → args[j]? = some v → Value.okWide Try.prog W .any base t v)
    (hW : DataW.Whole enc Try.prog Try.f6.params.toList Rows.swapActsSpec.vars false W args.toList ds gs before) :
    Calls Try.prog 6 args W fun e W' => ∃ v, e = .returned v ∧ Rows.swapActsSpec.post enc Try.prog Try.f6 false true false false W args v W' :=
  law_contract (shs := [.int .i64, .slice actSh]) (tb := 4) laidOut swapActs_params swapActs_res und4 rfl
    (fun ds hd => match ds, hd with
      | [_, _], _ => rfl) swapActs_sound swapActs_answers base args ds gs before hval hW

set_option maxRecDepth 100000 in
theorem swapActs_lifted (os : Os) (started : os.Started) (H : Type) (enc : TypeId × Value → H) :
    ReturnsInHanded {} Try.checked os 6 .any (Rows.swapActsSpec.pre6 enc Try.prog Try.f6 Rows.swapActsRow.domain false) (Rows.swapActsSpec.post enc Try.prog Try.f6 false true false false) := by
  refine returnsInHanded_of_change (C := Try.checked) ownKn started (by kernel_rfl) Try.func6
    (ChangeSpec.witness6 (enc := enc) (C := Try.checked) false ⟨#[], #[.int .i64 0, .slice none 0 0], []⟩ 8 (by kernel_rfl) (by kernel_rfl) (by kernel_rfl) (by kernel_rfl)) ?_
  intro W base args ds gs before hval hW _ _
  exact swapActs_contract enc W base args ds gs before hval hW

theorem swapActs_joined : joinedFacts Try.prog 6 Try.f6 Rows.swapActsSpec Rows.swapActsRow = true := by
  unfold joinedFacts
  rw [enterOk]
  kernel_rfl

theorem swapActs_holds : Rows.SwapActsSaid :=
  OpenClaim.holds_of_wide 6 Try.f6 rfl rfl rfl rfl rfl rfl rfl ⟨rfl, rfl, rfl, rfl, rfl⟩ rfl rfl rfl rfl rfl (by kernel_rfl) Try.func6 swapActs_joined
    (of_decide_eq_true (by kernel_rfl)) (by unfold Func.isWrapper; first | (rw [if_pos (by decide +kernel)]; kernel_rfl) | (rw [if_neg (by decide +kernel)]; exact ⟨rfl, rfl⟩))
    (fun os started H enc _ => swapActs_lifted os started H enc)

end Go.Proofs.Ytjdemlagmamlbaa
