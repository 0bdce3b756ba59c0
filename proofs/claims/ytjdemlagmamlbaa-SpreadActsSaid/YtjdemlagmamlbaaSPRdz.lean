/- SpreadActs holds, whatever the input is: its row's contract, by a walk over the code. -/
import Derived.Test.YtjdemlagmamlbaaZSPRa6
namespace Go.Proofs.Ytjdemlagmamlbaa
open Go.ChangeShapes Go.WideShapes Go.ChangeAt Go.RowKit

theorem spreadActs_answers : ∀ avs h, (∀ id o, h.get id = some o → id < h.next) → AllRo h → ArgsA h [.int .i64, .slice (.fields [.int .i64, .int .i64, .int .i64, .bool])] avs → progI over tab (.f 14) avs h fun v _ => v = .bool true := by
  intro avs h hwf _ ha
  obtain ⟨x, y, rfl, h1, h2⟩ := args2 ha
  simp only [ArgA, AD, List.cons.injEq, and_true] at h1
  obtain ⟨n, rfl, _, _⟩ := h1
  obtain ⟨l, _, st⟩ := (St.nil hwf).argL h2 actP_each
  exact sacts_w.law progI_mono st fun _ _ h => h

theorem spreadActs_sound : FSound Try.prog (LamP Try.prog) 14 (progI over tab (.f 14)) := progI_sound overSound tabSound 14
theorem spreadActs_params : shsOk Try.prog [.int .i64, .slice (.fields [.int .i64, .int .i64, .int .i64, .bool])] Try.f14.params.toList = true := by kernel_rfl
theorem spreadActs_res : Try.f14.resultTypes = #[4] := by kernel_rfl

set_option maxRecDepth 100000 in
theorem spreadActs_contract {H : Type} (enc : TypeId × Value → H) (W : World) (base : Nat) (args : Array Value) (ds gs : List (DataW H)) (before : List MemPlace)
    (hval : ∀ (j : Nat) t v, Try.f14.params[j]? = some t → args[j]? = some v → Value.okWide Try.prog W .any base t v)
    (hW : DataW.Whole enc Try.prog Try.f14.params.toList Rows.spreadActsSpec.vars false W args.toList ds gs before) :
    Calls Try.prog 14 args W fun e W' => ∃ v, e = .returned v ∧ Rows.spreadActsSpec.post enc Try.prog Try.f14 false true false false W args v W' :=
  law_contract (shs := [.int .i64, .slice (.fields [.int .i64, .int .i64, .int .i64, .bool])]) (tb := 4) laidOut spreadActs_params spreadActs_res und4 rfl
    (fun ds hd => match ds, hd with
      | [_, _], _ => rfl) spreadActs_sound spreadActs_answers base args ds gs before hval hW

set_option maxRecDepth 100000 in
theorem spreadActs_lifted (os : Os) (started : os.Started) (H : Type) (enc : TypeId × Value → H) :
    ReturnsInHanded {} Try.checked os 14 .any (Rows.spreadActsSpec.pre6 enc Try.prog Try.f14 Rows.spreadActsRow.domain false) (Rows.spreadActsSpec.post enc Try.prog Try.f14 false true false false) := by
  refine returnsInHanded_of_change (C := Try.checked) ownKn started (by kernel_rfl) Try.func14
    (ChangeSpec.witness6 (enc := enc) (C := Try.checked) false ⟨#[], #[.int .i64 0, .slice none 0 0], []⟩ 8 (by kernel_rfl) (by kernel_rfl) (by kernel_rfl) (by kernel_rfl)) ?_
  intro W base args ds gs before hval hW _ _
  exact spreadActs_contract enc W base args ds gs before hval hW

theorem spreadActs_joined : joinedFacts Try.prog 14 Try.f14 Rows.spreadActsSpec Rows.spreadActsRow = true := by
  unfold joinedFacts
  rw [enterOk]
  kernel_rfl

theorem spreadActs_holds : Rows.SpreadActsSaid :=
  OpenClaim.holds_of_wide 14 Try.f14 rfl rfl rfl rfl rfl rfl rfl ⟨rfl, rfl, rfl, rfl, rfl⟩ rfl rfl rfl rfl rfl (by kernel_rfl) Try.func14 spreadActs_joined
    (of_decide_eq_true (by kernel_rfl)) (by unfold Func.isWrapper; first | (rw [if_pos (by decide +kernel)]; kernel_rfl) | (rw [if_neg (by decide +kernel)]; exact ⟨rfl, rfl⟩))
    (fun os started H enc _ => spreadActs_lifted os started H enc)

end Go.Proofs.Ytjdemlagmamlbaa
