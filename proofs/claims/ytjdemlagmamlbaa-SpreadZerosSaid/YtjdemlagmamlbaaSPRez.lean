/- SpreadZeros holds, whatever the input is: its row's contract, by a walk over the code. -/
import Derived.Test.YtjdemlagmamlbaaZSPRe6
namespace Go.Proofs.Ytjdemlagmamlbaa
open Go.ChangeShapes Go.WideShapes Go.ChangeAt Go.RowKit

theorem spreadZeros_answers : ∀ avs h, (∀ id o, h.get id = some o → id < h.next) → AllRo h → ArgsA h [.int .u64, .slice (.fields [.int .i64, .int .i64, .int .i64, .bool])] avs → progI over tab (.f 16) avs h fun v _ => v = .bool true := by
  intro avs h hwf _ ha
  obtain ⟨x, y, rfl, h1, h2⟩ := args2 ha
  obtain ⟨n, rfl⟩ := argU h1
  obtain ⟨l, _, st⟩ := (St.nil hwf).argL h2 actP_each
  exact szeros_w.law progI_mono st fun _ _ h => h

theorem spreadZeros_sound : FSound Try.prog (LamP Try.prog) 16 (progI over tab (.f 16)) := progI_sound overSound tabSound 16
theorem spreadZeros_params : shsOk Try.prog [.int .u64, .slice (.fields [.int .i64, .int .i64, .int .i64, .bool])] Try.f16.params.toList = true := by kernel_rfl
theorem spreadZeros_res : Try.f16.resultTypes = #[4] := by kernel_rfl

set_option maxRecDepth 100000 in
theorem spreadZeros_contract {H : Type} (enc : TypeId × Value → H) (W : World) (base : Nat) (args : Array Value) (ds gs : List (DataW H)) (before : List MemPlace)
    (hval : ∀ (j : Nat) t v, Try.f16.params[j]? = some t → args[j]? = some v → Value.okWide Try.prog W .any base t v)
    (hW : DataW.Whole enc Try.prog Try.f16.params.toList Rows.spreadZerosSpec.vars false W args.toList ds gs before) :
    Calls Try.prog 16 args W fun e W' => ∃ v, e = .returned v ∧ Rows.spreadZerosSpec.post enc Try.prog Try.f16 false true false false W args v W' :=
  law_contract (shs := [.int .u64, .slice (.fields [.int .i64, .int .i64, .int .i64, .bool])]) (tb := 4) laidOut spreadZeros_params spreadZeros_res und4 rfl
    (fun ds hd => match ds, hd with
      | [_, _], _ => rfl) spreadZeros_sound spreadZeros_answers base args ds gs before hval hW

set_option maxRecDepth 100000 in
theorem spreadZeros_lifted (os : Os) (started : os.Started) (H : Type) (enc : TypeId × Value → H) :
    ReturnsInHanded {} Try.checked os 16 .any (Rows.spreadZerosSpec.pre6 enc Try.prog Try.f16 Rows.spreadZerosRow.domain false) (Rows.spreadZerosSpec.post enc Try.prog Try.f16 false true false false) := by
  refine returnsInHanded_of_change (C := Try.checked) ownKn started (by kernel_rfl) Try.func16
    (ChangeSpec.witness6 (enc := enc) (C := Try.checked) false ⟨#[], #[.int .u64 0, .slice none 0 0], []⟩ 8 (by kernel_rfl) (by kernel_rfl) (by kernel_rfl) (by kernel_rfl)) ?_
  intro W base args ds gs before hval hW _ _
  exact spreadZeros_contract enc W base args ds gs before hval hW

theorem spreadZeros_joined : joinedFacts Try.prog 16 Try.f16 Rows.spreadZerosSpec Rows.spreadZerosRow = true := by
  unfold joinedFacts
  rw [enterOk]
  kernel_rfl

theorem spreadZeros_holds : Rows.SpreadZerosSaid :=
  OpenClaim.holds_of_wide 16 Try.f16 rfl rfl rfl rfl rfl rfl rfl ⟨rfl, rfl, rfl, rfl, rfl⟩ rfl rfl rfl rfl rfl (by kernel_rfl) Try.func16 spreadZeros_joined
    (of_decide_eq_true (by kernel_rfl)) (by unfold Func.isWrapper; first | (rw [if_pos (by decide +kernel)]; kernel_rfl) | (rw [if_neg (by decide +kernel)]; exact ⟨rfl, rfl⟩))
    (fun os started H enc _ => spreadZeros_lifted os started H enc)

end Go.Proofs.Ytjdemlagmamlbaa
