/- SpreadBack holds, whatever the input is: its row's contract, by a walk over the code. -/
import Derived.Test.YtjdemlagmamlbaaZSPRa6
namespace Go.Proofs.Ytjdemlagmamlbaa
open Go.ChangeShapes Go.WideShapes Go.ChangeAt Go.RowKit

theorem spreadBack_answers : ∀ avs h, (∀ id o, h.get id = some o → id < h.next) → AllRo h → ArgsA h [.int .u64, .slice (.fields [.int .i64, .int .i64, .int .i64, .bool]), .fields [.int .i64, .int .i64, .int .i64, .bool]] avs → progI over tab (.f 17) avs h fun v _ => v = .bool true := by
  intro avs h hwf _ ha
  obtain ⟨x, y, z, rfl, h1, h2, h3⟩ := args3 ha
  obtain ⟨n, rfl⟩ := argU h1
  obtain ⟨xs, rfl, hs⟩ := h3
  obtain ⟨a, rfl, _, _⟩ := actP_each (h := h) xs hs
  obtain ⟨l, _, st⟩ := (St.nil hwf).argL h2 actP_each
  exact (sback_w (a := a)).law progI_mono st fun _ _ h => h

theorem spreadBack_sound : FSound Try.prog (LamP Try.prog) 17 (progI over tab (.f 17)) := progI_sound overSound tabSound 17
theorem spreadBack_params : shsOk Try.prog [.int .u64, .slice (.fields [.int .i64, .int .i64, .int .i64, .bool]), .fields [.int .i64, .int .i64, .int .i64, .bool]] Try.f17.params.toList = true := by kernel_rfl
theorem spreadBack_res : Try.f17.resultTypes = #[4] := by kernel_rfl

set_option maxRecDepth 100000 in
theorem spreadBack_contract {H : Type} (enc : TypeId × Value → H) (W : World) (base : Nat) (args : Array Value) (ds gs : List (DataW H)) (before : List MemPlace)
    (hval : ∀ (j : Nat) t v, Try.f17.params[j]? = some t → args[j]? = some v → Value.okWide Try.prog W .any base t v)
    (hW : DataW.Whole enc Try.prog Try.f17.params.toList Rows.spreadBackSpec.vars false W args.toList ds gs before) :
    Calls Try.prog 17 args W fun e W' => ∃ v, e = .returned v ∧ Rows.spreadBackSpec.post enc Try.prog Try.f17 false true false false W args v W' :=
  law_contract (shs := [.int .u64, .slice (.fields [.int .i64, .int .i64, .int .i64, .bool]), .fields [.int .i64, .int .i64, .int .i64, .bool]]) (tb := 4) laidOut spreadBack_params spreadBack_res und4 rfl
    (fun ds hd => match ds, hd with
      | [_, _, _], _ => rfl) spreadBack_sound spreadBack_answers base args ds gs before hval hW

set_option maxRecDepth 100000 in
theorem spreadBack_lifted (os : Os) (started : os.Started) (H : Type) (enc : TypeId × Value → H) :
    ReturnsInHanded {} Try.checked os 17 .any (Rows.spreadBackSpec.pre6 enc Try.prog Try.f17 Rows.spreadBackRow.domain false) (Rows.spreadBackSpec.post enc Try.prog Try.f17 false true false false) := by
  refine returnsInHanded_of_change (C := Try.checked) ownKn started (by kernel_rfl) Try.func17
    (ChangeSpec.witness6 (enc := enc) (C := Try.checked) false ⟨#[], #[.int .u64 0, .slice none 0 0, .agg #[.int .i64 0, .int .i64 0, .int .i64 0, .bool false]], []⟩ 8 (by kernel_rfl) (by kernel_rfl) (by kernel_rfl) (by kernel_rfl)) ?_
  intro W base args ds gs before hval hW _ _
  exact spreadBack_contract enc W base args ds gs before hval hW

theorem spreadBack_joined : joinedFacts Try.prog 17 Try.f17 Rows.spreadBackSpec Rows.spreadBackRow = true := by
  unfold joinedFacts
  rw [enterOk]
  kernel_rfl

theorem spreadBack_holds : Rows.SpreadBackSaid :=
  OpenClaim.holds_of_wide 17 Try.f17 rfl rfl rfl rfl rfl rfl rfl ⟨rfl, rfl, rfl, rfl, rfl⟩ rfl rfl rfl rfl rfl (by kernel_rfl) Try.func17 spreadBack_joined
    (of_decide_eq_true (by kernel_rfl)) (by unfold Func.isWrapper; first | (rw [if_pos (by decide +kernel)]; kernel_rfl) | (rw [if_neg (by decide +kernel)]; exact ⟨rfl, rfl⟩))
    (fun os started H enc _ => spreadBack_lifted os started H enc)

end Go.Proofs.Ytjdemlagmamlbaa
