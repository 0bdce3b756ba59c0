/- FileMany holds, whatever the input is: its row's contract, by a walk over the code. -/
import Derived.Test.YtjdemlagmamlbaaSWL
import Derived.Test.YtjdemlagmamlbaaFID
namespace Go.Proofs.Ytjdemlagmamlbaa
open Go.ChangeShapes Go.WideShapes Go.ChangeAt Go.RowKit

theorem fileMany_answers : ∀ avs h, (∀ id o, h.get id = some o → id < h.next) → AllRo h → ArgsA h [.int .u64] avs → progI over tab (.f 10) avs h fun v _ => v = .bool true := by
  intro avs h hwf _ ha
  match avs, ha with
  | [a], ⟨h1, _⟩ =>
    simp only [ArgA, AD, List.cons.injEq, and_true] at h1
    obtain ⟨x, rfl, hx, _⟩ := h1
    exact (many_w hx).law progI_mono (St.nil hwf) fun _ _ h => h

theorem fileMany_sound : FSound Try.prog (LamP Try.prog) 10 (progI over tab (.f 10)) := progI_sound overSound tabSound 10
theorem fileMany_params : shsOk Try.prog [.int .u64] Try.f10.params.toList = true := by kernel_rfl
theorem fileMany_res : Try.f10.resultTypes = #[4] := by kernel_rfl

set_option maxRecDepth 100000 in
theorem fileMany_contract {H : Type} (enc : TypeId × Value → H) (W : World) (base : Nat) (args : Array Value) (ds gs : List (DataW H)) (before : List MemPlace)
    (hval : ∀ (j : Nat) t v, Try.f10.params[j]? = some t → args[j]? = some v → Value.okWide Try.prog W .any base t v)
    (hW : DataW.Whole enc Try.prog Try.f10.params.toList Rows.fileManySpec.vars false W args.toList ds gs before) :
    Calls Try.prog 10 args W fun e W' => ∃ v, e = .returned v ∧ Rows.fileManySpec.post enc Try.prog Try.f10 false true false false W args v W' :=
  law_contract (shs := [.int .u64]) (tb := 4) laidOut fileMany_params fileMany_res und4 rfl
    (fun ds hd => match ds, hd with
      | [_], _ => rfl) fileMany_sound fileMany_answers base args ds gs before hval hW

set_option maxRecDepth 100000 in
theorem fileMany_lifted (os : Os) (started : os.Started) (H : Type) (enc : TypeId × Value → H) :
    ReturnsInHanded {} Try.checked os 10 .any (Rows.fileManySpec.pre6 enc Try.prog Try.f10 Rows.fileManyRow.domain false) (Rows.fileManySpec.post enc Try.prog Try.f10 false true false false) := by
  refine returnsInHanded_of_change (C := Try.checked) ownKn started (by kernel_rfl) Try.func10
    (ChangeSpec.witness6 (enc := enc) (C := Try.checked) false ⟨#[], #[.int .u64 0], []⟩ 8 (by kernel_rfl) (by kernel_rfl) (by kernel_rfl) (by kernel_rfl)) ?_
  intro W base args ds gs before hval hW _ _
  exact fileMany_contract enc W base args ds gs before hval hW

theorem fileMany_joined : joinedFacts Try.prog 10 Try.f10 Rows.fileManySpec Rows.fileManyRow = true := by
  unfold joinedFacts
  rw [enterOk]
  kernel_rfl

theorem fileMany_holds : Rows.FileManySaid :=
  OpenClaim.holds_of_wide 10 Try.f10 rfl rfl rfl rfl rfl rfl rfl ⟨rfl, rfl, rfl, rfl, rfl⟩ rfl rfl rfl rfl rfl (by kernel_rfl) Try.func10 fileMany_joined
    (of_decide_eq_true (by kernel_rfl)) (by unfold Func.isWrapper; first | (rw [if_pos (by decide +kernel)]; kernel_rfl) | (rw [if_neg (by decide +kernel)]; exact ⟨rfl, rfl⟩))
    (fun os started H enc _ => fileMany_lifted os started H enc)

end Go.Proofs.Ytjdemlagmamlbaa
