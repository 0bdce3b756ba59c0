/- SwapApart holds, whatever the input is: its row's contract, by a walk over the code. -/
import Derived.Test.YtjdemlagmamlbaaSWL
namespace Go.Proofs.Ytjdemlagmamlbaa
open Go.ChangeShapes Go.WideShapes Go.ChangeAt Go.RowKit

theorem swapApart_answers : ∀ avs h, (∀ id o, h.get id = some o → id < h.next) → AllRo h → ArgsA h [.bytes, .bytes, .fields [.int .u64, .int .u64]] avs → progI over tab (.f 5) avs h fun v _ => v = .bool true := by
  intro avs h hwf _ ha
  match avs, ha with
  | [a, b, c], ⟨h1, h2, h3, _⟩ =>
    obtain ⟨cs, rfl, hs⟩ := h3
    simp only [ADs, AD] at hs
    obtain ⟨x1, y1, rfl, ⟨n1, rfl, p1, _⟩, x2, y2, rfl, ⟨n2, rfl, p2, _⟩, rfl⟩ := hs
    obtain ⟨kb, nb, _, st⟩ := (St.nil hwf).argB h2
    obtain ⟨ka, na, _, st⟩ := st.argB h1
    exact (apart_w p1 p2).law progI_mono st fun _ _ h => h

theorem swapApart_sound : FSound Try.prog (LamP Try.prog) 5 (progI over tab (.f 5)) := progI_sound overSound tabSound 5
theorem swapApart_params : shsOk Try.prog [.bytes, .bytes, .fields [.int .u64, .int .u64]] Try.f5.params.toList = true := by kernel_rfl
theorem swapApart_res : Try.f5.resultTypes = #[4] := by kernel_rfl

set_option maxRecDepth 100000 in
theorem swapApart_contract {H : Type} (enc : TypeId × Value → H) (W : World) (base : Nat) (args : Array Value) (ds gs : List (DataW H)) (before : List MemPlace)
    (hval : ∀ (j : Nat) t v, Try.f5.params[j]? = some t → args[j]? = some v → Value.okWide Try.prog W .any base t v)
    (hW : DataW.Whole enc Try.prog Try.f5.params.toList Rows.swapApartSpec.vars false W args.toList ds gs before) :
    Calls Try.prog 5 args W fun e W' => ∃ v, e = .returned v ∧ Rows.swapApartSpec.post enc Try.prog Try.f5 false true false false W args v W' :=
  law_contract (shs := [.bytes, .bytes, .fields [.int .u64, .int .u64]]) (tb := 4) laidOut swapApart_params swapApart_res und4 rfl
    (fun ds hd => match ds, hd with
      | [_, _, _], _ => rfl) swapApart_sound swapApart_answers base args ds gs before hval hW

set_option maxRecDepth 100000 in
theorem swapApart_lifted (os : Os) (started : os.Started) (H : Type) (enc : TypeId × Value → H) :
    ReturnsInHanded {} Try.checked os 5 .any (Rows.swapApartSpec.pre6 enc Try.prog Try.f5 Rows.swapApartRow.domain false) (Rows.swapApartSpec.post enc Try.prog Try.f5 false true false false) := by
  refine returnsInHanded_of_change (C := Try.checked) ownKn started (by kernel_rfl) Try.func5
    (ChangeSpec.witness6 (enc := enc) (C := Try.checked) false ⟨#[], #[.slice none 0 0, .slice none 0 0, .agg #[.int .u64 0, .int .u64 0]], []⟩ 8 (by kernel_rfl) (by kernel_rfl) (by kernel_rfl) (by kernel_rfl)) ?_
  intro W base args ds gs before hval hW _ _
  exact swapApart_contract enc W base args ds gs before hval hW

theorem swapApart_holds : Rows.SwapApartSaid :=
  OpenClaim.holds_of_wide 5 Try.f5 rfl rfl rfl rfl rfl rfl rfl ⟨rfl, rfl, rfl, rfl, rfl⟩ rfl rfl rfl rfl rfl (by kernel_rfl) Try.func5 (by kernel_rfl)
    (of_decide_eq_true (by kernel_rfl)) (by unfold Func.isWrapper; first | (rw [if_pos (by decide +kernel)]; kernel_rfl) | (rw [if_neg (by decide +kernel)]; exact ⟨rfl, rfl⟩))
    (fun os started H enc _ => swapApart_lifted os started H enc)

end Go.Proofs.Ytjdemlagmamlbaa
