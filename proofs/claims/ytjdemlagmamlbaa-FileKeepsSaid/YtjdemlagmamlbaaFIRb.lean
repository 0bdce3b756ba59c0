/- FileKeeps holds, whatever the input is: its row's contract, by a walk over the code. -/
import Derived.Test.YtjdemlagmamlbaaSWL
import Derived.Test.YtjdemlagmamlbaaFIE
namespace Go.Proofs.Ytjdemlagmamlbaa
open Go.ChangeShapes Go.WideShapes Go.ChangeAt Go.RowKit

theorem fileKeeps_answers : ∀ avs h, (∀ id o, h.get id = some o → id < h.next) → AllRo h → ArgsA h [.bytes, .bytes, .int .u64] avs → progI over tab (.f 9) avs h fun v _ => v = .bool true := by
  intro avs h hwf _ ha
  match avs, ha with
  | [a, b, c], ⟨h1, h2, h3, _⟩ =>
    simp only [ArgA, AD, List.cons.injEq, and_true] at h3
    obtain ⟨x, rfl, hx, _⟩ := h3
    obtain ⟨kb, nb, _, st⟩ := (St.nil hwf).argB h2
    obtain ⟨ka, na, _, st⟩ := st.argB h1
    exact (fkeeps_w hx).law progI_mono st fun _ _ h => h

theorem fileKeeps_sound : FSound Try.prog (LamP Try.prog) 9 (progI over tab (.f 9)) := progI_sound overSound tabSound 9
theorem fileKeeps_params : shsOk Try.prog [.bytes, .bytes, .int .u64] Try.f9.params.toList = true := by kernel_rfl
theorem fileKeeps_res : Try.f9.resultTypes = #[4] := by kernel_rfl

set_option maxRecDepth 100000 in
theorem fileKeeps_contract {H : Type} (enc : TypeId × Value → H) (W : World) (base : Nat) (args : Array Value) (ds gs : List (DataW H)) (before : List MemPlace)
    (hval : ∀ (j : Nat) t v, Try.f9.params[j]? = some t → args[j]? = some v → Value.okWide Try.prog W .any base t v)
    (hW : DataW.Whole enc Try.prog Try.f9.params.toList Rows.fileKeepsSpec.vars false W args.toList ds gs before) :
    Calls Try.prog 9 args W fun e W' => ∃ v, e = .returned v ∧ Rows.fileKeepsSpec.post enc Try.prog Try.f9 false true false false W args v W' :=
  law_contract (shs := [.bytes, .bytes, .int .u64]) (tb := 4) laidOut fileKeeps_params fileKeeps_res und4 rfl
    (fun ds hd => match ds, hd with
      | [_, _, _], _ => rfl) fileKeeps_sound fileKeeps_answers base args ds gs before hval hW

set_option maxRecDepth 100000 in
theorem fileKeeps_lifted (os : Os) (started : os.Started) (H : Type) (enc : TypeId × Value → H) :
    ReturnsInHanded {} Try.checked os 9 .any (Rows.fileKeepsSpec.pre6 enc Try.prog Try.f9 Rows.fileKeepsRow.domain false) (Rows.fileKeepsSpec.post enc Try.prog Try.f9 false true false false) := by
  refine returnsInHanded_of_change (C := Try.checked) ownKn started (by kernel_rfl) Try.func9
    (ChangeSpec.witness6 (enc := enc) (C := Try.checked) false ⟨#[], #[.slice none 0 0, .slice none 0 0, .int .u64 0], []⟩ 8 (by kernel_rfl) (by kernel_rfl) (by kernel_rfl) (by kernel_rfl)) ?_
  intro W base args ds gs before hval hW _ _
  exact fileKeeps_contract enc W base args ds gs before hval hW

theorem fileKeeps_joined : joinedFacts Try.prog 9 Try.f9 Rows.fileKeepsSpec Rows.fileKeepsRow = true := by
  unfold joinedFacts
  rw [enterOk]
  kernel_rfl

theorem fileKeeps_holds : Rows.FileKeepsSaid :=
  OpenClaim.holds_of_wide 9 Try.f9 rfl rfl rfl rfl rfl rfl rfl ⟨rfl, rfl, rfl, rfl, rfl⟩ rfl rfl rfl rfl rfl (by kernel_rfl) Try.func9 fileKeeps_joined
    (of_decide_eq_true (by kernel_rfl)) (by unfold Func.isWrapper; first | (rw [if_pos (by decide +kernel)]; kernel_rfl) | (rw [if_neg (by decide +kernel)]; exact ⟨rfl, rfl⟩))
    (fun os started H enc _ => fileKeeps_lifted os started H enc)

end Go.Proofs.Ytjdemlagmamlbaa
