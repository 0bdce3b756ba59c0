/- FileCuts holds, whatever the input is: its row's contract, by a walk over the code. -/
import Derived.Test.YtjdemlagmamlbaaSWL
import Derived.Test.YtjdemlagmamlbaaFIF
namespace Go.Proofs.Ytjdemlagmamlbaa
open Go.ChangeShapes Go.WideShapes Go.ChangeAt Go.RowKit

theorem fileCuts_answers : ∀ avs h, (∀ id o, h.get id = some o → id < h.next) → AllRo h → ArgsA h [.int .u64, .fields [.int .u64, .int .u64], .bytes] avs → progI over tab (.f 8) avs h fun v _ => v = .bool true := by
  intro avs h hwf _ ha
  match avs, ha with
  | [a, b, c], ⟨h1, h2, h3, _⟩ =>
    simp only [ArgA, AD, List.cons.injEq, and_true] at h1
    obtain ⟨x, rfl, hx, _⟩ := h1
    obtain ⟨cs, rfl, hs⟩ := h2
    simp only [ADs, AD] at hs
    obtain ⟨x1, y1, rfl, ⟨n1, rfl, p1, _⟩, x2, y2, rfl, ⟨n2, rfl, p2, _⟩, rfl⟩ := hs
    obtain ⟨kb, nb, _, st⟩ := (St.nil hwf).argB h3
    exact (cuts_w hx p1 p2).law progI_mono st fun _ _ h => h

theorem fileCuts_sound : FSound Try.prog (LamP Try.prog) 8 (progI over tab (.f 8)) := progI_sound overSound tabSound 8
theorem fileCuts_params : shsOk Try.prog [.int .u64, .fields [.int .u64, .int .u64], .bytes] Try.f8.params.toList = true := by kernel_rfl
theorem fileCuts_res : Try.f8.resultTypes = #[4] := by kernel_rfl

set_option maxRecDepth 100000 in
theorem fileCuts_contract {H : Type} (enc : TypeId × Value → H) (W : World) (base : Nat) (args : Array Value) (ds gs : List (DataW H)) (before : List MemPlace)
    (hval : ∀ (j : Nat) t v, Try.f8.params[j]? = some t → args[j]? = some v → Value.okWide Try.prog W .any base t v)
    (hW : DataW.Whole enc Try.prog Try.f8.params.toList Rows.fileCutsSpec.vars false W args.toList ds gs before) :
    Calls Try.prog 8 args W fun e W' => ∃ v, e = .returned v ∧ Rows.fileCutsSpec.post enc Try.prog Try.f8 false true false false W args v W' :=
  law_contract (shs := [.int .u64, .fields [.int .u64, .int .u64], .bytes]) (tb := 4) laidOut fileCuts_params fileCuts_res und4 rfl
    (fun ds hd => match ds, hd with
      | [_, _, _], _ => rfl) fileCuts_sound fileCuts_answers base args ds gs before hval hW

set_option maxRecDepth 100000 in
theorem fileCuts_lifted (os : Os) (started : os.Started) (H : Type) (enc : TypeId × Value → H) :
    ReturnsInHanded {} Try.checked os 8 .any (Rows.fileCutsSpec.pre6 enc Try.prog Try.f8 Rows.fileCutsRow.domain false) (Rows.fileCutsSpec.post enc Try.prog Try.f8 false true false false) := by
  refine returnsInHanded_of_change (C := Try.checked) ownKn started (by kernel_rfl) Try.func8
    (ChangeSpec.witness6 (enc := enc) (C := Try.checked) false ⟨#[], #[.int .u64 0, .agg #[.int .u64 0, .int .u64 0], .slice none 0 0], []⟩ 8 (by kernel_rfl) (by kernel_rfl) (by kernel_rfl) (by kernel_rfl)) ?_
  intro W base args ds gs before hval hW _ _
  exact fileCuts_contract enc W base args ds gs before hval hW

theorem fileCuts_joined : joinedFacts Try.prog 8 Try.f8 Rows.fileCutsSpec Rows.fileCutsRow = true := by
  unfold joinedFacts
  rw [enterOk]
  kernel_rfl

theorem fileCuts_holds : Rows.FileCutsSaid :=
  OpenClaim.holds_of_wide 8 Try.f8 rfl rfl rfl rfl rfl rfl rfl ⟨rfl, rfl, rfl, rfl, rfl⟩ rfl rfl rfl rfl rfl (by kernel_rfl) Try.func8 fileCuts_joined
    (of_decide_eq_true (by kernel_rfl)) (by unfold Func.isWrapper; first | (rw [if_pos (by decide +kernel)]; kernel_rfl) | (rw [if_neg (by decide +kernel)]; exact ⟨rfl, rfl⟩))
    (fun os started H enc _ => fileCuts_lifted os started H enc)

end Go.Proofs.Ytjdemlagmamlbaa
