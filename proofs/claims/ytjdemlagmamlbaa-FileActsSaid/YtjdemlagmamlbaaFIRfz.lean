/- FileActs holds, whatever the input is: its row's contract, by a walk over the code. -/
import Derived.Test.YtjdemlagmamlbaaZFIRf5
namespace Go.Proofs.Ytjdemlagmamlbaa
open Go.ChangeShapes Go.WideShapes Go.ChangeAt Go.RowKit

theorem actF_each {h : AHeap} (x : List AV) (hx : AD h (.fields [.int .i64, .int .i64, .int .i64, .bytes, .bool]) x) : ∃ a : ActF, x = a.cells ∧ RoL a.G ∧ ∀ L, St h L → St h (a.G ++ L) := by
  simp only [AD, ADs] at hx
  obtain ⟨x1, y1, rfl, ⟨n1, rfl, _⟩, x2, y2, rfl, ⟨n2, rfl, _⟩, x3, y3, rfl, ⟨n3, rfl, _, q3⟩, x4, y4, rfl, h4, x5, y5, rfl, ⟨b, rfl⟩, rfl⟩ := hx
  obtain ⟨v, rfl⟩ : ∃ v, x4 = [v] := by rcases h4 with rfl | rfl | ⟨_, _, _, _, _, rfl, _⟩ <;> exact ⟨_, rfl⟩
  obtain ⟨k, n, _, hst⟩ := argB (v := v) (h := h) (by simp only [AD]; exact h4)
  exact ⟨⟨n1, n2, n3, v, k, n, b, q3⟩, rfl, .by, fun L st => hst L st⟩

theorem fileActs_answers : ∀ avs h, (∀ id o, h.get id = some o → id < h.next) → AllRo h → ArgsA h [.slice (.fields [.int .i64, .int .i64, .int .i64, .bytes, .bool])] avs → progI over tab (.f 12) avs h fun v _ => v = .bool true := by
  intro avs h hwf _ ha
  match avs, ha with
  | [x], ⟨h1, _⟩ =>
    obtain ⟨l, _, st⟩ := (St.nil hwf).argL h1 actF_each
    exact facts_w.law progI_mono st fun _ _ h => h

theorem fileActs_sound : FSound Try.prog (LamP Try.prog) 12 (progI over tab (.f 12)) := progI_sound overSound tabSound 12
theorem fileActs_params : shsOk Try.prog [.slice (.fields [.int .i64, .int .i64, .int .i64, .bytes, .bool])] Try.f12.params.toList = true := by kernel_rfl
theorem fileActs_res : Try.f12.resultTypes = #[4] := by kernel_rfl

set_option maxRecDepth 100000 in
theorem fileActs_contract {H : Type} (enc : TypeId × Value → H) (W : World) (base : Nat) (args : Array Value) (ds gs : List (DataW H)) (before : List MemPlace)
    (hval : ∀ (j : Nat) t v, Try.f12.params[j]? = some t → args[j]? = some v → Value.okWide Try.prog W .any base t v)
    (hW : DataW.Whole enc Try.prog Try.f12.params.toList Rows.fileActsSpec.vars false W args.toList ds gs before) :
    Calls Try.prog 12 args W fun e W' => ∃ v, e = .returned v ∧ Rows.fileActsSpec.post enc Try.prog Try.f12 false true false false W args v W' :=
  law_contract (shs := [.slice (.fields [.int .i64, .int .i64, .int .i64, .bytes, .bool])]) (tb := 4) laidOut fileActs_params fileActs_res und4 rfl
    (fun ds hd => match ds, hd with
      | [_], _ => rfl) fileActs_sound fileActs_answers base args ds gs before hval hW

set_option maxRecDepth 100000 in
theorem fileActs_lifted (os : Os) (started : os.Started) (H : Type) (enc : TypeId × Value → H) :
    ReturnsInHanded {} Try.checked os 12 .any (Rows.fileActsSpec.pre6 enc Try.prog Try.f12 Rows.fileActsRow.domain false) (Rows.fileActsSpec.post enc Try.prog Try.f12 false true false false) := by
  refine returnsInHanded_of_change (C := Try.checked) ownKn started (by kernel_rfl) Try.func12
    (ChangeSpec.witness6 (enc := enc) (C := Try.checked) false ⟨#[], #[.slice none 0 0], []⟩ 8 (by kernel_rfl) (by kernel_rfl) (by kernel_rfl) (by kernel_rfl)) ?_
  intro W base args ds gs before hval hW _ _
  exact fileActs_contract enc W base args ds gs before hval hW

theorem fileActs_joined : joinedFacts Try.prog 12 Try.f12 Rows.fileActsSpec Rows.fileActsRow = true := by
  unfold joinedFacts
  rw [enterOk]
  kernel_rfl

theorem fileActs_holds : Rows.FileActsSaid :=
  OpenClaim.holds_of_wide 12 Try.f12 rfl rfl rfl rfl rfl rfl rfl ⟨rfl, rfl, rfl, rfl, rfl⟩ rfl rfl rfl rfl rfl (by kernel_rfl) Try.func12 fileActs_joined
    (of_decide_eq_true (by kernel_rfl)) (by unfold Func.isWrapper; first | (rw [if_pos (by decide +kernel)]; kernel_rfl) | (rw [if_neg (by decide +kernel)]; exact ⟨rfl, rfl⟩))
    (fun os started H enc _ => fileActs_lifted os started H enc)

end Go.Proofs.Ytjdemlagmamlbaa
