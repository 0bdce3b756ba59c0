/- AmapNone holds, whatever the input is: its row's contract, by a walk over the code. -/
import Derived.Test.YtjdemlagmamlbaaZAPRa6
namespace Go.Proofs.Ytjdemlagmamlbaa
open Go.ChangeShapes Go.WideShapes Go.ChangeAt Go.RowKit

theorem acP_each {h : AHeap} (x : List AV) (hx : AD h (.fields [.int .i64, .int .i64, .int .i64, .int .i64]) x) : ∃ a : AcP, x = a.cells ∧ RoL a.G ∧ ∀ L, St h L → St h (a.G ++ L) := by
  simp only [AD, ADs] at hx
  obtain ⟨x1, y1, rfl, ⟨n1, rfl, _⟩, x2, y2, rfl, ⟨n2, rfl, _⟩, x3, y3, rfl, ⟨n3, rfl, _⟩, x4, y4, rfl, ⟨n4, rfl, _⟩, rfl⟩ := hx
  exact ⟨⟨n1, n2, n3, n4⟩, rfl, .nil, fun L st => st⟩
theorem amapNone_answers : ∀ avs h, (∀ id o, h.get id = some o → id < h.next) → AllRo h → ArgsA h [.fields [.int .i64, .int .i64, .int .i64, .int .i64]] avs → progI over tab (.f 23) avs h fun v _ => v = .bool true := by
  intro avs h hwf _ ha
  obtain ⟨x, rfl, h1⟩ := args1 ha
  obtain ⟨xs, rfl, hs⟩ := h1
  obtain ⟨a, rfl, _, _⟩ := acP_each (h := h) xs hs
  exact (anone_w (a := a)).law progI_mono (St.nil hwf) fun _ _ h => h

theorem amapNone_sound : FSound Try.prog (LamP Try.prog) 23 (progI over tab (.f 23)) := progI_sound overSound tabSound 23
theorem amapNone_params : shsOk Try.prog [.fields [.int .i64, .int .i64, .int .i64, .int .i64]] Try.f23.params.toList = true := by kernel_rfl
theorem amapNone_res : Try.f23.resultTypes = #[4] := by kernel_rfl

set_option maxRecDepth 100000 in
theorem amapNone_contract {H : Type} (enc : TypeId × Value → H) (W : World) (base : Nat) (args : Array Value) (ds gs : List (DataW H)) (before : List MemPlace)
    (hval : ∀ (j : Nat) t v, Try.f23.params[j]? = some t → args[j]? = some v → Value.okWide Try.prog W .any base t v)
    (hW : DataW.Whole enc Try.prog Try.f23.params.toList Rows.amapNoneSpec.vars false W args.toList ds gs before) :
    Calls Try.prog 23 args W fun e W' => ∃ v, e = .returned v ∧ Rows.amapNoneSpec.post enc Try.prog Try.f23 false true false false W args v W' :=
  law_contract (shs := [.fields [.int .i64, .int .i64, .int .i64, .int .i64]]) (tb := 4) laidOut amapNone_params amapNone_res und4 rfl
    (fun ds hd => match ds, hd with
      | [_], _ => rfl) amapNone_sound amapNone_answers base args ds gs before hval hW

set_option maxRecDepth 100000 in
theorem amapNone_lifted (os : Os) (started : os.Started) (H : Type) (enc : TypeId × Value → H) :
    ReturnsInHanded {} Try.checked os 23 .any (Rows.amapNoneSpec.pre6 enc Try.prog Try.f23 Rows.amapNoneRow.domain false) (Rows.amapNoneSpec.post enc Try.prog Try.f23 false true false false) := by
  refine returnsInHanded_of_change (C := Try.checked) ownKn started (by kernel_rfl) Try.func23
    (ChangeSpec.witness6 (enc := enc) (C := Try.checked) false ⟨#[], #[.agg #[.int .i64 0, .int .i64 0, .int .i64 0, .int .i64 0]], []⟩ 8 (by kernel_rfl) (by kernel_rfl) (by kernel_rfl) (by kernel_rfl)) ?_
  intro W base args ds gs before hval hW _ _
  exact amapNone_contract enc W base args ds gs before hval hW

theorem amapNone_joined : joinedFacts Try.prog 23 Try.f23 Rows.amapNoneSpec Rows.amapNoneRow = true := by
  unfold joinedFacts
  rw [enterOk]
  kernel_rfl

theorem amapNone_holds : Rows.AmapNoneSaid :=
  OpenClaim.holds_of_wide 23 Try.f23 rfl rfl rfl rfl rfl rfl rfl ⟨rfl, rfl, rfl, rfl, rfl⟩ rfl rfl rfl rfl rfl (by kernel_rfl) Try.func23 amapNone_joined
    (of_decide_eq_true (by kernel_rfl)) (by unfold Func.isWrapper; first | (rw [if_pos (by decide +kernel)]; kernel_rfl) | (rw [if_neg (by decide +kernel)]; exact ⟨rfl, rfl⟩))
    (fun os started H enc _ => amapNone_lifted os started H enc)

end Go.Proofs.Ytjdemlagmamlbaa
