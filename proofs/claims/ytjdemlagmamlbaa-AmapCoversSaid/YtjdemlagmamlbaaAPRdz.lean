/- AmapCovers holds, whatever the input is: its row's contract, by a walk over the code. -/
import Derived.Test.YtjdemlagmamlbaaZAPRd6
namespace Go.Proofs.Ytjdemlagmamlbaa
open Go.ChangeShapes Go.WideShapes Go.ChangeAt Go.RowKit

theorem acP_each' {h : AHeap} (x : List AV) (hx : AD h (.fields [.int .i64, .int .i64, .int .i64, .int .i64]) x) : ∃ a : AcP, x = a.cells ∧ RoL a.G ∧ ∀ L, St h L → St h (a.G ++ L) := by
  simp only [AD, ADs] at hx
  obtain ⟨x1, y1, rfl, ⟨n1, rfl, _⟩, x2, y2, rfl, ⟨n2, rfl, _⟩, x3, y3, rfl, ⟨n3, rfl, _⟩, x4, y4, rfl, ⟨n4, rfl, _⟩, rfl⟩ := hx
  exact ⟨⟨n1, n2, n3, n4⟩, rfl, .nil, fun L st => st⟩
theorem amapCovers_answers : ∀ avs h, (∀ id o, h.get id = some o → id < h.next) → AllRo h → ArgsA h [.int .u64, .slice (.fields [.int .i64, .int .i64, .int .i64, .int .i64])] avs → progI over tab (.f 20) avs h fun v _ => v = .bool true := by
  intro avs h hwf _ ha
  obtain ⟨x, y, rfl, h1, h2⟩ := args2 ha
  obtain ⟨n, rfl⟩ := argU h1
  obtain ⟨l, _, st⟩ := (St.nil hwf).argL h2 acP_each'
  exact covers_w.law progI_mono st fun _ _ h => h

theorem amapCovers_sound : FSound Try.prog (LamP Try.prog) 20 (progI over tab (.f 20)) := progI_sound overSound tabSound 20
theorem amapCovers_params : shsOk Try.prog [.int .u64, .slice (.fields [.int .i64, .int .i64, .int .i64, .int .i64])] Try.f20.params.toList = true := by kernel_rfl
theorem amapCovers_res : Try.f20.resultTypes = #[4] := by kernel_rfl

set_option maxRecDepth 100000 in
theorem amapCovers_contract {H : Type} (enc : TypeId × Value → H) (W : World) (base : Nat) (args : Array Value) (ds gs : List (DataW H)) (before : List MemPlace)
    (hval : ∀ (j : Nat) t v, Try.f20.params[j]? = some t → args[j]? = some v → Value.okWide Try.prog W .any base t v)
    (hW : DataW.Whole enc Try.prog Try.f20.params.toList Rows.amapCoversSpec.vars false W args.toList ds gs before) :
    Calls Try.prog 20 args W fun e W' => ∃ v, e = .returned v ∧ Rows.amapCoversSpec.post enc Try.prog Try.f20 false true false false W args v W' :=
  law_contract (shs := [.int .u64, .slice (.fields [.int .i64, .int .i64, .int .i64, .int .i64])]) (tb := 4) laidOut amapCovers_params amapCovers_res und4 rfl
    (fun ds hd => match ds, hd with
      | [_, _], _ => rfl) amapCovers_sound amapCovers_answers base args ds gs before hval hW

set_option maxRecDepth 100000 in
theorem amapCovers_lifted (os : Os) (started : os.Started) (H : Type) (enc : TypeId × Value → H) :
    ReturnsInHanded {} Try.checked os 20 .any (Rows.amapCoversSpec.pre6 enc Try.prog Try.f20 Rows.amapCoversRow.domain false) (Rows.amapCoversSpec.post enc Try.prog Try.f20 false true false false) := by
  refine returnsInHanded_of_change (C := Try.checked) ownKn started (by kernel_rfl) Try.func20
    (ChangeSpec.witness6 (enc := enc) (C := Try.checked) false ⟨#[], #[.int .u64 0, .slice none 0 0], []⟩ 8 (by kernel_rfl) (by kernel_rfl) (by kernel_rfl) (by kernel_rfl)) ?_
  intro W base args ds gs before hval hW _ _
  exact amapCovers_contract enc W base args ds gs before hval hW

theorem amapCovers_joined : joinedFacts Try.prog 20 Try.f20 Rows.amapCoversSpec Rows.amapCoversRow = true := by
  unfold joinedFacts
  rw [enterOk]
  kernel_rfl

theorem amapCovers_holds : Rows.AmapCoversSaid :=
  OpenClaim.holds_of_wide 20 Try.f20 rfl rfl rfl rfl rfl rfl rfl ⟨rfl, rfl, rfl, rfl, rfl⟩ rfl rfl rfl rfl rfl (by kernel_rfl) Try.func20 amapCovers_joined
    (of_decide_eq_true (by kernel_rfl)) (by unfold Func.isWrapper; first | (rw [if_pos (by decide +kernel)]; kernel_rfl) | (rw [if_neg (by decide +kernel)]; exact ⟨rfl, rfl⟩))
    (fun os started H enc _ => amapCovers_lifted os started H enc)

end Go.Proofs.Ytjdemlagmamlbaa
