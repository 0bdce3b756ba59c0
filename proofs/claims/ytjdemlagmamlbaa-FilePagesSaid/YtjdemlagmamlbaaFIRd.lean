/- FilePages holds, whatever the input is: its row's contract, by a walk over the code. -/
import Derived.Test.YtjdemlagmamlbaaSWL
import Derived.Test.YtjdemlagmamlbaaFIG
namespace Go.Proofs.Ytjdemlagmamlbaa
open Go.ChangeShapes Go.WideShapes Go.ChangeAt Go.RowKit

theorem u2_each {h : AHeap} (x : List AV) (hx : AD h (.fields [.int .u64, .int .u64]) x) : ∃ a : U2, x = U2.cells a ∧ RoL (U2.G a) ∧ ∀ L, St h L → St h (U2.G a ++ L) := by
  simp only [AD, ADs] at hx
  obtain ⟨x1, y1, rfl, ⟨n1, rfl, p1, _⟩, x2, y2, rfl, ⟨n2, rfl, p2, _⟩, rfl⟩ := hx
  have p1 : 0 ≤ n1 := p1
  have p2 : 0 ≤ n2 := p2
  refine ⟨(n1.toNat, n2.toNat), ?_, .nil, fun L st => st⟩
  simp only [U2.cells, Int.toNat_of_nonneg p1, Int.toNat_of_nonneg p2]
  rfl

theorem filePages_answers : ∀ avs h, (∀ id o, h.get id = some o → id < h.next) → AllRo h → ArgsA h [.slice (.fields [.int .u64, .int .u64])] avs → progI over tab (.f 11) avs h fun v _ => v = .bool true := by
  intro avs h hwf _ ha
  match avs, ha with
  | [a], ⟨h1, _⟩ =>
    obtain ⟨l, _, st⟩ := (St.nil hwf).argL h1 u2_each
    exact pages_w.law progI_mono st fun _ _ h => h

theorem filePages_sound : FSound Try.prog (LamP Try.prog) 11 (progI over tab (.f 11)) := progI_sound overSound tabSound 11
theorem filePages_params : shsOk Try.prog [.slice (.fields [.int .u64, .int .u64])] Try.f11.params.toList = true := by kernel_rfl
theorem filePages_res : Try.f11.resultTypes = #[4] := by kernel_rfl

set_option maxRecDepth 100000 in
theorem filePages_contract {H : Type} (enc : TypeId × Value → H) (W : World) (base : Nat) (args : Array Value) (ds gs : List (DataW H)) (before : List MemPlace)
    (hval : ∀ (j : Nat) t v, Try.f11.params[j]? = some t → args[j]? = some v → Value.okWide Try.prog W .any base t v)
    (hW : DataW.Whole enc Try.prog Try.f11.params.toList Rows.filePagesSpec.vars false W args.toList ds gs before) :
    Calls Try.prog 11 args W fun e W' => ∃ v, e = .returned v ∧ Rows.filePagesSpec.post enc Try.prog Try.f11 false true false false W args v W' :=
  law_contract (shs := [.slice (.fields [.int .u64, .int .u64])]) (tb := 4) laidOut filePages_params filePages_res und4 rfl
    (fun ds hd => match ds, hd with
      | [_], _ => rfl) filePages_sound filePages_answers base args ds gs before hval hW

set_option maxRecDepth 100000 in
theorem filePages_lifted (os : Os) (started : os.Started) (H : Type) (enc : TypeId × Value → H) :
    ReturnsInHanded {} Try.checked os 11 .any (Rows.filePagesSpec.pre6 enc Try.prog Try.f11 Rows.filePagesRow.domain false) (Rows.filePagesSpec.post enc Try.prog Try.f11 false true false false) := by
  refine returnsInHanded_of_change (C := Try.checked) ownKn started (by kernel_rfl) Try.func11
    (ChangeSpec.witness6 (enc := enc) (C := Try.checked) false ⟨#[], #[.slice none 0 0], []⟩ 8 (by kernel_rfl) (by kernel_rfl) (by kernel_rfl) (by kernel_rfl)) ?_
  intro W base args ds gs before hval hW _ _
  exact filePages_contract enc W base args ds gs before hval hW

theorem filePages_joined : joinedFacts Try.prog 11 Try.f11 Rows.filePagesSpec Rows.filePagesRow = true := by
  unfold joinedFacts
  rw [enterOk]
  kernel_rfl

theorem filePages_holds : Rows.FilePagesSaid :=
  OpenClaim.holds_of_wide 11 Try.f11 rfl rfl rfl rfl rfl rfl rfl ⟨rfl, rfl, rfl, rfl, rfl⟩ rfl rfl rfl rfl rfl (by kernel_rfl) Try.func11 filePages_joined
    (of_decide_eq_true (by kernel_rfl)) (by unfold Func.isWrapper; first | (rw [if_pos (by decide +kernel)]; kernel_rfl) | (rw [if_neg (by decide +kernel)]; exact ⟨rfl, rfl⟩))
    (fun os started H enc _ => filePages_lifted os started H enc)

end Go.Proofs.Ytjdemlagmamlbaa
