/- AmapActs holds, whatever the input is: its row's contract, by a walk over the code. -/
import Derived.Test.YtjdemlagmamlbaaZAPRe7
namespace Go.Proofs.Ytjdemlagmamlbaa
open Go.ChangeShapes Go.WideShapes Go.ChangeAt Go.RowKit

theorem acP_each2 {h : AHeap} (x : List AV) (hx : AD h (.fields [.int .i64, .int .i64, .int .i64, .int .i64]) x) : ∃ a : AcP, x = a.cells ∧ RoL a.G ∧ ∀ L, St h L → St h (a.G ++ L) := by
  simp only [AD, ADs] at hx
  obtain ⟨x1, y1, rfl, ⟨n1, rfl, _⟩, x2, y2, rfl, ⟨n2, rfl, _⟩, x3, y3, rfl, ⟨n3, rfl, _⟩, x4, y4, rfl, ⟨n4, rfl, _⟩, rfl⟩ := hx
  exact ⟨⟨n1, n2, n3, n4⟩, rfl, .nil, fun L st => st⟩
theorem amapActs_answers : ∀ avs h, (∀ id o, h.get id = some o → id < h.next) → AllRo h → ArgsA h [.int .i64, .slice (.fields [.int .i64, .int .i64, .int .i64, .int .i64]), .int .i64] avs → progI over tab (.f 22) avs h fun v _ => v = .bool true := by
  intro avs h hwf _ ha
  obtain ⟨x, y, z, rfl, h1, h2, h3⟩ := args3 ha
  simp only [ArgA, AD, List.cons.injEq, and_true] at h1 h3
  obtain ⟨m, rfl, _, _⟩ := h1
  obtain ⟨w, rfl, _, _⟩ := h3
  obtain ⟨l, _, st⟩ := (St.nil hwf).argL h2 acP_each2
  exact acts13_w.law progI_mono st fun _ _ h => h

theorem amapActs_sound : FSound Try.prog (LamP Try.prog) 22 (progI over tab (.f 22)) := progI_sound overSound tabSound 22
theorem amapActs_params : shsOk Try.prog [.int .i64, .slice (.fields [.int .i64, .int .i64, .int .i64, .int .i64]), .int .i64] Try.f22.params.toList = true := by kernel_rfl
theorem amapActs_res : Try.f22.resultTypes = #[4] := by kernel_rfl

set_option maxRecDepth 100000 in
theorem amapActs_contract {H : Type} (enc : TypeId × Value → H) (W : World) (base : Nat) (args : Array Value) (ds gs : List (DataW H)) (before : List MemPlace)
    (hval : ∀ (j : Nat) t v, Try.f22.params[j]? = some t → args[j]? = some v → Value.okWide Try.prog W .any base t v)
    (hW : DataW.Whole enc Try.prog Try.f22.params.toList Rows.amapActsSpec.vars false W args.toList ds gs before) :
    Calls Try.prog 22 args W fun e W' => ∃ v, e = .returned v ∧ Rows.amapActsSpec.post enc Try.prog Try.f22 false true false false W args v W' :=
  law_contract (shs := [.int .i64, .slice (.fields [.int .i64, .int .i64, .int .i64, .int .i64]), .int .i64]) (tb := 4) laidOut amapActs_params amapActs_res und4 rfl
    (fun ds hd => match ds, hd with
      | [_, _, _], _ => rfl) amapActs_sound amapActs_answers base args ds gs before hval hW

set_option maxRecDepth 100000 in
theorem amapActs_lifted (os : Os) (started : os.Started) (H : Type) (enc : TypeId × Value → H) :
    ReturnsInHanded {} Try.checked os 22 .any (Rows.amapActsSpec.pre6 enc Try.prog Try.f22 Rows.amapActsRow.domain false) (Rows.amapActsSpec.post enc Try.prog Try.f22 false true false false) := by
  refine returnsInHanded_of_change (C := Try.checked) ownKn started (by kernel_rfl) Try.func22
    (ChangeSpec.witness6 (enc := enc) (C := Try.checked) false ⟨#[], #[.int .i64 0, .slice none 0 0, .int .i64 0], []⟩ 8 (by kernel_rfl) (by kernel_rfl) (by kernel_rfl) (by kernel_rfl)) ?_
  intro W base args ds gs before hval hW _ _
  exact amapActs_contract enc W base args ds gs before hval hW

theorem amapActs_in : (Rows.amapActsRow.inPlace == Try.prog.inPlace 22) = true := by kernel_rfl
theorem amapActs_un : (Rows.amapActsRow.unfollowed == Try.prog.unfollowed 22) = true := by kernel_rfl
theorem amapActs_rc : (Rows.amapActsRow.recurses == Try.prog.recurses 22) = true := by kernel_rfl
theorem amapActs_nm : (Rows.amapActsRow.named == Try.prog.varsNamed 22) = true := by kernel_rfl
theorem amapActs_joined : joinedFacts Try.prog 22 Try.f22 Rows.amapActsSpec Rows.amapActsRow = true := by
  unfold joinedFacts
  rw [enterOk, laidOut, amapActs_in, amapActs_un, amapActs_rc, amapActs_nm]
  kernel_rfl

theorem amapActs_holds : Rows.AmapActsSaid :=
  OpenClaim.holds_of_wide 22 Try.f22 rfl rfl rfl rfl rfl rfl rfl ⟨rfl, rfl, rfl, rfl, rfl⟩ rfl rfl rfl rfl rfl (by kernel_rfl) Try.func22 amapActs_joined
    (of_decide_eq_true (by kernel_rfl)) (by unfold Func.isWrapper; first | (rw [if_pos (by decide +kernel)]; kernel_rfl) | (rw [if_neg (by decide +kernel)]; exact ⟨rfl, rfl⟩))
    (fun os started H enc _ => amapActs_lifted os started H enc)

end Go.Proofs.Ytjdemlagmamlbaa
