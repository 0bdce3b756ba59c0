/- AmapCopies holds, whatever the input is: its row's contract, by a walk over the code. -/
import Derived.Test.YtjdemlagmamlbaaZAPRa6
namespace Go.Proofs.Ytjdemlagmamlbaa
open Go.ChangeShapes Go.WideShapes Go.ChangeAt Go.RowKit

theorem u_each {h : AHeap} (x : List AV) (hx : AD h (.int .u64) x) : ∃ a : Nat, x = uCells a ∧ RoL (uG a) ∧ ∀ L, St h L → St h (uG a ++ L) := by
  simp only [AD] at hx
  obtain ⟨n, rfl, h0, _⟩ := hx
  have h0 : 0 ≤ n := h0
  exact ⟨n.toNat, by rw [uCells, Int.toNat_of_nonneg h0], .nil, fun L st => st⟩
theorem u2_of {h : AHeap} {x : AV} (ha : ArgA h (.fields [.int .u64, .int .u64]) x) : ∃ p q : Nat, x = .agg [.int .u64 (p : Nat), .int .u64 (q : Nat)] := by
  obtain ⟨xs, rfl, hs⟩ := ha
  simp only [AD, ADs] at hs
  obtain ⟨x1, y1, rfl, ⟨n1, rfl, h1, _⟩, x2, y2, rfl, ⟨n2, rfl, h2, _⟩, rfl⟩ := hs
  have h1 : 0 ≤ n1 := h1
  have h2 : 0 ≤ n2 := h2
  exact ⟨n1.toNat, n2.toNat, by rw [Int.toNat_of_nonneg h1, Int.toNat_of_nonneg h2]; rfl⟩
theorem amapCopies_answers : ∀ avs h, (∀ id o, h.get id = some o → id < h.next) → AllRo h → ArgsA h [.int .u64, .fields [.int .u64, .int .u64], .slice (.int .u64)] avs → progI over tab (.f 21) avs h fun v _ => v = .bool true := by
  intro avs h hwf _ ha
  obtain ⟨x, y, z, rfl, h1, h2, h3⟩ := args3 ha
  obtain ⟨s, rfl⟩ := argU h1
  obtain ⟨p, q, rfl⟩ := u2_of h2
  obtain ⟨l, _, st⟩ := (St.nil hwf).argL h3 u_each
  exact copies_w.law progI_mono st fun _ _ h => h

theorem amapCopies_sound : FSound Try.prog (LamP Try.prog) 21 (progI over tab (.f 21)) := progI_sound overSound tabSound 21
theorem amapCopies_params : shsOk Try.prog [.int .u64, .fields [.int .u64, .int .u64], .slice (.int .u64)] Try.f21.params.toList = true := by kernel_rfl
theorem amapCopies_res : Try.f21.resultTypes = #[4] := by kernel_rfl

set_option maxRecDepth 100000 in
theorem amapCopies_contract {H : Type} (enc : TypeId × Value → H) (W : World) (base : Nat) (args : Array Value) (ds gs : List (DataW H)) (before : List MemPlace)
    (hval : ∀ (j : Nat) t v, Try.f21.params[j]? = some t → args[j]? = some v → Value.okWide Try.prog W .any base t v)
    (hW : DataW.Whole enc Try.prog Try.f21.params.toList Rows.amapCopiesSpec.vars false W args.toList ds gs before) :
    Calls Try.prog 21 args W fun e W' => ∃ v, e = .returned v ∧ Rows.amapCopiesSpec.post enc Try.prog Try.f21 false true false false W args v W' :=
  law_contract (shs := [.int .u64, .fields [.int .u64, .int .u64], .slice (.int .u64)]) (tb := 4) laidOut amapCopies_params amapCopies_res und4 rfl
    (fun ds hd => match ds, hd with
      | [_, _, _], _ => rfl) amapCopies_sound amapCopies_answers base args ds gs before hval hW

set_option maxRecDepth 100000 in
theorem amapCopies_lifted (os : Os) (started : os.Started) (H : Type) (enc : TypeId × Value → H) :
    ReturnsInHanded {} Try.checked os 21 .any (Rows.amapCopiesSpec.pre6 enc Try.prog Try.f21 Rows.amapCopiesRow.domain false) (Rows.amapCopiesSpec.post enc Try.prog Try.f21 false true false false) := by
  refine returnsInHanded_of_change (C := Try.checked) ownKn started (by kernel_rfl) Try.func21
    (ChangeSpec.witness6 (enc := enc) (C := Try.checked) false ⟨#[], #[.int .u64 0, .agg #[.int .u64 0, .int .u64 0], .slice none 0 0], []⟩ 8 (by kernel_rfl) (by kernel_rfl) (by kernel_rfl) (by kernel_rfl)) ?_
  intro W base args ds gs before hval hW _ _
  exact amapCopies_contract enc W base args ds gs before hval hW

theorem amapCopies_joined : joinedFacts Try.prog 21 Try.f21 Rows.amapCopiesSpec Rows.amapCopiesRow = true := by
  unfold joinedFacts
  rw [enterOk]
  kernel_rfl

theorem amapCopies_holds : Rows.AmapCopiesSaid :=
  OpenClaim.holds_of_wide 21 Try.f21 rfl rfl rfl rfl rfl rfl rfl ⟨rfl, rfl, rfl, rfl, rfl⟩ rfl rfl rfl rfl rfl (by kernel_rfl) Try.func21 amapCopies_joined
    (of_decide_eq_true (by kernel_rfl)) (by unfold Func.isWrapper; first | (rw [if_pos (by decide +kernel)]; kernel_rfl) | (rw [if_neg (by decide +kernel)]; exact ⟨rfl, rfl⟩))
    (fun os started H enc _ => amapCopies_lifted os started H enc)

end Go.Proofs.Ytjdemlagmamlbaa
