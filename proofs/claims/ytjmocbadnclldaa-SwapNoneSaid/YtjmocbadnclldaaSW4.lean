/- SwapNone: the row. -/
import Derived.Test.YtjmocbadnclldaaRows
import Derived.Test.YtjmocbadnclldaaSW3
namespace Go.Proofs.Ytjmocbadnclldaa
open Go.ChangeShapes Go.WideShapes Go.ChangeAt Go.RowKit

theorem own : ownKnob Try.prog.godebug = none := by kernel_rfl
theorem laidOut : laidOutB Try.prog = true := by kernel_rfl

def actSh : Sh := .fields [.int .i64, .int .i64, .bytes, .bool]

theorem act_of {h : AHeap} {v : AV} (ha : ArgA h actSh v) : ∃ a : ActV, v = .agg a.cells ∧ BytesAt h a.l a.k a.c := by
  obtain ⟨l0, rfl, hs⟩ := ha
  simp only [ADs, AD] at hs
  obtain ⟨x1, y1, rfl, ⟨n1, rfl, _⟩, x2, y2, rfl, ⟨n2, rfl, _⟩, x3, y3, rfl, h3, x4, y4, rfl, ⟨b, rfl⟩, rfl⟩ := hs
  obtain ⟨l, rfl⟩ : ∃ l, x3 = [l] := by
    rcases h3 with rfl | rfl | ⟨_, _, _, _, _, rfl, _⟩ <;> exact ⟨_, rfl⟩
  obtain ⟨k, c, hb⟩ := bytesAt_of_arg (h := h) (v := l) (by simp only [AD]; exact h3)
  exact ⟨⟨n1, n2, l, k, c, b⟩, rfl, hb⟩

theorem none_sound : FSound Try.prog 7 (R 4 7) := (progO_sound overSound tabSound 4).2 7

theorem none_answers : ∀ avs h, (∀ id o, h.get id = some o → id < h.next) → AllRo h → ArgsA h [actSh] avs → ∃ h', R 4 7 avs h = some (.bool true, h') := by
  intro avs h hwf _ ha
  cases avs with
  | nil => exact ha.elim
  | cons v vs =>
    obtain ⟨ha, hr⟩ := ha
    cases vs with
    | cons => exact hr.elim
    | nil =>
      obtain ⟨a, hv, hb⟩ := act_of ha
      obtain ⟨x, h', h1, hx⟩ := none_is hb hwf 0
      rw [hx] at h1
      rw [hv]
      exact ⟨h', h1⟩

theorem none_params : shsOk Try.prog [actSh] Try.f7.params.toList = true := by kernel_rfl
theorem none_res : Try.f7.resultTypes = #[4] := by kernel_rfl
theorem und4 : Try.prog.underlying 4 = some .bool := by kernel_rfl

theorem none_contract {H : Type} (enc : TypeId × Value → H) (W : World) (base : Nat) (args : Array Value) (ds gs : List (DataW H)) (before : List MemPlace)
    (hval : ∀ (j : Nat) t v, Try.f7.params[j]? = some t → args[j]? = some v → Value.okWide Try.prog W .any base t v)
    (hW : DataW.Whole enc Try.prog Try.f7.params.toList Rows.swapNoneSpec.vars false W args.toList ds gs before) :
    Calls Try.prog 7 args W fun e W' => ∃ v, e = .returned v ∧ Rows.swapNoneSpec.post enc Try.prog Try.f7 false true false false W args v W' :=
  law_contract (shs := [actSh]) (tb := 4) laidOut none_params none_res und4 rfl
    (fun ds hd => match ds, hd with
      | [_], _ => rfl) none_sound none_answers base args ds gs before hval hW

set_option maxRecDepth 100000 in
theorem none_lifted (os : Os) (started : os.Started) (H : Type) (enc : TypeId × Value → H) :
    ReturnsInHanded {} Try.checked os 7 .any (Rows.swapNoneSpec.pre6 enc Try.prog Try.f7 Rows.swapNoneRow.domain false) (Rows.swapNoneSpec.post enc Try.prog Try.f7 false true false false) := by
  refine returnsInHanded_of_change (C := Try.checked) own started (by kernel_rfl) Try.func7
    (ChangeSpec.witness6 (enc := enc) (C := Try.checked) false ⟨#[], #[.agg #[.int .i64 0, .int .i64 0, .slice none 0 0, .bool false]], []⟩ 8 (by kernel_rfl) (by kernel_rfl) (by kernel_rfl) (by kernel_rfl)) ?_
  intro W base args ds gs before hval hW _ _
  exact none_contract enc W base args ds gs before hval hW

theorem none_holds : Rows.SwapNoneSaid :=
  OpenClaim.holds_of_wide 7 Try.f7 rfl rfl rfl rfl rfl rfl rfl ⟨rfl, rfl, rfl, rfl, rfl⟩ rfl rfl rfl rfl rfl (by kernel_rfl) Try.func7 (by kernel_rfl)
    (of_decide_eq_true (by kernel_rfl)) (by unfold Func.isWrapper; first | (rw [if_pos (by decide +kernel)]; kernel_rfl) | (rw [if_neg (by decide +kernel)]; exact ⟨rfl, rfl⟩))
    (fun os started H enc _ => none_lifted os started H enc)

end Go.Proofs.Ytjmocbadnclldaa
