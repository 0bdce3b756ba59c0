/- KernNone holds, whatever the input is: its row's contract, by a walk over the code. -/
import Derived.Test.YtaheagdomahhgaaGreatRows
import Derived.Test.YtaheagdomahhgaaGreatZKKR6
namespace Go.Proofs.YtaheagdomahhgaaGreat
open Go.ChangeShapes Go.WideShapes Go.ChangeAt Go.RowKit

theorem ownKn : ownKnob Tryz.prog.godebug = none := by kernel_rfl
theorem laidOut : laidOutB Tryz.prog = true := by kernel_rfl
theorem enterOk : Tryz.prog.mayEnter = true := by kernel_rfl
theorem und4 : Tryz.prog.underlying 4 = some .bool := by kernel_rfl

theorem overSound : OSound Tryz.prog over := fun f F hf => by
  simp only [over] at hf
  cases hb : Nat.beq f n_law18_lives with
  | true =>
    rw [hb] at hf
    simp only [cond_true, Option.some.injEq] at hf
    subst hf
    rw [Nat.eq_of_beq_eq_true hb]
    exact ⟨FSound.livesF tabSound kAll_ok lives18T, Tryz.call34⟩
  | false => rw [hb] at hf; cases hf

theorem args1 {h : AHeap} {s : Sh} {avs : List AV} (ha : ArgsA h [s] avs) : ∃ x, avs = [x] ∧ ArgA h s x := by
  cases avs with
  | nil => exact ha.elim
  | cons x vs =>
    obtain ⟨h1, hr⟩ := ha
    cases vs with
    | cons => exact hr.elim
    | nil => exact ⟨x, rfl, h1⟩

theorem args2 {h : AHeap} {s s' : Sh} {avs : List AV} (ha : ArgsA h [s, s'] avs) : ∃ x y, avs = [x, y] ∧ ArgA h s x ∧ ArgA h s' y := by
  cases avs with
  | nil => exact ha.elim
  | cons x vs =>
    obtain ⟨h1, hr⟩ := ha
    obtain ⟨y, rfl, h2⟩ := args1 hr
    exact ⟨x, y, rfl, h1, h2⟩
theorem argI {h : AHeap} {x : AV} (ha : ArgA h (.int .i64) x) : ∃ n : Int, x = .int .i64 n := by
  simp only [ArgA, AD, List.cons.injEq, and_true] at ha
  obtain ⟨n, rfl, _⟩ := ha
  exact ⟨n, rfl⟩

def opSh : Sh := .fields [.int .i64, .int .i64, .int .i64, .int .i64, .int .i64, .bool, .int .i64, .int .i64, .bool, .int .i64, .int .i64, .int .i64, .int .i64, .int .i64]
theorem op_of {h : AHeap} {x : AV} (ha : ArgA h opSh x) : ∃ (c0 c1 c2 c3 c4 c6 c7 c9 c10 c11 c12 c13 : Int) (b5 b8 : Bool), x = .agg [.int .i64 c0, .int .i64 c1, .int .i64 c2, .int .i64 c3, .int .i64 c4, .bool b5, .int .i64 c6, .int .i64 c7, .bool b8, .int .i64 c9, .int .i64 c10, .int .i64 c11, .int .i64 c12, .int .i64 c13] := by
  obtain ⟨xs, rfl, hs⟩ := ha
  simp only [AD, ADs] at hs
  obtain ⟨x0, y0, rfl, ⟨c0, rfl, _⟩, x1, y1, rfl, ⟨c1, rfl, _⟩, x2, y2, rfl, ⟨c2, rfl, _⟩, x3, y3, rfl, ⟨c3, rfl, _⟩, x4, y4, rfl, ⟨c4, rfl, _⟩, x5, y5, rfl, ⟨b5, rfl⟩, x6, y6, rfl, ⟨c6, rfl, _⟩, x7, y7, rfl, ⟨c7, rfl, _⟩, x8, y8, rfl, ⟨b8, rfl⟩, x9, y9, rfl, ⟨c9, rfl, _⟩, x10, y10, rfl, ⟨c10, rfl, _⟩, x11, y11, rfl, ⟨c11, rfl, _⟩, x12, y12, rfl, ⟨c12, rfl, _⟩, x13, y13, rfl, ⟨c13, rfl, _⟩, rfl⟩ := hs
  exact ⟨c0, c1, c2, c3, c4, c6, c7, c9, c10, c11, c12, c13, b5, b8, rfl⟩

theorem kernNone_answers : ∀ avs h, (∀ id o, h.get id = some o → id < h.next) → AllRo h → ArgsA h [opSh, .int .i64] avs → progI over tab (.f 5) avs h fun v _ => v = .bool true := by
  intro avs h hwf _ ha
  obtain ⟨x, y, rfl, h1, h2⟩ := args2 ha
  obtain ⟨c0, c1, c2, c3, c4, c6, c7, c9, c10, c11, c12, c13, b5, b8, rfl⟩ := op_of h1
  obtain ⟨n, rfl⟩ := argI h2
  exact knone_w.law progI_mono (St.nil hwf) fun _ _ h => h

theorem kernNone_sound : FSound Tryz.prog (LamP Tryz.prog) 5 (progI over tab (.f 5)) := progI_sound overSound tabSound 5
theorem kernNone_params : shsOk Tryz.prog [opSh, .int .i64] Tryz.f5.params.toList = true := by kernel_rfl
theorem kernNone_res : Tryz.f5.resultTypes = #[4] := by kernel_rfl

set_option maxRecDepth 100000 in
theorem kernNone_contract {H : Type} (enc : TypeId × Value → H) (W : World) (base : Nat) (args : Array Value) (ds gs : List (DataW H)) (before : List MemPlace)
    (hval : ∀ (j : Nat) t v, Tryz.f5.params[j]? = some t → args[j]? = some v → Value.okWide Tryz.prog W .any base t v)
    (hW : DataW.Whole enc Tryz.prog Tryz.f5.params.toList Rows.kernNoneSpec.vars false W args.toList ds gs before) :
    Calls Tryz.prog 5 args W fun e W' => ∃ v, e = .returned v ∧ Rows.kernNoneSpec.post enc Tryz.prog Tryz.f5 false true false false W args v W' :=
  law_contract (shs := [opSh, .int .i64]) (tb := 4) laidOut kernNone_params kernNone_res und4 rfl
    (fun ds hd => match ds, hd with
      | [_, _], _ => rfl) kernNone_sound kernNone_answers base args ds gs before hval hW

set_option maxRecDepth 100000 in
theorem kernNone_lifted (os : Os) (started : os.Started) (H : Type) (enc : TypeId × Value → H) :
    ReturnsInHanded {} Tryz.checked os 5 .any (Rows.kernNoneSpec.pre6 enc Tryz.prog Tryz.f5 Rows.kernNoneRow.domain false) (Rows.kernNoneSpec.post enc Tryz.prog Tryz.f5 false true false false) := by
  refine returnsInHanded_of_change (C := Tryz.checked) ownKn started (by kernel_rfl) Tryz.func5
    (ChangeSpec.witness6 (enc := enc) (C := Tryz.checked) false ⟨#[], #[.agg #[.int .i64 0, .int .i64 0, .int .i64 0, .int .i64 0, .int .i64 0, .bool false, .int .i64 0, .int .i64 0, .bool false, .int .i64 0, .int .i64 0, .int .i64 0, .int .i64 0, .int .i64 0], .int .i64 0], []⟩ 8 (by kernel_rfl) (by kernel_rfl) (by kernel_rfl) (by kernel_rfl)) ?_
  intro W base args ds gs before hval hW _ _
  exact kernNone_contract enc W base args ds gs before hval hW

theorem kernNone_in : (Rows.kernNoneRow.inPlace == Tryz.prog.inPlace 5) = true := by kernel_rfl
theorem kernNone_un : (Rows.kernNoneRow.unfollowed == Tryz.prog.unfollowed 5) = true := by kernel_rfl
theorem kernNone_rc : (Rows.kernNoneRow.recurses == Tryz.prog.recurses 5) = true := by kernel_rfl
theorem kernNone_nm : (Rows.kernNoneRow.named == Tryz.prog.varsNamed 5) = true := by kernel_rfl
theorem kernNone_joined : joinedFacts Tryz.prog 5 Tryz.f5 Rows.kernNoneSpec Rows.kernNoneRow = true := by
  unfold joinedFacts
  rw [enterOk, laidOut, kernNone_in, kernNone_un, kernNone_rc, kernNone_nm]
  kernel_rfl

theorem kernNone_holds : Rows.KernNoneSaid :=
  OpenClaim.holds_of_wide 5 Tryz.f5 rfl rfl rfl rfl rfl rfl rfl ⟨rfl, rfl, rfl, rfl, rfl⟩ rfl rfl rfl rfl rfl (by kernel_rfl) Tryz.func5 kernNone_joined
    (of_decide_eq_true (by kernel_rfl)) (by unfold Func.isWrapper; first | (rw [if_pos (by decide +kernel)]; kernel_rfl) | (rw [if_neg (by decide +kernel)]; exact ⟨rfl, rfl⟩))
    (fun os started H enc _ => kernNone_lifted os started H enc)

end Go.Proofs.YtaheagdomahhgaaGreat
