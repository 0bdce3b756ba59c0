/- DaemonNone holds, whatever the input is: its row's contract, by a walk over the code. -/
import Derived.Test.YtljemfeohhgncaaGreatRows
import Derived.Test.YtljemfeohhgncaaGreatZKDR6
namespace Go.Proofs.YtljemfeohhgncaaGreat
open Go.ChangeShapes Go.WideShapes Go.ChangeAt Go.RowKit

theorem ownKn : ownKnob Tryz.prog.godebug = none := by kernel_rfl
theorem laidOut : laidOutB Tryz.prog = true := by kernel_rfl
theorem enterOk : Tryz.prog.mayEnter = true := by kernel_rfl
theorem und4 : Tryz.prog.underlying 4 = some .bool := by kernel_rfl

theorem overSound : OSound Tryz.prog over := fun f F hf => by
  simp only [over] at hf
  cases hb : Nat.beq f n_law20_lives with
  | true =>
    rw [hb] at hf
    simp only [cond_true, Option.some.injEq] at hf
    subst hf
    rw [Nat.eq_of_beq_eq_true hb]
    exact ⟨FSound.livesF tabSound kAll_ok lives20T, Tryz.call18⟩
  | false => rw [hb] at hf; cases hf

theorem args1 {h : AHeap} {s : Sh} {avs : List AV} (ha : ArgsA h [s] avs) : ∃ x, avs = [x] ∧ ArgA h s x := by
  cases avs with
  | nil => exact ha.elim
  | cons x vs =>
    obtain ⟨h1, hr⟩ := ha
    cases vs with
    | cons => exact hr.elim
    | nil => exact ⟨x, rfl, h1⟩

theorem args2 {h : AHeap} {s s' : Sh} {avs : List AV} (ha : ArgsA h [s, s'] avs) : ∃ x y, avs = [x, y] ∧ ArgA h s x ∧ ArgA h s' y := by
  cases avs with
  | nil => exact ha.elim
  | cons x vs =>
    obtain ⟨h1, hr⟩ := ha
    obtain ⟨y, rfl, h2⟩ := args1 hr
    exact ⟨x, y, rfl, h1, h2⟩
theorem argI {h : AHeap} {x : AV} (ha : ArgA h (.int .i64) x) : ∃ n : Int, x = .int .i64 n := by
  simp only [ArgA, AD, List.cons.injEq, and_true] at ha
  obtain ⟨n, rfl, _⟩ := ha
  exact ⟨n, rfl⟩

theorem daemonNone_answers : ∀ avs h, (∀ id o, h.get id = some o → id < h.next) → AllRo h → ArgsA h [.int .i64] avs → progI over tab (.f 4) avs h fun v _ => v = .bool true := by
  intro avs h hwf _ ha
  obtain ⟨x, rfl, h1⟩ := args1 ha
  obtain ⟨n, rfl⟩ := argI h1
  exact daemonNone_w

theorem daemonNone_sound : FSound Tryz.prog (LamP Tryz.prog) 4 (progI over tab (.f 4)) := progI_sound overSound tabSound 4
theorem daemonNone_params : shsOk Tryz.prog [.int .i64] Tryz.f4.params.toList = true := by kernel_rfl
theorem daemonNone_res : Tryz.f4.resultTypes = #[4] := by kernel_rfl

set_option maxRecDepth 100000 in
theorem daemonNone_contract {H : Type} (enc : TypeId × Value → H) (W : World) (base : Nat) (args : Array Value) (ds gs : List (DataW H)) (before : List MemPlace)
    (hval : ∀ (j : Nat) t v, Tryz.f4.params[j]? = some t → args[j]? = some v → Value.okWide Tryz.prog W .any base t v)
    (hW : DataW.Whole enc Tryz.prog Tryz.f4.params.toList Rows.daemonNoneSpec.vars false W args.toList ds gs before) :
    Calls Tryz.prog 4 args W fun e W' => ∃ v, e = .returned v ∧ Rows.daemonNoneSpec.post enc Tryz.prog Tryz.f4 false true false false W args v W' :=
  law_contract (shs := [.int .i64]) (tb := 4) laidOut daemonNone_params daemonNone_res und4 rfl
    (fun ds hd => match ds, hd with
      | [_], _ => rfl) daemonNone_sound daemonNone_answers base args ds gs before hval hW

set_option maxRecDepth 100000 in
theorem daemonNone_lifted (os : Os) (started : os.Started) (H : Type) (enc : TypeId × Value → H) :
    ReturnsInHanded {} Tryz.checked os 4 .any (Rows.daemonNoneSpec.pre6 enc Tryz.prog Tryz.f4 Rows.daemonNoneRow.domain false) (Rows.daemonNoneSpec.post enc Tryz.prog Tryz.f4 false true false false) := by
  refine returnsInHanded_of_change (C := Tryz.checked) ownKn started (by kernel_rfl) Tryz.func4
    (ChangeSpec.witness6 (enc := enc) (C := Tryz.checked) false ⟨#[], #[.int .i64 0], []⟩ 8 (by kernel_rfl) (by kernel_rfl) (by kernel_rfl) (by kernel_rfl)) ?_
  intro W base args ds gs before hval hW _ _
  exact daemonNone_contract enc W base args ds gs before hval hW

theorem daemonNone_in : (Rows.daemonNoneRow.inPlace == Tryz.prog.inPlace 4) = true := by kernel_rfl
theorem daemonNone_un : (Rows.daemonNoneRow.unfollowed == Tryz.prog.unfollowed 4) = true := by kernel_rfl
theorem daemonNone_rc : (Rows.daemonNoneRow.recurses == Tryz.prog.recurses 4) = true := by kernel_rfl
theorem daemonNone_nm : (Rows.daemonNoneRow.named == Tryz.prog.varsNamed 4) = true := by kernel_rfl
theorem daemonNone_joined : joinedFacts Tryz.prog 4 Tryz.f4 Rows.daemonNoneSpec Rows.daemonNoneRow = true := by
  unfold joinedFacts
  rw [enterOk, laidOut, daemonNone_in, daemonNone_un, daemonNone_rc, daemonNone_nm]
  kernel_rfl

theorem daemonNone_holds : Rows.DaemonNoneSaid :=
  OpenClaim.holds_of_wide 4 Tryz.f4 rfl rfl rfl rfl rfl rfl rfl ⟨rfl, rfl, rfl, rfl, rfl⟩ rfl rfl rfl rfl rfl (by kernel_rfl) Tryz.func4 daemonNone_joined
    (of_decide_eq_true (by kernel_rfl)) (by unfold Func.isWrapper; first | (rw [if_pos (by decide +kernel)]; kernel_rfl) | (rw [if_neg (by decide +kernel)]; exact ⟨rfl, rfl⟩))
    (fun os started H enc _ => daemonNone_lifted os started H enc)

end Go.Proofs.YtljemfeohhgncaaGreat
