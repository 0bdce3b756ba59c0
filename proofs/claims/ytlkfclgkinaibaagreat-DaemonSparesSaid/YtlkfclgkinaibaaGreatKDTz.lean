/- DaemonSpares holds, whatever the input is: its row's contract, by a walk over the code around runs of it by the kernel. -/
import Derived.Test.YtlkfclgkinaibaaGreatRows
import Derived.Test.YtlkfclgkinaibaaGreatZKDT9
namespace Go.Proofs.YtlkfclgkinaibaaGreat
open Go.ChangeShapes Go.WideShapes Go.ChangeAt Go.RowKit

theorem ownKn : ownKnob Tryz.prog.godebug = none := by kernel_rfl
theorem laidOut : laidOutB Tryz.prog = true := by kernel_rfl
theorem enterOk : Tryz.prog.mayEnter = true := by kernel_rfl
theorem und4 : Tryz.prog.underlying 4 = some .bool := by kernel_rfl

theorem overSound : OSound Tryz.prog over := fun f F hf => by
  simp only [over] at hf
  cases hb : Nat.beq f n_law20_lives with
  | true =>
    rw [hb] at hf
    simp only [cond_true, Option.some.injEq] at hf
    subst hf
    rw [Nat.eq_of_beq_eq_true hb]
    exact ⟨FSound.livesS tabSound lives20T, Tryz.call22⟩
  | false => rw [hb] at hf; cases hf

theorem args1 {h : AHeap} {s : Sh} {avs : List AV} (ha : ArgsA h [s] avs) : ∃ x, avs = [x] ∧ ArgA h s x := by
  cases avs with
  | nil => exact ha.elim
  | cons x vs =>
    obtain ⟨h1, hr⟩ := ha
    cases vs with
    | cons => exact hr.elim
    | nil => exact ⟨x, rfl, h1⟩

theorem args2 {h : AHeap} {s s' : Sh} {avs : List AV} (ha : ArgsA h [s, s'] avs) : ∃ x y, avs = [x, y] ∧ ArgA h s x ∧ ArgA h s' y := by
  cases avs with
  | nil => exact ha.elim
  | cons x vs =>
    obtain ⟨h1, hr⟩ := ha
    obtain ⟨y, rfl, h2⟩ := args1 hr
    exact ⟨x, y, rfl, h1, h2⟩
theorem argU {h : AHeap} {x : AV} (ha : ArgA h (.int .u64) x) : ∃ n : Nat, x = .int .u64 (n : Int) := by
  simp only [ArgA, AD, List.cons.injEq, and_true] at ha
  obtain ⟨n, rfl, hn, _⟩ := ha
  have hn : 0 ≤ n := hn
  exact ⟨n.toNat, by rw [Int.toNat_of_nonneg hn]⟩

theorem daemonSpares_answers : ∀ avs h, (∀ id o, h.get id = some o → id < h.next) → AllRo h → ArgsA h [.int .u64, .int .u64] avs → flatF (progI over tab (.f 6)) (.bool true) avs h fun v _ => v = .bool true := by
  intro avs h _ _ ha
  obtain ⟨x, y, rfl, h1, h2⟩ := args2 ha
  obtain ⟨n, rfl⟩ := argU h1
  obtain ⟨k, rfl⟩ := argU h2
  exact ⟨rfl, daemonSpares_all, rfl⟩

theorem daemonSpares_sound : FSound Tryz.prog (LamP Tryz.prog) 6 (flatF (progI over tab (.f 6)) (.bool true)) := (progI_sound overSound tabSound 6).flat true
theorem daemonSpares_params : shsOk Tryz.prog [.int .u64, .int .u64] Tryz.f6.params.toList = true := by kernel_rfl
theorem daemonSpares_res : Tryz.f6.resultTypes = #[4] := by kernel_rfl

set_option maxRecDepth 100000 in
theorem daemonSpares_contract {H : Type} (enc : TypeId × Value → H) (W : World) (base : Nat) (args : Array Value) (ds gs : List (DataW H)) (before : List MemPlace)
    (hval : ∀ (j : Nat) t v, Tryz.f6.params[j]? = some t → args[j]? = some v → Value.okWide Tryz.prog W .any base t v)
    (hW : DataW.Whole enc Tryz.prog Tryz.f6.params.toList Rows.daemonSparesSpec.vars false W args.toList ds gs before) :
    Calls Tryz.prog 6 args W fun e W' => ∃ v, e = .returned v ∧ Rows.daemonSparesSpec.post enc Tryz.prog Tryz.f6 false true false false W args v W' :=
  law_contract (shs := [.int .u64, .int .u64]) (tb := 4) laidOut daemonSpares_params daemonSpares_res und4 rfl
    (fun ds hd => match ds, hd with
      | [_, _], _ => rfl) daemonSpares_sound daemonSpares_answers base args ds gs before hval hW

set_option maxRecDepth 100000 in
theorem daemonSpares_lifted (os : Os) (started : os.Started) (H : Type) (enc : TypeId × Value → H) :
    ReturnsInHanded {} Tryz.checked os 6 .any (Rows.daemonSparesSpec.pre6 enc Tryz.prog Tryz.f6 Rows.daemonSparesRow.domain false) (Rows.daemonSparesSpec.post enc Tryz.prog Tryz.f6 false true false false) := by
  refine returnsInHanded_of_change (C := Tryz.checked) ownKn started (by kernel_rfl) Tryz.func6
    (ChangeSpec.witness6 (enc := enc) (C := Tryz.checked) false ⟨#[], #[.int .u64 0, .int .u64 0], []⟩ 8 (by kernel_rfl) (by kernel_rfl) (by kernel_rfl) (by kernel_rfl)) ?_
  intro W base args ds gs before hval hW _ _
  exact daemonSpares_contract enc W base args ds gs before hval hW

theorem daemonSpares_in : (Rows.daemonSparesRow.inPlace == Tryz.prog.inPlace 6) = true := by kernel_rfl
theorem daemonSpares_un : (Rows.daemonSparesRow.unfollowed == Tryz.prog.unfollowed 6) = true := by kernel_rfl
theorem daemonSpares_rc : (Rows.daemonSparesRow.recurses == Tryz.prog.recurses 6) = true := by kernel_rfl
theorem daemonSpares_nm : (Rows.daemonSparesRow.named == Tryz.prog.varsNamed 6) = true := by kernel_rfl
theorem daemonSpares_joined : joinedFacts Tryz.prog 6 Tryz.f6 Rows.daemonSparesSpec Rows.daemonSparesRow = true := by
  unfold joinedFacts
  rw [enterOk, laidOut, daemonSpares_in, daemonSpares_un, daemonSpares_rc, daemonSpares_nm]
  kernel_rfl

theorem daemonSpares_holds : Rows.DaemonSparesSaid :=
  OpenClaim.holds_of_wide 6 Tryz.f6 rfl rfl rfl rfl rfl rfl rfl ⟨rfl, rfl, rfl, rfl, rfl⟩ rfl rfl rfl rfl rfl (by kernel_rfl) Tryz.func6 daemonSpares_joined
    (of_decide_eq_true (by kernel_rfl)) (by unfold Func.isWrapper; first | (rw [if_pos (by decide +kernel)]; kernel_rfl) | (rw [if_neg (by decide +kernel)]; exact ⟨rfl, rfl⟩))
    (fun os started H enc _ => daemonSpares_lifted os started H enc)

end Go.Proofs.YtlkfclgkinaibaaGreat
