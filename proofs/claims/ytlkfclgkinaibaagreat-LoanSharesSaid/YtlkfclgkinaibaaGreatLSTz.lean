/- LoanShares holds, whatever the input is: its row's contract, by a walk over the code around runs of it by the kernel. -/
import Derived.Test.YtlkfclgkinaibaaGreatRows
import Derived.Test.YtlkfclgkinaibaaGreatZLST9
namespace Go.Proofs.YtlkfclgkinaibaaGreat
open Go.ChangeShapes Go.WideShapes Go.ChangeAt Go.RowKit

theorem ownKn : ownKnob Tryz.prog.godebug = none := by kernel_rfl
theorem laidOut : laidOutB Tryz.prog = true := by kernel_rfl
theorem enterOk : Tryz.prog.mayEnter = true := by kernel_rfl
theorem und4 : Tryz.prog.underlying 4 = some .bool := by kernel_rfl

theorem sortedKeys : ∀ g, g ∈ [n_maps_Keys_map_int_kern_proc_int_kern_proc_1, n_maps_Keys_map_int_int_int_int_1] → ∃ ρ, Go.Proofs.SlLaysZI.n10 Tryz.prog ρ ∧ ρ.f 10 = g := by
  intro g hg
  simp only [List.mem_cons, List.not_mem_nil, or_false] at hg
  rcases hg with hg | hg
  · subst hg
    exact ⟨layK_ren, { layK with }, rfl⟩
  · subst hg
    exact ⟨layL_ren, { layL with }, rfl⟩
theorem sortedSound : FSound Tryz.prog (LamP Tryz.prog) n_slices_Sorted_int (srtF [n_maps_Keys_map_int_kern_proc_int_kern_proc_1, n_maps_Keys_map_int_int_int_int_1] 3) :=
  FSound.or (sorted_sound (ρ' := layS_ren) (ρ'' := layO_ren) layS layO rfl sortedKeys) (progI_sound (fun _ _ h => by cases h) tabSound n_slices_Sorted_int)
theorem overSound : OSound Tryz.prog over := fun f F hf => by
  simp only [over] at hf
  cases hb : Nat.beq f n_law19_lives with
  | true =>
    rw [hb] at hf
    simp only [cond_true, Option.some.injEq] at hf
    subst hf
    rw [Nat.eq_of_beq_eq_true hb]
    exact ⟨FSound.livesS tabSound livesT, Tryz.call15⟩
  | false =>
    cases hc : Nat.beq f n_slices_Sorted_int with
    | true =>
      rw [hb, hc] at hf
      simp only [cond_true, cond_false, Option.some.injEq] at hf
      subst hf
      rw [Nat.eq_of_beq_eq_true hc]
      exact ⟨sortedSound, Tryz.call51⟩
    | false => rw [hb, hc] at hf; cases hf

theorem args1 {h : AHeap} {s : Sh} {avs : List AV} (ha : ArgsA h [s] avs) : ∃ x, avs = [x] ∧ ArgA h s x := by
  cases avs with
  | nil => exact ha.elim
  | cons x vs =>
    obtain ⟨h1, hr⟩ := ha
    cases vs with
    | cons => exact hr.elim
    | nil => exact ⟨x, rfl, h1⟩

theorem args2 {h : AHeap} {s s' : Sh} {avs : List AV} (ha : ArgsA h [s, s'] avs) : ∃ x y, avs = [x, y] ∧ ArgA h s x ∧ ArgA h s' y := by
  cases avs with
  | nil => exact ha.elim
  | cons x vs =>
    obtain ⟨h1, hr⟩ := ha
    obtain ⟨y, rfl, h2⟩ := args1 hr
    exact ⟨x, y, rfl, h1, h2⟩
theorem argU {h : AHeap} {x : AV} (ha : ArgA h (.int .u64) x) : ∃ n : Nat, x = .int .u64 (n : Int) := by
  simp only [ArgA, AD, List.cons.injEq, and_true] at ha
  obtain ⟨n, rfl, hn, _⟩ := ha
  have hn : 0 ≤ n := hn
  exact ⟨n.toNat, by rw [Int.toNat_of_nonneg hn]⟩

theorem loanShares_answers : ∀ avs h, (∀ id o, h.get id = some o → id < h.next) → AllRo h → ArgsA h [.int .u64, .int .u64] avs → flatF (progI over tab (.f 5)) (.bool true) avs h fun v _ => v = .bool true := by
  intro avs h _ _ ha
  obtain ⟨x, y, rfl, h1, h2⟩ := args2 ha
  obtain ⟨n, rfl⟩ := argU h1
  obtain ⟨k, rfl⟩ := argU h2
  exact ⟨rfl, loanShares_all, rfl⟩

theorem loanShares_sound : FSound Tryz.prog (LamP Tryz.prog) 5 (flatF (progI over tab (.f 5)) (.bool true)) := (progI_sound overSound tabSound 5).flat true
theorem loanShares_params : shsOk Tryz.prog [.int .u64, .int .u64] Tryz.f5.params.toList = true := by kernel_rfl
theorem loanShares_res : Tryz.f5.resultTypes = #[4] := by kernel_rfl

set_option maxRecDepth 100000 in
theorem loanShares_contract {H : Type} (enc : TypeId × Value → H) (W : World) (base : Nat) (args : Array Value) (ds gs : List (DataW H)) (before : List MemPlace)
    (hval : ∀ (j : Nat) t v, Tryz.f5.params[j]? = some t → args[j]? = some v → Value.okWide Tryz.prog W .any base t v)
    (hW : DataW.Whole enc Tryz.prog Tryz.f5.params.toList Rows.loanSharesSpec.vars false W args.toList ds gs before) :
    Calls Tryz.prog 5 args W fun e W' => ∃ v, e = .returned v ∧ Rows.loanSharesSpec.post enc Tryz.prog Tryz.f5 false true false false W args v W' :=
  law_contract (shs := [.int .u64, .int .u64]) (tb := 4) laidOut loanShares_params loanShares_res und4 rfl
    (fun ds hd => match ds, hd with
      | [_, _], _ => rfl) loanShares_sound loanShares_answers base args ds gs before hval hW

set_option maxRecDepth 100000 in
theorem loanShares_lifted (os : Os) (started : os.Started) (H : Type) (enc : TypeId × Value → H) :
    ReturnsInHanded {} Tryz.checked os 5 .any (Rows.loanSharesSpec.pre6 enc Tryz.prog Tryz.f5 Rows.loanSharesRow.domain false) (Rows.loanSharesSpec.post enc Tryz.prog Tryz.f5 false true false false) := by
  refine returnsInHanded_of_change (C := Tryz.checked) ownKn started (by kernel_rfl) Tryz.func5
    (ChangeSpec.witness6 (enc := enc) (C := Tryz.checked) false ⟨#[], #[.int .u64 0, .int .u64 0], []⟩ 8 (by kernel_rfl) (by kernel_rfl) (by kernel_rfl) (by kernel_rfl)) ?_
  intro W base args ds gs before hval hW _ _
  exact loanShares_contract enc W base args ds gs before hval hW

theorem loanShares_in : (Rows.loanSharesRow.inPlace == Tryz.prog.inPlace 5) = true := by kernel_rfl
theorem loanShares_un : (Rows.loanSharesRow.unfollowed == Tryz.prog.unfollowed 5) = true := by kernel_rfl
theorem loanShares_rc : (Rows.loanSharesRow.recurses == Tryz.prog.recurses 5) = true := by kernel_rfl
theorem loanShares_nm : (Rows.loanSharesRow.named == Tryz.prog.varsNamed 5) = true := by kernel_rfl
theorem loanShares_joined : joinedFacts Tryz.prog 5 Tryz.f5 Rows.loanSharesSpec Rows.loanSharesRow = true := by
  unfold joinedFacts
  rw [enterOk, laidOut, loanShares_in, loanShares_un, loanShares_rc, loanShares_nm]
  kernel_rfl

theorem loanShares_holds : Rows.LoanSharesSaid :=
  OpenClaim.holds_of_wide 5 Tryz.f5 rfl rfl rfl rfl rfl rfl rfl ⟨rfl, rfl, rfl, rfl, rfl⟩ rfl rfl rfl rfl rfl (by kernel_rfl) Tryz.func5 loanShares_joined
    (of_decide_eq_true (by kernel_rfl)) (by unfold Func.isWrapper; first | (rw [if_pos (by decide +kernel)]; kernel_rfl) | (rw [if_neg (by decide +kernel)]; exact ⟨rfl, rfl⟩))
    (fun os started H enc _ => loanShares_lifted os started H enc)

end Go.Proofs.YtlkfclgkinaibaaGreat
