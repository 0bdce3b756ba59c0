/-
  No cell of these rows narrows 'for every input' (looked for: loops, veiled, ifaces, maps, wideKeys, modest, calm, conditions, laid).
  DERIVED. THE GIVEN ROWS OF THIS SEAT. 4 by the template 'for every input the law returns true; each argument reads behind the call as it read before'; 0 by the template 'total and deterministic' (their statements: YtlkfclgkinaibaaGreatTotals.lean).
  GIVEN WITH THE SEED: the statements are not yours to turn. If you find one false, say at which input.
  Laid BY PROGRAM, IN A SANDBOX (cutbox-rows.mjs): the forced cells as the released guide's own fill.sh prints them over the translation 019ee105443a9487… (all of the seat's roots in one cut). By AI agents, Wed Nov 11 2026. No macro, syntax, notation, axiom, sorry.
-/
import Derived.Test.YtlkfclgkinaibaaGreatChecked
import GoSem.Claim
import GoSem.ClaimJoined
import GoSem.ClaimMapViews
import Derived.JoinedTies
import Derived.KernelRfl
namespace Go.Proofs.YtlkfclgkinaibaaGreat
/- THE CELL 'sum', in the pinned program and in every row, IS THE sha256 OF THE DUMP (.gsa) THAT YtlkfclgkinaibaaGreatProg.lean LOADS. Nothing in Lean hashes anything: it is a label: what it is worth is what the hold of that sum in a sandbox is worth. -/
noncomputable def Tryz.pinned : Pinned := { name := "ytlkfclgkinaibaagreat", sum := "019ee105443a948738c734b63f3ef4cdff17db56ab5b2da0d5b6b5ac4882b38e", checked := Tryz.checked }
namespace Rows
def none {H : Type} : Left H := { results := [], args := [] }

/-- 'pantrylaw18.KernCopies': WHATEVER THE INPUT: true; the input reads as it did. -/
def kernCopiesSpec : ChangeSpec := { name := "kernCopies", fn := fun _ => fun
  | [d1, d2] => { results := [.lit (.bool true)], args := [d1, d2] }
  | _ => none }
def kernCopiesRow : OpenClaim := { program := "ytlkfclgkinaibaagreat", sum := "019ee105443a948738c734b63f3ef4cdff17db56ab5b2da0d5b6b5ac4882b38e", func := "pantry/pantrylaw18.KernCopies", spec := "kernCopies", inPlace := ["slices.overlaps[pantry/api.Entry]", "slices.overlaps[pantry/kern.area]"], unfollowed := true, recurses := true, plainKeys := false, apart := false }
def KernCopiesSaid : Prop := kernCopiesRow.holds Tryz.pinned (OpenSpec.ofChange kernCopiesSpec)

/-- ITS FALSE NEIGHBOUR: 'it returns false'. Refute it at one input. -/
def kernCopiesWrong : ChangeSpec := { name := "kernCopies", fn := fun _ => fun
  | [d1, d2] => { results := [.lit (.bool false)], args := [d1, d2] }
  | _ => none }
def KernCopiesWrongFalsely : Prop := kernCopiesRow.holds Tryz.pinned (OpenSpec.ofChange kernCopiesWrong)

/-- 'pantrylaw19.LoanMany': WHATEVER THE INPUT: true; the input reads as it did. -/
def loanManySpec : ChangeSpec := { name := "loanMany", fn := fun _ => fun
  | [d1, d2] => { results := [.lit (.bool true)], args := [d1, d2] }
  | _ => none }
def loanManyRow : OpenClaim := { program := "ytlkfclgkinaibaagreat", sum := "019ee105443a948738c734b63f3ef4cdff17db56ab5b2da0d5b6b5ac4882b38e", func := "pantry/pantrylaw19.LoanMany", spec := "loanMany", inPlace := ["slices.overlaps[pantry/api.Entry]", "slices.overlaps[pantry/kern.area]"], unfollowed := true, recurses := true, plainKeys := false, apart := false }
def LoanManySaid : Prop := loanManyRow.holds Tryz.pinned (OpenSpec.ofChange loanManySpec)

/-- ITS FALSE NEIGHBOUR: 'it returns false'. Refute it at one input. -/
def loanManyWrong : ChangeSpec := { name := "loanMany", fn := fun _ => fun
  | [d1, d2] => { results := [.lit (.bool false)], args := [d1, d2] }
  | _ => none }
def LoanManyWrongFalsely : Prop := loanManyRow.holds Tryz.pinned (OpenSpec.ofChange loanManyWrong)

/-- 'pantrylaw19.LoanShares': WHATEVER THE INPUT: true; the input reads as it did. -/
def loanSharesSpec : ChangeSpec := { name := "loanShares", fn := fun _ => fun
  | [d1, d2] => { results := [.lit (.bool true)], args := [d1, d2] }
  | _ => none }
def loanSharesRow : OpenClaim := { program := "ytlkfclgkinaibaagreat", sum := "019ee105443a948738c734b63f3ef4cdff17db56ab5b2da0d5b6b5ac4882b38e", func := "pantry/pantrylaw19.LoanShares", spec := "loanShares", inPlace := ["slices.overlaps[pantry/api.Entry]", "slices.overlaps[pantry/kern.area]"], unfollowed := true, recurses := true, plainKeys := false, apart := false }
def LoanSharesSaid : Prop := loanSharesRow.holds Tryz.pinned (OpenSpec.ofChange loanSharesSpec)

/-- ITS FALSE NEIGHBOUR: 'it returns false'. Refute it at one input. -/
def loanSharesWrong : ChangeSpec := { name := "loanShares", fn := fun _ => fun
  | [d1, d2] => { results := [.lit (.bool false)], args := [d1, d2] }
  | _ => none }
def LoanSharesWrongFalsely : Prop := loanSharesRow.holds Tryz.pinned (OpenSpec.ofChange loanSharesWrong)

/-- 'pantrylaw20.DaemonSpares': WHATEVER THE INPUT: true; the input reads as it did. -/
def daemonSparesSpec : ChangeSpec := { name := "daemonSpares", fn := fun _ => fun
  | [d1, d2] => { results := [.lit (.bool true)], args := [d1, d2] }
  | _ => none }
def daemonSparesRow : OpenClaim := { program := "ytlkfclgkinaibaagreat", sum := "019ee105443a948738c734b63f3ef4cdff17db56ab5b2da0d5b6b5ac4882b38e", func := "pantry/pantrylaw20.DaemonSpares", spec := "daemonSpares", inPlace := ["slices.overlaps[pantry/api.Entry]", "slices.overlaps[pantry/kern.area]"], unfollowed := true, recurses := true, plainKeys := false, apart := false }
def DaemonSparesSaid : Prop := daemonSparesRow.holds Tryz.pinned (OpenSpec.ofChange daemonSparesSpec)

/-- ITS FALSE NEIGHBOUR: 'it returns false'. Refute it at one input. -/
def daemonSparesWrong : ChangeSpec := { name := "daemonSpares", fn := fun _ => fun
  | [d1, d2] => { results := [.lit (.bool false)], args := [d1, d2] }
  | _ => none }
def DaemonSparesWrongFalsely : Prop := daemonSparesRow.holds Tryz.pinned (OpenSpec.ofChange daemonSparesWrong)

/- THE SECOND FORM. 'bulk': how many values and letters a reading holds, each counted each time it is reached (what is shared counts as often as it is met; a slice's spare places count too). A statement '..UptoSaid' is the law's where the arguments, and the package variables that the reading takes, are together of bulk at most 1048576: NARROWER than '..Said'. Prove '..Said' where nothing that the law and all that it calls make is longer than what came in: it says more and counts as full. Else prove '..UptoSaid'. A law counts once. -/
mutual
def uptoBulk {H : Type} : DataW H → Nat
  | .lit (.string bytes) => bytes.length + 1
  | .lit _ => 1
  | .nil => 1
  | .ptr d => uptoBulk d + 1
  | .slice elems spare => uptoBulkAll elems + uptoBulkAll spare + 1
  | .agg parts => uptoBulkAll parts + 1
  | .iface _ d => uptoBulk d + 1
  | .map entries => uptoBulkEntries entries + 1
  | .held _ => 1
def uptoBulkAll {H : Type} : List (DataW H) → Nat
  | [] => 0
  | d :: r => uptoBulk d + uptoBulkAll r
def uptoBulkEntries {H : Type} : List (Lit × DataW H) → Nat
  | [] => 0
  | x :: r => uptoBulkEntry x + uptoBulkEntries r
def uptoBulkEntry {H : Type} : Lit × DataW H → Nat
  | (.string bytes, d) => bytes.length + uptoBulk d + 1
  | (_, d) => uptoBulk d + 1
 end
def uptoSmall : (H : Type) → List (DataW H) → Bool := fun _ ds => decide (uptoBulkAll ds ≤ 1048576)
def OpenSpec.upto (s : _root_.Go.ChangeSpec) : _root_.Go.OpenSpec := { _root_.Go.OpenSpec.ofChange s with cond := some uptoSmall }

/-- 'pantrylaw18.KernCopies', WHERE WHAT IT READS IS OF BULK AT MOST 1048576: true; the input reads as it did. -/
def kernCopiesUptoRow : OpenClaim := { program := "ytlkfclgkinaibaagreat", sum := "019ee105443a948738c734b63f3ef4cdff17db56ab5b2da0d5b6b5ac4882b38e", func := "pantry/pantrylaw18.KernCopies", spec := "kernCopies", inPlace := ["slices.overlaps[pantry/api.Entry]", "slices.overlaps[pantry/kern.area]"], unfollowed := true, recurses := true, plainKeys := false, apart := false, narrowed := true }
def KernCopiesUptoSaid : Prop := kernCopiesUptoRow.holds Tryz.pinned (OpenSpec.upto kernCopiesSpec)

/-- 'pantrylaw19.LoanMany', WHERE WHAT IT READS IS OF BULK AT MOST 1048576: true; the input reads as it did. -/
def loanManyUptoRow : OpenClaim := { program := "ytlkfclgkinaibaagreat", sum := "019ee105443a948738c734b63f3ef4cdff17db56ab5b2da0d5b6b5ac4882b38e", func := "pantry/pantrylaw19.LoanMany", spec := "loanMany", inPlace := ["slices.overlaps[pantry/api.Entry]", "slices.overlaps[pantry/kern.area]"], unfollowed := true, recurses := true, plainKeys := false, apart := false, narrowed := true }
def LoanManyUptoSaid : Prop := loanManyUptoRow.holds Tryz.pinned (OpenSpec.upto loanManySpec)

/-- 'pantrylaw19.LoanShares', WHERE WHAT IT READS IS OF BULK AT MOST 1048576: true; the input reads as it did. -/
def loanSharesUptoRow : OpenClaim := { program := "ytlkfclgkinaibaagreat", sum := "019ee105443a948738c734b63f3ef4cdff17db56ab5b2da0d5b6b5ac4882b38e", func := "pantry/pantrylaw19.LoanShares", spec := "loanShares", inPlace := ["slices.overlaps[pantry/api.Entry]", "slices.overlaps[pantry/kern.area]"], unfollowed := true, recurses := true, plainKeys := false, apart := false, narrowed := true }
def LoanSharesUptoSaid : Prop := loanSharesUptoRow.holds Tryz.pinned (OpenSpec.upto loanSharesSpec)

/-- 'pantrylaw20.DaemonSpares', WHERE WHAT IT READS IS OF BULK AT MOST 1048576: true; the input reads as it did. -/
def daemonSparesUptoRow : OpenClaim := { program := "ytlkfclgkinaibaagreat", sum := "019ee105443a948738c734b63f3ef4cdff17db56ab5b2da0d5b6b5ac4882b38e", func := "pantry/pantrylaw20.DaemonSpares", spec := "daemonSpares", inPlace := ["slices.overlaps[pantry/api.Entry]", "slices.overlaps[pantry/kern.area]"], unfollowed := true, recurses := true, plainKeys := false, apart := false, narrowed := true }
def DaemonSparesUptoSaid : Prop := daemonSparesUptoRow.holds Tryz.pinned (OpenSpec.upto daemonSparesSpec)

end Rows
end Go.Proofs.YtlkfclgkinaibaaGreat
