/-
  No cell of these rows narrows 'for every input' (looked for: loops, veiled, ifaces, maps, wideKeys, modest, calm, conditions, laid).
  DERIVED. THE GIVEN ROWS OF THIS SEAT. 3 by the template 'for every input the law returns true; each argument reads behind the call as it read before'; 0 by the template 'total and deterministic' (their statements: YtljemfeohhgncaaGreatTotals.lean).
  GIVEN WITH THE SEED: the statements are not yours to turn. If you find one false, say at which input.
  Laid BY PROGRAM, IN A SANDBOX (cutbox-rows.mjs): the forced cells as the released guide's own fill.sh prints them over the translation 4dbdf4e800a5c08e… (all of the seat's roots in one cut). By AI agents, Wed Nov 11 2026. No macro, syntax, notation, axiom, sorry.
-/
import Derived.Test.YtljemfeohhgncaaGreatChecked
import GoSem.Claim
import GoSem.ClaimJoined
import GoSem.ClaimMapViews
import Derived.JoinedTies
import Derived.KernelRfl
namespace Go.Proofs.YtljemfeohhgncaaGreat
/- THE CELL 'sum', in the pinned program and in every row, IS THE sha256 OF THE DUMP (.gsa) THAT YtljemfeohhgncaaGreatProg.lean LOADS. Nothing in Lean hashes anything: it is a label: what it is worth is what the hold of that sum in a sandbox is worth. -/
noncomputable def Tryz.pinned : Pinned := { name := "ytljemfeohhgncaagreat", sum := "4dbdf4e800a5c08e7408f2e05a180a89532053bc650f66fc46dabb1496d167bf", checked := Tryz.checked }
namespace Rows
def none {H : Type} : Left H := { results := [], args := [] }

/-- 'pantrylaw19.LoanNone': WHATEVER THE INPUT: true; the input reads as it did. -/
def loanNoneSpec : ChangeSpec := { name := "loanNone", fn := fun _ => fun
  | [d] => { results := [.lit (.bool true)], args := [d] }
  | _ => none }
def loanNoneRow : OpenClaim := { program := "ytljemfeohhgncaagreat", sum := "4dbdf4e800a5c08e7408f2e05a180a89532053bc650f66fc46dabb1496d167bf", func := "pantry/pantrylaw19.LoanNone", spec := "loanNone", inPlace := ["slices.overlaps[pantry/kern.area]", "slices.overlaps[pantry/api.Entry]"], unfollowed := true, recurses := true, plainKeys := false, apart := false }
def LoanNoneSaid : Prop := loanNoneRow.holds Tryz.pinned (OpenSpec.ofChange loanNoneSpec)

/-- ITS FALSE NEIGHBOUR: 'it returns false'. Refute it at one input. -/
def loanNoneWrong : ChangeSpec := { name := "loanNone", fn := fun _ => fun
  | [d] => { results := [.lit (.bool false)], args := [d] }
  | _ => none }
def LoanNoneWrongFalsely : Prop := loanNoneRow.holds Tryz.pinned (OpenSpec.ofChange loanNoneWrong)

/-- 'pantrylaw20.DaemonNone': WHATEVER THE INPUT: true; the input reads as it did. -/
def daemonNoneSpec : ChangeSpec := { name := "daemonNone", fn := fun _ => fun
  | [d] => { results := [.lit (.bool true)], args := [d] }
  | _ => none }
def daemonNoneRow : OpenClaim := { program := "ytljemfeohhgncaagreat", sum := "4dbdf4e800a5c08e7408f2e05a180a89532053bc650f66fc46dabb1496d167bf", func := "pantry/pantrylaw20.DaemonNone", spec := "daemonNone", inPlace := ["slices.overlaps[pantry/api.Entry]", "slices.overlaps[pantry/kern.area]"], unfollowed := true, recurses := true, plainKeys := false, apart := false }
def DaemonNoneSaid : Prop := daemonNoneRow.holds Tryz.pinned (OpenSpec.ofChange daemonNoneSpec)

/-- ITS FALSE NEIGHBOUR: 'it returns false'. Refute it at one input. -/
def daemonNoneWrong : ChangeSpec := { name := "daemonNone", fn := fun _ => fun
  | [d] => { results := [.lit (.bool false)], args := [d] }
  | _ => none }
def DaemonNoneWrongFalsely : Prop := daemonNoneRow.holds Tryz.pinned (OpenSpec.ofChange daemonNoneWrong)

/-- 'pantrylaw18.KernNone': WHATEVER THE INPUT: true; the input reads as it did. -/
def kernNoneSpec : ChangeSpec := { name := "kernNone", fn := fun _ => fun
  | [d1, d2] => { results := [.lit (.bool true)], args := [d1, d2] }
  | _ => none }
def kernNoneRow : OpenClaim := { program := "ytljemfeohhgncaagreat", sum := "4dbdf4e800a5c08e7408f2e05a180a89532053bc650f66fc46dabb1496d167bf", func := "pantry/pantrylaw18.KernNone", spec := "kernNone", inPlace := ["slices.overlaps[pantry/kern.area]", "slices.overlaps[pantry/api.Entry]"], unfollowed := true, recurses := true, plainKeys := false, apart := false }
def KernNoneSaid : Prop := kernNoneRow.holds Tryz.pinned (OpenSpec.ofChange kernNoneSpec)

/-- ITS FALSE NEIGHBOUR: 'it returns false'. Refute it at one input. -/
def kernNoneWrong : ChangeSpec := { name := "kernNone", fn := fun _ => fun
  | [d1, d2] => { results := [.lit (.bool false)], args := [d1, d2] }
  | _ => none }
def KernNoneWrongFalsely : Prop := kernNoneRow.holds Tryz.pinned (OpenSpec.ofChange kernNoneWrong)

/- THE SECOND FORM. 'bulk': how many values and letters a reading holds, each counted each time it is reached (what is shared counts as often as it is met; a slice's spare places count too). A statement '..UptoSaid' is the law's where the arguments, and the package variables that the reading takes, are together of bulk at most 1048576: NARROWER than '..Said'. Prove '..Said' where nothing that the law and all that it calls make is longer than what came in: it says more and counts as full. Else prove '..UptoSaid'. A law counts once. -/
mutual
def uptoBulk {H : Type} : DataW H → Nat
  | .lit (.string bytes) => bytes.length + 1
  | .lit _ => 1
  | .nil => 1
  | .ptr d => uptoBulk d + 1
  | .slice elems spare => uptoBulkAll elems + uptoBulkAll spare + 1
  | .agg parts => uptoBulkAll parts + 1
  | .iface _ d => uptoBulk d + 1
  | .map entries => uptoBulkEntries entries + 1
  | .held _ => 1
def uptoBulkAll {H : Type} : List (DataW H) → Nat
  | [] => 0
  | d :: r => uptoBulk d + uptoBulkAll r
def uptoBulkEntries {H : Type} : List (Lit × DataW H) → Nat
  | [] => 0
  | x :: r => uptoBulkEntry x + uptoBulkEntries r
def uptoBulkEntry {H : Type} : Lit × DataW H → Nat
  | (.string bytes, d) => bytes.length + uptoBulk d + 1
  | (_, d) => uptoBulk d + 1
 end
def uptoSmall : (H : Type) → List (DataW H) → Bool := fun _ ds => decide (uptoBulkAll ds ≤ 1048576)
def OpenSpec.upto (s : _root_.Go.ChangeSpec) : _root_.Go.OpenSpec := { _root_.Go.OpenSpec.ofChange s with cond := some uptoSmall }

/-- 'pantrylaw19.LoanNone', WHERE WHAT IT READS IS OF BULK AT MOST 1048576: true; the input reads as it did. -/
def loanNoneUptoRow : OpenClaim := { program := "ytljemfeohhgncaagreat", sum := "4dbdf4e800a5c08e7408f2e05a180a89532053bc650f66fc46dabb1496d167bf", func := "pantry/pantrylaw19.LoanNone", spec := "loanNone", inPlace := ["slices.overlaps[pantry/kern.area]", "slices.overlaps[pantry/api.Entry]"], unfollowed := true, recurses := true, plainKeys := false, apart := false, narrowed := true }
def LoanNoneUptoSaid : Prop := loanNoneUptoRow.holds Tryz.pinned (OpenSpec.upto loanNoneSpec)

/-- 'pantrylaw20.DaemonNone', WHERE WHAT IT READS IS OF BULK AT MOST 1048576: true; the input reads as it did. -/
def daemonNoneUptoRow : OpenClaim := { program := "ytljemfeohhgncaagreat", sum := "4dbdf4e800a5c08e7408f2e05a180a89532053bc650f66fc46dabb1496d167bf", func := "pantry/pantrylaw20.DaemonNone", spec := "daemonNone", inPlace := ["slices.overlaps[pantry/api.Entry]", "slices.overlaps[pantry/kern.area]"], unfollowed := true, recurses := true, plainKeys := false, apart := false, narrowed := true }
def DaemonNoneUptoSaid : Prop := daemonNoneUptoRow.holds Tryz.pinned (OpenSpec.upto daemonNoneSpec)

/-- 'pantrylaw18.KernNone', WHERE WHAT IT READS IS OF BULK AT MOST 1048576: true; the input reads as it did. -/
def kernNoneUptoRow : OpenClaim := { program := "ytljemfeohhgncaagreat", sum := "4dbdf4e800a5c08e7408f2e05a180a89532053bc650f66fc46dabb1496d167bf", func := "pantry/pantrylaw18.KernNone", spec := "kernNone", inPlace := ["slices.overlaps[pantry/kern.area]", "slices.overlaps[pantry/api.Entry]"], unfollowed := true, recurses := true, plainKeys := false, apart := false, narrowed := true }
def KernNoneUptoSaid : Prop := kernNoneUptoRow.holds Tryz.pinned (OpenSpec.upto kernNoneSpec)

end Rows
end Go.Proofs.YtljemfeohhgncaaGreat
