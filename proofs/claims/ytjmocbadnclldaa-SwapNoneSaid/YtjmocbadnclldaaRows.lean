/-
  No cell of these rows narrows 'for every input' (looked for: loops, veiled, ifaces, maps, wideKeys, modest, calm, conditions, laid).
  DERIVED. THE GIVEN ROWS OF THIS SEAT. 5 by the template 'for every input the law returns true; each argument reads behind the call as it read before'; 0 by the template 'total and deterministic' (their statements: YtjmocbadnclldaaTotals.lean).
  GIVEN WITH THE SEED: the statements are not yours to turn. If you find one false, say at which input.
  Laid BY PROGRAM, IN A SANDBOX (cutbox-rows.mjs): the forced cells as the released guide's own fill.sh prints them over the translation 2ee34db719a44eda… (all of the seat's roots in one cut). By AI agents, Wed Nov 11 2026. No macro, syntax, notation, axiom, sorry.
-/
import Derived.Test.YtjmocbadnclldaaChecked
import GoSem.Claim
import GoSem.ClaimJoined
import GoSem.ClaimMapViews
import Derived.JoinedTies
import Derived.KernelRfl
namespace Go.Proofs.Ytjmocbadnclldaa
/- THE CELL 'sum', in the pinned program and in every row, IS THE sha256 OF THE DUMP (.gsa) THAT YtjmocbadnclldaaProg.lean LOADS. Nothing in Lean hashes anything: it is a label: what it is worth is what the hold of that sum in a sandbox is worth. -/
noncomputable def Try.pinned : Pinned := { name := "ytjmocbadnclldaa", sum := "2ee34db719a44edaa2a7951c33a31d671e918239f57f1b9f844a21a38657a016", checked := Try.checked }
namespace Rows
def none {H : Type} : Left H := { results := [], args := [] }

/-- 'pantrylaw09.SwapKeeps': WHATEVER THE INPUT: true; the input reads as it did. -/
def swapKeepsSpec : ChangeSpec := { name := "swapKeeps", fn := fun _ => fun
  | [d] => { results := [.lit (.bool true)], args := [d] }
  | _ => none }
def swapKeepsRow : OpenClaim := { program := "ytjmocbadnclldaa", sum := "2ee34db719a44edaa2a7951c33a31d671e918239f57f1b9f844a21a38657a016", func := "pantry/pantrylaw09.SwapKeeps", spec := "swapKeeps", apart := false }
def SwapKeepsSaid : Prop := swapKeepsRow.holds Try.pinned (OpenSpec.ofChange swapKeepsSpec)

/-- ITS FALSE NEIGHBOUR: 'it returns false'. Refute it at one input. -/
def swapKeepsWrong : ChangeSpec := { name := "swapKeeps", fn := fun _ => fun
  | [d] => { results := [.lit (.bool false)], args := [d] }
  | _ => none }
def SwapKeepsWrongFalsely : Prop := swapKeepsRow.holds Try.pinned (OpenSpec.ofChange swapKeepsWrong)

/-- 'pantrylaw09.SwapPlans': WHATEVER THE INPUT: true; the input reads as it did. -/
def swapPlansSpec : ChangeSpec := { name := "swapPlans", fn := fun _ => fun
  | [d1, d2, d3] => { results := [.lit (.bool true)], args := [d1, d2, d3] }
  | _ => none }
def swapPlansRow : OpenClaim := { program := "ytjmocbadnclldaa", sum := "2ee34db719a44edaa2a7951c33a31d671e918239f57f1b9f844a21a38657a016", func := "pantry/pantrylaw09.SwapPlans", spec := "swapPlans", apart := false }
def SwapPlansSaid : Prop := swapPlansRow.holds Try.pinned (OpenSpec.ofChange swapPlansSpec)

/-- ITS FALSE NEIGHBOUR: 'it returns false'. Refute it at one input. -/
def swapPlansWrong : ChangeSpec := { name := "swapPlans", fn := fun _ => fun
  | [d1, d2, d3] => { results := [.lit (.bool false)], args := [d1, d2, d3] }
  | _ => none }
def SwapPlansWrongFalsely : Prop := swapPlansRow.holds Try.pinned (OpenSpec.ofChange swapPlansWrong)

/-- 'pantrylaw09.SwapApart': WHATEVER THE INPUT: true; the input reads as it did. -/
def swapApartSpec : ChangeSpec := { name := "swapApart", fn := fun _ => fun
  | [d1, d2, d3] => { results := [.lit (.bool true)], args := [d1, d2, d3] }
  | _ => none }
def swapApartRow : OpenClaim := { program := "ytjmocbadnclldaa", sum := "2ee34db719a44edaa2a7951c33a31d671e918239f57f1b9f844a21a38657a016", func := "pantry/pantrylaw09.SwapApart", spec := "swapApart", apart := false }
def SwapApartSaid : Prop := swapApartRow.holds Try.pinned (OpenSpec.ofChange swapApartSpec)

/-- ITS FALSE NEIGHBOUR: 'it returns false'. Refute it at one input. -/
def swapApartWrong : ChangeSpec := { name := "swapApart", fn := fun _ => fun
  | [d1, d2, d3] => { results := [.lit (.bool false)], args := [d1, d2, d3] }
  | _ => none }
def SwapApartWrongFalsely : Prop := swapApartRow.holds Try.pinned (OpenSpec.ofChange swapApartWrong)

/-- 'pantrylaw09.SwapActs': WHATEVER THE INPUT: true; the input reads as it did. -/
def swapActsSpec : ChangeSpec := { name := "swapActs", fn := fun _ => fun
  | [d1, d2] => { results := [.lit (.bool true)], args := [d1, d2] }
  | _ => none }
def swapActsRow : OpenClaim := { program := "ytjmocbadnclldaa", sum := "2ee34db719a44edaa2a7951c33a31d671e918239f57f1b9f844a21a38657a016", func := "pantry/pantrylaw09.SwapActs", spec := "swapActs", apart := false }
def SwapActsSaid : Prop := swapActsRow.holds Try.pinned (OpenSpec.ofChange swapActsSpec)

/-- ITS FALSE NEIGHBOUR: 'it returns false'. Refute it at one input. -/
def swapActsWrong : ChangeSpec := { name := "swapActs", fn := fun _ => fun
  | [d1, d2] => { results := [.lit (.bool false)], args := [d1, d2] }
  | _ => none }
def SwapActsWrongFalsely : Prop := swapActsRow.holds Try.pinned (OpenSpec.ofChange swapActsWrong)

/-- 'pantrylaw09.SwapNone': WHATEVER THE INPUT: true; the input reads as it did. -/
def swapNoneSpec : ChangeSpec := { name := "swapNone", fn := fun _ => fun
  | [d] => { results := [.lit (.bool true)], args := [d] }
  | _ => none }
def swapNoneRow : OpenClaim := { program := "ytjmocbadnclldaa", sum := "2ee34db719a44edaa2a7951c33a31d671e918239f57f1b9f844a21a38657a016", func := "pantry/pantrylaw09.SwapNone", spec := "swapNone", apart := false }
def SwapNoneSaid : Prop := swapNoneRow.holds Try.pinned (OpenSpec.ofChange swapNoneSpec)

/-- ITS FALSE NEIGHBOUR: 'it returns false'. Refute it at one input. -/
def swapNoneWrong : ChangeSpec := { name := "swapNone", fn := fun _ => fun
  | [d] => { results := [.lit (.bool false)], args := [d] }
  | _ => none }
def SwapNoneWrongFalsely : Prop := swapNoneRow.holds Try.pinned (OpenSpec.ofChange swapNoneWrong)

/- THE SECOND FORM. 'bulk': how many values and letters a reading holds, each counted each time it is reached (what is shared counts as often as it is met; a slice's spare places count too). A statement '..UptoSaid' is the law's where the arguments, and the package variables that the reading takes, are together of bulk at most 1048576: NARROWER than '..Said'. Prove '..Said' where nothing that the law and all that it calls make is longer than what came in: it says more and counts as full. Else prove '..UptoSaid'. A law counts once. -/
mutual
def uptoBulk {H : Type} : DataW H → Nat
  | .lit (.string bytes) => bytes.length + 1
  | .lit _ => 1
  | .nil => 1
  | .ptr d => uptoBulk d + 1
  | .slice elems spare => uptoBulkAll elems + uptoBulkAll spare + 1
  | .agg parts => uptoBulkAll parts + 1
  | .iface _ d => uptoBulk d + 1
  | .map entries => uptoBulkEntries entries + 1
  | .held _ => 1
def uptoBulkAll {H : Type} : List (DataW H) → Nat
  | [] => 0
  | d :: r => uptoBulk d + uptoBulkAll r
def uptoBulkEntries {H : Type} : List (Lit × DataW H) → Nat
  | [] => 0
  | x :: r => uptoBulkEntry x + uptoBulkEntries r
def uptoBulkEntry {H : Type} : Lit × DataW H → Nat
  | (.string bytes, d) => bytes.length + uptoBulk d + 1
  | (_, d) => uptoBulk d + 1
 end
def uptoSmall : (H : Type) → List (DataW H) → Bool := fun _ ds => decide (uptoBulkAll ds ≤ 1048576)
def OpenSpec.upto (s : _root_.Go.ChangeSpec) : _root_.Go.OpenSpec := { _root_.Go.OpenSpec.ofChange s with cond := some uptoSmall }

/-- 'pantrylaw09.SwapKeeps', WHERE WHAT IT READS IS OF BULK AT MOST 1048576: true; the input reads as it did. -/
def swapKeepsUptoRow : OpenClaim := { program := "ytjmocbadnclldaa", sum := "2ee34db719a44edaa2a7951c33a31d671e918239f57f1b9f844a21a38657a016", func := "pantry/pantrylaw09.SwapKeeps", spec := "swapKeeps", apart := false, narrowed := true }
def SwapKeepsUptoSaid : Prop := swapKeepsUptoRow.holds Try.pinned (OpenSpec.upto swapKeepsSpec)

/-- 'pantrylaw09.SwapPlans', WHERE WHAT IT READS IS OF BULK AT MOST 1048576: true; the input reads as it did. -/
def swapPlansUptoRow : OpenClaim := { program := "ytjmocbadnclldaa", sum := "2ee34db719a44edaa2a7951c33a31d671e918239f57f1b9f844a21a38657a016", func := "pantry/pantrylaw09.SwapPlans", spec := "swapPlans", apart := false, narrowed := true }
def SwapPlansUptoSaid : Prop := swapPlansUptoRow.holds Try.pinned (OpenSpec.upto swapPlansSpec)

/-- 'pantrylaw09.SwapApart', WHERE WHAT IT READS IS OF BULK AT MOST 1048576: true; the input reads as it did. -/
def swapApartUptoRow : OpenClaim := { program := "ytjmocbadnclldaa", sum := "2ee34db719a44edaa2a7951c33a31d671e918239f57f1b9f844a21a38657a016", func := "pantry/pantrylaw09.SwapApart", spec := "swapApart", apart := false, narrowed := true }
def SwapApartUptoSaid : Prop := swapApartUptoRow.holds Try.pinned (OpenSpec.upto swapApartSpec)

/-- 'pantrylaw09.SwapActs', WHERE WHAT IT READS IS OF BULK AT MOST 1048576: true; the input reads as it did. -/
def swapActsUptoRow : OpenClaim := { program := "ytjmocbadnclldaa", sum := "2ee34db719a44edaa2a7951c33a31d671e918239f57f1b9f844a21a38657a016", func := "pantry/pantrylaw09.SwapActs", spec := "swapActs", apart := false, narrowed := true }
def SwapActsUptoSaid : Prop := swapActsUptoRow.holds Try.pinned (OpenSpec.upto swapActsSpec)

/-- 'pantrylaw09.SwapNone', WHERE WHAT IT READS IS OF BULK AT MOST 1048576: true; the input reads as it did. -/
def swapNoneUptoRow : OpenClaim := { program := "ytjmocbadnclldaa", sum := "2ee34db719a44edaa2a7951c33a31d671e918239f57f1b9f844a21a38657a016", func := "pantry/pantrylaw09.SwapNone", spec := "swapNone", apart := false, narrowed := true }
def SwapNoneUptoSaid : Prop := swapNoneUptoRow.holds Try.pinned (OpenSpec.upto swapNoneSpec)

end Rows
end Go.Proofs.Ytjmocbadnclldaa
