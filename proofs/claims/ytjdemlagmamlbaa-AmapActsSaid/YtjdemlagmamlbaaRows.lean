/-
  No cell of these rows narrows 'for every input' (looked for: loops, veiled, ifaces, maps, wideKeys, modest, calm, conditions, laid).
  DERIVED. THE GIVEN ROWS OF THIS SEAT. 21 by the template 'for every input the law returns true; each argument reads behind the call as it read before'; 0 by the template 'total and deterministic' (their statements: YtjdemlagmamlbaaTotals.lean).
  GIVEN WITH THE SEED: the statements are not yours to turn. If you find one false, say at which input.
  Laid BY PROGRAM, IN A SANDBOX (cutbox-rows.mjs): the forced cells as the released guide's own fill.sh prints them over the translation 0caddef2862b206e… (all of the seat's roots in one cut). By AI agents, Wed Nov 11 2026. No macro, syntax, notation, axiom, sorry.
-/
import Derived.Test.YtjdemlagmamlbaaChecked
import GoSem.Claim
import GoSem.ClaimJoined
import GoSem.ClaimMapViews
import Derived.JoinedTies
import Derived.KernelRfl
namespace Go.Proofs.Ytjdemlagmamlbaa
/- THE CELL 'sum', in the pinned program and in every row, IS THE sha256 OF THE DUMP (.gsa) THAT YtjdemlagmamlbaaProg.lean LOADS. Nothing in Lean hashes anything: it is a label: what it is worth is what the hold of that sum in a sandbox is worth. -/
noncomputable def Try.pinned : Pinned := { name := "ytjdemlagmamlbaa", sum := "0caddef2862b206e8e5682d5c38351cecdce04cb85ad0718057bc8d2d7cc45a2", checked := Try.checked }
namespace Rows
def none {H : Type} : Left H := { results := [], args := [] }

/-- 'pantrylaw09.SwapKeeps': WHATEVER THE INPUT: true; the input reads as it did. -/
def swapKeepsSpec : ChangeSpec := { name := "swapKeeps", fn := fun _ => fun
  | [d] => { results := [.lit (.bool true)], args := [d] }
  | _ => none }
def swapKeepsRow : OpenClaim := { program := "ytjdemlagmamlbaa", sum := "0caddef2862b206e8e5682d5c38351cecdce04cb85ad0718057bc8d2d7cc45a2", func := "pantry/pantrylaw09.SwapKeeps", spec := "swapKeeps", plainKeys := false, apart := false }
def SwapKeepsSaid : Prop := swapKeepsRow.holds Try.pinned (OpenSpec.ofChange swapKeepsSpec)

/-- ITS FALSE NEIGHBOUR: 'it returns false'. Refute it at one input. -/
def swapKeepsWrong : ChangeSpec := { name := "swapKeeps", fn := fun _ => fun
  | [d] => { results := [.lit (.bool false)], args := [d] }
  | _ => none }
def SwapKeepsWrongFalsely : Prop := swapKeepsRow.holds Try.pinned (OpenSpec.ofChange swapKeepsWrong)

/-- 'pantrylaw09.SwapPlans': WHATEVER THE INPUT: true; the input reads as it did. -/
def swapPlansSpec : ChangeSpec := { name := "swapPlans", fn := fun _ => fun
  | [d1, d2, d3] => { results := [.lit (.bool true)], args := [d1, d2, d3] }
  | _ => none }
def swapPlansRow : OpenClaim := { program := "ytjdemlagmamlbaa", sum := "0caddef2862b206e8e5682d5c38351cecdce04cb85ad0718057bc8d2d7cc45a2", func := "pantry/pantrylaw09.SwapPlans", spec := "swapPlans", plainKeys := false, apart := false }
def SwapPlansSaid : Prop := swapPlansRow.holds Try.pinned (OpenSpec.ofChange swapPlansSpec)

/-- ITS FALSE NEIGHBOUR: 'it returns false'. Refute it at one input. -/
def swapPlansWrong : ChangeSpec := { name := "swapPlans", fn := fun _ => fun
  | [d1, d2, d3] => { results := [.lit (.bool false)], args := [d1, d2, d3] }
  | _ => none }
def SwapPlansWrongFalsely : Prop := swapPlansRow.holds Try.pinned (OpenSpec.ofChange swapPlansWrong)

/-- 'pantrylaw09.SwapApart': WHATEVER THE INPUT: true; the input reads as it did. -/
def swapApartSpec : ChangeSpec := { name := "swapApart", fn := fun _ => fun
  | [d1, d2, d3] => { results := [.lit (.bool true)], args := [d1, d2, d3] }
  | _ => none }
def swapApartRow : OpenClaim := { program := "ytjdemlagmamlbaa", sum := "0caddef2862b206e8e5682d5c38351cecdce04cb85ad0718057bc8d2d7cc45a2", func := "pantry/pantrylaw09.SwapApart", spec := "swapApart", plainKeys := false, apart := false }
def SwapApartSaid : Prop := swapApartRow.holds Try.pinned (OpenSpec.ofChange swapApartSpec)

/-- ITS FALSE NEIGHBOUR: 'it returns false'. Refute it at one input. -/
def swapApartWrong : ChangeSpec := { name := "swapApart", fn := fun _ => fun
  | [d1, d2, d3] => { results := [.lit (.bool false)], args := [d1, d2, d3] }
  | _ => none }
def SwapApartWrongFalsely : Prop := swapApartRow.holds Try.pinned (OpenSpec.ofChange swapApartWrong)

/-- 'pantrylaw09.SwapActs': WHATEVER THE INPUT: true; the input reads as it did. -/
def swapActsSpec : ChangeSpec := { name := "swapActs", fn := fun _ => fun
  | [d1, d2] => { results := [.lit (.bool true)], args := [d1, d2] }
  | _ => none }
def swapActsRow : OpenClaim := { program := "ytjdemlagmamlbaa", sum := "0caddef2862b206e8e5682d5c38351cecdce04cb85ad0718057bc8d2d7cc45a2", func := "pantry/pantrylaw09.SwapActs", spec := "swapActs", plainKeys := false, apart := false }
def SwapActsSaid : Prop := swapActsRow.holds Try.pinned (OpenSpec.ofChange swapActsSpec)

/-- ITS FALSE NEIGHBOUR: 'it returns false'. Refute it at one input. -/
def swapActsWrong : ChangeSpec := { name := "swapActs", fn := fun _ => fun
  | [d1, d2] => { results := [.lit (.bool false)], args := [d1, d2] }
  | _ => none }
def SwapActsWrongFalsely : Prop := swapActsRow.holds Try.pinned (OpenSpec.ofChange swapActsWrong)

/-- 'pantrylaw09.SwapNone': WHATEVER THE INPUT: true; the input reads as it did. -/
def swapNoneSpec : ChangeSpec := { name := "swapNone", fn := fun _ => fun
  | [d] => { results := [.lit (.bool true)], args := [d] }
  | _ => none }
def swapNoneRow : OpenClaim := { program := "ytjdemlagmamlbaa", sum := "0caddef2862b206e8e5682d5c38351cecdce04cb85ad0718057bc8d2d7cc45a2", func := "pantry/pantrylaw09.SwapNone", spec := "swapNone", plainKeys := false, apart := false }
def SwapNoneSaid : Prop := swapNoneRow.holds Try.pinned (OpenSpec.ofChange swapNoneSpec)

/-- ITS FALSE NEIGHBOUR: 'it returns false'. Refute it at one input. -/
def swapNoneWrong : ChangeSpec := { name := "swapNone", fn := fun _ => fun
  | [d] => { results := [.lit (.bool false)], args := [d] }
  | _ => none }
def SwapNoneWrongFalsely : Prop := swapNoneRow.holds Try.pinned (OpenSpec.ofChange swapNoneWrong)

/-- 'pantrylaw10.FileCuts': WHATEVER THE INPUT: true; the input reads as it did. -/
def fileCutsSpec : ChangeSpec := { name := "fileCuts", fn := fun _ => fun
  | [d1, d2, d3] => { results := [.lit (.bool true)], args := [d1, d2, d3] }
  | _ => none }
def fileCutsRow : OpenClaim := { program := "ytjdemlagmamlbaa", sum := "0caddef2862b206e8e5682d5c38351cecdce04cb85ad0718057bc8d2d7cc45a2", func := "pantry/pantrylaw10.FileCuts", spec := "fileCuts", unfollowed := true, recurses := true, plainKeys := false, apart := false }
def FileCutsSaid : Prop := fileCutsRow.holds Try.pinned (OpenSpec.ofChange fileCutsSpec)

/-- ITS FALSE NEIGHBOUR: 'it returns false'. Refute it at one input. -/
def fileCutsWrong : ChangeSpec := { name := "fileCuts", fn := fun _ => fun
  | [d1, d2, d3] => { results := [.lit (.bool false)], args := [d1, d2, d3] }
  | _ => none }
def FileCutsWrongFalsely : Prop := fileCutsRow.holds Try.pinned (OpenSpec.ofChange fileCutsWrong)

/-- 'pantrylaw10.FileKeeps': WHATEVER THE INPUT: true; the input reads as it did. -/
def fileKeepsSpec : ChangeSpec := { name := "fileKeeps", fn := fun _ => fun
  | [d1, d2, d3] => { results := [.lit (.bool true)], args := [d1, d2, d3] }
  | _ => none }
def fileKeepsRow : OpenClaim := { program := "ytjdemlagmamlbaa", sum := "0caddef2862b206e8e5682d5c38351cecdce04cb85ad0718057bc8d2d7cc45a2", func := "pantry/pantrylaw10.FileKeeps", spec := "fileKeeps", unfollowed := true, recurses := true, plainKeys := false, apart := false }
def FileKeepsSaid : Prop := fileKeepsRow.holds Try.pinned (OpenSpec.ofChange fileKeepsSpec)

/-- ITS FALSE NEIGHBOUR: 'it returns false'. Refute it at one input. -/
def fileKeepsWrong : ChangeSpec := { name := "fileKeeps", fn := fun _ => fun
  | [d1, d2, d3] => { results := [.lit (.bool false)], args := [d1, d2, d3] }
  | _ => none }
def FileKeepsWrongFalsely : Prop := fileKeepsRow.holds Try.pinned (OpenSpec.ofChange fileKeepsWrong)

/-- 'pantrylaw10.FileMany': WHATEVER THE INPUT: true; the input reads as it did. -/
def fileManySpec : ChangeSpec := { name := "fileMany", fn := fun _ => fun
  | [d] => { results := [.lit (.bool true)], args := [d] }
  | _ => none }
def fileManyRow : OpenClaim := { program := "ytjdemlagmamlbaa", sum := "0caddef2862b206e8e5682d5c38351cecdce04cb85ad0718057bc8d2d7cc45a2", func := "pantry/pantrylaw10.FileMany", spec := "fileMany", unfollowed := true, recurses := true, plainKeys := false, apart := false }
def FileManySaid : Prop := fileManyRow.holds Try.pinned (OpenSpec.ofChange fileManySpec)

/-- ITS FALSE NEIGHBOUR: 'it returns false'. Refute it at one input. -/
def fileManyWrong : ChangeSpec := { name := "fileMany", fn := fun _ => fun
  | [d] => { results := [.lit (.bool false)], args := [d] }
  | _ => none }
def FileManyWrongFalsely : Prop := fileManyRow.holds Try.pinned (OpenSpec.ofChange fileManyWrong)

/-- 'pantrylaw10.FilePages': WHATEVER THE INPUT: true; the input reads as it did. -/
def filePagesSpec : ChangeSpec := { name := "filePages", fn := fun _ => fun
  | [d] => { results := [.lit (.bool true)], args := [d] }
  | _ => none }
def filePagesRow : OpenClaim := { program := "ytjdemlagmamlbaa", sum := "0caddef2862b206e8e5682d5c38351cecdce04cb85ad0718057bc8d2d7cc45a2", func := "pantry/pantrylaw10.FilePages", spec := "filePages", unfollowed := true, recurses := true, plainKeys := false, apart := false }
def FilePagesSaid : Prop := filePagesRow.holds Try.pinned (OpenSpec.ofChange filePagesSpec)

/-- ITS FALSE NEIGHBOUR: 'it returns false'. Refute it at one input. -/
def filePagesWrong : ChangeSpec := { name := "filePages", fn := fun _ => fun
  | [d] => { results := [.lit (.bool false)], args := [d] }
  | _ => none }
def FilePagesWrongFalsely : Prop := filePagesRow.holds Try.pinned (OpenSpec.ofChange filePagesWrong)

/-- 'pantrylaw10.FileActs': WHATEVER THE INPUT: true; the input reads as it did. -/
def fileActsSpec : ChangeSpec := { name := "fileActs", fn := fun _ => fun
  | [d] => { results := [.lit (.bool true)], args := [d] }
  | _ => none }
def fileActsRow : OpenClaim := { program := "ytjdemlagmamlbaa", sum := "0caddef2862b206e8e5682d5c38351cecdce04cb85ad0718057bc8d2d7cc45a2", func := "pantry/pantrylaw10.FileActs", spec := "fileActs", unfollowed := true, recurses := true, plainKeys := false, apart := false }
def FileActsSaid : Prop := fileActsRow.holds Try.pinned (OpenSpec.ofChange fileActsSpec)

/-- ITS FALSE NEIGHBOUR: 'it returns false'. Refute it at one input. -/
def fileActsWrong : ChangeSpec := { name := "fileActs", fn := fun _ => fun
  | [d] => { results := [.lit (.bool false)], args := [d] }
  | _ => none }
def FileActsWrongFalsely : Prop := fileActsRow.holds Try.pinned (OpenSpec.ofChange fileActsWrong)

/-- 'pantrylaw10.FileNone': WHATEVER THE INPUT: true; the input reads as it did. -/
def fileNoneSpec : ChangeSpec := { name := "fileNone", fn := fun _ => fun
  | [d] => { results := [.lit (.bool true)], args := [d] }
  | _ => none }
def fileNoneRow : OpenClaim := { program := "ytjdemlagmamlbaa", sum := "0caddef2862b206e8e5682d5c38351cecdce04cb85ad0718057bc8d2d7cc45a2", func := "pantry/pantrylaw10.FileNone", spec := "fileNone", unfollowed := true, recurses := true, plainKeys := false, apart := false }
def FileNoneSaid : Prop := fileNoneRow.holds Try.pinned (OpenSpec.ofChange fileNoneSpec)

/-- ITS FALSE NEIGHBOUR: 'it returns false'. Refute it at one input. -/
def fileNoneWrong : ChangeSpec := { name := "fileNone", fn := fun _ => fun
  | [d] => { results := [.lit (.bool false)], args := [d] }
  | _ => none }
def FileNoneWrongFalsely : Prop := fileNoneRow.holds Try.pinned (OpenSpec.ofChange fileNoneWrong)

/-- 'pantrylaw11.SpreadActs': WHATEVER THE INPUT: true; the input reads as it did. -/
def spreadActsSpec : ChangeSpec := { name := "spreadActs", fn := fun _ => fun
  | [d1, d2] => { results := [.lit (.bool true)], args := [d1, d2] }
  | _ => none }
def spreadActsRow : OpenClaim := { program := "ytjdemlagmamlbaa", sum := "0caddef2862b206e8e5682d5c38351cecdce04cb85ad0718057bc8d2d7cc45a2", func := "pantry/pantrylaw11.SpreadActs", spec := "spreadActs", unfollowed := true, recurses := true, plainKeys := false, apart := false }
def SpreadActsSaid : Prop := spreadActsRow.holds Try.pinned (OpenSpec.ofChange spreadActsSpec)

/-- ITS FALSE NEIGHBOUR: 'it returns false'. Refute it at one input. -/
def spreadActsWrong : ChangeSpec := { name := "spreadActs", fn := fun _ => fun
  | [d1, d2] => { results := [.lit (.bool false)], args := [d1, d2] }
  | _ => none }
def SpreadActsWrongFalsely : Prop := spreadActsRow.holds Try.pinned (OpenSpec.ofChange spreadActsWrong)

/-- 'pantrylaw11.SpreadRuns': WHATEVER THE INPUT: true; the input reads as it did. -/
def spreadRunsSpec : ChangeSpec := { name := "spreadRuns", fn := fun _ => fun
  | [d1, d2] => { results := [.lit (.bool true)], args := [d1, d2] }
  | _ => none }
def spreadRunsRow : OpenClaim := { program := "ytjdemlagmamlbaa", sum := "0caddef2862b206e8e5682d5c38351cecdce04cb85ad0718057bc8d2d7cc45a2", func := "pantry/pantrylaw11.SpreadRuns", spec := "spreadRuns", unfollowed := true, recurses := true, plainKeys := false, apart := false }
def SpreadRunsSaid : Prop := spreadRunsRow.holds Try.pinned (OpenSpec.ofChange spreadRunsSpec)

/-- ITS FALSE NEIGHBOUR: 'it returns false'. Refute it at one input. -/
def spreadRunsWrong : ChangeSpec := { name := "spreadRuns", fn := fun _ => fun
  | [d1, d2] => { results := [.lit (.bool false)], args := [d1, d2] }
  | _ => none }
def SpreadRunsWrongFalsely : Prop := spreadRunsRow.holds Try.pinned (OpenSpec.ofChange spreadRunsWrong)

/-- 'pantrylaw11.SpreadZeros': WHATEVER THE INPUT: true; the input reads as it did. -/
def spreadZerosSpec : ChangeSpec := { name := "spreadZeros", fn := fun _ => fun
  | [d1, d2] => { results := [.lit (.bool true)], args := [d1, d2] }
  | _ => none }
def spreadZerosRow : OpenClaim := { program := "ytjdemlagmamlbaa", sum := "0caddef2862b206e8e5682d5c38351cecdce04cb85ad0718057bc8d2d7cc45a2", func := "pantry/pantrylaw11.SpreadZeros", spec := "spreadZeros", unfollowed := true, recurses := true, plainKeys := false, apart := false }
def SpreadZerosSaid : Prop := spreadZerosRow.holds Try.pinned (OpenSpec.ofChange spreadZerosSpec)

/-- ITS FALSE NEIGHBOUR: 'it returns false'. Refute it at one input. -/
def spreadZerosWrong : ChangeSpec := { name := "spreadZeros", fn := fun _ => fun
  | [d1, d2] => { results := [.lit (.bool false)], args := [d1, d2] }
  | _ => none }
def SpreadZerosWrongFalsely : Prop := spreadZerosRow.holds Try.pinned (OpenSpec.ofChange spreadZerosWrong)

/-- 'pantrylaw11.SpreadBack': WHATEVER THE INPUT: true; the input reads as it did. -/
def spreadBackSpec : ChangeSpec := { name := "spreadBack", fn := fun _ => fun
  | [d1, d2, d3] => { results := [.lit (.bool true)], args := [d1, d2, d3] }
  | _ => none }
def spreadBackRow : OpenClaim := { program := "ytjdemlagmamlbaa", sum := "0caddef2862b206e8e5682d5c38351cecdce04cb85ad0718057bc8d2d7cc45a2", func := "pantry/pantrylaw11.SpreadBack", spec := "spreadBack", unfollowed := true, recurses := true, plainKeys := false, apart := false }
def SpreadBackSaid : Prop := spreadBackRow.holds Try.pinned (OpenSpec.ofChange spreadBackSpec)

/-- ITS FALSE NEIGHBOUR: 'it returns false'. Refute it at one input. -/
def spreadBackWrong : ChangeSpec := { name := "spreadBack", fn := fun _ => fun
  | [d1, d2, d3] => { results := [.lit (.bool false)], args := [d1, d2, d3] }
  | _ => none }
def SpreadBackWrongFalsely : Prop := spreadBackRow.holds Try.pinned (OpenSpec.ofChange spreadBackWrong)

/-- 'pantrylaw11.SpreadNone': WHATEVER THE INPUT: true; the input reads as it did. -/
def spreadNoneSpec : ChangeSpec := { name := "spreadNone", fn := fun _ => fun
  | [d] => { results := [.lit (.bool true)], args := [d] }
  | _ => none }
def spreadNoneRow : OpenClaim := { program := "ytjdemlagmamlbaa", sum := "0caddef2862b206e8e5682d5c38351cecdce04cb85ad0718057bc8d2d7cc45a2", func := "pantry/pantrylaw11.SpreadNone", spec := "spreadNone", unfollowed := true, recurses := true, plainKeys := false, apart := false }
def SpreadNoneSaid : Prop := spreadNoneRow.holds Try.pinned (OpenSpec.ofChange spreadNoneSpec)

/-- ITS FALSE NEIGHBOUR: 'it returns false'. Refute it at one input. -/
def spreadNoneWrong : ChangeSpec := { name := "spreadNone", fn := fun _ => fun
  | [d] => { results := [.lit (.bool false)], args := [d] }
  | _ => none }
def SpreadNoneWrongFalsely : Prop := spreadNoneRow.holds Try.pinned (OpenSpec.ofChange spreadNoneWrong)

/-- 'pantrylaw13.AmapNumbers': WHATEVER THE INPUT: true; the input reads as it did. -/
def amapNumbersSpec : ChangeSpec := { name := "amapNumbers", fn := fun _ => fun
  | [d1, d2] => { results := [.lit (.bool true)], args := [d1, d2] }
  | _ => none }
def amapNumbersRow : OpenClaim := { program := "ytjdemlagmamlbaa", sum := "0caddef2862b206e8e5682d5c38351cecdce04cb85ad0718057bc8d2d7cc45a2", func := "pantry/pantrylaw13.AmapNumbers", spec := "amapNumbers", unfollowed := true, recurses := true, plainKeys := false, apart := false }
def AmapNumbersSaid : Prop := amapNumbersRow.holds Try.pinned (OpenSpec.ofChange amapNumbersSpec)

/-- ITS FALSE NEIGHBOUR: 'it returns false'. Refute it at one input. -/
def amapNumbersWrong : ChangeSpec := { name := "amapNumbers", fn := fun _ => fun
  | [d1, d2] => { results := [.lit (.bool false)], args := [d1, d2] }
  | _ => none }
def AmapNumbersWrongFalsely : Prop := amapNumbersRow.holds Try.pinned (OpenSpec.ofChange amapNumbersWrong)

/-- 'pantrylaw13.AmapCovers': WHATEVER THE INPUT: true; the input reads as it did. -/
def amapCoversSpec : ChangeSpec := { name := "amapCovers", fn := fun _ => fun
  | [d1, d2] => { results := [.lit (.bool true)], args := [d1, d2] }
  | _ => none }
def amapCoversRow : OpenClaim := { program := "ytjdemlagmamlbaa", sum := "0caddef2862b206e8e5682d5c38351cecdce04cb85ad0718057bc8d2d7cc45a2", func := "pantry/pantrylaw13.AmapCovers", spec := "amapCovers", unfollowed := true, recurses := true, plainKeys := false, apart := false }
def AmapCoversSaid : Prop := amapCoversRow.holds Try.pinned (OpenSpec.ofChange amapCoversSpec)

/-- ITS FALSE NEIGHBOUR: 'it returns false'. Refute it at one input. -/
def amapCoversWrong : ChangeSpec := { name := "amapCovers", fn := fun _ => fun
  | [d1, d2] => { results := [.lit (.bool false)], args := [d1, d2] }
  | _ => none }
def AmapCoversWrongFalsely : Prop := amapCoversRow.holds Try.pinned (OpenSpec.ofChange amapCoversWrong)

/-- 'pantrylaw13.AmapCopies': WHATEVER THE INPUT: true; the input reads as it did. -/
def amapCopiesSpec : ChangeSpec := { name := "amapCopies", fn := fun _ => fun
  | [d1, d2, d3] => { results := [.lit (.bool true)], args := [d1, d2, d3] }
  | _ => none }
def amapCopiesRow : OpenClaim := { program := "ytjdemlagmamlbaa", sum := "0caddef2862b206e8e5682d5c38351cecdce04cb85ad0718057bc8d2d7cc45a2", func := "pantry/pantrylaw13.AmapCopies", spec := "amapCopies", unfollowed := true, recurses := true, plainKeys := false, apart := false }
def AmapCopiesSaid : Prop := amapCopiesRow.holds Try.pinned (OpenSpec.ofChange amapCopiesSpec)

/-- ITS FALSE NEIGHBOUR: 'it returns false'. Refute it at one input. -/
def amapCopiesWrong : ChangeSpec := { name := "amapCopies", fn := fun _ => fun
  | [d1, d2, d3] => { results := [.lit (.bool false)], args := [d1, d2, d3] }
  | _ => none }
def AmapCopiesWrongFalsely : Prop := amapCopiesRow.holds Try.pinned (OpenSpec.ofChange amapCopiesWrong)

/-- 'pantrylaw13.AmapActs': WHATEVER THE INPUT: true; the input reads as it did. -/
def amapActsSpec : ChangeSpec := { name := "amapActs", fn := fun _ => fun
  | [d1, d2, d3] => { results := [.lit (.bool true)], args := [d1, d2, d3] }
  | _ => none }
def amapActsRow : OpenClaim := { program := "ytjdemlagmamlbaa", sum := "0caddef2862b206e8e5682d5c38351cecdce04cb85ad0718057bc8d2d7cc45a2", func := "pantry/pantrylaw13.AmapActs", spec := "amapActs", unfollowed := true, recurses := true, plainKeys := false, apart := false }
def AmapActsSaid : Prop := amapActsRow.holds Try.pinned (OpenSpec.ofChange amapActsSpec)

/-- ITS FALSE NEIGHBOUR: 'it returns false'. Refute it at one input. -/
def amapActsWrong : ChangeSpec := { name := "amapActs", fn := fun _ => fun
  | [d1, d2, d3] => { results := [.lit (.bool false)], args := [d1, d2, d3] }
  | _ => none }
def AmapActsWrongFalsely : Prop := amapActsRow.holds Try.pinned (OpenSpec.ofChange amapActsWrong)

/-- 'pantrylaw13.AmapNone': WHATEVER THE INPUT: true; the input reads as it did. -/
def amapNoneSpec : ChangeSpec := { name := "amapNone", fn := fun _ => fun
  | [d] => { results := [.lit (.bool true)], args := [d] }
  | _ => none }
def amapNoneRow : OpenClaim := { program := "ytjdemlagmamlbaa", sum := "0caddef2862b206e8e5682d5c38351cecdce04cb85ad0718057bc8d2d7cc45a2", func := "pantry/pantrylaw13.AmapNone", spec := "amapNone", unfollowed := true, recurses := true, plainKeys := false, apart := false }
def AmapNoneSaid : Prop := amapNoneRow.holds Try.pinned (OpenSpec.ofChange amapNoneSpec)

/-- ITS FALSE NEIGHBOUR: 'it returns false'. Refute it at one input. -/
def amapNoneWrong : ChangeSpec := { name := "amapNone", fn := fun _ => fun
  | [d] => { results := [.lit (.bool false)], args := [d] }
  | _ => none }
def AmapNoneWrongFalsely : Prop := amapNoneRow.holds Try.pinned (OpenSpec.ofChange amapNoneWrong)

/- THE SECOND FORM. 'bulk': how many values and letters a reading holds, each counted each time it is reached (what is shared counts as often as it is met; a slice's spare places count too). A statement '..UptoSaid' is the law's where the arguments, and the package variables that the reading takes, are together of bulk at most 1048576: NARROWER than '..Said'. Prove '..Said' where nothing that the law and all that it calls make is longer than what came in: it says more and counts as full. Else prove '..UptoSaid'. A law counts once. -/
mutual
def uptoBulk {H : Type} : DataW H → Nat
  | .lit (.string bytes) => bytes.length + 1
  | .lit _ => 1
  | .nil => 1
  | .ptr d => uptoBulk d + 1
  | .slice elems spare => uptoBulkAll elems + uptoBulkAll spare + 1
  | .agg parts => uptoBulkAll parts + 1
  | .iface _ d => uptoBulk d + 1
  | .map entries => uptoBulkEntries entries + 1
  | .held _ => 1
def uptoBulkAll {H : Type} : List (DataW H) → Nat
  | [] => 0
  | d :: r => uptoBulk d + uptoBulkAll r
def uptoBulkEntries {H : Type} : List (Lit × DataW H) → Nat
  | [] => 0
  | x :: r => uptoBulkEntry x + uptoBulkEntries r
def uptoBulkEntry {H : Type} : Lit × DataW H → Nat
  | (.string bytes, d) => bytes.length + uptoBulk d + 1
  | (_, d) => uptoBulk d + 1
 end
def uptoSmall : (H : Type) → List (DataW H) → Bool := fun _ ds => decide (uptoBulkAll ds ≤ 1048576)
def OpenSpec.upto (s : _root_.Go.ChangeSpec) : _root_.Go.OpenSpec := { _root_.Go.OpenSpec.ofChange s with cond := some uptoSmall }

/-- 'pantrylaw09.SwapKeeps', WHERE WHAT IT READS IS OF BULK AT MOST 1048576: true; the input reads as it did. -/
def swapKeepsUptoRow : OpenClaim := { program := "ytjdemlagmamlbaa", sum := "0caddef2862b206e8e5682d5c38351cecdce04cb85ad0718057bc8d2d7cc45a2", func := "pantry/pantrylaw09.SwapKeeps", spec := "swapKeeps", plainKeys := false, apart := false, narrowed := true }
def SwapKeepsUptoSaid : Prop := swapKeepsUptoRow.holds Try.pinned (OpenSpec.upto swapKeepsSpec)

/-- 'pantrylaw09.SwapPlans', WHERE WHAT IT READS IS OF BULK AT MOST 1048576: true; the input reads as it did. -/
def swapPlansUptoRow : OpenClaim := { program := "ytjdemlagmamlbaa", sum := "0caddef2862b206e8e5682d5c38351cecdce04cb85ad0718057bc8d2d7cc45a2", func := "pantry/pantrylaw09.SwapPlans", spec := "swapPlans", plainKeys := false, apart := false, narrowed := true }
def SwapPlansUptoSaid : Prop := swapPlansUptoRow.holds Try.pinned (OpenSpec.upto swapPlansSpec)

/-- 'pantrylaw09.SwapApart', WHERE WHAT IT READS IS OF BULK AT MOST 1048576: true; the input reads as it did. -/
def swapApartUptoRow : OpenClaim := { program := "ytjdemlagmamlbaa", sum := "0caddef2862b206e8e5682d5c38351cecdce04cb85ad0718057bc8d2d7cc45a2", func := "pantry/pantrylaw09.SwapApart", spec := "swapApart", plainKeys := false, apart := false, narrowed := true }
def SwapApartUptoSaid : Prop := swapApartUptoRow.holds Try.pinned (OpenSpec.upto swapApartSpec)

/-- 'pantrylaw09.SwapActs', WHERE WHAT IT READS IS OF BULK AT MOST 1048576: true; the input reads as it did. -/
def swapActsUptoRow : OpenClaim := { program := "ytjdemlagmamlbaa", sum := "0caddef2862b206e8e5682d5c38351cecdce04cb85ad0718057bc8d2d7cc45a2", func := "pantry/pantrylaw09.SwapActs", spec := "swapActs", plainKeys := false, apart := false, narrowed := true }
def SwapActsUptoSaid : Prop := swapActsUptoRow.holds Try.pinned (OpenSpec.upto swapActsSpec)

/-- 'pantrylaw09.SwapNone', WHERE WHAT IT READS IS OF BULK AT MOST 1048576: true; the input reads as it did. -/
def swapNoneUptoRow : OpenClaim := { program := "ytjdemlagmamlbaa", sum := "0caddef2862b206e8e5682d5c38351cecdce04cb85ad0718057bc8d2d7cc45a2", func := "pantry/pantrylaw09.SwapNone", spec := "swapNone", plainKeys := false, apart := false, narrowed := true }
def SwapNoneUptoSaid : Prop := swapNoneUptoRow.holds Try.pinned (OpenSpec.upto swapNoneSpec)

/-- 'pantrylaw10.FileCuts', WHERE WHAT IT READS IS OF BULK AT MOST 1048576: true; the input reads as it did. -/
def fileCutsUptoRow : OpenClaim := { program := "ytjdemlagmamlbaa", sum := "0caddef2862b206e8e5682d5c38351cecdce04cb85ad0718057bc8d2d7cc45a2", func := "pantry/pantrylaw10.FileCuts", spec := "fileCuts", unfollowed := true, recurses := true, plainKeys := false, apart := false, narrowed := true }
def FileCutsUptoSaid : Prop := fileCutsUptoRow.holds Try.pinned (OpenSpec.upto fileCutsSpec)

/-- 'pantrylaw10.FileKeeps', WHERE WHAT IT READS IS OF BULK AT MOST 1048576: true; the input reads as it did. -/
def fileKeepsUptoRow : OpenClaim := { program := "ytjdemlagmamlbaa", sum := "0caddef2862b206e8e5682d5c38351cecdce04cb85ad0718057bc8d2d7cc45a2", func := "pantry/pantrylaw10.FileKeeps", spec := "fileKeeps", unfollowed := true, recurses := true, plainKeys := false, apart := false, narrowed := true }
def FileKeepsUptoSaid : Prop := fileKeepsUptoRow.holds Try.pinned (OpenSpec.upto fileKeepsSpec)

/-- 'pantrylaw10.FileMany', WHERE WHAT IT READS IS OF BULK AT MOST 1048576: true; the input reads as it did. -/
def fileManyUptoRow : OpenClaim := { program := "ytjdemlagmamlbaa", sum := "0caddef2862b206e8e5682d5c38351cecdce04cb85ad0718057bc8d2d7cc45a2", func := "pantry/pantrylaw10.FileMany", spec := "fileMany", unfollowed := true, recurses := true, plainKeys := false, apart := false, narrowed := true }
def FileManyUptoSaid : Prop := fileManyUptoRow.holds Try.pinned (OpenSpec.upto fileManySpec)

/-- 'pantrylaw10.FilePages', WHERE WHAT IT READS IS OF BULK AT MOST 1048576: true; the input reads as it did. -/
def filePagesUptoRow : OpenClaim := { program := "ytjdemlagmamlbaa", sum := "0caddef2862b206e8e5682d5c38351cecdce04cb85ad0718057bc8d2d7cc45a2", func := "pantry/pantrylaw10.FilePages", spec := "filePages", unfollowed := true, recurses := true, plainKeys := false, apart := false, narrowed := true }
def FilePagesUptoSaid : Prop := filePagesUptoRow.holds Try.pinned (OpenSpec.upto filePagesSpec)

/-- 'pantrylaw10.FileActs', WHERE WHAT IT READS IS OF BULK AT MOST 1048576: true; the input reads as it did. -/
def fileActsUptoRow : OpenClaim := { program := "ytjdemlagmamlbaa", sum := "0caddef2862b206e8e5682d5c38351cecdce04cb85ad0718057bc8d2d7cc45a2", func := "pantry/pantrylaw10.FileActs", spec := "fileActs", unfollowed := true, recurses := true, plainKeys := false, apart := false, narrowed := true }
def FileActsUptoSaid : Prop := fileActsUptoRow.holds Try.pinned (OpenSpec.upto fileActsSpec)

/-- 'pantrylaw10.FileNone', WHERE WHAT IT READS IS OF BULK AT MOST 1048576: true; the input reads as it did. -/
def fileNoneUptoRow : OpenClaim := { program := "ytjdemlagmamlbaa", sum := "0caddef2862b206e8e5682d5c38351cecdce04cb85ad0718057bc8d2d7cc45a2", func := "pantry/pantrylaw10.FileNone", spec := "fileNone", unfollowed := true, recurses := true, plainKeys := false, apart := false, narrowed := true }
def FileNoneUptoSaid : Prop := fileNoneUptoRow.holds Try.pinned (OpenSpec.upto fileNoneSpec)

/-- 'pantrylaw11.SpreadActs', WHERE WHAT IT READS IS OF BULK AT MOST 1048576: true; the input reads as it did. -/
def spreadActsUptoRow : OpenClaim := { program := "ytjdemlagmamlbaa", sum := "0caddef2862b206e8e5682d5c38351cecdce04cb85ad0718057bc8d2d7cc45a2", func := "pantry/pantrylaw11.SpreadActs", spec := "spreadActs", unfollowed := true, recurses := true, plainKeys := false, apart := false, narrowed := true }
def SpreadActsUptoSaid : Prop := spreadActsUptoRow.holds Try.pinned (OpenSpec.upto spreadActsSpec)

/-- 'pantrylaw11.SpreadRuns', WHERE WHAT IT READS IS OF BULK AT MOST 1048576: true; the input reads as it did. -/
def spreadRunsUptoRow : OpenClaim := { program := "ytjdemlagmamlbaa", sum := "0caddef2862b206e8e5682d5c38351cecdce04cb85ad0718057bc8d2d7cc45a2", func := "pantry/pantrylaw11.SpreadRuns", spec := "spreadRuns", unfollowed := true, recurses := true, plainKeys := false, apart := false, narrowed := true }
def SpreadRunsUptoSaid : Prop := spreadRunsUptoRow.holds Try.pinned (OpenSpec.upto spreadRunsSpec)

/-- 'pantrylaw11.SpreadZeros', WHERE WHAT IT READS IS OF BULK AT MOST 1048576: true; the input reads as it did. -/
def spreadZerosUptoRow : OpenClaim := { program := "ytjdemlagmamlbaa", sum := "0caddef2862b206e8e5682d5c38351cecdce04cb85ad0718057bc8d2d7cc45a2", func := "pantry/pantrylaw11.SpreadZeros", spec := "spreadZeros", unfollowed := true, recurses := true, plainKeys := false, apart := false, narrowed := true }
def SpreadZerosUptoSaid : Prop := spreadZerosUptoRow.holds Try.pinned (OpenSpec.upto spreadZerosSpec)

/-- 'pantrylaw11.SpreadBack', WHERE WHAT IT READS IS OF BULK AT MOST 1048576: true; the input reads as it did. -/
def spreadBackUptoRow : OpenClaim := { program := "ytjdemlagmamlbaa", sum := "0caddef2862b206e8e5682d5c38351cecdce04cb85ad0718057bc8d2d7cc45a2", func := "pantry/pantrylaw11.SpreadBack", spec := "spreadBack", unfollowed := true, recurses := true, plainKeys := false, apart := false, narrowed := true }
def SpreadBackUptoSaid : Prop := spreadBackUptoRow.holds Try.pinned (OpenSpec.upto spreadBackSpec)

/-- 'pantrylaw11.SpreadNone', WHERE WHAT IT READS IS OF BULK AT MOST 1048576: true; the input reads as it did. -/
def spreadNoneUptoRow : OpenClaim := { program := "ytjdemlagmamlbaa", sum := "0caddef2862b206e8e5682d5c38351cecdce04cb85ad0718057bc8d2d7cc45a2", func := "pantry/pantrylaw11.SpreadNone", spec := "spreadNone", unfollowed := true, recurses := true, plainKeys := false, apart := false, narrowed := true }
def SpreadNoneUptoSaid : Prop := spreadNoneUptoRow.holds Try.pinned (OpenSpec.upto spreadNoneSpec)

/-- 'pantrylaw13.AmapNumbers', WHERE WHAT IT READS IS OF BULK AT MOST 1048576: true; the input reads as it did. -/
def amapNumbersUptoRow : OpenClaim := { program := "ytjdemlagmamlbaa", sum := "0caddef2862b206e8e5682d5c38351cecdce04cb85ad0718057bc8d2d7cc45a2", func := "pantry/pantrylaw13.AmapNumbers", spec := "amapNumbers", unfollowed := true, recurses := true, plainKeys := false, apart := false, narrowed := true }
def AmapNumbersUptoSaid : Prop := amapNumbersUptoRow.holds Try.pinned (OpenSpec.upto amapNumbersSpec)

/-- 'pantrylaw13.AmapCovers', WHERE WHAT IT READS IS OF BULK AT MOST 1048576: true; the input reads as it did. -/
def amapCoversUptoRow : OpenClaim := { program := "ytjdemlagmamlbaa", sum := "0caddef2862b206e8e5682d5c38351cecdce04cb85ad0718057bc8d2d7cc45a2", func := "pantry/pantrylaw13.AmapCovers", spec := "amapCovers", unfollowed := true, recurses := true, plainKeys := false, apart := false, narrowed := true }
def AmapCoversUptoSaid : Prop := amapCoversUptoRow.holds Try.pinned (OpenSpec.upto amapCoversSpec)

/-- 'pantrylaw13.AmapCopies', WHERE WHAT IT READS IS OF BULK AT MOST 1048576: true; the input reads as it did. -/
def amapCopiesUptoRow : OpenClaim := { program := "ytjdemlagmamlbaa", sum := "0caddef2862b206e8e5682d5c38351cecdce04cb85ad0718057bc8d2d7cc45a2", func := "pantry/pantrylaw13.AmapCopies", spec := "amapCopies", unfollowed := true, recurses := true, plainKeys := false, apart := false, narrowed := true }
def AmapCopiesUptoSaid : Prop := amapCopiesUptoRow.holds Try.pinned (OpenSpec.upto amapCopiesSpec)

/-- 'pantrylaw13.AmapActs', WHERE WHAT IT READS IS OF BULK AT MOST 1048576: true; the input reads as it did. -/
def amapActsUptoRow : OpenClaim := { program := "ytjdemlagmamlbaa", sum := "0caddef2862b206e8e5682d5c38351cecdce04cb85ad0718057bc8d2d7cc45a2", func := "pantry/pantrylaw13.AmapActs", spec := "amapActs", unfollowed := true, recurses := true, plainKeys := false, apart := false, narrowed := true }
def AmapActsUptoSaid : Prop := amapActsUptoRow.holds Try.pinned (OpenSpec.upto amapActsSpec)

/-- 'pantrylaw13.AmapNone', WHERE WHAT IT READS IS OF BULK AT MOST 1048576: true; the input reads as it did. -/
def amapNoneUptoRow : OpenClaim := { program := "ytjdemlagmamlbaa", sum := "0caddef2862b206e8e5682d5c38351cecdce04cb85ad0718057bc8d2d7cc45a2", func := "pantry/pantrylaw13.AmapNone", spec := "amapNone", unfollowed := true, recurses := true, plainKeys := false, apart := false, narrowed := true }
def AmapNoneUptoSaid : Prop := amapNoneUptoRow.holds Try.pinned (OpenSpec.upto amapNoneSpec)

end Rows
end Go.Proofs.Ytjdemlagmamlbaa
