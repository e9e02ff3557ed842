/-
  No cell of these rows narrows 'for every input' (looked for: loops, veiled, ifaces, maps, wideKeys, modest, calm, conditions, laid).
  DERIVED. THE GIVEN ROWS OF THIS SEAT. 12 by the template 'for every input the law returns true; each argument reads behind the call as it read before'; 0 by the template 'total and deterministic' (their statements: YtkmdlompgbnnkaaTotals.lean).
  GIVEN WITH THE SEED: the statements are not yours to turn. If you find one false, say at which input.
  Laid BY PROGRAM, IN A SANDBOX (cutbox-rows.mjs): the forced cells as the released guide's own fill.sh prints them over the translation d142578d6188f448… (all of the seat's roots in one cut). By AI agents, Wed Nov 11 2026. No macro, syntax, notation, axiom, sorry.
-/
import Derived.Test.YtkmdlompgbnnkaaChecked
import GoSem.Claim
import GoSem.ClaimJoined
import GoSem.ClaimMapViews
import Derived.JoinedTies
import Derived.KernelRfl
namespace Go.Proofs.Ytkmdlompgbnnkaa
/- THE CELL 'sum', in the pinned program and in every row, IS THE sha256 OF THE DUMP (.gsa) THAT YtkmdlompgbnnkaaProg.lean LOADS. Nothing in Lean hashes anything: it is a label: what it is worth is what the hold of that sum in a sandbox is worth. -/
noncomputable def Try.pinned : Pinned := { name := "ytkmdlompgbnnkaa", sum := "d142578d6188f4488aef8524e19bbbba8e40ec5711d641832762d9d168249f29", checked := Try.checked }
namespace Rows
def none {H : Type} : Left H := { results := [], args := [] }

/-- 'laws.FnExactFirstDesk': WHATEVER THE INPUT: true; the input reads as it did. -/
def fnExactFirstDeskSpec : ChangeSpec := { name := "fnExactFirstDesk", fn := fun _ => fun
  | [] => { results := [.lit (.bool true)], args := [] }
  | _ => none }
def fnExactFirstDeskRow : OpenClaim := { program := "ytkmdlompgbnnkaa", sum := "d142578d6188f4488aef8524e19bbbba8e40ec5711d641832762d9d168249f29", func := "loop.example/g01127/laws.FnExactFirstDesk", spec := "fnExactFirstDesk", apart := false }
def FnExactFirstDeskSaid : Prop := fnExactFirstDeskRow.holds Try.pinned (OpenSpec.ofChange fnExactFirstDeskSpec)

/-- ITS FALSE NEIGHBOUR: 'it returns false'. Refute it at one input. -/
def fnExactFirstDeskWrong : ChangeSpec := { name := "fnExactFirstDesk", fn := fun _ => fun
  | [] => { results := [.lit (.bool false)], args := [] }
  | _ => none }
def FnExactFirstDeskWrongFalsely : Prop := fnExactFirstDeskRow.holds Try.pinned (OpenSpec.ofChange fnExactFirstDeskWrong)

/-- 'laws.FnExactLengthOf': WHATEVER THE INPUT: true; the input reads as it did. -/
def fnExactLengthOfSpec : ChangeSpec := { name := "fnExactLengthOf", fn := fun _ => fun
  | [d1, d2] => { results := [.lit (.bool true)], args := [d1, d2] }
  | _ => none }
def fnExactLengthOfRow : OpenClaim := { program := "ytkmdlompgbnnkaa", sum := "d142578d6188f4488aef8524e19bbbba8e40ec5711d641832762d9d168249f29", func := "loop.example/g01127/laws.FnExactLengthOf", spec := "fnExactLengthOf", unfollowed := true, recurses := true, apart := false }
def FnExactLengthOfSaid : Prop := fnExactLengthOfRow.holds Try.pinned (OpenSpec.ofChange fnExactLengthOfSpec)

/-- ITS FALSE NEIGHBOUR: 'it returns false'. Refute it at one input. -/
def fnExactLengthOfWrong : ChangeSpec := { name := "fnExactLengthOf", fn := fun _ => fun
  | [d1, d2] => { results := [.lit (.bool false)], args := [d1, d2] }
  | _ => none }
def FnExactLengthOfWrongFalsely : Prop := fnExactLengthOfRow.holds Try.pinned (OpenSpec.ofChange fnExactLengthOfWrong)

/-- 'laws.FnExactFirstOrder': WHATEVER THE INPUT: true; the input reads as it did. -/
def fnExactFirstOrderSpec : ChangeSpec := { name := "fnExactFirstOrder", fn := fun _ => fun
  | [d] => { results := [.lit (.bool true)], args := [d] }
  | _ => none }
def fnExactFirstOrderRow : OpenClaim := { program := "ytkmdlompgbnnkaa", sum := "d142578d6188f4488aef8524e19bbbba8e40ec5711d641832762d9d168249f29", func := "loop.example/g01127/laws.FnExactFirstOrder", spec := "fnExactFirstOrder", unfollowed := true, recurses := true, apart := false }
def FnExactFirstOrderSaid : Prop := fnExactFirstOrderRow.holds Try.pinned (OpenSpec.ofChange fnExactFirstOrderSpec)

/-- ITS FALSE NEIGHBOUR: 'it returns false'. Refute it at one input. -/
def fnExactFirstOrderWrong : ChangeSpec := { name := "fnExactFirstOrder", fn := fun _ => fun
  | [d] => { results := [.lit (.bool false)], args := [d] }
  | _ => none }
def FnExactFirstOrderWrongFalsely : Prop := fnExactFirstOrderRow.holds Try.pinned (OpenSpec.ofChange fnExactFirstOrderWrong)

/-- 'laws.FnExactCountPrograms': WHATEVER THE INPUT: true; the input reads as it did. -/
def fnExactCountProgramsSpec : ChangeSpec := { name := "fnExactCountPrograms", fn := fun _ => fun
  | [d1, d2] => { results := [.lit (.bool true)], args := [d1, d2] }
  | _ => none }
def fnExactCountProgramsRow : OpenClaim := { program := "ytkmdlompgbnnkaa", sum := "d142578d6188f4488aef8524e19bbbba8e40ec5711d641832762d9d168249f29", func := "loop.example/g01127/laws.FnExactCountPrograms", spec := "fnExactCountPrograms", apart := false }
def FnExactCountProgramsSaid : Prop := fnExactCountProgramsRow.holds Try.pinned (OpenSpec.ofChange fnExactCountProgramsSpec)

/-- ITS FALSE NEIGHBOUR: 'it returns false'. Refute it at one input. -/
def fnExactCountProgramsWrong : ChangeSpec := { name := "fnExactCountPrograms", fn := fun _ => fun
  | [d1, d2] => { results := [.lit (.bool false)], args := [d1, d2] }
  | _ => none }
def FnExactCountProgramsWrongFalsely : Prop := fnExactCountProgramsRow.holds Try.pinned (OpenSpec.ofChange fnExactCountProgramsWrong)

/-- 'laws.FnExactIsUntouched': WHATEVER THE INPUT: true; the input reads as it did. -/
def fnExactIsUntouchedSpec : ChangeSpec := { name := "fnExactIsUntouched", fn := fun _ => fun
  | [d1, d2] => { results := [.lit (.bool true)], args := [d1, d2] }
  | _ => none }
def fnExactIsUntouchedRow : OpenClaim := { program := "ytkmdlompgbnnkaa", sum := "d142578d6188f4488aef8524e19bbbba8e40ec5711d641832762d9d168249f29", func := "loop.example/g01127/laws.FnExactIsUntouched", spec := "fnExactIsUntouched", unfollowed := true, recurses := true, apart := false }
def FnExactIsUntouchedSaid : Prop := fnExactIsUntouchedRow.holds Try.pinned (OpenSpec.ofChange fnExactIsUntouchedSpec)

/-- ITS FALSE NEIGHBOUR: 'it returns false'. Refute it at one input. -/
def fnExactIsUntouchedWrong : ChangeSpec := { name := "fnExactIsUntouched", fn := fun _ => fun
  | [d1, d2] => { results := [.lit (.bool false)], args := [d1, d2] }
  | _ => none }
def FnExactIsUntouchedWrongFalsely : Prop := fnExactIsUntouchedRow.holds Try.pinned (OpenSpec.ofChange fnExactIsUntouchedWrong)

/-- 'laws.FnExactIsProgram': WHATEVER THE INPUT: true; the input reads as it did. -/
def fnExactIsProgramSpec : ChangeSpec := { name := "fnExactIsProgram", fn := fun _ => fun
  | [d1, d2] => { results := [.lit (.bool true)], args := [d1, d2] }
  | _ => none }
def fnExactIsProgramRow : OpenClaim := { program := "ytkmdlompgbnnkaa", sum := "d142578d6188f4488aef8524e19bbbba8e40ec5711d641832762d9d168249f29", func := "loop.example/g01127/laws.FnExactIsProgram", spec := "fnExactIsProgram", apart := false }
def FnExactIsProgramSaid : Prop := fnExactIsProgramRow.holds Try.pinned (OpenSpec.ofChange fnExactIsProgramSpec)

/-- ITS FALSE NEIGHBOUR: 'it returns false'. Refute it at one input. -/
def fnExactIsProgramWrong : ChangeSpec := { name := "fnExactIsProgram", fn := fun _ => fun
  | [d1, d2] => { results := [.lit (.bool false)], args := [d1, d2] }
  | _ => none }
def FnExactIsProgramWrongFalsely : Prop := fnExactIsProgramRow.holds Try.pinned (OpenSpec.ofChange fnExactIsProgramWrong)

/-- 'laws.FnExactStepsOf': WHATEVER THE INPUT: true; the input reads as it did. -/
def fnExactStepsOfSpec : ChangeSpec := { name := "fnExactStepsOf", fn := fun _ => fun
  | [d1, d2] => { results := [.lit (.bool true)], args := [d1, d2] }
  | _ => none }
def fnExactStepsOfRow : OpenClaim := { program := "ytkmdlompgbnnkaa", sum := "d142578d6188f4488aef8524e19bbbba8e40ec5711d641832762d9d168249f29", func := "loop.example/g01127/laws.FnExactStepsOf", spec := "fnExactStepsOf", apart := false }
def FnExactStepsOfSaid : Prop := fnExactStepsOfRow.holds Try.pinned (OpenSpec.ofChange fnExactStepsOfSpec)

/-- ITS FALSE NEIGHBOUR: 'it returns false'. Refute it at one input. -/
def fnExactStepsOfWrong : ChangeSpec := { name := "fnExactStepsOf", fn := fun _ => fun
  | [d1, d2] => { results := [.lit (.bool false)], args := [d1, d2] }
  | _ => none }
def FnExactStepsOfWrongFalsely : Prop := fnExactStepsOfRow.holds Try.pinned (OpenSpec.ofChange fnExactStepsOfWrong)

/-- 'laws.FnExactIsDesk': WHATEVER THE INPUT: true; the input reads as it did. -/
def fnExactIsDeskSpec : ChangeSpec := { name := "fnExactIsDesk", fn := fun _ => fun
  | [d] => { results := [.lit (.bool true)], args := [d] }
  | _ => none }
def fnExactIsDeskRow : OpenClaim := { program := "ytkmdlompgbnnkaa", sum := "d142578d6188f4488aef8524e19bbbba8e40ec5711d641832762d9d168249f29", func := "loop.example/g01127/laws.FnExactIsDesk", spec := "fnExactIsDesk", unfollowed := true, recurses := true, apart := false }
def FnExactIsDeskSaid : Prop := fnExactIsDeskRow.holds Try.pinned (OpenSpec.ofChange fnExactIsDeskSpec)

/-- ITS FALSE NEIGHBOUR: 'it returns false'. Refute it at one input. -/
def fnExactIsDeskWrong : ChangeSpec := { name := "fnExactIsDesk", fn := fun _ => fun
  | [d] => { results := [.lit (.bool false)], args := [d] }
  | _ => none }
def FnExactIsDeskWrongFalsely : Prop := fnExactIsDeskRow.holds Try.pinned (OpenSpec.ofChange fnExactIsDeskWrong)

/-- 'laws.FnExactRankProgram': WHATEVER THE INPUT: true; the input reads as it did. -/
def fnExactRankProgramSpec : ChangeSpec := { name := "fnExactRankProgram", fn := fun _ => fun
  | [d1, d2] => { results := [.lit (.bool true)], args := [d1, d2] }
  | _ => none }
def fnExactRankProgramRow : OpenClaim := { program := "ytkmdlompgbnnkaa", sum := "d142578d6188f4488aef8524e19bbbba8e40ec5711d641832762d9d168249f29", func := "loop.example/g01127/laws.FnExactRankProgram", spec := "fnExactRankProgram", apart := false }
def FnExactRankProgramSaid : Prop := fnExactRankProgramRow.holds Try.pinned (OpenSpec.ofChange fnExactRankProgramSpec)

/-- ITS FALSE NEIGHBOUR: 'it returns false'. Refute it at one input. -/
def fnExactRankProgramWrong : ChangeSpec := { name := "fnExactRankProgram", fn := fun _ => fun
  | [d1, d2] => { results := [.lit (.bool false)], args := [d1, d2] }
  | _ => none }
def FnExactRankProgramWrongFalsely : Prop := fnExactRankProgramRow.holds Try.pinned (OpenSpec.ofChange fnExactRankProgramWrong)

/-- 'laws.FnExactAreSameBlocks': WHATEVER THE INPUT: true; the input reads as it did. -/
def fnExactAreSameBlocksSpec : ChangeSpec := { name := "fnExactAreSameBlocks", fn := fun _ => fun
  | [d1, d2, d3] => { results := [.lit (.bool true)], args := [d1, d2, d3] }
  | _ => none }
def fnExactAreSameBlocksRow : OpenClaim := { program := "ytkmdlompgbnnkaa", sum := "d142578d6188f4488aef8524e19bbbba8e40ec5711d641832762d9d168249f29", func := "loop.example/g01127/laws.FnExactAreSameBlocks", spec := "fnExactAreSameBlocks", unfollowed := true, recurses := true, apart := false }
def FnExactAreSameBlocksSaid : Prop := fnExactAreSameBlocksRow.holds Try.pinned (OpenSpec.ofChange fnExactAreSameBlocksSpec)

/-- ITS FALSE NEIGHBOUR: 'it returns false'. Refute it at one input. -/
def fnExactAreSameBlocksWrong : ChangeSpec := { name := "fnExactAreSameBlocks", fn := fun _ => fun
  | [d1, d2, d3] => { results := [.lit (.bool false)], args := [d1, d2, d3] }
  | _ => none }
def FnExactAreSameBlocksWrongFalsely : Prop := fnExactAreSameBlocksRow.holds Try.pinned (OpenSpec.ofChange fnExactAreSameBlocksWrong)

/-- 'laws.FnExactProgramWith': WHATEVER THE INPUT: true; the input reads as it did. -/
def fnExactProgramWithSpec : ChangeSpec := { name := "fnExactProgramWith", fn := fun _ => fun
  | [d1, d2, d3] => { results := [.lit (.bool true)], args := [d1, d2, d3] }
  | _ => none }
def fnExactProgramWithRow : OpenClaim := { program := "ytkmdlompgbnnkaa", sum := "d142578d6188f4488aef8524e19bbbba8e40ec5711d641832762d9d168249f29", func := "loop.example/g01127/laws.FnExactProgramWith", spec := "fnExactProgramWith", apart := false }
def FnExactProgramWithSaid : Prop := fnExactProgramWithRow.holds Try.pinned (OpenSpec.ofChange fnExactProgramWithSpec)

/-- ITS FALSE NEIGHBOUR: 'it returns false'. Refute it at one input. -/
def fnExactProgramWithWrong : ChangeSpec := { name := "fnExactProgramWith", fn := fun _ => fun
  | [d1, d2, d3] => { results := [.lit (.bool false)], args := [d1, d2, d3] }
  | _ => none }
def FnExactProgramWithWrongFalsely : Prop := fnExactProgramWithRow.holds Try.pinned (OpenSpec.ofChange fnExactProgramWithWrong)

/-- 'laws.FnExactOrderOfSchedule': WHATEVER THE INPUT: true; the input reads as it did. -/
def fnExactOrderOfScheduleSpec : ChangeSpec := { name := "fnExactOrderOfSchedule", fn := fun _ => fun
  | [d1, d2] => { results := [.lit (.bool true)], args := [d1, d2] }
  | _ => none }
def fnExactOrderOfScheduleRow : OpenClaim := { program := "ytkmdlompgbnnkaa", sum := "d142578d6188f4488aef8524e19bbbba8e40ec5711d641832762d9d168249f29", func := "loop.example/g01127/laws.FnExactOrderOfSchedule", spec := "fnExactOrderOfSchedule", unfollowed := true, recurses := true, apart := false }
def FnExactOrderOfScheduleSaid : Prop := fnExactOrderOfScheduleRow.holds Try.pinned (OpenSpec.ofChange fnExactOrderOfScheduleSpec)

/-- ITS FALSE NEIGHBOUR: 'it returns false'. Refute it at one input. -/
def fnExactOrderOfScheduleWrong : ChangeSpec := { name := "fnExactOrderOfSchedule", fn := fun _ => fun
  | [d1, d2] => { results := [.lit (.bool false)], args := [d1, d2] }
  | _ => none }
def FnExactOrderOfScheduleWrongFalsely : Prop := fnExactOrderOfScheduleRow.holds Try.pinned (OpenSpec.ofChange fnExactOrderOfScheduleWrong)

/- THE SECOND FORM. 'bulk': how many values and letters a reading holds, each counted each time it is reached (what is shared counts as often as it is met; a slice's spare places count too). A statement '..UptoSaid' is the law's where the arguments, and the package variables that the reading takes, are together of bulk at most 1048576: NARROWER than '..Said'. Prove '..Said' where nothing that the law and all that it calls make is longer than what came in: it says more and counts as full. Else prove '..UptoSaid'. A law counts once. -/
mutual
def uptoBulk {H : Type} : DataW H → Nat
  | .lit (.string bytes) => bytes.length + 1
  | .lit _ => 1
  | .nil => 1
  | .ptr d => uptoBulk d + 1
  | .slice elems spare => uptoBulkAll elems + uptoBulkAll spare + 1
  | .agg parts => uptoBulkAll parts + 1
  | .iface _ d => uptoBulk d + 1
  | .map entries => uptoBulkEntries entries + 1
  | .held _ => 1
def uptoBulkAll {H : Type} : List (DataW H) → Nat
  | [] => 0
  | d :: r => uptoBulk d + uptoBulkAll r
def uptoBulkEntries {H : Type} : List (Lit × DataW H) → Nat
  | [] => 0
  | x :: r => uptoBulkEntry x + uptoBulkEntries r
def uptoBulkEntry {H : Type} : Lit × DataW H → Nat
  | (.string bytes, d) => bytes.length + uptoBulk d + 1
  | (_, d) => uptoBulk d + 1
 end
def uptoSmall : (H : Type) → List (DataW H) → Bool := fun _ ds => decide (uptoBulkAll ds ≤ 1048576)
def OpenSpec.upto (s : _root_.Go.ChangeSpec) : _root_.Go.OpenSpec := { _root_.Go.OpenSpec.ofChange s with cond := some uptoSmall }

/-- 'laws.FnExactFirstDesk', WHERE WHAT IT READS IS OF BULK AT MOST 1048576: true; the input reads as it did. -/
def fnExactFirstDeskUptoRow : OpenClaim := { program := "ytkmdlompgbnnkaa", sum := "d142578d6188f4488aef8524e19bbbba8e40ec5711d641832762d9d168249f29", func := "loop.example/g01127/laws.FnExactFirstDesk", spec := "fnExactFirstDesk", apart := false, narrowed := true }
def FnExactFirstDeskUptoSaid : Prop := fnExactFirstDeskUptoRow.holds Try.pinned (OpenSpec.upto fnExactFirstDeskSpec)

/-- 'laws.FnExactLengthOf', WHERE WHAT IT READS IS OF BULK AT MOST 1048576: true; the input reads as it did. -/
def fnExactLengthOfUptoRow : OpenClaim := { program := "ytkmdlompgbnnkaa", sum := "d142578d6188f4488aef8524e19bbbba8e40ec5711d641832762d9d168249f29", func := "loop.example/g01127/laws.FnExactLengthOf", spec := "fnExactLengthOf", unfollowed := true, recurses := true, apart := false, narrowed := true }
def FnExactLengthOfUptoSaid : Prop := fnExactLengthOfUptoRow.holds Try.pinned (OpenSpec.upto fnExactLengthOfSpec)

/-- 'laws.FnExactFirstOrder', WHERE WHAT IT READS IS OF BULK AT MOST 1048576: true; the input reads as it did. -/
def fnExactFirstOrderUptoRow : OpenClaim := { program := "ytkmdlompgbnnkaa", sum := "d142578d6188f4488aef8524e19bbbba8e40ec5711d641832762d9d168249f29", func := "loop.example/g01127/laws.FnExactFirstOrder", spec := "fnExactFirstOrder", unfollowed := true, recurses := true, apart := false, narrowed := true }
def FnExactFirstOrderUptoSaid : Prop := fnExactFirstOrderUptoRow.holds Try.pinned (OpenSpec.upto fnExactFirstOrderSpec)

/-- 'laws.FnExactCountPrograms', WHERE WHAT IT READS IS OF BULK AT MOST 1048576: true; the input reads as it did. -/
def fnExactCountProgramsUptoRow : OpenClaim := { program := "ytkmdlompgbnnkaa", sum := "d142578d6188f4488aef8524e19bbbba8e40ec5711d641832762d9d168249f29", func := "loop.example/g01127/laws.FnExactCountPrograms", spec := "fnExactCountPrograms", apart := false, narrowed := true }
def FnExactCountProgramsUptoSaid : Prop := fnExactCountProgramsUptoRow.holds Try.pinned (OpenSpec.upto fnExactCountProgramsSpec)

/-- 'laws.FnExactIsUntouched', WHERE WHAT IT READS IS OF BULK AT MOST 1048576: true; the input reads as it did. -/
def fnExactIsUntouchedUptoRow : OpenClaim := { program := "ytkmdlompgbnnkaa", sum := "d142578d6188f4488aef8524e19bbbba8e40ec5711d641832762d9d168249f29", func := "loop.example/g01127/laws.FnExactIsUntouched", spec := "fnExactIsUntouched", unfollowed := true, recurses := true, apart := false, narrowed := true }
def FnExactIsUntouchedUptoSaid : Prop := fnExactIsUntouchedUptoRow.holds Try.pinned (OpenSpec.upto fnExactIsUntouchedSpec)

/-- 'laws.FnExactIsProgram', WHERE WHAT IT READS IS OF BULK AT MOST 1048576: true; the input reads as it did. -/
def fnExactIsProgramUptoRow : OpenClaim := { program := "ytkmdlompgbnnkaa", sum := "d142578d6188f4488aef8524e19bbbba8e40ec5711d641832762d9d168249f29", func := "loop.example/g01127/laws.FnExactIsProgram", spec := "fnExactIsProgram", apart := false, narrowed := true }
def FnExactIsProgramUptoSaid : Prop := fnExactIsProgramUptoRow.holds Try.pinned (OpenSpec.upto fnExactIsProgramSpec)

/-- 'laws.FnExactStepsOf', WHERE WHAT IT READS IS OF BULK AT MOST 1048576: true; the input reads as it did. -/
def fnExactStepsOfUptoRow : OpenClaim := { program := "ytkmdlompgbnnkaa", sum := "d142578d6188f4488aef8524e19bbbba8e40ec5711d641832762d9d168249f29", func := "loop.example/g01127/laws.FnExactStepsOf", spec := "fnExactStepsOf", apart := false, narrowed := true }
def FnExactStepsOfUptoSaid : Prop := fnExactStepsOfUptoRow.holds Try.pinned (OpenSpec.upto fnExactStepsOfSpec)

/-- 'laws.FnExactIsDesk', WHERE WHAT IT READS IS OF BULK AT MOST 1048576: true; the input reads as it did. -/
def fnExactIsDeskUptoRow : OpenClaim := { program := "ytkmdlompgbnnkaa", sum := "d142578d6188f4488aef8524e19bbbba8e40ec5711d641832762d9d168249f29", func := "loop.example/g01127/laws.FnExactIsDesk", spec := "fnExactIsDesk", unfollowed := true, recurses := true, apart := false, narrowed := true }
def FnExactIsDeskUptoSaid : Prop := fnExactIsDeskUptoRow.holds Try.pinned (OpenSpec.upto fnExactIsDeskSpec)

/-- 'laws.FnExactRankProgram', WHERE WHAT IT READS IS OF BULK AT MOST 1048576: true; the input reads as it did. -/
def fnExactRankProgramUptoRow : OpenClaim := { program := "ytkmdlompgbnnkaa", sum := "d142578d6188f4488aef8524e19bbbba8e40ec5711d641832762d9d168249f29", func := "loop.example/g01127/laws.FnExactRankProgram", spec := "fnExactRankProgram", apart := false, narrowed := true }
def FnExactRankProgramUptoSaid : Prop := fnExactRankProgramUptoRow.holds Try.pinned (OpenSpec.upto fnExactRankProgramSpec)

/-- 'laws.FnExactAreSameBlocks', WHERE WHAT IT READS IS OF BULK AT MOST 1048576: true; the input reads as it did. -/
def fnExactAreSameBlocksUptoRow : OpenClaim := { program := "ytkmdlompgbnnkaa", sum := "d142578d6188f4488aef8524e19bbbba8e40ec5711d641832762d9d168249f29", func := "loop.example/g01127/laws.FnExactAreSameBlocks", spec := "fnExactAreSameBlocks", unfollowed := true, recurses := true, apart := false, narrowed := true }
def FnExactAreSameBlocksUptoSaid : Prop := fnExactAreSameBlocksUptoRow.holds Try.pinned (OpenSpec.upto fnExactAreSameBlocksSpec)

/-- 'laws.FnExactProgramWith', WHERE WHAT IT READS IS OF BULK AT MOST 1048576: true; the input reads as it did. -/
def fnExactProgramWithUptoRow : OpenClaim := { program := "ytkmdlompgbnnkaa", sum := "d142578d6188f4488aef8524e19bbbba8e40ec5711d641832762d9d168249f29", func := "loop.example/g01127/laws.FnExactProgramWith", spec := "fnExactProgramWith", apart := false, narrowed := true }
def FnExactProgramWithUptoSaid : Prop := fnExactProgramWithUptoRow.holds Try.pinned (OpenSpec.upto fnExactProgramWithSpec)

/-- 'laws.FnExactOrderOfSchedule', WHERE WHAT IT READS IS OF BULK AT MOST 1048576: true; the input reads as it did. -/
def fnExactOrderOfScheduleUptoRow : OpenClaim := { program := "ytkmdlompgbnnkaa", sum := "d142578d6188f4488aef8524e19bbbba8e40ec5711d641832762d9d168249f29", func := "loop.example/g01127/laws.FnExactOrderOfSchedule", spec := "fnExactOrderOfSchedule", unfollowed := true, recurses := true, apart := false, narrowed := true }
def FnExactOrderOfScheduleUptoSaid : Prop := fnExactOrderOfScheduleUptoRow.holds Try.pinned (OpenSpec.upto fnExactOrderOfScheduleSpec)

end Rows
end Go.Proofs.Ytkmdlompgbnnkaa
