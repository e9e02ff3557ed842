/-
  No cell of these rows narrows 'for every input' (looked for: loops, veiled, ifaces, maps, wideKeys, modest, calm, conditions, laid).
  DERIVED. THE GIVEN ROWS OF THIS SEAT. 10 by the template 'for every input the law returns true; each argument reads behind the call as it read before'; 0 by the template 'total and deterministic' (their statements: YtccoiifklcgodaaTotals.lean).
  GIVEN WITH THE SEED: the statements are not yours to turn. If you find one false, say at which input.
  Laid BY PROGRAM, IN A SANDBOX (cutbox-rows.mjs): the forced cells as the released guide's own fill.sh prints them over the translation 409dbdb8944ad4eb… (all of the seat's roots in one cut). By AI agents, Wed Nov 11 2026. No macro, syntax, notation, axiom, sorry.
-/
import Derived.Test.YtccoiifklcgodaaChecked
import GoSem.Claim
import GoSem.ClaimJoined
import GoSem.ClaimMapViews
import Derived.JoinedTies
import Derived.KernelRfl
namespace Go.Proofs.Ytccoiifklcgodaa
/- THE CELL 'sum', in the pinned program and in every row, IS THE sha256 OF THE DUMP (.gsa) THAT YtccoiifklcgodaaProg.lean LOADS. Nothing in Lean hashes anything: it is a label: what it is worth is what the hold of that sum in a sandbox is worth. -/
noncomputable def Try.pinned : Pinned := { name := "ytccoiifklcgodaa", sum := "409dbdb8944ad4ebbeef8f0614f951b8df7198842079d360a7c7018aa3916fd4", checked := Try.checked }
namespace Rows
def none {H : Type} : Left H := { results := [], args := [] }

/-- 'laws.FnExactOrderedExpr': WHATEVER THE INPUT: true; the input reads as it did. -/
def fnExactOrderedExprSpec : ChangeSpec := { name := "fnExactOrderedExpr", fn := fun _ => fun
  | [d] => { results := [.lit (.bool true)], args := [d] }
  | _ => none }
def fnExactOrderedExprRow : OpenClaim := { program := "ytccoiifklcgodaa", sum := "409dbdb8944ad4ebbeef8f0614f951b8df7198842079d360a7c7018aa3916fd4", func := "loop.example/g01127/laws.FnExactOrderedExpr", spec := "fnExactOrderedExpr", unfollowed := true, recurses := true, apart := false }
def FnExactOrderedExprSaid : Prop := fnExactOrderedExprRow.holds Try.pinned (OpenSpec.ofChange fnExactOrderedExprSpec)

/-- ITS FALSE NEIGHBOUR: 'it returns false'. Refute it at one input. -/
def fnExactOrderedExprWrong : ChangeSpec := { name := "fnExactOrderedExpr", fn := fun _ => fun
  | [d] => { results := [.lit (.bool false)], args := [d] }
  | _ => none }
def FnExactOrderedExprWrongFalsely : Prop := fnExactOrderedExprRow.holds Try.pinned (OpenSpec.ofChange fnExactOrderedExprWrong)

/-- 'laws.FnExactTestsFor': WHATEVER THE INPUT: true; the input reads as it did. -/
def fnExactTestsForSpec : ChangeSpec := { name := "fnExactTestsFor", fn := fun _ => fun
  | [d1, d2] => { results := [.lit (.bool true)], args := [d1, d2] }
  | _ => none }
def fnExactTestsForRow : OpenClaim := { program := "ytccoiifklcgodaa", sum := "409dbdb8944ad4ebbeef8f0614f951b8df7198842079d360a7c7018aa3916fd4", func := "loop.example/g01127/laws.FnExactTestsFor", spec := "fnExactTestsFor", unfollowed := true, recurses := true, apart := false }
def FnExactTestsForSaid : Prop := fnExactTestsForRow.holds Try.pinned (OpenSpec.ofChange fnExactTestsForSpec)

/-- ITS FALSE NEIGHBOUR: 'it returns false'. Refute it at one input. -/
def fnExactTestsForWrong : ChangeSpec := { name := "fnExactTestsFor", fn := fun _ => fun
  | [d1, d2] => { results := [.lit (.bool false)], args := [d1, d2] }
  | _ => none }
def FnExactTestsForWrongFalsely : Prop := fnExactTestsForRow.holds Try.pinned (OpenSpec.ofChange fnExactTestsForWrong)

/-- 'laws.FnExactSymbolOf': WHATEVER THE INPUT: true; the input reads as it did. -/
def fnExactSymbolOfSpec : ChangeSpec := { name := "fnExactSymbolOf", fn := fun _ => fun
  | [d1, d2] => { results := [.lit (.bool true)], args := [d1, d2] }
  | _ => none }
def fnExactSymbolOfRow : OpenClaim := { program := "ytccoiifklcgodaa", sum := "409dbdb8944ad4ebbeef8f0614f951b8df7198842079d360a7c7018aa3916fd4", func := "loop.example/g01127/laws.FnExactSymbolOf", spec := "fnExactSymbolOf", unfollowed := true, recurses := true, apart := false }
def FnExactSymbolOfSaid : Prop := fnExactSymbolOfRow.holds Try.pinned (OpenSpec.ofChange fnExactSymbolOfSpec)

/-- ITS FALSE NEIGHBOUR: 'it returns false'. Refute it at one input. -/
def fnExactSymbolOfWrong : ChangeSpec := { name := "fnExactSymbolOf", fn := fun _ => fun
  | [d1, d2] => { results := [.lit (.bool false)], args := [d1, d2] }
  | _ => none }
def FnExactSymbolOfWrongFalsely : Prop := fnExactSymbolOfRow.holds Try.pinned (OpenSpec.ofChange fnExactSymbolOfWrong)

/-- 'laws.FnExactAreAlike': WHATEVER THE INPUT: true; the input reads as it did. -/
def fnExactAreAlikeSpec : ChangeSpec := { name := "fnExactAreAlike", fn := fun _ => fun
  | [d1, d2, d3] => { results := [.lit (.bool true)], args := [d1, d2, d3] }
  | _ => none }
def fnExactAreAlikeRow : OpenClaim := { program := "ytccoiifklcgodaa", sum := "409dbdb8944ad4ebbeef8f0614f951b8df7198842079d360a7c7018aa3916fd4", func := "loop.example/g01127/laws.FnExactAreAlike", spec := "fnExactAreAlike", unfollowed := true, recurses := true, apart := false }
def FnExactAreAlikeSaid : Prop := fnExactAreAlikeRow.holds Try.pinned (OpenSpec.ofChange fnExactAreAlikeSpec)

/-- ITS FALSE NEIGHBOUR: 'it returns false'. Refute it at one input. -/
def fnExactAreAlikeWrong : ChangeSpec := { name := "fnExactAreAlike", fn := fun _ => fun
  | [d1, d2, d3] => { results := [.lit (.bool false)], args := [d1, d2, d3] }
  | _ => none }
def FnExactAreAlikeWrongFalsely : Prop := fnExactAreAlikeRow.holds Try.pinned (OpenSpec.ofChange fnExactAreAlikeWrong)

/-- 'laws.FnExactPlainSymbol': WHATEVER THE INPUT: true; the input reads as it did. -/
def fnExactPlainSymbolSpec : ChangeSpec := { name := "fnExactPlainSymbol", fn := fun _ => fun
  | [d1, d2] => { results := [.lit (.bool true)], args := [d1, d2] }
  | _ => none }
def fnExactPlainSymbolRow : OpenClaim := { program := "ytccoiifklcgodaa", sum := "409dbdb8944ad4ebbeef8f0614f951b8df7198842079d360a7c7018aa3916fd4", func := "loop.example/g01127/laws.FnExactPlainSymbol", spec := "fnExactPlainSymbol", unfollowed := true, recurses := true, apart := false }
def FnExactPlainSymbolSaid : Prop := fnExactPlainSymbolRow.holds Try.pinned (OpenSpec.ofChange fnExactPlainSymbolSpec)

/-- ITS FALSE NEIGHBOUR: 'it returns false'. Refute it at one input. -/
def fnExactPlainSymbolWrong : ChangeSpec := { name := "fnExactPlainSymbol", fn := fun _ => fun
  | [d1, d2] => { results := [.lit (.bool false)], args := [d1, d2] }
  | _ => none }
def FnExactPlainSymbolWrongFalsely : Prop := fnExactPlainSymbolRow.holds Try.pinned (OpenSpec.ofChange fnExactPlainSymbolWrong)

/-- 'laws.FnExactIsPruned': WHATEVER THE INPUT: true; the input reads as it did. -/
def fnExactIsPrunedSpec : ChangeSpec := { name := "fnExactIsPruned", fn := fun _ => fun
  | [d1, d2] => { results := [.lit (.bool true)], args := [d1, d2] }
  | _ => none }
def fnExactIsPrunedRow : OpenClaim := { program := "ytccoiifklcgodaa", sum := "409dbdb8944ad4ebbeef8f0614f951b8df7198842079d360a7c7018aa3916fd4", func := "loop.example/g01127/laws.FnExactIsPruned", spec := "fnExactIsPruned", unfollowed := true, recurses := true, apart := false }
def FnExactIsPrunedSaid : Prop := fnExactIsPrunedRow.holds Try.pinned (OpenSpec.ofChange fnExactIsPrunedSpec)

/-- ITS FALSE NEIGHBOUR: 'it returns false'. Refute it at one input. -/
def fnExactIsPrunedWrong : ChangeSpec := { name := "fnExactIsPruned", fn := fun _ => fun
  | [d1, d2] => { results := [.lit (.bool false)], args := [d1, d2] }
  | _ => none }
def FnExactIsPrunedWrongFalsely : Prop := fnExactIsPrunedRow.holds Try.pinned (OpenSpec.ofChange fnExactIsPrunedWrong)

/-- 'laws.FnExactProgramTable': WHATEVER THE INPUT: true; the input reads as it did. -/
def fnExactProgramTableSpec : ChangeSpec := { name := "fnExactProgramTable", fn := fun _ => fun
  | [d1, d2] => { results := [.lit (.bool true)], args := [d1, d2] }
  | _ => none }
def fnExactProgramTableRow : OpenClaim := { program := "ytccoiifklcgodaa", sum := "409dbdb8944ad4ebbeef8f0614f951b8df7198842079d360a7c7018aa3916fd4", func := "loop.example/g01127/laws.FnExactProgramTable", spec := "fnExactProgramTable", unfollowed := true, recurses := true, apart := false }
def FnExactProgramTableSaid : Prop := fnExactProgramTableRow.holds Try.pinned (OpenSpec.ofChange fnExactProgramTableSpec)

/-- ITS FALSE NEIGHBOUR: 'it returns false'. Refute it at one input. -/
def fnExactProgramTableWrong : ChangeSpec := { name := "fnExactProgramTable", fn := fun _ => fun
  | [d1, d2] => { results := [.lit (.bool false)], args := [d1, d2] }
  | _ => none }
def FnExactProgramTableWrongFalsely : Prop := fnExactProgramTableRow.holds Try.pinned (OpenSpec.ofChange fnExactProgramTableWrong)

/-- 'laws.FnExactProgramReaches': WHATEVER THE INPUT: true; the input reads as it did. -/
def fnExactProgramReachesSpec : ChangeSpec := { name := "fnExactProgramReaches", fn := fun _ => fun
  | [d1, d2, d3] => { results := [.lit (.bool true)], args := [d1, d2, d3] }
  | _ => none }
def fnExactProgramReachesRow : OpenClaim := { program := "ytccoiifklcgodaa", sum := "409dbdb8944ad4ebbeef8f0614f951b8df7198842079d360a7c7018aa3916fd4", func := "loop.example/g01127/laws.FnExactProgramReaches", spec := "fnExactProgramReaches", unfollowed := true, recurses := true, apart := false }
def FnExactProgramReachesSaid : Prop := fnExactProgramReachesRow.holds Try.pinned (OpenSpec.ofChange fnExactProgramReachesSpec)

/-- ITS FALSE NEIGHBOUR: 'it returns false'. Refute it at one input. -/
def fnExactProgramReachesWrong : ChangeSpec := { name := "fnExactProgramReaches", fn := fun _ => fun
  | [d1, d2, d3] => { results := [.lit (.bool false)], args := [d1, d2, d3] }
  | _ => none }
def FnExactProgramReachesWrongFalsely : Prop := fnExactProgramReachesRow.holds Try.pinned (OpenSpec.ofChange fnExactProgramReachesWrong)

/-- 'laws.FnExactCountUnpruned': WHATEVER THE INPUT: true; the input reads as it did. -/
def fnExactCountUnprunedSpec : ChangeSpec := { name := "fnExactCountUnpruned", fn := fun _ => fun
  | [d1, d2] => { results := [.lit (.bool true)], args := [d1, d2] }
  | _ => none }
def fnExactCountUnprunedRow : OpenClaim := { program := "ytccoiifklcgodaa", sum := "409dbdb8944ad4ebbeef8f0614f951b8df7198842079d360a7c7018aa3916fd4", func := "loop.example/g01127/laws.FnExactCountUnpruned", spec := "fnExactCountUnpruned", unfollowed := true, recurses := true, apart := false }
def FnExactCountUnprunedSaid : Prop := fnExactCountUnprunedRow.holds Try.pinned (OpenSpec.ofChange fnExactCountUnprunedSpec)

/-- ITS FALSE NEIGHBOUR: 'it returns false'. Refute it at one input. -/
def fnExactCountUnprunedWrong : ChangeSpec := { name := "fnExactCountUnpruned", fn := fun _ => fun
  | [d1, d2] => { results := [.lit (.bool false)], args := [d1, d2] }
  | _ => none }
def FnExactCountUnprunedWrongFalsely : Prop := fnExactCountUnprunedRow.holds Try.pinned (OpenSpec.ofChange fnExactCountUnprunedWrong)

/-- 'laws.FnExactFewestSteps': WHATEVER THE INPUT: true; the input reads as it did. -/
def fnExactFewestStepsSpec : ChangeSpec := { name := "fnExactFewestSteps", fn := fun _ => fun
  | [d1, d2, d3] => { results := [.lit (.bool true)], args := [d1, d2, d3] }
  | _ => none }
def fnExactFewestStepsRow : OpenClaim := { program := "ytccoiifklcgodaa", sum := "409dbdb8944ad4ebbeef8f0614f951b8df7198842079d360a7c7018aa3916fd4", func := "loop.example/g01127/laws.FnExactFewestSteps", spec := "fnExactFewestSteps", unfollowed := true, recurses := true, apart := false }
def FnExactFewestStepsSaid : Prop := fnExactFewestStepsRow.holds Try.pinned (OpenSpec.ofChange fnExactFewestStepsSpec)

/-- ITS FALSE NEIGHBOUR: 'it returns false'. Refute it at one input. -/
def fnExactFewestStepsWrong : ChangeSpec := { name := "fnExactFewestSteps", fn := fun _ => fun
  | [d1, d2, d3] => { results := [.lit (.bool false)], args := [d1, d2, d3] }
  | _ => none }
def FnExactFewestStepsWrongFalsely : Prop := fnExactFewestStepsRow.holds Try.pinned (OpenSpec.ofChange fnExactFewestStepsWrong)

/- THE SECOND FORM. 'bulk': how many values and letters a reading holds, each counted each time it is reached (what is shared counts as often as it is met; a slice's spare places count too). A statement '..UptoSaid' is the law's where the arguments, and the package variables that the reading takes, are together of bulk at most 1048576: NARROWER than '..Said'. Prove '..Said' where nothing that the law and all that it calls make is longer than what came in: it says more and counts as full. Else prove '..UptoSaid'. A law counts once. -/
mutual
def uptoBulk {H : Type} : DataW H → Nat
  | .lit (.string bytes) => bytes.length + 1
  | .lit _ => 1
  | .nil => 1
  | .ptr d => uptoBulk d + 1
  | .slice elems spare => uptoBulkAll elems + uptoBulkAll spare + 1
  | .agg parts => uptoBulkAll parts + 1
  | .iface _ d => uptoBulk d + 1
  | .map entries => uptoBulkEntries entries + 1
  | .held _ => 1
def uptoBulkAll {H : Type} : List (DataW H) → Nat
  | [] => 0
  | d :: r => uptoBulk d + uptoBulkAll r
def uptoBulkEntries {H : Type} : List (Lit × DataW H) → Nat
  | [] => 0
  | x :: r => uptoBulkEntry x + uptoBulkEntries r
def uptoBulkEntry {H : Type} : Lit × DataW H → Nat
  | (.string bytes, d) => bytes.length + uptoBulk d + 1
  | (_, d) => uptoBulk d + 1
 end
def uptoSmall : (H : Type) → List (DataW H) → Bool := fun _ ds => decide (uptoBulkAll ds ≤ 1048576)
def OpenSpec.upto (s : _root_.Go.ChangeSpec) : _root_.Go.OpenSpec := { _root_.Go.OpenSpec.ofChange s with cond := some uptoSmall }

/-- 'laws.FnExactOrderedExpr', WHERE WHAT IT READS IS OF BULK AT MOST 1048576: true; the input reads as it did. -/
def fnExactOrderedExprUptoRow : OpenClaim := { program := "ytccoiifklcgodaa", sum := "409dbdb8944ad4ebbeef8f0614f951b8df7198842079d360a7c7018aa3916fd4", func := "loop.example/g01127/laws.FnExactOrderedExpr", spec := "fnExactOrderedExpr", unfollowed := true, recurses := true, apart := false, narrowed := true }
def FnExactOrderedExprUptoSaid : Prop := fnExactOrderedExprUptoRow.holds Try.pinned (OpenSpec.upto fnExactOrderedExprSpec)

/-- 'laws.FnExactTestsFor', WHERE WHAT IT READS IS OF BULK AT MOST 1048576: true; the input reads as it did. -/
def fnExactTestsForUptoRow : OpenClaim := { program := "ytccoiifklcgodaa", sum := "409dbdb8944ad4ebbeef8f0614f951b8df7198842079d360a7c7018aa3916fd4", func := "loop.example/g01127/laws.FnExactTestsFor", spec := "fnExactTestsFor", unfollowed := true, recurses := true, apart := false, narrowed := true }
def FnExactTestsForUptoSaid : Prop := fnExactTestsForUptoRow.holds Try.pinned (OpenSpec.upto fnExactTestsForSpec)

/-- 'laws.FnExactSymbolOf', WHERE WHAT IT READS IS OF BULK AT MOST 1048576: true; the input reads as it did. -/
def fnExactSymbolOfUptoRow : OpenClaim := { program := "ytccoiifklcgodaa", sum := "409dbdb8944ad4ebbeef8f0614f951b8df7198842079d360a7c7018aa3916fd4", func := "loop.example/g01127/laws.FnExactSymbolOf", spec := "fnExactSymbolOf", unfollowed := true, recurses := true, apart := false, narrowed := true }
def FnExactSymbolOfUptoSaid : Prop := fnExactSymbolOfUptoRow.holds Try.pinned (OpenSpec.upto fnExactSymbolOfSpec)

/-- 'laws.FnExactAreAlike', WHERE WHAT IT READS IS OF BULK AT MOST 1048576: true; the input reads as it did. -/
def fnExactAreAlikeUptoRow : OpenClaim := { program := "ytccoiifklcgodaa", sum := "409dbdb8944ad4ebbeef8f0614f951b8df7198842079d360a7c7018aa3916fd4", func := "loop.example/g01127/laws.FnExactAreAlike", spec := "fnExactAreAlike", unfollowed := true, recurses := true, apart := false, narrowed := true }
def FnExactAreAlikeUptoSaid : Prop := fnExactAreAlikeUptoRow.holds Try.pinned (OpenSpec.upto fnExactAreAlikeSpec)

/-- 'laws.FnExactPlainSymbol', WHERE WHAT IT READS IS OF BULK AT MOST 1048576: true; the input reads as it did. -/
def fnExactPlainSymbolUptoRow : OpenClaim := { program := "ytccoiifklcgodaa", sum := "409dbdb8944ad4ebbeef8f0614f951b8df7198842079d360a7c7018aa3916fd4", func := "loop.example/g01127/laws.FnExactPlainSymbol", spec := "fnExactPlainSymbol", unfollowed := true, recurses := true, apart := false, narrowed := true }
def FnExactPlainSymbolUptoSaid : Prop := fnExactPlainSymbolUptoRow.holds Try.pinned (OpenSpec.upto fnExactPlainSymbolSpec)

/-- 'laws.FnExactIsPruned', WHERE WHAT IT READS IS OF BULK AT MOST 1048576: true; the input reads as it did. -/
def fnExactIsPrunedUptoRow : OpenClaim := { program := "ytccoiifklcgodaa", sum := "409dbdb8944ad4ebbeef8f0614f951b8df7198842079d360a7c7018aa3916fd4", func := "loop.example/g01127/laws.FnExactIsPruned", spec := "fnExactIsPruned", unfollowed := true, recurses := true, apart := false, narrowed := true }
def FnExactIsPrunedUptoSaid : Prop := fnExactIsPrunedUptoRow.holds Try.pinned (OpenSpec.upto fnExactIsPrunedSpec)

/-- 'laws.FnExactProgramTable', WHERE WHAT IT READS IS OF BULK AT MOST 1048576: true; the input reads as it did. -/
def fnExactProgramTableUptoRow : OpenClaim := { program := "ytccoiifklcgodaa", sum := "409dbdb8944ad4ebbeef8f0614f951b8df7198842079d360a7c7018aa3916fd4", func := "loop.example/g01127/laws.FnExactProgramTable", spec := "fnExactProgramTable", unfollowed := true, recurses := true, apart := false, narrowed := true }
def FnExactProgramTableUptoSaid : Prop := fnExactProgramTableUptoRow.holds Try.pinned (OpenSpec.upto fnExactProgramTableSpec)

/-- 'laws.FnExactProgramReaches', WHERE WHAT IT READS IS OF BULK AT MOST 1048576: true; the input reads as it did. -/
def fnExactProgramReachesUptoRow : OpenClaim := { program := "ytccoiifklcgodaa", sum := "409dbdb8944ad4ebbeef8f0614f951b8df7198842079d360a7c7018aa3916fd4", func := "loop.example/g01127/laws.FnExactProgramReaches", spec := "fnExactProgramReaches", unfollowed := true, recurses := true, apart := false, narrowed := true }
def FnExactProgramReachesUptoSaid : Prop := fnExactProgramReachesUptoRow.holds Try.pinned (OpenSpec.upto fnExactProgramReachesSpec)

/-- 'laws.FnExactCountUnpruned', WHERE WHAT IT READS IS OF BULK AT MOST 1048576: true; the input reads as it did. -/
def fnExactCountUnprunedUptoRow : OpenClaim := { program := "ytccoiifklcgodaa", sum := "409dbdb8944ad4ebbeef8f0614f951b8df7198842079d360a7c7018aa3916fd4", func := "loop.example/g01127/laws.FnExactCountUnpruned", spec := "fnExactCountUnpruned", unfollowed := true, recurses := true, apart := false, narrowed := true }
def FnExactCountUnprunedUptoSaid : Prop := fnExactCountUnprunedUptoRow.holds Try.pinned (OpenSpec.upto fnExactCountUnprunedSpec)

/-- 'laws.FnExactFewestSteps', WHERE WHAT IT READS IS OF BULK AT MOST 1048576: true; the input reads as it did. -/
def fnExactFewestStepsUptoRow : OpenClaim := { program := "ytccoiifklcgodaa", sum := "409dbdb8944ad4ebbeef8f0614f951b8df7198842079d360a7c7018aa3916fd4", func := "loop.example/g01127/laws.FnExactFewestSteps", spec := "fnExactFewestSteps", unfollowed := true, recurses := true, apart := false, narrowed := true }
def FnExactFewestStepsUptoSaid : Prop := fnExactFewestStepsUptoRow.holds Try.pinned (OpenSpec.upto fnExactFewestStepsSpec)

end Rows
end Go.Proofs.Ytccoiifklcgodaa
