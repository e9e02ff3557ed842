/-
  No cell of these rows narrows 'for every input' (looked for: loops, veiled, ifaces, maps, wideKeys, modest, calm, conditions, laid).
  DERIVED. THE GIVEN ROWS OF THIS SEAT. 6 by the template 'for every input the law returns true; each argument reads behind the call as it read before'; 0 by the template 'total and deterministic' (their statements: YtkfkbmlbpeojaaaTotals.lean).
  GIVEN WITH THE SEED: the statements are not yours to turn. If you find one false, say at which input.
  Laid BY PROGRAM, IN A SANDBOX (cutbox-rows.mjs): the forced cells as the released guide's own fill.sh prints them over the translation c69d8632273a3f84… (all of the seat's roots in one cut). By AI agents, Wed Nov 11 2026. No macro, syntax, notation, axiom, sorry.
-/
import Derived.Test.YtkfkbmlbpeojaaaChecked
import GoSem.Claim
import GoSem.ClaimJoined
import GoSem.ClaimMapViews
import Derived.JoinedTies
import Derived.KernelRfl
namespace Go.Proofs.Ytkfkbmlbpeojaaa
/- THE CELL 'sum', in the pinned program and in every row, IS THE sha256 OF THE DUMP (.gsa) THAT YtkfkbmlbpeojaaaProg.lean LOADS. Nothing in Lean hashes anything: it is a label: what it is worth is what the hold of that sum in a sandbox is worth. -/
noncomputable def Try.pinned : Pinned := { name := "ytkfkbmlbpeojaaa", sum := "c69d8632273a3f84b6a548f25a7f3812b38c7d469a8e293082890c084969caf1", checked := Try.checked }
namespace Rows
def none {H : Type} : Left H := { results := [], args := [] }

/-- 'laws.FnExactOrderedExpr': WHATEVER THE INPUT: true; the input reads as it did. -/
def fnExactOrderedExprSpec : ChangeSpec := { name := "fnExactOrderedExpr", fn := fun _ => fun
  | [d] => { results := [.lit (.bool true)], args := [d] }
  | _ => none }
def fnExactOrderedExprRow : OpenClaim := { program := "ytkfkbmlbpeojaaa", sum := "c69d8632273a3f84b6a548f25a7f3812b38c7d469a8e293082890c084969caf1", func := "loop.example/g01127/laws.FnExactOrderedExpr", spec := "fnExactOrderedExpr", unfollowed := true, recurses := true, apart := false }
def FnExactOrderedExprSaid : Prop := fnExactOrderedExprRow.holds Try.pinned (OpenSpec.ofChange fnExactOrderedExprSpec)

/-- ITS FALSE NEIGHBOUR: 'it returns false'. Refute it at one input. -/
def fnExactOrderedExprWrong : ChangeSpec := { name := "fnExactOrderedExpr", fn := fun _ => fun
  | [d] => { results := [.lit (.bool false)], args := [d] }
  | _ => none }
def FnExactOrderedExprWrongFalsely : Prop := fnExactOrderedExprRow.holds Try.pinned (OpenSpec.ofChange fnExactOrderedExprWrong)

/-- 'laws.FnExactTestsFor': WHATEVER THE INPUT: true; the input reads as it did. -/
def fnExactTestsForSpec : ChangeSpec := { name := "fnExactTestsFor", fn := fun _ => fun
  | [d1, d2] => { results := [.lit (.bool true)], args := [d1, d2] }
  | _ => none }
def fnExactTestsForRow : OpenClaim := { program := "ytkfkbmlbpeojaaa", sum := "c69d8632273a3f84b6a548f25a7f3812b38c7d469a8e293082890c084969caf1", func := "loop.example/g01127/laws.FnExactTestsFor", spec := "fnExactTestsFor", unfollowed := true, recurses := true, apart := false }
def FnExactTestsForSaid : Prop := fnExactTestsForRow.holds Try.pinned (OpenSpec.ofChange fnExactTestsForSpec)

/-- ITS FALSE NEIGHBOUR: 'it returns false'. Refute it at one input. -/
def fnExactTestsForWrong : ChangeSpec := { name := "fnExactTestsFor", fn := fun _ => fun
  | [d1, d2] => { results := [.lit (.bool false)], args := [d1, d2] }
  | _ => none }
def FnExactTestsForWrongFalsely : Prop := fnExactTestsForRow.holds Try.pinned (OpenSpec.ofChange fnExactTestsForWrong)

/-- 'laws.FnExactSymbolOf': WHATEVER THE INPUT: true; the input reads as it did. -/
def fnExactSymbolOfSpec : ChangeSpec := { name := "fnExactSymbolOf", fn := fun _ => fun
  | [d1, d2] => { results := [.lit (.bool true)], args := [d1, d2] }
  | _ => none }
def fnExactSymbolOfRow : OpenClaim := { program := "ytkfkbmlbpeojaaa", sum := "c69d8632273a3f84b6a548f25a7f3812b38c7d469a8e293082890c084969caf1", func := "loop.example/g01127/laws.FnExactSymbolOf", spec := "fnExactSymbolOf", unfollowed := true, recurses := true, apart := false }
def FnExactSymbolOfSaid : Prop := fnExactSymbolOfRow.holds Try.pinned (OpenSpec.ofChange fnExactSymbolOfSpec)

/-- ITS FALSE NEIGHBOUR: 'it returns false'. Refute it at one input. -/
def fnExactSymbolOfWrong : ChangeSpec := { name := "fnExactSymbolOf", fn := fun _ => fun
  | [d1, d2] => { results := [.lit (.bool false)], args := [d1, d2] }
  | _ => none }
def FnExactSymbolOfWrongFalsely : Prop := fnExactSymbolOfRow.holds Try.pinned (OpenSpec.ofChange fnExactSymbolOfWrong)

/-- 'laws.FnExactAreAlike': WHATEVER THE INPUT: true; the input reads as it did. -/
def fnExactAreAlikeSpec : ChangeSpec := { name := "fnExactAreAlike", fn := fun _ => fun
  | [d1, d2, d3] => { results := [.lit (.bool true)], args := [d1, d2, d3] }
  | _ => none }
def fnExactAreAlikeRow : OpenClaim := { program := "ytkfkbmlbpeojaaa", sum := "c69d8632273a3f84b6a548f25a7f3812b38c7d469a8e293082890c084969caf1", func := "loop.example/g01127/laws.FnExactAreAlike", spec := "fnExactAreAlike", unfollowed := true, recurses := true, apart := false }
def FnExactAreAlikeSaid : Prop := fnExactAreAlikeRow.holds Try.pinned (OpenSpec.ofChange fnExactAreAlikeSpec)

/-- ITS FALSE NEIGHBOUR: 'it returns false'. Refute it at one input. -/
def fnExactAreAlikeWrong : ChangeSpec := { name := "fnExactAreAlike", fn := fun _ => fun
  | [d1, d2, d3] => { results := [.lit (.bool false)], args := [d1, d2, d3] }
  | _ => none }
def FnExactAreAlikeWrongFalsely : Prop := fnExactAreAlikeRow.holds Try.pinned (OpenSpec.ofChange fnExactAreAlikeWrong)

/-- 'laws.FnExactPlainSymbol': WHATEVER THE INPUT: true; the input reads as it did. -/
def fnExactPlainSymbolSpec : ChangeSpec := { name := "fnExactPlainSymbol", fn := fun _ => fun
  | [d1, d2] => { results := [.lit (.bool true)], args := [d1, d2] }
  | _ => none }
def fnExactPlainSymbolRow : OpenClaim := { program := "ytkfkbmlbpeojaaa", sum := "c69d8632273a3f84b6a548f25a7f3812b38c7d469a8e293082890c084969caf1", func := "loop.example/g01127/laws.FnExactPlainSymbol", spec := "fnExactPlainSymbol", unfollowed := true, recurses := true, apart := false }
def FnExactPlainSymbolSaid : Prop := fnExactPlainSymbolRow.holds Try.pinned (OpenSpec.ofChange fnExactPlainSymbolSpec)

/-- ITS FALSE NEIGHBOUR: 'it returns false'. Refute it at one input. -/
def fnExactPlainSymbolWrong : ChangeSpec := { name := "fnExactPlainSymbol", fn := fun _ => fun
  | [d1, d2] => { results := [.lit (.bool false)], args := [d1, d2] }
  | _ => none }
def FnExactPlainSymbolWrongFalsely : Prop := fnExactPlainSymbolRow.holds Try.pinned (OpenSpec.ofChange fnExactPlainSymbolWrong)

/-- 'laws.FnExactCountUnpruned': WHATEVER THE INPUT: true; the input reads as it did. -/
def fnExactCountUnprunedSpec : ChangeSpec := { name := "fnExactCountUnpruned", fn := fun _ => fun
  | [d1, d2] => { results := [.lit (.bool true)], args := [d1, d2] }
  | _ => none }
def fnExactCountUnprunedRow : OpenClaim := { program := "ytkfkbmlbpeojaaa", sum := "c69d8632273a3f84b6a548f25a7f3812b38c7d469a8e293082890c084969caf1", func := "loop.example/g01127/laws.FnExactCountUnpruned", spec := "fnExactCountUnpruned", unfollowed := true, recurses := true, apart := false }
def FnExactCountUnprunedSaid : Prop := fnExactCountUnprunedRow.holds Try.pinned (OpenSpec.ofChange fnExactCountUnprunedSpec)

/-- ITS FALSE NEIGHBOUR: 'it returns false'. Refute it at one input. -/
def fnExactCountUnprunedWrong : ChangeSpec := { name := "fnExactCountUnpruned", fn := fun _ => fun
  | [d1, d2] => { results := [.lit (.bool false)], args := [d1, d2] }
  | _ => none }
def FnExactCountUnprunedWrongFalsely : Prop := fnExactCountUnprunedRow.holds Try.pinned (OpenSpec.ofChange fnExactCountUnprunedWrong)

/- THE SECOND FORM. 'bulk': how many values and letters a reading holds, each counted each time it is reached (what is shared counts as often as it is met; a slice's spare places count too). A statement '..UptoSaid' is the law's where the arguments, and the package variables that the reading takes, are together of bulk at most 1048576: NARROWER than '..Said'. Prove '..Said' where nothing that the law and all that it calls make is longer than what came in: it says more and counts as full. Else prove '..UptoSaid'. A law counts once. -/
mutual
def uptoBulk {H : Type} : DataW H → Nat
  | .lit (.string bytes) => bytes.length + 1
  | .lit _ => 1
  | .nil => 1
  | .ptr d => uptoBulk d + 1
  | .slice elems spare => uptoBulkAll elems + uptoBulkAll spare + 1
  | .agg parts => uptoBulkAll parts + 1
  | .iface _ d => uptoBulk d + 1
  | .map entries => uptoBulkEntries entries + 1
  | .held _ => 1
def uptoBulkAll {H : Type} : List (DataW H) → Nat
  | [] => 0
  | d :: r => uptoBulk d + uptoBulkAll r
def uptoBulkEntries {H : Type} : List (Lit × DataW H) → Nat
  | [] => 0
  | x :: r => uptoBulkEntry x + uptoBulkEntries r
def uptoBulkEntry {H : Type} : Lit × DataW H → Nat
  | (.string bytes, d) => bytes.length + uptoBulk d + 1
  | (_, d) => uptoBulk d + 1
 end
def uptoSmall : (H : Type) → List (DataW H) → Bool := fun _ ds => decide (uptoBulkAll ds ≤ 1048576)
def OpenSpec.upto (s : _root_.Go.ChangeSpec) : _root_.Go.OpenSpec := { _root_.Go.OpenSpec.ofChange s with cond := some uptoSmall }

/-- 'laws.FnExactOrderedExpr', WHERE WHAT IT READS IS OF BULK AT MOST 1048576: true; the input reads as it did. -/
def fnExactOrderedExprUptoRow : OpenClaim := { program := "ytkfkbmlbpeojaaa", sum := "c69d8632273a3f84b6a548f25a7f3812b38c7d469a8e293082890c084969caf1", func := "loop.example/g01127/laws.FnExactOrderedExpr", spec := "fnExactOrderedExpr", unfollowed := true, recurses := true, apart := false, narrowed := true }
def FnExactOrderedExprUptoSaid : Prop := fnExactOrderedExprUptoRow.holds Try.pinned (OpenSpec.upto fnExactOrderedExprSpec)

/-- 'laws.FnExactTestsFor', WHERE WHAT IT READS IS OF BULK AT MOST 1048576: true; the input reads as it did. -/
def fnExactTestsForUptoRow : OpenClaim := { program := "ytkfkbmlbpeojaaa", sum := "c69d8632273a3f84b6a548f25a7f3812b38c7d469a8e293082890c084969caf1", func := "loop.example/g01127/laws.FnExactTestsFor", spec := "fnExactTestsFor", unfollowed := true, recurses := true, apart := false, narrowed := true }
def FnExactTestsForUptoSaid : Prop := fnExactTestsForUptoRow.holds Try.pinned (OpenSpec.upto fnExactTestsForSpec)

/-- 'laws.FnExactSymbolOf', WHERE WHAT IT READS IS OF BULK AT MOST 1048576: true; the input reads as it did. -/
def fnExactSymbolOfUptoRow : OpenClaim := { program := "ytkfkbmlbpeojaaa", sum := "c69d8632273a3f84b6a548f25a7f3812b38c7d469a8e293082890c084969caf1", func := "loop.example/g01127/laws.FnExactSymbolOf", spec := "fnExactSymbolOf", unfollowed := true, recurses := true, apart := false, narrowed := true }
def FnExactSymbolOfUptoSaid : Prop := fnExactSymbolOfUptoRow.holds Try.pinned (OpenSpec.upto fnExactSymbolOfSpec)

/-- 'laws.FnExactAreAlike', WHERE WHAT IT READS IS OF BULK AT MOST 1048576: true; the input reads as it did. -/
def fnExactAreAlikeUptoRow : OpenClaim := { program := "ytkfkbmlbpeojaaa", sum := "c69d8632273a3f84b6a548f25a7f3812b38c7d469a8e293082890c084969caf1", func := "loop.example/g01127/laws.FnExactAreAlike", spec := "fnExactAreAlike", unfollowed := true, recurses := true, apart := false, narrowed := true }
def FnExactAreAlikeUptoSaid : Prop := fnExactAreAlikeUptoRow.holds Try.pinned (OpenSpec.upto fnExactAreAlikeSpec)

/-- 'laws.FnExactPlainSymbol', WHERE WHAT IT READS IS OF BULK AT MOST 1048576: true; the input reads as it did. -/
def fnExactPlainSymbolUptoRow : OpenClaim := { program := "ytkfkbmlbpeojaaa", sum := "c69d8632273a3f84b6a548f25a7f3812b38c7d469a8e293082890c084969caf1", func := "loop.example/g01127/laws.FnExactPlainSymbol", spec := "fnExactPlainSymbol", unfollowed := true, recurses := true, apart := false, narrowed := true }
def FnExactPlainSymbolUptoSaid : Prop := fnExactPlainSymbolUptoRow.holds Try.pinned (OpenSpec.upto fnExactPlainSymbolSpec)

/-- 'laws.FnExactCountUnpruned', WHERE WHAT IT READS IS OF BULK AT MOST 1048576: true; the input reads as it did. -/
def fnExactCountUnprunedUptoRow : OpenClaim := { program := "ytkfkbmlbpeojaaa", sum := "c69d8632273a3f84b6a548f25a7f3812b38c7d469a8e293082890c084969caf1", func := "loop.example/g01127/laws.FnExactCountUnpruned", spec := "fnExactCountUnpruned", unfollowed := true, recurses := true, apart := false, narrowed := true }
def FnExactCountUnprunedUptoSaid : Prop := fnExactCountUnprunedUptoRow.holds Try.pinned (OpenSpec.upto fnExactCountUnprunedSpec)

end Rows
end Go.Proofs.Ytkfkbmlbpeojaaa
