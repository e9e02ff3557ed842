/-
  No cell of these rows narrows 'for every input' (looked for: loops, veiled, ifaces, maps, wideKeys, modest, calm, conditions, laid).
  DERIVED. THE GIVEN ROWS OF THIS SEAT. 12 by the template 'for every input the law returns true; each argument reads behind the call as it read before'; 0 by the template 'total and deterministic' (their statements: YtidfcpdidjncnaaTotals.lean).
  GIVEN WITH THE SEED: the statements are not yours to turn. If you find one false, say at which input.
  Laid BY PROGRAM, IN A SANDBOX (cutbox-rows.mjs): the forced cells as the released guide's own fill.sh prints them over the translation f6fe800d8a026cf7… (all of the seat's roots in one cut). By AI agents, Wed Nov 11 2026. No macro, syntax, notation, axiom, sorry.
-/
import Derived.Test.YtidfcpdidjncnaaChecked
import GoSem.Claim
import GoSem.ClaimJoined
import GoSem.ClaimMapViews
import Derived.JoinedTies
import Derived.KernelRfl
namespace Go.Proofs.Ytidfcpdidjncnaa
/- THE CELL 'sum', in the pinned program and in every row, IS THE sha256 OF THE DUMP (.gsa) THAT YtidfcpdidjncnaaProg.lean LOADS. Nothing in Lean hashes anything: it is a label: what it is worth is what the hold of that sum in a sandbox is worth. -/
noncomputable def Try.pinned : Pinned := { name := "ytidfcpdidjncnaa", sum := "f6fe800d8a026cf75a27f8780e13ce81067760c5b97d818cb067cc92aee7d482", checked := Try.checked }
namespace Rows
def none {H : Type} : Left H := { results := [], args := [] }

/-- 'laws.FnExactPassesTests': WHATEVER THE INPUT: true; the input reads as it did. -/
def fnExactPassesTestsSpec : ChangeSpec := { name := "fnExactPassesTests", fn := fun _ => fun
  | [d1, d2, d3, d4] => { results := [.lit (.bool true)], args := [d1, d2, d3, d4] }
  | _ => none }
def fnExactPassesTestsRow : OpenClaim := { program := "ytidfcpdidjncnaa", sum := "f6fe800d8a026cf75a27f8780e13ce81067760c5b97d818cb067cc92aee7d482", func := "loop.example/g01127/laws.FnExactPassesTests", spec := "fnExactPassesTests", unfollowed := true, recurses := true, apart := false }
def FnExactPassesTestsSaid : Prop := fnExactPassesTestsRow.holds Try.pinned (OpenSpec.ofChange fnExactPassesTestsSpec)

/-- ITS FALSE NEIGHBOUR: 'it returns false'. Refute it at one input. -/
def fnExactPassesTestsWrong : ChangeSpec := { name := "fnExactPassesTests", fn := fun _ => fun
  | [d1, d2, d3, d4] => { results := [.lit (.bool false)], args := [d1, d2, d3, d4] }
  | _ => none }
def FnExactPassesTestsWrongFalsely : Prop := fnExactPassesTestsRow.holds Try.pinned (OpenSpec.ofChange fnExactPassesTestsWrong)

/-- 'laws.FnExactBlockWitness': WHATEVER THE INPUT: true; the input reads as it did. -/
def fnExactBlockWitnessSpec : ChangeSpec := { name := "fnExactBlockWitness", fn := fun _ => fun
  | [d1, d2, d3] => { results := [.lit (.bool true)], args := [d1, d2, d3] }
  | _ => none }
def fnExactBlockWitnessRow : OpenClaim := { program := "ytidfcpdidjncnaa", sum := "f6fe800d8a026cf75a27f8780e13ce81067760c5b97d818cb067cc92aee7d482", func := "loop.example/g01127/laws.FnExactBlockWitness", spec := "fnExactBlockWitness", unfollowed := true, recurses := true, apart := false }
def FnExactBlockWitnessSaid : Prop := fnExactBlockWitnessRow.holds Try.pinned (OpenSpec.ofChange fnExactBlockWitnessSpec)

/-- ITS FALSE NEIGHBOUR: 'it returns false'. Refute it at one input. -/
def fnExactBlockWitnessWrong : ChangeSpec := { name := "fnExactBlockWitness", fn := fun _ => fun
  | [d1, d2, d3] => { results := [.lit (.bool false)], args := [d1, d2, d3] }
  | _ => none }
def FnExactBlockWitnessWrongFalsely : Prop := fnExactBlockWitnessRow.holds Try.pinned (OpenSpec.ofChange fnExactBlockWitnessWrong)

/-- 'laws.FnExactSameRegisters': WHATEVER THE INPUT: true; the input reads as it did. -/
def fnExactSameRegistersSpec : ChangeSpec := { name := "fnExactSameRegisters", fn := fun _ => fun
  | [d1, d2] => { results := [.lit (.bool true)], args := [d1, d2] }
  | _ => none }
def fnExactSameRegistersRow : OpenClaim := { program := "ytidfcpdidjncnaa", sum := "f6fe800d8a026cf75a27f8780e13ce81067760c5b97d818cb067cc92aee7d482", func := "loop.example/g01127/laws.FnExactSameRegisters", spec := "fnExactSameRegisters", unfollowed := true, recurses := true, apart := false }
def FnExactSameRegistersSaid : Prop := fnExactSameRegistersRow.holds Try.pinned (OpenSpec.ofChange fnExactSameRegistersSpec)

/-- ITS FALSE NEIGHBOUR: 'it returns false'. Refute it at one input. -/
def fnExactSameRegistersWrong : ChangeSpec := { name := "fnExactSameRegisters", fn := fun _ => fun
  | [d1, d2] => { results := [.lit (.bool false)], args := [d1, d2] }
  | _ => none }
def FnExactSameRegistersWrongFalsely : Prop := fnExactSameRegistersRow.holds Try.pinned (OpenSpec.ofChange fnExactSameRegistersWrong)

/-- 'laws.FnExactOrderedExpr': WHATEVER THE INPUT: true; the input reads as it did. -/
def fnExactOrderedExprSpec : ChangeSpec := { name := "fnExactOrderedExpr", fn := fun _ => fun
  | [d] => { results := [.lit (.bool true)], args := [d] }
  | _ => none }
def fnExactOrderedExprRow : OpenClaim := { program := "ytidfcpdidjncnaa", sum := "f6fe800d8a026cf75a27f8780e13ce81067760c5b97d818cb067cc92aee7d482", func := "loop.example/g01127/laws.FnExactOrderedExpr", spec := "fnExactOrderedExpr", unfollowed := true, recurses := true, apart := false }
def FnExactOrderedExprSaid : Prop := fnExactOrderedExprRow.holds Try.pinned (OpenSpec.ofChange fnExactOrderedExprSpec)

/-- ITS FALSE NEIGHBOUR: 'it returns false'. Refute it at one input. -/
def fnExactOrderedExprWrong : ChangeSpec := { name := "fnExactOrderedExpr", fn := fun _ => fun
  | [d] => { results := [.lit (.bool false)], args := [d] }
  | _ => none }
def FnExactOrderedExprWrongFalsely : Prop := fnExactOrderedExprRow.holds Try.pinned (OpenSpec.ofChange fnExactOrderedExprWrong)

/-- 'laws.FnExactTestsFor': WHATEVER THE INPUT: true; the input reads as it did. -/
def fnExactTestsForSpec : ChangeSpec := { name := "fnExactTestsFor", fn := fun _ => fun
  | [d1, d2] => { results := [.lit (.bool true)], args := [d1, d2] }
  | _ => none }
def fnExactTestsForRow : OpenClaim := { program := "ytidfcpdidjncnaa", sum := "f6fe800d8a026cf75a27f8780e13ce81067760c5b97d818cb067cc92aee7d482", func := "loop.example/g01127/laws.FnExactTestsFor", spec := "fnExactTestsFor", unfollowed := true, recurses := true, apart := false }
def FnExactTestsForSaid : Prop := fnExactTestsForRow.holds Try.pinned (OpenSpec.ofChange fnExactTestsForSpec)

/-- ITS FALSE NEIGHBOUR: 'it returns false'. Refute it at one input. -/
def fnExactTestsForWrong : ChangeSpec := { name := "fnExactTestsFor", fn := fun _ => fun
  | [d1, d2] => { results := [.lit (.bool false)], args := [d1, d2] }
  | _ => none }
def FnExactTestsForWrongFalsely : Prop := fnExactTestsForRow.holds Try.pinned (OpenSpec.ofChange fnExactTestsForWrong)

/-- 'laws.FnExactSymbolOf': WHATEVER THE INPUT: true; the input reads as it did. -/
def fnExactSymbolOfSpec : ChangeSpec := { name := "fnExactSymbolOf", fn := fun _ => fun
  | [d1, d2] => { results := [.lit (.bool true)], args := [d1, d2] }
  | _ => none }
def fnExactSymbolOfRow : OpenClaim := { program := "ytidfcpdidjncnaa", sum := "f6fe800d8a026cf75a27f8780e13ce81067760c5b97d818cb067cc92aee7d482", func := "loop.example/g01127/laws.FnExactSymbolOf", spec := "fnExactSymbolOf", unfollowed := true, recurses := true, apart := false }
def FnExactSymbolOfSaid : Prop := fnExactSymbolOfRow.holds Try.pinned (OpenSpec.ofChange fnExactSymbolOfSpec)

/-- ITS FALSE NEIGHBOUR: 'it returns false'. Refute it at one input. -/
def fnExactSymbolOfWrong : ChangeSpec := { name := "fnExactSymbolOf", fn := fun _ => fun
  | [d1, d2] => { results := [.lit (.bool false)], args := [d1, d2] }
  | _ => none }
def FnExactSymbolOfWrongFalsely : Prop := fnExactSymbolOfRow.holds Try.pinned (OpenSpec.ofChange fnExactSymbolOfWrong)

/-- 'laws.FnExactSwapPath': WHATEVER THE INPUT: true; the input reads as it did. -/
def fnExactSwapPathSpec : ChangeSpec := { name := "fnExactSwapPath", fn := fun _ => fun
  | [d1, d2] => { results := [.lit (.bool true)], args := [d1, d2] }
  | _ => none }
def fnExactSwapPathRow : OpenClaim := { program := "ytidfcpdidjncnaa", sum := "f6fe800d8a026cf75a27f8780e13ce81067760c5b97d818cb067cc92aee7d482", func := "loop.example/g01127/laws.FnExactSwapPath", spec := "fnExactSwapPath", unfollowed := true, recurses := true, apart := false }
def FnExactSwapPathSaid : Prop := fnExactSwapPathRow.holds Try.pinned (OpenSpec.ofChange fnExactSwapPathSpec)

/-- ITS FALSE NEIGHBOUR: 'it returns false'. Refute it at one input. -/
def fnExactSwapPathWrong : ChangeSpec := { name := "fnExactSwapPath", fn := fun _ => fun
  | [d1, d2] => { results := [.lit (.bool false)], args := [d1, d2] }
  | _ => none }
def FnExactSwapPathWrongFalsely : Prop := fnExactSwapPathRow.holds Try.pinned (OpenSpec.ofChange fnExactSwapPathWrong)

/-- 'laws.FnExactFollowPath': WHATEVER THE INPUT: true; the input reads as it did. -/
def fnExactFollowPathSpec : ChangeSpec := { name := "fnExactFollowPath", fn := fun _ => fun
  | [d1, d2] => { results := [.lit (.bool true)], args := [d1, d2] }
  | _ => none }
def fnExactFollowPathRow : OpenClaim := { program := "ytidfcpdidjncnaa", sum := "f6fe800d8a026cf75a27f8780e13ce81067760c5b97d818cb067cc92aee7d482", func := "loop.example/g01127/laws.FnExactFollowPath", spec := "fnExactFollowPath", unfollowed := true, recurses := true, apart := false }
def FnExactFollowPathSaid : Prop := fnExactFollowPathRow.holds Try.pinned (OpenSpec.ofChange fnExactFollowPathSpec)

/-- ITS FALSE NEIGHBOUR: 'it returns false'. Refute it at one input. -/
def fnExactFollowPathWrong : ChangeSpec := { name := "fnExactFollowPath", fn := fun _ => fun
  | [d1, d2] => { results := [.lit (.bool false)], args := [d1, d2] }
  | _ => none }
def FnExactFollowPathWrongFalsely : Prop := fnExactFollowPathRow.holds Try.pinned (OpenSpec.ofChange fnExactFollowPathWrong)

/-- 'laws.FnExactReachedWords': WHATEVER THE INPUT: true; the input reads as it did. -/
def fnExactReachedWordsSpec : ChangeSpec := { name := "fnExactReachedWords", fn := fun _ => fun
  | [d1, d2] => { results := [.lit (.bool true)], args := [d1, d2] }
  | _ => none }
def fnExactReachedWordsRow : OpenClaim := { program := "ytidfcpdidjncnaa", sum := "f6fe800d8a026cf75a27f8780e13ce81067760c5b97d818cb067cc92aee7d482", func := "loop.example/g01127/laws.FnExactReachedWords", spec := "fnExactReachedWords", unfollowed := true, recurses := true, apart := false }
def FnExactReachedWordsSaid : Prop := fnExactReachedWordsRow.holds Try.pinned (OpenSpec.ofChange fnExactReachedWordsSpec)

/-- ITS FALSE NEIGHBOUR: 'it returns false'. Refute it at one input. -/
def fnExactReachedWordsWrong : ChangeSpec := { name := "fnExactReachedWords", fn := fun _ => fun
  | [d1, d2] => { results := [.lit (.bool false)], args := [d1, d2] }
  | _ => none }
def FnExactReachedWordsWrongFalsely : Prop := fnExactReachedWordsRow.holds Try.pinned (OpenSpec.ofChange fnExactReachedWordsWrong)

/-- 'laws.FnExactAreAlike': WHATEVER THE INPUT: true; the input reads as it did. -/
def fnExactAreAlikeSpec : ChangeSpec := { name := "fnExactAreAlike", fn := fun _ => fun
  | [d1, d2, d3] => { results := [.lit (.bool true)], args := [d1, d2, d3] }
  | _ => none }
def fnExactAreAlikeRow : OpenClaim := { program := "ytidfcpdidjncnaa", sum := "f6fe800d8a026cf75a27f8780e13ce81067760c5b97d818cb067cc92aee7d482", func := "loop.example/g01127/laws.FnExactAreAlike", spec := "fnExactAreAlike", unfollowed := true, recurses := true, apart := false }
def FnExactAreAlikeSaid : Prop := fnExactAreAlikeRow.holds Try.pinned (OpenSpec.ofChange fnExactAreAlikeSpec)

/-- ITS FALSE NEIGHBOUR: 'it returns false'. Refute it at one input. -/
def fnExactAreAlikeWrong : ChangeSpec := { name := "fnExactAreAlike", fn := fun _ => fun
  | [d1, d2, d3] => { results := [.lit (.bool false)], args := [d1, d2, d3] }
  | _ => none }
def FnExactAreAlikeWrongFalsely : Prop := fnExactAreAlikeRow.holds Try.pinned (OpenSpec.ofChange fnExactAreAlikeWrong)

/-- 'laws.FnExactPlainSymbol': WHATEVER THE INPUT: true; the input reads as it did. -/
def fnExactPlainSymbolSpec : ChangeSpec := { name := "fnExactPlainSymbol", fn := fun _ => fun
  | [d1, d2] => { results := [.lit (.bool true)], args := [d1, d2] }
  | _ => none }
def fnExactPlainSymbolRow : OpenClaim := { program := "ytidfcpdidjncnaa", sum := "f6fe800d8a026cf75a27f8780e13ce81067760c5b97d818cb067cc92aee7d482", func := "loop.example/g01127/laws.FnExactPlainSymbol", spec := "fnExactPlainSymbol", unfollowed := true, recurses := true, apart := false }
def FnExactPlainSymbolSaid : Prop := fnExactPlainSymbolRow.holds Try.pinned (OpenSpec.ofChange fnExactPlainSymbolSpec)

/-- ITS FALSE NEIGHBOUR: 'it returns false'. Refute it at one input. -/
def fnExactPlainSymbolWrong : ChangeSpec := { name := "fnExactPlainSymbol", fn := fun _ => fun
  | [d1, d2] => { results := [.lit (.bool false)], args := [d1, d2] }
  | _ => none }
def FnExactPlainSymbolWrongFalsely : Prop := fnExactPlainSymbolRow.holds Try.pinned (OpenSpec.ofChange fnExactPlainSymbolWrong)

/-- 'laws.FnTestsTellBlocksApart': WHATEVER THE INPUT: true; the input reads as it did. -/
def fnTestsTellBlocksApartSpec : ChangeSpec := { name := "fnTestsTellBlocksApart", fn := fun _ => fun
  | [d1, d2] => { results := [.lit (.bool true)], args := [d1, d2] }
  | _ => none }
def fnTestsTellBlocksApartRow : OpenClaim := { program := "ytidfcpdidjncnaa", sum := "f6fe800d8a026cf75a27f8780e13ce81067760c5b97d818cb067cc92aee7d482", func := "loop.example/g01127/laws.FnTestsTellBlocksApart", spec := "fnTestsTellBlocksApart", unfollowed := true, recurses := true, apart := false }
def FnTestsTellBlocksApartSaid : Prop := fnTestsTellBlocksApartRow.holds Try.pinned (OpenSpec.ofChange fnTestsTellBlocksApartSpec)

/-- ITS FALSE NEIGHBOUR: 'it returns false'. Refute it at one input. -/
def fnTestsTellBlocksApartWrong : ChangeSpec := { name := "fnTestsTellBlocksApart", fn := fun _ => fun
  | [d1, d2] => { results := [.lit (.bool false)], args := [d1, d2] }
  | _ => none }
def FnTestsTellBlocksApartWrongFalsely : Prop := fnTestsTellBlocksApartRow.holds Try.pinned (OpenSpec.ofChange fnTestsTellBlocksApartWrong)

/- THE SECOND FORM. 'bulk': how many values and letters a reading holds, each counted each time it is reached (what is shared counts as often as it is met; a slice's spare places count too). A statement '..UptoSaid' is the law's where the arguments, and the package variables that the reading takes, are together of bulk at most 1048576: NARROWER than '..Said'. Prove '..Said' where nothing that the law and all that it calls make is longer than what came in: it says more and counts as full. Else prove '..UptoSaid'. A law counts once. -/
mutual
def uptoBulk {H : Type} : DataW H → Nat
  | .lit (.string bytes) => bytes.length + 1
  | .lit _ => 1
  | .nil => 1
  | .ptr d => uptoBulk d + 1
  | .slice elems spare => uptoBulkAll elems + uptoBulkAll spare + 1
  | .agg parts => uptoBulkAll parts + 1
  | .iface _ d => uptoBulk d + 1
  | .map entries => uptoBulkEntries entries + 1
  | .held _ => 1
def uptoBulkAll {H : Type} : List (DataW H) → Nat
  | [] => 0
  | d :: r => uptoBulk d + uptoBulkAll r
def uptoBulkEntries {H : Type} : List (Lit × DataW H) → Nat
  | [] => 0
  | x :: r => uptoBulkEntry x + uptoBulkEntries r
def uptoBulkEntry {H : Type} : Lit × DataW H → Nat
  | (.string bytes, d) => bytes.length + uptoBulk d + 1
  | (_, d) => uptoBulk d + 1
 end
def uptoSmall : (H : Type) → List (DataW H) → Bool := fun _ ds => decide (uptoBulkAll ds ≤ 1048576)
def OpenSpec.upto (s : _root_.Go.ChangeSpec) : _root_.Go.OpenSpec := { _root_.Go.OpenSpec.ofChange s with cond := some uptoSmall }

/-- 'laws.FnExactPassesTests', WHERE WHAT IT READS IS OF BULK AT MOST 1048576: true; the input reads as it did. -/
def fnExactPassesTestsUptoRow : OpenClaim := { program := "ytidfcpdidjncnaa", sum := "f6fe800d8a026cf75a27f8780e13ce81067760c5b97d818cb067cc92aee7d482", func := "loop.example/g01127/laws.FnExactPassesTests", spec := "fnExactPassesTests", unfollowed := true, recurses := true, apart := false, narrowed := true }
def FnExactPassesTestsUptoSaid : Prop := fnExactPassesTestsUptoRow.holds Try.pinned (OpenSpec.upto fnExactPassesTestsSpec)

/-- 'laws.FnExactBlockWitness', WHERE WHAT IT READS IS OF BULK AT MOST 1048576: true; the input reads as it did. -/
def fnExactBlockWitnessUptoRow : OpenClaim := { program := "ytidfcpdidjncnaa", sum := "f6fe800d8a026cf75a27f8780e13ce81067760c5b97d818cb067cc92aee7d482", func := "loop.example/g01127/laws.FnExactBlockWitness", spec := "fnExactBlockWitness", unfollowed := true, recurses := true, apart := false, narrowed := true }
def FnExactBlockWitnessUptoSaid : Prop := fnExactBlockWitnessUptoRow.holds Try.pinned (OpenSpec.upto fnExactBlockWitnessSpec)

/-- 'laws.FnExactSameRegisters', WHERE WHAT IT READS IS OF BULK AT MOST 1048576: true; the input reads as it did. -/
def fnExactSameRegistersUptoRow : OpenClaim := { program := "ytidfcpdidjncnaa", sum := "f6fe800d8a026cf75a27f8780e13ce81067760c5b97d818cb067cc92aee7d482", func := "loop.example/g01127/laws.FnExactSameRegisters", spec := "fnExactSameRegisters", unfollowed := true, recurses := true, apart := false, narrowed := true }
def FnExactSameRegistersUptoSaid : Prop := fnExactSameRegistersUptoRow.holds Try.pinned (OpenSpec.upto fnExactSameRegistersSpec)

/-- 'laws.FnExactOrderedExpr', WHERE WHAT IT READS IS OF BULK AT MOST 1048576: true; the input reads as it did. -/
def fnExactOrderedExprUptoRow : OpenClaim := { program := "ytidfcpdidjncnaa", sum := "f6fe800d8a026cf75a27f8780e13ce81067760c5b97d818cb067cc92aee7d482", func := "loop.example/g01127/laws.FnExactOrderedExpr", spec := "fnExactOrderedExpr", unfollowed := true, recurses := true, apart := false, narrowed := true }
def FnExactOrderedExprUptoSaid : Prop := fnExactOrderedExprUptoRow.holds Try.pinned (OpenSpec.upto fnExactOrderedExprSpec)

/-- 'laws.FnExactTestsFor', WHERE WHAT IT READS IS OF BULK AT MOST 1048576: true; the input reads as it did. -/
def fnExactTestsForUptoRow : OpenClaim := { program := "ytidfcpdidjncnaa", sum := "f6fe800d8a026cf75a27f8780e13ce81067760c5b97d818cb067cc92aee7d482", func := "loop.example/g01127/laws.FnExactTestsFor", spec := "fnExactTestsFor", unfollowed := true, recurses := true, apart := false, narrowed := true }
def FnExactTestsForUptoSaid : Prop := fnExactTestsForUptoRow.holds Try.pinned (OpenSpec.upto fnExactTestsForSpec)

/-- 'laws.FnExactSymbolOf', WHERE WHAT IT READS IS OF BULK AT MOST 1048576: true; the input reads as it did. -/
def fnExactSymbolOfUptoRow : OpenClaim := { program := "ytidfcpdidjncnaa", sum := "f6fe800d8a026cf75a27f8780e13ce81067760c5b97d818cb067cc92aee7d482", func := "loop.example/g01127/laws.FnExactSymbolOf", spec := "fnExactSymbolOf", unfollowed := true, recurses := true, apart := false, narrowed := true }
def FnExactSymbolOfUptoSaid : Prop := fnExactSymbolOfUptoRow.holds Try.pinned (OpenSpec.upto fnExactSymbolOfSpec)

/-- 'laws.FnExactSwapPath', WHERE WHAT IT READS IS OF BULK AT MOST 1048576: true; the input reads as it did. -/
def fnExactSwapPathUptoRow : OpenClaim := { program := "ytidfcpdidjncnaa", sum := "f6fe800d8a026cf75a27f8780e13ce81067760c5b97d818cb067cc92aee7d482", func := "loop.example/g01127/laws.FnExactSwapPath", spec := "fnExactSwapPath", unfollowed := true, recurses := true, apart := false, narrowed := true }
def FnExactSwapPathUptoSaid : Prop := fnExactSwapPathUptoRow.holds Try.pinned (OpenSpec.upto fnExactSwapPathSpec)

/-- 'laws.FnExactFollowPath', WHERE WHAT IT READS IS OF BULK AT MOST 1048576: true; the input reads as it did. -/
def fnExactFollowPathUptoRow : OpenClaim := { program := "ytidfcpdidjncnaa", sum := "f6fe800d8a026cf75a27f8780e13ce81067760c5b97d818cb067cc92aee7d482", func := "loop.example/g01127/laws.FnExactFollowPath", spec := "fnExactFollowPath", unfollowed := true, recurses := true, apart := false, narrowed := true }
def FnExactFollowPathUptoSaid : Prop := fnExactFollowPathUptoRow.holds Try.pinned (OpenSpec.upto fnExactFollowPathSpec)

/-- 'laws.FnExactReachedWords', WHERE WHAT IT READS IS OF BULK AT MOST 1048576: true; the input reads as it did. -/
def fnExactReachedWordsUptoRow : OpenClaim := { program := "ytidfcpdidjncnaa", sum := "f6fe800d8a026cf75a27f8780e13ce81067760c5b97d818cb067cc92aee7d482", func := "loop.example/g01127/laws.FnExactReachedWords", spec := "fnExactReachedWords", unfollowed := true, recurses := true, apart := false, narrowed := true }
def FnExactReachedWordsUptoSaid : Prop := fnExactReachedWordsUptoRow.holds Try.pinned (OpenSpec.upto fnExactReachedWordsSpec)

/-- 'laws.FnExactAreAlike', WHERE WHAT IT READS IS OF BULK AT MOST 1048576: true; the input reads as it did. -/
def fnExactAreAlikeUptoRow : OpenClaim := { program := "ytidfcpdidjncnaa", sum := "f6fe800d8a026cf75a27f8780e13ce81067760c5b97d818cb067cc92aee7d482", func := "loop.example/g01127/laws.FnExactAreAlike", spec := "fnExactAreAlike", unfollowed := true, recurses := true, apart := false, narrowed := true }
def FnExactAreAlikeUptoSaid : Prop := fnExactAreAlikeUptoRow.holds Try.pinned (OpenSpec.upto fnExactAreAlikeSpec)

/-- 'laws.FnExactPlainSymbol', WHERE WHAT IT READS IS OF BULK AT MOST 1048576: true; the input reads as it did. -/
def fnExactPlainSymbolUptoRow : OpenClaim := { program := "ytidfcpdidjncnaa", sum := "f6fe800d8a026cf75a27f8780e13ce81067760c5b97d818cb067cc92aee7d482", func := "loop.example/g01127/laws.FnExactPlainSymbol", spec := "fnExactPlainSymbol", unfollowed := true, recurses := true, apart := false, narrowed := true }
def FnExactPlainSymbolUptoSaid : Prop := fnExactPlainSymbolUptoRow.holds Try.pinned (OpenSpec.upto fnExactPlainSymbolSpec)

/-- 'laws.FnTestsTellBlocksApart', WHERE WHAT IT READS IS OF BULK AT MOST 1048576: true; the input reads as it did. -/
def fnTestsTellBlocksApartUptoRow : OpenClaim := { program := "ytidfcpdidjncnaa", sum := "f6fe800d8a026cf75a27f8780e13ce81067760c5b97d818cb067cc92aee7d482", func := "loop.example/g01127/laws.FnTestsTellBlocksApart", spec := "fnTestsTellBlocksApart", unfollowed := true, recurses := true, apart := false, narrowed := true }
def FnTestsTellBlocksApartUptoSaid : Prop := fnTestsTellBlocksApartUptoRow.holds Try.pinned (OpenSpec.upto fnTestsTellBlocksApartSpec)

end Rows
end Go.Proofs.Ytidfcpdidjncnaa
