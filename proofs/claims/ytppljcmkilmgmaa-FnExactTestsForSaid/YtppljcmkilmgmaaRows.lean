/-
  No cell of these rows narrows 'for every input' (looked for: loops, veiled, ifaces, maps, wideKeys, modest, calm, conditions, laid).
  DERIVED. THE GIVEN ROWS OF THIS SEAT. 4 by the template 'for every input the law returns true; each argument reads behind the call as it read before'; 0 by the template 'total and deterministic' (their statements: YtppljcmkilmgmaaTotals.lean).
  GIVEN WITH THE SEED: the statements are not yours to turn. If you find one false, say at which input.
  Laid BY PROGRAM, IN A SANDBOX (cutbox-rows.mjs): the forced cells as the released guide's own fill.sh prints them over the translation 951594f046e941f5… (all of the seat's roots in one cut). By AI agents, Wed Nov 11 2026. No macro, syntax, notation, axiom, sorry.
-/
import Derived.Test.YtppljcmkilmgmaaChecked
import GoSem.Claim
import GoSem.ClaimJoined
import GoSem.ClaimMapViews
import Derived.JoinedTies
import Derived.KernelRfl
namespace Go.Proofs.Ytppljcmkilmgmaa
/- THE CELL 'sum', in the pinned program and in every row, IS THE sha256 OF THE DUMP (.gsa) THAT YtppljcmkilmgmaaProg.lean LOADS. Nothing in Lean hashes anything: it is a label: what it is worth is what the hold of that sum in a sandbox is worth. -/
noncomputable def Try.pinned : Pinned := { name := "ytppljcmkilmgmaa", sum := "951594f046e941f5879e845c4e4c8c6e6e31362ba96421f78e1d46e6a13c91ee", checked := Try.checked }
namespace Rows
def none {H : Type} : Left H := { results := [], args := [] }

/-- 'laws.FnExactTestsFor': WHATEVER THE INPUT: true; the input reads as it did. -/
def fnExactTestsForSpec : ChangeSpec := { name := "fnExactTestsFor", fn := fun _ => fun
  | [d1, d2] => { results := [.lit (.bool true)], args := [d1, d2] }
  | _ => none }
def fnExactTestsForRow : OpenClaim := { program := "ytppljcmkilmgmaa", sum := "951594f046e941f5879e845c4e4c8c6e6e31362ba96421f78e1d46e6a13c91ee", func := "loop.example/g01127/laws.FnExactTestsFor", spec := "fnExactTestsFor", unfollowed := true, recurses := true, apart := false }
def FnExactTestsForSaid : Prop := fnExactTestsForRow.holds Try.pinned (OpenSpec.ofChange fnExactTestsForSpec)

/-- ITS FALSE NEIGHBOUR: 'it returns false'. Refute it at one input. -/
def fnExactTestsForWrong : ChangeSpec := { name := "fnExactTestsFor", fn := fun _ => fun
  | [d1, d2] => { results := [.lit (.bool false)], args := [d1, d2] }
  | _ => none }
def FnExactTestsForWrongFalsely : Prop := fnExactTestsForRow.holds Try.pinned (OpenSpec.ofChange fnExactTestsForWrong)

/-- 'laws.FnTestsTellBlocksApart': WHATEVER THE INPUT: true; the input reads as it did. -/
def fnTestsTellBlocksApartSpec : ChangeSpec := { name := "fnTestsTellBlocksApart", fn := fun _ => fun
  | [d1, d2] => { results := [.lit (.bool true)], args := [d1, d2] }
  | _ => none }
def fnTestsTellBlocksApartRow : OpenClaim := { program := "ytppljcmkilmgmaa", sum := "951594f046e941f5879e845c4e4c8c6e6e31362ba96421f78e1d46e6a13c91ee", func := "loop.example/g01127/laws.FnTestsTellBlocksApart", spec := "fnTestsTellBlocksApart", unfollowed := true, recurses := true, apart := false }
def FnTestsTellBlocksApartSaid : Prop := fnTestsTellBlocksApartRow.holds Try.pinned (OpenSpec.ofChange fnTestsTellBlocksApartSpec)

/-- ITS FALSE NEIGHBOUR: 'it returns false'. Refute it at one input. -/
def fnTestsTellBlocksApartWrong : ChangeSpec := { name := "fnTestsTellBlocksApart", fn := fun _ => fun
  | [d1, d2] => { results := [.lit (.bool false)], args := [d1, d2] }
  | _ => none }
def FnTestsTellBlocksApartWrongFalsely : Prop := fnTestsTellBlocksApartRow.holds Try.pinned (OpenSpec.ofChange fnTestsTellBlocksApartWrong)

/-- 'laws.FnProgramsRanked': WHATEVER THE INPUT: true; the input reads as it did. -/
def fnProgramsRankedSpec : ChangeSpec := { name := "fnProgramsRanked", fn := fun _ => fun
  | [d1, d2] => { results := [.lit (.bool true)], args := [d1, d2] }
  | _ => none }
def fnProgramsRankedRow : OpenClaim := { program := "ytppljcmkilmgmaa", sum := "951594f046e941f5879e845c4e4c8c6e6e31362ba96421f78e1d46e6a13c91ee", func := "loop.example/g01127/laws.FnProgramsRanked", spec := "fnProgramsRanked", recurses := true, apart := false }
def FnProgramsRankedSaid : Prop := fnProgramsRankedRow.holds Try.pinned (OpenSpec.ofChange fnProgramsRankedSpec)

/-- ITS FALSE NEIGHBOUR: 'it returns false'. Refute it at one input. -/
def fnProgramsRankedWrong : ChangeSpec := { name := "fnProgramsRanked", fn := fun _ => fun
  | [d1, d2] => { results := [.lit (.bool false)], args := [d1, d2] }
  | _ => none }
def FnProgramsRankedWrongFalsely : Prop := fnProgramsRankedRow.holds Try.pinned (OpenSpec.ofChange fnProgramsRankedWrong)

/-- 'laws.FnSwapsOfBlocks': WHATEVER THE INPUT: true; the input reads as it did. -/
def fnSwapsOfBlocksSpec : ChangeSpec := { name := "fnSwapsOfBlocks", fn := fun _ => fun
  | [d1, d2] => { results := [.lit (.bool true)], args := [d1, d2] }
  | _ => none }
def fnSwapsOfBlocksRow : OpenClaim := { program := "ytppljcmkilmgmaa", sum := "951594f046e941f5879e845c4e4c8c6e6e31362ba96421f78e1d46e6a13c91ee", func := "loop.example/g01127/laws.FnSwapsOfBlocks", spec := "fnSwapsOfBlocks", unfollowed := true, recurses := true, apart := false }
def FnSwapsOfBlocksSaid : Prop := fnSwapsOfBlocksRow.holds Try.pinned (OpenSpec.ofChange fnSwapsOfBlocksSpec)

/-- ITS FALSE NEIGHBOUR: 'it returns false'. Refute it at one input. -/
def fnSwapsOfBlocksWrong : ChangeSpec := { name := "fnSwapsOfBlocks", fn := fun _ => fun
  | [d1, d2] => { results := [.lit (.bool false)], args := [d1, d2] }
  | _ => none }
def FnSwapsOfBlocksWrongFalsely : Prop := fnSwapsOfBlocksRow.holds Try.pinned (OpenSpec.ofChange fnSwapsOfBlocksWrong)

/- THE SECOND FORM. 'bulk': how many values and letters a reading holds, each counted each time it is reached (what is shared counts as often as it is met; a slice's spare places count too). A statement '..UptoSaid' is the law's where the arguments, and the package variables that the reading takes, are together of bulk at most 1048576: NARROWER than '..Said'. Prove '..Said' where nothing that the law and all that it calls make is longer than what came in: it says more and counts as full. Else prove '..UptoSaid'. A law counts once. -/
mutual
def uptoBulk {H : Type} : DataW H → Nat
  | .lit (.string bytes) => bytes.length + 1
  | .lit _ => 1
  | .nil => 1
  | .ptr d => uptoBulk d + 1
  | .slice elems spare => uptoBulkAll elems + uptoBulkAll spare + 1
  | .agg parts => uptoBulkAll parts + 1
  | .iface _ d => uptoBulk d + 1
  | .map entries => uptoBulkEntries entries + 1
  | .held _ => 1
def uptoBulkAll {H : Type} : List (DataW H) → Nat
  | [] => 0
  | d :: r => uptoBulk d + uptoBulkAll r
def uptoBulkEntries {H : Type} : List (Lit × DataW H) → Nat
  | [] => 0
  | x :: r => uptoBulkEntry x + uptoBulkEntries r
def uptoBulkEntry {H : Type} : Lit × DataW H → Nat
  | (.string bytes, d) => bytes.length + uptoBulk d + 1
  | (_, d) => uptoBulk d + 1
 end
def uptoSmall : (H : Type) → List (DataW H) → Bool := fun _ ds => decide (uptoBulkAll ds ≤ 1048576)
def OpenSpec.upto (s : _root_.Go.ChangeSpec) : _root_.Go.OpenSpec := { _root_.Go.OpenSpec.ofChange s with cond := some uptoSmall }

/-- 'laws.FnExactTestsFor', WHERE WHAT IT READS IS OF BULK AT MOST 1048576: true; the input reads as it did. -/
def fnExactTestsForUptoRow : OpenClaim := { program := "ytppljcmkilmgmaa", sum := "951594f046e941f5879e845c4e4c8c6e6e31362ba96421f78e1d46e6a13c91ee", func := "loop.example/g01127/laws.FnExactTestsFor", spec := "fnExactTestsFor", unfollowed := true, recurses := true, apart := false, narrowed := true }
def FnExactTestsForUptoSaid : Prop := fnExactTestsForUptoRow.holds Try.pinned (OpenSpec.upto fnExactTestsForSpec)

/-- 'laws.FnTestsTellBlocksApart', WHERE WHAT IT READS IS OF BULK AT MOST 1048576: true; the input reads as it did. -/
def fnTestsTellBlocksApartUptoRow : OpenClaim := { program := "ytppljcmkilmgmaa", sum := "951594f046e941f5879e845c4e4c8c6e6e31362ba96421f78e1d46e6a13c91ee", func := "loop.example/g01127/laws.FnTestsTellBlocksApart", spec := "fnTestsTellBlocksApart", unfollowed := true, recurses := true, apart := false, narrowed := true }
def FnTestsTellBlocksApartUptoSaid : Prop := fnTestsTellBlocksApartUptoRow.holds Try.pinned (OpenSpec.upto fnTestsTellBlocksApartSpec)

/-- 'laws.FnProgramsRanked', WHERE WHAT IT READS IS OF BULK AT MOST 1048576: true; the input reads as it did. -/
def fnProgramsRankedUptoRow : OpenClaim := { program := "ytppljcmkilmgmaa", sum := "951594f046e941f5879e845c4e4c8c6e6e31362ba96421f78e1d46e6a13c91ee", func := "loop.example/g01127/laws.FnProgramsRanked", spec := "fnProgramsRanked", recurses := true, apart := false, narrowed := true }
def FnProgramsRankedUptoSaid : Prop := fnProgramsRankedUptoRow.holds Try.pinned (OpenSpec.upto fnProgramsRankedSpec)

/-- 'laws.FnSwapsOfBlocks', WHERE WHAT IT READS IS OF BULK AT MOST 1048576: true; the input reads as it did. -/
def fnSwapsOfBlocksUptoRow : OpenClaim := { program := "ytppljcmkilmgmaa", sum := "951594f046e941f5879e845c4e4c8c6e6e31362ba96421f78e1d46e6a13c91ee", func := "loop.example/g01127/laws.FnSwapsOfBlocks", spec := "fnSwapsOfBlocks", unfollowed := true, recurses := true, apart := false, narrowed := true }
def FnSwapsOfBlocksUptoSaid : Prop := fnSwapsOfBlocksUptoRow.holds Try.pinned (OpenSpec.upto fnSwapsOfBlocksSpec)

end Rows
end Go.Proofs.Ytppljcmkilmgmaa
