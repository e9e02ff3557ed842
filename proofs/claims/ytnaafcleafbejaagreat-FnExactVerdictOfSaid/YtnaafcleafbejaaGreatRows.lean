/-
  No cell of these rows narrows 'for every input' (looked for: loops, veiled, ifaces, maps, wideKeys, modest, calm, conditions, laid).
  DERIVED. THE GIVEN ROWS OF THIS SEAT. 5 by the template 'for every input the law returns true; each argument reads behind the call as it read before'; 0 by the template 'total and deterministic' (their statements: YtnaafcleafbejaaGreatTotals.lean).
  GIVEN WITH THE SEED: the statements are not yours to turn. If you find one false, say at which input.
  Laid BY PROGRAM, IN A SANDBOX (cutbox-rows.mjs): the forced cells as the released guide's own fill.sh prints them over the translation d8f0975c3a23ce9a… (all of the seat's roots in one cut). By AI agents, Wed Nov 11 2026. No macro, syntax, notation, axiom, sorry.
-/
import Derived.Test.YtnaafcleafbejaaGreatChecked
import GoSem.Claim
import GoSem.ClaimJoined
import GoSem.ClaimMapViews
import Derived.JoinedTies
import Derived.KernelRfl
namespace Go.Proofs.YtnaafcleafbejaaGreat
/- THE CELL 'sum', in the pinned program and in every row, IS THE sha256 OF THE DUMP (.gsa) THAT YtnaafcleafbejaaGreatProg.lean LOADS. Nothing in Lean hashes anything: it is a label: what it is worth is what the hold of that sum in a sandbox is worth. -/
noncomputable def Tryz.pinned : Pinned := { name := "ytnaafcleafbejaagreat", sum := "d8f0975c3a23ce9aeb3621a28cc5a1835e7ebb624ce6614efa88899d7260caf7", checked := Tryz.checked }
namespace Rows
def none {H : Type} : Left H := { results := [], args := [] }

/-- 'laws.FnExactShortestFor': WHATEVER THE INPUT: true; the input reads as it did. -/
def fnExactShortestForSpec : ChangeSpec := { name := "fnExactShortestFor", fn := fun _ => fun
  | [d1, d2, d3] => { results := [.lit (.bool true)], args := [d1, d2, d3] }
  | _ => none }
def fnExactShortestForRow : OpenClaim := { program := "ytnaafcleafbejaagreat", sum := "d8f0975c3a23ce9aeb3621a28cc5a1835e7ebb624ce6614efa88899d7260caf7", func := "loop.example/g01127/laws.FnExactShortestFor", spec := "fnExactShortestFor", unfollowed := true, recurses := true, apart := false }
def FnExactShortestForSaid : Prop := fnExactShortestForRow.holds Tryz.pinned (OpenSpec.ofChange fnExactShortestForSpec)

/-- ITS FALSE NEIGHBOUR: 'it returns false'. Refute it at one input. -/
def fnExactShortestForWrong : ChangeSpec := { name := "fnExactShortestFor", fn := fun _ => fun
  | [d1, d2, d3] => { results := [.lit (.bool false)], args := [d1, d2, d3] }
  | _ => none }
def FnExactShortestForWrongFalsely : Prop := fnExactShortestForRow.holds Tryz.pinned (OpenSpec.ofChange fnExactShortestForWrong)

/-- 'laws.FnExactCheapestFor': WHATEVER THE INPUT: true; the input reads as it did. -/
def fnExactCheapestForSpec : ChangeSpec := { name := "fnExactCheapestFor", fn := fun _ => fun
  | [d1, d2, d3] => { results := [.lit (.bool true)], args := [d1, d2, d3] }
  | _ => none }
def fnExactCheapestForRow : OpenClaim := { program := "ytnaafcleafbejaagreat", sum := "d8f0975c3a23ce9aeb3621a28cc5a1835e7ebb624ce6614efa88899d7260caf7", func := "loop.example/g01127/laws.FnExactCheapestFor", spec := "fnExactCheapestFor", unfollowed := true, recurses := true, apart := false }
def FnExactCheapestForSaid : Prop := fnExactCheapestForRow.holds Tryz.pinned (OpenSpec.ofChange fnExactCheapestForSpec)

/-- ITS FALSE NEIGHBOUR: 'it returns false'. Refute it at one input. -/
def fnExactCheapestForWrong : ChangeSpec := { name := "fnExactCheapestFor", fn := fun _ => fun
  | [d1, d2, d3] => { results := [.lit (.bool false)], args := [d1, d2, d3] }
  | _ => none }
def FnExactCheapestForWrongFalsely : Prop := fnExactCheapestForRow.holds Tryz.pinned (OpenSpec.ofChange fnExactCheapestForWrong)

/-- 'laws.FnExactPrunedFor': WHATEVER THE INPUT: true; the input reads as it did. -/
def fnExactPrunedForSpec : ChangeSpec := { name := "fnExactPrunedFor", fn := fun _ => fun
  | [d1, d2, d3] => { results := [.lit (.bool true)], args := [d1, d2, d3] }
  | _ => none }
def fnExactPrunedForRow : OpenClaim := { program := "ytnaafcleafbejaagreat", sum := "d8f0975c3a23ce9aeb3621a28cc5a1835e7ebb624ce6614efa88899d7260caf7", func := "loop.example/g01127/laws.FnExactPrunedFor", spec := "fnExactPrunedFor", unfollowed := true, recurses := true, apart := false }
def FnExactPrunedForSaid : Prop := fnExactPrunedForRow.holds Tryz.pinned (OpenSpec.ofChange fnExactPrunedForSpec)

/-- ITS FALSE NEIGHBOUR: 'it returns false'. Refute it at one input. -/
def fnExactPrunedForWrong : ChangeSpec := { name := "fnExactPrunedFor", fn := fun _ => fun
  | [d1, d2, d3] => { results := [.lit (.bool false)], args := [d1, d2, d3] }
  | _ => none }
def FnExactPrunedForWrongFalsely : Prop := fnExactPrunedForRow.holds Tryz.pinned (OpenSpec.ofChange fnExactPrunedForWrong)

/-- 'laws.FnExactAllShortest': WHATEVER THE INPUT: true; the input reads as it did. -/
def fnExactAllShortestSpec : ChangeSpec := { name := "fnExactAllShortest", fn := fun _ => fun
  | [d1, d2, d3] => { results := [.lit (.bool true)], args := [d1, d2, d3] }
  | _ => none }
def fnExactAllShortestRow : OpenClaim := { program := "ytnaafcleafbejaagreat", sum := "d8f0975c3a23ce9aeb3621a28cc5a1835e7ebb624ce6614efa88899d7260caf7", func := "loop.example/g01127/laws.FnExactAllShortest", spec := "fnExactAllShortest", unfollowed := true, recurses := true, apart := false }
def FnExactAllShortestSaid : Prop := fnExactAllShortestRow.holds Tryz.pinned (OpenSpec.ofChange fnExactAllShortestSpec)

/-- ITS FALSE NEIGHBOUR: 'it returns false'. Refute it at one input. -/
def fnExactAllShortestWrong : ChangeSpec := { name := "fnExactAllShortest", fn := fun _ => fun
  | [d1, d2, d3] => { results := [.lit (.bool false)], args := [d1, d2, d3] }
  | _ => none }
def FnExactAllShortestWrongFalsely : Prop := fnExactAllShortestRow.holds Tryz.pinned (OpenSpec.ofChange fnExactAllShortestWrong)

/-- 'laws.FnExactVerdictOf': WHATEVER THE INPUT: true; the input reads as it did. -/
def fnExactVerdictOfSpec : ChangeSpec := { name := "fnExactVerdictOf", fn := fun _ => fun
  | [d1, d2, d3] => { results := [.lit (.bool true)], args := [d1, d2, d3] }
  | _ => none }
def fnExactVerdictOfRow : OpenClaim := { program := "ytnaafcleafbejaagreat", sum := "d8f0975c3a23ce9aeb3621a28cc5a1835e7ebb624ce6614efa88899d7260caf7", func := "loop.example/g01127/laws.FnExactVerdictOf", spec := "fnExactVerdictOf", unfollowed := true, recurses := true, apart := false }
def FnExactVerdictOfSaid : Prop := fnExactVerdictOfRow.holds Tryz.pinned (OpenSpec.ofChange fnExactVerdictOfSpec)

/-- ITS FALSE NEIGHBOUR: 'it returns false'. Refute it at one input. -/
def fnExactVerdictOfWrong : ChangeSpec := { name := "fnExactVerdictOf", fn := fun _ => fun
  | [d1, d2, d3] => { results := [.lit (.bool false)], args := [d1, d2, d3] }
  | _ => none }
def FnExactVerdictOfWrongFalsely : Prop := fnExactVerdictOfRow.holds Tryz.pinned (OpenSpec.ofChange fnExactVerdictOfWrong)

/- THE SECOND FORM. 'bulk': how many values and letters a reading holds, each counted each time it is reached (what is shared counts as often as it is met; a slice's spare places count too). A statement '..UptoSaid' is the law's where the arguments, and the package variables that the reading takes, are together of bulk at most 1048576: NARROWER than '..Said'. Prove '..Said' where nothing that the law and all that it calls make is longer than what came in: it says more and counts as full. Else prove '..UptoSaid'. A law counts once. -/
mutual
def uptoBulk {H : Type} : DataW H → Nat
  | .lit (.string bytes) => bytes.length + 1
  | .lit _ => 1
  | .nil => 1
  | .ptr d => uptoBulk d + 1
  | .slice elems spare => uptoBulkAll elems + uptoBulkAll spare + 1
  | .agg parts => uptoBulkAll parts + 1
  | .iface _ d => uptoBulk d + 1
  | .map entries => uptoBulkEntries entries + 1
  | .held _ => 1
def uptoBulkAll {H : Type} : List (DataW H) → Nat
  | [] => 0
  | d :: r => uptoBulk d + uptoBulkAll r
def uptoBulkEntries {H : Type} : List (Lit × DataW H) → Nat
  | [] => 0
  | x :: r => uptoBulkEntry x + uptoBulkEntries r
def uptoBulkEntry {H : Type} : Lit × DataW H → Nat
  | (.string bytes, d) => bytes.length + uptoBulk d + 1
  | (_, d) => uptoBulk d + 1
 end
def uptoSmall : (H : Type) → List (DataW H) → Bool := fun _ ds => decide (uptoBulkAll ds ≤ 1048576)
def OpenSpec.upto (s : _root_.Go.ChangeSpec) : _root_.Go.OpenSpec := { _root_.Go.OpenSpec.ofChange s with cond := some uptoSmall }

/-- 'laws.FnExactShortestFor', WHERE WHAT IT READS IS OF BULK AT MOST 1048576: true; the input reads as it did. -/
def fnExactShortestForUptoRow : OpenClaim := { program := "ytnaafcleafbejaagreat", sum := "d8f0975c3a23ce9aeb3621a28cc5a1835e7ebb624ce6614efa88899d7260caf7", func := "loop.example/g01127/laws.FnExactShortestFor", spec := "fnExactShortestFor", unfollowed := true, recurses := true, apart := false, narrowed := true }
def FnExactShortestForUptoSaid : Prop := fnExactShortestForUptoRow.holds Tryz.pinned (OpenSpec.upto fnExactShortestForSpec)

/-- 'laws.FnExactCheapestFor', WHERE WHAT IT READS IS OF BULK AT MOST 1048576: true; the input reads as it did. -/
def fnExactCheapestForUptoRow : OpenClaim := { program := "ytnaafcleafbejaagreat", sum := "d8f0975c3a23ce9aeb3621a28cc5a1835e7ebb624ce6614efa88899d7260caf7", func := "loop.example/g01127/laws.FnExactCheapestFor", spec := "fnExactCheapestFor", unfollowed := true, recurses := true, apart := false, narrowed := true }
def FnExactCheapestForUptoSaid : Prop := fnExactCheapestForUptoRow.holds Tryz.pinned (OpenSpec.upto fnExactCheapestForSpec)

/-- 'laws.FnExactPrunedFor', WHERE WHAT IT READS IS OF BULK AT MOST 1048576: true; the input reads as it did. -/
def fnExactPrunedForUptoRow : OpenClaim := { program := "ytnaafcleafbejaagreat", sum := "d8f0975c3a23ce9aeb3621a28cc5a1835e7ebb624ce6614efa88899d7260caf7", func := "loop.example/g01127/laws.FnExactPrunedFor", spec := "fnExactPrunedFor", unfollowed := true, recurses := true, apart := false, narrowed := true }
def FnExactPrunedForUptoSaid : Prop := fnExactPrunedForUptoRow.holds Tryz.pinned (OpenSpec.upto fnExactPrunedForSpec)

/-- 'laws.FnExactAllShortest', WHERE WHAT IT READS IS OF BULK AT MOST 1048576: true; the input reads as it did. -/
def fnExactAllShortestUptoRow : OpenClaim := { program := "ytnaafcleafbejaagreat", sum := "d8f0975c3a23ce9aeb3621a28cc5a1835e7ebb624ce6614efa88899d7260caf7", func := "loop.example/g01127/laws.FnExactAllShortest", spec := "fnExactAllShortest", unfollowed := true, recurses := true, apart := false, narrowed := true }
def FnExactAllShortestUptoSaid : Prop := fnExactAllShortestUptoRow.holds Tryz.pinned (OpenSpec.upto fnExactAllShortestSpec)

/-- 'laws.FnExactVerdictOf', WHERE WHAT IT READS IS OF BULK AT MOST 1048576: true; the input reads as it did. -/
def fnExactVerdictOfUptoRow : OpenClaim := { program := "ytnaafcleafbejaagreat", sum := "d8f0975c3a23ce9aeb3621a28cc5a1835e7ebb624ce6614efa88899d7260caf7", func := "loop.example/g01127/laws.FnExactVerdictOf", spec := "fnExactVerdictOf", unfollowed := true, recurses := true, apart := false, narrowed := true }
def FnExactVerdictOfUptoSaid : Prop := fnExactVerdictOfUptoRow.holds Tryz.pinned (OpenSpec.upto fnExactVerdictOfSpec)

end Rows
end Go.Proofs.YtnaafcleafbejaaGreat
