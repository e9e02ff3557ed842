/-
  No cell of these rows narrows 'for every input' (looked for: loops, veiled, ifaces, maps, wideKeys, modest, calm, conditions, laid).
  DERIVED. THE GIVEN ROWS OF THIS SEAT. 3 by the template 'for every input the law returns true; each argument reads behind the call as it read before'; 0 by the template 'total and deterministic' (their statements: YtnaafcleafbejaaTotals.lean).
  GIVEN WITH THE SEED: the statements are not yours to turn. If you find one false, say at which input.
  Laid BY PROGRAM, IN A SANDBOX (cutbox-rows.mjs): the forced cells as the released guide's own fill.sh prints them over the translation 6299992f02ab30ec… (all of the seat's roots in one cut). By AI agents, Wed Nov 11 2026. No macro, syntax, notation, axiom, sorry.
-/
import Derived.Test.YtnaafcleafbejaaChecked
import GoSem.Claim
import GoSem.ClaimJoined
import GoSem.ClaimMapViews
import Derived.JoinedTies
import Derived.KernelRfl
namespace Go.Proofs.Ytnaafcleafbejaa
/- THE CELL 'sum', in the pinned program and in every row, IS THE sha256 OF THE DUMP (.gsa) THAT YtnaafcleafbejaaProg.lean LOADS. Nothing in Lean hashes anything: it is a label: what it is worth is what the hold of that sum in a sandbox is worth. -/
noncomputable def Try.pinned : Pinned := { name := "ytnaafcleafbejaa", sum := "6299992f02ab30ec579595168f71092ae2c7455532574d1fd0c9586afdddf0d4", checked := Try.checked }
namespace Rows
def none {H : Type} : Left H := { results := [], args := [] }

/-- 'laws.FnExactProgramReaches': WHATEVER THE INPUT: true; the input reads as it did. -/
def fnExactProgramReachesSpec : ChangeSpec := { name := "fnExactProgramReaches", fn := fun _ => fun
  | [d1, d2, d3] => { results := [.lit (.bool true)], args := [d1, d2, d3] }
  | _ => none }
def fnExactProgramReachesRow : OpenClaim := { program := "ytnaafcleafbejaa", sum := "6299992f02ab30ec579595168f71092ae2c7455532574d1fd0c9586afdddf0d4", func := "loop.example/g01127/laws.FnExactProgramReaches", spec := "fnExactProgramReaches", unfollowed := true, recurses := true, apart := false }
def FnExactProgramReachesSaid : Prop := fnExactProgramReachesRow.holds Try.pinned (OpenSpec.ofChange fnExactProgramReachesSpec)

/-- ITS FALSE NEIGHBOUR: 'it returns false'. Refute it at one input. -/
def fnExactProgramReachesWrong : ChangeSpec := { name := "fnExactProgramReaches", fn := fun _ => fun
  | [d1, d2, d3] => { results := [.lit (.bool false)], args := [d1, d2, d3] }
  | _ => none }
def FnExactProgramReachesWrongFalsely : Prop := fnExactProgramReachesRow.holds Try.pinned (OpenSpec.ofChange fnExactProgramReachesWrong)

/-- 'laws.FnExactFewestSteps': WHATEVER THE INPUT: true; the input reads as it did. -/
def fnExactFewestStepsSpec : ChangeSpec := { name := "fnExactFewestSteps", fn := fun _ => fun
  | [d1, d2, d3] => { results := [.lit (.bool true)], args := [d1, d2, d3] }
  | _ => none }
def fnExactFewestStepsRow : OpenClaim := { program := "ytnaafcleafbejaa", sum := "6299992f02ab30ec579595168f71092ae2c7455532574d1fd0c9586afdddf0d4", func := "loop.example/g01127/laws.FnExactFewestSteps", spec := "fnExactFewestSteps", unfollowed := true, recurses := true, apart := false }
def FnExactFewestStepsSaid : Prop := fnExactFewestStepsRow.holds Try.pinned (OpenSpec.ofChange fnExactFewestStepsSpec)

/-- ITS FALSE NEIGHBOUR: 'it returns false'. Refute it at one input. -/
def fnExactFewestStepsWrong : ChangeSpec := { name := "fnExactFewestSteps", fn := fun _ => fun
  | [d1, d2, d3] => { results := [.lit (.bool false)], args := [d1, d2, d3] }
  | _ => none }
def FnExactFewestStepsWrongFalsely : Prop := fnExactFewestStepsRow.holds Try.pinned (OpenSpec.ofChange fnExactFewestStepsWrong)

/-- 'laws.FnExactCountUnpruned': WHATEVER THE INPUT: true; the input reads as it did. -/
def fnExactCountUnprunedSpec : ChangeSpec := { name := "fnExactCountUnpruned", fn := fun _ => fun
  | [d1, d2] => { results := [.lit (.bool true)], args := [d1, d2] }
  | _ => none }
def fnExactCountUnprunedRow : OpenClaim := { program := "ytnaafcleafbejaa", sum := "6299992f02ab30ec579595168f71092ae2c7455532574d1fd0c9586afdddf0d4", func := "loop.example/g01127/laws.FnExactCountUnpruned", spec := "fnExactCountUnpruned", unfollowed := true, recurses := true, apart := false }
def FnExactCountUnprunedSaid : Prop := fnExactCountUnprunedRow.holds Try.pinned (OpenSpec.ofChange fnExactCountUnprunedSpec)

/-- ITS FALSE NEIGHBOUR: 'it returns false'. Refute it at one input. -/
def fnExactCountUnprunedWrong : ChangeSpec := { name := "fnExactCountUnpruned", fn := fun _ => fun
  | [d1, d2] => { results := [.lit (.bool false)], args := [d1, d2] }
  | _ => none }
def FnExactCountUnprunedWrongFalsely : Prop := fnExactCountUnprunedRow.holds Try.pinned (OpenSpec.ofChange fnExactCountUnprunedWrong)

/- THE SECOND FORM. 'bulk': how many values and letters a reading holds, each counted each time it is reached (what is shared counts as often as it is met; a slice's spare places count too). A statement '..UptoSaid' is the law's where the arguments, and the package variables that the reading takes, are together of bulk at most 1048576: NARROWER than '..Said'. Prove '..Said' where nothing that the law and all that it calls make is longer than what came in: it says more and counts as full. Else prove '..UptoSaid'. A law counts once. -/
mutual
def uptoBulk {H : Type} : DataW H → Nat
  | .lit (.string bytes) => bytes.length + 1
  | .lit _ => 1
  | .nil => 1
  | .ptr d => uptoBulk d + 1
  | .slice elems spare => uptoBulkAll elems + uptoBulkAll spare + 1
  | .agg parts => uptoBulkAll parts + 1
  | .iface _ d => uptoBulk d + 1
  | .map entries => uptoBulkEntries entries + 1
  | .held _ => 1
def uptoBulkAll {H : Type} : List (DataW H) → Nat
  | [] => 0
  | d :: r => uptoBulk d + uptoBulkAll r
def uptoBulkEntries {H : Type} : List (Lit × DataW H) → Nat
  | [] => 0
  | x :: r => uptoBulkEntry x + uptoBulkEntries r
def uptoBulkEntry {H : Type} : Lit × DataW H → Nat
  | (.string bytes, d) => bytes.length + uptoBulk d + 1
  | (_, d) => uptoBulk d + 1
 end
def uptoSmall : (H : Type) → List (DataW H) → Bool := fun _ ds => decide (uptoBulkAll ds ≤ 1048576)
def OpenSpec.upto (s : _root_.Go.ChangeSpec) : _root_.Go.OpenSpec := { _root_.Go.OpenSpec.ofChange s with cond := some uptoSmall }

/-- 'laws.FnExactProgramReaches', WHERE WHAT IT READS IS OF BULK AT MOST 1048576: true; the input reads as it did. -/
def fnExactProgramReachesUptoRow : OpenClaim := { program := "ytnaafcleafbejaa", sum := "6299992f02ab30ec579595168f71092ae2c7455532574d1fd0c9586afdddf0d4", func := "loop.example/g01127/laws.FnExactProgramReaches", spec := "fnExactProgramReaches", unfollowed := true, recurses := true, apart := false, narrowed := true }
def FnExactProgramReachesUptoSaid : Prop := fnExactProgramReachesUptoRow.holds Try.pinned (OpenSpec.upto fnExactProgramReachesSpec)

/-- 'laws.FnExactFewestSteps', WHERE WHAT IT READS IS OF BULK AT MOST 1048576: true; the input reads as it did. -/
def fnExactFewestStepsUptoRow : OpenClaim := { program := "ytnaafcleafbejaa", sum := "6299992f02ab30ec579595168f71092ae2c7455532574d1fd0c9586afdddf0d4", func := "loop.example/g01127/laws.FnExactFewestSteps", spec := "fnExactFewestSteps", unfollowed := true, recurses := true, apart := false, narrowed := true }
def FnExactFewestStepsUptoSaid : Prop := fnExactFewestStepsUptoRow.holds Try.pinned (OpenSpec.upto fnExactFewestStepsSpec)

/-- 'laws.FnExactCountUnpruned', WHERE WHAT IT READS IS OF BULK AT MOST 1048576: true; the input reads as it did. -/
def fnExactCountUnprunedUptoRow : OpenClaim := { program := "ytnaafcleafbejaa", sum := "6299992f02ab30ec579595168f71092ae2c7455532574d1fd0c9586afdddf0d4", func := "loop.example/g01127/laws.FnExactCountUnpruned", spec := "fnExactCountUnpruned", unfollowed := true, recurses := true, apart := false, narrowed := true }
def FnExactCountUnprunedUptoSaid : Prop := fnExactCountUnprunedUptoRow.holds Try.pinned (OpenSpec.upto fnExactCountUnprunedSpec)

end Rows
end Go.Proofs.Ytnaafcleafbejaa
