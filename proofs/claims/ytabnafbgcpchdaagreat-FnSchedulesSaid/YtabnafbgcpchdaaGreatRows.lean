/-
  No cell of these rows narrows 'for every input' (looked for: loops, veiled, ifaces, maps, wideKeys, modest, calm, conditions, laid).
  DERIVED. THE GIVEN ROWS OF THIS SEAT. 3 by the template 'for every input the law returns true; each argument reads behind the call as it read before'; 0 by the template 'total and deterministic' (their statements: YtabnafbgcpchdaaGreatTotals.lean).
  GIVEN WITH THE SEED: the statements are not yours to turn. If you find one false, say at which input.
  Laid BY PROGRAM, IN A SANDBOX (cutbox-rows.mjs): the forced cells as the released guide's own fill.sh prints them over the translation 9d5a214b65b7faae… (all of the seat's roots in one cut). By AI agents, Wed Nov 11 2026. No macro, syntax, notation, axiom, sorry.
-/
import Derived.Test.YtabnafbgcpchdaaGreatChecked
import GoSem.Claim
import GoSem.ClaimJoined
import GoSem.ClaimMapViews
import Derived.JoinedTies
import Derived.KernelRfl
namespace Go.Proofs.YtabnafbgcpchdaaGreat
/- THE CELL 'sum', in the pinned program and in every row, IS THE sha256 OF THE DUMP (.gsa) THAT YtabnafbgcpchdaaGreatProg.lean LOADS. Nothing in Lean hashes anything: it is a label: what it is worth is what the hold of that sum in a sandbox is worth. -/
noncomputable def Tryz.pinned : Pinned := { name := "ytabnafbgcpchdaagreat", sum := "9d5a214b65b7faaea00e0c091765d192e3a3ee0355b0085e8f1c3ad6bdeca90f", checked := Tryz.checked }
namespace Rows
def none {H : Type} : Left H := { results := [], args := [] }

/-- 'laws.FnOrdersKeepCode': WHATEVER THE INPUT: true; the input reads as it did. -/
def fnOrdersKeepCodeSpec : ChangeSpec := { name := "fnOrdersKeepCode", fn := fun _ => fun
  | [d1, d2] => { results := [.lit (.bool true)], args := [d1, d2] }
  | _ => none }
def fnOrdersKeepCodeRow : OpenClaim := { program := "ytabnafbgcpchdaagreat", sum := "9d5a214b65b7faaea00e0c091765d192e3a3ee0355b0085e8f1c3ad6bdeca90f", func := "loop.example/g01127/laws.FnOrdersKeepCode", spec := "fnOrdersKeepCode", unfollowed := true, recurses := true, apart := false }
def FnOrdersKeepCodeSaid : Prop := fnOrdersKeepCodeRow.holds Tryz.pinned (OpenSpec.ofChange fnOrdersKeepCodeSpec)

/-- ITS FALSE NEIGHBOUR: 'it returns false'. Refute it at one input. -/
def fnOrdersKeepCodeWrong : ChangeSpec := { name := "fnOrdersKeepCode", fn := fun _ => fun
  | [d1, d2] => { results := [.lit (.bool false)], args := [d1, d2] }
  | _ => none }
def FnOrdersKeepCodeWrongFalsely : Prop := fnOrdersKeepCodeRow.holds Tryz.pinned (OpenSpec.ofChange fnOrdersKeepCodeWrong)

/-- 'laws.FnSchedules': WHATEVER THE INPUT: true; the input reads as it did. -/
def fnSchedulesSpec : ChangeSpec := { name := "fnSchedules", fn := fun _ => fun
  | [d1, d2] => { results := [.lit (.bool true)], args := [d1, d2] }
  | _ => none }
def fnSchedulesRow : OpenClaim := { program := "ytabnafbgcpchdaagreat", sum := "9d5a214b65b7faaea00e0c091765d192e3a3ee0355b0085e8f1c3ad6bdeca90f", func := "loop.example/g01127/laws.FnSchedules", spec := "fnSchedules", unfollowed := true, recurses := true, apart := false }
def FnSchedulesSaid : Prop := fnSchedulesRow.holds Tryz.pinned (OpenSpec.ofChange fnSchedulesSpec)

/-- ITS FALSE NEIGHBOUR: 'it returns false'. Refute it at one input. -/
def fnSchedulesWrong : ChangeSpec := { name := "fnSchedules", fn := fun _ => fun
  | [d1, d2] => { results := [.lit (.bool false)], args := [d1, d2] }
  | _ => none }
def FnSchedulesWrongFalsely : Prop := fnSchedulesRow.holds Tryz.pinned (OpenSpec.ofChange fnSchedulesWrong)

/-- 'laws.FnBestSchedules': WHATEVER THE INPUT: true; the input reads as it did. -/
def fnBestSchedulesSpec : ChangeSpec := { name := "fnBestSchedules", fn := fun _ => fun
  | [d1, d2] => { results := [.lit (.bool true)], args := [d1, d2] }
  | _ => none }
def fnBestSchedulesRow : OpenClaim := { program := "ytabnafbgcpchdaagreat", sum := "9d5a214b65b7faaea00e0c091765d192e3a3ee0355b0085e8f1c3ad6bdeca90f", func := "loop.example/g01127/laws.FnBestSchedules", spec := "fnBestSchedules", unfollowed := true, recurses := true, apart := false }
def FnBestSchedulesSaid : Prop := fnBestSchedulesRow.holds Tryz.pinned (OpenSpec.ofChange fnBestSchedulesSpec)

/-- ITS FALSE NEIGHBOUR: 'it returns false'. Refute it at one input. -/
def fnBestSchedulesWrong : ChangeSpec := { name := "fnBestSchedules", fn := fun _ => fun
  | [d1, d2] => { results := [.lit (.bool false)], args := [d1, d2] }
  | _ => none }
def FnBestSchedulesWrongFalsely : Prop := fnBestSchedulesRow.holds Tryz.pinned (OpenSpec.ofChange fnBestSchedulesWrong)

/- THE SECOND FORM. 'bulk': how many values and letters a reading holds, each counted each time it is reached (what is shared counts as often as it is met; a slice's spare places count too). A statement '..UptoSaid' is the law's where the arguments, and the package variables that the reading takes, are together of bulk at most 1048576: NARROWER than '..Said'. Prove '..Said' where nothing that the law and all that it calls make is longer than what came in: it says more and counts as full. Else prove '..UptoSaid'. A law counts once. -/
mutual
def uptoBulk {H : Type} : DataW H → Nat
  | .lit (.string bytes) => bytes.length + 1
  | .lit _ => 1
  | .nil => 1
  | .ptr d => uptoBulk d + 1
  | .slice elems spare => uptoBulkAll elems + uptoBulkAll spare + 1
  | .agg parts => uptoBulkAll parts + 1
  | .iface _ d => uptoBulk d + 1
  | .map entries => uptoBulkEntries entries + 1
  | .held _ => 1
def uptoBulkAll {H : Type} : List (DataW H) → Nat
  | [] => 0
  | d :: r => uptoBulk d + uptoBulkAll r
def uptoBulkEntries {H : Type} : List (Lit × DataW H) → Nat
  | [] => 0
  | x :: r => uptoBulkEntry x + uptoBulkEntries r
def uptoBulkEntry {H : Type} : Lit × DataW H → Nat
  | (.string bytes, d) => bytes.length + uptoBulk d + 1
  | (_, d) => uptoBulk d + 1
 end
def uptoSmall : (H : Type) → List (DataW H) → Bool := fun _ ds => decide (uptoBulkAll ds ≤ 1048576)
def OpenSpec.upto (s : _root_.Go.ChangeSpec) : _root_.Go.OpenSpec := { _root_.Go.OpenSpec.ofChange s with cond := some uptoSmall }

/-- 'laws.FnOrdersKeepCode', WHERE WHAT IT READS IS OF BULK AT MOST 1048576: true; the input reads as it did. -/
def fnOrdersKeepCodeUptoRow : OpenClaim := { program := "ytabnafbgcpchdaagreat", sum := "9d5a214b65b7faaea00e0c091765d192e3a3ee0355b0085e8f1c3ad6bdeca90f", func := "loop.example/g01127/laws.FnOrdersKeepCode", spec := "fnOrdersKeepCode", unfollowed := true, recurses := true, apart := false, narrowed := true }
def FnOrdersKeepCodeUptoSaid : Prop := fnOrdersKeepCodeUptoRow.holds Tryz.pinned (OpenSpec.upto fnOrdersKeepCodeSpec)

/-- 'laws.FnSchedules', WHERE WHAT IT READS IS OF BULK AT MOST 1048576: true; the input reads as it did. -/
def fnSchedulesUptoRow : OpenClaim := { program := "ytabnafbgcpchdaagreat", sum := "9d5a214b65b7faaea00e0c091765d192e3a3ee0355b0085e8f1c3ad6bdeca90f", func := "loop.example/g01127/laws.FnSchedules", spec := "fnSchedules", unfollowed := true, recurses := true, apart := false, narrowed := true }
def FnSchedulesUptoSaid : Prop := fnSchedulesUptoRow.holds Tryz.pinned (OpenSpec.upto fnSchedulesSpec)

/-- 'laws.FnBestSchedules', WHERE WHAT IT READS IS OF BULK AT MOST 1048576: true; the input reads as it did. -/
def fnBestSchedulesUptoRow : OpenClaim := { program := "ytabnafbgcpchdaagreat", sum := "9d5a214b65b7faaea00e0c091765d192e3a3ee0355b0085e8f1c3ad6bdeca90f", func := "loop.example/g01127/laws.FnBestSchedules", spec := "fnBestSchedules", unfollowed := true, recurses := true, apart := false, narrowed := true }
def FnBestSchedulesUptoSaid : Prop := fnBestSchedulesUptoRow.holds Tryz.pinned (OpenSpec.upto fnBestSchedulesSpec)

end Rows
end Go.Proofs.YtabnafbgcpchdaaGreat
