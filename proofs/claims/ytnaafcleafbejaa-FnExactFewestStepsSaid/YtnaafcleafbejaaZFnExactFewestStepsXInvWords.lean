/- Proved here: printed words of the kit (InvWords), cut down to what the law FnExactFewestSteps leans on. Conditions: as each states. -/
import Derived.Test.YtnaafcleafbejaaZFnExactFewestStepsXInv
import Derived.Test.YtnaafcleafbejaaZFnExactFewestStepsXFootNe
namespace Go.Proofs.YtnaafcleafbejaaW.PrintWords
open Go.RowKit
end Go.Proofs.YtnaafcleafbejaaW.PrintWords
namespace Go.Proofs.YtnaafcleafbejaaW.PrintLast
section
variable {ops : Array Oper} {a : Act} {o og : Oper} {g : Nat} {t : Tmp} {u : Bool}
end
end Go.Proofs.YtnaafcleafbejaaW.PrintLast

