/- Proved here: printed words of the kit (InvWords), cut down to what the law FnExactCountUnpruned leans on. Conditions: as each states. -/
import Derived.Test.YtnaafcleafbejaaZFnExactCountUnprunedXInv
import Derived.Test.YtnaafcleafbejaaZFnExactCountUnprunedXFootNe
namespace Go.Proofs.YtnaafcleafbejaaW.PrintWords
open Go.RowKit
end Go.Proofs.YtnaafcleafbejaaW.PrintWords
namespace Go.Proofs.YtnaafcleafbejaaW.PrintLast
section
variable {ops : Array Oper} {a : Act} {o og : Oper} {g : Nat} {t : Tmp} {u : Bool}
end
end Go.Proofs.YtnaafcleafbejaaW.PrintLast

