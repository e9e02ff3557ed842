/- Proved here: printed words of the kit (InvWords), cut down to what the law FnExactListSchedule leans on. Conditions: as each states. -/
import Derived.Test.YteaablbhdmkcpaaZFnExactListScheduleXInv
import Derived.Test.YteaablbhdmkcpaaZFnExactListScheduleXFootNe
namespace Go.Proofs.YteaablbhdmkcpaaW.PrintWords
open Go.RowKit
end Go.Proofs.YteaablbhdmkcpaaW.PrintWords
namespace Go.Proofs.YteaablbhdmkcpaaW.PrintLast
section
variable {ops : Array Oper} {a : Act} {o og : Oper} {g : Nat} {t : Tmp} {u : Bool}
end
end Go.Proofs.YteaablbhdmkcpaaW.PrintLast

