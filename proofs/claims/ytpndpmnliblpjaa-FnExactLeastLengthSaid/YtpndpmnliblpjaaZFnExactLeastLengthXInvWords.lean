/- Proved here: printed words of the kit (InvWords), cut down to what the law FnExactLeastLength leans on. Conditions: as each states. -/
import Derived.Test.YtpndpmnliblpjaaZFnExactLeastLengthXInv
import Derived.Test.YtpndpmnliblpjaaZFnExactLeastLengthXFootNe
namespace Go.Proofs.YtpndpmnliblpjaaW.PrintWords
open Go.RowKit
end Go.Proofs.YtpndpmnliblpjaaW.PrintWords
namespace Go.Proofs.YtpndpmnliblpjaaW.PrintLast
section
variable {ops : Array Oper} {a : Act} {o og : Oper} {g : Nat} {t : Tmp} {u : Bool}
end
end Go.Proofs.YtpndpmnliblpjaaW.PrintLast

