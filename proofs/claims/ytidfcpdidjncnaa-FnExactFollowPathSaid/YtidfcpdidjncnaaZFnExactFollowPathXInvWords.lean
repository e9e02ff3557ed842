/- Proved here: printed words of the kit (InvWords), cut down to what the law FnExactFollowPath leans on. Conditions: as each states. -/
import Derived.Test.YtidfcpdidjncnaaZFnExactFollowPathXInv
import Derived.Test.YtidfcpdidjncnaaZFnExactFollowPathXFootNe
namespace Go.Proofs.YtidfcpdidjncnaaW.PrintWords
open Go.RowKit
end Go.Proofs.YtidfcpdidjncnaaW.PrintWords
namespace Go.Proofs.YtidfcpdidjncnaaW.PrintLast
section
variable {ops : Array Oper} {a : Act} {o og : Oper} {g : Nat} {t : Tmp} {u : Bool}
end
end Go.Proofs.YtidfcpdidjncnaaW.PrintLast

