/- Proved here: printed words of the kit (InvWords), cut down to what the law FnExactProgramTable leans on. Conditions: as each states. -/
import Derived.Test.YtccoiifklcgodaaZFnExactProgramTableXInv
import Derived.Test.YtccoiifklcgodaaZFnExactProgramTableXFootNe
namespace Go.Proofs.YtccoiifklcgodaaW.PrintWords
open Go.RowKit
end Go.Proofs.YtccoiifklcgodaaW.PrintWords
namespace Go.Proofs.YtccoiifklcgodaaW.PrintLast
section
variable {ops : Array Oper} {a : Act} {o og : Oper} {g : Nat} {t : Tmp} {u : Bool}
end
end Go.Proofs.YtccoiifklcgodaaW.PrintLast

