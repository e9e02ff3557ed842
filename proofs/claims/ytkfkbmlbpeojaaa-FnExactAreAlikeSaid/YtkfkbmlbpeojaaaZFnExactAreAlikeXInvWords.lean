/- Proved here: printed words of the kit (InvWords), cut down to what the law FnExactAreAlike leans on. Conditions: as each states. -/
import Derived.Test.YtkfkbmlbpeojaaaZFnExactAreAlikeXInv
import Derived.Test.YtkfkbmlbpeojaaaZFnExactAreAlikeXFootNe
namespace Go.Proofs.YtkfkbmlbpeojaaaW.PrintWords
open Go.RowKit
end Go.Proofs.YtkfkbmlbpeojaaaW.PrintWords
namespace Go.Proofs.YtkfkbmlbpeojaaaW.PrintLast
section
variable {ops : Array Oper} {a : Act} {o og : Oper} {g : Nat} {t : Tmp} {u : Bool}
end
end Go.Proofs.YtkfkbmlbpeojaaaW.PrintLast

