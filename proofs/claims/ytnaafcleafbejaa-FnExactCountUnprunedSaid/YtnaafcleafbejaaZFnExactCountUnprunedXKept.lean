/- Proved here: printed words of the kit (Kept), cut down to what the law FnExactCountUnpruned leans on. Conditions: as each states. -/
import Derived.Test.YtnaafcleafbejaaZFnExactCountUnprunedXFoot
namespace Go.Proofs.YtnaafcleafbejaaW.PrintWords
open Go.RowKit
section
variable {w W W2 : World} {S S2 S' : Nat → Prop}
end
namespace Kd
section
variable {α : Type} {d : Kd α} {e base n c : Nat} {ok oki S S2 : Nat → Prop} {w w0 W W1 W2 : World} {v : Value} {A : Option Addr} {xs : List α} {i : Int} {cs : List Value}
end
end Kd
end Go.Proofs.YtnaafcleafbejaaW.PrintWords

