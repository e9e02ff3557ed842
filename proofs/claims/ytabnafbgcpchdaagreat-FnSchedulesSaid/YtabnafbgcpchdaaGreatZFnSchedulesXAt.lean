/- Proved here: printed words of the kit (At), cut down to what the law FnSchedules leans on. Conditions: as each states. -/
import Derived.Test.YtabnafbgcpchdaaGreatZFnSchedulesXFootNe
namespace Go.Proofs.YtabnafbgcpchdaaGreatW.PrintWords
open Go.RowKit
section
variable {w w' u : World} {m B g : Nat} {o : Obj} {row : Option Nat} {S : Nat → Prop} {a : Addr} {v : Value}
theorem zlv (hq : w.drewN m = w') (h : Below B u w) : Below B u w' := by subst hq; exact zbn h m
theorem ybc (hq : w.drewN m = w') (h : Kept u w S) : Kept u w' S := by subst hq; exact Kept.drewN h m
theorem zl6 (hq : w.drewN m = w') (h : w.heap[g]? = some o) : w'.heap[g]? = some o := by subst hq; exact h
end
namespace Kd
section
variable {α : Type} {d : Kd α} {e base n m : Nat} {ok : Nat → Prop} {w w' : World} {v : Value} {A : Option Addr} {xs : List α}
theorem R_at (hq : w.drewN m = w') (h : d.R e w base ok v xs) : d.R e w' base ok v xs := by subst hq; exact R_drewN h m
theorem S_at (hq : w.drewN m = w') (h : Kd.S d e w base ok v xs) : Kd.S d e w' base ok v xs := by subst hq; exact S_drewN h m
end
end Kd
end Go.Proofs.YtabnafbgcpchdaaGreatW.PrintWords

