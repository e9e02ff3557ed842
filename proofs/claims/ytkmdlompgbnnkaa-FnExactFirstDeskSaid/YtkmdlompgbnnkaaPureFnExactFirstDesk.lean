/- Proved here: the program's FirstDesk returns, for every call, what the reference's FirstDesk returns, in every field, in memory of its own. Conditions: none. -/
import Derived.Test.YtkmdlompgbnnkaaPFnExactFirstDeskx5
namespace Go.Proofs.Ytkmdlompgbnnkaa.Pure
open Go.RowKit Go.Proofs.Ytkmdlompgbnnkaa.PFnExactFirstDesk Go.Proofs.YtkmdlompgbnnkaaW.PrintWords Go.Proofs.YtkmdlompgbnnkaaW.PrintLast

theorem FnExactFirstDesk : laws_FnExactFirstDesk.Pure := ⟨40, by decide +kernel⟩

end Go.Proofs.Ytkmdlompgbnnkaa.Pure
