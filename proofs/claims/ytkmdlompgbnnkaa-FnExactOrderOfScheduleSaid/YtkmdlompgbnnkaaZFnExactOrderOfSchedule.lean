/- Proved here: for all code and all lists of cycles the program's OrderOfSchedule returns what the reference's OrderOfSchedule returns, its arguments stay as they were, and nothing is shared. Conditions: none. -/
import Derived.Test.YtkmdlompgbnnkaaRows
import Derived.Below
import Derived.ChangeOld
import Derived.OpenShut
import Derived.ProofKit
import Derived.ShutString
import Derived.SizedLaws
import Derived.WalkKit
import Derived.Test.YtkmdlompgbnnkaaZFnExactOrderOfSchedule1
import Derived.Test.YtkmdlompgbnnkaaZFnExactOrderOfSchedule2
import Derived.Test.YtkmdlompgbnnkaaZFnExactOrderOfSchedule3
import Derived.Test.YtkmdlompgbnnkaaZFnExactOrderOfSchedule4
section
namespace Go.Proofs.Ytkmdlompgbnnkaa.fnExactOrderOfSchedule
open Go.ChangeShapes Go.WideShapes Go.ChangeAt Go.RowKit Go.Proofs.YtkmdlompgbnnkaaW.PrintWords Go.Proofs.YtkmdlompgbnnkaaW.PrintLast Go.Proofs.Ytkmdlompgbnnkaa.Q
open Go.ChangeMaps (open_string shut_string)
set_option linter.unusedVariables false
theorem own : ownKnob Try.prog.godebug = none := by kernel_rfl
theorem laidOut : laidOutB Try.prog = true := by kernel_rfl
set_option maxRecDepth 100000 in
theorem lifted (os : Os) (started : os.Started) (H : Type) (enc : TypeId × Value → H) :
    ReturnsInHanded {} Try.checked os 14 .any (Rows.fnExactOrderOfScheduleSpec.pre6 enc Try.prog Try.f14 Rows.fnExactOrderOfScheduleRow.domain false) (Rows.fnExactOrderOfScheduleSpec.post enc Try.prog Try.f14 false true false false) := by
  refine returnsInHanded_of_change_sized (C := Try.checked) own started (by kernel_rfl) Try.func14
    (ChangeSpec.witness6 (enc := enc) (C := Try.checked) false ⟨#[], #[.slice none 0 0, .slice none 0 0], []⟩ 8 (by kernel_rfl) (by kernel_rfl) (by kernel_rfl) (by kernel_rfl)) ?_
  intro W base args ds gs before hval0 hW hcnd hsz0 _
  have hval : ∀ (j : Nat) t v, Try.f14.params[j]? = some t → args[j]? = some v → Value.okWide Try.prog W .any base t v := hval0
  have hW' := hW
  obtain ⟨p, q, hA0, hV, rfl, hfz, hnd⟩ := hW
  have hA : DataW.TrodAll enc Try.prog W 0 (fun _ => true) true Try.f14.params.toList args.toList ds p := hA0
  rw [Try.params14] at hA hval
  obtain ⟨v0, vs0, d0, ds0, p0, q0, hargs, rfl, rfl, h0, r0⟩ := trodAll_cons hA
  obtain ⟨v1, vs1, d1, ds1, p1, q1, rfl, rfl, rfl, h1, r1⟩ := trodAll_cons r0
  obtain ⟨rfl, rfl, rfl⟩ := trodAll_nil r1
  obtain rfl : args = #[v0, v1] := by cases args; simp_all
  obtain ⟨rfl, rfl⟩ := trodVars_none hV
  obtain ⟨A0, len0, c0, rfl⟩ := okWide_slice Try.underlying30 (hval 0 30 v0 rfl rfl)
  have k0 := h0
  have lt0 : ∀ x ∈ p0, x.block < W.heap.size := by obtain ⟨m, hm⟩ := k0; exact DataW.trod_lt m _ _ _ hm
  obtain ⟨a0, rfl, hl0, hC0, gd0⟩ := Rd.arg_slice (Rd.rk_slice rd81 Try.underlying30 (by kernel_rfl)) h0
  obtain ⟨A1, len1, c1, rfl⟩ := okWide_slice Try.underlying31 (hval 1 31 v1 rfl rfl)
  have k1 := h1
  have lt1 : ∀ x ∈ p1, x.block < W.heap.size := by obtain ⟨m, hm⟩ := k1; exact DataW.trod_lt m _ _ _ hm
  obtain ⟨a1, rfl, hl1, hC1, gd1⟩ := Rd.arg_slice (Rd.rk_slice (Rd.rk_int Try.underlying3 (by kernel_rfl)) Try.underlying31 (by kernel_rfl)) h1
  clear hA0 hval0 hsz0
  obtain ⟨k, hk⟩ := Pure.FnExactOrderOfSchedule a0 a1 gd0 gd1
  refine (laws_FnExactOrderOfSchedule.calls k A0 c0 a0 A1 c1 a1 true W hC0 hl0 hC1 hl1 hk).mono fun e W' ⟨he, bel0⟩ => ?_
  have bel : Below W.heap.size W W' := bel0
  subst he
  exact ⟨_, rfl, _, _, _, [], _, [], hW', trodAll_mk1 (shut_bool Try.underlying4 _), (trodAll_cons_mk (Below.trod laidOut (by kernel_rfl) (of_decide_eq_true (by kernel_rfl)) k0 bel lt0) (trodAll_cons_mk (Below.trod laidOut (by kernel_rfl) (of_decide_eq_true (by kernel_rfl)) k1 bel lt1) trodAll_mk0)), rfl, bel.frame _, fun h => by cases h⟩
theorem over : Rows.fnExactOrderOfScheduleRow.holds Try.pinned (OpenSpec.ofChange Rows.fnExactOrderOfScheduleSpec) :=
  OpenClaim.holds_of_wide 14 Try.f14 rfl rfl rfl rfl rfl rfl rfl ⟨rfl, rfl, rfl, rfl, rfl⟩ rfl rfl rfl rfl rfl (by kernel_rfl) Try.func14 (by kernel_rfl)
    (of_decide_eq_true (by kernel_rfl)) (by unfold Func.isWrapper; first | (rw [if_pos (by decide +kernel)]; kernel_rfl) | (rw [if_neg (by decide +kernel)]; exact ⟨rfl, rfl⟩))
    (fun os started H enc _ => lifted os started H enc)
theorem proved : Rows.FnExactOrderOfScheduleSaid := over
end Go.Proofs.Ytkmdlompgbnnkaa.fnExactOrderOfSchedule
namespace Go.Proofs.Ytkmdlompgbnnkaa
theorem fnExactOrderOfSchedule_holds : Rows.FnExactOrderOfScheduleSaid := fnExactOrderOfSchedule.proved
end Go.Proofs.Ytkmdlompgbnnkaa
end
