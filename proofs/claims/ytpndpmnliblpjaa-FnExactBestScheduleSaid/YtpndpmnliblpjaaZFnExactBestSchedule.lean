/- Proved here: for all code and all widths the program's BestSchedule returns what the reference's BestSchedule returns, nothing is shared, and its argument stays as it was. Conditions: none. -/
import Derived.Test.YtpndpmnliblpjaaRows
import Derived.Below
import Derived.ChangeOld
import Derived.OpenShut
import Derived.ProofKit
import Derived.ShutString
import Derived.SizedLaws
import Derived.WalkKit
import Derived.Test.YtpndpmnliblpjaaZFnExactBestSchedule1
import Derived.Test.YtpndpmnliblpjaaZFnExactBestSchedule2
import Derived.Test.YtpndpmnliblpjaaZFnExactBestSchedule3
import Derived.Test.YtpndpmnliblpjaaZFnExactBestSchedule4
import Derived.Test.YtpndpmnliblpjaaZFnExactBestSchedule5
section
namespace Go.Proofs.Ytpndpmnliblpjaa.fnExactBestSchedule
open Go.ChangeShapes Go.WideShapes Go.ChangeAt Go.RowKit Go.Proofs.YtpndpmnliblpjaaW.PrintWords Go.Proofs.YtpndpmnliblpjaaW.PrintLast Go.Proofs.Ytpndpmnliblpjaa.Q
open Go.ChangeMaps (open_string shut_string)
set_option linter.unusedVariables false
theorem own : ownKnob Try.prog.godebug = none := by kernel_rfl
theorem laidOut : laidOutB Try.prog = true := by kernel_rfl
set_option maxRecDepth 100000 in
theorem lifted (os : Os) (started : os.Started) (H : Type) (enc : TypeId × Value → H) :
    ReturnsInHanded {} Try.checked os 3 .any (Rows.fnExactBestScheduleSpec.pre6 enc Try.prog Try.f3 Rows.fnExactBestScheduleRow.domain false) (Rows.fnExactBestScheduleSpec.post enc Try.prog Try.f3 false true false false) := by
  refine returnsInHanded_of_change_sized (C := Try.checked) own started (by kernel_rfl) Try.func3
    (ChangeSpec.witness6 (enc := enc) (C := Try.checked) false ⟨#[], #[.slice none 0 0, .int .i64 0], []⟩ 8 (by kernel_rfl) (by kernel_rfl) (by kernel_rfl) (by kernel_rfl)) ?_
  intro W base args ds gs before hval0 hW hcnd hsz0 _
  have hval : ∀ (j : Nat) t v, Try.f3.params[j]? = some t → args[j]? = some v → Value.okWide Try.prog W .any base t v := hval0
  have hW' := hW
  obtain ⟨p, q, hA0, hV, rfl, hfz, hnd⟩ := hW
  have hA : DataW.TrodAll enc Try.prog W 0 (fun _ => true) true Try.f3.params.toList args.toList ds p := hA0
  rw [Try.params3] at hA hval
  obtain ⟨v0, vs0, d0, ds0, p0, q0, hargs, rfl, rfl, h0, r0⟩ := trodAll_cons hA
  obtain ⟨v1, vs1, d1, ds1, p1, q1, rfl, rfl, rfl, h1, r1⟩ := trodAll_cons r0
  obtain ⟨rfl, rfl, rfl⟩ := trodAll_nil r1
  obtain rfl : args = #[v0, v1] := by cases args; simp_all
  obtain ⟨rfl, rfl⟩ := trodVars_none hV
  obtain ⟨A0, len0, c0, rfl⟩ := okWide_slice Try.underlying22 (hval 0 22 v0 rfl rfl)
  have k0 := h0
  have lt0 : ∀ x ∈ p0, x.block < W.heap.size := by obtain ⟨m, hm⟩ := k0; exact DataW.trod_lt m _ _ _ hm
  obtain ⟨a0, rfl, hl0, hC0, gd0⟩ := Rd.arg_slice (Rd.rk_slice rd69 Try.underlying22 (by kernel_rfl)) h0
  obtain ⟨a1, rfl, rfl, rfl, w1⟩ := open_int Try.underlying3 (hval 1 3 v1 rfl rfl) h1
  clear hA0 hval0 hsz0
  obtain ⟨k, hk⟩ := Pure.FnExactBestSchedule a0 a1 gd0 w1
  refine (laws_FnExactBestSchedule.calls k A0 c0 a0 a1 true W hC0 hl0 hk).mono fun e W' ⟨he, bel0⟩ => ?_
  have bel : Below W.heap.size W W' := bel0
  subst he
  exact ⟨_, rfl, _, _, _, [], _, [], hW', trodAll_mk1 (shut_bool Try.underlying4 _), (trodAll_cons_mk (Below.trod laidOut (by kernel_rfl) (of_decide_eq_true (by kernel_rfl)) k0 bel lt0) (trodAll_cons_mk (shut_int Try.underlying3 w1) trodAll_mk0)), rfl, bel.frame _, fun h => by cases h⟩
theorem h_in : (Rows.fnExactBestScheduleRow.inPlace == Try.prog.inPlace 3) = true := by kernel_rfl
theorem h_un : (Rows.fnExactBestScheduleRow.unfollowed == Try.prog.unfollowed 3) = true := by kernel_rfl
theorem h_re : (Rows.fnExactBestScheduleRow.recurses == Try.prog.recurses 3) = true := by kernel_rfl
theorem h_na : (Rows.fnExactBestScheduleRow.named == Try.prog.varsNamed 3) = true := by kernel_rfl
theorem closed : Go.joinedFacts Try.prog 3 Try.f3 Rows.fnExactBestScheduleSpec Rows.fnExactBestScheduleRow = true := by
  unfold Go.joinedFacts
  rw [Q.may_enter, Q.laid_out, Q.maps_rowed, Q.stops_heard, h_in, h_un, h_re, h_na]
  kernel_rfl
theorem over : Rows.fnExactBestScheduleRow.holds Try.pinned (OpenSpec.ofChange Rows.fnExactBestScheduleSpec) :=
  OpenClaim.holds_of_wide 3 Try.f3 rfl rfl rfl rfl rfl rfl rfl ⟨rfl, rfl, rfl, rfl, rfl⟩ rfl rfl rfl rfl rfl (by kernel_rfl) Try.func3 closed
    (of_decide_eq_true (by kernel_rfl)) (by unfold Func.isWrapper; first | (rw [if_pos (by decide +kernel)]; kernel_rfl) | (rw [if_neg (by decide +kernel)]; exact ⟨rfl, rfl⟩))
    (fun os started H enc _ => lifted os started H enc)
theorem proved : Rows.FnExactBestScheduleSaid := over
end Go.Proofs.Ytpndpmnliblpjaa.fnExactBestSchedule
namespace Go.Proofs.Ytpndpmnliblpjaa
theorem fnExactBestSchedule_holds : Rows.FnExactBestScheduleSaid := fnExactBestSchedule.proved
end Go.Proofs.Ytpndpmnliblpjaa
end
