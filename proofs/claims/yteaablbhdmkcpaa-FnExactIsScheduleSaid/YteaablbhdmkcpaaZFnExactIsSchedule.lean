/- Proved here: for all code, widths and cycles the program's IsSchedule returns what the reference's IsSchedule returns, and its arguments stay as they were. Conditions: none. -/
import Derived.Test.YteaablbhdmkcpaaRows
import Derived.Below
import Derived.ChangeOld
import Derived.OpenShut
import Derived.ProofKit
import Derived.ShutString
import Derived.SizedLaws
import Derived.WalkKit
import Derived.Test.YteaablbhdmkcpaaZFnExactIsSchedule1
import Derived.Test.YteaablbhdmkcpaaZFnExactIsSchedule2
import Derived.Test.YteaablbhdmkcpaaZFnExactIsSchedule3
import Derived.Test.YteaablbhdmkcpaaZFnExactIsSchedule4
import Derived.Test.YteaablbhdmkcpaaZFnExactIsSchedule5
section
namespace Go.Proofs.Yteaablbhdmkcpaa.fnExactIsSchedule
open Go.ChangeShapes Go.WideShapes Go.ChangeAt Go.RowKit Go.Proofs.YteaablbhdmkcpaaW.PrintWords Go.Proofs.YteaablbhdmkcpaaW.PrintLast Go.Proofs.Yteaablbhdmkcpaa.Q
open Go.ChangeMaps (open_string shut_string)
set_option linter.unusedVariables false
theorem own : ownKnob Try.prog.godebug = none := by kernel_rfl
theorem laidOut : laidOutB Try.prog = true := by kernel_rfl
set_option maxRecDepth 100000 in
theorem lifted (os : Os) (started : os.Started) (H : Type) (enc : TypeId × Value → H) :
    ReturnsInHanded {} Try.checked os 12 .any (Rows.fnExactIsScheduleSpec.pre6 enc Try.prog Try.f12 Rows.fnExactIsScheduleRow.domain false) (Rows.fnExactIsScheduleSpec.post enc Try.prog Try.f12 false true false false) := by
  refine returnsInHanded_of_change_sized (C := Try.checked) own started (by kernel_rfl) Try.func12
    (ChangeSpec.witness6 (enc := enc) (C := Try.checked) false ⟨#[], #[.slice none 0 0, .int .i64 0, .slice none 0 0], []⟩ 8 (by kernel_rfl) (by kernel_rfl) (by kernel_rfl) (by kernel_rfl)) ?_
  intro W base args ds gs before hval0 hW hcnd hsz0 _
  have hval : ∀ (j : Nat) t v, Try.f12.params[j]? = some t → args[j]? = some v → Value.okWide Try.prog W .any base t v := hval0
  have hW' := hW
  obtain ⟨p, q, hA0, hV, rfl, hfz, hnd⟩ := hW
  have hA : DataW.TrodAll enc Try.prog W 0 (fun _ => true) true Try.f12.params.toList args.toList ds p := hA0
  rw [Try.params12] at hA hval
  obtain ⟨v0, vs0, d0, ds0, p0, q0, hargs, rfl, rfl, h0, r0⟩ := trodAll_cons hA
  obtain ⟨v1, vs1, d1, ds1, p1, q1, rfl, rfl, rfl, h1, r1⟩ := trodAll_cons r0
  obtain ⟨v2, vs2, d2, ds2, p2, q2, rfl, rfl, rfl, h2, r2⟩ := trodAll_cons r1
  obtain ⟨rfl, rfl, rfl⟩ := trodAll_nil r2
  obtain rfl : args = #[v0, v1, v2] := by cases args; simp_all
  obtain ⟨rfl, rfl⟩ := trodVars_none hV
  obtain ⟨A0, len0, c0, rfl⟩ := okWide_slice Try.underlying22 (hval 0 22 v0 rfl rfl)
  have k0 := h0
  have lt0 : ∀ x ∈ p0, x.block < W.heap.size := by obtain ⟨m, hm⟩ := k0; exact DataW.trod_lt m _ _ _ hm
  obtain ⟨a0, rfl, hl0, hC0, gd0⟩ := Rd.arg_slice (Rd.rk_slice rd54 Try.underlying22 (by kernel_rfl)) h0
  obtain ⟨a1, rfl, rfl, rfl, w1⟩ := open_int Try.underlying3 (hval 1 3 v1 rfl rfl) h1
  obtain ⟨A2, len2, c2, rfl⟩ := okWide_slice Try.underlying34 (hval 2 34 v2 rfl rfl)
  have k2 := h2
  have lt2 : ∀ x ∈ p2, x.block < W.heap.size := by obtain ⟨m, hm⟩ := k2; exact DataW.trod_lt m _ _ _ hm
  obtain ⟨a2, rfl, hl2, hC2, gd2⟩ := Rd.arg_slice (Rd.rk_slice (Rd.rk_int Try.underlying3 (by kernel_rfl)) Try.underlying34 (by kernel_rfl)) h2
  clear hA0 hval0 hsz0
  obtain ⟨k, hk⟩ := Pure.FnExactIsSchedule a0 a1 a2 gd0 w1 gd2
  refine (laws_FnExactIsSchedule.calls k A0 c0 a0 a1 A2 c2 a2 true W hC0 hl0 hC2 hl2 hk).mono fun e W' ⟨he, bel0⟩ => ?_
  have bel : Below W.heap.size W W' := bel0
  subst he
  exact ⟨_, rfl, _, _, _, [], _, [], hW', trodAll_mk1 (shut_bool Try.underlying4 _), (trodAll_cons_mk (Below.trod laidOut (by kernel_rfl) (of_decide_eq_true (by kernel_rfl)) k0 bel lt0) (trodAll_cons_mk (shut_int Try.underlying3 w1) (trodAll_cons_mk (Below.trod laidOut (by kernel_rfl) (of_decide_eq_true (by kernel_rfl)) k2 bel lt2) trodAll_mk0))), rfl, bel.frame _, fun h => by cases h⟩
theorem h_in : (Rows.fnExactIsScheduleRow.inPlace == Try.prog.inPlace 12) = true := by kernel_rfl
theorem h_un : (Rows.fnExactIsScheduleRow.unfollowed == Try.prog.unfollowed 12) = true := by kernel_rfl
theorem h_re : (Rows.fnExactIsScheduleRow.recurses == Try.prog.recurses 12) = true := by kernel_rfl
theorem h_na : (Rows.fnExactIsScheduleRow.named == Try.prog.varsNamed 12) = true := by kernel_rfl
theorem closed : Go.joinedFacts Try.prog 12 Try.f12 Rows.fnExactIsScheduleSpec Rows.fnExactIsScheduleRow = true := by
  unfold Go.joinedFacts
  rw [Q.may_enter, Q.laid_out, Q.maps_rowed, Q.stops_heard, h_in, h_un, h_re, h_na]
  kernel_rfl
theorem over : Rows.fnExactIsScheduleRow.holds Try.pinned (OpenSpec.ofChange Rows.fnExactIsScheduleSpec) :=
  OpenClaim.holds_of_wide 12 Try.f12 rfl rfl rfl rfl rfl rfl rfl ⟨rfl, rfl, rfl, rfl, rfl⟩ rfl rfl rfl rfl rfl (by kernel_rfl) Try.func12 closed
    (of_decide_eq_true (by kernel_rfl)) (by unfold Func.isWrapper; first | (rw [if_pos (by decide +kernel)]; kernel_rfl) | (rw [if_neg (by decide +kernel)]; exact ⟨rfl, rfl⟩))
    (fun os started H enc _ => lifted os started H enc)
theorem proved : Rows.FnExactIsScheduleSaid := over
end Go.Proofs.Yteaablbhdmkcpaa.fnExactIsSchedule
namespace Go.Proofs.Yteaablbhdmkcpaa
theorem fnExactIsSchedule_holds : Rows.FnExactIsScheduleSaid := fnExactIsSchedule.proved
end Go.Proofs.Yteaablbhdmkcpaa
end
