/- Proved here: schedules are kept by the told delays, the list schedule is one, and the order of a schedule is an order; for all bytes that inputs are drawn from. Conditions: none. -/
import Derived.Test.YtabnafbgcpchdaaGreatRows
import Derived.Below
import Derived.ChangeOld
import Derived.OpenShut
import Derived.ProofKit
import Derived.ShutString
import Derived.SizedLaws
import Derived.WalkKit
import Derived.Test.YtabnafbgcpchdaaGreatZFnSchedules1
import Derived.Test.YtabnafbgcpchdaaGreatZFnSchedules2
import Derived.Test.YtabnafbgcpchdaaGreatZFnSchedules3
import Derived.Test.YtabnafbgcpchdaaGreatZFnSchedules4
import Derived.Test.YtabnafbgcpchdaaGreatZFnSchedules5
import Derived.Test.YtabnafbgcpchdaaGreatZFnSchedules6
section
namespace Go.Proofs.YtabnafbgcpchdaaGreat.fnSchedules
open Go.ChangeShapes Go.WideShapes Go.ChangeAt Go.RowKit Go.Proofs.YtabnafbgcpchdaaGreatW.PrintWords Go.Proofs.YtabnafbgcpchdaaGreatW.PrintLast Go.Proofs.YtabnafbgcpchdaaGreat.Q
open Go.ChangeMaps (open_string shut_string)
set_option linter.unusedVariables false
theorem own : ownKnob Tryz.prog.godebug = none := by kernel_rfl
theorem laidOut : laidOutB Tryz.prog = true := by kernel_rfl
set_option maxRecDepth 100000 in
theorem lifted (os : Os) (started : os.Started) (H : Type) (enc : TypeId × Value → H) :
    ReturnsInHanded {} Tryz.checked os 4 .any (Rows.fnSchedulesSpec.pre6 enc Tryz.prog Tryz.f4 Rows.fnSchedulesRow.domain false) (Rows.fnSchedulesSpec.post enc Tryz.prog Tryz.f4 false true false false) := by
  refine returnsInHanded_of_change_sized (C := Tryz.checked) own started (by kernel_rfl) Tryz.func4
    (ChangeSpec.witness6 (enc := enc) (C := Tryz.checked) false ⟨#[], #[.slice none 0 0, .slice none 0 0], []⟩ 8 (by kernel_rfl) (by kernel_rfl) (by kernel_rfl) (by kernel_rfl)) ?_
  intro W base args ds gs before hval0 hW hcnd hsz0 _
  have hval : ∀ (j : Nat) t v, Tryz.f4.params[j]? = some t → args[j]? = some v → Value.okWide Tryz.prog W .any base t v := hval0
  have hW' := hW
  obtain ⟨p, q, hA0, hV, rfl, hfz, hnd⟩ := hW
  have hA : DataW.TrodAll enc Tryz.prog W 0 (fun _ => true) true Tryz.f4.params.toList args.toList ds p := hA0
  rw [Tryz.params4] at hA hval
  obtain ⟨v0, vs0, d0, ds0, p0, q0, hargs, rfl, rfl, h0, r0⟩ := trodAll_cons hA
  obtain ⟨v1, vs1, d1, ds1, p1, q1, rfl, rfl, rfl, h1, r1⟩ := trodAll_cons r0
  obtain ⟨rfl, rfl, rfl⟩ := trodAll_nil r1
  obtain rfl : args = #[v0, v1] := by cases args; simp_all
  obtain ⟨rfl, rfl⟩ := trodVars_none hV
  obtain ⟨A0, len0, c0, rfl⟩ := okWide_slice Tryz.underlying22 (hval 0 22 v0 rfl rfl)
  have k0 := h0
  have lt0 : ∀ x ∈ p0, x.block < W.heap.size := by obtain ⟨m, hm⟩ := k0; exact DataW.trod_lt m _ _ _ hm
  obtain ⟨a0, rfl, hl0, hC0, gd0⟩ := Rd.arg_slice (Rd.rk_slice (Rd.rk_int Tryz.underlying5 (by kernel_rfl)) Tryz.underlying22 (by kernel_rfl)) h0
  obtain ⟨A1, len1, c1, rfl⟩ := okWide_slice Tryz.underlying22 (hval 1 22 v1 rfl rfl)
  have k1 := h1
  have lt1 : ∀ x ∈ p1, x.block < W.heap.size := by obtain ⟨m, hm⟩ := k1; exact DataW.trod_lt m _ _ _ hm
  obtain ⟨a1, rfl, hl1, hC1, gd1⟩ := Rd.arg_slice (Rd.rk_slice (Rd.rk_int Tryz.underlying5 (by kernel_rfl)) Tryz.underlying22 (by kernel_rfl)) h1
  clear hA0 hval0 hsz0
  obtain ⟨k, hk⟩ := Pure.FnSchedules a0 a1 gd0 gd1
  refine (zph k A0 c0 a0 A1 c1 a1 true W hC0 hl0 hC1 hl1 hk).mono fun e W' ⟨he, bel0⟩ => ?_
  have bel : Below W.heap.size W W' := bel0
  subst he
  exact ⟨_, rfl, _, _, _, [], _, [], hW', trodAll_mk1 (shut_bool Tryz.underlying4 _), (trodAll_cons_mk (Below.trod laidOut (by kernel_rfl) (of_decide_eq_true (by kernel_rfl)) k0 bel lt0) (trodAll_cons_mk (Below.trod laidOut (by kernel_rfl) (of_decide_eq_true (by kernel_rfl)) k1 bel lt1) trodAll_mk0)), rfl, bel.frame _, fun h => by cases h⟩
theorem h_in : (Rows.fnSchedulesRow.inPlace == Tryz.prog.inPlace 4) = true := by kernel_rfl
theorem h_un : (Rows.fnSchedulesRow.unfollowed == Tryz.prog.unfollowed 4) = true := by kernel_rfl
theorem h_re : (Rows.fnSchedulesRow.recurses == Tryz.prog.recurses 4) = true := by kernel_rfl
theorem h_na : (Rows.fnSchedulesRow.named == Tryz.prog.varsNamed 4) = true := by kernel_rfl
theorem closed : Go.joinedFacts Tryz.prog 4 Tryz.f4 Rows.fnSchedulesSpec Rows.fnSchedulesRow = true := by
  unfold Go.joinedFacts
  rw [Q.may_enter, Q.laid_out, Q.maps_rowed, Q.stops_heard, h_in, h_un, h_re, h_na]
  kernel_rfl
theorem over : Rows.fnSchedulesRow.holds Tryz.pinned (OpenSpec.ofChange Rows.fnSchedulesSpec) :=
  OpenClaim.holds_of_wide 4 Tryz.f4 rfl rfl rfl rfl rfl rfl rfl ⟨rfl, rfl, rfl, rfl, rfl⟩ rfl rfl rfl rfl rfl (by kernel_rfl) Tryz.func4 closed
    (of_decide_eq_true (by kernel_rfl)) (by unfold Func.isWrapper; first | (rw [if_pos (by decide +kernel)]; kernel_rfl) | (rw [if_neg (by decide +kernel)]; exact ⟨rfl, rfl⟩))
    (fun os started H enc _ => lifted os started H enc)
theorem proved : Rows.FnSchedulesSaid := over
end Go.Proofs.YtabnafbgcpchdaaGreat.fnSchedules
namespace Go.Proofs.YtabnafbgcpchdaaGreat
theorem fnSchedules_holds : Rows.FnSchedulesSaid := fnSchedules.proved
end Go.Proofs.YtabnafbgcpchdaaGreat
end
