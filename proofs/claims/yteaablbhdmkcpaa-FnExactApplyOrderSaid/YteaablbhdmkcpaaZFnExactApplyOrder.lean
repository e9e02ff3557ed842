/- Proved here: for all code and all lists of places the program's ApplyOrder returns what the reference's ApplyOrder returns, nothing is shared, and its arguments stay as they were. Conditions: none. -/
import Derived.Test.YteaablbhdmkcpaaRows
import Derived.Below
import Derived.ChangeOld
import Derived.OpenShut
import Derived.ProofKit
import Derived.ShutString
import Derived.SizedLaws
import Derived.WalkKit
import Derived.Test.YteaablbhdmkcpaaZFnExactApplyOrder1
import Derived.Test.YteaablbhdmkcpaaZFnExactApplyOrder2
import Derived.Test.YteaablbhdmkcpaaZFnExactApplyOrder3
import Derived.Test.YteaablbhdmkcpaaZFnExactApplyOrder4
import Derived.Test.YteaablbhdmkcpaaZFnExactApplyOrder5
section
namespace Go.Proofs.Yteaablbhdmkcpaa.fnExactApplyOrder
open Go.ChangeShapes Go.WideShapes Go.ChangeAt Go.RowKit Go.Proofs.YteaablbhdmkcpaaW.PrintWords Go.Proofs.YteaablbhdmkcpaaW.PrintLast Go.Proofs.Yteaablbhdmkcpaa.Q
open Go.ChangeMaps (open_string shut_string)
set_option linter.unusedVariables false
theorem own : ownKnob Try.prog.godebug = none := by kernel_rfl
theorem laidOut : laidOutB Try.prog = true := by kernel_rfl
set_option maxRecDepth 100000 in
theorem lifted (os : Os) (started : os.Started) (H : Type) (enc : TypeId × Value → H) :
    ReturnsInHanded {} Try.checked os 5 .any (Rows.fnExactApplyOrderSpec.pre6 enc Try.prog Try.f5 Rows.fnExactApplyOrderRow.domain false) (Rows.fnExactApplyOrderSpec.post enc Try.prog Try.f5 false true false false) := by
  refine returnsInHanded_of_change_sized (C := Try.checked) own started (by kernel_rfl) Try.func5
    (ChangeSpec.witness6 (enc := enc) (C := Try.checked) false ⟨#[], #[.slice none 0 0, .slice none 0 0], []⟩ 8 (by kernel_rfl) (by kernel_rfl) (by kernel_rfl) (by kernel_rfl)) ?_
  intro W base args ds gs before hval0 hW hcnd hsz0 _
  have hval : ∀ (j : Nat) t v, Try.f5.params[j]? = some t → args[j]? = some v → Value.okWide Try.prog W .any base t v := hval0
  have hW' := hW
  obtain ⟨p, q, hA0, hV, rfl, hfz, hnd⟩ := hW
  have hA : DataW.TrodAll enc Try.prog W 0 (fun _ => true) true Try.f5.params.toList args.toList ds p := hA0
  rw [Try.params5] at hA hval
  obtain ⟨v0, vs0, d0, ds0, p0, q0, hargs, rfl, rfl, h0, r0⟩ := trodAll_cons hA
  obtain ⟨v1, vs1, d1, ds1, p1, q1, rfl, rfl, rfl, h1, r1⟩ := trodAll_cons r0
  obtain ⟨rfl, rfl, rfl⟩ := trodAll_nil r1
  obtain rfl : args = #[v0, v1] := by cases args; simp_all
  obtain ⟨rfl, rfl⟩ := trodVars_none hV
  obtain ⟨A0, len0, c0, rfl⟩ := okWide_slice Try.underlying22 (hval 0 22 v0 rfl rfl)
  have k0 := h0
  have lt0 : ∀ x ∈ p0, x.block < W.heap.size := by obtain ⟨m, hm⟩ := k0; exact DataW.trod_lt m _ _ _ hm
  obtain ⟨a0, rfl, hl0, hC0, gd0⟩ := Rd.arg_slice (Rd.rk_slice rd54 Try.underlying22 (by kernel_rfl)) h0
  obtain ⟨A1, len1, c1, rfl⟩ := okWide_slice Try.underlying34 (hval 1 34 v1 rfl rfl)
  have k1 := h1
  have lt1 : ∀ x ∈ p1, x.block < W.heap.size := by obtain ⟨m, hm⟩ := k1; exact DataW.trod_lt m _ _ _ hm
  obtain ⟨a1, rfl, hl1, hC1, gd1⟩ := Rd.arg_slice (Rd.rk_slice (Rd.rk_int Try.underlying3 (by kernel_rfl)) Try.underlying34 (by kernel_rfl)) h1
  clear hA0 hval0 hsz0
  obtain ⟨k, hk⟩ := Pure.FnExactApplyOrder a0 a1 gd0 gd1
  refine (laws_FnExactApplyOrder.calls k A0 c0 a0 A1 c1 a1 true W hC0 hl0 hC1 hl1 hk).mono fun e W' ⟨he, bel0⟩ => ?_
  have bel : Below W.heap.size W W' := bel0
  subst he
  exact ⟨_, rfl, _, _, _, [], _, [], hW', trodAll_mk1 (shut_bool Try.underlying4 _), (trodAll_cons_mk (Below.trod laidOut (by kernel_rfl) (of_decide_eq_true (by kernel_rfl)) k0 bel lt0) (trodAll_cons_mk (Below.trod laidOut (by kernel_rfl) (of_decide_eq_true (by kernel_rfl)) k1 bel lt1) trodAll_mk0)), rfl, bel.frame _, fun h => by cases h⟩
theorem h_in : (Rows.fnExactApplyOrderRow.inPlace == Try.prog.inPlace 5) = true := by kernel_rfl
theorem h_un : (Rows.fnExactApplyOrderRow.unfollowed == Try.prog.unfollowed 5) = true := by kernel_rfl
theorem h_re : (Rows.fnExactApplyOrderRow.recurses == Try.prog.recurses 5) = true := by kernel_rfl
theorem h_na : (Rows.fnExactApplyOrderRow.named == Try.prog.varsNamed 5) = true := by kernel_rfl
theorem closed : Go.joinedFacts Try.prog 5 Try.f5 Rows.fnExactApplyOrderSpec Rows.fnExactApplyOrderRow = true := by
  unfold Go.joinedFacts
  rw [Q.may_enter, Q.laid_out, Q.maps_rowed, Q.stops_heard, h_in, h_un, h_re, h_na]
  kernel_rfl
theorem over : Rows.fnExactApplyOrderRow.holds Try.pinned (OpenSpec.ofChange Rows.fnExactApplyOrderSpec) :=
  OpenClaim.holds_of_wide 5 Try.f5 rfl rfl rfl rfl rfl rfl rfl ⟨rfl, rfl, rfl, rfl, rfl⟩ rfl rfl rfl rfl rfl (by kernel_rfl) Try.func5 closed
    (of_decide_eq_true (by kernel_rfl)) (by unfold Func.isWrapper; first | (rw [if_pos (by decide +kernel)]; kernel_rfl) | (rw [if_neg (by decide +kernel)]; exact ⟨rfl, rfl⟩))
    (fun os started H enc _ => lifted os started H enc)
theorem proved : Rows.FnExactApplyOrderSaid := over
end Go.Proofs.Yteaablbhdmkcpaa.fnExactApplyOrder
namespace Go.Proofs.Yteaablbhdmkcpaa
theorem fnExactApplyOrder_holds : Rows.FnExactApplyOrderSaid := fnExactApplyOrder.proved
end Go.Proofs.Yteaablbhdmkcpaa
end
