/- Proved here: for all code the program's DependsOf returns what the reference's DependsOf returns, nothing is shared, and its argument stays as it was. Conditions: none. -/
import Derived.Test.YteaablbhdmkcpaaRows
import Derived.Below
import Derived.ChangeOld
import Derived.OpenShut
import Derived.ProofKit
import Derived.ShutString
import Derived.SizedLaws
import Derived.WalkKit
import Derived.Test.YteaablbhdmkcpaaZFnExactDependsOf1
import Derived.Test.YteaablbhdmkcpaaZFnExactDependsOf2
import Derived.Test.YteaablbhdmkcpaaZFnExactDependsOf3
import Derived.Test.YteaablbhdmkcpaaZFnExactDependsOf4
import Derived.Test.YteaablbhdmkcpaaZFnExactDependsOf5
section
namespace Go.Proofs.Yteaablbhdmkcpaa.fnExactDependsOf
open Go.ChangeShapes Go.WideShapes Go.ChangeAt Go.RowKit Go.Proofs.YteaablbhdmkcpaaW.PrintWords Go.Proofs.YteaablbhdmkcpaaW.PrintLast Go.Proofs.Yteaablbhdmkcpaa.Q
open Go.ChangeMaps (open_string shut_string)
set_option linter.unusedVariables false
theorem own : ownKnob Try.prog.godebug = none := by kernel_rfl
theorem laidOut : laidOutB Try.prog = true := by kernel_rfl
set_option maxRecDepth 100000 in
theorem lifted (os : Os) (started : os.Started) (H : Type) (enc : TypeId × Value → H) :
    ReturnsInHanded {} Try.checked os 3 .any (Rows.fnExactDependsOfSpec.pre6 enc Try.prog Try.f3 Rows.fnExactDependsOfRow.domain false) (Rows.fnExactDependsOfSpec.post enc Try.prog Try.f3 false true false false) := by
  refine returnsInHanded_of_change_sized (C := Try.checked) own started (by kernel_rfl) Try.func3
    (ChangeSpec.witness6 (enc := enc) (C := Try.checked) false ⟨#[], #[.slice none 0 0], []⟩ 8 (by kernel_rfl) (by kernel_rfl) (by kernel_rfl) (by kernel_rfl)) ?_
  intro W base args ds gs before hval0 hW hcnd hsz0 _
  have hval : ∀ (j : Nat) t v, Try.f3.params[j]? = some t → args[j]? = some v → Value.okWide Try.prog W .any base t v := hval0
  have hW' := hW
  obtain ⟨p, q, hA0, hV, rfl, hfz, hnd⟩ := hW
  have hA : DataW.TrodAll enc Try.prog W 0 (fun _ => true) true Try.f3.params.toList args.toList ds p := hA0
  rw [Try.params3] at hA hval
  obtain ⟨v0, vs0, d0, ds0, p0, q0, hargs, rfl, rfl, h0, r0⟩ := trodAll_cons hA
  obtain ⟨rfl, rfl, rfl⟩ := trodAll_nil r0
  obtain rfl : args = #[v0] := by cases args; simp_all
  obtain ⟨rfl, rfl⟩ := trodVars_none hV
  obtain ⟨A0, len0, c0, rfl⟩ := okWide_slice Try.underlying22 (hval 0 22 v0 rfl rfl)
  have k0 := h0
  have lt0 : ∀ x ∈ p0, x.block < W.heap.size := by obtain ⟨m, hm⟩ := k0; exact DataW.trod_lt m _ _ _ hm
  obtain ⟨a0, rfl, hl0, hC0, gd0⟩ := Rd.arg_slice (Rd.rk_slice rd54 Try.underlying22 (by kernel_rfl)) h0
  clear hA0 hval0 hsz0
  obtain ⟨k, hk⟩ := Pure.FnExactDependsOf a0 gd0
  refine (laws_FnExactDependsOf.calls k A0 c0 a0 true W hC0 hl0 hk).mono fun e W' ⟨he, bel0⟩ => ?_
  have bel : Below W.heap.size W W' := bel0
  subst he
  exact ⟨_, rfl, _, _, _, [], _, [], hW', trodAll_mk1 (shut_bool Try.underlying4 _), (trodAll_cons_mk (Below.trod laidOut (by kernel_rfl) (of_decide_eq_true (by kernel_rfl)) k0 bel lt0) trodAll_mk0), rfl, bel.frame _, fun h => by cases h⟩
theorem h_in : (Rows.fnExactDependsOfRow.inPlace == Try.prog.inPlace 3) = true := by kernel_rfl
theorem h_un : (Rows.fnExactDependsOfRow.unfollowed == Try.prog.unfollowed 3) = true := by kernel_rfl
theorem h_re : (Rows.fnExactDependsOfRow.recurses == Try.prog.recurses 3) = true := by kernel_rfl
theorem h_na : (Rows.fnExactDependsOfRow.named == Try.prog.varsNamed 3) = true := by kernel_rfl
theorem closed : Go.joinedFacts Try.prog 3 Try.f3 Rows.fnExactDependsOfSpec Rows.fnExactDependsOfRow = true := by
  unfold Go.joinedFacts
  rw [Q.may_enter, Q.laid_out, Q.maps_rowed, Q.stops_heard, h_in, h_un, h_re, h_na]
  kernel_rfl
theorem over : Rows.fnExactDependsOfRow.holds Try.pinned (OpenSpec.ofChange Rows.fnExactDependsOfSpec) :=
  OpenClaim.holds_of_wide 3 Try.f3 rfl rfl rfl rfl rfl rfl rfl ⟨rfl, rfl, rfl, rfl, rfl⟩ rfl rfl rfl rfl rfl (by kernel_rfl) Try.func3 closed
    (of_decide_eq_true (by kernel_rfl)) (by unfold Func.isWrapper; first | (rw [if_pos (by decide +kernel)]; kernel_rfl) | (rw [if_neg (by decide +kernel)]; exact ⟨rfl, rfl⟩))
    (fun os started H enc _ => lifted os started H enc)
theorem proved : Rows.FnExactDependsOfSaid := over
end Go.Proofs.Yteaablbhdmkcpaa.fnExactDependsOf
namespace Go.Proofs.Yteaablbhdmkcpaa
theorem fnExactDependsOf_holds : Rows.FnExactDependsOfSaid := fnExactDependsOf.proved
end Go.Proofs.Yteaablbhdmkcpaa
end
