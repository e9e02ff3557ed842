/- Proved here: for all code the program's PathBound returns what the reference's PathBound returns, and its argument stays as it was. Conditions: none. -/
import Derived.Test.YteaablbhdmkcpaaRows
import Derived.Below
import Derived.ChangeOld
import Derived.OpenShut
import Derived.ProofKit
import Derived.ShutString
import Derived.SizedLaws
import Derived.WalkKit
import Derived.Test.YteaablbhdmkcpaaZFnExactPathBound1
import Derived.Test.YteaablbhdmkcpaaZFnExactPathBound2
import Derived.Test.YteaablbhdmkcpaaZFnExactPathBound3
import Derived.Test.YteaablbhdmkcpaaZFnExactPathBound4
import Derived.Test.YteaablbhdmkcpaaZFnExactPathBound5
section
namespace Go.Proofs.Yteaablbhdmkcpaa.fnExactPathBound
open Go.ChangeShapes Go.WideShapes Go.ChangeAt Go.RowKit Go.Proofs.YteaablbhdmkcpaaW.PrintWords Go.Proofs.YteaablbhdmkcpaaW.PrintLast Go.Proofs.Yteaablbhdmkcpaa.Q
open Go.ChangeMaps (open_string shut_string)
set_option linter.unusedVariables false
theorem own : ownKnob Try.prog.godebug = none := by kernel_rfl
theorem laidOut : laidOutB Try.prog = true := by kernel_rfl
set_option maxRecDepth 100000 in
theorem lifted (os : Os) (started : os.Started) (H : Type) (enc : TypeId × Value → H) :
    ReturnsInHanded {} Try.checked os 10 .any (Rows.fnExactPathBoundSpec.pre6 enc Try.prog Try.f10 Rows.fnExactPathBoundRow.domain false) (Rows.fnExactPathBoundSpec.post enc Try.prog Try.f10 false true false false) := by
  refine returnsInHanded_of_change_sized (C := Try.checked) own started (by kernel_rfl) Try.func10
    (ChangeSpec.witness6 (enc := enc) (C := Try.checked) false ⟨#[], #[.slice none 0 0], []⟩ 8 (by kernel_rfl) (by kernel_rfl) (by kernel_rfl) (by kernel_rfl)) ?_
  intro W base args ds gs before hval0 hW hcnd hsz0 _
  have hval : ∀ (j : Nat) t v, Try.f10.params[j]? = some t → args[j]? = some v → Value.okWide Try.prog W .any base t v := hval0
  have hW' := hW
  obtain ⟨p, q, hA0, hV, rfl, hfz, hnd⟩ := hW
  have hA : DataW.TrodAll enc Try.prog W 0 (fun _ => true) true Try.f10.params.toList args.toList ds p := hA0
  rw [Try.params10] at hA hval
  obtain ⟨v0, vs0, d0, ds0, p0, q0, hargs, rfl, rfl, h0, r0⟩ := trodAll_cons hA
  obtain ⟨rfl, rfl, rfl⟩ := trodAll_nil r0
  obtain rfl : args = #[v0] := by cases args; simp_all
  obtain ⟨rfl, rfl⟩ := trodVars_none hV
  obtain ⟨A0, len0, c0, rfl⟩ := okWide_slice Try.underlying22 (hval 0 22 v0 rfl rfl)
  have k0 := h0
  have lt0 : ∀ x ∈ p0, x.block < W.heap.size := by obtain ⟨m, hm⟩ := k0; exact DataW.trod_lt m _ _ _ hm
  obtain ⟨a0, rfl, hl0, hC0, gd0⟩ := Rd.arg_slice (Rd.rk_slice rd54 Try.underlying22 (by kernel_rfl)) h0
  clear hA0 hval0 hsz0
  obtain ⟨k, hk⟩ := Pure.FnExactPathBound a0 gd0
  refine (laws_FnExactPathBound.calls k A0 c0 a0 true W hC0 hl0 hk).mono fun e W' ⟨he, bel0⟩ => ?_
  have bel : Below W.heap.size W W' := bel0
  subst he
  exact ⟨_, rfl, _, _, _, [], _, [], hW', trodAll_mk1 (shut_bool Try.underlying4 _), (trodAll_cons_mk (Below.trod laidOut (by kernel_rfl) (of_decide_eq_true (by kernel_rfl)) k0 bel lt0) trodAll_mk0), rfl, bel.frame _, fun h => by cases h⟩
theorem h_in : (Rows.fnExactPathBoundRow.inPlace == Try.prog.inPlace 10) = true := by kernel_rfl
theorem h_un : (Rows.fnExactPathBoundRow.unfollowed == Try.prog.unfollowed 10) = true := by kernel_rfl
theorem h_re : (Rows.fnExactPathBoundRow.recurses == Try.prog.recurses 10) = true := by kernel_rfl
theorem h_na : (Rows.fnExactPathBoundRow.named == Try.prog.varsNamed 10) = true := by kernel_rfl
theorem closed : Go.joinedFacts Try.prog 10 Try.f10 Rows.fnExactPathBoundSpec Rows.fnExactPathBoundRow = true := by
  unfold Go.joinedFacts
  rw [Q.may_enter, Q.laid_out, Q.maps_rowed, Q.stops_heard, h_in, h_un, h_re, h_na]
  kernel_rfl
theorem over : Rows.fnExactPathBoundRow.holds Try.pinned (OpenSpec.ofChange Rows.fnExactPathBoundSpec) :=
  OpenClaim.holds_of_wide 10 Try.f10 rfl rfl rfl rfl rfl rfl rfl ⟨rfl, rfl, rfl, rfl, rfl⟩ rfl rfl rfl rfl rfl (by kernel_rfl) Try.func10 closed
    (of_decide_eq_true (by kernel_rfl)) (by unfold Func.isWrapper; first | (rw [if_pos (by decide +kernel)]; kernel_rfl) | (rw [if_neg (by decide +kernel)]; exact ⟨rfl, rfl⟩))
    (fun os started H enc _ => lifted os started H enc)
theorem proved : Rows.FnExactPathBoundSaid := over
end Go.Proofs.Yteaablbhdmkcpaa.fnExactPathBound
namespace Go.Proofs.Yteaablbhdmkcpaa
theorem fnExactPathBound_holds : Rows.FnExactPathBoundSaid := fnExactPathBound.proved
end Go.Proofs.Yteaablbhdmkcpaa
end
