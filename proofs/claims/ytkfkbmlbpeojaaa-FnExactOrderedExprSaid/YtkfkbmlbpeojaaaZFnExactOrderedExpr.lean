/- Proved here: for all rows of nodes the program's OrderedExpr returns what the reference's OrderedExpr returns, its argument stays as it was, and the result's memory is its own. Conditions: none. -/
import Derived.Test.YtkfkbmlbpeojaaaRows
import Derived.Below
import Derived.ChangeOld
import Derived.OpenShut
import Derived.ProofKit
import Derived.ShutString
import Derived.SizedLaws
import Derived.WalkKit
import Derived.Test.YtkfkbmlbpeojaaaZFnExactOrderedExpr1
import Derived.Test.YtkfkbmlbpeojaaaZFnExactOrderedExpr2
import Derived.Test.YtkfkbmlbpeojaaaZFnExactOrderedExpr3
import Derived.Test.YtkfkbmlbpeojaaaZFnExactOrderedExpr4
import Derived.Test.YtkfkbmlbpeojaaaZFnExactOrderedExpr5
section
namespace Go.Proofs.Ytkfkbmlbpeojaaa.fnExactOrderedExpr
open Go.ChangeShapes Go.WideShapes Go.ChangeAt Go.RowKit Go.Proofs.YtkfkbmlbpeojaaaW.PrintWords Go.Proofs.YtkfkbmlbpeojaaaW.PrintLast Go.Proofs.Ytkfkbmlbpeojaaa.Q
open Go.ChangeMaps (open_string shut_string)
set_option linter.unusedVariables false
theorem own : ownKnob Try.prog.godebug = none := by kernel_rfl
theorem laidOut : laidOutB Try.prog = true := by kernel_rfl
set_option maxRecDepth 100000 in
theorem lifted (os : Os) (started : os.Started) (H : Type) (enc : TypeId × Value → H) :
    ReturnsInHanded {} Try.checked os 3 .any (Rows.fnExactOrderedExprSpec.pre6 enc Try.prog Try.f3 Rows.fnExactOrderedExprRow.domain false) (Rows.fnExactOrderedExprSpec.post enc Try.prog Try.f3 false true false false) := by
  refine returnsInHanded_of_change_sized (C := Try.checked) own started (by kernel_rfl) Try.func3
    (ChangeSpec.witness6 (enc := enc) (C := Try.checked) false ⟨#[], #[.slice none 0 0], []⟩ 8 (by kernel_rfl) (by kernel_rfl) (by kernel_rfl) (by kernel_rfl)) ?_
  intro W base args ds gs before hval0 hW hcnd hsz0 _
  have hval : ∀ (j : Nat) t v, Try.f3.params[j]? = some t → args[j]? = some v → Value.okWide Try.prog W .any base t v := hval0
  have hW' := hW
  obtain ⟨p, q, hA0, hV, rfl, hfz, hnd⟩ := hW
  have hA : DataW.TrodAll enc Try.prog W 0 (fun _ => true) true Try.f3.params.toList args.toList ds p := hA0
  rw [Try.params3] at hA hval
  obtain ⟨v0, vs0, d0, ds0, p0, q0, hargs, rfl, rfl, h0, r0⟩ := trodAll_cons hA
  obtain ⟨rfl, rfl, rfl⟩ := trodAll_nil r0
  obtain rfl : args = #[v0] := by cases args; simp_all
  obtain ⟨rfl, rfl⟩ := trodVars_none hV
  obtain ⟨A0, len0, c0, rfl⟩ := okWide_slice Try.underlying22 (hval 0 22 v0 rfl rfl)
  have k0 := h0
  have lt0 : ∀ x ∈ p0, x.block < W.heap.size := by obtain ⟨m, hm⟩ := k0; exact DataW.trod_lt m _ _ _ hm
  obtain ⟨a0, rfl, hl0, hC0, gd0⟩ := Rd.arg_slice (Rd.rk_slice rd69 Try.underlying22 (by kernel_rfl)) h0
  clear hA0 hval0 hsz0
  obtain ⟨k, hk⟩ := Pure.FnExactOrderedExpr a0 gd0
  refine (laws_FnExactOrderedExpr.calls k A0 c0 a0 true W hC0 hl0 hk).mono fun e W' ⟨he, bel0⟩ => ?_
  have bel : Below W.heap.size W W' := bel0
  subst he
  exact ⟨_, rfl, _, _, _, [], _, [], hW', trodAll_mk1 (shut_bool Try.underlying4 _), (trodAll_cons_mk (Below.trod laidOut (by kernel_rfl) (of_decide_eq_true (by kernel_rfl)) k0 bel lt0) trodAll_mk0), rfl, bel.frame _, fun h => by cases h⟩
theorem h_in : (Rows.fnExactOrderedExprRow.inPlace == Try.prog.inPlace 3) = true := by kernel_rfl
theorem h_un : (Rows.fnExactOrderedExprRow.unfollowed == Try.prog.unfollowed 3) = true := by kernel_rfl
theorem h_re : (Rows.fnExactOrderedExprRow.recurses == Try.prog.recurses 3) = true := by kernel_rfl
theorem h_na : (Rows.fnExactOrderedExprRow.named == Try.prog.varsNamed 3) = true := by kernel_rfl
theorem closed : Go.joinedFacts Try.prog 3 Try.f3 Rows.fnExactOrderedExprSpec Rows.fnExactOrderedExprRow = true := by
  unfold Go.joinedFacts
  rw [Q.may_enter, Q.laid_out, Q.maps_rowed, Q.stops_heard, h_in, h_un, h_re, h_na]
  kernel_rfl
theorem over : Rows.fnExactOrderedExprRow.holds Try.pinned (OpenSpec.ofChange Rows.fnExactOrderedExprSpec) :=
  OpenClaim.holds_of_wide 3 Try.f3 rfl rfl rfl rfl rfl rfl rfl ⟨rfl, rfl, rfl, rfl, rfl⟩ rfl rfl rfl rfl rfl (by kernel_rfl) Try.func3 closed
    (of_decide_eq_true (by kernel_rfl)) (by unfold Func.isWrapper; first | (rw [if_pos (by decide +kernel)]; kernel_rfl) | (rw [if_neg (by decide +kernel)]; exact ⟨rfl, rfl⟩))
    (fun os started H enc _ => lifted os started H enc)
theorem proved : Rows.FnExactOrderedExprSaid := over
end Go.Proofs.Ytkfkbmlbpeojaaa.fnExactOrderedExpr
namespace Go.Proofs.Ytkfkbmlbpeojaaa
theorem fnExactOrderedExpr_holds : Rows.FnExactOrderedExprSaid := fnExactOrderedExpr.proved
end Go.Proofs.Ytkfkbmlbpeojaaa
end
