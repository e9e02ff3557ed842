/- Proved here: for all choices and numbers the program's CountUnpruned returns what the reference's CountUnpruned returns, and its argument stays as it was. Conditions: none. -/
import Derived.Test.YtnaafcleafbejaaRows
import Derived.Below
import Derived.ChangeOld
import Derived.OpenShut
import Derived.ProofKit
import Derived.ShutString
import Derived.SizedLaws
import Derived.WalkKit
import Derived.Test.YtnaafcleafbejaaZFnExactCountUnpruned1
import Derived.Test.YtnaafcleafbejaaZFnExactCountUnpruned2
import Derived.Test.YtnaafcleafbejaaZFnExactCountUnpruned3
import Derived.Test.YtnaafcleafbejaaZFnExactCountUnpruned4
section
namespace Go.Proofs.Ytnaafcleafbejaa.fnExactCountUnpruned
open Go.ChangeShapes Go.WideShapes Go.ChangeAt Go.RowKit Go.Proofs.YtnaafcleafbejaaW.PrintWords Go.Proofs.YtnaafcleafbejaaW.PrintLast Go.Proofs.Ytnaafcleafbejaa.Q
open Go.ChangeMaps (open_string shut_string)
set_option linter.unusedVariables false
theorem own : ownKnob Try.prog.godebug = none := by kernel_rfl
theorem laidOut : laidOutB Try.prog = true := by kernel_rfl
set_option maxRecDepth 100000 in
theorem lifted (os : Os) (started : os.Started) (H : Type) (enc : TypeId × Value → H) :
    ReturnsInHanded {} Try.checked os 5 .any (Rows.fnExactCountUnprunedSpec.pre6 enc Try.prog Try.f5 Rows.fnExactCountUnprunedRow.domain false) (Rows.fnExactCountUnprunedSpec.post enc Try.prog Try.f5 false true false false) := by
  refine returnsInHanded_of_change_sized (C := Try.checked) own started (by kernel_rfl) Try.func5
    (ChangeSpec.witness6 (enc := enc) (C := Try.checked) false ⟨#[], #[.agg #[.slice none 0 0, .slice none 0 0], .int .i64 0], []⟩ 8 (by kernel_rfl) (by kernel_rfl) (by kernel_rfl) (by kernel_rfl)) ?_
  intro W base args ds gs before hval0 hW hcnd hsz0 _
  have hval : ∀ (j : Nat) t v, Try.f5.params[j]? = some t → args[j]? = some v → Value.okWide Try.prog W .any base t v := hval0
  have hW' := hW
  obtain ⟨p, q, hA0, hV, rfl, hfz, hnd⟩ := hW
  have hA : DataW.TrodAll enc Try.prog W 0 (fun _ => true) true Try.f5.params.toList args.toList ds p := hA0
  rw [Try.params5] at hA hval
  obtain ⟨v0, vs0, d0, ds0, p0, q0, hargs, rfl, rfl, h0, r0⟩ := trodAll_cons hA
  obtain ⟨v1, vs1, d1, ds1, p1, q1, rfl, rfl, rfl, h1, r1⟩ := trodAll_cons r0
  obtain ⟨rfl, rfl, rfl⟩ := trodAll_nil r1
  obtain rfl : args = #[v0, v1] := by cases args; simp_all
  obtain ⟨rfl, rfl⟩ := trodVars_none hV
  obtain ⟨cs0, rfl, _⟩ := okWide_struct Try.underlying26 (hval 0 26 v0 rfl rfl)
  have k0 := h0
  have lt0 : ∀ x ∈ p0, x.block < W.heap.size := by obtain ⟨m, hm⟩ := k0; exact DataW.trod_lt m _ _ _ hm
  obtain ⟨a0, hK0, gd0⟩ := Rd.arg_struct rd26 h0
  obtain ⟨cs0⟩ := cs0
  obtain ⟨_, _, rfl, ⟨A0_0, c0_0, rfl, hl0_0, hC0_0⟩, ⟨A0_1, c0_1, rfl, hl0_1, hC0_1⟩⟩ := hK0
  obtain ⟨a1, rfl, rfl, rfl, w1⟩ := open_int Try.underlying3 (hval 1 3 v1 rfl rfl) h1
  clear hA0 hval0 hsz0
  obtain ⟨k, hk⟩ := Pure.FnExactCountUnpruned a0 a1 gd0 w1
  refine (laws_FnExactCountUnpruned.calls k A0_0 c0_0 a0.f0 A0_1 c0_1 a0.f1 a1 true W hC0_0 hl0_0 hC0_1 hl0_1 hk).mono fun e W' ⟨he, bel0⟩ => ?_
  have bel : Below W.heap.size W W' := bel0
  subst he
  exact ⟨_, rfl, _, _, _, [], _, [], hW', trodAll_mk1 (shut_bool Try.underlying4 _), (trodAll_cons_mk (Below.trod laidOut (by kernel_rfl) (of_decide_eq_true (by kernel_rfl)) k0 bel lt0) (trodAll_cons_mk (shut_int Try.underlying3 w1) trodAll_mk0)), rfl, bel.frame _, fun h => by cases h⟩
theorem h_in : (Rows.fnExactCountUnprunedRow.inPlace == Try.prog.inPlace 5) = true := by kernel_rfl
theorem h_un : (Rows.fnExactCountUnprunedRow.unfollowed == Try.prog.unfollowed 5) = true := by kernel_rfl
theorem h_re : (Rows.fnExactCountUnprunedRow.recurses == Try.prog.recurses 5) = true := by kernel_rfl
theorem h_na : (Rows.fnExactCountUnprunedRow.named == Try.prog.varsNamed 5) = true := by kernel_rfl
theorem closed : Go.joinedFacts Try.prog 5 Try.f5 Rows.fnExactCountUnprunedSpec Rows.fnExactCountUnprunedRow = true := by
  unfold Go.joinedFacts
  rw [Q.may_enter, Q.laid_out, Q.maps_rowed, Q.stops_heard, h_in, h_un, h_re, h_na]
  kernel_rfl
theorem over : Rows.fnExactCountUnprunedRow.holds Try.pinned (OpenSpec.ofChange Rows.fnExactCountUnprunedSpec) :=
  OpenClaim.holds_of_wide 5 Try.f5 rfl rfl rfl rfl rfl rfl rfl ⟨rfl, rfl, rfl, rfl, rfl⟩ rfl rfl rfl rfl rfl (by kernel_rfl) Try.func5 closed
    (of_decide_eq_true (by kernel_rfl)) (by unfold Func.isWrapper; first | (rw [if_pos (by decide +kernel)]; kernel_rfl) | (rw [if_neg (by decide +kernel)]; exact ⟨rfl, rfl⟩))
    (fun os started H enc _ => lifted os started H enc)
theorem proved : Rows.FnExactCountUnprunedSaid := over
end Go.Proofs.Ytnaafcleafbejaa.fnExactCountUnpruned
namespace Go.Proofs.Ytnaafcleafbejaa
theorem fnExactCountUnpruned_holds : Rows.FnExactCountUnprunedSaid := fnExactCountUnpruned.proved
end Go.Proofs.Ytnaafcleafbejaa
end
