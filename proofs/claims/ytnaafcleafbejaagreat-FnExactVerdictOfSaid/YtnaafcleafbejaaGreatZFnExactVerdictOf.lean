/- Proved here: for all pairs of code and all wanted registers the program's VerdictOf returns what the reference's VerdictOf returns, and its arguments stay as they were. Conditions: none. -/
import Derived.Test.YtnaafcleafbejaaGreatRows
import Derived.Below
import Derived.ChangeOld
import Derived.OpenShut
import Derived.ProofKit
import Derived.ShutString
import Derived.SizedLaws
import Derived.WalkKit
import Derived.Test.YtnaafcleafbejaaGreatZFnExactVerdictOf1
import Derived.Test.YtnaafcleafbejaaGreatZFnExactVerdictOf2
import Derived.Test.YtnaafcleafbejaaGreatZFnExactVerdictOf3
import Derived.Test.YtnaafcleafbejaaGreatZFnExactVerdictOf4
import Derived.Test.YtnaafcleafbejaaGreatZFnExactVerdictOf5
import Derived.Test.YtnaafcleafbejaaGreatZFnExactVerdictOf6
section
namespace Go.Proofs.YtnaafcleafbejaaGreat.fnExactVerdictOf
open Go.ChangeShapes Go.WideShapes Go.ChangeAt Go.RowKit Go.Proofs.YtnaafcleafbejaaGreatW.PrintWords Go.Proofs.YtnaafcleafbejaaGreatW.PrintLast Go.Proofs.YtnaafcleafbejaaGreat.Q
open Go.ChangeMaps (open_string shut_string)
set_option linter.unusedVariables false
theorem own : ownKnob Tryz.prog.godebug = none := by kernel_rfl
theorem laidOut : laidOutB Tryz.prog = true := by kernel_rfl
set_option maxRecDepth 100000 in
theorem lifted (os : Os) (started : os.Started) (H : Type) (enc : TypeId × Value → H) :
    ReturnsInHanded {} Tryz.checked os 7 .any (Rows.fnExactVerdictOfSpec.pre6 enc Tryz.prog Tryz.f7 Rows.fnExactVerdictOfRow.domain false) (Rows.fnExactVerdictOfSpec.post enc Tryz.prog Tryz.f7 false true false false) := by
  refine returnsInHanded_of_change_sized (C := Tryz.checked) own started (by kernel_rfl) Tryz.func7
    (ChangeSpec.witness6 (enc := enc) (C := Tryz.checked) false ⟨#[], #[.slice none 0 0, .slice none 0 0, .slice none 0 0], []⟩ 8 (by kernel_rfl) (by kernel_rfl) (by kernel_rfl) (by kernel_rfl)) ?_
  intro W base args ds gs before hval0 hW hcnd hsz0 _
  have hval : ∀ (j : Nat) t v, Tryz.f7.params[j]? = some t → args[j]? = some v → Value.okWide Tryz.prog W .any base t v := hval0
  have hW' := hW
  obtain ⟨p, q, hA0, hV, rfl, hfz, hnd⟩ := hW
  have hA : DataW.TrodAll enc Tryz.prog W 0 (fun _ => true) true Tryz.f7.params.toList args.toList ds p := hA0
  rw [Tryz.params7] at hA hval
  obtain ⟨v0, vs0, d0, ds0, p0, q0, hargs, rfl, rfl, h0, r0⟩ := trodAll_cons hA
  obtain ⟨v1, vs1, d1, ds1, p1, q1, rfl, rfl, rfl, h1, r1⟩ := trodAll_cons r0
  obtain ⟨v2, vs2, d2, ds2, p2, q2, rfl, rfl, rfl, h2, r2⟩ := trodAll_cons r1
  obtain ⟨rfl, rfl, rfl⟩ := trodAll_nil r2
  obtain rfl : args = #[v0, v1, v2] := by cases args; simp_all
  obtain ⟨rfl, rfl⟩ := trodVars_none hV
  obtain ⟨A0, len0, c0, rfl⟩ := okWide_slice Tryz.underlying48 (hval 0 48 v0 rfl rfl)
  have k0 := h0
  have lt0 : ∀ x ∈ p0, x.block < W.heap.size := by obtain ⟨m, hm⟩ := k0; exact DataW.trod_lt m _ _ _ hm
  obtain ⟨a0, rfl, hl0, hC0, gd0⟩ := Rd.arg_slice (Rd.rk_slice rd88 Tryz.underlying48 (by kernel_rfl)) h0
  obtain ⟨A1, len1, c1, rfl⟩ := okWide_slice Tryz.underlying48 (hval 1 48 v1 rfl rfl)
  have k1 := h1
  have lt1 : ∀ x ∈ p1, x.block < W.heap.size := by obtain ⟨m, hm⟩ := k1; exact DataW.trod_lt m _ _ _ hm
  obtain ⟨a1, rfl, hl1, hC1, gd1⟩ := Rd.arg_slice (Rd.rk_slice rd88 Tryz.underlying48 (by kernel_rfl)) h1
  obtain ⟨A2, len2, c2, rfl⟩ := okWide_slice Tryz.underlying24 (hval 2 24 v2 rfl rfl)
  have k2 := h2
  have lt2 : ∀ x ∈ p2, x.block < W.heap.size := by obtain ⟨m, hm⟩ := k2; exact DataW.trod_lt m _ _ _ hm
  obtain ⟨a2, rfl, hl2, hC2, gd2⟩ := Rd.arg_slice (Rd.rk_slice (Rd.rk_int Tryz.underlying3 (by kernel_rfl)) Tryz.underlying24 (by kernel_rfl)) h2
  clear hA0 hval0 hsz0
  obtain ⟨k, hk⟩ := Pure.FnExactVerdictOf a0 a1 a2 gd0 gd1 gd2
  refine (zkt k A0 c0 a0 A1 c1 a1 A2 c2 a2 true W hC0 hl0 hC1 hl1 hC2 hl2 hk).mono fun e W' ⟨he, bel0⟩ => ?_
  have bel : Below W.heap.size W W' := bel0
  subst he
  exact ⟨_, rfl, _, _, _, [], _, [], hW', trodAll_mk1 (shut_bool Tryz.underlying4 _), (trodAll_cons_mk (Below.trod laidOut (by kernel_rfl) (of_decide_eq_true (by kernel_rfl)) k0 bel lt0) (trodAll_cons_mk (Below.trod laidOut (by kernel_rfl) (of_decide_eq_true (by kernel_rfl)) k1 bel lt1) (trodAll_cons_mk (Below.trod laidOut (by kernel_rfl) (of_decide_eq_true (by kernel_rfl)) k2 bel lt2) trodAll_mk0))), rfl, bel.frame _, fun h => by cases h⟩
theorem h_in : (Rows.fnExactVerdictOfRow.inPlace == Tryz.prog.inPlace 7) = true := by kernel_rfl
theorem h_un : (Rows.fnExactVerdictOfRow.unfollowed == Tryz.prog.unfollowed 7) = true := by kernel_rfl
theorem h_re : (Rows.fnExactVerdictOfRow.recurses == Tryz.prog.recurses 7) = true := by kernel_rfl
theorem h_na : (Rows.fnExactVerdictOfRow.named == Tryz.prog.varsNamed 7) = true := by kernel_rfl
theorem closed : Go.joinedFacts Tryz.prog 7 Tryz.f7 Rows.fnExactVerdictOfSpec Rows.fnExactVerdictOfRow = true := by
  unfold Go.joinedFacts
  rw [Q.may_enter, Q.laid_out, Q.maps_rowed, Q.stops_heard, h_in, h_un, h_re, h_na]
  kernel_rfl
theorem over : Rows.fnExactVerdictOfRow.holds Tryz.pinned (OpenSpec.ofChange Rows.fnExactVerdictOfSpec) :=
  OpenClaim.holds_of_wide 7 Tryz.f7 rfl rfl rfl rfl rfl rfl rfl ⟨rfl, rfl, rfl, rfl, rfl⟩ rfl rfl rfl rfl rfl (by kernel_rfl) Tryz.func7 closed
    (of_decide_eq_true (by kernel_rfl)) (by unfold Func.isWrapper; first | (rw [if_pos (by decide +kernel)]; kernel_rfl) | (rw [if_neg (by decide +kernel)]; exact ⟨rfl, rfl⟩))
    (fun os started H enc _ => lifted os started H enc)
theorem proved : Rows.FnExactVerdictOfSaid := over
end Go.Proofs.YtnaafcleafbejaaGreat.fnExactVerdictOf
namespace Go.Proofs.YtnaafcleafbejaaGreat
theorem fnExactVerdictOf_holds : Rows.FnExactVerdictOfSaid := fnExactVerdictOf.proved
end Go.Proofs.YtnaafcleafbejaaGreat
end
