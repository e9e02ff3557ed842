/- Proved here: for all expressions, choices and numbers the program's AllShortest returns what the reference's AllShortest returns, and its arguments stay as they were. Conditions: none. -/
import Derived.Test.YtnaafcleafbejaaGreatRows
import Derived.Below
import Derived.ChangeOld
import Derived.OpenShut
import Derived.ProofKit
import Derived.ShutString
import Derived.SizedLaws
import Derived.WalkKit
import Derived.Test.YtnaafcleafbejaaGreatZFnExactAllShortest1
import Derived.Test.YtnaafcleafbejaaGreatZFnExactAllShortest2
import Derived.Test.YtnaafcleafbejaaGreatZFnExactAllShortest3
import Derived.Test.YtnaafcleafbejaaGreatZFnExactAllShortest4
import Derived.Test.YtnaafcleafbejaaGreatZFnExactAllShortest5
section
namespace Go.Proofs.YtnaafcleafbejaaGreat.fnExactAllShortest
open Go.ChangeShapes Go.WideShapes Go.ChangeAt Go.RowKit Go.Proofs.YtnaafcleafbejaaGreatW.PrintWords Go.Proofs.YtnaafcleafbejaaGreatW.PrintLast Go.Proofs.YtnaafcleafbejaaGreat.Q
open Go.ChangeMaps (open_string shut_string)
set_option linter.unusedVariables false
theorem own : ownKnob Tryz.prog.godebug = none := by kernel_rfl
theorem laidOut : laidOutB Tryz.prog = true := by kernel_rfl
set_option maxRecDepth 100000 in
theorem lifted (os : Os) (started : os.Started) (H : Type) (enc : TypeId × Value → H) :
    ReturnsInHanded {} Tryz.checked os 6 .any (Rows.fnExactAllShortestSpec.pre6 enc Tryz.prog Tryz.f6 Rows.fnExactAllShortestRow.domain false) (Rows.fnExactAllShortestSpec.post enc Tryz.prog Tryz.f6 false true false false) := by
  refine returnsInHanded_of_change_sized (C := Tryz.checked) own started (by kernel_rfl) Tryz.func6
    (ChangeSpec.witness6 (enc := enc) (C := Tryz.checked) false ⟨#[], #[.slice none 0 0, .agg #[.slice none 0 0, .slice none 0 0], .int .i64 0], []⟩ 8 (by kernel_rfl) (by kernel_rfl) (by kernel_rfl) (by kernel_rfl)) ?_
  intro W base args ds gs before hval0 hW hcnd hsz0 _
  have hval : ∀ (j : Nat) t v, Tryz.f6.params[j]? = some t → args[j]? = some v → Value.okWide Tryz.prog W .any base t v := hval0
  have hW' := hW
  obtain ⟨p, q, hA0, hV, rfl, hfz, hnd⟩ := hW
  have hA : DataW.TrodAll enc Tryz.prog W 0 (fun _ => true) true Tryz.f6.params.toList args.toList ds p := hA0
  rw [Tryz.params6] at hA hval
  obtain ⟨v0, vs0, d0, ds0, p0, q0, hargs, rfl, rfl, h0, r0⟩ := trodAll_cons hA
  obtain ⟨v1, vs1, d1, ds1, p1, q1, rfl, rfl, rfl, h1, r1⟩ := trodAll_cons r0
  obtain ⟨v2, vs2, d2, ds2, p2, q2, rfl, rfl, rfl, h2, r2⟩ := trodAll_cons r1
  obtain ⟨rfl, rfl, rfl⟩ := trodAll_nil r2
  obtain rfl : args = #[v0, v1, v2] := by cases args; simp_all
  obtain ⟨rfl, rfl⟩ := trodVars_none hV
  obtain ⟨A0, len0, c0, rfl⟩ := okWide_slice Tryz.underlying22 (hval 0 22 v0 rfl rfl)
  have k0 := h0
  have lt0 : ∀ x ∈ p0, x.block < W.heap.size := by obtain ⟨m, hm⟩ := k0; exact DataW.trod_lt m _ _ _ hm
  obtain ⟨a0, rfl, hl0, hC0, gd0⟩ := Rd.arg_slice (Rd.rk_slice rd58 Tryz.underlying22 (by kernel_rfl)) h0
  obtain ⟨cs1, rfl, _⟩ := okWide_struct Tryz.underlying26 (hval 1 26 v1 rfl rfl)
  have k1 := h1
  have lt1 : ∀ x ∈ p1, x.block < W.heap.size := by obtain ⟨m, hm⟩ := k1; exact DataW.trod_lt m _ _ _ hm
  obtain ⟨a1, hK1, gd1⟩ := Rd.arg_struct rd26 h1
  obtain ⟨cs1⟩ := cs1
  obtain ⟨_, _, rfl, ⟨A1_0, c1_0, rfl, hl1_0, hC1_0⟩, ⟨A1_1, c1_1, rfl, hl1_1, hC1_1⟩⟩ := hK1
  obtain ⟨a2, rfl, rfl, rfl, w2⟩ := open_int Tryz.underlying3 (hval 2 3 v2 rfl rfl) h2
  clear hA0 hval0 hsz0
  obtain ⟨k, hk⟩ := Pure.FnExactAllShortest a0 a1 a2 gd0 gd1 w2
  refine (zlf k A0 c0 a0 A1_0 c1_0 a1.f0 A1_1 c1_1 a1.f1 a2 true W hC0 hl0 hC1_0 hl1_0 hC1_1 hl1_1 hk).mono fun e W' ⟨he, bel0⟩ => ?_
  have bel : Below W.heap.size W W' := bel0
  subst he
  exact ⟨_, rfl, _, _, _, [], _, [], hW', trodAll_mk1 (shut_bool Tryz.underlying4 _), (trodAll_cons_mk (Below.trod laidOut (by kernel_rfl) (of_decide_eq_true (by kernel_rfl)) k0 bel lt0) (trodAll_cons_mk (Below.trod laidOut (by kernel_rfl) (of_decide_eq_true (by kernel_rfl)) k1 bel lt1) (trodAll_cons_mk (shut_int Tryz.underlying3 w2) trodAll_mk0))), rfl, bel.frame _, fun h => by cases h⟩
theorem h_in : (Rows.fnExactAllShortestRow.inPlace == Tryz.prog.inPlace 6) = true := by kernel_rfl
theorem h_un : (Rows.fnExactAllShortestRow.unfollowed == Tryz.prog.unfollowed 6) = true := by kernel_rfl
theorem h_re : (Rows.fnExactAllShortestRow.recurses == Tryz.prog.recurses 6) = true := by kernel_rfl
theorem h_na : (Rows.fnExactAllShortestRow.named == Tryz.prog.varsNamed 6) = true := by kernel_rfl
theorem closed : Go.joinedFacts Tryz.prog 6 Tryz.f6 Rows.fnExactAllShortestSpec Rows.fnExactAllShortestRow = true := by
  unfold Go.joinedFacts
  rw [Q.may_enter, Q.laid_out, Q.maps_rowed, Q.stops_heard, h_in, h_un, h_re, h_na]
  kernel_rfl
theorem over : Rows.fnExactAllShortestRow.holds Tryz.pinned (OpenSpec.ofChange Rows.fnExactAllShortestSpec) :=
  OpenClaim.holds_of_wide 6 Tryz.f6 rfl rfl rfl rfl rfl rfl rfl ⟨rfl, rfl, rfl, rfl, rfl⟩ rfl rfl rfl rfl rfl (by kernel_rfl) Tryz.func6 closed
    (of_decide_eq_true (by kernel_rfl)) (by unfold Func.isWrapper; first | (rw [if_pos (by decide +kernel)]; kernel_rfl) | (rw [if_neg (by decide +kernel)]; exact ⟨rfl, rfl⟩))
    (fun os started H enc _ => lifted os started H enc)
theorem proved : Rows.FnExactAllShortestSaid := over
end Go.Proofs.YtnaafcleafbejaaGreat.fnExactAllShortest
namespace Go.Proofs.YtnaafcleafbejaaGreat
theorem fnExactAllShortest_holds : Rows.FnExactAllShortestSaid := fnExactAllShortest.proved
end Go.Proofs.YtnaafcleafbejaaGreat
end
