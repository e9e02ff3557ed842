/- Proved here: for all code and registers the program's PlainSymbol returns what the reference's PlainSymbol returns, its argument stays as it was, and the result's memory is its own. Conditions: none. -/
import Derived.Test.YtkfkbmlbpeojaaaRows
import Derived.Below
import Derived.ChangeOld
import Derived.OpenShut
import Derived.ProofKit
import Derived.ShutString
import Derived.SizedLaws
import Derived.WalkKit
import Derived.Test.YtkfkbmlbpeojaaaZFnExactPlainSymbol1
import Derived.Test.YtkfkbmlbpeojaaaZFnExactPlainSymbol2
import Derived.Test.YtkfkbmlbpeojaaaZFnExactPlainSymbol3
import Derived.Test.YtkfkbmlbpeojaaaZFnExactPlainSymbol4
import Derived.Test.YtkfkbmlbpeojaaaZFnExactPlainSymbol5
import Derived.Test.YtkfkbmlbpeojaaaZFnExactPlainSymbol6
section
namespace Go.Proofs.Ytkfkbmlbpeojaaa.fnExactPlainSymbol
open Go.ChangeShapes Go.WideShapes Go.ChangeAt Go.RowKit Go.Proofs.YtkfkbmlbpeojaaaW.PrintWords Go.Proofs.YtkfkbmlbpeojaaaW.PrintLast Go.Proofs.Ytkfkbmlbpeojaaa.Q
open Go.ChangeMaps (open_string shut_string)
set_option linter.unusedVariables false
theorem own : ownKnob Try.prog.godebug = none := by kernel_rfl
theorem laidOut : laidOutB Try.prog = true := by kernel_rfl
set_option maxRecDepth 100000 in
theorem lifted (os : Os) (started : os.Started) (H : Type) (enc : TypeId × Value → H) :
    ReturnsInHanded {} Try.checked os 7 .any (Rows.fnExactPlainSymbolSpec.pre6 enc Try.prog Try.f7 Rows.fnExactPlainSymbolRow.domain false) (Rows.fnExactPlainSymbolSpec.post enc Try.prog Try.f7 false true false false) := by
  refine returnsInHanded_of_change_sized (C := Try.checked) own started (by kernel_rfl) Try.func7
    (ChangeSpec.witness6 (enc := enc) (C := Try.checked) false ⟨#[], #[.slice none 0 0, .int .i64 0], []⟩ 8 (by kernel_rfl) (by kernel_rfl) (by kernel_rfl) (by kernel_rfl)) ?_
  intro W base args ds gs before hval0 hW hcnd hsz0 _
  have hval : ∀ (j : Nat) t v, Try.f7.params[j]? = some t → args[j]? = some v → Value.okWide Try.prog W .any base t v := hval0
  have hW' := hW
  obtain ⟨p, q, hA0, hV, rfl, hfz, hnd⟩ := hW
  have hA : DataW.TrodAll enc Try.prog W 0 (fun _ => true) true Try.f7.params.toList args.toList ds p := hA0
  rw [Try.params7] at hA hval
  obtain ⟨v0, vs0, d0, ds0, p0, q0, hargs, rfl, rfl, h0, r0⟩ := trodAll_cons hA
  obtain ⟨v1, vs1, d1, ds1, p1, q1, rfl, rfl, rfl, h1, r1⟩ := trodAll_cons r0
  obtain ⟨rfl, rfl, rfl⟩ := trodAll_nil r1
  obtain rfl : args = #[v0, v1] := by cases args; simp_all
  obtain ⟨rfl, rfl⟩ := trodVars_none hV
  obtain ⟨A0, len0, c0, rfl⟩ := okWide_slice Try.underlying43 (hval 0 43 v0 rfl rfl)
  have k0 := h0
  have lt0 : ∀ x ∈ p0, x.block < W.heap.size := by obtain ⟨m, hm⟩ := k0; exact DataW.trod_lt m _ _ _ hm
  obtain ⟨a0, rfl, hl0, hC0, gd0⟩ := Rd.arg_slice (Rd.rk_slice rd93 Try.underlying43 (by kernel_rfl)) h0
  obtain ⟨a1, rfl, rfl, rfl, w1⟩ := open_int Try.underlying3 (hval 1 3 v1 rfl rfl) h1
  clear hA0 hval0 hsz0
  obtain ⟨k, hk⟩ := Pure.FnExactPlainSymbol a0 a1 gd0 w1
  refine (zhx k A0 c0 a0 a1 true W hC0 hl0 hk).mono fun e W' ⟨he, bel0⟩ => ?_
  have bel : Below W.heap.size W W' := bel0
  subst he
  exact ⟨_, rfl, _, _, _, [], _, [], hW', trodAll_mk1 (shut_bool Try.underlying4 _), (trodAll_cons_mk (Below.trod laidOut (by kernel_rfl) (of_decide_eq_true (by kernel_rfl)) k0 bel lt0) (trodAll_cons_mk (shut_int Try.underlying3 w1) trodAll_mk0)), rfl, bel.frame _, fun h => by cases h⟩
theorem h_in : (Rows.fnExactPlainSymbolRow.inPlace == Try.prog.inPlace 7) = true := by kernel_rfl
theorem h_un : (Rows.fnExactPlainSymbolRow.unfollowed == Try.prog.unfollowed 7) = true := by kernel_rfl
theorem h_re : (Rows.fnExactPlainSymbolRow.recurses == Try.prog.recurses 7) = true := by kernel_rfl
theorem h_na : (Rows.fnExactPlainSymbolRow.named == Try.prog.varsNamed 7) = true := by kernel_rfl
theorem closed : Go.joinedFacts Try.prog 7 Try.f7 Rows.fnExactPlainSymbolSpec Rows.fnExactPlainSymbolRow = true := by
  unfold Go.joinedFacts
  rw [Q.may_enter, Q.laid_out, Q.maps_rowed, Q.stops_heard, h_in, h_un, h_re, h_na]
  kernel_rfl
theorem over : Rows.fnExactPlainSymbolRow.holds Try.pinned (OpenSpec.ofChange Rows.fnExactPlainSymbolSpec) :=
  OpenClaim.holds_of_wide 7 Try.f7 rfl rfl rfl rfl rfl rfl rfl ⟨rfl, rfl, rfl, rfl, rfl⟩ rfl rfl rfl rfl rfl (by kernel_rfl) Try.func7 closed
    (of_decide_eq_true (by kernel_rfl)) (by unfold Func.isWrapper; first | (rw [if_pos (by decide +kernel)]; kernel_rfl) | (rw [if_neg (by decide +kernel)]; exact ⟨rfl, rfl⟩))
    (fun os started H enc _ => lifted os started H enc)
theorem proved : Rows.FnExactPlainSymbolSaid := over
end Go.Proofs.Ytkfkbmlbpeojaaa.fnExactPlainSymbol
namespace Go.Proofs.Ytkfkbmlbpeojaaa
theorem fnExactPlainSymbol_holds : Rows.FnExactPlainSymbolSaid := fnExactPlainSymbol.proved
end Go.Proofs.Ytkfkbmlbpeojaaa
end
