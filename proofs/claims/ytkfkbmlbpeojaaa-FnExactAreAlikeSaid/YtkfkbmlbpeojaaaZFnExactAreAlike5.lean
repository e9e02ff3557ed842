/- Proved here: contracts of functions that the law FnExactAreAlike reaches, and lemmas on what they compute; texts of this session and the printed words of the kit that they lean on, cut down and put together by its program link.py. Conditions: as each states. -/
import Derived.Carry
import Derived.Deep.Slices
import Derived.Laws.BitsLemmas
import Derived.ProofKit
import Derived.Test.YtkfkbmlbpeojaaaZFnExactAreAlike1
import Derived.Test.YtkfkbmlbpeojaaaZFnExactAreAlike2
import Derived.Test.YtkfkbmlbpeojaaaZFnExactAreAlike3
import Derived.Test.YtkfkbmlbpeojaaaZFnExactAreAlike4
section
namespace Go.Proofs.Ytkfkbmlbpeojaaa.Q
open Go.RowKit Go.Proofs.YtkfkbmlbpeojaaaW.PrintWords Go.Proofs.YtkfkbmlbpeojaaaW.PrintLast Go.Proofs.YtkfkbmlbpeojaaaW.PrintMore
set_option maxHeartbeats 8000000
set_option maxRecDepth 100000
attribute [local go_sem] max2_int min2_int max_two min_two max_three min_three max_four min_four
set_option linter.unusedVariables false
set_option linter.unusedSimpArgs false
def spec_cdGood.f (k : Nat) (a0_0 : ByteArray) (a0_1 : Int) (a0_2 : Int) (a0_3 : Int) (a0_4 : Int) : Option (Bool) := (spec_cdShape.f k a0_0).bind fun bt102 => (if bt102.1 = true then ((spec_cdReg.f a0_1).bind fun t107 => (if t107 = true then ((spec_cdReg.f a0_2).bind fun t108 => (if t108 = true then ((spec_cdReg.f a0_3).bind fun t109 => (if t109 = true then ((spec_l1In.f a0_4 bt102.2.2.2.1 bt102.2.2.2.2).bind fun t110 => (if t110 = true then (if bt102.2.1 = true then (if bt102.2.2.1 = true then (some true) else (some (a0_3 == 0))) else (if a0_2 = 0 then (if bt102.2.2.1 = true then (some true) else (some (a0_3 == 0))) else (some false))) else (some false))) else (some false))) else (some false))) else (some false))) else (some false))
theorem spec_cdGood.mono : ∀ a0 a1 a2 a3 a4 k, LeO (spec_cdGood.f k a0 a1 a2 a3 a4) (spec_cdGood.f (k + 1) a0 a1 a2 a3 a4) := by
 intro a0 a1 a2 a3 a4 k
 unfold spec_cdGood.f
 exact zm1 spec_cdShape.mono
theorem spec_cdGood.calls (k : Nat) (a0_0 : ByteArray) (a0_1 : Int) (a0_2 : Int) (a0_3 : Int) (a0_4 : Int) (r : Bool) (w : World) (h : spec_cdGood.f k a0_0 a0_1 a0_2 a0_3 a0_4 = some r) :
   Calls Try.prog 157 #[.agg #[.string a0_0, .int .i64 a0_1, .int .i64 a0_2, .int .i64 a0_3, .int .i64 a0_4]] w fun e w' => e = .returned (.bool r) ∧ Below w.heap.size w w' := by
 have hu94 := Try.underlying94
 have HB := zA (Below.refl w.heap.size w)
 have H : ((spec_cdShape.f k a0_0).bind fun bt102 => (if bt102.1 = true then ((spec_cdReg.f a0_1).bind fun t107 => (if t107 = true then ((spec_cdReg.f a0_2).bind fun t108 => (if t108 = true then ((spec_cdReg.f a0_3).bind fun t109 => (if t109 = true then ((spec_l1In.f a0_4 bt102.2.2.2.1 bt102.2.2.2.2).bind fun t110 => (if t110 = true then (if bt102.2.1 = true then (if bt102.2.2.1 = true then (some true) else (some (a0_3 == 0))) else (if a0_2 = 0 then (if bt102.2.2.1 = true then (some true) else (some (a0_3 == 0))) else (some false))) else (some false))) else (some false))) else (some false))) else (some false))) else (some false))) = some r := h
 clear h
 replace H := zob H
 obtain ⟨⟨t102, t103, t104, t105, t106⟩, A20, H⟩ := H
 replace H : (if t102 = true then ((spec_cdReg.f a0_1).bind fun t107 => (if t107 = true then ((spec_cdReg.f a0_2).bind fun t108 => (if t108 = true then ((spec_cdReg.f a0_3).bind fun t109 => (if t109 = true then ((spec_l1In.f a0_4 t105 t106).bind fun t110 => (if t110 = true then (if t103 = true then (if t104 = true then (some true) else (some (a0_3 == 0))) else (if a0_2 = 0 then (if t104 = true then (some true) else (some (a0_3 == 0))) else (some false))) else (some false))) else (some false))) else (some false))) else (some false))) else (some false)) = some r := H
 have A2 := zA A20
 clear A20
 by_cases c3 : t102 = true
 rotate_left
 · replace c3 := zbf c3
   subst c3
   replace H := zif H
   obtain rfl := zsi H
   go_enter Try.func157, Try.ntmps157
   go_wp2_with (first | ((with_reducible refine zgd 1 ?_); refine zbh zq1 #[.string a0_0, .int .i64 a0_1, .int .i64 a0_2, .int .i64 a0_3, .int .i64 a0_4] 94 ?_; clear HB; intro gb101 w34 HB BK101 GW101; have GE101 := GW101; obtain ⟨hcz35_0, hcz35_1, hcz35_2, hcz35_3, hcz35_4, hfz35_0, hfz35_1, hfz35_2, hfz35_3, hfz35_4⟩ := zd5 BK101) | ((with_reducible refine zgc 125 ?_); refine zcl 11 Try.func125 (spec_cdShape.calls k a0_0 false t103 t104 t105 t106 _ A2.out) ?_; rintro e w' ⟨rfl, ⟨nd, rfl⟩⟩; refine ⟨_, rfl, ?_⟩))
   go_ret
   exact ⟨zq4, zq3 GE101⟩
 subst c3
 replace H := zih H
 replace H := zob H
 obtain ⟨t107, A40, H⟩ := H
 replace H : (if t107 = true then ((spec_cdReg.f a0_2).bind fun t108 => (if t108 = true then ((spec_cdReg.f a0_3).bind fun t109 => (if t109 = true then ((spec_l1In.f a0_4 t105 t106).bind fun t110 => (if t110 = true then (if t103 = true then (if t104 = true then (some true) else (some (a0_3 == 0))) else (if a0_2 = 0 then (if t104 = true then (some true) else (some (a0_3 == 0))) else (some false))) else (some false))) else (some false))) else (some false))) else (some false)) = some r := H
 have A4 := zA A40
 clear A40
 by_cases c5 : t107 = true
 rotate_left
 · replace c5 := zbf c5
   subst c5
   replace H := zif H
   obtain rfl := zsi H
   go_enter Try.func157, Try.ntmps157
   go_wp2_with (first | ((with_reducible refine zgd 1 ?_); refine zbh zq1 #[.string a0_0, .int .i64 a0_1, .int .i64 a0_2, .int .i64 a0_3, .int .i64 a0_4] 94 ?_; clear HB; intro gb101 w32 HB BK101 GW101; have GE101 := GW101; obtain ⟨hcz33_0, hcz33_1, hcz33_2, hcz33_3, hcz33_4, hfz33_0, hfz33_1, hfz33_2, hfz33_3, hfz33_4⟩ := zd5 BK101) | ((with_reducible refine zgc 125 ?_); refine zcl 11 Try.func125 (spec_cdShape.calls k a0_0 true t103 t104 t105 t106 _ A2.out) ?_; rintro e w' ⟨rfl, ⟨nd, rfl⟩⟩; refine ⟨_, rfl, ?_⟩) | (go_at_call 51; (with_reducible refine (spec_cdReg.calls a0_1 false _ A4.out).mono ?_); rintro e w' ⟨rfl, ⟨nd, rfl⟩⟩))
   go_ret
   exact ⟨zq4, zq3 GE101⟩
 subst c5
 replace H := zih H
 replace H := zob H
 obtain ⟨t108, A60, H⟩ := H
 replace H : (if t108 = true then ((spec_cdReg.f a0_3).bind fun t109 => (if t109 = true then ((spec_l1In.f a0_4 t105 t106).bind fun t110 => (if t110 = true then (if t103 = true then (if t104 = true then (some true) else (some (a0_3 == 0))) else (if a0_2 = 0 then (if t104 = true then (some true) else (some (a0_3 == 0))) else (some false))) else (some false))) else (some false))) else (some false)) = some r := H
 have A6 := zA A60
 clear A60
 by_cases c7 : t108 = true
 rotate_left
 · replace c7 := zbf c7
   subst c7
   replace H := zif H
   obtain rfl := zsi H
   go_enter Try.func157, Try.ntmps157
   go_wp2_with (first | ((with_reducible refine zgd 1 ?_); refine zbh zq1 #[.string a0_0, .int .i64 a0_1, .int .i64 a0_2, .int .i64 a0_3, .int .i64 a0_4] 94 ?_; clear HB; intro gb101 w30 HB BK101 GW101; have GE101 := GW101; obtain ⟨hcz31_0, hcz31_1, hcz31_2, hcz31_3, hcz31_4, hfz31_0, hfz31_1, hfz31_2, hfz31_3, hfz31_4⟩ := zd5 BK101) | ((with_reducible refine zgc 125 ?_); refine zcl 11 Try.func125 (spec_cdShape.calls k a0_0 true t103 t104 t105 t106 _ A2.out) ?_; rintro e w' ⟨rfl, ⟨nd, rfl⟩⟩; refine ⟨_, rfl, ?_⟩) | (go_at_call 51; (with_reducible refine (spec_cdReg.calls a0_1 true _ A4.out).mono ?_); rintro e w' ⟨rfl, ⟨nd, rfl⟩⟩) | (go_at_call 51; (with_reducible refine (spec_cdReg.calls a0_2 false _ A6.out).mono ?_); rintro e w' ⟨rfl, ⟨nd, rfl⟩⟩))
   go_ret
   exact ⟨zq4, zq3 GE101⟩
 subst c7
 replace H := zih H
 replace H := zob H
 obtain ⟨t109, A80, H⟩ := H
 replace H : (if t109 = true then ((spec_l1In.f a0_4 t105 t106).bind fun t110 => (if t110 = true then (if t103 = true then (if t104 = true then (some true) else (some (a0_3 == 0))) else (if a0_2 = 0 then (if t104 = true then (some true) else (some (a0_3 == 0))) else (some false))) else (some false))) else (some false)) = some r := H
 have A8 := zA A80
 clear A80
 by_cases c9 : t109 = true
 rotate_left
 · replace c9 := zbf c9
   subst c9
   replace H := zif H
   obtain rfl := zsi H
   go_enter Try.func157, Try.ntmps157
   go_wp2_with (first | ((with_reducible refine zgd 1 ?_); refine zbh zq1 #[.string a0_0, .int .i64 a0_1, .int .i64 a0_2, .int .i64 a0_3, .int .i64 a0_4] 94 ?_; clear HB; intro gb101 w28 HB BK101 GW101; have GE101 := GW101; obtain ⟨hcz29_0, hcz29_1, hcz29_2, hcz29_3, hcz29_4, hfz29_0, hfz29_1, hfz29_2, hfz29_3, hfz29_4⟩ := zd5 BK101) | ((with_reducible refine zgc 125 ?_); refine zcl 11 Try.func125 (spec_cdShape.calls k a0_0 true t103 t104 t105 t106 _ A2.out) ?_; rintro e w' ⟨rfl, ⟨nd, rfl⟩⟩; refine ⟨_, rfl, ?_⟩) | (go_at_call 51; (with_reducible refine (spec_cdReg.calls a0_1 true _ A4.out).mono ?_); rintro e w' ⟨rfl, ⟨nd, rfl⟩⟩) | (go_at_call 51; (with_reducible refine (spec_cdReg.calls a0_2 true _ A6.out).mono ?_); rintro e w' ⟨rfl, ⟨nd, rfl⟩⟩) | (go_at_call 51; (with_reducible refine (spec_cdReg.calls a0_3 false _ A8.out).mono ?_); rintro e w' ⟨rfl, ⟨nd, rfl⟩⟩))
   go_ret
   exact ⟨zq4, zq3 GE101⟩
 subst c9
 replace H := zih H
 replace H := zob H
 obtain ⟨t110, A100, H⟩ := H
 replace H : (if t110 = true then (if t103 = true then (if t104 = true then (some true) else (some (a0_3 == 0))) else (if a0_2 = 0 then (if t104 = true then (some true) else (some (a0_3 == 0))) else (some false))) else (some false)) = some r := H
 have A10 := zA A100
 clear A100
 by_cases c11 : t110 = true
 rotate_left
 · replace c11 := zbf c11
   subst c11
   replace H := zif H
   obtain rfl := zsi H
   go_enter Try.func157, Try.ntmps157
   go_wp2_with (first | ((with_reducible refine zgd 1 ?_); refine zbh zq1 #[.string a0_0, .int .i64 a0_1, .int .i64 a0_2, .int .i64 a0_3, .int .i64 a0_4] 94 ?_; clear HB; intro gb101 w26 HB BK101 GW101; have GE101 := GW101; obtain ⟨hcz27_0, hcz27_1, hcz27_2, hcz27_3, hcz27_4, hfz27_0, hfz27_1, hfz27_2, hfz27_3, hfz27_4⟩ := zd5 BK101) | ((with_reducible refine zgc 125 ?_); refine zcl 11 Try.func125 (spec_cdShape.calls k a0_0 true t103 t104 t105 t106 _ A2.out) ?_; rintro e w' ⟨rfl, ⟨nd, rfl⟩⟩; refine ⟨_, rfl, ?_⟩) | (go_at_call 51; (with_reducible refine (spec_cdReg.calls a0_1 true _ A4.out).mono ?_); rintro e w' ⟨rfl, ⟨nd, rfl⟩⟩) | (go_at_call 51; (with_reducible refine (spec_cdReg.calls a0_2 true _ A6.out).mono ?_); rintro e w' ⟨rfl, ⟨nd, rfl⟩⟩) | (go_at_call 51; (with_reducible refine (spec_cdReg.calls a0_3 true _ A8.out).mono ?_); rintro e w' ⟨rfl, ⟨nd, rfl⟩⟩) | (go_at_call 50; (with_reducible refine (spec_l1In.calls a0_4 t105 t106 false _ A10.out).mono ?_); rintro e w' ⟨rfl, ⟨nd, rfl⟩⟩))
   go_ret
   exact ⟨zq4, zq3 GE101⟩
 subst c11
 replace H := zih H
 by_cases c12 : t103 = true
 · subst c12
   replace H := zih H
   by_cases c13 : t104 = true
   · subst c13
     replace H := zih H
     obtain rfl := zsi H
     go_enter Try.func157, Try.ntmps157
     go_wp2_with (first | ((with_reducible refine zgd 1 ?_); refine zbh zq1 #[.string a0_0, .int .i64 a0_1, .int .i64 a0_2, .int .i64 a0_3, .int .i64 a0_4] 94 ?_; clear HB; intro gb101 w14 HB BK101 GW101; have GE101 := GW101; obtain ⟨hcz15_0, hcz15_1, hcz15_2, hcz15_3, hcz15_4, hfz15_0, hfz15_1, hfz15_2, hfz15_3, hfz15_4⟩ := zd5 BK101) | ((with_reducible refine zgc 125 ?_); refine zcl 11 Try.func125 (spec_cdShape.calls k a0_0 true true true t105 t106 _ A2.out) ?_; rintro e w' ⟨rfl, ⟨nd, rfl⟩⟩; refine ⟨_, rfl, ?_⟩) | (go_at_call 51; (with_reducible refine (spec_cdReg.calls a0_1 true _ A4.out).mono ?_); rintro e w' ⟨rfl, ⟨nd, rfl⟩⟩) | (go_at_call 51; (with_reducible refine (spec_cdReg.calls a0_2 true _ A6.out).mono ?_); rintro e w' ⟨rfl, ⟨nd, rfl⟩⟩) | (go_at_call 51; (with_reducible refine (spec_cdReg.calls a0_3 true _ A8.out).mono ?_); rintro e w' ⟨rfl, ⟨nd, rfl⟩⟩) | (go_at_call 50; (with_reducible refine (spec_l1In.calls a0_4 t105 t106 true _ A10.out).mono ?_); rintro e w' ⟨rfl, ⟨nd, rfl⟩⟩))
     go_ret
     exact ⟨zq4, zq3 GE101⟩
   replace c13 := zbf c13
   subst c13
   replace H := zif H
   obtain rfl := zsi H
   go_enter Try.func157, Try.ntmps157
   go_wp2_with (first | ((with_reducible refine zgd 1 ?_); refine zbh zq1 #[.string a0_0, .int .i64 a0_1, .int .i64 a0_2, .int .i64 a0_3, .int .i64 a0_4] 94 ?_; clear HB; intro gb101 w16 HB BK101 GW101; have GE101 := GW101; obtain ⟨hcz17_0, hcz17_1, hcz17_2, hcz17_3, hcz17_4, hfz17_0, hfz17_1, hfz17_2, hfz17_3, hfz17_4⟩ := zd5 BK101) | ((with_reducible refine zgc 125 ?_); refine zcl 11 Try.func125 (spec_cdShape.calls k a0_0 true true false t105 t106 _ A2.out) ?_; rintro e w' ⟨rfl, ⟨nd, rfl⟩⟩; refine ⟨_, rfl, ?_⟩) | (go_at_call 51; (with_reducible refine (spec_cdReg.calls a0_1 true _ A4.out).mono ?_); rintro e w' ⟨rfl, ⟨nd, rfl⟩⟩) | (go_at_call 51; (with_reducible refine (spec_cdReg.calls a0_2 true _ A6.out).mono ?_); rintro e w' ⟨rfl, ⟨nd, rfl⟩⟩) | (go_at_call 51; (with_reducible refine (spec_cdReg.calls a0_3 true _ A8.out).mono ?_); rintro e w' ⟨rfl, ⟨nd, rfl⟩⟩) | (go_at_call 50; (with_reducible refine (spec_l1In.calls a0_4 t105 t106 true _ A10.out).mono ?_); rintro e w' ⟨rfl, ⟨nd, rfl⟩⟩))
   go_ret
   exact ⟨zq4, zq3 GE101⟩
 replace c12 := zbf c12
 subst c12
 replace H := zif H
 by_cases c18 : a0_2 = 0
 rotate_left
 · rw [if_neg c18] at H
   obtain ⟨c18b0, c18b1⟩ := zbq c18
   obtain rfl := zsi H
   go_enter Try.func157, Try.ntmps157
   go_wp2_with (first | ((with_reducible refine zgd 1 ?_); refine zbh zq1 #[.string a0_0, .int .i64 a0_1, .int .i64 a0_2, .int .i64 a0_3, .int .i64 a0_4] 94 ?_; clear HB; intro gb101 w24 HB BK101 GW101; have GE101 := GW101; obtain ⟨hcz25_0, hcz25_1, hcz25_2, hcz25_3, hcz25_4, hfz25_0, hfz25_1, hfz25_2, hfz25_3, hfz25_4⟩ := zd5 BK101) | ((with_reducible refine zgc 125 ?_); refine zcl 11 Try.func125 (spec_cdShape.calls k a0_0 true false t104 t105 t106 _ A2.out) ?_; rintro e w' ⟨rfl, ⟨nd, rfl⟩⟩; refine ⟨_, rfl, ?_⟩) | (go_at_call 51; (with_reducible refine (spec_cdReg.calls a0_1 true _ A4.out).mono ?_); rintro e w' ⟨rfl, ⟨nd, rfl⟩⟩) | (go_at_call 51; (with_reducible refine (spec_cdReg.calls a0_2 true _ A6.out).mono ?_); rintro e w' ⟨rfl, ⟨nd, rfl⟩⟩) | (go_at_call 51; (with_reducible refine (spec_cdReg.calls a0_3 true _ A8.out).mono ?_); rintro e w' ⟨rfl, ⟨nd, rfl⟩⟩) | (go_at_call 50; (with_reducible refine (spec_l1In.calls a0_4 t105 t106 true _ A10.out).mono ?_); rintro e w' ⟨rfl, ⟨nd, rfl⟩⟩))
   go_ret
   exact ⟨zq4, zq3 GE101⟩
 rw [if_pos c18] at H
 obtain ⟨c18b0, c18b1⟩ := zbe c18
 clear c18
 by_cases c19 : t104 = true
 · subst c19
   replace H := zih H
   obtain rfl := zsi H
   go_enter Try.func157, Try.ntmps157
   go_wp2_with (first | ((with_reducible refine zgd 1 ?_); refine zbh zq1 #[.string a0_0, .int .i64 a0_1, .int .i64 a0_2, .int .i64 a0_3, .int .i64 a0_4] 94 ?_; clear HB; intro gb101 w20 HB BK101 GW101; have GE101 := GW101; obtain ⟨hcz21_0, hcz21_1, hcz21_2, hcz21_3, hcz21_4, hfz21_0, hfz21_1, hfz21_2, hfz21_3, hfz21_4⟩ := zd5 BK101) | ((with_reducible refine zgc 125 ?_); refine zcl 11 Try.func125 (spec_cdShape.calls k a0_0 true false true t105 t106 _ A2.out) ?_; rintro e w' ⟨rfl, ⟨nd, rfl⟩⟩; refine ⟨_, rfl, ?_⟩) | (go_at_call 51; (with_reducible refine (spec_cdReg.calls a0_1 true _ A4.out).mono ?_); rintro e w' ⟨rfl, ⟨nd, rfl⟩⟩) | (go_at_call 51; (with_reducible refine (spec_cdReg.calls a0_2 true _ A6.out).mono ?_); rintro e w' ⟨rfl, ⟨nd, rfl⟩⟩) | (go_at_call 51; (with_reducible refine (spec_cdReg.calls a0_3 true _ A8.out).mono ?_); rintro e w' ⟨rfl, ⟨nd, rfl⟩⟩) | (go_at_call 50; (with_reducible refine (spec_l1In.calls a0_4 t105 t106 true _ A10.out).mono ?_); rintro e w' ⟨rfl, ⟨nd, rfl⟩⟩))
   go_ret
   exact ⟨zq4, zq3 GE101⟩
 replace c19 := zbf c19
 subst c19
 replace H := zif H
 obtain rfl := zsi H
 go_enter Try.func157, Try.ntmps157
 go_wp2_with (first | ((with_reducible refine zgd 1 ?_); refine zbh zq1 #[.string a0_0, .int .i64 a0_1, .int .i64 a0_2, .int .i64 a0_3, .int .i64 a0_4] 94 ?_; clear HB; intro gb101 w22 HB BK101 GW101; have GE101 := GW101; obtain ⟨hcz23_0, hcz23_1, hcz23_2, hcz23_3, hcz23_4, hfz23_0, hfz23_1, hfz23_2, hfz23_3, hfz23_4⟩ := zd5 BK101) | ((with_reducible refine zgc 125 ?_); refine zcl 11 Try.func125 (spec_cdShape.calls k a0_0 true false false t105 t106 _ A2.out) ?_; rintro e w' ⟨rfl, ⟨nd, rfl⟩⟩; refine ⟨_, rfl, ?_⟩) | (go_at_call 51; (with_reducible refine (spec_cdReg.calls a0_1 true _ A4.out).mono ?_); rintro e w' ⟨rfl, ⟨nd, rfl⟩⟩) | (go_at_call 51; (with_reducible refine (spec_cdReg.calls a0_2 true _ A6.out).mono ?_); rintro e w' ⟨rfl, ⟨nd, rfl⟩⟩) | (go_at_call 51; (with_reducible refine (spec_cdReg.calls a0_3 true _ A8.out).mono ?_); rintro e w' ⟨rfl, ⟨nd, rfl⟩⟩) | (go_at_call 50; (with_reducible refine (spec_l1In.calls a0_4 t105 t106 true _ A10.out).mono ?_); rintro e w' ⟨rfl, ⟨nd, rfl⟩⟩))
 go_ret
 exact ⟨zq4, zq3 GE101⟩
def spec_cdCode.l0 : Nat → List (S94) → Int → Int → Option (Bool)
 | 0, _, _, _ => none
 | k + 1, x8, x9, x10 => if x10 < x9 then (if 0 ≤ x10 then (if x10 < (x8.length : Int) then ((spec_cdGood.f k ((rd_T94 x8 x10).f0) ((rd_T94 x8 x10).f1) ((rd_T94 x8 x10).f2) ((rd_T94 x8 x10).f3) ((rd_T94 x8 x10).f4)).bind fun t103 => (if t103 = true then (spec_cdCode.l0 k x8 x9 (wrap64 (x10 + 1))) else (some false))) else (none)) else (none)) else (some true)
def spec_cdCode.f (k : Nat) (l0 : List (S94)) : Option (Bool) := if (l0.length : Int) > 40 then (some false) else (spec_cdCode.l0 k l0 (l0.length : Int) 0)
theorem spec_cdCode.mono_l : ∀ k, (∀ y0 y1 y2, LeO (spec_cdCode.l0 k y0 y1 y2) (spec_cdCode.l0 (k + 1) y0 y1 y2))
 | 0 => fun _ _ _ r h => by simp [spec_cdCode.l0] at h
 | k + 1 => by
   have ih0 := spec_cdCode.mono_l k
   · intro y0 y1 y2
     unfold spec_cdCode.l0
     exact zm2 ih0 spec_cdGood.mono
theorem spec_cdCode.mono : ∀ a0 k, LeO (spec_cdCode.f k a0) (spec_cdCode.f (k + 1) a0) := by
 intro a0 k
 have ih0 := spec_cdCode.mono_l k
 unfold spec_cdCode.f
 exact zm2 ih0 spec_cdGood.mono
theorem spec_cdCode.calls (k : Nat) (A0 : Option Addr) (c0 : Nat) (l0 : List (S94)) (r : Bool) (w : World) (hr0 : Kd.C k94 w A0 l0.length l0) (hc0 : l0.length ≤ c0) (h : spec_cdCode.f k l0 = some r) :
   Calls Try.prog 104 #[.slice A0 l0.length c0] w fun e w' => e = .returned (.bool r) ∧ Below w.heap.size w w' := by
 have hu94 := Try.underlying94
 have HR0 := zA hr0
 have HC0 := zA hc0
 clear hr0 hc0
 have HB := zA (Below.refl w.heap.size w)
 have H : (if (l0.length : Int) > 40 then (some false) else (spec_cdCode.l0 k l0 (l0.length : Int) 0)) = some r := h
 clear h
 by_cases c2 : (l0.length : Int) > 40
 · rw [if_pos c2] at H
   have c2b0 := zdt c2
   have c2b1 : decide (40 < l0.length) = true := zdt (by omega)
   clear c2
   obtain rfl := zsi H
   go_enter Try.func104, Try.ntmps104
   go_wp2
   exact zr_3
 rw [if_neg c2] at H
 have c2b0 := zdf c2
 have c2b1 : decide (40 < l0.length) = false := zdf (by omega)
 clear c2
 have H' := zA H
 clear H
 go_enter Try.func104, Try.ntmps104
 go_wp2
 go_loopg [10] k (fun kq v10 w' => ∃ (x10_1 : Int), v10 = .int .i64 x10_1 ∧ Aside0 (spec_cdCode.l0 kq l0 (l0.length : Int) x10_1 = some r) ∧ Aside0 (kq ≤ k) ∧ Aside0 (Below w.heap.size w w'))
 case atStart => exact ⟨(0), zq5, H', ⟨zlr _⟩, ⟨zq1⟩⟩
 clear H'
 try clear c2
 try clear c2b0
 try clear c2b1
 obtain ⟨x10_1, rfl, HA, HK1, HB⟩ := hrel
 cases gk with
 | zero => exact absurd HA.out (by simp [spec_cdCode.l0])
 | succ k1 =>
 have H := HA.out
 clear HA
 simp only [spec_cdCode.l0] at H
 revert H
 refine zit (fun c3 H => ?_) fun c3 H => ?_
 rotate_left
 · obtain rfl := zsi H
   go_wp2
   exact zr_3
 revert H
 refine zin fun c4 H => ?_
 revert H
 refine zin fun c5 H => ?_
 replace H := zob H
 obtain ⟨t103, A60, H⟩ := H
 replace H : (if t103 = true then (spec_cdCode.l0 k1 l0 (l0.length : Int) (wrap64 (x10_1 + 1))) else (some false)) = some r := H
 have A6 := zA A60
 clear A60
 by_cases c7 : t103 = true
 rotate_left
 · replace c7 := zbf c7
   subst c7
   replace H := zif H
   obtain rfl := zsi H
   obtain ⟨p101, q101⟩ := zpq x10_1 l0.length
   obtain ⟨ad101, e101, hx101_0, hx101_1, hx101_2, hx101_3, hx101_4⟩ := at_T94 HR0.out x10_1 (zoe p101) (zoe q101)
   cases e101
   replace hx101_0 := zkep HB.out hx101_0
   replace hx101_1 := zkep HB.out hx101_1
   replace hx101_2 := zkep HB.out hx101_2
   replace hx101_3 := zkep HB.out hx101_3
   replace hx101_4 := zkep HB.out hx101_4
   go_wp2_with (first | ((with_reducible refine zgd 4 ?_); refine zbh zq1 #[.string (⟨#[]⟩ : ByteArray), .int .i64 0, .int .i64 0, .int .i64 0, .int .i64 0] 94 ?_; clear HB; intro gb102 w11 HB BK102 GW102; have GE102 := GW102; obtain ⟨hcz12_0, hcz12_1, hcz12_2, hcz12_3, hcz12_4, hfz12_0, hfz12_1, hfz12_2, hfz12_3, hfz12_4⟩ := zd5 BK102) | ((with_reducible refine zgc 157 ?_); refine zcl 15 Try.func157 (spec_cdGood.calls k1 ((rd_T94 l0 x10_1).f0) ((rd_T94 l0 x10_1).f1) ((rd_T94 l0 x10_1).f2) ((rd_T94 l0 x10_1).f3) ((rd_T94 l0 x10_1).f4) false _ A6.out) ?_; rintro e w13 ⟨rfl, hb⟩; refine ⟨_, rfl, ?_⟩; replace BK102 := zA (blk_below (g := gb102) (o := .cells #[.string ((rd_T94 l0 x10_1).f0), .int .i64 ((rd_T94 l0 x10_1).f1), .int .i64 ((rd_T94 l0 x10_1).f2), .int .i64 ((rd_T94 l0 x10_1).f3), .int .i64 ((rd_T94 l0 x10_1).f4)] 94 (0, 0)) (zq29 BK102) hb); replace HB := zA (below_step (zq3 GE102) hb); (try clear hb)))
   go_ret
   exact ⟨zq4, zq3 GE102⟩
 subst c7
 replace H := zih H
 have H' := zA H
 clear H
 obtain ⟨p101, q101⟩ := zpq x10_1 l0.length
 obtain ⟨ad101, e101, hx101_0, hx101_1, hx101_2, hx101_3, hx101_4⟩ := at_T94 HR0.out x10_1 (zoe p101) (zoe q101)
 cases e101
 replace hx101_0 := zkep HB.out hx101_0
 replace hx101_1 := zkep HB.out hx101_1
 replace hx101_2 := zkep HB.out hx101_2
 replace hx101_3 := zkep HB.out hx101_3
 replace hx101_4 := zkep HB.out hx101_4
 go_wp2_with (first | ((with_reducible refine zgd 4 ?_); refine zbh zq1 #[.string (⟨#[]⟩ : ByteArray), .int .i64 0, .int .i64 0, .int .i64 0, .int .i64 0] 94 ?_; clear HB; intro gb102 w8 HB BK102 GW102; have GE102 := GW102; obtain ⟨hcz9_0, hcz9_1, hcz9_2, hcz9_3, hcz9_4, hfz9_0, hfz9_1, hfz9_2, hfz9_3, hfz9_4⟩ := zd5 BK102) | ((with_reducible refine zgc 157 ?_); refine zcl 15 Try.func157 (spec_cdGood.calls k1 ((rd_T94 l0 x10_1).f0) ((rd_T94 l0 x10_1).f1) ((rd_T94 l0 x10_1).f2) ((rd_T94 l0 x10_1).f3) ((rd_T94 l0 x10_1).f4) true _ A6.out) ?_; rintro e w10 ⟨rfl, hb⟩; refine ⟨_, rfl, ?_⟩; replace BK102 := zA (blk_below (g := gb102) (o := .cells #[.string ((rd_T94 l0 x10_1).f0), .int .i64 ((rd_T94 l0 x10_1).f1), .int .i64 ((rd_T94 l0 x10_1).f2), .int .i64 ((rd_T94 l0 x10_1).f3), .int .i64 ((rd_T94 l0 x10_1).f4)] 94 (0, 0)) (zq29 BK102) hb); replace HB := zA (below_step (zq3 GE102) hb); (try clear hb)))
 go_roundg k1
 case measure => have := HK1.out; omega
 case rel => exact ⟨(wrap64 (x10_1 + 1)), zq5, H', ⟨zq39 HK1⟩, ⟨zq3 GE102⟩⟩
def spec_vaGood.f (k : Nat) (l0 : List (S94)) : Option (Bool) := if (l0.length : Int) ≤ 20 then ((spec_cdCode.f k l0).bind fun t101 => (some t101)) else (some false)
theorem spec_vaGood.mono : ∀ a0 k, LeO (spec_vaGood.f k a0) (spec_vaGood.f (k + 1) a0) := by
 intro a0 k
 unfold spec_vaGood.f
 exact zm1 spec_cdCode.mono
theorem spec_vaGood.calls (k : Nat) (A0 : Option Addr) (c0 : Nat) (l0 : List (S94)) (r : Bool) (w : World) (hr0 : Kd.C k94 w A0 l0.length l0) (hc0 : l0.length ≤ c0) (h : spec_vaGood.f k l0 = some r) :
   Calls Try.prog 52 #[.slice A0 l0.length c0] w fun e w' => e = .returned (.bool r) ∧ Below w.heap.size w w' := by
 have HR0 := zA hr0
 have HC0 := zA hc0
 clear hr0 hc0
 have HB := zA (Below.refl w.heap.size w)
 have H : (if (l0.length : Int) ≤ 20 then ((spec_cdCode.f k l0).bind fun t101 => (some t101)) else (some false)) = some r := h
 clear h
 by_cases c2 : (l0.length : Int) ≤ 20
 · rw [if_pos c2] at H
   have c2b0 := zdt c2
   have c2b1 : decide (l0.length ≤ 20) = true := zdt (by omega)
   clear c2
   replace H := zob H
   obtain ⟨t101, A30, H⟩ := H
   replace H : (some t101) = some r := H
   have A3 := zA A30
   clear A30
   obtain rfl := zsi H
   go_enter Try.func52, Try.ntmps52
   go_wp2_with (first | (go_at_call 104; (with_reducible refine (spec_cdCode.calls k _ _ l0 t101 _ ?side1 ?side2 A3.out).mono ?_); (case side1 => repeat (first | exact HR0.out | (with_reducible first | refine zCa ?_ _ | refine zCn ?_ _ | refine zCd ?_))); (case side2 => exact HC0.out); rintro e w4 ⟨rfl, hb⟩; replace HB := zA (below_step zq1 hb); (try clear hb)))
   exact zr_3
 · rw [if_neg c2] at H
   have c2b0 := zdf c2
   have c2b1 : decide (l0.length ≤ 20) = false := zdf (by omega)
   clear c2
   obtain rfl := zsi H
   go_enter Try.func52, Try.ntmps52
   go_wp2
   exact zr_3
def spec_vaTask.f (k : Nat) (l0 : List (S94)) (l1 : List (S94)) (l2 : List Int) : Option (Bool) := (spec_vaGood.f k l0).bind fun t101 => (if t101 = true then ((spec_vaGood.f k l1).bind fun t102 => (if t102 = true then ((spec_cdWanted.f k l2).bind fun t103 => (some t103)) else (some false))) else (some false))
theorem spec_vaTask.mono : ∀ a0 a1 a2 k, LeO (spec_vaTask.f k a0 a1 a2) (spec_vaTask.f (k + 1) a0 a1 a2) := by
 intro a0 a1 a2 k
 unfold spec_vaTask.f
 exact zm2 spec_cdWanted.mono spec_vaGood.mono
theorem spec_vaTask.calls (k : Nat) (A0 : Option Addr) (c0 : Nat) (l0 : List (S94)) (A1 : Option Addr) (c1 : Nat) (l1 : List (S94)) (A2 : Option Addr) (c2 : Nat) (l2 : List Int) (r : Bool) (w : World) (hr0 : Kd.C k94 w A0 l0.length l0) (hc0 : l0.length ≤ c0) (hr1 : Kd.C k94 w A1 l1.length l1) (hc1 : l1.length ≤ c1) (hr2 : Kd.C (Kd.int .i64) w A2 l2.length l2) (hc2 : l2.length ≤ c2) (h : spec_vaTask.f k l0 l1 l2 = some r) :
   Calls Try.prog 72 #[.slice A0 l0.length c0, .slice A1 l1.length c1, .slice A2 l2.length c2] w fun e w' => e = .returned (.bool r) ∧ Below w.heap.size w w' := by
 have HR0 := zA hr0
 have HC0 := zA hc0
 clear hr0 hc0
 have HR1 := zA hr1
 have HC1 := zA hc1
 clear hr1 hc1
 have HR2 := zA hr2
 have HC2 := zA hc2
 clear hr2 hc2
 have HB := zA (Below.refl w.heap.size w)
 have H : ((spec_vaGood.f k l0).bind fun t101 => (if t101 = true then ((spec_vaGood.f k l1).bind fun t102 => (if t102 = true then ((spec_cdWanted.f k l2).bind fun t103 => (some t103)) else (some false))) else (some false))) = some r := h
 clear h
 replace H := zob H
 obtain ⟨t101, A40, H⟩ := H
 replace H : (if t101 = true then ((spec_vaGood.f k l1).bind fun t102 => (if t102 = true then ((spec_cdWanted.f k l2).bind fun t103 => (some t103)) else (some false))) else (some false)) = some r := H
 have A4 := zA A40
 clear A40
 by_cases c5 : t101 = true
 rotate_left
 · replace c5 := zbf c5
   subst c5
   replace H := zif H
   obtain rfl := zsi H
   go_enter Try.func72, Try.ntmps72
   go_wp2_with (first | ((with_reducible refine zgc 52 ?_); refine zca 8 Try.func52 #[.slice A0 l0.length c0] (spec_vaGood.calls k _ _ l0 false _ (zq12 HR0) HC0.out A4.out) ?_; rintro e w13 ⟨rfl, hb⟩; refine ⟨_, rfl, ?_⟩; replace HB := zA (below_step zq1 hb); (try clear hb)))
   exact zr_3
 subst c5
 replace H := zih H
 replace H := zob H
 obtain ⟨t102, A60, H⟩ := H
 replace H : (if t102 = true then ((spec_cdWanted.f k l2).bind fun t103 => (some t103)) else (some false)) = some r := H
 have A6 := zA A60
 clear A60
 by_cases c7 : t102 = true
 rotate_left
 · replace c7 := zbf c7
   subst c7
   replace H := zif H
   obtain rfl := zsi H
   go_enter Try.func72, Try.ntmps72
   go_wp2_with (first | ((with_reducible refine zgc 52 ?_); refine zca 8 Try.func52 #[.slice A0 l0.length c0] (spec_vaGood.calls k _ _ l0 true _ (zq12 HR0) HC0.out A4.out) ?_; rintro e w11 ⟨rfl, hb⟩; refine ⟨_, rfl, ?_⟩; replace HB := zA (below_step zq1 hb); (try clear hb)) | (go_at_call 52; (with_reducible refine (spec_vaGood.calls k _ _ l1 false _ ?side1 ?side2 A6.out).mono ?_); (case side1 => repeat (first | exact (zCb HR1.out HB.out) | (with_reducible first | refine zCa ?_ _ | refine zCn ?_ _ | refine zCd ?_))); (case side2 => exact HC1.out); rintro e w12 ⟨rfl, hb⟩; replace HB := zA (below_step zq1 hb); (try clear hb)))
   exact zr_3
 subst c7
 replace H := zih H
 replace H := zob H
 obtain ⟨t103, A80, H⟩ := H
 replace H : (some t103) = some r := H
 have A8 := zA A80
 clear A80
 obtain rfl := zsi H
 go_enter Try.func72, Try.ntmps72
 go_wp2_with (first | ((with_reducible refine zgc 52 ?_); refine zca 8 Try.func52 #[.slice A0 l0.length c0] (spec_vaGood.calls k _ _ l0 true _ (zq12 HR0) HC0.out A4.out) ?_; rintro e w9 ⟨rfl, hb⟩; refine ⟨_, rfl, ?_⟩; replace HB := zA (below_step zq1 hb); (try clear hb)) | (go_at_call 52; (with_reducible refine (spec_vaGood.calls k _ _ l1 true _ ?side1 ?side2 A6.out).mono ?_); (case side1 => repeat (first | exact (zCb HR1.out HB.out) | (with_reducible first | refine zCa ?_ _ | refine zCn ?_ _ | refine zCd ?_))); (case side2 => exact HC1.out); rintro e w10 ⟨rfl, hb⟩; replace HB := zA (below_step zq1 hb); (try clear hb)) | (go_at_call 119; (with_reducible refine (spec_cdWanted.calls k _ _ l2 t103 _ ?side1 ?side2 A8.out).mono ?_); (case side1 => repeat (first | exact (zCb HR2.out HB.out) | (with_reducible first | refine zCa ?_ _ | refine zCn ?_ _ | refine zCd ?_))); (case side2 => exact HC2.out); rintro e w' ⟨rfl, ⟨nd, rfl⟩⟩))
 exact zr_3
def spec_AreAlike.f (k : Nat) (l0 : List (S94)) (l1 : List (S94)) (l2 : List Int) : Option (Bool × Bool) := (spec_vaTask.f k l0 l1 l2).bind fun t101 => (if t101 = true then ((spec_vaAlike.f k l0 l1 l2).bind fun bt102 => (some (bt102.1, bt102.2))) else (some (false, false)))
theorem spec_AreAlike.mono : ∀ a0 a1 a2 k, LeO (spec_AreAlike.f k a0 a1 a2) (spec_AreAlike.f (k + 1) a0 a1 a2) := by
 intro a0 a1 a2 k
 unfold spec_AreAlike.f
 exact zm2 spec_vaAlike.mono spec_vaTask.mono
theorem spec_AreAlike.calls (k : Nat) (A0 : Option Addr) (c0 : Nat) (l0 : List (S94)) (A1 : Option Addr) (c1 : Nat) (l1 : List (S94)) (A2 : Option Addr) (c2 : Nat) (l2 : List Int) (r1 : Bool) (r2 : Bool) (w : World) (hr0 : Kd.C k94 w A0 l0.length l0) (hc0 : l0.length ≤ c0) (hr1 : Kd.C k94 w A1 l1.length l1) (hc1 : l1.length ≤ c1) (hr2 : Kd.C (Kd.int .i64) w A2 l2.length l2) (hc2 : l2.length ≤ c2) (h : spec_AreAlike.f k l0 l1 l2 = some (r1, r2)) :
   Calls Try.prog 31 #[.slice A0 l0.length c0, .slice A1 l1.length c1, .slice A2 l2.length c2] w fun e w' => e = .returned (.tuple #[.bool r1, .bool r2]) ∧ Below w.heap.size w w' := by
 have HR0 := zA hr0
 have HC0 := zA hc0
 clear hr0 hc0
 have HR1 := zA hr1
 have HC1 := zA hc1
 clear hr1 hc1
 have HR2 := zA hr2
 have HC2 := zA hc2
 clear hr2 hc2
 have HB := zA (Below.refl w.heap.size w)
 have H : ((spec_vaTask.f k l0 l1 l2).bind fun t101 => (if t101 = true then ((spec_vaAlike.f k l0 l1 l2).bind fun bt102 => (some (bt102.1, bt102.2))) else (some (false, false)))) = some (r1, r2) := h
 clear h
 replace H := zob H
 obtain ⟨t101, A40, H⟩ := H
 replace H : (if t101 = true then ((spec_vaAlike.f k l0 l1 l2).bind fun bt102 => (some (bt102.1, bt102.2))) else (some (false, false))) = some (r1, r2) := H
 have A4 := zA A40
 clear A40
 by_cases c5 : t101 = true
 rotate_left
 · replace c5 := zbf c5
   subst c5
   replace H := zif H
   simp only [Option.some.injEq, Prod.mk.injEq] at H
   obtain ⟨rfl, rfl⟩ := H
   go_enter Try.func31, Try.ntmps31
   go_wp2_with (first | ((with_reducible refine zgc 72 ?_); refine zca 11 Try.func72 #[.slice A0 l0.length c0, .slice A1 l1.length c1, .slice A2 l2.length c2] (spec_vaTask.calls k _ _ l0 _ _ l1 _ _ l2 false _ (zq12 HR0) HC0.out (zq12 HR1) HC1.out (zq12 HR2) HC2.out A4.out) ?_; rintro e w9 ⟨rfl, hb⟩; refine ⟨_, rfl, ?_⟩; replace HB := zA (below_step zq1 hb); (try clear hb)))
   go_ret2
   exact ⟨zq4, zq1⟩
 subst c5
 replace H := zih H
 replace H := zob H
 obtain ⟨⟨t102, t103⟩, A60, H⟩ := H
 replace H : (some (t102, t103)) = some (r1, r2) := H
 have A6 := zA A60
 clear A60
 simp only [Option.some.injEq, Prod.mk.injEq] at H
 obtain ⟨rfl, rfl⟩ := H
 go_enter Try.func31, Try.ntmps31
 go_wp2_with (first | ((with_reducible refine zgc 72 ?_); refine zca 11 Try.func72 #[.slice A0 l0.length c0, .slice A1 l1.length c1, .slice A2 l2.length c2] (spec_vaTask.calls k _ _ l0 _ _ l1 _ _ l2 true _ (zq12 HR0) HC0.out (zq12 HR1) HC1.out (zq12 HR2) HC2.out A4.out) ?_; rintro e w7 ⟨rfl, hb⟩; refine ⟨_, rfl, ?_⟩; replace HB := zA (below_step zq1 hb); (try clear hb)) | ((with_reducible refine zgc 73 ?_); refine zca 16 Try.func73 #[.slice A0 l0.length c0, .slice A1 l1.length c1, .slice A2 l2.length c2] (spec_vaAlike.calls k _ _ l0 _ _ l1 _ _ l2 t102 t103 _ (zq10 HR0) HC0.out (zq10 HR1) HC1.out (zq10 HR2) HC2.out A6.out) ?_; rintro e w8 ⟨rfl, hb⟩; refine ⟨_, rfl, ?_⟩; replace HB := zA (below_step zq1 hb); (try clear hb)))
 go_ret2
 exact ⟨zq4, zq1⟩
def laws_FnExactAreAlike.j0 : Nat → List (S93) → List (S93) → List Int → List (S94) → List (S94) → List Int → Bool → Option (Bool)
 | 0, _, _, _, _, _, _, _ => none
 | k + 1, x0, x1, x2, x10, x11, x12, x58 => if x58 = true then (some false) else ((laws_toInstrS.f k x0).bind fun t125 => ((laws_eqInstrS.f k x10 t125).bind fun t128 => (if t128 = true then ((laws_toInstrS.f k x1).bind fun t129 => ((laws_eqInstrS.f k x11 t129).bind fun t132 => (if t132 = true then ((laws_toIntS.f k x2).bind fun t133 => ((laws_eqIntS.f k x12 t133).bind fun t136 => (if t136 = true then (some true) else (some false)))) else (some false)))) else (some false))))
def laws_FnExactAreAlike.f (k : Nat) (l0 : List (S93)) (l1 : List (S93)) (l2 : List Int) : Option (Bool) := if (l2.length : Int) > 1048576 then (some true) else ((laws_szInstrS.f k l0 1048576).bind fun t101 => (if t101 < 0 then (some true) else ((laws_szInstrS.f k l1 t101).bind fun t102 => (if t102 < 0 then (some true) else ((laws_toInstrS.f k l0).bind fun t103 => ((laws_toInstrS.f k l1).bind fun t106 => ((laws_toIntS.f k l2).bind fun t109 => ((spec_AreAlike.f k t103 t106 t109).bind fun bt112 => ((laws_toInstrS.f k l0).bind fun t114 => ((laws_toInstrS.f k l1).bind fun t117 => ((laws_toIntS.f k l2).bind fun t120 => ((impl_AreAlike.f k t114 t117 t120).bind fun bt123 => (if (bt123.1 != bt112.1) = true then (laws_FnExactAreAlike.j0 k l0 l1 l2 t114 t117 t120 true) else (laws_FnExactAreAlike.j0 k l0 l1 l2 t114 t117 t120 (bt123.2 != bt112.2)))))))))))))))
theorem laws_FnExactAreAlike.mono_l : ∀ k, (∀ y0 y1 y2 y3 y4 y5 y6, LeO (laws_FnExactAreAlike.j0 k y0 y1 y2 y3 y4 y5 y6) (laws_FnExactAreAlike.j0 (k + 1) y0 y1 y2 y3 y4 y5 y6))
 | 0 => fun _ _ _ _ _ _ _ r h => by simp [laws_FnExactAreAlike.j0] at h
 | k + 1 => by
   have ih0 := laws_FnExactAreAlike.mono_l k
   · intro y0 y1 y2 y3 y4 y5 y6
     unfold laws_FnExactAreAlike.j0
     exact zm8 ih0 impl_AreAlike.mono laws_eqInstrS.mono laws_eqIntS.mono laws_szInstrS.mono laws_toInstrS.mono laws_toIntS.mono spec_AreAlike.mono
theorem laws_FnExactAreAlike.mono : ∀ a0 a1 a2 k, LeO (laws_FnExactAreAlike.f k a0 a1 a2) (laws_FnExactAreAlike.f (k + 1) a0 a1 a2) := by
 intro a0 a1 a2 k
 have ih0 := laws_FnExactAreAlike.mono_l k
 unfold laws_FnExactAreAlike.f
 exact zm8 ih0 impl_AreAlike.mono laws_eqInstrS.mono laws_eqIntS.mono laws_szInstrS.mono laws_toInstrS.mono laws_toIntS.mono spec_AreAlike.mono
theorem laws_FnExactAreAlike.calls (k : Nat) (A0 : Option Addr) (c0 : Nat) (l0 : List (S93)) (A1 : Option Addr) (c1 : Nat) (l1 : List (S93)) (A2 : Option Addr) (c2 : Nat) (l2 : List Int) (r : Bool) (w : World) (hr0 : Kd.C k93 w A0 l0.length l0) (hc0 : l0.length ≤ c0) (hr1 : Kd.C k93 w A1 l1.length l1) (hc1 : l1.length ≤ c1) (hr2 : Kd.C (Kd.int .i64) w A2 l2.length l2) (hc2 : l2.length ≤ c2) (h : laws_FnExactAreAlike.f k l0 l1 l2 = some r) :
   Calls Try.prog 6 #[.slice A0 l0.length c0, .slice A1 l1.length c1, .slice A2 l2.length c2] w fun e w' => e = .returned (.bool r) ∧ Below w.heap.size w w' := by
 have HR0 := zA hr0
 have HC0 := zA hc0
 clear hr0 hc0
 have HR1 := zA hr1
 have HC1 := zA hc1
 clear hr1 hc1
 have HR2 := zA hr2
 have HC2 := zA hc2
 clear hr2 hc2
 have HB := zA (Below.refl w.heap.size w)
 have H : (if (l2.length : Int) > 1048576 then (some true) else ((laws_szInstrS.f k l0 1048576).bind fun t101 => (if t101 < 0 then (some true) else ((laws_szInstrS.f k l1 t101).bind fun t102 => (if t102 < 0 then (some true) else ((laws_toInstrS.f k l0).bind fun t103 => ((laws_toInstrS.f k l1).bind fun t106 => ((laws_toIntS.f k l2).bind fun t109 => ((spec_AreAlike.f k t103 t106 t109).bind fun bt112 => ((laws_toInstrS.f k l0).bind fun t114 => ((laws_toInstrS.f k l1).bind fun t117 => ((laws_toIntS.f k l2).bind fun t120 => ((impl_AreAlike.f k t114 t117 t120).bind fun bt123 => (if (bt123.1 != bt112.1) = true then (laws_FnExactAreAlike.j0 k l0 l1 l2 t114 t117 t120 true) else (laws_FnExactAreAlike.j0 k l0 l1 l2 t114 t117 t120 (bt123.2 != bt112.2)))))))))))))))) = some r := h
 clear h
 by_cases c4 : (l2.length : Int) > 1048576
 · rw [if_pos c4] at H
   have c4b0 := zdt c4
   have c4b1 : decide (1048576 < l2.length) = true := zdt (by omega)
   clear c4
   obtain rfl := zsi H
   go_enter Try.func6, Try.ntmps6
   go_wp2
   exact zr_3
 rw [if_neg c4] at H
 have c4b0 := zdf c4
 have c4b1 : decide (1048576 < l2.length) = false := zdf (by omega)
 clear c4
 replace H := zob H
 obtain ⟨t101, A50, H⟩ := H
 replace H : (if t101 < 0 then (some true) else ((laws_szInstrS.f k l1 t101).bind fun t102 => (if t102 < 0 then (some true) else ((laws_toInstrS.f k l0).bind fun t103 => ((laws_toInstrS.f k l1).bind fun t106 => ((laws_toIntS.f k l2).bind fun t109 => ((spec_AreAlike.f k t103 t106 t109).bind fun bt112 => ((laws_toInstrS.f k l0).bind fun t114 => ((laws_toInstrS.f k l1).bind fun t117 => ((laws_toIntS.f k l2).bind fun t120 => ((impl_AreAlike.f k t114 t117 t120).bind fun bt123 => (if (bt123.1 != bt112.1) = true then (laws_FnExactAreAlike.j0 k l0 l1 l2 t114 t117 t120 true) else (laws_FnExactAreAlike.j0 k l0 l1 l2 t114 t117 t120 (bt123.2 != bt112.2)))))))))))))) = some r := H
 have A5 := zA A50
 clear A50
 by_cases c6 : t101 < 0
 · rw [if_pos c6] at H
   have c6b0 := zdt c6
   clear c6
   obtain rfl := zsi H
   go_enter Try.func6, Try.ntmps6
   go_wp2_with (first | ((with_reducible refine zgc 25 ?_); refine zca 20 Try.func25 #[.slice A0 l0.length c0, .int .i64 1048576] (laws_szInstrS.calls k _ _ l0 1048576 t101 _ (zq12 HR0) HC0.out A5.out) ?_; rintro e w7 ⟨rfl, hb⟩; refine ⟨_, rfl, ?_⟩; replace HB := zA (below_step zq1 hb); (try clear hb)))
   exact zr_3
 rw [if_neg c6] at H
 have c6b0 := zdf c6
 clear c6
 replace H := zob H
 obtain ⟨t102, A80, H⟩ := H
 replace H : (if t102 < 0 then (some true) else ((laws_toInstrS.f k l0).bind fun t103 => ((laws_toInstrS.f k l1).bind fun t106 => ((laws_toIntS.f k l2).bind fun t109 => ((spec_AreAlike.f k t103 t106 t109).bind fun bt112 => ((laws_toInstrS.f k l0).bind fun t114 => ((laws_toInstrS.f k l1).bind fun t117 => ((laws_toIntS.f k l2).bind fun t120 => ((impl_AreAlike.f k t114 t117 t120).bind fun bt123 => (if (bt123.1 != bt112.1) = true then (laws_FnExactAreAlike.j0 k l0 l1 l2 t114 t117 t120 true) else (laws_FnExactAreAlike.j0 k l0 l1 l2 t114 t117 t120 (bt123.2 != bt112.2)))))))))))) = some r := H
 have A8 := zA A80
 clear A80
 by_cases c9 : t102 < 0
 · rw [if_pos c9] at H
   have c9b0 := zdt c9
   clear c9
   obtain rfl := zsi H
   go_enter Try.func6, Try.ntmps6
   go_wp2_with (first | ((with_reducible refine zgc 25 ?_); refine zca 20 Try.func25 #[.slice A0 l0.length c0, .int .i64 1048576] (laws_szInstrS.calls k _ _ l0 1048576 t101 _ (zq12 HR0) HC0.out A5.out) ?_; rintro e w10 ⟨rfl, hb⟩; refine ⟨_, rfl, ?_⟩; replace HB := zA (below_step zq1 hb); (try clear hb)) | ((with_reducible refine zgc 25 ?_); refine zca 25 Try.func25 #[.slice A1 l1.length c1, .int .i64 t101] (laws_szInstrS.calls k _ _ l1 t101 t102 _ (zq10 HR1) HC1.out A8.out) ?_; rintro e w11 ⟨rfl, hb⟩; refine ⟨_, rfl, ?_⟩; replace HB := zA (below_step zq1 hb); (try clear hb)))
   exact zr_3
 rw [if_neg c9] at H
 have c9b0 := zdf c9
 clear c9
 replace H := zob H
 obtain ⟨t103, A120, H⟩ := H
 replace H : ((laws_toInstrS.f k l1).bind fun t106 => ((laws_toIntS.f k l2).bind fun t109 => ((spec_AreAlike.f k t103 t106 t109).bind fun bt112 => ((laws_toInstrS.f k l0).bind fun t114 => ((laws_toInstrS.f k l1).bind fun t117 => ((laws_toIntS.f k l2).bind fun t120 => ((impl_AreAlike.f k t114 t117 t120).bind fun bt123 => (if (bt123.1 != bt112.1) = true then (laws_FnExactAreAlike.j0 k l0 l1 l2 t114 t117 t120 true) else (laws_FnExactAreAlike.j0 k l0 l1 l2 t114 t117 t120 (bt123.2 != bt112.2)))))))))) = some r := H
 have A12 := zA A120
 clear A120
 replace H := zob H
 obtain ⟨t106, A130, H⟩ := H
 replace H : ((laws_toIntS.f k l2).bind fun t109 => ((spec_AreAlike.f k t103 t106 t109).bind fun bt112 => ((laws_toInstrS.f k l0).bind fun t114 => ((laws_toInstrS.f k l1).bind fun t117 => ((laws_toIntS.f k l2).bind fun t120 => ((impl_AreAlike.f k t114 t117 t120).bind fun bt123 => (if (bt123.1 != bt112.1) = true then (laws_FnExactAreAlike.j0 k l0 l1 l2 t114 t117 t120 true) else (laws_FnExactAreAlike.j0 k l0 l1 l2 t114 t117 t120 (bt123.2 != bt112.2))))))))) = some r := H
 have A13 := zA A130
 clear A130
 replace H := zob H
 obtain ⟨t109, A140, H⟩ := H
 replace H : ((spec_AreAlike.f k t103 t106 t109).bind fun bt112 => ((laws_toInstrS.f k l0).bind fun t114 => ((laws_toInstrS.f k l1).bind fun t117 => ((laws_toIntS.f k l2).bind fun t120 => ((impl_AreAlike.f k t114 t117 t120).bind fun bt123 => (if (bt123.1 != bt112.1) = true then (laws_FnExactAreAlike.j0 k l0 l1 l2 t114 t117 t120 true) else (laws_FnExactAreAlike.j0 k l0 l1 l2 t114 t117 t120 (bt123.2 != bt112.2)))))))) = some r := H
 have A14 := zA A140
 clear A140
 replace H := zob H
 obtain ⟨⟨t112, t113⟩, A150, H⟩ := H
 replace H : ((laws_toInstrS.f k l0).bind fun t114 => ((laws_toInstrS.f k l1).bind fun t117 => ((laws_toIntS.f k l2).bind fun t120 => ((impl_AreAlike.f k t114 t117 t120).bind fun bt123 => (if (bt123.1 != t112) = true then (laws_FnExactAreAlike.j0 k l0 l1 l2 t114 t117 t120 true) else (laws_FnExactAreAlike.j0 k l0 l1 l2 t114 t117 t120 (bt123.2 != t113))))))) = some r := H
 have A15 := zA A150
 clear A150
 replace H := zob H
 obtain ⟨t114, A160, H⟩ := H
 replace H : ((laws_toInstrS.f k l1).bind fun t117 => ((laws_toIntS.f k l2).bind fun t120 => ((impl_AreAlike.f k t114 t117 t120).bind fun bt123 => (if (bt123.1 != t112) = true then (laws_FnExactAreAlike.j0 k l0 l1 l2 t114 t117 t120 true) else (laws_FnExactAreAlike.j0 k l0 l1 l2 t114 t117 t120 (bt123.2 != t113)))))) = some r := H
 have A16 := zA A160
 clear A160
 replace H := zob H
 obtain ⟨t117, A170, H⟩ := H
 replace H : ((laws_toIntS.f k l2).bind fun t120 => ((impl_AreAlike.f k t114 t117 t120).bind fun bt123 => (if (bt123.1 != t112) = true then (laws_FnExactAreAlike.j0 k l0 l1 l2 t114 t117 t120 true) else (laws_FnExactAreAlike.j0 k l0 l1 l2 t114 t117 t120 (bt123.2 != t113))))) = some r := H
 have A17 := zA A170
 clear A170
 replace H := zob H
 obtain ⟨t120, A180, H⟩ := H
 replace H : ((impl_AreAlike.f k t114 t117 t120).bind fun bt123 => (if (bt123.1 != t112) = true then (laws_FnExactAreAlike.j0 k l0 l1 l2 t114 t117 t120 true) else (laws_FnExactAreAlike.j0 k l0 l1 l2 t114 t117 t120 (bt123.2 != t113)))) = some r := H
 have A18 := zA A180
 clear A180
 replace H := zob H
 obtain ⟨⟨t123, t124⟩, A190, H⟩ := H
 replace H : (if (t123 != t112) = true then (laws_FnExactAreAlike.j0 k l0 l1 l2 t114 t117 t120 true) else (laws_FnExactAreAlike.j0 k l0 l1 l2 t114 t117 t120 (t124 != t113))) = some r := H
 have A19 := zA A190
 clear A190
 have HC20 := zA H
 clear H
 go_enter Try.func6, Try.ntmps6
 go_upto_region 15 with (first | ((with_reducible refine zgc 25 ?_); refine zca 20 Try.func25 #[.slice A0 l0.length c0, .int .i64 1048576] (laws_szInstrS.calls k _ _ l0 1048576 t101 _ (zq12 HR0) HC0.out A5.out) ?_; rintro e w21 ⟨rfl, hb⟩; refine ⟨_, rfl, ?_⟩; replace HB := zA (below_step zq1 hb); (try clear hb)) | ((with_reducible refine zgc 25 ?_); refine zca 25 Try.func25 #[.slice A1 l1.length c1, .int .i64 t101] (laws_szInstrS.calls k _ _ l1 t101 t102 _ (zq10 HR1) HC1.out A8.out) ?_; rintro e w22 ⟨rfl, hb⟩; refine ⟨_, rfl, ?_⟩; replace HB := zA (below_step zq1 hb); (try clear hb)) | ((with_reducible refine zgc 27 ?_); refine zca 30 Try.func27 #[.slice A0 l0.length c0] (laws_toInstrS.calls k _ _ l0 t103 _ (zq10 HR0) HC0.out A12.out) ?_; rintro e w23 ⟨v104, rfl, ho0, hb⟩; refine ⟨_, rfl, ?_⟩; have HO105 := zA (Kd.R_lower ho0 (below_size zq1)); replace HB := zA (below_step zq1 hb); (try clear hb); (try clear ho0)) | ((with_reducible refine zgc 27 ?_); refine zca 32 Try.func27 #[.slice A1 l1.length c1] (laws_toInstrS.calls k _ _ l1 t106 _ (zq10 HR1) HC1.out A13.out) ?_; rintro e w24 ⟨v107, rfl, ho0, hb⟩; refine ⟨_, rfl, ?_⟩; have HO108 := zA (Kd.R_lower (Kd.R_new' ho0 (Kd.R_lt (zq2 HO105))) (below_size zq1)); replace HO105 := zA (Kd.R_elder' (zq2 HO105) (Kd.R_base ho0) hb); replace HB := zA (below_step zq1 hb); (try clear hb); (try clear ho0)) | ((with_reducible refine zgc 32 ?_); refine zca 34 Try.func32 #[.slice A2 l2.length c2] (laws_toIntS.calls k _ _ l2 t109 _ (zq10 HR2) HC2.out A14.out) ?_; rintro e w25 ⟨v110, rfl, ho0, hb⟩; refine ⟨_, rfl, ?_⟩; replace HO105 := zA (zRb (zq2 HO105) hb); replace HO108 := zA (zRb (zq2 HO108) hb); have HO111 := zA (Kd.R_lower ho0 (below_size zq1)); replace HB := zA (below_step zq1 hb); (try clear hb); (try clear ho0); obtain ⟨Ao26, co26, eo26⟩ := Kd.R_slice HO105.out; subst eo26; obtain ⟨Ao27, co27, eo27⟩ := Kd.R_slice HO108.out; subst eo27; obtain ⟨Ao28, co28, eo28⟩ := Kd.R_slice HO111.out; subst eo28) | ((with_reducible refine zgc 31 ?_); refine zca 35 Try.func31 #[.slice Ao26 t103.length co26, .slice Ao27 t106.length co27, .slice Ao28 t109.length co28] (spec_AreAlike.calls k _ _ t103 _ _ t106 _ _ t109 t112 t113 _ (zq11 HO105) (zq37 HO105) (zq11 HO108) (zq37 HO108) (zq11 HO111) (zq37 HO111) A15.out) ?_; rintro e w29 ⟨rfl, hb⟩; refine ⟨_, rfl, ?_⟩; replace HO105 := zA (zRb (zq2 HO105) hb); replace HO108 := zA (zRb (zq2 HO108) hb); replace HO111 := zA (zRb (zq2 HO111) hb); replace HB := zA (below_step zq1 hb); (try clear hb)) | ((with_reducible refine zgc 27 ?_); refine zca 39 Try.func27 #[.slice A0 l0.length c0] (laws_toInstrS.calls k _ _ l0 t114 _ (zq10 HR0) HC0.out A16.out) ?_; rintro e w30 ⟨v115, rfl, ho0, hb⟩; refine ⟨_, rfl, ?_⟩; replace HO111 := zA (zRb (zq2 HO111) hb); have HO116 := zA (Kd.R_lower (Kd.R_new' (Kd.R_new' ho0 (Kd.R_lt (zq2 HO105))) (Kd.R_lt (zq2 HO108))) (below_size zq1)); replace HO105 := zA (Kd.R_elder' (zq2 HO105) (Kd.R_base ho0) hb); replace HO108 := zA (Kd.R_elder' (zq2 HO108) (Kd.R_base ho0) hb); replace HB := zA (below_step zq1 hb); (try clear hb); (try clear ho0)) | ((with_reducible refine zgc 27 ?_); refine zca 41 Try.func27 #[.slice A1 l1.length c1] (laws_toInstrS.calls k _ _ l1 t117 _ (zq10 HR1) HC1.out A17.out) ?_; rintro e w31 ⟨v118, rfl, ho0, hb⟩; refine ⟨_, rfl, ?_⟩; replace HO111 := zA (zRb (zq2 HO111) hb); have HO119 := zA (Kd.R_lower (Kd.R_new' (Kd.R_new' (Kd.R_new' ho0 (Kd.R_lt (zq2 HO105))) (Kd.R_lt (zq2 HO108))) (Kd.R_lt (zq2 HO116))) (below_size zq1)); replace HO105 := zA (Kd.R_elder' (zq2 HO105) (Kd.R_base ho0) hb); replace HO108 := zA (Kd.R_elder' (zq2 HO108) (Kd.R_base ho0) hb); replace HO116 := zA (Kd.R_elder' (zq2 HO116) (Kd.R_base ho0) hb); replace HB := zA (below_step zq1 hb); (try clear hb); (try clear ho0)) | ((with_reducible refine zgc 32 ?_); refine zca 43 Try.func32 #[.slice A2 l2.length c2] (laws_toIntS.calls k _ _ l2 t120 _ (zq10 HR2) HC2.out A18.out) ?_; rintro e w32 ⟨v121, rfl, ho0, hb⟩; refine ⟨_, rfl, ?_⟩; replace HO105 := zA (zRb (zq2 HO105) hb); replace HO108 := zA (zRb (zq2 HO108) hb); replace HO116 := zA (zRb (zq2 HO116) hb); replace HO119 := zA (zRb (zq2 HO119) hb); have HO122 := zA (Kd.R_lower (Kd.R_new' ho0 (Kd.R_lt (zq2 HO111))) (below_size zq1)); replace HO111 := zA (Kd.R_elder' (zq2 HO111) (Kd.R_base ho0) hb); replace HB := zA (below_step zq1 hb); (try clear hb); (try clear ho0); obtain ⟨Ao33, co33, eo33⟩ := Kd.R_slice HO116.out; subst eo33; obtain ⟨Ao34, co34, eo34⟩ := Kd.R_slice HO119.out; subst eo34; obtain ⟨Ao35, co35, eo35⟩ := Kd.R_slice HO122.out; subst eo35) | ((with_reducible refine zgc 33 ?_); refine zca 48 Try.func33 #[.slice Ao33 t114.length co33, .slice Ao34 t117.length co34, .slice Ao35 t120.length co35] (impl_AreAlike.calls k _ _ t114 _ _ t117 _ _ t120 t123 t124 _ (zq11 HO116) (zq37 HO116) (zq11 HO119) (zq37 HO119) (zq11 HO122) (zq37 HO122) A19.out) ?_; rintro e w36 ⟨rfl, hb⟩; refine ⟨_, rfl, ?_⟩; replace HO105 := zA (zRb (zq2 HO105) hb); replace HO108 := zA (zRb (zq2 HO108) hb); replace HO111 := zA (zRb (zq2 HO111) hb); replace HO116 := zA (zRb (zq2 HO116) hb); replace HO119 := zA (zRb (zq2 HO119) hb); replace HO122 := zA (zRb (zq2 HO122) hb); replace HB := zA (below_step zq1 hb); (try clear hb)))
 (try simp only [Act.put, List.setIfInBounds_toArray, List.set_cons_zero, List.set_cons_succ])
 go_cut [58] (fun v58 wc => ∃ (kq : Nat) (x58_19 : Bool), v58 = .bool x58_19 ∧ Aside0 (laws_FnExactAreAlike.j0 kq l0 l1 l2 t114 t117 t120 x58_19 = some r) ∧ Aside0 (kq ≤ k) ∧ Aside0 (Kd.R k94 94 wc w.heap.size (fun k_ => some k_ ≠ ((.slice Ao34 t117.length co34) : Value).ownBlock) (.slice Ao33 t114.length co33) t114) ∧ Aside0 (Kd.R k94 94 wc w.heap.size (fun k_ => some k_ ≠ ((.slice Ao33 t114.length co33) : Value).ownBlock) (.slice Ao34 t117.length co34) t117) ∧ Aside0 (Kd.R (Kd.int .i64) 3 wc w.heap.size (fun _ => True) (.slice Ao35 t120.length co35) t120) ∧ Aside0 (Below w.heap.size w wc))
 case first =>
   have H := HC20.out
   clear HC20
   by_cases c37 : (t123 != t112) = true
   rotate_left
   · rw [if_neg c37] at H
     have c37b0 : (t123 != t112) = false := by simpa using c37
     (try (have c37b1 : decide (t123 = t112) = true := by simpa using c37))
     (try (have c37b2 : (t123 == t112) = true := by simpa using c37))
     clear c37
     (first | rw [c37b0] | (simp only [i64_w, i32_w]; rw [c37b0]) | skip)
     have H' := zA H
     clear H
     go_wp2
     go_meet
     case rel => exact ⟨_, ((t124 != t113)), zq5, H', ⟨zq52⟩, ⟨zq31 HO116⟩, ⟨zq31 HO119⟩, ⟨zq28 HO122⟩, ⟨zq1⟩⟩
   rw [if_pos c37] at H
   have c37b0 : (t123 != t112) = true := c37
   (try (have c37b1 : decide (t123 = t112) = false := by simpa using c37))
   (try (have c37b2 : (t123 == t112) = false := by simpa using c37))
   (try (have c37b3 : ¬ (t123 = t112) := by simpa using c37))
   clear c37
   (first | rw [c37b0] | (simp only [i64_w, i32_w]; rw [c37b0]) | skip)
   have H' := zA H
   clear H
   go_wp2
   go_meet
   case rel => exact ⟨_, (true), zq5, H', ⟨zq52⟩, ⟨zq31 HO116⟩, ⟨zq31 HO119⟩, ⟨zq28 HO122⟩, ⟨zq1⟩⟩
 clear HC20
 try clear c1
 try clear c2
 try clear c4
 try clear c4b0
 try clear c4b1
 try clear c6
 try clear c6b0
 try clear c9
 try clear c9b0
 try clear c37
 try clear c37b0
 try clear c37b1
 try clear c37b2
 obtain ⟨kq, x58_19, rfl, HA, HJ19, HO_10, HO_11, HO_12, HB⟩ := hcut
 cases kq with
 | zero => exact absurd HA.out (by simp [laws_FnExactAreAlike.j0])
 | succ kj19 =>
 have H := HA.out
 clear HA
 simp only [laws_FnExactAreAlike.j0] at H
 by_cases c38 : x58_19 = true
 · subst c38
   replace H := zih H
   obtain rfl := zsi H
   go_wp2
   exact zr_3
 replace c38 := zbf c38
 subst c38
 replace H := zif H
 replace H := zob H
 obtain ⟨t125, A390, H⟩ := H
 replace H : ((laws_eqInstrS.f kj19 t114 t125).bind fun t128 => (if t128 = true then ((laws_toInstrS.f kj19 l1).bind fun t129 => ((laws_eqInstrS.f kj19 t117 t129).bind fun t132 => (if t132 = true then ((laws_toIntS.f kj19 l2).bind fun t133 => ((laws_eqIntS.f kj19 t120 t133).bind fun t136 => (if t136 = true then (some true) else (some false)))) else (some false)))) else (some false))) = some r := H
 have A39 := zA A390
 clear A390
 replace H := zob H
 obtain ⟨t128, A400, H⟩ := H
 replace H : (if t128 = true then ((laws_toInstrS.f kj19 l1).bind fun t129 => ((laws_eqInstrS.f kj19 t117 t129).bind fun t132 => (if t132 = true then ((laws_toIntS.f kj19 l2).bind fun t133 => ((laws_eqIntS.f kj19 t120 t133).bind fun t136 => (if t136 = true then (some true) else (some false)))) else (some false)))) else (some false)) = some r := H
 have A40 := zA A400
 clear A400
 by_cases c41 : t128 = true
 rotate_left
 · replace c41 := zbf c41
   subst c41
   replace H := zif H
   obtain rfl := zsi H
   go_wp2_with (first | ((with_reducible refine zgc 27 ?_); refine zca 61 Try.func27 #[.slice A0 l0.length c0] (laws_toInstrS.calls kj19 _ _ l0 t125 _ (zq10 HR0) HC0.out A39.out) ?_; rintro e w70 ⟨v126, rfl, ho0, hb⟩; refine ⟨_, rfl, ?_⟩; replace HO_12 := zA (zRb (zq2 HO_12) hb); have HO127 := zA (Kd.R_lower (Kd.R_new' (Kd.R_new' ho0 (Kd.R_lt (zq2 HO_10))) (Kd.R_lt (zq2 HO_11))) (below_size zq1)); replace HO_10 := zA (Kd.R_elder' (zq2 HO_10) (Kd.R_base ho0) hb); replace HO_11 := zA (Kd.R_elder' (zq2 HO_11) (Kd.R_base ho0) hb); replace HB := zA (below_step zq1 hb); (try clear hb); (try clear ho0); obtain ⟨Ao71, co71, eo71⟩ := Kd.R_slice HO127.out; subst eo71) | ((with_reducible refine zgc 29 ?_); refine zca 62 Try.func29 #[.slice Ao33 t114.length co33, .slice Ao71 t125.length co71] (laws_eqInstrS.calls kj19 _ _ t114 _ _ t125 false _ (zq11 HO_10) (zq37 HO_10) (zq11 HO127) (zq37 HO127) A40.out) ?_; rintro e w72 ⟨rfl, hb⟩; refine ⟨_, rfl, ?_⟩; replace HO_10 := zA (zRb (zq2 HO_10) hb); replace HO_11 := zA (zRb (zq2 HO_11) hb); replace HO_12 := zA (zRb (zq2 HO_12) hb); replace HO127 := zA (zRb (zq2 HO127) hb); replace HB := zA (below_step zq1 hb); (try clear hb)))
   exact zr_3
 subst c41
 replace H := zih H
 replace H := zob H
 obtain ⟨t129, A420, H⟩ := H
 replace H : ((laws_eqInstrS.f kj19 t117 t129).bind fun t132 => (if t132 = true then ((laws_toIntS.f kj19 l2).bind fun t133 => ((laws_eqIntS.f kj19 t120 t133).bind fun t136 => (if t136 = true then (some true) else (some false)))) else (some false))) = some r := H
 have A42 := zA A420
 clear A420
 replace H := zob H
 obtain ⟨t132, A430, H⟩ := H
 replace H : (if t132 = true then ((laws_toIntS.f kj19 l2).bind fun t133 => ((laws_eqIntS.f kj19 t120 t133).bind fun t136 => (if t136 = true then (some true) else (some false)))) else (some false)) = some r := H
 have A43 := zA A430
 clear A430
 by_cases c44 : t132 = true
 rotate_left
 · replace c44 := zbf c44
   subst c44
   replace H := zif H
   obtain rfl := zsi H
   go_wp2_with (first | ((with_reducible refine zgc 27 ?_); refine zca 61 Try.func27 #[.slice A0 l0.length c0] (laws_toInstrS.calls kj19 _ _ l0 t125 _ (zq10 HR0) HC0.out A39.out) ?_; rintro e w64 ⟨v126, rfl, ho0, hb⟩; refine ⟨_, rfl, ?_⟩; replace HO_12 := zA (zRb (zq2 HO_12) hb); have HO127 := zA (Kd.R_lower (Kd.R_new' (Kd.R_new' ho0 (Kd.R_lt (zq2 HO_10))) (Kd.R_lt (zq2 HO_11))) (below_size zq1)); replace HO_10 := zA (Kd.R_elder' (zq2 HO_10) (Kd.R_base ho0) hb); replace HO_11 := zA (Kd.R_elder' (zq2 HO_11) (Kd.R_base ho0) hb); replace HB := zA (below_step zq1 hb); (try clear hb); (try clear ho0); obtain ⟨Ao65, co65, eo65⟩ := Kd.R_slice HO127.out; subst eo65) | ((with_reducible refine zgc 29 ?_); refine zca 62 Try.func29 #[.slice Ao33 t114.length co33, .slice Ao65 t125.length co65] (laws_eqInstrS.calls kj19 _ _ t114 _ _ t125 true _ (zq11 HO_10) (zq37 HO_10) (zq11 HO127) (zq37 HO127) A40.out) ?_; rintro e w66 ⟨rfl, hb⟩; refine ⟨_, rfl, ?_⟩; replace HO_10 := zA (zRb (zq2 HO_10) hb); replace HO_11 := zA (zRb (zq2 HO_11) hb); replace HO_12 := zA (zRb (zq2 HO_12) hb); replace HO127 := zA (zRb (zq2 HO127) hb); replace HB := zA (below_step zq1 hb); (try clear hb)) | ((with_reducible refine zgc 27 ?_); refine zca 66 Try.func27 #[.slice A1 l1.length c1] (laws_toInstrS.calls kj19 _ _ l1 t129 _ (zq10 HR1) HC1.out A42.out) ?_; rintro e w67 ⟨v130, rfl, ho0, hb⟩; refine ⟨_, rfl, ?_⟩; replace HO_12 := zA (zRb (zq2 HO_12) hb); have HO131 := zA (Kd.R_lower (Kd.R_new' (Kd.R_new' (Kd.R_new' ho0 (Kd.R_lt (zq2 HO_10))) (Kd.R_lt (zq2 HO_11))) (Kd.R_lt (zq2 HO127))) (below_size zq1)); replace HO_10 := zA (Kd.R_elder' (zq2 HO_10) (Kd.R_base ho0) hb); replace HO_11 := zA (Kd.R_elder' (zq2 HO_11) (Kd.R_base ho0) hb); replace HO127 := zA (Kd.R_elder' (zq2 HO127) (Kd.R_base ho0) hb); replace HB := zA (below_step zq1 hb); (try clear hb); (try clear ho0); obtain ⟨Ao68, co68, eo68⟩ := Kd.R_slice HO131.out; subst eo68) | ((with_reducible refine zgc 29 ?_); refine zca 67 Try.func29 #[.slice Ao34 t117.length co34, .slice Ao68 t129.length co68] (laws_eqInstrS.calls kj19 _ _ t117 _ _ t129 false _ (zq11 HO_11) (zq37 HO_11) (zq11 HO131) (zq37 HO131) A43.out) ?_; rintro e w69 ⟨rfl, hb⟩; refine ⟨_, rfl, ?_⟩; replace HO_10 := zA (zRb (zq2 HO_10) hb); replace HO_11 := zA (zRb (zq2 HO_11) hb); replace HO_12 := zA (zRb (zq2 HO_12) hb); replace HO127 := zA (zRb (zq2 HO127) hb); replace HO131 := zA (zRb (zq2 HO131) hb); replace HB := zA (below_step zq1 hb); (try clear hb)))
   exact zr_3
 subst c44
 replace H := zih H
 replace H := zob H
 obtain ⟨t133, A450, H⟩ := H
 replace H : ((laws_eqIntS.f kj19 t120 t133).bind fun t136 => (if t136 = true then (some true) else (some false))) = some r := H
 have A45 := zA A450
 clear A450
 replace H := zob H
 obtain ⟨t136, A460, H⟩ := H
 replace H : (if t136 = true then (some true) else (some false)) = some r := H
 have A46 := zA A460
 clear A460
 by_cases c47 : t136 = true
 · subst c47
   replace H := zih H
   obtain rfl := zsi H
   go_wp2_with (first | ((with_reducible refine zgc 27 ?_); refine zca 61 Try.func27 #[.slice A0 l0.length c0] (laws_toInstrS.calls kj19 _ _ l0 t125 _ (zq10 HR0) HC0.out A39.out) ?_; rintro e w48 ⟨v126, rfl, ho0, hb⟩; refine ⟨_, rfl, ?_⟩; replace HO_12 := zA (zRb (zq2 HO_12) hb); have HO127 := zA (Kd.R_lower (Kd.R_new' (Kd.R_new' ho0 (Kd.R_lt (zq2 HO_10))) (Kd.R_lt (zq2 HO_11))) (below_size zq1)); replace HO_10 := zA (Kd.R_elder' (zq2 HO_10) (Kd.R_base ho0) hb); replace HO_11 := zA (Kd.R_elder' (zq2 HO_11) (Kd.R_base ho0) hb); replace HB := zA (below_step zq1 hb); (try clear hb); (try clear ho0); obtain ⟨Ao49, co49, eo49⟩ := Kd.R_slice HO127.out; subst eo49) | ((with_reducible refine zgc 29 ?_); refine zca 62 Try.func29 #[.slice Ao33 t114.length co33, .slice Ao49 t125.length co49] (laws_eqInstrS.calls kj19 _ _ t114 _ _ t125 true _ (zq11 HO_10) (zq37 HO_10) (zq11 HO127) (zq37 HO127) A40.out) ?_; rintro e w50 ⟨rfl, hb⟩; refine ⟨_, rfl, ?_⟩; replace HO_10 := zA (zRb (zq2 HO_10) hb); replace HO_11 := zA (zRb (zq2 HO_11) hb); replace HO_12 := zA (zRb (zq2 HO_12) hb); replace HO127 := zA (zRb (zq2 HO127) hb); replace HB := zA (below_step zq1 hb); (try clear hb)) | ((with_reducible refine zgc 27 ?_); refine zca 66 Try.func27 #[.slice A1 l1.length c1] (laws_toInstrS.calls kj19 _ _ l1 t129 _ (zq10 HR1) HC1.out A42.out) ?_; rintro e w51 ⟨v130, rfl, ho0, hb⟩; refine ⟨_, rfl, ?_⟩; replace HO_12 := zA (zRb (zq2 HO_12) hb); have HO131 := zA (Kd.R_lower (Kd.R_new' (Kd.R_new' (Kd.R_new' ho0 (Kd.R_lt (zq2 HO_10))) (Kd.R_lt (zq2 HO_11))) (Kd.R_lt (zq2 HO127))) (below_size zq1)); replace HO_10 := zA (Kd.R_elder' (zq2 HO_10) (Kd.R_base ho0) hb); replace HO_11 := zA (Kd.R_elder' (zq2 HO_11) (Kd.R_base ho0) hb); replace HO127 := zA (Kd.R_elder' (zq2 HO127) (Kd.R_base ho0) hb); replace HB := zA (below_step zq1 hb); (try clear hb); (try clear ho0); obtain ⟨Ao52, co52, eo52⟩ := Kd.R_slice HO131.out; subst eo52) | ((with_reducible refine zgc 29 ?_); refine zca 67 Try.func29 #[.slice Ao34 t117.length co34, .slice Ao52 t129.length co52] (laws_eqInstrS.calls kj19 _ _ t117 _ _ t129 true _ (zq11 HO_11) (zq37 HO_11) (zq11 HO131) (zq37 HO131) A43.out) ?_; rintro e w53 ⟨rfl, hb⟩; refine ⟨_, rfl, ?_⟩; replace HO_10 := zA (zRb (zq2 HO_10) hb); replace HO_11 := zA (zRb (zq2 HO_11) hb); replace HO_12 := zA (zRb (zq2 HO_12) hb); replace HO127 := zA (zRb (zq2 HO127) hb); replace HO131 := zA (zRb (zq2 HO131) hb); replace HB := zA (below_step zq1 hb); (try clear hb)) | ((with_reducible refine zgc 32 ?_); refine zca 71 Try.func32 #[.slice A2 l2.length c2] (laws_toIntS.calls kj19 _ _ l2 t133 _ (zq10 HR2) HC2.out A45.out) ?_; rintro e w54 ⟨v134, rfl, ho0, hb⟩; refine ⟨_, rfl, ?_⟩; replace HO_10 := zA (zRb (zq2 HO_10) hb); replace HO_11 := zA (zRb (zq2 HO_11) hb); replace HO127 := zA (zRb (zq2 HO127) hb); replace HO131 := zA (zRb (zq2 HO131) hb); have HO135 := zA (Kd.R_lower (Kd.R_new' ho0 (Kd.R_lt (zq2 HO_12))) (below_size zq1)); replace HO_12 := zA (Kd.R_elder' (zq2 HO_12) (Kd.R_base ho0) hb); replace HB := zA (below_step zq1 hb); (try clear hb); (try clear ho0); obtain ⟨Ao55, co55, eo55⟩ := Kd.R_slice HO135.out; subst eo55) | ((with_reducible refine zgc 34 ?_); refine zca 72 Try.func34 #[.slice Ao35 t120.length co35, .slice Ao55 t133.length co55] (laws_eqIntS.calls kj19 _ _ t120 _ _ t133 true _ (zq11 HO_12) (zq37 HO_12) (zq11 HO135) (zq37 HO135) A46.out) ?_; rintro e w' ⟨rfl, ⟨nd, rfl⟩⟩; refine ⟨_, rfl, ?_⟩))
   exact zr_3
 replace c47 := zbf c47
 subst c47
 replace H := zif H
 obtain rfl := zsi H
 go_wp2_with (first | ((with_reducible refine zgc 27 ?_); refine zca 61 Try.func27 #[.slice A0 l0.length c0] (laws_toInstrS.calls kj19 _ _ l0 t125 _ (zq10 HR0) HC0.out A39.out) ?_; rintro e w56 ⟨v126, rfl, ho0, hb⟩; refine ⟨_, rfl, ?_⟩; replace HO_12 := zA (zRb (zq2 HO_12) hb); have HO127 := zA (Kd.R_lower (Kd.R_new' (Kd.R_new' ho0 (Kd.R_lt (zq2 HO_10))) (Kd.R_lt (zq2 HO_11))) (below_size zq1)); replace HO_10 := zA (Kd.R_elder' (zq2 HO_10) (Kd.R_base ho0) hb); replace HO_11 := zA (Kd.R_elder' (zq2 HO_11) (Kd.R_base ho0) hb); replace HB := zA (below_step zq1 hb); (try clear hb); (try clear ho0); obtain ⟨Ao57, co57, eo57⟩ := Kd.R_slice HO127.out; subst eo57) | ((with_reducible refine zgc 29 ?_); refine zca 62 Try.func29 #[.slice Ao33 t114.length co33, .slice Ao57 t125.length co57] (laws_eqInstrS.calls kj19 _ _ t114 _ _ t125 true _ (zq11 HO_10) (zq37 HO_10) (zq11 HO127) (zq37 HO127) A40.out) ?_; rintro e w58 ⟨rfl, hb⟩; refine ⟨_, rfl, ?_⟩; replace HO_10 := zA (zRb (zq2 HO_10) hb); replace HO_11 := zA (zRb (zq2 HO_11) hb); replace HO_12 := zA (zRb (zq2 HO_12) hb); replace HO127 := zA (zRb (zq2 HO127) hb); replace HB := zA (below_step zq1 hb); (try clear hb)) | ((with_reducible refine zgc 27 ?_); refine zca 66 Try.func27 #[.slice A1 l1.length c1] (laws_toInstrS.calls kj19 _ _ l1 t129 _ (zq10 HR1) HC1.out A42.out) ?_; rintro e w59 ⟨v130, rfl, ho0, hb⟩; refine ⟨_, rfl, ?_⟩; replace HO_12 := zA (zRb (zq2 HO_12) hb); have HO131 := zA (Kd.R_lower (Kd.R_new' (Kd.R_new' (Kd.R_new' ho0 (Kd.R_lt (zq2 HO_10))) (Kd.R_lt (zq2 HO_11))) (Kd.R_lt (zq2 HO127))) (below_size zq1)); replace HO_10 := zA (Kd.R_elder' (zq2 HO_10) (Kd.R_base ho0) hb); replace HO_11 := zA (Kd.R_elder' (zq2 HO_11) (Kd.R_base ho0) hb); replace HO127 := zA (Kd.R_elder' (zq2 HO127) (Kd.R_base ho0) hb); replace HB := zA (below_step zq1 hb); (try clear hb); (try clear ho0); obtain ⟨Ao60, co60, eo60⟩ := Kd.R_slice HO131.out; subst eo60) | ((with_reducible refine zgc 29 ?_); refine zca 67 Try.func29 #[.slice Ao34 t117.length co34, .slice Ao60 t129.length co60] (laws_eqInstrS.calls kj19 _ _ t117 _ _ t129 true _ (zq11 HO_11) (zq37 HO_11) (zq11 HO131) (zq37 HO131) A43.out) ?_; rintro e w61 ⟨rfl, hb⟩; refine ⟨_, rfl, ?_⟩; replace HO_10 := zA (zRb (zq2 HO_10) hb); replace HO_11 := zA (zRb (zq2 HO_11) hb); replace HO_12 := zA (zRb (zq2 HO_12) hb); replace HO127 := zA (zRb (zq2 HO127) hb); replace HO131 := zA (zRb (zq2 HO131) hb); replace HB := zA (below_step zq1 hb); (try clear hb)) | ((with_reducible refine zgc 32 ?_); refine zca 71 Try.func32 #[.slice A2 l2.length c2] (laws_toIntS.calls kj19 _ _ l2 t133 _ (zq10 HR2) HC2.out A45.out) ?_; rintro e w62 ⟨v134, rfl, ho0, hb⟩; refine ⟨_, rfl, ?_⟩; replace HO_10 := zA (zRb (zq2 HO_10) hb); replace HO_11 := zA (zRb (zq2 HO_11) hb); replace HO127 := zA (zRb (zq2 HO127) hb); replace HO131 := zA (zRb (zq2 HO131) hb); have HO135 := zA (Kd.R_lower (Kd.R_new' ho0 (Kd.R_lt (zq2 HO_12))) (below_size zq1)); replace HO_12 := zA (Kd.R_elder' (zq2 HO_12) (Kd.R_base ho0) hb); replace HB := zA (below_step zq1 hb); (try clear hb); (try clear ho0); obtain ⟨Ao63, co63, eo63⟩ := Kd.R_slice HO135.out; subst eo63) | ((with_reducible refine zgc 34 ?_); refine zca 72 Try.func34 #[.slice Ao35 t120.length co35, .slice Ao63 t133.length co63] (laws_eqIntS.calls kj19 _ _ t120 _ _ t133 false _ (zq11 HO_12) (zq37 HO_12) (zq11 HO135) (zq37 HO135) A46.out) ?_; rintro e w' ⟨rfl, ⟨nd, rfl⟩⟩; refine ⟨_, rfl, ?_⟩))
 exact zr_3
end Go.Proofs.Ytkfkbmlbpeojaaa.Q
end
section
namespace Go.Proofs.Ytkfkbmlbpeojaaa.Rd
open Go Go.RowKit Go.Proofs.YtkfkbmlbpeojaaaW.PrintWords Go.Proofs.YtkfkbmlbpeojaaaW.PrintLast Go.ChangeShapes Go.WideShapes Go.Deep
set_option linter.unusedSimpArgs false
set_option linter.unusedVariables false
structure RdK {α : Type} (d : Kd α) (P : Program) (t : TypeId) (Good : α → Prop) : Prop where
  size : P.cellsOf t = d.sz
  get : ∀ {H : Type} {enc : TypeId × Value → H} {w : World} {n : Nat} {cs : List Value} {x : DataW H × List MemPlace}, DataW.trod enc P w 0 (fun _ => true) true n t cs = some x → ∃ a, d.K w a cs ∧ Good a
def okInt (k : IntKind) (n : Int) : Prop := (Lit.int k n).wf = true
def okStr (s : ByteArray) : Prop := s.size ≤ maxLen
def okSl {α : Type} (G : α → Prop) (xs : List α) : Prop := xs.length ≤ maxLen ∧ ∀ x ∈ xs, G x
theorem rk_int {P : Program} {t : TypeId} {k : IntKind} (ht : P.underlying t = some (.int k)) (hs : P.cellsOf t = 1) : RdK (Kd.int k) P t (okInt k) :=
  ⟨hs, fun h => by obtain ⟨n, rfl, _, hw⟩ := DataW.trod_int ht h; exact ⟨n, rfl, hw⟩⟩
theorem rk_string {P : Program} {t : TypeId} (ht : P.underlying t = some .string) (hs : P.cellsOf t = 1) : RdK Kd.string P t okStr :=
  ⟨hs, fun h => by obtain ⟨n, rfl, _, hw⟩ := DataW.trod_string ht h; exact ⟨n, rfl, hw⟩⟩
theorem rk_slice {α : Type} {d : Kd α} {P : Program} {t e : TypeId} {G : α → Prop} (hd : RdK d P e G) (ht : P.underlying t = some (.slice e)) (hs : P.cellsOf t = 1) : RdK (Kd.slice e d) P t (okSl G) := by
  refine ⟨hs, fun {H enc w n cs x} h => ?_⟩
  rcases open_slice ht h with ⟨rfl, _⟩ | ⟨a, len, cap, m, n', D, Pl, rfl, _, hl, hm, hmm, _, hx⟩
  · exact ⟨[], ⟨none, 0, rfl, Nat.le_refl _, rfl, Nat.zero_le _, fun h => absurd h (Nat.lt_irrefl 0)⟩, Nat.zero_le _, fun _ h => by cases h⟩
  · have hc : m = cap := by simpa using hmm
    subst hc
    have key : ∀ i : Fin len, ∃ a' : α, ∃ cs', d.K w a' cs' ∧ G a' ∧ w.cells? 0 (a.add (i * P.cellsOf e)) (P.cellsOf e) = some cs' := fun i => by
      obtain ⟨cs', h1, h2⟩ := hx i (by omega)
      obtain ⟨a', h3, h4⟩ := hd.get h2
      exact ⟨a', cs', h3, h4, h1⟩
    have hlen : (List.ofFn fun i => Classical.choose (key i)).length = len := List.length_ofFn
    refine ⟨List.ofFn fun i => Classical.choose (key i), ⟨some a, m, by rw [hlen], by omega, hlen.trans hlen.symm, ?_, fun _ => ⟨a, rfl, fun j p hj => ?_⟩⟩, by rw [hlen]; omega, fun y hy => ?_⟩
    · rw [hlen]; unfold maxLen at hm; omega
    · have hjl : j < len := by
        have := (List.getElem?_eq_some_iff.1 hj).1
        rwa [hlen] at this
      rw [List.getElem?_ofFn, dif_pos hjl, Option.some.injEq] at hj
      obtain ⟨cs', h1, h2, h3⟩ := Classical.choose_spec (key ⟨j, hjl⟩)
      rw [hj] at h1 h2
      obtain ⟨_, h5, h6⟩ := World.cells?_some h3
      refine ⟨cs', d.K_len h1, h1, fun i u hi => ?_⟩
      have hil : i < P.cellsOf e := by
        have := (List.getElem?_eq_some_iff.1 hi).1
        omega
      have := h6 i hil
      rw [Go.Deep.add_add] at this
      rw [← hd.size]
      exact this.trans hi
    · obtain ⟨i, rfl⟩ := List.mem_ofFn.1 hy
      obtain ⟨cs', h1, h2, h3⟩ := Classical.choose_spec (key i)
      exact h2
structure RdF {α : Type} (d : Kd α) (P : Program) (fs : List Field) (off : Nat) (Good : α → Prop) : Prop where
  get : ∀ {H : Type} {enc : TypeId × Value → H} {w : World} {n : Nat} {cs : List Value}, cs.length = off + d.sz →
    (∀ f ∈ fs, ∃ y, DataW.trod enc P w 0 (fun _ => true) true n f.type ((cs.drop f.offset).take (P.cellsOf f.type)) = some y) → ∃ a, d.K w a (cs.drop off) ∧ Good a
theorem rf_one {α : Type} {d : Kd α} {P : Program} {f : Field} {G : α → Prop} (hd : RdK d P f.type G) : RdF d P [f] f.offset G := by
  refine ⟨fun {H enc w n cs} hl h => ?_⟩
  obtain ⟨y, hy⟩ := h f (List.mem_singleton.2 rfl)
  rw [hd.size, List.take_of_length_le (by rw [List.length_drop]; omega)] at hy
  exact hd.get hy
theorem rf_cons {α β : Type} {d : Kd α} {d' : Kd β} {P : Program} {f : Field} {fs : List Field} {G : α → Prop} {G' : β → Prop} {off' : Nat} (hd : RdK d P f.type G) (ho : off' = f.offset + d.sz) (hf : RdF d' P fs off' G') :
    RdF (Kd.pair d d') P (f :: fs) f.offset (fun x => G x.1 ∧ G' x.2) := by
  refine ⟨fun {H enc w n cs} hl h => ?_⟩
  have hl' : cs.length = f.offset + (d.sz + d'.sz) := hl
  obtain ⟨y, hy⟩ := h f List.mem_cons_self
  rw [hd.size] at hy
  obtain ⟨a, h1, h2⟩ := hd.get hy
  obtain ⟨b, h3, h4⟩ := hf.get (cs := cs) (by omega) (fun g hg => h g (List.mem_cons_of_mem _ hg))
  refine ⟨(a, b), ⟨_, _, ?_, h1, h3⟩, h2, h4⟩
  rw [ho, ← List.drop_drop, List.take_append_drop]
theorem rk_struct {α : Type} {d : Kd α} {P : Program} {t : TypeId} {fs : Array Field} {G : α → Prop} (ht : P.underlying t = some (.struct fs)) (hs : P.cellsOf t = d.sz) (hf : RdF d P fs.toList 0 G) : RdK d P t G := by
  refine ⟨hs, fun {H enc w n cs x} h => ?_⟩
  obtain ⟨xs, n', _, _, hl, hlen, hg⟩ := DataW.trod_struct ht h
  have := hf.get (cs := cs) (enc := enc) (w := w) (n := n') (by omega) (fun f hf' => by
    obtain ⟨i, hi, he⟩ := List.getElem_of_mem hf'
    have h1 : fs[i]? = some f := by rw [← Array.getElem?_toList, List.getElem?_eq_getElem hi, he]
    have h2 := hg i f h1
    rw [List.getElem?_eq_getElem (by rw [hlen]; simpa using hi)] at h2
    exact ⟨_, h2⟩)
  simpa using this
theorem rk_iso {α β : Type} {d : Kd α} {P : Program} {t : TypeId} {G : α → Prop} (hd : RdK d P t G) (f : β → α) (g : α → β) (hfg : ∀ a, f (g a) = a) : RdK (Kd.iso d f) P t (fun b => G (f b)) := by
  refine ⟨hd.size, fun {H enc w n cs x} h => ?_⟩
  obtain ⟨a, h1, h2⟩ := hd.get h
  exact ⟨g a, by show d.K w (f (g a)) cs; rw [hfg]; exact h1, by rw [hfg]; exact h2⟩
theorem arg_slice {α : Type} {d : Kd α} {P : Program} {t e : TypeId} {G : α → Prop} (hd : RdK (Kd.slice e d) P t (okSl G)) {H : Type} {enc : TypeId × Value → H} {w : World} {a : Option Addr} {len cap : Nat} {x : DataW H} {ps : List MemPlace}
    (h : DataW.Trod enc P w 0 (fun _ => true) true t (.slice a len cap) x ps) : ∃ xs : List α, len = xs.length ∧ xs.length ≤ cap ∧ Kd.C d w a xs.length xs ∧ okSl G xs := by
  obtain ⟨n, hn⟩ := h
  obtain ⟨xs, ⟨A, c, he, hl, hc⟩, hg⟩ := hd.get hn
  simp [Value.cells] at he
  obtain ⟨rfl, rfl, rfl⟩ := he
  exact ⟨xs, rfl, hl, hc, hg⟩
end Go.Proofs.Ytkfkbmlbpeojaaa.Rd
end
section
namespace Go.Proofs.Ytkfkbmlbpeojaaa.Q
open Go.RowKit Go.Proofs.YtkfkbmlbpeojaaaW.PrintWords Go.Proofs.YtkfkbmlbpeojaaaW.PrintLast Go.Proofs.YtkfkbmlbpeojaaaW.PrintMore
attribute [local go_sem] max2_int min2_int max_two min_two max_three min_three max_four min_four
set_option linter.unusedVariables false
set_option linter.unusedSimpArgs false
def good93 (x : S93) : Prop := Rd.okStr x.f0 ∧ (Rd.okInt .i64) x.f1 ∧ (Rd.okInt .i64) x.f2 ∧ (Rd.okInt .i64) x.f3 ∧ (Rd.okInt .i64) x.f4
theorem rd93 : Rd.RdK k93 Try.prog 93 good93 :=
  Rd.rk_iso (Rd.rk_struct Try.underlying93 (by kernel_rfl) (Rd.rf_cons (Rd.rk_string Try.underlying9 (by kernel_rfl)) rfl (Rd.rf_cons (Rd.rk_int Try.underlying3 (by kernel_rfl)) rfl (Rd.rf_cons (Rd.rk_int Try.underlying3 (by kernel_rfl)) rfl (Rd.rf_cons (Rd.rk_int Try.underlying3 (by kernel_rfl)) rfl (Rd.rf_one (Rd.rk_int Try.underlying3 (by kernel_rfl)))))))) (fun x : S93 => (x.f0, x.f1, x.f2, x.f3, x.f4)) (fun p => ⟨p.1, p.2.1, p.2.2.1, p.2.2.2.1, p.2.2.2.2⟩) (fun _ => rfl)
def laws_FnExactAreAlike.Pure : Prop := ∀ (a0 : List (S93)) (a1 : List (S93)) (a2 : List Int), (Rd.okSl good93) a0 → (Rd.okSl good93) a1 → (Rd.okSl (Rd.okInt .i64)) a2 → ∃ k, laws_FnExactAreAlike.f k a0 a1 a2 = some true
end Go.Proofs.Ytkfkbmlbpeojaaa.Q
end
section
namespace Go.Proofs.Ytkfkbmlbpeojaaa.PL
open Go Go.RowKit Go.Proofs.YtkfkbmlbpeojaaaW.PrintWords Go.Proofs.YtkfkbmlbpeojaaaW.PrintLast Go.Proofs.YtkfkbmlbpeojaaaW.PrintMore Go.Proofs.Ytkfkbmlbpeojaaa.Q
set_option linter.unusedSimpArgs false
set_option linter.unusedVariables false
theorem w64 {x : Int} (h1 : -9223372036854775808 ≤ x) (h2 : x < 9223372036854775808) : wrap64 x = x := by unfold wrap64; omega
theorem w64n (i : Nat) (h : i < 4611686018427387904) : wrap64 ((i : Int) + 1) = ((i + 1 : Nat) : Int) := by unfold wrap64; omega
theorem Ev.some {α : Type} {a r : α} (h : a = r) : Ev (fun _ => some a) r := h ▸ Ev.now a
theorem Ev.const {α : Type} {g : Option α} {r : α} (h : g = Option.some r) : Ev (fun _ => g) r := by rw [h]; exact Ev.now r
theorem ev_eq {α : Type} {g : Nat → Option α} {r s : α} (h : Ev g r) (e : r = s) : Ev g s := e ▸ h
theorem Ev.uniq {α : Type} {g : Nat → Option α} {r s : α} (h : Ev g r) (h' : Ev g s) : r = s := by
  obtain ⟨K, h⟩ := h
  obtain ⟨K', h'⟩ := h'
  have h1 := h (max K K') (by omega)
  have h2 := h' (max K K') (by omega)
  rw [h1] at h2
  exact Option.some.inj h2
theorem Ev.ifp {α : Type} {c : Prop} [Decidable c] {g g' : Nat → Option α} {r : α} (h : c) (H : Ev g r) : Ev (fun k => if c then g k else g' k) r := Ev.congr (fun _ => if_pos h) H
theorem Ev.ifn {α : Type} {c : Prop} [Decidable c] {g g' : Nat → Option α} {r : α} (h : ¬ c) (H : Ev g' r) : Ev (fun k => if c then g k else g' k) r := Ev.congr (fun _ => if_neg h) H
theorem Ev.call {α β : Type} {g : Option α} {f : Nat → α → Option β} {a : α} {r : β} (h : g = Option.some a) (k : Ev (fun n => f n a) r) : Ev (fun n => g.bind (f n)) r := by
  rw [h]; exact k
theorem loop_up {σ ρ : Type} (n : Nat) (L : Nat → σ → Int → Option ρ) (M : Nat → σ → ρ) (hend : ∀ s, Ev (fun k => L k s n) (M n s))
    (hstep : ∀ (i : Nat) s, i < n → (∀ s', Ev (fun k => L k s' ((i + 1 : Nat) : Int)) (M (i + 1) s')) → Ev (fun k => L k s i) (M i s)) :
    ∀ (d i : Nat) s, i + d = n → Ev (fun k => L k s i) (M i s)
  | 0, i, s, h => by
    have e : i = n := by omega
    rw [e]
    exact hend s
  | d + 1, i, s, h => hstep i s (by omega) (fun s' => loop_up n L M hend hstep d (i + 1) s' (by omega))
theorem loop_list {α σ ρ : Type} (xs : List α) (L : Nat → σ → Int → Option ρ) (m : List α → σ → ρ) (hend : ∀ s, Ev (fun k => L k s (xs.length : Nat)) (m [] s))
    (hstep : ∀ (i : Nat) s x rest, i < xs.length → (∀ d, xs.getD i d = x) → (∀ s', Ev (fun k => L k s' ((i + 1 : Nat) : Int)) (m rest s')) → Ev (fun k => L k s i) (m (x :: rest) s)) (s : σ) :
    Ev (fun k => L k s 0) (m xs s) := by
  have := loop_up xs.length L (fun i s => m (xs.drop i) s) (fun s => by simpa using hend s) (fun i s hi ih => by
    have e : xs.drop i = xs[i] :: xs.drop (i + 1) := List.drop_eq_getElem_cons hi
    show Ev (fun k => L k s i) (m (xs.drop i) s)
    rw [e]
    exact hstep i s xs[i] _ hi (fun d => by simp [List.getD, List.getElem?_eq_getElem hi]) ih) xs.length 0 s (by omega)
  simpa using this
def idx {α : Type} (p : α → Bool) : List α → Int
  | [] => -1
  | x :: xs => if p x = true then 0 else if idx p xs < 0 then -1 else idx p xs + 1
theorem idx_nonneg {α : Type} (p : α → Bool) (xs : List α) : 0 ≤ idx p xs ↔ ∃ x ∈ xs, p x = true := by
  induction xs with
  | nil => simp [idx]
  | cons x xs ih =>
    unfold idx
    by_cases h : p x = true
    · simp [h]
    · by_cases h2 : idx p xs < 0
      · rw [if_neg h, if_pos h2]
        have : ¬ ∃ x ∈ xs, p x = true := fun e => by have := ih.2 e; omega
        simp [h]
        simpa using this
      · rw [if_neg h, if_neg h2]
        have := ih.1 (by omega)
        simp [h]
        exact ⟨fun _ => this, fun _ => by omega⟩
theorem idx_ge {α : Type} (p : α → Bool) (xs : List α) : -1 ≤ idx p xs := by
  induction xs with
  | nil => unfold idx; simp
  | cons x xs ih => unfold idx; split; · decide
                    · split <;> omega
theorem idx_lt {α : Type} (p : α → Bool) (xs : List α) : idx p xs < xs.length := by
  induction xs with
  | nil => unfold idx; simp
  | cons x xs ih => unfold idx; simp only [List.length_cons]; split; · omega
                    · split <;> omega
theorem search_ev {α : Type} (xs : List α) (p : α → Bool) (L : Nat → Int → Option Int) (hend : Ev (fun k => L k (xs.length : Nat)) (-1))
    (hyes : ∀ (i : Nat) x, i < xs.length → (∀ d, xs.getD i d = x) → p x = true → Ev (fun k => L k i) (i : Int))
    (hno : ∀ (i : Nat) x r, i < xs.length → (∀ d, xs.getD i d = x) → p x = false → Ev (fun k => L k ((i + 1 : Nat) : Int)) r → Ev (fun k => L k i) r) : Ev (fun k => L k 0) (idx p xs) := by
  have key : ∀ (d i : Nat), i + d = xs.length → Ev (fun k => L k i) (if idx p (xs.drop i) < 0 then -1 else idx p (xs.drop i) + i) := by
    intro d
    induction d with
    | zero =>
      intro i hi
      rw [List.drop_of_length_le (by omega), if_pos (show idx p [] < 0 by unfold idx; decide)]
      have e : i = xs.length := by omega
      rw [e]; exact hend
    | succ d ih =>
      intro i hi
      have hlt : i < xs.length := by omega
      have e : xs.drop i = xs[i] :: xs.drop (i + 1) := List.drop_eq_getElem_cons hlt
      have hg : ∀ d, xs.getD i d = xs[i] := fun d => by simp [List.getD, List.getElem?_eq_getElem hlt]
      rw [e]
      unfold idx
      by_cases h : p xs[i] = true
      · rw [if_pos h, if_neg (by decide)]
        simpa using hyes i _ hlt hg h
      · refine hno i _ _ hlt hg (by simpa using h) (ev_eq (ih (i + 1) (by omega)) ?_)
        rw [if_neg h]
        by_cases h2 : idx p (xs.drop (i + 1)) < 0
        · rw [if_pos h2, if_pos h2, if_pos (by decide)]
        · rw [if_neg h2, if_neg h2, if_neg (by omega)]
          omega
  have := key xs.length 0 (by omega)
  simp only [List.drop_zero, Int.natCast_zero, Int.add_zero] at this
  refine ev_eq this ?_
  have := idx_ge p xs
  split <;> omega
theorem all_ev {α : Type} (xs : List α) (p : α → Bool) (L : Nat → Int → Option Bool) (hend : Ev (fun k => L k (xs.length : Nat)) true)
    (hno : ∀ (i : Nat) x, i < xs.length → (∀ d, xs.getD i d = x) → p x = false → Ev (fun k => L k i) false)
    (hyes : ∀ (i : Nat) x r, i < xs.length → (∀ d, xs.getD i d = x) → p x = true → Ev (fun k => L k ((i + 1 : Nat) : Int)) r → Ev (fun k => L k i) r) : Ev (fun k => L k 0) (xs.all p) := by
  refine loop_list (σ := Unit) xs (fun k _ i => L k i) (fun l _ => l.all p) (fun _ => hend) (fun i _ x rest hi hx ih => ?_) ()
  by_cases h : p x = true
  · exact hyes i x _ hi hx h (ev_eq (ih ()) (by simp [h]))
  · have h' : p x = false := by simpa using h
    exact ev_eq (hno i x hi hx h') (by simp [h'])
theorem rd_eq {xs : List Int} {i : Nat} {x : Int} (h : ∀ d, xs.getD i d = x) : rd xs i = x := by unfold rd; rw [Int.toNat_natCast]; exact h 0
theorem rdOf_eq {α : Type} {d0 : α} {xs : List α} {i : Nat} {x : α} (h : ∀ d, xs.getD i d = x) : rdOf d0 xs i = x := by unfold rdOf; rw [Int.toNat_natCast]; exact h d0
theorem rdI_eq {xs : List S94} {i : Nat} {x : S94} (h : ∀ d, xs.getD i d = x) : rd_T94 xs i = x := by unfold rd_T94; rw [Int.toNat_natCast]; exact h _
theorem rdJ_eq {xs : List S93} {i : Nat} {x : S93} (h : ∀ d, xs.getD i d = x) : rd_T93 xs i = x := by unfold rd_T93; rw [Int.toNat_natCast]; exact h _
theorem getD_eq {α : Type} (xs : List α) (i : Nat) (h : i < xs.length) : ∀ d, xs.getD i d = xs[i] := fun d => by simp [List.getD, List.getElem?_eq_getElem h]
theorem set_fill {α : Type} (xs ys : List α) (z : α) (v : α) : (xs ++ List.replicate (ys.length + 1) z).set xs.length v = (xs ++ [v]) ++ List.replicate ys.length z := by
  rw [List.set_append_right _ _ (Nat.le_refl _)]
  simp [List.replicate_succ]
abbrev Instr := S94
abbrev LInstr := S93
def cvI (x : LInstr) : Instr := ⟨x.f0, x.f1, x.f2, x.f3, x.f4⟩
theorem szInstr_eq (s : ByteArray) (a b c d r : Int) (hs : s.size ≤ maxLen) (h0 : 0 ≤ r) (h1 : r ≤ 1048576) : laws_szInstr.f s a b c d r = some (if r < s.size then -1 else r - s.size) := by
  unfold maxLen at hs
  unfold laws_szInstr.f
  rw [w64 (by omega) (by omega)]
  by_cases h : r < s.size
  · rw [if_pos (by omega), if_pos h]
  · rw [if_neg (by omega), if_neg h]
theorem szInstrS_ev (l : List LInstr) (a : Int) (hl : Rd.okSl good93 l) (h0 : 0 ≤ a) (h1 : a ≤ 1048576) :
    ∃ r, Ev (fun k => laws_szInstrS.f k l a) r ∧ (0 ≤ r → (l.length : Int) ≤ a ∧ (∀ x ∈ l, (x.f0.size : Int) ≤ a) ∧ r ≤ a) := by
  obtain ⟨hl1, hl2⟩ := hl
  unfold maxLen at hl1
  by_cases h : a < l.length
  · refine ⟨-1, ?_, fun h => absurd h (by decide)⟩
    unfold laws_szInstrS.f
    rw [w64 (by omega) (by omega)]
    simp only [show a - (l.length : Int) < 0 by omega, if_true]
    exact Ev.now _
  · have key : ∀ (d i : Nat) (r : Int), i + d = l.length → 0 ≤ r → r ≤ a → ∃ q, Ev (fun k => laws_szInstrS.l0 k l r i) q ∧ q ≤ a ∧ (0 ≤ q → ∀ x ∈ l.drop i, (x.f0.size : Int) ≤ a) := by
      intro d
      induction d with
      | zero =>
        intro i r hi hr _
        refine ⟨r, Ev.step (f := fun _ => some r) (fun k => ?_) (Ev.now _), by omega, fun _ x hx => ?_⟩
        · simp only [laws_szInstrS.l0]
          rw [if_neg (by omega)]
        · rw [List.drop_of_length_le (by omega)] at hx
          cases hx
      | succ d ih =>
        intro i r hi hr hra
        have hlt : i < l.length := by omega
        have e : l.drop i = l[i] :: l.drop (i + 1) := List.drop_eq_getElem_cons hlt
        have hx := rdJ_eq (getD_eq l i hlt)
        have hsz := (hl2 l[i] (List.getElem_mem hlt)).1
        by_cases hb : r < l[i].f0.size
        · refine ⟨-1, Ev.step (f := fun _ => some (-1)) (fun k => ?_) (Ev.now _), by omega, fun h => absurd h (by decide)⟩
          simp only [laws_szInstrS.l0]
          rw [if_pos (by omega), if_pos (by omega), hx, szInstr_eq _ _ _ _ _ _ hsz hr (by omega), if_pos hb]
          rfl
        · obtain ⟨q, hq, hqa, hq'⟩ := ih (i + 1) (r - l[i].f0.size) (by omega) (by omega) (by omega)
          refine ⟨q, Ev.step (f := fun k => laws_szInstrS.l0 k l (r - l[i].f0.size) ((i + 1 : Nat) : Int)) (fun k => ?_) hq, hqa, fun h x hx' => ?_⟩
          · simp only [laws_szInstrS.l0]
            rw [if_pos (by omega), if_pos (by omega), hx, szInstr_eq _ _ _ _ _ _ hsz hr (by omega), if_neg hb, Option.bind_some, if_neg (by omega), w64n i (by omega)]
          · rw [e] at hx'
            rcases List.mem_cons.1 hx' with rfl | hx'
            · omega
            · exact hq' h x hx'
    obtain ⟨q, hq, hqa, hq'⟩ := key l.length 0 (a - l.length) (by omega) (by omega) (by omega)
    refine ⟨q, ?_, fun h' => ⟨by omega, by simpa using hq' h', hqa⟩⟩
    unfold laws_szInstrS.f
    rw [w64 (by omega) (by omega)]
    simp only [show ¬ (a - (l.length : Int) < 0) by omega, if_false]
    simpa using hq
theorem toInstrS_ev (l : List LInstr) (hl : l.length ≤ 1048576) : Ev (fun k => laws_toInstrS.f k l) (l.map cvI) := by
  have key : ∀ (d i : Nat), i + d = l.length → Ev (fun k => laws_toInstrS.l0 k l ((l.take i).map cvI ++ List.replicate d z94) i) (l.map cvI) := by
    intro d
    induction d with
    | zero =>
      intro i hi
      refine Ev.step (f := fun _ => some _) (fun k => ?_) (Ev.now _)
      simp only [laws_toInstrS.l0]
      rw [if_neg (by omega), List.take_of_length_le (by omega)]
      simp
    | succ d ih =>
      intro i hi
      have hlt : i < l.length := by omega
      have hx := rdJ_eq (getD_eq l i hlt)
      refine Ev.step (fun k => ?_) (ih (i + 1) (by omega))
      simp only [laws_toInstrS.l0, laws_toInstr.f, Option.bind_some]
      rw [if_pos (by omega), if_pos (by omega), if_pos (by simp; omega), hx, w64n i (by omega)]
      congr 1
      have e : ((i : Int)).toNat = ((l.take i).map cvI).length := by simp; omega
      rw [e]
      have := set_fill ((l.take i).map cvI) (List.replicate d z94) z94 (cvI l[i])
      simp only [List.length_replicate] at this
      rw [show (⟨l[i].f0, l[i].f1, l[i].f2, l[i].f3, l[i].f4⟩ : Instr) = cvI l[i] from rfl, this]
      congr 1
      rw [List.take_succ_eq_append_getElem hlt, List.map_append]
      rfl
  unfold laws_toInstrS.f
  refine Ev.ifp (by omega) (Ev.ifp (by simp; omega) ?_)
  simpa using key l.length 0 (by omega)
theorem toIntS_ev (l : List Int) (hl : l.length ≤ 1048576) : Ev (fun k => laws_toIntS.f k l) l := by
  have key : ∀ (d i : Nat), i + d = l.length → Ev (fun k => laws_toIntS.l0 k l (l.take i ++ List.replicate d 0) i) l := by
    intro d
    induction d with
    | zero =>
      intro i hi
      refine Ev.step (f := fun _ => some _) (fun k => ?_) (Ev.now _)
      simp only [laws_toIntS.l0]
      rw [if_neg (by omega), List.take_of_length_le (by omega)]
      simp
    | succ d ih =>
      intro i hi
      have hlt : i < l.length := by omega
      have hx := rd_eq (getD_eq l i hlt)
      refine Ev.step (fun k => ?_) (ih (i + 1) (by omega))
      simp only [laws_toIntS.l0]
      rw [if_pos (by omega), if_pos (by omega), if_pos (by simp; omega), hx, w64n i (by omega)]
      congr 1
      have e : ((i : Int)).toNat = (l.take i).length := by simp; omega
      rw [e]
      have := set_fill (l.take i) (List.replicate d (0 : Int)) 0 l[i]
      simp only [List.length_replicate] at this
      rw [this]
      congr 1
      rw [List.take_succ_eq_append_getElem hlt]
  unfold laws_toIntS.f
  refine Ev.ifp (by omega) (Ev.ifp (by simp; omega) ?_)
  simpa using key l.length 0 (by omega)
theorem eqInstrS_refl (l : List Instr) (hl : l.length ≤ 1048576) : Ev (fun k => laws_eqInstrS.f k l l) true := by
  unfold laws_eqInstrS.f
  simp only [if_true]
  refine loop_list (σ := Unit) l (fun k _ i => laws_eqInstrS.l0 k l l i) (fun _ _ => true) (fun _ => ?_) (fun i _ x rest hi hx ih => ?_) ()
  · refine Ev.step (f := fun _ => some true) (fun k => ?_) (Ev.now _)
    simp only [laws_eqInstrS.l0]
    rw [if_neg (by omega)]
  · refine Ev.step (fun k => ?_) (ih ())
    simp only [laws_eqInstrS.l0, laws_eqInstr.f, reduceIte, Option.bind_some]
    rw [if_pos (by omega), if_pos (by omega), w64n i (by omega), if_pos (by omega)]
theorem eqIntS_refl (l : List Int) (hl : l.length ≤ 1048576) : Ev (fun k => laws_eqIntS.f k l l) true := by
  unfold laws_eqIntS.f
  simp only [if_true]
  refine loop_list (σ := Unit) l (fun k _ i => laws_eqIntS.l0 k l l i) (fun _ _ => true) (fun _ => ?_) (fun i _ x rest hi hx ih => ?_) ()
  · refine Ev.step (f := fun _ => some true) (fun k => ?_) (Ev.now _)
    simp only [laws_eqIntS.l0]
    rw [if_neg (by omega)]
  · refine Ev.step (fun k => ?_) (ih ())
    simp only [laws_eqIntS.l0, if_true]
    rw [if_pos (by omega), if_pos (by omega), w64n i (by omega), if_pos (by omega)]
def shapeC (c : Nat) : Bool × Bool × Bool × Int × Int :=
  match c with
  | 0 => (true, false, false, 0, 63)
  | 1 => (true, true, false, 0, 0)
  | 2 => (true, true, true, 0, 0)
  | 3 => (true, true, true, 0, 0)
  | 4 => (true, true, true, 0, 0)
  | 5 => (true, true, false, 0, 63)
  | 6 => (true, true, false, 1, 5)
  | 7 => (true, true, true, 1, 3)
  | _ => (false, false, false, 0, 0)
theorem shape_closed : ∀ p ∈ ops, spec_cdShape.f 20 p.1 = some (shapeC p.2) := by decide +kernel
theorem formOf_eq (s : ByteArray) : impl_formOf.f s = some (formC (cls s) s) := rfl
theorem shape_ev (s : ByteArray) : Ev (fun k => spec_cdShape.f k s) (shapeC (cls s)) := by
  refine op_cases (P := fun s => Ev (fun k => spec_cdShape.f k s) (shapeC (cls s))) s (fun p hp => ?_) (fun h => ?_)
  · rw [cls_op p hp]
    exact Ev.of (spec_cdShape.mono _) (shape_closed p hp)
  · rw [cls_none h]
    obtain ⟨h0, h1, h2, h3, h4, h5, h6, h7, h8, h9, h10, h11, h12, h13, h14, h15, h16, h17, h18, h19⟩ := not_ops h
    refine Ev.of (spec_cdShape.mono _) (k := 5) ?_
    simp only [spec_cdShape.f, spec_cdShape.j0, spec_cdShape.j1, spec_cdShape.j2, spec_cdShape.j3, h0, h1, h2, h3, h4, h5, h6, h7, h8, h9, h10, h11, h12, h13, h14, h15, h16, h17, h18, h19, if_false, beq_iff_eq]
    rfl
theorem within_eq (a b c : Int) : impl_within.f a b c = some (decide (b ≤ a ∧ a ≤ c)) := by
  unfold impl_within.f
  by_cases h : b ≤ a <;> simp [h]
theorem l1In_eq (a b c : Int) : spec_l1In.f a b c = some (decide (b ≤ a ∧ a ≤ c)) := by
  unfold spec_l1In.f
  by_cases h : a ≥ b
  · rw [if_pos h]; congr 1; rw [decide_eq_decide]; omega
  · rw [if_neg h]; congr 1; symm; rw [decide_eq_false_iff_not]; omega
theorem isRegister_eq (a : Int) : impl_isRegister.f a = some (decide (0 ≤ a ∧ a ≤ 5)) := by
  unfold impl_isRegister.f
  rw [within_eq]; rfl
theorem cdReg_eq (a : Int) : spec_cdReg.f a = some (decide (0 ≤ a ∧ a ≤ 5)) := by
  unfold spec_cdReg.f
  rw [l1In_eq]; rfl
def okI (x : Instr) : Prop := cls x.f0 ≠ 8 ∧ (0 ≤ x.f1 ∧ x.f1 ≤ 5) ∧ ((shapeC (cls x.f0)).2.1 = true ∧ 0 ≤ x.f2 ∧ x.f2 ≤ 5 ∨ x.f2 = 0) ∧ ((shapeC (cls x.f0)).2.2.1 = true ∧ 0 ≤ x.f3 ∧ x.f3 ≤ 5 ∨ x.f3 = 0) ∧ (shapeC (cls x.f0)).2.2.2.1 ≤ x.f4 ∧ x.f4 ≤ (shapeC (cls x.f0)).2.2.2.2
instance (x : Instr) : Decidable (okI x) := by unfold okI; infer_instance
theorem cls_le (s : ByteArray) : cls s ≤ 8 := by
  refine op_cases (P := fun s => cls s ≤ 8) s (by decide +kernel) (fun h => by rw [cls_none h]; exact Nat.le_refl _)
theorem cls_cases (s : ByteArray) : cls s = 0 ∨ cls s = 1 ∨ cls s = 2 ∨ cls s = 3 ∨ cls s = 4 ∨ cls s = 5 ∨ cls s = 6 ∨ cls s = 7 ∨ cls s = 8 := by have := cls_le s; omega
theorem isInstr_eq (x : Instr) : impl_IsInstr.f x.f0 x.f1 x.f2 x.f3 x.f4 = some (decide (okI x)) := by
  unfold impl_IsInstr.f
  congr 1
  obtain ⟨s, d, a, b, m⟩ := x
  simp only [okI]
  rw [Bool.eq_iff_iff]
  simp only [okF, Bool.and_eq_true, Bool.or_eq_true, decide_eq_true_eq, Bool.not_eq_true', decide_eq_false_iff_not]
  rcases cls_cases s with h | h | h | h | h | h | h | h | h <;> simp only [h, formC, shapeC] <;> simp <;> omega
theorem cdGood_ev (x : Instr) : Ev (fun k => spec_cdGood.f k x.f0 x.f1 x.f2 x.f3 x.f4) (decide (okI x)) := by
  unfold spec_cdGood.f
  refine Ev.bind (shape_ev x.f0) (Ev.const ?_)
  obtain ⟨s, d, a, b, m⟩ := x
  simp only [l1In_eq, cdReg_eq, Option.bind_some, okI]
  rcases cls_cases s with h | h | h | h | h | h | h | h | h <;> simp only [h, shapeC] <;> by_cases h1 : 0 ≤ d ∧ d ≤ 5 <;> by_cases h2 : 0 ≤ a ∧ a ≤ 5 <;> by_cases h3 : 0 ≤ b ∧ b ≤ 5 <;> (try simp [h1, h2, h3]) <;> (repeat' split) <;> (try (rw [Bool.eq_iff_iff]; simp only [Bool.and_eq_true, decide_eq_true_eq, beq_iff_eq, true_iff, false_iff, Bool.false_eq_true, iff_false, iff_true])) <;> (try simp only [Option.some.injEq]) <;> (try (rw [Bool.eq_iff_iff]; simp only [Bool.and_eq_true, decide_eq_true_eq, beq_iff_eq, true_iff, false_iff, Bool.false_eq_true, iff_false, iff_true])) <;> (try omega)
def okCode (l : List Instr) : Bool := decide (l.length ≤ 40) && l.all (fun x => decide (okI x))
def okBlock (l : List Instr) : Bool := decide (l.length ≤ 20) && l.all (fun x => decide (okI x))
theorem isCode_ev (l : List Instr) : Ev (fun k => impl_IsCode.f k l) (okCode l) := by
  unfold impl_IsCode.f
  by_cases hl : l.length ≤ 40
  · refine Ev.ifp (by omega) ?_
    have h : Ev (fun k => slices_IndexFunc_impl_IsCode_1.f k l) (idx (fun x => !decide (okI x)) l) := by
      unfold slices_IndexFunc_impl_IsCode_1.f
      refine search_ev l _ (fun k i => slices_IndexFunc_impl_IsCode_1.l0 k l l.length i) ?_ (fun i x hi hx hp => ?_) (fun i x r hi hx hp hr => ?_)
      · refine Ev.step (f := fun _ => some (-1)) (fun k => ?_) (Ev.now _)
        simp only [slices_IndexFunc_impl_IsCode_1.l0]
        rw [if_neg (by omega)]
      · refine Ev.step (f := fun _ => some (i : Int)) (fun k => ?_) (Ev.now _)
        simp only [slices_IndexFunc_impl_IsCode_1.l0, impl_IsCode_1.f, rdI_eq hx, isInstr_eq, Option.bind_some, hp]
        rw [if_pos (by omega), if_pos (by omega), if_pos (by omega), if_pos trivial]
      · refine Ev.step (fun k => ?_) hr
        simp only [slices_IndexFunc_impl_IsCode_1.l0, impl_IsCode_1.f, rdI_eq hx, isInstr_eq, Option.bind_some, hp]
        rw [if_pos (by omega), if_pos (by omega), if_pos (by omega), if_neg (by simp), w64n i (by omega)]
    unfold slices_ContainsFunc_impl_IsCode_1.f
    refine Ev.bind (Ev.bind h (Ev.now _)) (Ev.some ?_)
    have e := idx_nonneg (fun x => !decide (okI x)) l
    unfold okCode
    rw [show decide (l.length ≤ 40) = true by simpa using hl, Bool.true_and]
    by_cases hc : 0 ≤ idx (fun x => !decide (okI x)) l
    · obtain ⟨x, hx, hx'⟩ := e.1 hc
      rw [decide_eq_true (show idx (fun x => !decide (okI x)) l ≥ 0 from hc)]
      symm
      simpa using ⟨x, hx, by simpa using hx'⟩
    · rw [decide_eq_false (show ¬ idx (fun x => !decide (okI x)) l ≥ 0 from hc)]
      symm
      have := fun h => hc (e.2 h)
      simpa using this
  · refine Ev.ifn (by omega) (Ev.some ?_)
    unfold okCode
    rw [show decide (l.length ≤ 40) = false by simpa using hl]
    rfl
theorem cdCode_ev (l : List Instr) : Ev (fun k => spec_cdCode.f k l) (okCode l) := by
  unfold spec_cdCode.f
  by_cases hl : l.length ≤ 40
  · refine Ev.ifn (by omega) ?_
    unfold okCode
    rw [show decide (l.length ≤ 40) = true by simpa using hl, Bool.true_and]
    refine all_ev l _ (fun k i => spec_cdCode.l0 k l l.length i) ?_ (fun i x hi hx hp => ?_) (fun i x r hi hx hp hr => ?_)
    · refine Ev.step (f := fun _ => some true) (fun k => ?_) (Ev.now _)
      simp only [spec_cdCode.l0]
      rw [if_neg (by omega)]
    · refine Ev.step (fun k => by simp only [spec_cdCode.l0, rdI_eq hx]; rfl) ?_
      refine Ev.ifp (by omega) (Ev.ifp (by omega) (Ev.ifp (by omega) ?_))
      exact Ev.bind (cdGood_ev x) (Ev.ifn (by simpa using hp) (Ev.now _))
    · refine Ev.step (fun k => by simp only [spec_cdCode.l0, rdI_eq hx, w64n i (show i < 4611686018427387904 by omega)]; rfl) ?_
      refine Ev.ifp (by omega) (Ev.ifp (by omega) (Ev.ifp (by omega) ?_))
      exact Ev.bind (cdGood_ev x) (Ev.ifp (by simpa using hp) hr)
  · refine Ev.ifp (by omega) (Ev.some ?_)
    unfold okCode
    rw [show decide (l.length ≤ 40) = false by simpa using hl]
    rfl
theorem okBlock_eq (l : List Instr) : okBlock l = (okCode l && decide (l.length ≤ 20)) := by
  unfold okBlock okCode
  by_cases h : l.length ≤ 20
  · simp [h, show l.length ≤ 40 by omega]
  · simp [h]
theorem okBlock_of {l : List Instr} (h : okBlock l = true) : l.length ≤ 20 ∧ ∀ x ∈ l, okI x := by
  unfold okBlock at h
  simp only [Bool.and_eq_true, decide_eq_true_eq, List.all_eq_true] at h
  exact h
theorem isBlock_ev (l : List Instr) : Ev (fun k => impl_isBlock.f k l) (okBlock l) := by
  unfold impl_isBlock.f
  refine Ev.bind (isCode_ev l) ?_
  rw [okBlock_eq]
  cases h : okCode l
  · exact Ev.ifn (by simp) (Ev.some rfl)
  · refine Ev.ifp rfl (Ev.some ?_)
    rw [Bool.true_and, decide_eq_decide]
    omega
theorem rdN_eq {xs : List S72} {i : Nat} {x : S72} (h : ∀ d, xs.getD i d = x) : rd_T72 xs i = x := by unfold rd_T72; rw [Int.toNat_natCast]; exact h _
abbrev Node := S72
theorem idx_mem {α : Type} (p : α → Bool) (xs : List α) (q : Prop) [Decidable q] (h : q ↔ ∃ x ∈ xs, p x = true) : decide (idx p xs ≥ 0) = decide q := by
  rw [decide_eq_decide]
  exact (idx_nonneg p xs).trans h.symm
def hasS (l : List ByteArray) (s : ByteArray) : Bool := l.any fun y => decide (y = s)
theorem hasS_iff (l : List ByteArray) (s : ByteArray) : hasS l s = true ↔ s ∈ l := by
  unfold hasS
  rw [List.any_eq_true]
  exact ⟨fun ⟨x, hx, h⟩ => of_decide_eq_true h ▸ hx, fun h => ⟨s, h, decide_eq_true rfl⟩⟩
theorem containsS_ev (l : List ByteArray) (s : ByteArray) (hl : l.length ≤ 1048576) : Ev (fun k => slices_Contains_string_string.f k l s) (hasS l s) := by
  have h : Ev (fun k => slices_Index_string_string.f k l s) (idx (fun y => decide (s = y)) l) := by
    unfold slices_Index_string_string.f
    refine search_ev l _ (fun k i => slices_Index_string_string.l0 k l s l.length i) ?_ (fun i x hi hx hp => ?_) (fun i x r hi hx hp hr => ?_)
    · refine Ev.step (f := fun _ => some (-1)) (fun k => ?_) (Ev.now _)
      simp only [slices_Index_string_string.l0]
      rw [if_neg (by omega)]
    · refine Ev.step (f := fun _ => some (i : Int)) (fun k => ?_) (Ev.now _)
      simp only [slices_Index_string_string.l0, rdOf_eq hx, str_eq]
      rw [if_pos (by omega), if_pos (by omega), if_pos (by omega), if_pos (of_decide_eq_true hp)]
    · refine Ev.step (fun k => ?_) hr
      simp only [slices_Index_string_string.l0, rdOf_eq hx, str_eq]
      rw [if_pos (by omega), if_pos (by omega), if_pos (by omega), if_neg (of_decide_eq_false hp), w64n i (by omega)]
  unfold slices_Contains_string_string.f
  refine Ev.bind h (Ev.some ?_)
  rw [Bool.eq_iff_iff, decide_eq_true_eq, hasS_iff]
  refine (idx_nonneg _ l).trans ⟨?_, fun h => ⟨s, h, decide_eq_true rfl⟩⟩
  rintro ⟨x, hx, h⟩
  rw [of_decide_eq_true h]
  exact hx
theorem l1HasS_ev (l : List ByteArray) (s : ByteArray) (hl : l.length ≤ 1048576) : Ev (fun k => spec_l1HasS.f k l s) (hasS l s) := by
  unfold spec_l1HasS.f
  refine loop_list (σ := Unit) l (fun k _ i => spec_l1HasS.l0 k s l l.length i) (fun r _ => hasS r s) (fun _ => ?_) (fun i _ x rest hi hx ih => ?_) ()
  · refine Ev.step (f := fun _ => some false) (fun k => ?_) (Ev.now _)
    simp only [spec_l1HasS.l0]
    rw [if_neg (by omega)]
  · refine Ev.step (fun k => by simp only [spec_l1HasS.l0, rdOf_eq hx, str_eq]; rfl) (Ev.ifp (by omega) (Ev.ifp (by omega) (Ev.ifp (by omega) ?_)))
    by_cases q : x = s
    · exact Ev.ifp q (Ev.some (by simp [hasS, q]))
    · refine Ev.ifn q ?_
      rw [w64n i (by omega)]
      refine ev_eq (ih ()) ?_
      simp [hasS, q]
theorem containsI_ev (l : List Int) (s : Int) (hl : l.length ≤ 1048576) : Ev (fun k => slices_Contains_int_int.f k l s) (decide (s ∈ l)) := by
  have h : Ev (fun k => slices_Index_int_int.f k l s) (idx (fun y => decide (s = y)) l) := by
    unfold slices_Index_int_int.f
    refine search_ev l _ (fun k i => slices_Index_int_int.l0 k l s l.length i) ?_ (fun i x hi hx hp => ?_) (fun i x r hi hx hp hr => ?_)
    · refine Ev.step (f := fun _ => some (-1)) (fun k => ?_) (Ev.now _)
      simp only [slices_Index_int_int.l0]
      rw [if_neg (by omega)]
    · refine Ev.step (f := fun _ => some (i : Int)) (fun k => ?_) (Ev.now _)
      simp only [slices_Index_int_int.l0, rd_eq hx]
      rw [if_pos (by omega), if_pos (by omega), if_pos (by omega), if_pos (of_decide_eq_true hp)]
    · refine Ev.step (fun k => ?_) hr
      simp only [slices_Index_int_int.l0, rd_eq hx]
      rw [if_pos (by omega), if_pos (by omega), if_pos (by omega), if_neg (of_decide_eq_false hp), w64n i (by omega)]
  unfold slices_Contains_int_int.f
  refine Ev.bind h (Ev.some (idx_mem _ _ _ ?_))
  constructor
  · exact fun h => ⟨s, h, decide_eq_true rfl⟩
  · rintro ⟨x, hx, h⟩
    rw [of_decide_eq_true h]
    exact hx
theorem l1Has_ev (l : List Int) (s : Int) (hl : l.length ≤ 1048576) : Ev (fun k => spec_l1Has.f k l s) (decide (s ∈ l)) := by
  unfold spec_l1Has.f
  refine loop_list (σ := Unit) l (fun k _ i => spec_l1Has.l0 k s l l.length i) (fun r _ => decide (s ∈ r)) (fun _ => ?_) (fun i _ x rest hi hx ih => ?_) ()
  · refine Ev.step (f := fun _ => some false) (fun k => ?_) (Ev.some (by simp))
    simp only [spec_l1Has.l0]
    rw [if_neg (by omega)]
  · refine Ev.step (fun k => by simp only [spec_l1Has.l0, rd_eq hx]; rfl) (Ev.ifp (by omega) (Ev.ifp (by omega) (Ev.ifp (by omega) ?_)))
    by_cases q : x = s
    · exact Ev.ifp q (Ev.some (by simp [q]))
    · refine Ev.ifn q ?_
      rw [w64n i (by omega)]
      refine ev_eq (ih ()) ?_
      rw [decide_eq_decide, List.mem_cons]
      exact ⟨Or.inr, fun h => h.resolve_left fun e => q e.symm⟩
def bops : List ByteArray := [⟨#[97, 100, 100]⟩, ⟨#[115, 117, 98]⟩, ⟨#[109, 117, 108]⟩, ⟨#[97, 110, 100]⟩, ⟨#[111, 114]⟩, ⟨#[120, 111, 114]⟩, ⟨#[115, 104, 108]⟩, ⟨#[115, 104, 114]⟩, ⟨#[108, 101, 115, 115]⟩, ⟨#[101, 113]⟩]
theorem binary_eq : impl_binary.f = some bops := rfl
theorem exOps_eq : spec_exOps.f = some bops := rfl
def isIn (s : ByteArray) : Prop := s.toList = ([105, 110] : List UInt8)
def isConst (s : ByteArray) : Prop := s.toList = ([99, 111, 110, 115, 116] : List UInt8)
def isNot (s : ByteArray) : Prop := s.toList = ([110, 111, 116] : List UInt8)
def isNeg (s : ByteArray) : Prop := s.toList = ([110, 101, 103] : List UInt8)
instance (s : ByteArray) : Decidable (isIn s) := by unfold isIn; infer_instance
instance (s : ByteArray) : Decidable (isConst s) := by unfold isConst; infer_instance
instance (s : ByteArray) : Decidable (isNot s) := by unfold isNot; infer_instance
instance (s : ByteArray) : Decidable (isNeg s) := by unfold isNeg; infer_instance
def kN (s : ByteArray) : Nat := if isIn s then 0 else if isConst s then 1 else if isNot s ∨ isNeg s then 2 else if hasS bops s = true then 3 else 4
def opndC (c : Nat) : Int := match c with | 0 => 0 | 1 => 0 | 2 => 1 | 3 => 2 | _ => -1
theorem kN_le (s : ByteArray) : kN s = 0 ∨ kN s = 1 ∨ kN s = 2 ∨ kN s = 3 ∨ kN s = 4 := by
  unfold kN
  split
  · simp
  split
  · simp
  split
  · simp
  split <;> simp
theorem operands_ev (s : ByteArray) : Ev (fun k => impl_operands.f k s) (opndC (kN s)) := by
  unfold impl_operands.f kN
  by_cases h1 : isIn s
  · rw [if_pos h1]
    refine Ev.ifp h1 (Ev.step (fun k => by simp only [impl_operands.j0]; rfl) (Ev.ifp (show true = true from rfl) (Ev.now _)))
  rw [if_neg h1]
  refine Ev.ifn h1 ?_
  by_cases h2 : isConst s
  · rw [if_pos h2]
    exact Ev.step (fun k => by simp only [impl_operands.j0]; rfl) (Ev.ifp (beq_iff_eq.2 h2) (Ev.now _))
  rw [if_neg h2]
  refine Ev.step (fun k => by simp only [impl_operands.j0]; rfl) (Ev.ifn (fun e => h2 (beq_iff_eq.1 e)) ?_)
  by_cases h3 : isNot s
  · rw [if_pos (Or.inl h3)]
    exact Ev.ifp h3 (Ev.step (fun k => by simp only [impl_operands.j1]; rfl) (Ev.ifp (show true = true from rfl) (Ev.now _)))
  refine Ev.ifn h3 ?_
  by_cases h4 : isNeg s
  · rw [if_pos (Or.inr h4)]
    exact Ev.step (fun k => by simp only [impl_operands.j1]; rfl) (Ev.ifp (beq_iff_eq.2 h4) (Ev.now _))
  rw [if_neg (fun e => e.elim h3 h4)]
  refine Ev.step (fun k => by simp only [impl_operands.j1]; rfl) (Ev.ifn (fun e => h4 (beq_iff_eq.1 e)) ?_)
  refine Ev.call binary_eq (Ev.bind (containsS_ev bops s (by decide)) ?_)
  by_cases h5 : hasS bops s = true
  · simp only [if_pos h5]
    exact Ev.now _
  · simp only [if_neg h5]
    exact Ev.now _
theorem exOne_eq (s : ByteArray) : spec_exOne.f s = some (decide (isNot s ∨ isNeg s)) := by
  unfold spec_exOne.f
  by_cases h3 : isNot s
  · rw [if_pos (show s.toList = _ from h3), decide_eq_true (Or.inl h3)]
  · rw [if_neg (show ¬ s.toList = _ from h3)]
    congr 1
    rw [Bool.eq_iff_iff, beq_iff_eq, decide_eq_true_eq]
    exact ⟨Or.inr, fun h => h.resolve_left h3⟩
theorem exTwo_ev (s : ByteArray) : Ev (fun k => spec_exTwo.f k s) (hasS bops s) := by
  unfold spec_exTwo.f
  exact Ev.call exOps_eq (Ev.bind (l1HasS_ev bops s (by decide)) (Ev.now _))
def partsC (c : Nat) (a b : Int) : List Int := match c with | 2 => [a] | 3 => [a, b] | _ => []
theorem of_ev (x : Node) : Ev (fun k => impl_Node_of.f k x.f0 x.f1 x.f2 x.f3) (partsC (kN x.f0) x.f1 x.f2) := by
  unfold impl_Node_of.f
  refine Ev.call rfl (Ev.bind (operands_ev x.f0) (Ev.const ?_))
  rcases kN_le x.f0 with h | h | h | h | h <;> rw [h] <;> rfl
theorem exParts_ev (x : Node) : Ev (fun k => spec_exParts.f k x.f0 x.f1 x.f2 x.f3) (partsC (kN x.f0) x.f1 x.f2) := by
  unfold spec_exParts.f
  refine Ev.call (exOne_eq _) ?_
  have d1 : ∀ s, isIn s → ¬ (isNot s ∨ isNeg s) := fun s h e => by unfold isIn at h; unfold isNot isNeg at e; rw [h] at e; revert e; decide
  have d2 : ∀ s, isConst s → ¬ (isNot s ∨ isNeg s) := fun s h e => by unfold isConst at h; unfold isNot isNeg at e; rw [h] at e; revert e; decide
  have d3 : ∀ s, isIn s → ¬ hasS bops s = true := fun s h => by rw [str_lit.1 h]; decide +kernel
  have d4 : ∀ s, isConst s → ¬ hasS bops s = true := fun s h => by rw [str_lit.1 h]; decide +kernel
  unfold kN
  by_cases h1 : isIn x.f0
  · rw [if_pos h1]
    exact Ev.ifn (by simpa using d1 _ h1) (Ev.bind (exTwo_ev _) (Ev.ifn (d3 _ h1) (Ev.now _)))
  rw [if_neg h1]
  by_cases h2 : isConst x.f0
  · rw [if_pos h2]
    exact Ev.ifn (by simpa using d2 _ h2) (Ev.bind (exTwo_ev _) (Ev.ifn (d4 _ h2) (Ev.now _)))
  rw [if_neg h2]
  by_cases h3 : isNot x.f0 ∨ isNeg x.f0
  · rw [if_pos h3]
    exact Ev.ifp (by simpa using h3) (Ev.now _)
  rw [if_neg h3]
  refine Ev.ifn (by simpa using h3) (Ev.bind (exTwo_ev _) ?_)
  by_cases h5 : hasS bops x.f0 = true
  · simp only [if_pos h5]
    exact Ev.now _
  · simp only [if_neg h5]
    exact Ev.now _
def okNd (c : Nat) (a b m i : Int) : Bool := match c with
  | 0 => decide (a = 0 ∧ b = 0 ∧ 0 ≤ m ∧ m ≤ 1)
  | 1 => decide (a = 0 ∧ b = 0 ∧ 0 ≤ m ∧ m ≤ 63)
  | 2 => decide ((0 ≤ a ∧ a ≤ i - 1) ∧ b = 0 ∧ m = 0)
  | 3 => decide ((0 ≤ a ∧ a ≤ i - 1) ∧ (0 ≤ b ∧ b ≤ i - 1) ∧ m = 0)
  | _ => false
def okNx (x : Node) (i : Int) : Bool := okNd (kN x.f0) x.f1 x.f2 x.f3 i
theorem exNode_ev (x : Node) (i : Nat) (hi : i ≤ 1048576) : Ev (fun k => spec_exNode.f k x.f0 x.f1 x.f2 x.f3 i) (okNx x i) := by
  obtain ⟨s, a, b, m⟩ := x
  simp only [okNx]
  unfold spec_exNode.f kN
  have e1 : wrap64 ((i : Int) - 1) = (i : Int) - 1 := w64 (by omega) (by omega)
  by_cases h1 : isIn s
  · rw [if_pos h1]
    refine Ev.ifp h1 (Ev.const ?_)
    simp only [l1In_eq, Option.bind_some, okNd]
    by_cases q1 : a = 0 <;> by_cases q2 : b = 0 <;> simp [q1, q2]
  rw [if_neg h1]
  refine Ev.ifn h1 ?_
  by_cases h2 : isConst s
  · rw [if_pos h2]
    refine Ev.ifp h2 (Ev.const ?_)
    simp only [spec_exWord.f, l1In_eq, Option.bind_some, okNd]
    by_cases q1 : a = 0 <;> by_cases q2 : b = 0 <;> simp [q1, q2]
  rw [if_neg h2]
  refine Ev.ifn h2 (Ev.call (exOne_eq _) ?_)
  rw [e1]
  by_cases h3 : isNot s ∨ isNeg s
  · rw [if_pos h3]
    refine Ev.ifp (by simpa using h3) (Ev.const ?_)
    simp only [l1In_eq, Option.bind_some, okNd]
    by_cases q1 : 0 ≤ a ∧ a ≤ (i : Int) - 1 <;> by_cases q2 : b = 0 <;> by_cases q3 : m = 0 <;> simp [q1, q2, q3]
  rw [if_neg h3]
  refine Ev.ifn (by simpa using h3) (Ev.bind (exTwo_ev _) ?_)
  by_cases h5 : hasS bops s = true
  · simp only [if_pos h5]
    refine Ev.const ?_
    simp only [l1In_eq, Option.bind_some, okNd]
    by_cases q1 : 0 ≤ a ∧ a ≤ (i : Int) - 1 <;> by_cases q2 : 0 ≤ b ∧ b ≤ (i : Int) - 1 <;> by_cases q3 : m = 0 <;> simp [q1, q2, q3]
  · simp only [if_neg h5]
    exact Ev.now _
theorem isNode_ev (x : Node) (i : Nat) (hi : i ≤ 1048576) : Ev (fun k => impl_Node_isNode.f k x.f0 x.f1 x.f2 x.f3 i) (okNx x i) := by
  obtain ⟨s, a, b, m⟩ := x
  simp only [okNx]
  unfold impl_Node_isNode.f
  refine Ev.bind (operands_ev s) (Ev.call rfl ?_)
  have e1 : wrap64 ((i : Int) - 1) = (i : Int) - 1 := w64 (by omega) (by omega)
  have r0 : rd [a, b] 0 = a := rfl
  have r1 : rd [a, b] 1 = b := rfl
  have fin : ∀ r : Bool, (isIn s → decide (0 ≤ m ∧ m ≤ 1) = r) → (isConst s → decide (0 ≤ m ∧ m ≤ 63) = r) → (¬ isIn s → ¬ isConst s → (if opndC (kN s) > 0 then (m == 0) else false) = r) → Ev (fun k => impl_Node_isNode.l0 k i (opndC (kN s)) [a, b] 2 2 s a b m) r := by
    intro r f1 f2 f3
    refine Ev.step (fun k => by simp only [impl_Node_isNode.l0]; rfl) (Ev.ifn (by decide) ?_)
    by_cases h1 : isIn s
    · refine Ev.ifp h1 (Ev.const ?_)
      rw [within_eq, f1 h1]
      rfl
    refine Ev.ifn h1 ?_
    by_cases h2 : isConst s
    · refine Ev.ifp h2 (Ev.const ?_)
      simp only [impl_isWord.f, within_eq, Option.bind_some]
      rw [f2 h2]
    refine Ev.ifn h2 (Ev.const ?_)
    rw [← f3 h1 h2]
    split <;> rfl
  have one : ∀ r : Bool, ((if 1 < opndC (kN s) then decide (0 ≤ b ∧ b ≤ (i : Int) - 1) else decide (b = 0)) = false → r = false) → ((if 1 < opndC (kN s) then decide (0 ≤ b ∧ b ≤ (i : Int) - 1) else decide (b = 0)) = true → Ev (fun k => impl_Node_isNode.l0 k i (opndC (kN s)) [a, b] 2 2 s a b m) r) → Ev (fun k => impl_Node_isNode.l0 k i (opndC (kN s)) [a, b] 2 1 s a b m) r := by
    intro r f1 f2
    refine Ev.step (fun k => by simp only [impl_Node_isNode.l0, r1, e1, within_eq, Option.bind_some, show wrap64 (1 + 1) = 2 from w64 (by decide) (by decide)]; rfl) (Ev.ifp (by decide) (Ev.ifp (by decide) (Ev.ifp (by simp) ?_)))
    by_cases h : 1 < opndC (kN s)
    · rw [if_pos h] at f1 f2
      refine Ev.ifp h ?_
      by_cases q : 0 ≤ b ∧ b ≤ (i : Int) - 1
      · exact Ev.ifp (by simpa using q) (Ev.ifn (by omega) (f2 (by simpa using q)))
      · exact Ev.ifn (by simpa using q) (Ev.some (f1 (by simpa using q)).symm)
    · rw [if_neg h] at f1 f2
      refine Ev.ifn h (Ev.ifp (by omega) ?_)
      by_cases q : b = 0
      · exact Ev.ifp q (f2 (by simpa using q))
      · exact Ev.ifn q (Ev.some (f1 (by simpa using q)).symm)
  have zero : ∀ r : Bool, ((if 0 < opndC (kN s) then decide (0 ≤ a ∧ a ≤ (i : Int) - 1) else decide (a = 0)) = false → r = false) → ((if 0 < opndC (kN s) then decide (0 ≤ a ∧ a ≤ (i : Int) - 1) else decide (a = 0)) = true → Ev (fun k => impl_Node_isNode.l0 k i (opndC (kN s)) [a, b] 2 1 s a b m) r) → Ev (fun k => impl_Node_isNode.l0 k i (opndC (kN s)) [a, b] 2 0 s a b m) r := by
    intro r f1 f2
    refine Ev.step (fun k => by simp only [impl_Node_isNode.l0, r0, e1, within_eq, Option.bind_some, show wrap64 (0 + 1) = 1 from w64 (by decide) (by decide)]; rfl) (Ev.ifp (by decide) (Ev.ifp (by decide) (Ev.ifp (by simp) ?_)))
    by_cases h : 0 < opndC (kN s)
    · rw [if_pos h] at f1 f2
      refine Ev.ifp h ?_
      by_cases q : 0 ≤ a ∧ a ≤ (i : Int) - 1
      · exact Ev.ifp (by simpa using q) (Ev.ifn (by omega) (f2 (by simpa using q)))
      · exact Ev.ifn (by simpa using q) (Ev.some (f1 (by simpa using q)).symm)
    · rw [if_neg h] at f1 f2
      refine Ev.ifn h (Ev.ifp (by omega) ?_)
      by_cases q : a = 0
      · exact Ev.ifp q (f2 (by simpa using q))
      · exact Ev.ifn q (Ev.some (f1 (by simpa using q)).symm)
  show Ev (fun k => impl_Node_isNode.l0 k i (opndC (kN s)) [a, b] 2 0 s a b m) _
  have hin : isIn s ↔ kN s = 0 := by
    unfold kN
    by_cases h : isIn s
    · simp [h]
    · simp only [h, if_false, false_iff]
      repeat' split
      all_goals decide
  have hco : ¬ isIn s → (isConst s ↔ kN s = 1) := fun h0 => by
    unfold kN
    by_cases h : isConst s
    · simp [h, h0]
    · simp only [h, h0, if_false, false_iff]
      repeat' split
      all_goals decide
  have hdis : isConst s → ¬ isIn s := fun h e => by unfold isConst at h; unfold isIn at e; rw [h] at e; revert e; decide
  refine zero _ (fun q => ?_) (fun q0 => one _ (fun q => ?_) (fun q1 => fin _ (fun h => ?_) (fun h => ?_) (fun h h' => ?_)))
  · rcases kN_le s with c | c | c | c | c <;> rw [c] at q ⊢ <;> simp [opndC, okNd] at q ⊢ <;> omega
  · rcases kN_le s with c | c | c | c | c <;> rw [c] at q ⊢ <;> simp [opndC, okNd] at q ⊢ <;> omega
  · have c := hin.1 h
    rw [c] at q0 q1 ⊢
    simp [opndC] at q0 q1
    simp [okNd, q0, q1]
  · have c := (hco (hdis h)).1 h
    rw [c] at q0 q1 ⊢
    simp [opndC] at q0 q1
    simp [okNd, q0, q1]
  · rcases kN_le s with c | c | c | c | c
    · exact absurd (hin.2 c) h
    · exact absurd ((hco h).2 c) h'
    · rw [c] at q0 q1 ⊢
      simp [opndC] at q0 q1
      simp [okNd, opndC, q0, q1]
      rw [Bool.eq_iff_iff]
      simp
    · rw [c] at q0 q1 ⊢
      simp [opndC] at q0 q1
      simp [okNd, opndC, q0, q1]
      rw [Bool.eq_iff_iff]
      simp
    · rw [c]
      simp [okNd, opndC]
def okNs : Nat → List Node → Bool
  | _, [] => true
  | i, x :: xs => okNx x i && okNs (i + 1) xs
theorem okNs_get : ∀ (xs : List Node) (i j : Nat) (h : j < xs.length), okNs i xs = true → okNx xs[j] ((i + j : Nat) : Int) = true
  | [], _, _, h, _ => absurd h (by simp)
  | x :: xs, i, 0, _, ho => by
    simp only [okNs, Bool.and_eq_true] at ho
    exact ho.1
  | x :: xs, i, j + 1, h, ho => by
    simp only [okNs, Bool.and_eq_true] at ho
    have := okNs_get xs (i + 1) j (by simpa using h) ho.2
    rw [show i + 1 + j = i + (j + 1) by omega] at this
    exact this
def incr (u : List Int) (p : Int) : List Int := u.set p.toNat (wrap64 (rd u p + 1))
def usesN (u : List Int) (x : Node) : List Int := (partsC (kN x.f0) x.f1 x.f2).foldl incr u
def usesL (l : List Node) : List Int := l.foldl usesN (List.replicate l.length 0)
theorem incr_len (u : List Int) (p : Int) : (incr u p).length = u.length := List.length_set
theorem foldl_incr_len (ps : List Int) : ∀ u, (ps.foldl incr u).length = u.length := by
  induction ps with
  | nil => exact fun u => rfl
  | cons p ps ih => exact fun u => (ih _).trans (incr_len u p)
theorem usesN_len (u : List Int) (x : Node) : (usesN u x).length = u.length := foldl_incr_len _ u
theorem foldl_usesN_len (l : List Node) : ∀ u, (l.foldl usesN u).length = u.length := by
  induction l with
  | nil => exact fun u => rfl
  | cons x l ih => exact fun u => (ih _).trans (usesN_len u x)
theorem usesL_len (l : List Node) : (usesL l).length = l.length := by
  unfold usesL
  rw [foldl_usesN_len, List.length_replicate]
theorem parts_ok {x : Node} {i : Int} (h : okNx x i = true) : (partsC (kN x.f0) x.f1 x.f2).length ≤ 2 ∧ ∀ p ∈ partsC (kN x.f0) x.f1 x.f2, 0 ≤ p ∧ p ≤ i - 1 := by
  unfold okNx at h
  rcases kN_le x.f0 with c | c | c | c | c <;> rw [c] at h ⊢ <;> simp [okNd] at h <;> simp [partsC] <;> omega
theorem uses_loop (L0 : Nat → List Int → Int → Option (List Int)) (L1 : Nat → List Int → Int → List Int → Int → Int → Option (List Int)) (i : Nat) (n : Nat) (r : List Int)
    (h0 : ∀ k u ps j, L1 (k + 1) u i ps (ps.length : Nat) (j : Nat) = if (j : Int) < (ps.length : Nat) then (if (0 : Int) ≤ (j : Nat) then (if ((j : Nat) : Int) < (ps.length : Nat) then (if 0 ≤ rd ps (j : Nat) then (if rd ps (j : Nat) < (u.length : Int) then L1 k (u.set (rd ps (j : Nat) : Int).toNat (wrap64 (rd u (rd ps (j : Nat)) + 1))) i ps (ps.length : Nat) (wrap64 ((j : Nat) + 1)) else none) else none) else none) else none) else L0 k u (wrap64 ((i : Nat) + 1)))
    (ps : List Int) (hps : ps.length ≤ 2) (hp : ∀ p ∈ ps, 0 ≤ p ∧ p < n) (u : List Int) (hu : u.length = n) (hi : i ≤ 1048576) (H : Ev (fun k => L0 k (ps.foldl incr u) ((i + 1 : Nat) : Int)) r) : Ev (fun k => L1 k u i ps ps.length 0) r := by
  have key : ∀ (d j : Nat) (u : List Int), u.length = n → j + d = ps.length → Ev (fun k => L0 k ((ps.drop j).foldl incr u) ((i + 1 : Nat) : Int)) r → Ev (fun k => L1 k u i ps ps.length (j : Nat)) r := by
    intro d
    induction d with
    | zero =>
      intro j u hu hj H
      refine Ev.step (fun k => h0 k u ps j) (Ev.ifn (by omega) ?_)
      rw [w64n i (by omega)]
      rw [List.drop_of_length_le (by omega)] at H
      exact H
    | succ d ih =>
      intro j u hu hj H
      have hlt : j < ps.length := by omega
      have e : ps.drop j = ps[j] :: ps.drop (j + 1) := List.drop_eq_getElem_cons hlt
      have hx := rd_eq (getD_eq ps j hlt)
      have hb := hp ps[j] (List.getElem_mem hlt)
      refine Ev.step (fun k => h0 k u ps j) (Ev.ifp (by omega) (Ev.ifp (by omega) (Ev.ifp (by omega) (Ev.ifp (by rw [hx]; exact hb.1) (Ev.ifp (by rw [hx]; omega) ?_)))))
      rw [hx, w64n j (by omega)]
      rw [e] at H
      exact ih (j + 1) (incr u ps[j]) (by rw [incr_len]; exact hu) (by omega) H
  exact key ps.length 0 u hu (by omega) H
theorem uses_ev (l : List Node) (h : okNs 0 l = true) (hl : l.length ≤ 1000) : Ev (fun k => impl_uses.f k l) (usesL l) := by
  unfold impl_uses.f
  refine Ev.ifp (by omega) (Ev.ifp (by simp; omega) ?_)
  have key : ∀ (d i : Nat) (u : List Int), u.length = l.length → i + d = l.length → Ev (fun k => impl_uses.l0 k u l l.length i) ((l.drop i).foldl usesN u) := by
    intro d
    induction d with
    | zero =>
      intro i u hu hi
      refine Ev.step (f := fun _ => some u) (fun k => ?_) (Ev.some ?_)
      · simp only [impl_uses.l0]
        rw [if_neg (by omega)]
      · rw [List.drop_of_length_le (by omega)]
        rfl
    | succ d ih =>
      intro i u hu hi
      have hlt : i < l.length := by omega
      have e : l.drop i = l[i] :: l.drop (i + 1) := List.drop_eq_getElem_cons hlt
      have hx := rdN_eq (getD_eq l i hlt)
      have ok := okNs_get l 0 i hlt h
      rw [Nat.zero_add] at ok
      obtain ⟨p1, p2⟩ := parts_ok ok
      rw [e]
      refine Ev.step (fun k => by simp only [impl_uses.l0, hx]; rfl) (Ev.ifp (by omega) (Ev.ifp (by omega) (Ev.ifp (by omega) (Ev.bind (of_ev l[i]) ?_))))
      exact uses_loop (fun k u j => impl_uses.l0 k u l l.length j) (fun k u i ps n j => impl_uses.l1 k u l l.length i ps n j) i l.length _ (fun k u ps j => by simp only [impl_uses.l1]) _ p1 (fun p hp => by have := p2 p hp; omega) u hu (by omega) (ih (i + 1) _ (by rw [foldl_incr_len]; exact hu) (by omega))
  simpa [usesL] using key l.length 0 (List.replicate l.length 0) (by simp) (by omega)
theorem exUses_ev (l : List Node) (h : okNs 0 l = true) (hl : l.length ≤ 1000) : Ev (fun k => spec_exUses.f k l) (usesL l) := by
  unfold spec_exUses.f
  refine Ev.ifp (by omega) (Ev.ifp (by simp; omega) ?_)
  have key : ∀ (d i : Nat) (u : List Int), u.length = l.length → i + d = l.length → Ev (fun k => spec_exUses.l0 k u l l.length i) ((l.drop i).foldl usesN u) := by
    intro d
    induction d with
    | zero =>
      intro i u hu hi
      refine Ev.step (f := fun _ => some u) (fun k => ?_) (Ev.some ?_)
      · simp only [spec_exUses.l0]
        rw [if_neg (by omega)]
      · rw [List.drop_of_length_le (by omega)]
        rfl
    | succ d ih =>
      intro i u hu hi
      have hlt : i < l.length := by omega
      have e : l.drop i = l[i] :: l.drop (i + 1) := List.drop_eq_getElem_cons hlt
      have hx := rdN_eq (getD_eq l i hlt)
      have ok := okNs_get l 0 i hlt h
      rw [Nat.zero_add] at ok
      obtain ⟨p1, p2⟩ := parts_ok ok
      rw [e]
      refine Ev.step (fun k => by simp only [spec_exUses.l0, hx]; rfl) (Ev.ifp (by omega) (Ev.ifp (by omega) (Ev.ifp (by omega) (Ev.bind (exParts_ev l[i]) ?_))))
      exact uses_loop (fun k u j => spec_exUses.l0 k u l l.length j) (fun k u i ps n j => spec_exUses.l1 k u l l.length i ps n j) i l.length _ (fun k u ps j => by simp only [spec_exUses.l1]) _ p1 (fun p hp => by have := p2 p hp; omega) u hu (by omega) (ih (i + 1) _ (by rw [foldl_incr_len]; exact hu) (by omega))
  simpa [usesL] using key l.length 0 (List.replicate l.length 0) (by simp) (by omega)
def okExpr (l : List Node) : Bool := decide (1 ≤ l.length ∧ l.length ≤ 24) && (okNs 0 l && !decide ((0 : Int) ∈ (usesL l).take (l.length - 1)))
theorem isExpr_ev (l : List Node) : Ev (fun k => impl_IsExpr.f k l) (okExpr l) := by
  unfold impl_IsExpr.f okExpr
  refine Ev.call (within_eq _ _ _) ?_
  by_cases hl : 1 ≤ l.length ∧ l.length ≤ 24
  · rw [decide_eq_true hl, Bool.true_and]
    refine Ev.ifp (by simp; omega) ?_
    have key : ∀ (d i : Nat), i + d = l.length → (okNs 0 l = true → okNs i (l.drop i) = true) → (okNs 0 l = false → okNs i (l.drop i) = false) → Ev (fun k => impl_IsExpr.l0 k l l l.length i) (okNs 0 l && !decide ((0 : Int) ∈ (usesL l).take (l.length - 1))) := by
      intro d
      induction d with
      | zero =>
        intro i hi _ hf
        have ok : okNs 0 l = true := by
          cases h : okNs 0 l
          · have := hf h
            rw [List.drop_of_length_le (by omega)] at this
            cases this
          · rfl
        rw [ok, Bool.true_and]
        refine Ev.step (fun k => by simp only [impl_IsExpr.l0]; rfl) (Ev.ifn (by omega) (Ev.bind (uses_ev l ok (by omega)) ?_))
        have e1 : wrap64 ((l.length : Int) - 1) = ((l.length - 1 : Nat) : Int) := by rw [w64 (by omega) (by omega)]; omega
        rw [e1]
        refine Ev.ifp (by omega) (Ev.ifp (by rw [usesL_len]; omega) ?_)
        rw [Int.toNat_natCast]
        exact Ev.bind (containsI_ev _ 0 (by rw [List.length_take, usesL_len]; omega)) (Ev.now _)
      | succ d ih =>
        intro i hi ht hf
        have hlt : i < l.length := by omega
        have e : l.drop i = l[i] :: l.drop (i + 1) := List.drop_eq_getElem_cons hlt
        have hx := rdN_eq (getD_eq l i hlt)
        rw [e] at ht hf
        simp only [okNs] at ht hf
        refine Ev.step (fun k => by simp only [impl_IsExpr.l0, hx]; rfl) (Ev.ifp (by omega) (Ev.ifp (by omega) (Ev.ifp (by omega) (Ev.bind (isNode_ev l[i] i (by omega)) ?_))))
        cases h : okNx l[i] i
        · refine Ev.ifn (by decide) (Ev.some ?_)
          rw [h] at ht
          cases h0 : okNs 0 l
          · rfl
          · exact absurd (ht h0) (by simp)
        · rw [h] at ht hf
          refine Ev.ifp rfl ?_
          rw [w64n i (by omega)]
          exact ih (i + 1) (by omega) (by simpa using ht) (by simpa using hf)
    simpa using key l.length 0 (by omega) (fun h => h) (fun h => h)
  · rw [decide_eq_false hl, Bool.false_and]
    exact Ev.ifn (by simp; omega) (Ev.now _)
theorem exGood_ev (l : List Node) : Ev (fun k => spec_exGood.f k l) (okExpr l) := by
  unfold spec_exGood.f okExpr
  refine Ev.call (l1In_eq _ _ _) ?_
  by_cases hl : 1 ≤ l.length ∧ l.length ≤ 24
  · rw [decide_eq_true hl, Bool.true_and]
    refine Ev.ifp (by simp; omega) ?_
    have key : ∀ (d i : Nat), i + d = l.length → (okNs 0 l = true → okNs i (l.drop i) = true) → (okNs 0 l = false → okNs i (l.drop i) = false) → Ev (fun k => spec_exGood.l0 k l l l.length i) (okNs 0 l && !decide ((0 : Int) ∈ (usesL l).take (l.length - 1))) := by
      intro d
      induction d with
      | zero =>
        intro i hi _ hf
        have ok : okNs 0 l = true := by
          cases h : okNs 0 l
          · have := hf h
            rw [List.drop_of_length_le (by omega)] at this
            cases this
          · rfl
        rw [ok, Bool.true_and]
        refine Ev.step (fun k => by simp only [spec_exGood.l0]; rfl) (Ev.ifn (by omega) (Ev.bind (exUses_ev l ok (by omega)) ?_))
        have e1 : wrap64 ((l.length : Int) - 1) = ((l.length - 1 : Nat) : Int) := by rw [w64 (by omega) (by omega)]; omega
        rw [e1]
        refine Ev.ifp (by omega) (Ev.ifp (by rw [usesL_len]; omega) ?_)
        rw [Int.toNat_natCast]
        exact Ev.bind (l1Has_ev _ 0 (by rw [List.length_take, usesL_len]; omega)) (Ev.now _)
      | succ d ih =>
        intro i hi ht hf
        have hlt : i < l.length := by omega
        have e : l.drop i = l[i] :: l.drop (i + 1) := List.drop_eq_getElem_cons hlt
        have hx := rdN_eq (getD_eq l i hlt)
        rw [e] at ht hf
        simp only [okNs] at ht hf
        refine Ev.step (fun k => by simp only [spec_exGood.l0, hx]; rfl) (Ev.ifp (by omega) (Ev.ifp (by omega) (Ev.ifp (by omega) (Ev.bind (exNode_ev l[i] i (by omega)) ?_))))
        cases h : okNx l[i] i
        · refine Ev.ifn (by decide) (Ev.some ?_)
          rw [h] at ht
          cases h0 : okNs 0 l
          · rfl
          · exact absurd (ht h0) (by simp)
        · rw [h] at ht hf
          refine Ev.ifp rfl ?_
          rw [w64n i (by omega)]
          exact ih (i + 1) (by omega) (by simpa using ht) (by simpa using hf)
    simpa using key l.length 0 (by omega) (fun h => h) (fun h => h)
  · rw [decide_eq_false hl, Bool.false_and]
    exact Ev.ifn (by simp; omega) (Ev.now _)
theorem okExpr_of {l : List Node} (h : okExpr l = true) : (1 ≤ l.length ∧ l.length ≤ 24) ∧ okNs 0 l = true := by
  unfold okExpr at h
  simp only [Bool.and_eq_true, decide_eq_true_eq] at h
  exact ⟨h.1, h.2.1⟩
abbrev ShSt := List Node × List Int
theorem shL_leo (g g' : Int → ShSt → Option ShSt) (h : ∀ x s, LeO (g x s) (g' x s)) : ∀ ks s, LeO (shL g ks s) (shL g' ks s)
  | [], _ => LeO.refl _
  | x :: xs, s => LeO.bind (h x s) (fun s1 => shL_leo g g' h xs s1)
theorem shW_deep (k : Nat) (e : List Node) : ∀ (d : Nat) (i : Int) (s : ShSt), LeO (shW k e d i s) (shW k e (d + 1) i s)
  | 0, _, _ => LeO.none _
  | d + 1, i, s => by
    unfold shW
    exact LeO.ite (LeO.ite (LeO.refl _) (LeO.bind (LeO.refl _) (fun ks => LeO.ite (LeO.bind (shL_leo _ _ (shW_deep k e d) _ _) (fun s1 => LeO.refl _)) (LeO.refl _)))) (LeO.refl _)
theorem exW_deep (k : Nat) (e : List Node) : ∀ (d : Nat) (i : Int) (s : ShSt), LeO (exW k e d i s) (exW k e (d + 1) i s)
  | 0, _, _ => LeO.none _
  | d + 1, i, s => by
    unfold exW
    exact LeO.ite (LeO.ite (LeO.refl _) (LeO.bind (LeO.refl _) (fun ps => LeO.ite (LeO.bind (LeO.ite (exW_deep k e d _ _) (LeO.refl _)) (fun r1 => LeO.bind (LeO.ite (exW_deep k e d _ _) (LeO.refl _)) (fun r2 => LeO.refl _))) (LeO.refl _)))) (LeO.refl _)
theorem shW_deeper (k : Nat) (e : List Node) (d : Nat) (i : Int) (s R : ShSt) (h : shW k e d i s = some R) : ∀ m, shW k e (d + m) i s = some R
  | 0 => h
  | m + 1 => shW_deep k e (d + m) i s R (shW_deeper k e d i s R h m)
theorem exW_deeper (k : Nat) (e : List Node) (d : Nat) (i : Int) (s : ShSt) (R : ShSt × Int) (h : exW k e d i s = some R) : ∀ m, exW k e (d + m) i s = some R
  | 0 => h
  | m + 1 => exW_deep k e (d + m) i s R (exW_deeper k e d i s R h m)
theorem shW_ev (e : List Node) (d : Nat) (i : Int) (s R : ShSt) (h : Ev (fun k => shW k e d i s) R) : Ev (fun k => shW k e k i s) R := by
  obtain ⟨K, hK⟩ := h
  exact ⟨max K d, fun k hk => by have := shW_deeper k e d i s R (hK k (by omega)) (k - d); rwa [show d + (k - d) = k by omega] at this⟩
theorem exW_ev (e : List Node) (d : Nat) (i : Int) (s : ShSt) (R : ShSt × Int) (h : Ev (fun k => exW k e d i s) R) : Ev (fun k => exW k e k i s) R := by
  obtain ⟨K, hK⟩ := h
  exact ⟨max K d, fun k hk => by have := exW_deeper k e d i s R (hK k (by omega)) (k - d); rwa [show d + (k - d) = k by omega] at this⟩
def nodeP (x : Node) (s : ShSt) : Node := match kN x.f0 with
  | 2 => ⟨x.f0, rd s.2 x.f1, x.f2, x.f3⟩
  | 3 => ⟨x.f0, rd s.2 x.f1, rd s.2 x.f2, x.f3⟩
  | _ => x
def putP (n : Node) (i : Int) (s : ShSt) : ShSt := ((exPut n s.1).1, s.2.set i.toNat (exPut n s.1).2)
def shD (l : List Node) : Nat → Int → ShSt → ShSt
  | 0, _, s => s
  | d + 1, i, s => if 0 ≤ rd s.2 i then s else
    putP (nodeP (l.getD i.toNat ⟨⟨#[]⟩, 0, 0, 0⟩) ((partsC (kN (l.getD i.toNat ⟨⟨#[]⟩, 0, 0, 0⟩).f0) (l.getD i.toNat ⟨⟨#[]⟩, 0, 0, 0⟩).f1 (l.getD i.toNat ⟨⟨#[]⟩, 0, 0, 0⟩).f2).foldl (fun s p => shD l d p s) s)) i
      ((partsC (kN (l.getD i.toNat ⟨⟨#[]⟩, 0, 0, 0⟩).f0) (l.getD i.toNat ⟨⟨#[]⟩, 0, 0, 0⟩).f1 (l.getD i.toNat ⟨⟨#[]⟩, 0, 0, 0⟩).f2).foldl (fun s p => shD l d p s) s)
def nmd (ns : List Int) : Nat := ns.countP fun x => decide (0 ≤ x)
theorem exPut_nn (n : Node) (out : List Node) : 0 ≤ (exPut n out).2 := by
  unfold exPut
  split
  · exact Int.natCast_nonneg _
  · rename_i h
    show 0 ≤ exIx n out 0
    omega
theorem exPut_len (n : Node) (out : List Node) : (exPut n out).1.length ≤ out.length + 1 := by
  unfold exPut
  split
  · simp
  · exact Nat.le_succ _
theorem nmd_set (ns : List Int) (i : Nat) (x : Int) (hi : i < ns.length) (h : ns.getD i 0 < 0) (hx : 0 ≤ x) : nmd (ns.set i x) = nmd ns + 1 := by
  induction ns generalizing i with
  | nil => simp at hi
  | cons y ys ih =>
    unfold nmd at ih ⊢
    cases i with
    | zero =>
      have hy : ¬ 0 ≤ y := by simpa using h
      simp [List.countP_cons, hx, hy]
    | succ i =>
      have := ih i (by simpa using hi) (by simpa using h)
      simp only [List.set_cons_succ, List.countP_cons]
      omega
theorem nmd_le (ns : List Int) : nmd ns ≤ ns.length := List.countP_le_length
structure Kp (n i : Nat) (s s' : ShSt) : Prop where
  len : s'.2.length = n
  cnt : s'.1.length ≤ nmd s'.2
  keep : ∀ j : Nat, 0 ≤ rd s.2 (j : Int) → rd s'.2 (j : Int) = rd s.2 (j : Int)
  far : ∀ j : Nat, i ≤ j → rd s'.2 (j : Int) = rd s.2 (j : Int)
theorem Kp.trans {n i : Nat} {s s1 s2 : ShSt} (h : Kp n i s s1) (h' : Kp n i s1 s2) : Kp n i s s2 :=
  ⟨h'.len, h'.cnt, fun j hj => by rw [h'.keep j (by rw [h.keep j hj]; exact hj), h.keep j hj], fun j hj => by rw [h'.far j hj, h.far j hj]⟩
theorem Kp.wide {n i m : Nat} {s s' : ShSt} (h : Kp n i s s') (hm : i ≤ m) : Kp n m s s' := ⟨h.len, h.cnt, h.keep, fun j hj => h.far j (by omega)⟩
theorem fold_ok (n i : Nat) (g : ShSt → Int → ShSt) (hg : ∀ (p : Nat) s, p < i → s.2.length = n → s.1.length ≤ nmd s.2 → Kp n i s (g s p) ∧ 0 ≤ rd (g s p).2 (p : Int)) : ∀ (ps : List Int) (s : ShSt), (∀ p ∈ ps, 0 ≤ p ∧ p < (i : Int)) → s.2.length = n → s.1.length ≤ nmd s.2 → Kp n i s (ps.foldl g s) ∧ ∀ p ∈ ps, 0 ≤ rd (ps.foldl g s).2 p
  | [], s, _, h1, h2 => ⟨⟨h1, h2, fun _ _ => rfl, fun _ _ => rfl⟩, fun p hp => absurd hp (by simp)⟩
  | q :: ps, s, hps, h1, h2 => by
    obtain ⟨q0, q1⟩ := hps q (by simp)
    obtain ⟨p, rfl⟩ := Int.eq_ofNat_of_zero_le q0
    obtain ⟨a, b⟩ := hg p s (by omega) h1 h2
    obtain ⟨c, e⟩ := fold_ok n i g hg ps (g s p) (fun x hx => hps x (by simp [hx])) a.len a.cnt
    refine ⟨a.trans c, fun x hx => ?_⟩
    rcases List.mem_cons.1 hx with rfl | hx
    · show 0 ≤ rd (ps.foldl g (g s p)).2 (p : Int)
      rw [c.keep p b]
      exact b
    · exact e x hx
theorem rd_set (ns : List Int) (i j : Nat) (x : Int) (hi : i < ns.length) : rd (ns.set i x) (j : Int) = if i = j then x else rd ns (j : Int) := by
  unfold rd
  rw [Int.toNat_natCast, List.getD_eq_getElem?_getD, List.getD_eq_getElem?_getD, List.getElem?_set]
  split
  · rename_i h
    subst h
    simp [hi]
  · rfl
theorem put_ok (n i : Nat) (x : Node) (s : ShSt) (hi : i < n) (h1 : s.2.length = n) (h2 : s.1.length ≤ nmd s.2) (h3 : rd s.2 (i : Int) < 0) : Kp n (i + 1) s (putP x i s) ∧ 0 ≤ rd (putP x i s).2 (i : Int) := by
  have e1 := exPut_nn x s.1
  have e2 := exPut_len x s.1
  have e3 : nmd (s.2.set i (exPut x s.1).2) = nmd s.2 + 1 := nmd_set s.2 i _ (by omega) (by unfold rd at h3; rwa [Int.toNat_natCast] at h3) e1
  unfold putP
  rw [Int.toNat_natCast]
  refine ⟨⟨by simp [h1], by simp only; omega, fun j hj => ?_, fun j hj => ?_⟩, ?_⟩
  · simp only
    rw [rd_set _ _ _ _ (by omega), if_neg (by rintro rfl; omega)]
  · simp only
    rw [rd_set _ _ _ _ (by omega), if_neg (by omega)]
  · simp only
    rw [rd_set _ _ _ _ (by omega), if_pos rfl]
    exact e1
theorem shD_ok (l : List Node) (ok : okNs 0 l = true) : ∀ (d i : Nat) (s : ShSt), i < d → i < l.length → s.2.length = l.length → s.1.length ≤ nmd s.2 → Kp l.length (i + 1) s (shD l d i s) ∧ 0 ≤ rd (shD l d i s).2 (i : Int)
  | 0, _, _, h, _, _, _ => absurd h (by omega)
  | d + 1, i, s, hd, hi, h1, h2 => by
    unfold shD
    by_cases q : 0 ≤ rd s.2 (i : Int)
    · rw [if_pos q]
      exact ⟨⟨h1, h2, fun _ _ => rfl, fun _ _ => rfl⟩, q⟩
    · rw [if_neg q, Int.toNat_natCast]
      have hx : l.getD i ⟨⟨#[]⟩, 0, 0, 0⟩ = l[i] := by rw [List.getD_eq_getElem?_getD, List.getElem?_eq_getElem hi]; rfl
      rw [hx]
      have hok := okNs_get l 0 i hi ok
      rw [Nat.zero_add] at hok
      have hp := (parts_ok hok).2
      obtain ⟨a, _⟩ := fold_ok l.length i (fun s p => shD l d p s) (fun p s hp h1 h2 => by
        obtain ⟨b, c⟩ := shD_ok l ok d p s (by omega) (by omega) h1 h2
        exact ⟨b.wide (by omega), c⟩) (partsC (kN l[i].f0) l[i].f1 l[i].f2) s (fun p hq => by have := hp p hq; omega) h1 h2
      obtain ⟨b, c⟩ := put_ok l.length i (nodeP l[i] ((partsC (kN l[i].f0) l[i].f1 l[i].f2).foldl (fun s p => shD l d p s) s)) _ hi a.len a.cnt (by rw [a.far i (Nat.le_refl _)]; omega)
      exact ⟨(a.wide (by omega)).trans b, c⟩
theorem getN_eq {l : List Node} {i : Nat} (hi : i < l.length) : l.getD (i : Int).toNat ⟨⟨#[]⟩, 0, 0, 0⟩ = l[i] := by rw [Int.toNat_natCast, List.getD_eq_getElem?_getD, List.getElem?_eq_getElem hi]; rfl
theorem okN_leaf {x : Node} {i : Int} (h : okNx x i = true) (c : kN x.f0 = 0 ∨ kN x.f0 = 1) : x.f1 = 0 ∧ x.f2 = 0 := by
  unfold okNx at h
  rcases c with c | c <;> rw [c] at h <;> simp [okNd] at h <;> exact ⟨h.1, h.2.1⟩
theorem okN_un {x : Node} {i : Int} (h : okNx x i = true) (c : kN x.f0 = 2) : x.f2 = 0 ∧ 0 ≤ x.f1 ∧ x.f1 ≤ i - 1 := by
  unfold okNx at h
  rw [c] at h
  simp [okNd] at h
  omega
theorem okN_bi {x : Node} {i : Int} (h : okNx x i = true) (c : kN x.f0 = 3) : (0 ≤ x.f1 ∧ x.f1 ≤ i - 1) ∧ 0 ≤ x.f2 ∧ x.f2 ≤ i - 1 := by
  unfold okNx at h
  rw [c] at h
  simp [okNd] at h
  omega
theorem okN_none {x : Node} {i : Int} (h : okNx x i = true) (c : kN x.f0 = 4) : False := by
  unfold okNx at h
  rw [c] at h
  simp [okNd] at h
theorem leafN {x : Node} {i : Int} (h : okNx x i = true) (c : kN x.f0 = 0 ∨ kN x.f0 = 1) : x = ⟨x.f0, 0, 0, x.f3⟩ := by
  obtain ⟨e1, e2⟩ := okN_leaf h c
  obtain ⟨a, b, c, d⟩ := x
  simp only at e1 e2
  rw [e1, e2]
theorem nodeP_leaf {x : Node} (s : ShSt) (c : kN x.f0 = 0 ∨ kN x.f0 = 1) : nodeP x s = x := by
  unfold nodeP
  rcases c with c | c <;> rw [c] <;> rfl
theorem nodeP_un {x : Node} (s : ShSt) (c : kN x.f0 = 2) : nodeP x s = ⟨x.f0, rd s.2 x.f1, x.f2, x.f3⟩ := by
  unfold nodeP
  rw [c]
  rfl
theorem nodeP_bi {x : Node} (s : ShSt) (c : kN x.f0 = 3) : nodeP x s = ⟨x.f0, rd s.2 x.f1, rd s.2 x.f2, x.f3⟩ := by
  unfold nodeP
  rw [c]
  rfl
theorem partsC_leaf {c : Nat} (h : c = 0 ∨ c = 1) (a b : Int) : partsC c a b = [] := by rcases h with rfl | rfl <;> rfl
theorem exW_fix (l : List Node) (hl : l.length ≤ 1000) (ok : okNs 0 l = true) : ∀ (d i : Nat) (s : ShSt), i < d → i < l.length → s.2.length = l.length → s.1.length ≤ nmd s.2 → Ev (fun k => exW k l d i s) (shD l d i s, rd (shD l d i s).2 (i : Int))
  | 0, _, _, h, _, _, _ => absurd h (by omega)
  | d + 1, i, s, hd, hi, h1, h2 => by
    have hr : rd_T72 l (i : Int) = l[i] := rdN_eq (getD_eq l i hi)
    have hok := okNs_get l 0 i hi ok
    rw [Nat.zero_add] at hok
    have fin : ∀ (n : Node) (S : ShSt), S.2.length = l.length → S.1.length ≤ nmd S.2 → Ev (fun _ : Nat => if S.1.length < 1048576 then some (((exPut n S.1).1, S.2.set (i : Int).toNat (exPut n S.1).2), (exPut n S.1).2) else none) (putP n i S, rd (putP n i S).2 (i : Int)) := fun n S a b => by
      have := nmd_le S.2
      refine Ev.ifp (by omega) (Ev.some ?_)
      unfold putP
      simp only
      rw [Int.toNat_natCast, rd_set _ _ _ _ (by omega), if_pos rfl]
    simp only [exW, shD]
    rw [hr, getN_eq hi]
    refine Ev.ifp ⟨by omega, by omega⟩ ?_
    by_cases q : 0 ≤ rd s.2 (i : Int)
    · rw [if_pos q]
      exact Ev.ifp q (Ev.some rfl)
    rw [if_neg q]
    refine Ev.ifn q (Ev.bind (exParts_ev l[i]) (Ev.ifp (by have := (parts_ok hok).1; omega) ?_))
    generalize l[i] = x at hok ⊢
    rcases kN_le x.f0 with c | c | c | c | c
    · rw [partsC_leaf (.inl c), List.foldl_nil, nodeP_leaf s (.inl c)]
      refine Ev.bind (Ev.ifn (by simp) (Ev.now _)) (Ev.bind (Ev.ifn (by simp) (Ev.now _)) (ev_eq (fin ⟨x.f0, 0, 0, x.f3⟩ s h1 h2) (congrArg (fun n => (putP n i s, rd (putP n i s).2 (i : Int))) (leafN hok (.inl c)).symm)))
    · rw [partsC_leaf (.inr c), List.foldl_nil, nodeP_leaf s (.inr c)]
      refine Ev.bind (Ev.ifn (by simp) (Ev.now _)) (Ev.bind (Ev.ifn (by simp) (Ev.now _)) (ev_eq (fin ⟨x.f0, 0, 0, x.f3⟩ s h1 h2) (congrArg (fun n => (putP n i s, rd (putP n i s).2 (i : Int))) (leafN hok (.inr c)).symm)))
    · obtain ⟨e0, e1, e2⟩ := okN_un hok c
      rw [show partsC (kN x.f0) x.f1 x.f2 = [x.f1] by rw [c]; rfl, List.foldl_cons, List.foldl_nil, nodeP_un _ c, e0]
      obtain ⟨p, hp⟩ := Int.eq_ofNat_of_zero_le e1
      rw [hp] at e2 ⊢
      obtain ⟨m1, m2⟩ := shD_ok l ok d p s (by omega) (by omega) h1 h2
      refine Ev.bind (Ev.ifp (by simp) (exW_fix l hl ok d p s (by omega) (by omega) h1 h2)) (Ev.bind (Ev.ifn (by simp) (Ev.now _)) ?_)
      exact fin ⟨x.f0, rd (shD l d p s).2 (p : Int), 0, x.f3⟩ (shD l d p s) m1.len m1.cnt
    · obtain ⟨⟨e1, e2⟩, e4, e5⟩ := okN_bi hok c
      rw [show partsC (kN x.f0) x.f1 x.f2 = [x.f1, x.f2] by rw [c]; rfl, List.foldl_cons, List.foldl_cons, List.foldl_nil, nodeP_bi _ c]
      obtain ⟨p, hp⟩ := Int.eq_ofNat_of_zero_le e1
      obtain ⟨p', hp'⟩ := Int.eq_ofNat_of_zero_le e4
      rw [hp] at e2 ⊢
      rw [hp'] at e5 ⊢
      obtain ⟨m1, m2⟩ := shD_ok l ok d p s (by omega) (by omega) h1 h2
      obtain ⟨n1, n2⟩ := shD_ok l ok d p' (shD l d p s) (by omega) (by omega) m1.len m1.cnt
      refine Ev.bind (Ev.ifp (by simp) (exW_fix l hl ok d p s (by omega) (by omega) h1 h2)) (Ev.bind (Ev.ifp (by simp) (exW_fix l hl ok d p' _ (by omega) (by omega) m1.len m1.cnt)) ?_)
      rw [n1.keep p m2]
      exact fin ⟨x.f0, rd (shD l d p s).2 (p : Int), rd (shD l d p' (shD l d p s)).2 (p' : Int), x.f3⟩ (shD l d p' (shD l d p s)) n1.len n1.cnt
    · exact (okN_none hok c).elim
def shP (l : List Node) : List Node := (shD l l.length ((l.length - 1 : Nat) : Int) ([], List.replicate l.length (-1))).1
theorem exShare_ev (l : List Node) (h0 : 0 < l.length) (hl : l.length ≤ 1000) (ok : okNs 0 l = true) : Ev (fun k => spec_exShare.f k l) (shP l) := by
  unfold spec_exShare.f
  refine Ev.ifp (by omega) ?_
  have := exW_ev l l.length ((l.length - 1 : Nat) : Int) ([], List.replicate l.length (-1)) _ (exW_fix l hl ok l.length (l.length - 1) _ (by omega) (by omega) (by simp) (by simp))
  rw [show ((l.length - 1 : Nat) : Int) = (l.length : Int) - 1 by omega] at this
  refine Ev.bind this (Ev.some ?_)
  unfold shP
  rw [show ((l.length - 1 : Nat) : Int) = (l.length : Int) - 1 by omega]
theorem exEq_iff (x y : Node) : exEq x y = true ↔ x = y := by
  obtain ⟨a, b, c, d⟩ := x
  obtain ⟨a', b', c', d'⟩ := y
  unfold exEq
  simp only [Bool.and_eq_true, beq_iff_eq, str_eq, S72.mk.injEq]
theorem exEq_comm (x y : Node) : exEq x y = exEq y x := by
  rw [Bool.eq_iff_iff, exEq_iff, exEq_iff]
  exact eq_comm
theorem exIx_off (n : Node) : ∀ (xs : List Node) (i : Int), 0 ≤ i → exIx n xs i = if idx (exEq n) xs < 0 then -1 else i + idx (exEq n) xs
  | [], i, _ => by simp [exIx, idx]
  | x :: xs, i, h => by
    unfold exIx idx
    by_cases q : exEq n x = true
    · rw [if_pos (by rw [exEq_comm]; exact q), if_pos q, if_neg (by decide)]
      omega
    · rw [if_neg (by rw [exEq_comm]; exact q), if_neg q, exIx_off n xs (i + 1) (by omega)]
      by_cases r : idx (exEq n) xs < 0
      · rw [if_pos r, if_pos r, if_pos (by decide)]
      · rw [if_neg r, if_neg r, if_neg (by omega)]
        omega
theorem exIx_idx (n : Node) (xs : List Node) : exIx n xs 0 = idx (exEq n) xs := by
  rw [exIx_off n xs 0 (by omega)]
  have := idx_ge (exEq n) xs
  split <;> omega
theorem nodeIdx_ev (l : List Node) (n : Node) (hl : l.length ≤ 1048576) : Ev (fun k => impl_Node_152.f k l n.f0 n.f1 n.f2 n.f3) (idx (exEq n) l) := by
  unfold impl_Node_152.f
  refine search_ev l _ (fun k i => impl_Node_152.l0 k l l.length i n.f0 n.f1 n.f2 n.f3) ?_ (fun i x hi hx hp => ?_) (fun i x r hi hx hp hr => ?_)
  · refine Ev.step (f := fun _ => some (-1)) (fun k => ?_) (Ev.now _)
    simp only [impl_Node_152.l0]
    rw [if_neg (by omega)]
  · refine Ev.step (f := fun _ => some (i : Int)) (fun k => ?_) (Ev.now _)
    unfold exEq at hp
    simp only [impl_Node_152.l0, rdN_eq hx]
    rw [if_pos (by omega), if_pos (by omega), if_pos (by omega), if_pos hp]
  · refine Ev.step (fun k => ?_) hr
    unfold exEq at hp
    simp only [impl_Node_152.l0, rdN_eq hx]
    rw [if_pos (by omega), if_pos (by omega), if_pos (by omega), if_neg (by rw [hp]; decide), w64n i (by omega)]
theorem ren_ev (x : Node) (i : Int) (h : okNx x i = true) (s : ShSt) (hi : i ≤ s.2.length) : Ev (fun k => impl_Node_renamed.f k x.f0 x.f1 x.f2 x.f3 s.2) ((nodeP x s).f0, (nodeP x s).f1, (nodeP x s).f2, (nodeP x s).f3) := by
  unfold impl_Node_renamed.f
  refine Ev.bind (operands_ev x.f0) ?_
  rcases kN_le x.f0 with c | c | c | c | c
  · rw [nodeP_leaf s (.inl c), c]
    exact Ev.ifn (by decide) (Ev.ifn (by decide) (Ev.now _))
  · rw [nodeP_leaf s (.inr c), c]
    exact Ev.ifn (by decide) (Ev.ifn (by decide) (Ev.now _))
  · obtain ⟨e0, e1, e2⟩ := okN_un h c
    rw [nodeP_un s c, c]
    exact Ev.ifp (by decide) (Ev.ifp e1 (Ev.ifp (by omega) (Ev.ifn (by decide) (Ev.now _))))
  · obtain ⟨⟨e1, e2⟩, e4, e5⟩ := okN_bi h c
    rw [nodeP_bi s c, c]
    exact Ev.ifp (by decide) (Ev.ifp e1 (Ev.ifp (by omega) (Ev.ifp (by decide) (Ev.ifp e4 (Ev.ifp (by omega) (Ev.now _))))))
  · exact (okN_none h c).elim
theorem shPut_ev (n : Node) (i : Int) (s : ShSt) (hs : s.1.length ≤ 1000) : Ev (fun k => shPut k i n s) (putP n i s) := by
  unfold shPut putP exPut
  refine Ev.ifp (by omega) (Ev.bind (nodeIdx_ev s.1 n (by omega)) (Ev.some ?_))
  rw [exIx_idx]
  split <;> rfl
theorem shW_fix (l : List Node) (hl : l.length ≤ 1000) (ok : okNs 0 l = true) : ∀ (d i : Nat) (s : ShSt), i < d → i < l.length → s.2.length = l.length → s.1.length ≤ nmd s.2 → Ev (fun k => shW k l d i s) (shD l d i s)
  | 0, _, _, h, _, _, _ => absurd h (by omega)
  | d + 1, i, s, hd, hi, h1, h2 => by
    have hr : rd_T72 l (i : Int) = l[i] := rdN_eq (getD_eq l i hi)
    have hok := okNs_get l 0 i hi ok
    rw [Nat.zero_add] at hok
    simp only [shW, shD]
    rw [hr, getN_eq hi]
    refine Ev.ifp ⟨by omega, by omega⟩ ?_
    by_cases q : 0 ≤ rd s.2 (i : Int)
    · rw [if_pos q]
      exact Ev.ifp q (Ev.some rfl)
    rw [if_neg q]
    refine Ev.ifn q (Ev.bind (of_ev l[i]) (Ev.ifp (by have := (parts_ok hok).1; omega) ?_))
    generalize l[i] = x at hok ⊢
    have fin : ∀ S : ShSt, S.2.length = l.length → S.1.length ≤ nmd S.2 → Ev (fun k => (impl_Node_renamed.f k x.f0 x.f1 x.f2 x.f3 S.2).bind fun n => shPut k i ⟨n.1, n.2.1, n.2.2.1, n.2.2.2⟩ S) (putP (nodeP x S) i S) := fun S a b => by
      have := nmd_le S.2
      exact Ev.bind (ren_ev x i hok S (by omega)) (shPut_ev (nodeP x S) i S (by omega))
    rcases kN_le x.f0 with c | c | c | c | c
    · rw [partsC_leaf (.inl c), List.foldl_nil]
      exact Ev.bind (Ev.now s) (fin s h1 h2)
    · rw [partsC_leaf (.inr c), List.foldl_nil]
      exact Ev.bind (Ev.now s) (fin s h1 h2)
    · obtain ⟨e0, e1, e2⟩ := okN_un hok c
      rw [show partsC (kN x.f0) x.f1 x.f2 = [x.f1] by rw [c]; rfl, List.foldl_cons, List.foldl_nil]
      obtain ⟨p, hp⟩ := Int.eq_ofNat_of_zero_le e1
      rw [hp] at e2 ⊢
      obtain ⟨m1, m2⟩ := shD_ok l ok d p s (by omega) (by omega) h1 h2
      refine Ev.bind (Ev.bind (shW_fix l hl ok d p s (by omega) (by omega) h1 h2) (Ev.now _)) ?_
      rw [← hp]
      exact fin _ (by rw [hp]; exact m1.len) (by rw [hp]; exact m1.cnt)
    · obtain ⟨⟨e1, e2⟩, e4, e5⟩ := okN_bi hok c
      rw [show partsC (kN x.f0) x.f1 x.f2 = [x.f1, x.f2] by rw [c]; rfl, List.foldl_cons, List.foldl_cons, List.foldl_nil]
      obtain ⟨p, hp⟩ := Int.eq_ofNat_of_zero_le e1
      obtain ⟨p', hp'⟩ := Int.eq_ofNat_of_zero_le e4
      rw [hp] at e2 ⊢
      rw [hp'] at e5 ⊢
      obtain ⟨m1, m2⟩ := shD_ok l ok d p s (by omega) (by omega) h1 h2
      obtain ⟨n1, n2⟩ := shD_ok l ok d p' (shD l d p s) (by omega) (by omega) m1.len m1.cnt
      refine Ev.bind (Ev.bind (shW_fix l hl ok d p s (by omega) (by omega) h1 h2) (Ev.bind (shW_fix l hl ok d p' _ (by omega) (by omega) m1.len m1.cnt) (Ev.now _))) ?_
      rw [← hp, ← hp']
      exact fin _ (by rw [hp, hp']; exact n1.len) (by rw [hp, hp']; exact n1.cnt)
    · exact (okN_none hok c).elim
theorem share_ev (l : List Node) (h0 : 0 < l.length) (hl : l.length ≤ 1000) (ok : okNs 0 l = true) : Ev (fun k => impl_share.f k l) (shP l) := by
  unfold impl_share.f
  refine Ev.ifp (by omega) (Ev.call (a := List.replicate l.length (-1)) ?_ ?_)
  · unfold slices_Repeat_int_int.f
    rw [if_pos ⟨rfl, by omega, by omega⟩, Int.toNat_natCast]
    rfl
  have := shW_ev l l.length ((l.length - 1 : Nat) : Int) ([], List.replicate l.length (-1)) _ (shW_fix l hl ok l.length (l.length - 1) _ (by omega) (by omega) (by simp) (by simp))
  rw [show ((l.length - 1 : Nat) : Int) = (l.length : Int) - 1 by omega] at this
  refine Ev.ifp (by simp) (Ev.bind this (Ev.some ?_))
  unfold shP
  rw [show ((l.length - 1 : Nat) : Int) = (l.length : Int) - 1 by omega]
theorem okNs_app (x : Node) : ∀ (xs : List Node) (i : Nat), okNs i (xs ++ [x]) = (okNs i xs && okNx x ((i + xs.length : Nat) : Int))
  | [], i => by simp [okNs]
  | y :: ys, i => by
    simp only [List.cons_append, okNs, okNs_app x ys (i + 1), List.length_cons, Bool.and_assoc]
    rw [show i + 1 + ys.length = i + (ys.length + 1) by omega]
theorem okN_node {x : Node} {i m : Int} (h : okNx x i = true) {s : ShSt} (hp : ∀ p ∈ partsC (kN x.f0) x.f1 x.f2, 0 ≤ rd s.2 p ∧ rd s.2 p < m) : okNx (nodeP x s) m = true := by
  rcases kN_le x.f0 with c | c | c | c | c
  · rw [nodeP_leaf s (.inl c)]
    unfold okNx at h ⊢
    rw [c] at h ⊢
    exact h
  · rw [nodeP_leaf s (.inr c)]
    unfold okNx at h ⊢
    rw [c] at h ⊢
    exact h
  · rw [nodeP_un s c]
    rw [c] at hp
    have := hp x.f1 (by simp [partsC])
    unfold okNx at h ⊢
    simp only
    rw [c] at h ⊢
    simp [okNd] at h ⊢
    omega
  · rw [nodeP_bi s c]
    rw [c] at hp
    have := hp x.f1 (by simp [partsC])
    have := hp x.f2 (by simp [partsC])
    unfold okNx at h ⊢
    simp only
    rw [c] at h ⊢
    simp [okNd] at h ⊢
    omega
  · exact (okN_none h c).elim
inductive Tr where
  | lf (op : ByteArray) (v : Int) : Tr
  | un (op : ByteArray) (v : Int) (t : Tr) : Tr
  | bi (op : ByteArray) (v : Int) (t u : Tr) : Tr
def trN (x : Node) (g : Int → Tr) : Tr := match kN x.f0 with
  | 2 => .un x.f0 x.f3 (g x.f1)
  | 3 => .bi x.f0 x.f3 (g x.f1) (g x.f2)
  | _ => .lf x.f0 x.f3
def trOf (l : List Node) : Nat → Int → Tr
  | 0, _ => .lf ⟨#[]⟩ 0
  | d + 1, i => trN (l.getD i.toNat ⟨⟨#[]⟩, 0, 0, 0⟩) (trOf l d)
theorem trN_leaf {x : Node} (g : Int → Tr) (c : kN x.f0 = 0 ∨ kN x.f0 = 1) : trN x g = .lf x.f0 x.f3 := by
  unfold trN
  rcases c with c | c <;> rw [c] <;> rfl
theorem trN_un {x : Node} (g : Int → Tr) (c : kN x.f0 = 2) : trN x g = .un x.f0 x.f3 (g x.f1) := by
  unfold trN
  rw [c]
  rfl
theorem trN_bi {x : Node} (g : Int → Tr) (c : kN x.f0 = 3) : trN x g = .bi x.f0 x.f3 (g x.f1) (g x.f2) := by
  unfold trN
  rw [c]
  rfl
theorem trN_congr {x : Node} {i : Int} (h : okNx x i = true) {g g' : Int → Tr} (hg : ∀ p, 0 ≤ p → p ≤ i - 1 → g p = g' p) : trN x g = trN x g' := by
  obtain ⟨_, hp⟩ := parts_ok h
  unfold trN
  rcases kN_le x.f0 with c | c | c | c | c <;> rw [c] at hp ⊢ <;> simp only [partsC] at hp ⊢
  · rw [hg _ (hp _ (by simp)).1 (hp _ (by simp)).2]
  · rw [hg _ (hp _ (by simp)).1 (hp _ (by simp)).2, hg x.f2 (hp _ (by simp)).1 (hp _ (by simp)).2]
theorem trOf_fuel {l : List Node} (ok : okNs 0 l = true) : ∀ (d d' i : Nat), i < d → i < d' → i < l.length → trOf l d i = trOf l d' i
  | 0, _, _, h, _, _ => absurd h (by omega)
  | _ + 1, 0, _, _, h, _ => absurd h (by omega)
  | d + 1, d' + 1, i, h, h', hi => by
    unfold trOf
    rw [getN_eq hi]
    have hok := okNs_get l 0 i hi ok
    rw [Nat.zero_add] at hok
    refine trN_congr hok (fun p p0 p1 => ?_)
    obtain ⟨p, rfl⟩ := Int.eq_ofNat_of_zero_le p0
    exact trOf_fuel ok d d' p (by omega) (by omega) (by omega)
def wT : Tr → List Node → List Node × Int
  | .lf op v, out => exPut ⟨op, 0, 0, v⟩ out
  | .un op v t, out => exPut ⟨op, (wT t out).2, 0, v⟩ (wT t out).1
  | .bi op v t u, out => exPut ⟨op, (wT t out).2, (wT u (wT t out).1).2, v⟩ (wT u (wT t out).1).1
theorem exEq_refl (x : Node) : exEq x x = true := by unfold exEq; simp
theorem exIx_pos {x n : Node} (q : exEq x n = true) (xs : List Node) (i : Int) : exIx n (x :: xs) i = i := by rw [exIx, if_pos q]
theorem exIx_neg {x n : Node} (q : ¬ exEq x n = true) (xs : List Node) (i : Int) : exIx n (x :: xs) i = exIx n xs (i + 1) := by rw [exIx, if_neg q]
theorem exIx_app (n : Node) (ys : List Node) : ∀ (xs : List Node) (i : Int), 0 ≤ i → exIx n (xs ++ ys) i = if exIx n xs i < 0 then exIx n ys (i + xs.length) else exIx n xs i
  | [], i, h => by simp [exIx]
  | x :: xs, i, h => by
    rw [List.cons_append]
    by_cases q : exEq x n = true
    · rw [exIx_pos q, exIx_pos q, if_neg (by omega)]
    · rw [exIx_neg q, exIx_neg q, exIx_app n ys xs (i + 1) (by omega)]
      simp only [List.length_cons]
      rw [show i + 1 + (xs.length : Int) = i + ((xs.length + 1 : Nat) : Int) by omega]
theorem exPut_app (n : Node) (out : List Node) : ∃ ys, (exPut n out).1 = out ++ ys := by
  unfold exPut
  split
  · exact ⟨[n], rfl⟩
  · exact ⟨[], by simp⟩
theorem exPut_idem (n : Node) (out ys : List Node) : exPut n ((exPut n out).1 ++ ys) = ((exPut n out).1 ++ ys, (exPut n out).2) := by
  by_cases q : exIx n out 0 < 0
  · have e : exPut n out = (out ++ [n], (out.length : Int)) := by unfold exPut; rw [if_pos q]
    rw [e]
    have e2 : exIx n (out ++ [n] ++ ys) 0 = out.length := by
      rw [List.append_assoc, exIx_app n _ out 0 (by omega), if_pos q]
      rw [List.cons_append, exIx_pos (exEq_refl n)]
      omega
    unfold exPut
    rw [e2, if_neg (by omega)]
  · have e : exPut n out = (out, exIx n out 0) := by unfold exPut; rw [if_neg q]
    rw [e]
    have e2 : exIx n (out ++ ys) 0 = exIx n out 0 := by rw [exIx_app n _ out 0 (by omega), if_neg q]
    unfold exPut
    rw [e2, if_neg q]
theorem wT_app : ∀ (t : Tr) (out : List Node), ∃ ys, (wT t out).1 = out ++ ys
  | .lf op v, out => exPut_app _ _
  | .un op v t, out => by
    obtain ⟨ys, h⟩ := wT_app t out
    obtain ⟨zs, h'⟩ := exPut_app ⟨op, (wT t out).2, 0, v⟩ (wT t out).1
    exact ⟨ys ++ zs, by unfold wT; rw [h', h, List.append_assoc]⟩
  | .bi op v t u, out => by
    obtain ⟨ys, h⟩ := wT_app t out
    obtain ⟨ys', h2⟩ := wT_app u (wT t out).1
    obtain ⟨zs, h'⟩ := exPut_app ⟨op, (wT t out).2, (wT u (wT t out).1).2, v⟩ (wT u (wT t out).1).1
    exact ⟨ys ++ (ys' ++ zs), by unfold wT; rw [h', h2, h]; simp only [List.append_assoc]⟩
theorem wT_nn : ∀ (t : Tr) (out : List Node), 0 ≤ (wT t out).2
  | .lf op v, out => exPut_nn _ _
  | .un op v t, out => exPut_nn _ _
  | .bi op v t u, out => exPut_nn _ _
theorem wT_idem : ∀ (t : Tr) (out ys : List Node), wT t ((wT t out).1 ++ ys) = ((wT t out).1 ++ ys, (wT t out).2)
  | .lf op v, out, ys => exPut_idem _ _ _
  | .un op v t, out, ys => by
    obtain ⟨zs, h'⟩ := exPut_app ⟨op, (wT t out).2, 0, v⟩ (wT t out).1
    have e : (wT (.un op v t) out).1 ++ ys = (wT t out).1 ++ (zs ++ ys) := by
      show (exPut ⟨op, (wT t out).2, 0, v⟩ (wT t out).1).1 ++ ys = _
      rw [h', List.append_assoc]
    have e2 := wT_idem t out (zs ++ ys)
    rw [e]
    show exPut ⟨op, (wT t ((wT t out).1 ++ (zs ++ ys))).2, 0, v⟩ (wT t ((wT t out).1 ++ (zs ++ ys))).1 = _
    rw [e2, ← e]
    exact exPut_idem _ _ _
  | .bi op v t u, out, ys => by
    obtain ⟨ws, h⟩ := wT_app u (wT t out).1
    obtain ⟨zs, h'⟩ := exPut_app ⟨op, (wT t out).2, (wT u (wT t out).1).2, v⟩ (wT u (wT t out).1).1
    have e1 : (wT (.bi op v t u) out).1 ++ ys = (wT u (wT t out).1).1 ++ (zs ++ ys) := by
      show (exPut ⟨op, (wT t out).2, (wT u (wT t out).1).2, v⟩ (wT u (wT t out).1).1).1 ++ ys = _
      rw [h', List.append_assoc]
    have e : (wT (.bi op v t u) out).1 ++ ys = (wT t out).1 ++ (ws ++ (zs ++ ys)) := by rw [e1, h, List.append_assoc]
    have e2 := wT_idem t out (ws ++ (zs ++ ys))
    rw [← e] at e2
    have e3 := wT_idem u (wT t out).1 (zs ++ ys)
    rw [← e1] at e3
    show exPut ⟨op, (wT t ((wT (.bi op v t u) out).1 ++ ys)).2, (wT u (wT t ((wT (.bi op v t u) out).1 ++ ys)).1).2, v⟩ (wT u (wT t ((wT (.bi op v t u) out).1 ++ ys)).1).1 = _
    rw [e2]
    simp only
    rw [e3]
    exact exPut_idem _ _ _
theorem wT_stay {t : Tr} {out : List Node} {r : Int} (h : wT t out = (out, r)) (ys : List Node) : wT t (out ++ ys) = (out ++ ys, r) := by
  have := wT_idem t out ys
  rwa [h] at this
structure Mem (l : List Node) (s : ShSt) : Prop where
  len : s.2.length = l.length
  mem : ∀ j : Nat, j < l.length → 0 ≤ rd s.2 (j : Int) → wT (trOf l (j + 1) j) s.1 = (s.1, rd s.2 (j : Int))
theorem put_mem {l : List Node} {i : Nat} {n : Node} {s : ShSt} (hi : i < l.length) (h : Mem l s) (hn : exPut n s.1 = wT (trOf l (i + 1) i) s.1) : Mem l (putP n i s) ∧ (putP n i s).1 = (wT (trOf l (i + 1) i) s.1).1 ∧ rd (putP n i s).2 (i : Int) = (wT (trOf l (i + 1) i) s.1).2 := by
  have hl : i < s.2.length := by rw [h.len]; exact hi
  have e1 : (putP n i s).1 = (wT (trOf l (i + 1) i) s.1).1 := by unfold putP; rw [hn]
  have e2 : ∀ j : Nat, rd (putP n i s).2 (j : Int) = if i = j then (wT (trOf l (i + 1) i) s.1).2 else rd s.2 (j : Int) := fun j => by
    unfold putP
    simp only
    rw [Int.toNat_natCast, rd_set _ _ _ _ hl, hn]
  refine ⟨⟨by unfold putP; simp [h.len], fun j hj h0 => ?_⟩, e1, by rw [e2, if_pos rfl]⟩
  rw [e1, e2]
  rw [e2] at h0
  by_cases q : i = j
  · subst q
    rw [if_pos rfl]
    have := wT_idem (trOf l (i + 1) i) s.1 []
    rwa [List.append_nil] at this
  · rw [if_neg q] at h0 ⊢
    obtain ⟨ys, hy⟩ := wT_app (trOf l (i + 1) i) s.1
    rw [hy]
    exact wT_stay (h.mem j hj h0) ys
theorem shD_tr {l : List Node} (ok : okNs 0 l = true) : ∀ (d i : Nat) (s : ShSt), i < d → i < l.length → Mem l s → Mem l (shD l d i s) ∧ (shD l d i s).1 = (wT (trOf l (i + 1) i) s.1).1 ∧ rd (shD l d i s).2 (i : Int) = (wT (trOf l (i + 1) i) s.1).2 ∧ ∀ j : Nat, 0 ≤ rd s.2 (j : Int) ∨ i < j → rd (shD l d i s).2 (j : Int) = rd s.2 (j : Int)
  | 0, _, _, h, _, _ => absurd h (by omega)
  | d + 1, i, s, hd, hi, hm => by
    have hok := okNs_get l 0 i hi ok
    rw [Nat.zero_add] at hok
    have hq : ∀ (s1 : ShSt) (n : Node), s1.2.length = l.length → ∀ j : Nat, i ≠ j → rd (putP n i s1).2 (j : Int) = rd s1.2 (j : Int) := fun s1 n h1 j h3 => by
      unfold putP
      simp only
      rw [Int.toNat_natCast, rd_set _ _ _ _ (by omega), if_neg h3]
    unfold shD
    by_cases q : 0 ≤ rd s.2 (i : Int)
    · rw [if_pos q]
      have := hm.mem i hi q
      exact ⟨hm, by rw [this], by rw [this], fun _ _ => rfl⟩
    have hne : ∀ j : Nat, 0 ≤ rd s.2 (j : Int) ∨ i < j → i ≠ j := fun j h e => by subst e; omega
    rw [if_neg q, getN_eq hi]
    have ht : trOf l (i + 1) i = trN l[i] (trOf l i) := by
      show trN (l.getD (i : Int).toNat ⟨⟨#[]⟩, 0, 0, 0⟩) (trOf l i) = _
      rw [getN_eq hi]
    have hx : l[i] = ⟨l[i].f0, l[i].f1, l[i].f2, l[i].f3⟩ := rfl
    generalize l[i] = x at hok ht hx ⊢
    have leaf : kN x.f0 = 0 ∨ kN x.f0 = 1 → trOf l (i + 1) i = .lf x.f0 x.f3 ∧ x = ⟨x.f0, 0, 0, x.f3⟩ := fun c => ⟨by rw [ht, trN_leaf _ c], leafN hok c⟩
    rcases kN_le x.f0 with c | c | c | c | c
    · obtain ⟨t, e⟩ := leaf (.inl c)
      simp only [c, partsC, List.foldl_nil, nodeP]
      obtain ⟨h1, h2, h3⟩ := put_mem (n := x) hi hm (by rw [t]; exact congrArg (fun y => exPut y s.1) e)
      exact ⟨h1, h2, h3, fun j h0 => hq s x hm.len j (hne j h0)⟩
    · obtain ⟨t, e⟩ := leaf (.inr c)
      simp only [c, partsC, List.foldl_nil, nodeP]
      obtain ⟨h1, h2, h3⟩ := put_mem (n := x) hi hm (by rw [t]; exact congrArg (fun y => exPut y s.1) e)
      exact ⟨h1, h2, h3, fun j h0 => hq s x hm.len j (hne j h0)⟩
    · obtain ⟨e0, e1, e2⟩ := okN_un hok c
      simp only [c, partsC, List.foldl_nil, List.foldl_cons, nodeP]
      have e3 : trOf l (i + 1) i = .un x.f0 x.f3 (trOf l i x.f1) := by rw [ht, trN_un _ c]
      rw [e0]
      obtain ⟨p, hp⟩ := Int.eq_ofNat_of_zero_le e1
      rw [hp] at e2 e3 ⊢
      rw [trOf_fuel ok i (p + 1) p (by omega) (by omega) (by omega)] at e3
      obtain ⟨m1, m2, m3, m4⟩ := shD_tr ok d p s (by omega) (by omega) hm
      have m5 : 0 ≤ rd (shD l d p s).2 (p : Int) := by rw [m3]; exact wT_nn _ _
      have m6 := m1.mem p (by omega) m5
      have w1 : wT (trOf l (i + 1) i) (shD l d p s).1 = exPut ⟨x.f0, rd (shD l d p s).2 (p : Int), 0, x.f3⟩ (shD l d p s).1 := by
        rw [e3]
        simp only [wT]
        rw [m6]
      have w0 : wT (trOf l (i + 1) i) s.1 = exPut ⟨x.f0, rd (shD l d p s).2 (p : Int), 0, x.f3⟩ (shD l d p s).1 := by
        rw [e3]
        simp only [wT]
        rw [m2, m3]
      obtain ⟨h1, h2, h3⟩ := put_mem hi m1 w1.symm
      rw [w1] at h2 h3
      rw [w0]
      exact ⟨h1, h2, h3, fun j h0 => by rw [hq _ _ m1.len j (hne j h0), m4 j (h0.imp id (fun _ => by omega))]⟩
    · obtain ⟨⟨e1, e2⟩, e4, e5⟩ := okN_bi hok c
      simp only [c, partsC, List.foldl_nil, List.foldl_cons, nodeP]
      have e3 : trOf l (i + 1) i = .bi x.f0 x.f3 (trOf l i x.f1) (trOf l i x.f2) := by rw [ht, trN_bi _ c]
      obtain ⟨p, hp⟩ := Int.eq_ofNat_of_zero_le e1
      obtain ⟨p', hp'⟩ := Int.eq_ofNat_of_zero_le e4
      rw [hp] at e2 e3 ⊢
      rw [hp'] at e5 e3 ⊢
      rw [trOf_fuel ok i (p + 1) p (by omega) (by omega) (by omega), trOf_fuel ok i (p' + 1) p' (by omega) (by omega) (by omega)] at e3
      obtain ⟨m1, m2, m3, m4⟩ := shD_tr ok d p s (by omega) (by omega) hm
      generalize shD l d p s = s1 at *
      have m5 : 0 ≤ rd s1.2 (p : Int) := by rw [m3]; exact wT_nn _ _
      obtain ⟨n1, n2, n3, n4⟩ := shD_tr ok d p' s1 (by omega) (by omega) m1
      generalize shD l d p' s1 = s2 at *
      have n5 : 0 ≤ rd s2.2 (p' : Int) := by rw [n3]; exact wT_nn _ _
      have n6 := n4 p (.inl m5)
      have n7 := n1.mem p (by omega) (by omega)
      have n8 := n1.mem p' (by omega) n5
      have w1 : wT (trOf l (i + 1) i) s2.1 = exPut ⟨x.f0, rd s2.2 (p : Int), rd s2.2 (p' : Int), x.f3⟩ s2.1 := by
        rw [e3]
        simp only [wT]
        rw [n7]
        simp only
        rw [n8]
      have w0 : wT (trOf l (i + 1) i) s.1 = exPut ⟨x.f0, rd s2.2 (p : Int), rd s2.2 (p' : Int), x.f3⟩ s2.1 := by
        rw [e3]
        simp only [wT]
        rw [← m2, ← m3, ← n2, ← n3, n6]
      obtain ⟨h1, h2, h3⟩ := put_mem hi n1 w1.symm
      rw [w1] at h2 h3
      rw [w0]
      exact ⟨h1, h2, h3, fun j h0 => by rw [hq _ _ n1.len j (hne j h0), n4 j (by rcases h0 with h0 | h0; · exact .inl (by rw [m4 j (.inl h0)]; exact h0)
                                                                                 · exact .inr (by omega)), m4 j (h0.imp id (fun _ => by omega))]⟩
    · exact (okN_none hok c).elim
theorem shP_tr {l : List Node} (ok : okNs 0 l = true) (h : 0 < l.length) : shP l = (wT (trOf l l.length ((l.length - 1 : Nat) : Int)) []).1 := by
  have hm : Mem l ([], List.replicate l.length (-1)) := ⟨by simp, fun j hj h0 => by
    exfalso
    unfold rd at h0
    rw [Int.toNat_natCast, getD_eq _ j (by simpa using hj)] at h0
    simp at h0⟩
  have := (shD_tr ok l.length (l.length - 1) _ (by omega) (by omega) hm).2.1
  unfold shP
  rw [this, show l.length - 1 + 1 = l.length by omega]
def TRN (ns : List Node) (i : Int) : Tr := trOf ns ns.length i
theorem okNs_left : ∀ (xs ys : List Node) (i : Nat), okNs i (xs ++ ys) = true → okNs i xs = true
  | [], _, _, _ => rfl
  | x :: xs, ys, i, h => by
    simp only [List.cons_append, okNs, Bool.and_eq_true] at h ⊢
    exact ⟨h.1, okNs_left xs ys (i + 1) h.2⟩
theorem trOf_app {ns ys : List Node} (ok : okNs 0 (ns ++ ys) = true) : ∀ (d i : Nat), i < d → i < ns.length → trOf (ns ++ ys) d i = trOf ns d i
  | 0, _, h, _ => absurd h (by omega)
  | d + 1, i, h, hi => by
    unfold trOf
    rw [getN_eq hi, getN_eq (show i < (ns ++ ys).length by simp; omega), List.getElem_append_left hi]
    have hok := okNs_get ns 0 i hi (okNs_left ns ys 0 ok)
    rw [Nat.zero_add] at hok
    refine trN_congr hok (fun p p0 p1 => ?_)
    obtain ⟨p, rfl⟩ := Int.eq_ofNat_of_zero_le p0
    exact trOf_app ok d p (by omega) (by omega)
theorem trn_app {ns : List Node} {n : Node} (ok : okNs 0 (ns ++ [n]) = true) (i : Nat) (hi : i < ns.length) : TRN (ns ++ [n]) (i : Int) = TRN ns (i : Int) := by
  unfold TRN
  rw [trOf_fuel ok _ ns.length i (by simp; omega) hi (by simp; omega), trOf_app ok _ i hi hi]
theorem trn_new {ns : List Node} {n : Node} (ok : okNs 0 (ns ++ [n]) = true) : TRN (ns ++ [n]) (ns.length : Int) = trN n (TRN ns) := by
  have hn : okNx n (ns.length : Int) = true := by
    have := okNs_app n ns 0
    rw [ok, Nat.zero_add] at this
    exact (Bool.and_eq_true _ _ ▸ this.symm : (okNs 0 ns && okNx n (ns.length : Int)) = true) |> fun h => (Bool.and_eq_true _ _ ▸ h : okNs 0 ns = true ∧ okNx n (ns.length : Int) = true).2
  unfold TRN
  rw [show (ns ++ [n]).length = ns.length + 1 by simp]
  show trN ((ns ++ [n]).getD (ns.length : Int).toNat ⟨⟨#[]⟩, 0, 0, 0⟩) (trOf (ns ++ [n]) ns.length) = trN n (trOf ns ns.length)
  rw [getN_eq (show ns.length < (ns ++ [n]).length by simp), List.getElem_concat_length rfl]
  refine trN_congr hn (fun p p0 p1 => ?_)
  obtain ⟨p, rfl⟩ := Int.eq_ofNat_of_zero_le p0
  exact trOf_app ok ns.length p (by omega) (by omega)
theorem trN_node (x : Node) (s : ShSt) (g : Int → Tr) : trN (nodeP x s) g = trN x (fun p => g (rd s.2 p)) := by
  rcases kN_le x.f0 with c | c | c | c | c
  · rw [nodeP_leaf s (.inl c), trN_leaf _ (.inl c), trN_leaf _ (.inl c)]
  · rw [nodeP_leaf s (.inr c), trN_leaf _ (.inr c), trN_leaf _ (.inr c)]
  · rw [nodeP_un s c, trN_un (x := x) _ c, trN_un _ (by exact c)]
  · rw [nodeP_bi s c, trN_bi (x := x) _ c, trN_bi _ (by exact c)]
  · have e : nodeP x s = x := by unfold nodeP; rw [c]; rfl
    rw [e]
    unfold trN
    rw [c]
    rfl
def prt (x : Node) : List Int := partsC (kN x.f0) x.f1 x.f2
theorem rdB (u : List Bool) (j : Nat) : rdOf false u (j : Int) = u.getD j false := by unfold rdOf; rw [Int.toNat_natCast]
def mk1 (k : Int) (u : List Bool) (p : Int) : List Bool := if rdOf false u p = true then u.set p.toNat true else u.set p.toNat (rdOf false u k)
theorem mk1_len (k : Int) (u : List Bool) (p : Int) : (mk1 k u p).length = u.length := by unfold mk1; split <;> simp
theorem mk1_get (k : Int) (u : List Bool) (p j : Nat) (hp : p < u.length) : (mk1 k u p).getD j false = if p = j then (u.getD p false || rdOf false u k) else u.getD j false := by
  unfold mk1
  rw [rdB, Int.toNat_natCast]
  by_cases h : u.getD p false = true
  · rw [if_pos h, List.getD_eq_getElem?_getD, List.getElem?_set]
    split
    · rw [h]; rfl
    · rw [← List.getD_eq_getElem?_getD]
  · rw [if_neg h, List.getD_eq_getElem?_getD, List.getElem?_set]
    split
    · rw [show u.getD p false = false by simpa using h]; rfl
    · rw [← List.getD_eq_getElem?_getD]
theorem mkF (k m : Nat) : ∀ (ps : List Int) (u : List Bool), (∀ p ∈ ps, 0 ≤ p ∧ p ≤ (k : Int) - 1) → u.length = m → k < m →
    (ps.foldl (mk1 k) u).length = m ∧ (∀ j : Nat, k ≤ j → (ps.foldl (mk1 k) u).getD j false = u.getD j false) ∧ (∀ j : Nat, u.getD j false = true → (ps.foldl (mk1 k) u).getD j false = true) ∧ (u.getD k false = true → ∀ p ∈ ps, (ps.foldl (mk1 k) u).getD p.toNat false = true)
  | [], u, _, h, _ => ⟨h, fun _ _ => rfl, fun _ h => h, fun _ p hp => absurd hp (by simp)⟩
  | q :: ps, u, hps, h, hk => by
    obtain ⟨q0, q1⟩ := hps q (by simp)
    obtain ⟨p, rfl⟩ := Int.eq_ofNat_of_zero_le q0
    have g := fun j => mk1_get (k : Int) u p j (by omega)
    obtain ⟨a, b, c, d⟩ := mkF k m ps (mk1 k u p) (fun x hx => hps x (by simp [hx])) (by rw [mk1_len, h]) hk
    refine ⟨a, fun j hj => ?_, fun j hj => ?_, fun hu x hx => ?_⟩
    · show (ps.foldl (mk1 k) (mk1 k u p)).getD j false = _
      rw [b j hj, g, if_neg (by omega)]
    · refine c j ?_
      rw [g]
      split
      · rename_i e
        subst e
        rw [hj]
        rfl
      · exact hj
    · show (ps.foldl (mk1 k) (mk1 k u p)).getD x.toNat false = true
      rcases List.mem_cons.1 hx with rfl | hx
      · refine c _ ?_
        rw [Int.toNat_natCast, g, if_pos rfl, rdB, hu]
        simp
      · refine d ?_ x hx
        rw [g, if_neg (by omega)]
        exact hu
structure Nd (ns : List Node) (i0 m : Nat) (k : Int) (u : List Bool) : Prop where
  len : u.length = m
  top : u.getD i0 false = true
  hi : ∀ j : Nat, i0 < j → u.getD j false = false
  cl : ∀ (j : Nat) (hj : j < ns.length), k < (j : Int) → u.getD j false = true → ∀ p ∈ prt ns[j], u.getD p.toNat false = true
theorem Nd.step {ns : List Node} {i0 m k : Nat} {u : List Bool} (h : Nd ns i0 m (k : Int) u) (ok : okNs 0 ns = true) (hk : k < ns.length) (hi : k ≤ i0) (hm : i0 < m) : Nd ns i0 m ((k : Int) - 1) ((prt ns[k]).foldl (mk1 k) u) := by
  have hok := okNs_get ns 0 k hk ok
  rw [Nat.zero_add] at hok
  obtain ⟨a, b, c, d⟩ := mkF k m (prt ns[k]) u (parts_ok hok).2 h.len (by omega)
  refine ⟨a, c i0 h.top, fun j hj => by rw [b j (by omega), h.hi j hj], fun j hj hkj hu p hp => ?_⟩
  have hu' : u.getD j false = true := by rw [← b j (by omega)]; exact hu
  by_cases e : j = k
  · subst e
    exact d hu' p hp
  · exact c _ (h.cl j hj (by omega) hu' p hp)
structure Kq (ns : List Node) (i0 m : Nat) (u : List Bool) (j : Nat) (out : List Node) (names : List Int) : Prop where
  ok : okNs 0 out = true
  le : out.length ≤ j
  nl : names.length = m
  mp : ∀ q : Nat, q < j → u.getD q false = true → 0 ≤ rd names (q : Int) ∧ rd names (q : Int) < out.length ∧ TRN out (rd names (q : Int)) = TRN ns (q : Int)
  last : i0 < j → rd names (i0 : Int) = (out.length : Int) - 1
theorem Kq.skip {ns : List Node} {i0 m : Nat} {u : List Bool} {j : Nat} {out : List Node} {names : List Int} (h : Kq ns i0 m u j out names) (hu : u.getD j false = false) (ht : u.getD i0 false = true) : Kq ns i0 m u (j + 1) out names := by
  have ne : ∀ q : Nat, u.getD q false = true → q ≠ j := fun q hq e => by rw [e, hu] at hq; cases hq
  refine ⟨h.ok, by have := h.le; omega, h.nl, fun q hq hq' => h.mp q (by have := ne q hq'; omega) hq', fun hi => h.last (by have := ne i0 ht; omega)⟩
theorem trn_at {ns : List Node} (ok : okNs 0 ns = true) (j : Nat) (hj : j < ns.length) : TRN ns (j : Int) = trN ns[j] (TRN ns) := by
  have hok := okNs_get ns 0 j hj ok
  rw [Nat.zero_add] at hok
  unfold TRN
  rw [trOf_fuel ok ns.length (j + 1) j hj (by omega) hj]
  show trN (ns.getD (j : Int).toNat ⟨⟨#[]⟩, 0, 0, 0⟩) (trOf ns j) = _
  rw [getN_eq hj]
  refine trN_congr hok (fun p p0 p1 => ?_)
  obtain ⟨p, rfl⟩ := Int.eq_ofNat_of_zero_le p0
  exact trOf_fuel ok j ns.length p (by omega) (by omega) (by omega)
theorem Kq.put {ns : List Node} {i0 m : Nat} {u : List Bool} {j : Nat} {out : List Node} {names : List Int} (h : Kq ns i0 m u j out names) (ok : okNs 0 ns = true) (hN : Nd ns i0 m (-1) u) (hj : j < ns.length) (hjm : j < m) (hu : u.getD j false = true) :
    Kq ns i0 m u (j + 1) (out ++ [nodeP ns[j] (out, names.set j (out.length : Int))]) (names.set j (out.length : Int)) := by
  have hok := okNs_get ns 0 j hj ok
  rw [Nat.zero_add] at hok
  have hnl : j < names.length := by rw [h.nl]; exact hjm
  have hr : ∀ q : Nat, rd (names.set j (out.length : Int)) (q : Int) = if j = q then (out.length : Int) else rd names (q : Int) := fun q => rd_set _ _ _ _ hnl
  have hi0 : j ≤ i0 := by
    rcases Nat.lt_or_ge i0 j with a | a
    · rw [hN.hi j a] at hu
      cases hu
    · exact a
  have hp : ∀ p ∈ prt ns[j], 0 ≤ rd (names.set j (out.length : Int)) p ∧ rd (names.set j (out.length : Int)) p < out.length ∧ TRN out (rd (names.set j (out.length : Int)) p) = TRN ns p := fun p hp => by
    obtain ⟨a, b⟩ := (parts_ok hok).2 p hp
    obtain ⟨p', rfl⟩ := Int.eq_ofNat_of_zero_le a
    have := hN.cl j hj (by omega) hu _ hp
    rw [Int.toNat_natCast] at this
    rw [hr, if_neg (by omega)]
    exact h.mp p' (by omega) this
  have hn : okNx (nodeP ns[j] (out, names.set j (out.length : Int))) (out.length : Int) = true := okN_node hok (fun p hq => ⟨(hp p hq).1, (hp p hq).2.1⟩)
  have ok' : okNs 0 (out ++ [nodeP ns[j] (out, names.set j (out.length : Int))]) = true := by rw [okNs_app, h.ok, Nat.zero_add, hn]; rfl
  refine ⟨ok', by have := h.le; simp only [List.length_append, List.length_cons, List.length_nil]; omega, by simp [h.nl], fun q hq hq' => ?_, fun hi => ?_⟩
  · rw [hr]
    by_cases e : j = q
    · subst e
      rw [if_pos rfl]
      refine ⟨by omega, by simp; omega, ?_⟩
      rw [trn_new ok', trN_node, trn_at ok j hj]
      unfold trN
      have hh := hp
      unfold prt at hh
      rcases kN_le ns[j].f0 with c | c | c | c | c <;> rw [c] at hh ⊢ <;> simp only [partsC] at hh ⊢
      · rw [(hh _ (by simp)).2.2]
      · rw [(hh _ (by simp)).2.2, (hh ns[j].f2 (by simp)).2.2]
    · rw [if_neg e]
      obtain ⟨a, b, c⟩ := h.mp q (by omega) hq'
      obtain ⟨z, hz⟩ := Int.eq_ofNat_of_zero_le a
      rw [hz] at b c ⊢
      exact ⟨by omega, by simp; omega, by rw [trn_app ok' z (by omega), c]⟩
  · have : i0 = j := by omega
    subst this
    rw [hr, if_pos rfl]
    simp
def Kept_ (ns : List Node) (i : Nat) (e : List Node) : Prop := okNs 0 e = true ∧ 0 < e.length ∧ e.length ≤ ns.length ∧ TRN e ((e.length : Int) - 1) = TRN ns (i : Int)
theorem Kq.kept {ns : List Node} {i0 m : Nat} {u : List Bool} {j : Nat} {out : List Node} {names : List Int} (h : Kq ns i0 m u j out names) (hN : Nd ns i0 m (-1) u) (hj : i0 < j) (hl : j ≤ ns.length) : Kept_ ns i0 out := by
  obtain ⟨a, b, c⟩ := h.mp i0 hj hN.top
  have d := h.last hj
  have := h.le
  exact ⟨h.ok, by omega, by omega, by rw [← d]; exact c⟩
theorem kept_l2 (ns : List Node) (ok : okNs 0 ns = true) (hl : ns.length ≤ 1000) (i0 : Nat) (hi : i0 < ns.length) (u : List Bool) (hN : Nd ns i0 ns.length (-1) u) : ∀ (d j : Nat) (out : List Node) (names : List Int), j + d = ns.length → Kq ns i0 ns.length u j out names → ∃ e, Ev (fun k => impl_kept.l2 k u out names ns ns.length j) e ∧ Kept_ ns i0 e
  | 0, j, out, names, h, hK => ⟨out, Ev.step (fun k => by simp only [impl_kept.l2]; rfl) (Ev.ifn (by omega) (Ev.now _)), hK.kept hN (by omega) (by omega)⟩
  | d + 1, j, out, names, h, hK => by
    have hj : j < ns.length := by omega
    have hx : rd_T72 ns (j : Int) = ns[j] := rdN_eq (getD_eq ns j hj)
    have hok := okNs_get ns 0 j hj ok
    rw [Nat.zero_add] at hok
    have hul := hN.len
    have hnl := hK.nl
    have hle := hK.le
    by_cases q : u.getD j false = true
    · obtain ⟨e, a, b⟩ := kept_l2 ns ok hl i0 hi u hN d (j + 1) _ _ (by omega) (hK.put ok hN hj hj q)
      rw [← w64n j (by omega)] at a
      have hrn := ren_ev ns[j] (j : Int) hok (out, names.set j (out.length : Int)) (by simp; omega)
      refine ⟨e, Ev.step (fun k => by simp only [impl_kept.l2, rdB, hx, Int.toNat_natCast, Option.bind_some]; rfl) (Ev.ifp (by omega) (Ev.ifp (by omega) (Ev.ifp (by omega) (Ev.ifp (by omega) (Ev.ifp q (Ev.ifp (by omega) (Ev.bind hrn ?_))))))), b⟩
      exact Ev.ifp (by omega) a
    · obtain ⟨e, a, b⟩ := kept_l2 ns ok hl i0 hi u hN d (j + 1) _ _ (by omega) (hK.skip (by simpa using q) hN.top)
      rw [← w64n j (by omega)] at a
      exact ⟨e, Ev.step (fun k => by simp only [impl_kept.l2, rdB, hx, Int.toNat_natCast]; rfl) (Ev.ifp (by omega) (Ev.ifp (by omega) (Ev.ifp (by omega) (Ev.ifp (by omega) (Ev.ifn q a))))), b⟩
theorem kept_l1 (ns : List Node) (i j : Nat) (ps : List Int) (hps : ∀ p ∈ ps, 0 ≤ p ∧ p ≤ (j : Int) - 1) (hpl : ps.length ≤ 2) (m : Nat) (hjm : j < m) (e : List Node) : ∀ (d t : Nat) (u : List Bool), t + d = ps.length → u.length = m →
    Ev (fun k => impl_kept.l0 k ns ((ps.drop t).foldl (mk1 j) u) (wrap64 ((j : Int) - 1))) e → Ev (fun k => impl_kept.l1 k ns u j ps ps.length t) e
  | 0, t, u, h, hu, H => by
    rw [List.drop_of_length_le (by omega)] at H
    exact Ev.step (fun k => by simp only [impl_kept.l1]; rfl) (Ev.ifn (by omega) H)
  | d + 1, t, u, h, hu, H => by
    have ht : t < ps.length := by omega
    rw [List.drop_eq_getElem_cons ht, List.foldl_cons] at H
    obtain ⟨p0, p1⟩ := hps _ (List.getElem_mem ht)
    have hr : rd ps (t : Int) = ps[t] := rd_eq (getD_eq ps t ht)
    have ih := kept_l1 ns i j ps hps hpl m hjm e d (t + 1) (mk1 j u ps[t]) (by omega) (by rw [mk1_len, hu]) H
    rw [← w64n t (by omega)] at ih
    refine Ev.step (fun k => by simp only [impl_kept.l1, hr]; rfl) (Ev.ifp (by omega) (Ev.ifp (by omega) (Ev.ifp (by omega) (Ev.ifp p0 (Ev.ifp (by omega) ?_)))))
    unfold mk1 at ih
    by_cases q : rdOf false u ps[t] = true
    · rw [if_pos q] at ih
      exact Ev.ifp q ih
    · rw [if_neg q] at ih
      exact Ev.ifn q (Ev.ifp (by omega) (Ev.ifp (by omega) ih))
theorem kept_l0 (ns : List Node) (ok : okNs 0 ns = true) (hl : ns.length ≤ 1000) (i0 : Nat) (hi : i0 < ns.length) : ∀ (j : Nat) (u : List Bool), j ≤ i0 + 1 → Nd ns i0 ns.length ((j : Int) - 1) u → ∃ e, Ev (fun k => impl_kept.l0 k ns u ((j : Int) - 1)) e ∧ Kept_ ns i0 e
  | 0, u, _, hN => by
    obtain ⟨e, a, b⟩ := kept_l2 ns ok hl i0 hi u hN ns.length 0 [] (List.replicate ns.length 0) (by omega) ⟨rfl, Nat.le_refl _, by simp, fun q hq => absurd hq (by omega), fun hq => absurd hq (by omega)⟩
    refine ⟨e, Ev.step (fun k => by simp only [impl_kept.l0]; rfl) (Ev.ifn (by omega) (Ev.ifp (by omega) (Ev.ifp (by omega) ?_))), b⟩
    simpa using a
  | j + 1, u, hj, hN => by
    have e1 : (((j + 1 : Nat) : Int) - 1) = (j : Int) := by omega
    rw [e1] at hN ⊢
    have hjl : j < ns.length := by omega
    have hx : rd_T72 ns (j : Int) = ns[j] := rdN_eq (getD_eq ns j hjl)
    have hok := okNs_get ns 0 j hjl ok
    rw [Nat.zero_add] at hok
    obtain ⟨e, a, b⟩ := kept_l0 ns ok hl i0 hi j _ (by omega) (hN.step ok hjl (by omega) hi)
    rw [← w64 (x := (j : Int) - 1) (by omega) (by omega)] at a
    exact ⟨e, Ev.step (fun k => by simp only [impl_kept.l0, hx]; rfl) (Ev.ifp (by omega) (Ev.ifp (by omega) (Ev.ifp (by omega) (Ev.bind (of_ev ns[j]) (kept_l1 ns i0 j (prt ns[j]) (parts_ok hok).2 (parts_ok hok).1 ns.length hjl e (prt ns[j]).length 0 u (by omega) hN.len (by rw [List.drop_zero]; exact a)))))), b⟩
theorem nd_ini (ns : List Node) (i0 m : Nat) (h : i0 < m) : Nd ns i0 m (i0 : Int) ((List.replicate m false).set i0 true) := by
  have g : ∀ j : Nat, ((List.replicate m false).set i0 true).getD j false = if i0 = j then true else false := fun j => by
    rw [List.getD_eq_getElem?_getD, List.getElem?_set]
    split
    · simp [h]
    · rw [List.getElem?_replicate]
      split <;> rfl
  refine ⟨by simp, by rw [g, if_pos rfl], fun j hj => by rw [g, if_neg (by omega)], fun j hj hk hu => ?_⟩
  rw [g, if_neg (by omega)] at hu
  cases hu
theorem kept_ev (ns : List Node) (ok : okNs 0 ns = true) (hl : ns.length ≤ 1000) (i0 : Nat) (hi : i0 < ns.length) : ∃ e, Ev (fun k => impl_kept.f k ns i0) e ∧ Kept_ ns i0 e := by
  have hN := nd_ini ns i0 ns.length hi
  rw [show (i0 : Int) = ((i0 + 1 : Nat) : Int) - 1 by omega] at hN
  obtain ⟨e, a, b⟩ := kept_l0 ns ok hl i0 hi (i0 + 1) _ (Nat.le_refl _) hN
  rw [show ((i0 + 1 : Nat) : Int) - 1 = (i0 : Int) by omega] at a
  refine ⟨e, ?_, b⟩
  unfold impl_kept.f
  refine Ev.ifp (by omega) (Ev.ifp (by omega) ?_)
  rw [Int.toNat_natCast]
  exact Ev.call rfl (Ev.ifp (by omega) (Ev.ifp (by simp; omega) (by rw [Int.toNat_natCast]; exact a)))
theorem moved_ev (x : Node) (i : Int) (h : okNx x i = true) (s : ShSt) (hi : i ≤ s.2.length) : Ev (fun k => spec_exMoved.f k x.f0 x.f1 x.f2 x.f3 s.2) ((nodeP x s).f0, (nodeP x s).f1, (nodeP x s).f2, (nodeP x s).f3) := by
  unfold spec_exMoved.f
  refine Ev.bind (exParts_ev x) ?_
  rcases kN_le x.f0 with c | c | c | c | c
  · obtain ⟨e1, e2⟩ := okN_leaf h (.inl c)
    rw [nodeP_leaf s (.inl c), partsC_leaf (.inl c)]
    refine Ev.ifp ⟨by simp, by simp⟩ (Ev.some ?_)
    rw [e1, e2]
    rfl
  · obtain ⟨e1, e2⟩ := okN_leaf h (.inr c)
    rw [nodeP_leaf s (.inr c), partsC_leaf (.inr c)]
    refine Ev.ifp ⟨by simp, by simp⟩ (Ev.some ?_)
    rw [e1, e2]
    rfl
  · obtain ⟨e0, e1, e2⟩ := okN_un h c
    rw [nodeP_un s c, show partsC (kN x.f0) x.f1 x.f2 = [x.f1] by rw [c]; rfl]
    refine Ev.ifp ⟨fun _ => ⟨e1, by omega⟩, by simp⟩ (Ev.some ?_)
    rw [e0]
    rfl
  · obtain ⟨⟨e1, e2⟩, e4, e5⟩ := okN_bi h c
    rw [nodeP_bi s c, show partsC (kN x.f0) x.f1 x.f2 = [x.f1, x.f2] by rw [c]; rfl]
    exact Ev.ifp ⟨fun _ => ⟨e1, by omega⟩, fun _ => ⟨e4, by omega⟩⟩ (Ev.now _)
  · exact (okN_none h c).elim
theorem keep_l2 (ns : List Node) (ok : okNs 0 ns = true) (hl : ns.length ≤ 1000) (i0 : Nat) (hi : i0 < ns.length) (u : List Bool) (hN : Nd ns i0 (i0 + 1) (-1) u) : ∀ (d j : Nat) (out : List Node) (names : List Int), j + d = i0 + 1 → Kq ns i0 (i0 + 1) u j out names → ∃ e, Ev (fun k => spec_exKeep.l2 k ns i0 u names out j) e ∧ Kept_ ns i0 e
  | 0, j, out, names, h, hK => ⟨out, Ev.step (fun k => by simp only [spec_exKeep.l2]; rfl) (Ev.ifn (by omega) (Ev.now _)), hK.kept hN (by omega) (by omega)⟩
  | d + 1, j, out, names, h, hK => by
    have hj : j < ns.length := by omega
    have hx : rd_T72 ns (j : Int) = ns[j] := rdN_eq (getD_eq ns j hj)
    have hok := okNs_get ns 0 j hj ok
    rw [Nat.zero_add] at hok
    have hul := hN.len
    have hnl := hK.nl
    have hle := hK.le
    by_cases q : u.getD j false = true
    · obtain ⟨e, a, b⟩ := keep_l2 ns ok hl i0 hi u hN d (j + 1) _ _ (by omega) (hK.put ok hN hj (by omega) q)
      rw [← w64n j (by omega)] at a
      have hrn := moved_ev ns[j] (j : Int) hok (out, names.set j (out.length : Int)) (by simp; omega)
      refine ⟨e, Ev.step (fun k => by simp only [spec_exKeep.l2, rdB, hx, Int.toNat_natCast, Option.bind_some]; rfl) (Ev.ifp (by omega) (Ev.ifp (by omega) (Ev.ifp (by omega) (Ev.ifp q (Ev.ifp (by omega) (Ev.ifp (by omega) (Ev.bind hrn ?_))))))), b⟩
      exact Ev.ifp (by omega) a
    · obtain ⟨e, a, b⟩ := keep_l2 ns ok hl i0 hi u hN d (j + 1) _ _ (by omega) (hK.skip (by simpa using q) hN.top)
      rw [← w64n j (by omega)] at a
      exact ⟨e, Ev.step (fun k => by simp only [spec_exKeep.l2, rdB, hx, Int.toNat_natCast]; rfl) (Ev.ifp (by omega) (Ev.ifp (by omega) (Ev.ifp (by omega) (Ev.ifn q a)))), b⟩
theorem keep_l1 (ns : List Node) (i0 j : Nat) (ps : List Int) (hps : ∀ p ∈ ps, 0 ≤ p ∧ p ≤ (j : Int) - 1) (hpl : ps.length ≤ 2) (m : Nat) (hjm : j < m) (e : List Node) : ∀ (d t : Nat) (u : List Bool), t + d = ps.length → u.length = m →
    Ev (fun k => spec_exKeep.l0 k ns i0 ((ps.drop t).foldl (mk1 j) u) (wrap64 ((j : Int) - 1))) e → Ev (fun k => spec_exKeep.l1 k ns i0 u j ps ps.length t) e
  | 0, t, u, h, hu, H => by
    rw [List.drop_of_length_le (by omega)] at H
    exact Ev.step (fun k => by simp only [spec_exKeep.l1]; rfl) (Ev.ifn (by omega) H)
  | d + 1, t, u, h, hu, H => by
    have ht : t < ps.length := by omega
    rw [List.drop_eq_getElem_cons ht, List.foldl_cons] at H
    obtain ⟨p0, p1⟩ := hps _ (List.getElem_mem ht)
    have hr : rd ps (t : Int) = ps[t] := rd_eq (getD_eq ps t ht)
    have ih := keep_l1 ns i0 j ps hps hpl m hjm e d (t + 1) (mk1 j u ps[t]) (by omega) (by rw [mk1_len, hu]) H
    rw [← w64n t (by omega)] at ih
    refine Ev.step (fun k => by simp only [spec_exKeep.l1, hr]; rfl) (Ev.ifp (by omega) (Ev.ifp (by omega) (Ev.ifp (by omega) (Ev.ifp p0 (Ev.ifp (by omega) ?_)))))
    unfold mk1 at ih
    by_cases q : rdOf false u ps[t] = true
    · rw [if_pos q] at ih
      exact Ev.ifp q ih
    · rw [if_neg q] at ih
      exact Ev.ifn q (Ev.ifp (by omega) (Ev.ifp (by omega) ih))
theorem keep_l0 (ns : List Node) (ok : okNs 0 ns = true) (hl : ns.length ≤ 1000) (i0 : Nat) (hi : i0 < ns.length) : ∀ (j : Nat) (u : List Bool), j ≤ i0 + 1 → Nd ns i0 (i0 + 1) ((j : Int) - 1) u → ∃ e, Ev (fun k => spec_exKeep.l0 k ns i0 u ((j : Int) - 1)) e ∧ Kept_ ns i0 e
  | 0, u, _, hN => by
    obtain ⟨e, a, b⟩ := keep_l2 ns ok hl i0 hi u hN (i0 + 1) 0 [] (List.replicate (i0 + 1) 0) (by omega) ⟨rfl, Nat.le_refl _, by simp, fun q hq => absurd hq (by omega), fun hq => absurd hq (by omega)⟩
    have ew : wrap64 ((i0 : Int) + 1) = ((i0 + 1 : Nat) : Int) := w64n i0 (by omega)
    refine ⟨e, Ev.step (fun k => by simp only [spec_exKeep.l0, ew]; rfl) (Ev.ifn (by omega) (Ev.ifp (by omega) (Ev.ifp (by omega) ?_))), b⟩
    simpa using a
  | j + 1, u, hj, hN => by
    have e1 : (((j + 1 : Nat) : Int) - 1) = (j : Int) := by omega
    rw [e1] at hN ⊢
    have hjl : j < ns.length := by omega
    have hx : rd_T72 ns (j : Int) = ns[j] := rdN_eq (getD_eq ns j hjl)
    have hok := okNs_get ns 0 j hjl ok
    rw [Nat.zero_add] at hok
    obtain ⟨e, a, b⟩ := keep_l0 ns ok hl i0 hi j _ (by omega) (hN.step ok hjl (by omega) (by omega))
    rw [← w64 (x := (j : Int) - 1) (by omega) (by omega)] at a
    exact ⟨e, Ev.step (fun k => by simp only [spec_exKeep.l0, hx]; rfl) (Ev.ifp (by omega) (Ev.ifp (by omega) (Ev.ifp (by omega) (Ev.bind (exParts_ev ns[j]) (keep_l1 ns i0 j (prt ns[j]) (parts_ok hok).2 (parts_ok hok).1 (i0 + 1) (by omega) e (prt ns[j]).length 0 u (by omega) hN.len (by rw [List.drop_zero]; exact a)))))), b⟩
theorem keep_ev (ns : List Node) (ok : okNs 0 ns = true) (hl : ns.length ≤ 1000) (i0 : Nat) (hi : i0 < ns.length) : ∃ e, Ev (fun k => spec_exKeep.f k ns i0) e ∧ Kept_ ns i0 e := by
  have hN := nd_ini ns i0 (i0 + 1) (by omega)
  rw [show (i0 : Int) = ((i0 + 1 : Nat) : Int) - 1 by omega] at hN
  obtain ⟨e, a, b⟩ := keep_l0 ns ok hl i0 hi (i0 + 1) _ (Nat.le_refl _) hN
  rw [show ((i0 + 1 : Nat) : Int) - 1 = (i0 : Int) by omega] at a
  refine ⟨e, ?_, b⟩
  unfold spec_exKeep.f
  rw [w64n i0 (by omega), Int.toNat_natCast]
  refine Ev.ifp (by omega) (Ev.ifp (by omega) ?_)
  exact Ev.call rfl (Ev.ifp (by omega) (Ev.ifp (by simp; omega) (by rw [Int.toNat_natCast]; exact a)))
theorem kept_share {ns ms : List Node} {i j : Nat} {e e' : List Node} (h : Kept_ ns i e) (h' : Kept_ ms j e') (ht : TRN ns (i : Int) = TRN ms (j : Int)) : shP e = shP e' := by
  obtain ⟨a, b, c, d⟩ := h
  obtain ⟨a', b', c', d'⟩ := h'
  rw [shP_tr a b, shP_tr a' b']
  unfold TRN at d d' ht
  rw [show ((e.length - 1 : Nat) : Int) = (e.length : Int) - 1 by omega, show ((e'.length - 1 : Nat) : Int) = (e'.length : Int) - 1 by omega, d, d', ht]
end Go.Proofs.Ytkfkbmlbpeojaaa.PL
end
section
namespace Go.Proofs.Ytkfkbmlbpeojaaa.PL
open Go Go.RowKit Go.Proofs.YtkfkbmlbpeojaaaW.PrintWords Go.Proofs.YtkfkbmlbpeojaaaW.PrintLast Go.Proofs.YtkfkbmlbpeojaaaW.PrintMore Go.Proofs.Ytkfkbmlbpeojaaa.Q
set_option linter.unusedSimpArgs false
set_option linter.unusedVariables false
def nC : ByteArray := ⟨#[99, 111, 110, 115, 116]⟩
def nAdd : ByteArray := ⟨#[97, 100, 100]⟩
def nShl : ByteArray := ⟨#[115, 104, 108]⟩
def opK (s : ByteArray) : Nat := match cls s with
  | 0 => 0
  | 1 => if s.toList = ([109, 111, 118] : List UInt8) then 1 else 2
  | 2 => 3
  | 3 => 3
  | 4 => 3
  | 5 => 4
  | 6 => 4
  | 7 => 5
  | _ => 6
def tabOk (s : ByteArray) : Bool :=
  decide (opK s ≤ 5) && decide (s.toList = ([115, 101, 116] : List UInt8) ↔ opK s = 0) && decide (s.toList = ([109, 111, 118] : List UInt8) ↔ opK s = 1) && decide (s.toList = ([108, 101, 97] : List UInt8) ↔ opK s = 5) &&
  decide (opK s = 2 → kN s = 2) && decide (opK s = 3 → kN s = 3) && decide (opK s = 4 → kN (s.extract 0 3) = 3 ∧ s.size = 4) &&
  decide ((formC (cls s) s).2.2.1 ≤ (formC (cls s) s).2.2.2.1 ↔ opK s = 0 ∨ opK s = 4 ∨ opK s = 5) && decide (opK s = 2 → (formC (cls s) s).2.1 = false ∧ (formC (cls s) s).2.2.2.2.2.1 = s) && decide (opK s = 3 → (formC (cls s) s).2.1 = true ∧ (formC (cls s) s).2.2.2.2.2.1 = s) && decide (opK s = 4 → (formC (cls s) s).2.2.2.2.2.1 = s.extract 0 3) &&
  decide (opK s = 4 ↔ s.toList = ([97, 100, 100, 105] : List UInt8) ∨ s.toList = ([97, 110, 100, 105] : List UInt8) ∨ s.toList = ([120, 111, 114, 105] : List UInt8) ∨ s.toList = ([115, 104, 108, 105] : List UInt8) ∨ s.toList = ([115, 104, 114, 105] : List UInt8)) &&
  decide (opK s = 2 ↔ s.toList = ([110, 111, 116] : List UInt8) ∨ s.toList = ([110, 101, 103] : List UInt8))
theorem tab_all : (ops.all fun p => tabOk p.1) = true := by decide +kernel
theorem okI_op {x : Instr} (h : okI x) : ∃ p ∈ ops, x.f0 = p.1 := Classical.byContradiction fun e => h.1 (cls_none fun p hp he => e ⟨p, hp, he⟩)
structure OpT (s : ByteArray) : Prop where
  le : opK s ≤ 5
  set : s.toList = ([115, 101, 116] : List UInt8) ↔ opK s = 0
  mov : s.toList = ([109, 111, 118] : List UInt8) ↔ opK s = 1
  lea : s.toList = ([108, 101, 97] : List UInt8) ↔ opK s = 5
  k2 : opK s = 2 → kN s = 2
  k3 : opK s = 3 → kN s = 3
  k4 : opK s = 4 → kN (s.extract 0 3) = 3 ∧ s.size = 4
  imm : (formC (cls s) s).2.2.1 ≤ (formC (cls s) s).2.2.2.1 ↔ opK s = 0 ∨ opK s = 4 ∨ opK s = 5
  f2 : opK s = 2 → (formC (cls s) s).2.1 = false ∧ (formC (cls s) s).2.2.2.2.2.1 = s
  f3 : opK s = 3 → (formC (cls s) s).2.1 = true ∧ (formC (cls s) s).2.2.2.2.2.1 = s
  f4 : opK s = 4 → (formC (cls s) s).2.2.2.2.2.1 = s.extract 0 3
  s4 : opK s = 4 ↔ s.toList = ([97, 100, 100, 105] : List UInt8) ∨ s.toList = ([97, 110, 100, 105] : List UInt8) ∨ s.toList = ([120, 111, 114, 105] : List UInt8) ∨ s.toList = ([115, 104, 108, 105] : List UInt8) ∨ s.toList = ([115, 104, 114, 105] : List UInt8)
  s2 : opK s = 2 ↔ s.toList = ([110, 111, 116] : List UInt8) ∨ s.toList = ([110, 101, 103] : List UInt8)
theorem okI_tab {x : Instr} (h : okI x) : OpT x.f0 := by
  obtain ⟨p, hp, e⟩ := okI_op h
  have := List.all_eq_true.1 tab_all p hp
  unfold tabOk at this
  simp only [Bool.and_eq_true, decide_eq_true_eq] at this
  rw [e]
  obtain ⟨⟨⟨⟨⟨⟨⟨⟨⟨⟨⟨⟨a, b⟩, c⟩, d⟩, e⟩, f⟩, g⟩, h⟩, i⟩, j⟩, k⟩, l⟩, m⟩ := this
  exact ⟨a, b, c, d, e, f, g, h, i, j, k, l, m⟩
def cN (x : Instr) : Node := ⟨nC, 0, 0, x.f4⟩
def stp (x : Instr) (s : ShSt) : ShSt := match opK x.f0 with
  | 0 => (s.1 ++ [cN x], s.2.set x.f1.toNat s.1.length)
  | 1 => (s.1, s.2.set x.f1.toNat (rd s.2 x.f2))
  | 2 => (s.1 ++ [⟨x.f0, rd s.2 x.f2, 0, 0⟩], s.2.set x.f1.toNat s.1.length)
  | 3 => (s.1 ++ [⟨x.f0, rd s.2 x.f2, rd s.2 x.f3, 0⟩], s.2.set x.f1.toNat s.1.length)
  | 4 => (s.1 ++ [cN x] ++ [⟨x.f0.extract 0 3, rd s.2 x.f2, s.1.length, 0⟩], s.2.set x.f1.toNat ((s.1 ++ [cN x]).length : Int))
  | _ => (s.1 ++ [cN x] ++ [⟨nShl, rd s.2 x.f3, s.1.length, 0⟩] ++ [⟨nAdd, rd s.2 x.f2, ((s.1 ++ [cN x]).length : Int), 0⟩], s.2.set x.f1.toNat ((s.1 ++ [cN x] ++ [(⟨nShl, rd s.2 x.f3, s.1.length, 0⟩ : Node)]).length : Int))
theorem syDo_eq {x : Instr} (h : okI x) (s : ShSt) : syDo x (formC (cls x.f0) x.f0) s = stp x s := by
  have t := okI_tab h
  unfold syDo stp
  have hle := t.le
  simp only
  rcases Nat.lt_or_ge (opK x.f0) 1 with c | c
  · have c0 : opK x.f0 = 0 := by omega
    rw [if_pos (t.set.2 c0), c0, if_pos (t.imm.2 (.inl c0)), if_pos (t.imm.2 (.inl c0))]
    rfl
  rw [if_neg (fun e => by have := t.set.1 e; omega)]
  by_cases c1 : opK x.f0 = 1
  · rw [if_pos (t.mov.2 c1), c1, if_neg (fun e => by have := t.imm.1 e; omega)]
    rfl
  rw [if_neg (fun e => c1 (t.mov.1 e))]
  by_cases c5 : opK x.f0 = 5
  · rw [if_pos (t.lea.2 c5), c5, if_pos (t.imm.2 (.inr (.inr c5))), if_pos (t.imm.2 (.inr (.inr c5)))]
    rfl
  rw [if_neg (fun e => c5 (t.lea.1 e))]
  by_cases c4 : opK x.f0 = 4
  · have im := t.imm.2 (.inr (.inl c4))
    rw [if_pos im, if_pos im, if_pos im, c4, t.f4 c4]
    rfl
  have im : ¬ (formC (cls x.f0) x.f0).2.2.1 ≤ (formC (cls x.f0) x.f0).2.2.2.1 := fun e => by have := t.imm.1 e; omega
  rw [if_neg im, if_neg im]
  by_cases c2 : opK x.f0 = 2
  · rw [if_neg (by rw [(t.f2 c2).1]; decide), c2, (t.f2 c2).2]
    rfl
  · have c3 : opK x.f0 = 3 := by omega
    rw [if_pos (t.f3 c3).1, c3, (t.f3 c3).2]
    rfl
theorem stp_len {x : Instr} (h : okI x) (s : ShSt) : (stp x s).1.length ≤ s.1.length + 3 ∧ (stp x s).2.length = s.2.length := by
  have hle := (okI_tab h).le
  unfold stp
  split <;> simp
structure Rp (s : ShSt) (T : Nat → Tr) : Prop where
  ok : okNs 0 s.1 = true
  len : s.2.length = 6
  reg : ∀ j : Nat, j < 6 → 0 ≤ rd s.2 (j : Int) ∧ rd s.2 (j : Int) < s.1.length ∧ TRN s.1 (rd s.2 (j : Int)) = T j
def stT (x : Instr) (T : Nat → Tr) : Tr := match opK x.f0 with
  | 0 => .lf nC x.f4
  | 1 => T x.f2.toNat
  | 2 => .un x.f0 0 (T x.f2.toNat)
  | 3 => .bi x.f0 0 (T x.f2.toNat) (T x.f3.toNat)
  | 4 => .bi (x.f0.extract 0 3) 0 (T x.f2.toNat) (.lf nC x.f4)
  | _ => .bi nAdd 0 (T x.f2.toNat) (.bi nShl 0 (T x.f3.toNat) (.lf nC x.f4))
def updT (T : Nat → Tr) (i : Nat) (t : Tr) : Nat → Tr := fun j => if i = j then t else T j
structure Up (ns ns' : List Node) : Prop where
  ok : okNs 0 ns' = true
  le : ns.length ≤ ns'.length
  old : ∀ i : Nat, i < ns.length → TRN ns' (i : Int) = TRN ns (i : Int)
theorem Up.refl {ns : List Node} (h : okNs 0 ns = true) : Up ns ns := ⟨h, Nat.le_refl _, fun _ _ => rfl⟩
theorem Up.add {ns ns' : List Node} (h : Up ns ns') {n : Node} (hn : okNx n (ns'.length : Int) = true) : Up ns (ns' ++ [n]) ∧ TRN (ns' ++ [n]) (ns'.length : Int) = trN n (TRN ns') := by
  have ok' : okNs 0 (ns' ++ [n]) = true := by rw [okNs_app, h.ok, Nat.zero_add, hn]; rfl
  exact ⟨⟨ok', by have := h.le; simp; omega, fun i hi => by rw [trn_app ok' i (by have := h.le; omega), h.old i hi]⟩, trn_new ok'⟩
theorem Rp.put {s : ShSt} {T : Nat → Tr} (h : Rp s T) {ns' : List Node} (u : Up s.1 ns') (i : Nat) (hi : i < 6) {v : Int} {t : Tr} (h0 : 0 ≤ v) (h1 : v < ns'.length) (ht : TRN ns' v = t) : Rp (ns', s.2.set i v) (updT T i t) := by
  refine ⟨u.ok, by simp [h.len], fun j hj => ?_⟩
  rw [rd_set _ _ _ _ (by rw [h.len]; exact hi)]
  unfold updT
  split
  · exact ⟨h0, h1, ht⟩
  · obtain ⟨a, b, c⟩ := h.reg j hj
    obtain ⟨p, hp⟩ := Int.eq_ofNat_of_zero_le a
    rw [hp] at b c ⊢
    have := u.le
    exact ⟨by omega, by simp only; omega, by simp only; rw [u.old p (by omega), c]⟩
theorem okI_regs {x : Instr} (h : okI x) : (0 ≤ x.f1 ∧ x.f1 < 6) ∧ (0 ≤ x.f2 ∧ x.f2 < 6) ∧ (0 ≤ x.f3 ∧ x.f3 < 6) := by
  obtain ⟨_, a, b, c, _⟩ := h
  refine ⟨by omega, ?_, ?_⟩
  · rcases b with b | b <;> omega
  · rcases c with c | c <;> omega
theorem okI_imm {x : Instr} (h : okI x) (k : opK x.f0 = 0 ∨ opK x.f0 = 4 ∨ opK x.f0 = 5) : 0 ≤ x.f4 ∧ x.f4 ≤ 63 := by
  obtain ⟨a, _, _, _, b, c⟩ := h
  have hc := cls_le x.f0
  have : cls x.f0 = 0 ∨ cls x.f0 = 1 ∨ cls x.f0 = 2 ∨ cls x.f0 = 3 ∨ cls x.f0 = 4 ∨ cls x.f0 = 5 ∨ cls x.f0 = 6 ∨ cls x.f0 = 7 := by omega
  rcases this with e | e | e | e | e | e | e | e <;> rw [e] at b c <;> simp only [shapeC] at b c <;> omega
theorem kN_c : kN nC = 1 := by decide +kernel
theorem kN_add : kN nAdd = 3 := by decide +kernel
theorem kN_shl : kN nShl = 3 := by decide +kernel
theorem okc {x : Instr} (h : 0 ≤ x.f4 ∧ x.f4 ≤ 63) (i : Int) : okNx (cN x) i = true := by
  unfold okNx cN
  simp only
  rw [kN_c]
  simp [okNd]
  omega
theorem ok3 {s : ByteArray} (c : kN s = 3) {a b i : Int} (h : (0 ≤ a ∧ a < i) ∧ 0 ≤ b ∧ b < i) : okNx ⟨s, a, b, 0⟩ i = true := by
  unfold okNx
  simp only
  rw [c]
  simp [okNd]
  omega
theorem ok2 {s : ByteArray} (c : kN s = 2) {a i : Int} (h : 0 ≤ a ∧ a < i) : okNx ⟨s, a, 0, 0⟩ i = true := by
  unfold okNx
  simp only
  rw [c]
  simp [okNd]
  omega
theorem stp_rp {x : Instr} (hx : okI x) {s : ShSt} {T : Nat → Tr} (h : Rp s T) : Rp (stp x s) (updT T x.f1.toNat (stT x T)) := by
  have t := okI_tab hx
  have hle := t.le
  obtain ⟨r1, r2, r3⟩ := okI_regs hx
  obtain ⟨a, ha⟩ := Int.eq_ofNat_of_zero_le r2.1
  obtain ⟨b, hb⟩ := Int.eq_ofNat_of_zero_le r3.1
  obtain ⟨a1, a2, a3⟩ := h.reg a (by omega)
  obtain ⟨b1, b2, b3⟩ := h.reg b (by omega)
  obtain ⟨pa, hpa⟩ := Int.eq_ofNat_of_zero_le a1
  obtain ⟨pb, hpb⟩ := Int.eq_ofNat_of_zero_le b1
  have hi : x.f1.toNat < 6 := by omega
  have u0 := Up.refl h.ok
  unfold stp stT
  rw [ha, hb, Int.toNat_natCast, Int.toNat_natCast, ← a3, ← b3, hpa, hpb]
  rw [hpa] at a2
  rw [hpb] at b2
  have c : opK x.f0 = 0 ∨ opK x.f0 = 1 ∨ opK x.f0 = 2 ∨ opK x.f0 = 3 ∨ opK x.f0 = 4 ∨ opK x.f0 = 5 := by omega
  rcases c with c | c | c | c | c | c <;> rw [c] <;> simp only
  · obtain ⟨u, e⟩ := u0.add (okc (okI_imm hx (.inl c)) _)
    exact h.put u _ hi (by omega) (by simp; omega) (by rw [e, trN_leaf _ (.inr kN_c)]; rfl)
  · exact h.put u0 _ hi (by omega) a2 rfl
  · obtain ⟨u, e⟩ := u0.add (n := ⟨x.f0, pa, 0, 0⟩) (ok2 (t.k2 c) (by omega))
    exact h.put u _ hi (by omega) (by simp; omega) (by rw [e, trN_un _ (by exact t.k2 c)])
  · obtain ⟨u, e⟩ := u0.add (n := ⟨x.f0, pa, pb, 0⟩) (ok3 (t.k3 c) (by omega))
    exact h.put u _ hi (by omega) (by simp; omega) (by rw [e, trN_bi _ (by exact t.k3 c)])
  · obtain ⟨u, e⟩ := u0.add (okc (okI_imm hx (.inr (.inl c))) _)
    obtain ⟨u', e'⟩ := u.add (n := ⟨x.f0.extract 0 3, pa, (s.1.length : Int), 0⟩) (ok3 (t.k4 c).1 (by simp; omega))
    refine h.put u' _ hi (by omega) (by simp) ?_
    rw [e', trN_bi _ (by exact (t.k4 c).1)]
    simp only
    rw [u.old pa (by omega), e, trN_leaf _ (.inr kN_c)]
    rfl
  · obtain ⟨u, e⟩ := u0.add (okc (okI_imm hx (.inr (.inr c))) _)
    obtain ⟨u', e'⟩ := u.add (n := ⟨nShl, pb, (s.1.length : Int), 0⟩) (ok3 kN_shl (by simp; omega))
    obtain ⟨u'', e''⟩ := u'.add (n := ⟨nAdd, pa, ((s.1 ++ [cN x]).length : Int), 0⟩) (ok3 kN_add (by simp; omega))
    refine h.put u'' _ hi (by omega) (by simp) ?_
    rw [e'', trN_bi _ (by exact kN_add)]
    simp only
    rw [u'.old pa (by omega), e', trN_bi _ (by exact kN_shl)]
    simp only
    rw [u.old pb (by omega), e, trN_leaf _ (.inr kN_c)]
    rfl
theorem syL_eq : ∀ (l : List Instr) (s : ShSt), (∀ x ∈ l, okI x) → s.1.length + 3 * l.length < 1000000 → s.2.length = 6 → syL l s = some (l.foldl (fun s x => stp x s) s)
  | [], s, _, _, _ => rfl
  | x :: xs, s, h, hl, h6 => by
    have hx := h x (by simp)
    obtain ⟨r1, r2, r3⟩ := okI_regs hx
    obtain ⟨l1, l2⟩ := stp_len hx s
    simp only [List.length_cons] at hl
    unfold syL
    rw [if_pos ⟨r1, r2, r3, by omega, h6⟩, formOf_eq, Option.bind_some, syDo_eq hx]
    exact syL_eq xs (stp x s) (fun y hy => h y (by simp [hy])) (by omega) (by rw [l2, h6])
theorem fold_rp : ∀ (l : List Instr) (s : ShSt) (T : Nat → Tr), (∀ x ∈ l, okI x) → Rp s T → Rp (l.foldl (fun s x => stp x s) s) (l.foldl (fun T x => updT T x.f1.toNat (stT x T)) T) ∧ (l.foldl (fun s x => stp x s) s).1.length ≤ s.1.length + 3 * l.length
  | [], s, T, _, h => ⟨h, Nat.le_refl _⟩
  | x :: xs, s, T, hx, h => by
    obtain ⟨a, b⟩ := fold_rp xs (stp x s) _ (fun y hy => hx y (by simp [hy])) (stp_rp (hx x (by simp)) h)
    have := (stp_len (hx x (by simp)) s).1
    refine ⟨a, ?_⟩
    simp only [List.foldl_cons, List.length_cons]
    omega
def T0 (j : Nat) : Tr := if j = 0 then .lf ⟨#[105, 110]⟩ 0 else if j = 1 then .lf ⟨#[105, 110]⟩ 1 else .lf nC 0
theorem rp_impl : Rp (syU 6) T0 := by
  refine ⟨by decide +kernel, rfl, fun j hj => ?_⟩
  have : j = 0 ∨ j = 1 ∨ j = 2 ∨ j = 3 ∨ j = 4 ∨ j = 5 := by omega
  rcases this with rfl | rfl | rfl | rfl | rfl | rfl <;> exact ⟨by decide, by decide, by kernel_rfl⟩
def vaIni : ShSt := ([(⟨(⟨#[105, 110]⟩ : ByteArray), 0, 0, 0⟩ : Node), ⟨⟨#[105, 110]⟩, 0, 0, 1⟩, ⟨⟨#[99, 111, 110, 115, 116]⟩, 0, 0, 0⟩], [0, 1, 2, 2, 2, 2])
theorem rp_spec : Rp vaIni T0 := by
  refine ⟨by decide +kernel, rfl, fun j hj => ?_⟩
  have : j = 0 ∨ j = 1 ∨ j = 2 ∨ j = 3 ∨ j = 4 ∨ j = 5 := by omega
  rcases this with rfl | rfl | rfl | rfl | rfl | rfl <;> exact ⟨by decide, by decide, by kernel_rfl⟩
theorem vaNode_eq (xs : List Node) (a : ByteArray) (b c d : Int) (h : xs.length < 1000000) : spec_vaNode.f xs a b c d = some (xs ++ [⟨a, b, c, d⟩], (xs.length : Int)) := by
  unfold spec_vaNode.f
  rw [if_pos (by omega)]
section
variable {l : List Instr} {n i : Int} {x : Instr} {s : ShSt} {R : List Node × List Int}
theorem vs_imm (hx : okI x) (c : opK x.f0 = 4) (hs : s.1.length < 900000) (h6 : s.2.length = 6) (H : Ev (fun k => spec_vaSymbols.l0 k (stp x s).1 (stp x s).2 l n (wrap64 (i + 1))) R) :
    Ev (fun k => spec_vaSymbols.j1 k s.1 s.2 l n i x.f0 true x.f0 x.f1 x.f2 x.f3 x.f4 nC 0 0 x.f4) R := by
  have t := okI_tab hx
  obtain ⟨r1, r2, r3⟩ := okI_regs hx
  have hsz := (t.k4 c).2
  have ew : wrap64 ((x.f0.size : Int) - 1) = 3 := by rw [hsz]; unfold wrap64; omega
  have e : stp x s = (s.1 ++ [cN x] ++ [⟨x.f0.extract 0 3, rd s.2 x.f2, s.1.length, 0⟩], s.2.set x.f1.toNat ((s.1 ++ [cN x]).length : Int)) := by unfold stp; rw [c]; rfl
  rw [e] at H
  refine Ev.step (fun k => by simp only [spec_vaSymbols.j1, ew]; rfl) (Ev.ifp (show (true : Bool) = true from rfl) (Ev.call (vaNode_eq s.1 nC 0 0 x.f4 (by omega)) ?_))
  refine Ev.ifp (by omega) (Ev.ifp (by omega) (Ev.ifp r2.1 (Ev.ifp (by omega) (Ev.call (vaNode_eq (s.1 ++ [cN x]) (x.f0.extract 0 3) (rd s.2 x.f2) s.1.length 0 (by simp; omega)) ?_))))
  exact Ev.ifp r1.1 (Ev.ifp (by omega) H)
theorem vs_lea (hx : okI x) (c : opK x.f0 = 5) (hs : s.1.length < 900000) (h6 : s.2.length = 6) (H : Ev (fun k => spec_vaSymbols.l0 k (stp x s).1 (stp x s).2 l n (wrap64 (i + 1))) R) :
    Ev (fun k => spec_vaSymbols.j1 k s.1 s.2 l n i x.f0 false x.f0 x.f1 x.f2 x.f3 x.f4 nC 0 0 x.f4) R := by
  have t := okI_tab hx
  obtain ⟨r1, r2, r3⟩ := okI_regs hx
  have e : stp x s = (s.1 ++ [cN x] ++ [⟨nShl, rd s.2 x.f3, s.1.length, 0⟩] ++ [⟨nAdd, rd s.2 x.f2, ((s.1 ++ [cN x]).length : Int), 0⟩], s.2.set x.f1.toNat ((s.1 ++ [cN x] ++ [(⟨nShl, rd s.2 x.f3, s.1.length, 0⟩ : Node)]).length : Int)) := by unfold stp; rw [c]; rfl
  rw [e] at H
  refine Ev.step (fun k => by simp only [spec_vaSymbols.j1]; rfl) (Ev.ifn (by decide) (Ev.ifp (t.lea.2 c) (Ev.call (vaNode_eq s.1 nC 0 0 x.f4 (by omega)) ?_)))
  refine Ev.ifp r3.1 (Ev.ifp (by omega) (Ev.call (vaNode_eq (s.1 ++ [cN x]) nShl (rd s.2 x.f3) s.1.length 0 (by simp; omega)) ?_))
  refine Ev.ifp r2.1 (Ev.ifp (by omega) (Ev.call (vaNode_eq (s.1 ++ [cN x] ++ [⟨nShl, rd s.2 x.f3, s.1.length, 0⟩]) nAdd (rd s.2 x.f2) ((s.1 ++ [cN x]).length : Int) 0 (by simp; omega)) ?_))
  exact Ev.ifp r1.1 (Ev.ifp (by omega) H)
theorem vs_un (hx : okI x) (c : opK x.f0 = 2) (hs : s.1.length < 900000) (h6 : s.2.length = 6) (H : Ev (fun k => spec_vaSymbols.l0 k (stp x s).1 (stp x s).2 l n (wrap64 (i + 1))) R) :
    Ev (fun k => spec_vaSymbols.j2 k s.1 s.2 l n i true x.f0 x.f1 x.f2 x.f3 x.f4) R := by
  obtain ⟨r1, r2, r3⟩ := okI_regs hx
  have e : stp x s = (s.1 ++ [⟨x.f0, rd s.2 x.f2, 0, 0⟩], s.2.set x.f1.toNat s.1.length) := by unfold stp; rw [c]; rfl
  rw [e] at H
  refine Ev.step (fun k => by simp only [spec_vaSymbols.j2]; rfl) (Ev.ifp (show (true : Bool) = true from rfl) (Ev.ifp r2.1 (Ev.ifp (by omega) (Ev.call (vaNode_eq s.1 x.f0 (rd s.2 x.f2) 0 0 (by omega)) ?_))))
  exact Ev.ifp r1.1 (Ev.ifp (by omega) H)
theorem vs_bin (hx : okI x) (c : opK x.f0 = 3) (hs : s.1.length < 900000) (h6 : s.2.length = 6) (H : Ev (fun k => spec_vaSymbols.l0 k (stp x s).1 (stp x s).2 l n (wrap64 (i + 1))) R) :
    Ev (fun k => spec_vaSymbols.j2 k s.1 s.2 l n i false x.f0 x.f1 x.f2 x.f3 x.f4) R := by
  obtain ⟨r1, r2, r3⟩ := okI_regs hx
  have e : stp x s = (s.1 ++ [⟨x.f0, rd s.2 x.f2, rd s.2 x.f3, 0⟩], s.2.set x.f1.toNat s.1.length) := by unfold stp; rw [c]; rfl
  rw [e] at H
  refine Ev.step (fun k => by simp only [spec_vaSymbols.j2]; rfl) (Ev.ifn (by decide) (Ev.ifp r2.1 (Ev.ifp (by omega) (Ev.ifp r3.1 (Ev.ifp (by omega) (Ev.call (vaNode_eq s.1 x.f0 (rd s.2 x.f2) (rd s.2 x.f3) 0 (by omega)) ?_))))))
  exact Ev.ifp r1.1 (Ev.ifp (by omega) H)
theorem vs_rest (hx : okI x) (c : opK x.f0 = 2 ∨ opK x.f0 = 3 ∨ opK x.f0 = 5) (hs : s.1.length < 900000) (h6 : s.2.length = 6) (H : Ev (fun k => spec_vaSymbols.l0 k (stp x s).1 (stp x s).2 l n (wrap64 (i + 1))) R) :
    Ev (fun k => spec_vaSymbols.j1 k s.1 s.2 l n i x.f0 false x.f0 x.f1 x.f2 x.f3 x.f4 nC 0 0 x.f4) R := by
  have t := okI_tab hx
  by_cases c5 : opK x.f0 = 5
  · exact vs_lea hx c5 hs h6 H
  refine Ev.step (fun k => by simp only [spec_vaSymbols.j1]; rfl) (Ev.ifn (by decide) (Ev.ifn (fun e => c5 (t.lea.1 e)) ?_))
  by_cases c2 : opK x.f0 = 2
  · rcases t.s2.1 c2 with e | e
    · refine Ev.ifp e ?_
      rw [show (x.f0.toList == ([110, 111, 116] : List UInt8)) = true from beq_iff_eq.2 e]
      exact vs_un hx c2 hs h6 H
    · refine Ev.ifn (fun h => by rw [e] at h; exact absurd h (by decide)) ?_
      rw [show (x.f0.toList == ([110, 101, 103] : List UInt8)) = true from beq_iff_eq.2 e]
      exact vs_un hx c2 hs h6 H
  · refine Ev.ifn (fun h => c2 (t.s2.2 (.inl h))) ?_
    rw [show (x.f0.toList == ([110, 101, 103] : List UInt8)) = false from Bool.eq_false_iff.2 (fun h => c2 (t.s2.2 (.inr (beq_iff_eq.1 h))))]
    exact vs_bin hx (by omega) hs h6 H
end
theorem vaSym_ev (l : List Instr) (hl : l.length ≤ 1000) (hok : ∀ x ∈ l, okI x) : ∀ (d i : Nat) (s : ShSt), i + d = l.length → s.1.length ≤ 3 + 3 * i → s.2.length = 6 → Ev (fun k => spec_vaSymbols.l0 k s.1 s.2 l l.length i) ((l.drop i).foldl (fun s x => stp x s) s)
  | 0, i, s, h, hs, h6 => by
    rw [List.drop_of_length_le (by omega)]
    exact Ev.step (fun k => by simp only [spec_vaSymbols.l0]; rfl) (Ev.ifn (by omega) (Ev.now _))
  | d + 1, i, s, h, hs, h6 => by
    have hi : i < l.length := by omega
    have hx : rd_T94 l (i : Int) = l[i] := rdI_eq (getD_eq l i hi)
    have hxo := hok _ (List.getElem_mem hi)
    rw [List.drop_eq_getElem_cons hi, List.foldl_cons]
    obtain ⟨l1, l2⟩ := stp_len hxo s
    have H := vaSym_ev l hl hok d (i + 1) (stp l[i] s) (by omega) (by omega) (by omega)
    rw [← w64n i (by omega)] at H
    generalize l[i] = x at hx hxo H l1 l2 ⊢
    have t := okI_tab hxo
    obtain ⟨r1, r2, r3⟩ := okI_regs hxo
    have hle := t.le
    refine Ev.step (fun k => by simp only [spec_vaSymbols.l0, hx]; rfl) (Ev.ifp (by omega) (Ev.ifp (by omega) (Ev.ifp (by omega) ?_)))
    by_cases c0 : opK x.f0 = 0
    · have e : stp x s = (s.1 ++ [cN x], s.2.set x.f1.toNat s.1.length) := by unfold stp; rw [c0]; rfl
      rw [e] at H ⊢
      exact Ev.ifp (t.set.2 c0) (Ev.call (vaNode_eq s.1 nC 0 0 x.f4 (by omega)) (Ev.ifp r1.1 (Ev.ifp (by omega) H)))
    refine Ev.ifn (fun e => c0 (t.set.1 e)) ?_
    by_cases c1 : opK x.f0 = 1
    · have e : stp x s = (s.1, s.2.set x.f1.toNat (rd s.2 x.f2)) := by unfold stp; rw [c1]; rfl
      rw [e] at H ⊢
      exact Ev.ifp (t.mov.2 c1) (Ev.ifp r2.1 (Ev.ifp (by omega) (Ev.ifp r1.1 (Ev.ifp (by omega) H))))
    refine Ev.ifn (fun e => c1 (t.mov.1 e)) ?_
    by_cases c4 : opK x.f0 = 4
    · have J := vs_imm (l := l) (n := l.length) (i := i) hxo c4 (by omega) h6 H
      rcases t.s4.1 c4 with e | e | e | e | e
      · refine Ev.ifp e ?_
        rw [show (x.f0.toList == ([97, 100, 100, 105] : List UInt8)) = true from beq_iff_eq.2 e]
        exact J
      · refine Ev.ifn (fun h => by rw [e] at h; exact absurd h (by decide)) (Ev.ifp e ?_)
        rw [show (x.f0.toList == ([97, 110, 100, 105] : List UInt8)) = true from beq_iff_eq.2 e]
        exact J
      · refine Ev.ifn (fun h => by rw [e] at h; exact absurd h (by decide)) (Ev.ifn (fun h => by rw [e] at h; exact absurd h (by decide)) (Ev.ifp e ?_))
        rw [show (x.f0.toList == ([120, 111, 114, 105] : List UInt8)) = true from beq_iff_eq.2 e]
        exact J
      · refine Ev.ifn (fun h => by rw [e] at h; exact absurd h (by decide)) (Ev.ifn (fun h => by rw [e] at h; exact absurd h (by decide)) (Ev.ifn (fun h => by rw [e] at h; exact absurd h (by decide)) (Ev.ifp e ?_)))
        rw [show (x.f0.toList == ([115, 104, 108, 105] : List UInt8)) = true from beq_iff_eq.2 e]
        exact J
      · refine Ev.ifn (fun h => by rw [e] at h; exact absurd h (by decide)) (Ev.ifn (fun h => by rw [e] at h; exact absurd h (by decide)) (Ev.ifn (fun h => by rw [e] at h; exact absurd h (by decide)) (Ev.ifn (fun h => by rw [e] at h; exact absurd h (by decide)) ?_)))
        rw [show (x.f0.toList == ([115, 104, 114, 105] : List UInt8)) = true from beq_iff_eq.2 e]
        exact J
    · refine Ev.ifn (fun h => c4 (t.s4.2 (.inl h))) (Ev.ifn (fun h => c4 (t.s4.2 (.inr (.inl h)))) (Ev.ifn (fun h => c4 (t.s4.2 (.inr (.inr (.inl h))))) (Ev.ifn (fun h => c4 (t.s4.2 (.inr (.inr (.inr (.inl h)))))) ?_)))
      rw [show (x.f0.toList == ([115, 104, 114, 105] : List UInt8)) = false from Bool.eq_false_iff.2 (fun h => c4 (t.s4.2 (.inr (.inr (.inr (.inr (beq_iff_eq.1 h)))))))]
      exact vs_rest hxo (by omega) (by omega) h6 H
theorem sym_both (l : List Instr) (hl : l.length ≤ 100) (hok : ∀ x ∈ l, okI x) (r : Int) (h0 : 0 ≤ r) (h1 : r < 6) : ∃ e e' : List Node, okNs 0 e = true ∧ 0 < e.length ∧ e.length ≤ 1000 ∧ okNs 0 e' = true ∧ 0 < e'.length ∧ e'.length ≤ 1000 ∧ shP e = shP e' ∧
    Ev (fun k => impl_symbol.f k l r) (shP e, okExpr (shP e)) ∧ Ev (fun k => spec_vaSymbol.f k l r) (shP e', okExpr (shP e')) := by
  obtain ⟨p1, p2⟩ := fold_rp l (syU 6) T0 hok rp_impl
  obtain ⟨q1, q2⟩ := fold_rp l vaIni T0 hok rp_spec
  have s1 := syL_eq l (syU 6) hok (by have := (syU_len 6 (by decide)).1; omega) (syU_len 6 (by decide)).2
  have s2 := vaSym_ev l (by omega) hok l.length 0 vaIni (by omega) (by decide) rfl
  rw [List.drop_zero] at s2
  have z1 : (syU 6).1.length = 6 := (syU_len 6 (by decide)).1
  have z2 : vaIni.1.length = 3 := rfl
  rw [z1] at p2
  rw [z2] at q2
  generalize l.foldl (fun s x => stp x s) (syU 6) = S at p1 p2 s1
  generalize l.foldl (fun s x => stp x s) vaIni = S' at q1 q2 s2
  generalize l.foldl (fun T x => updT T x.f1.toNat (stT x T)) T0 = T at p1 q1
  obtain ⟨j, rfl⟩ := Int.eq_ofNat_of_zero_le h0
  obtain ⟨a1, a2, a3⟩ := p1.reg j (by omega)
  obtain ⟨b1, b2, b3⟩ := q1.reg j (by omega)
  have hl6 := p1.len
  have hl6' := q1.len
  obtain ⟨u, hu⟩ := Int.eq_ofNat_of_zero_le a1
  obtain ⟨v, hv⟩ := Int.eq_ofNat_of_zero_le b1
  rw [hu] at a2 a3
  rw [hv] at b2 b3
  obtain ⟨e, ke, kk⟩ := kept_ev S.1 p1.ok (by omega) u (by omega)
  obtain ⟨e', ke', kk'⟩ := keep_ev S'.1 q1.ok (by omega) v (by omega)
  have hs := kept_share kk kk' (by rw [a3, b3])
  refine ⟨e, e', kk.1, kk.2.1, by have := kk.2.2.1; omega, kk'.1, kk'.2.1, by have := kk'.2.2.1; omega, hs, ?_, ?_⟩
  · unfold impl_symbol.f
    refine Ev.ifp ⟨by omega, h0, h1⟩ (Ev.call s1 (Ev.ifp hl6 ?_))
    rw [hu]
    exact Ev.bind ke (Ev.bind (share_ev e kk.2.1 (by have := kk.2.2.1; omega) kk.1) (Ev.bind (isExpr_ev _) (Ev.now _)))
  · unfold spec_vaSymbol.f spec_vaSymbols.f
    refine Ev.bind s2 (Ev.ifp h0 (Ev.ifp (by omega) ?_))
    rw [hv]
    exact Ev.bind ke' (Ev.bind (exShare_ev e' kk'.2.1 (by have := kk'.2.2.1; omega) kk'.1) (Ev.bind (exGood_ev _) (Ev.now _)))
open Classical in
noncomputable def symR (l : List Instr) (r : Int) : List Node × Bool := if h : ∃ R, Ev (fun k => impl_symbol.f k l r) R then Classical.choose h else ([], false)
theorem symR_ev (l : List Instr) (hl : l.length ≤ 100) (hok : ∀ x ∈ l, okI x) (r : Int) (h0 : 0 ≤ r) (h1 : r < 6) : Ev (fun k => impl_symbol.f k l r) (symR l r) ∧ Ev (fun k => spec_vaSymbol.f k l r) (symR l r) ∧ (symR l r).2 = okExpr (symR l r).1 := by
  obtain ⟨e, e', _, _, _, _, _, _, hs, a, b⟩ := sym_both l hl hok r h0 h1
  have h : ∃ R, Ev (fun k => impl_symbol.f k l r) R := ⟨_, a⟩
  have q : symR l r = (shP e, okExpr (shP e)) := by
    unfold symR
    rw [dif_pos h]
    exact Ev.uniq (Classical.choose_spec h) a
  rw [q]
  exact ⟨a, by rw [hs]; exact b, rfl⟩
theorem vaGoodS_ev (l : List Instr) : Ev (fun k => spec_vaGood.f k l) (okBlock l) := by
  unfold spec_vaGood.f
  rw [okBlock_eq]
  by_cases h : (l.length : Int) ≤ 20
  · refine Ev.ifp h (Ev.bind (cdCode_ev l) (Ev.some ?_))
    rw [decide_eq_true (show l.length ≤ 20 by omega), Bool.and_true]
  · refine Ev.ifn h (Ev.some ?_)
    rw [decide_eq_false (show ¬ l.length ≤ 20 by omega), Bool.and_false]
end Go.Proofs.Ytkfkbmlbpeojaaa.PL
end
section
namespace Go.Proofs.Ytkfkbmlbpeojaaa.PL
open Go Go.RowKit Go.Proofs.YtkfkbmlbpeojaaaW.PrintWords Go.Proofs.YtkfkbmlbpeojaaaW.PrintLast Go.Proofs.YtkfkbmlbpeojaaaW.PrintMore Go.Proofs.Ytkfkbmlbpeojaaa.Q
set_option linter.unusedSimpArgs false
set_option linter.unusedVariables false
structure Gd (s : ShSt) : Prop where
  ok : okNs 0 s.1 = true
  lt : ∀ j : Nat, j < s.2.length → 0 ≤ rd s.2 (j : Int) → rd s.2 (j : Int) < s.1.length
theorem gd_put {x : Node} {s : ShSt} {i : Nat} (hi : i < s.2.length) (g : Gd s) (hx : okNx x (s.1.length : Int) = true) : Gd (putP x i s) := by
  have e2 : ∀ j : Nat, rd (putP x i s).2 (j : Int) = if i = j then (exPut x s.1).2 else rd s.2 (j : Int) := fun j => by
    unfold putP
    simp only
    rw [Int.toNat_natCast, rd_set _ _ _ _ hi]
  have e1 : (putP x i s).1 = (exPut x s.1).1 := rfl
  have e3 := exPut_nn x s.1
  have e4 : (putP x i s).2.length = s.2.length := by unfold putP; simp
  by_cases q : exIx x s.1 0 < 0
  · have e : exPut x s.1 = (s.1 ++ [x], (s.1.length : Int)) := by unfold exPut; rw [if_pos q]
    refine ⟨?_, fun j hj h0 => ?_⟩
    · rw [e1, e]
      simp only
      rw [okNs_app, g.ok, Nat.zero_add, hx]
      rfl
    · rw [e2] at h0 ⊢
      rw [e1, e]
      simp only [List.length_append, List.length_cons, List.length_nil]
      split
      · omega
      · rename_i h
        rw [if_neg h] at h0
        have := g.lt j (by omega) h0
        omega
  · have e : exPut x s.1 = (s.1, exIx x s.1 0) := by unfold exPut; rw [if_neg q]
    refine ⟨?_, fun j hj h0 => ?_⟩
    · rw [e1, e]
      exact g.ok
    · rw [e2] at h0 ⊢
      rw [e1, e]
      simp only
      split
      · rw [exIx_idx]
        exact idx_lt _ _
      · rename_i h
        rw [if_neg h] at h0
        exact g.lt j (by omega) h0
theorem fold_gd (n i : Nat) (g : ShSt → Int → ShSt) (hg : ∀ (p : Nat) s, p < i → s.2.length = n → s.1.length ≤ nmd s.2 → Kp n i s (g s p) ∧ (Gd s → Gd (g s p))) : ∀ (ps : List Int) (s : ShSt), (∀ p ∈ ps, 0 ≤ p ∧ p < (i : Int)) → s.2.length = n → s.1.length ≤ nmd s.2 → Gd s → Gd (ps.foldl g s)
  | [], s, _, _, _, h => h
  | q :: ps, s, hps, h1, h2, h => by
    obtain ⟨q0, q1⟩ := hps q (by simp)
    obtain ⟨p, rfl⟩ := Int.eq_ofNat_of_zero_le q0
    obtain ⟨a, b⟩ := hg p s (by omega) h1 h2
    exact fold_gd n i g hg ps (g s p) (fun x hx => hps x (by simp [hx])) a.len a.cnt (b h)
theorem shD_gd (l : List Node) (ok : okNs 0 l = true) : ∀ (d i : Nat) (s : ShSt), i < d → i < l.length → s.2.length = l.length → s.1.length ≤ nmd s.2 → Gd s → Gd (shD l d i s)
  | 0, _, _, h, _, _, _, _ => absurd h (by omega)
  | d + 1, i, s, hd, hi, h1, h2, hG => by
    unfold shD
    by_cases q : 0 ≤ rd s.2 (i : Int)
    · rw [if_pos q]
      exact hG
    · rw [if_neg q, getN_eq hi]
      have hok := okNs_get l 0 i hi ok
      rw [Nat.zero_add] at hok
      have hp := (parts_ok hok).2
      obtain ⟨a, a'⟩ := fold_ok l.length i (fun s p => shD l d p s) (fun p s hp h1 h2 => by
        obtain ⟨b, c⟩ := shD_ok l ok d p s (by omega) (by omega) h1 h2
        exact ⟨b.wide (by omega), c⟩) (partsC (kN l[i].f0) l[i].f1 l[i].f2) s (fun p hq => by have := hp p hq; omega) h1 h2
      have b := fold_gd l.length i (fun s p => shD l d p s) (fun p s hp h1 h2 => by
        obtain ⟨b, c⟩ := shD_ok l ok d p s (by omega) (by omega) h1 h2
        exact ⟨b.wide (by omega), shD_gd l ok d p s (by omega) (by omega) h1 h2⟩) (partsC (kN l[i].f0) l[i].f1 l[i].f2) s (fun p hq => by have := hp p hq; omega) h1 h2 hG
      refine gd_put (by rw [a.len]; exact hi) b (okN_node hok (fun p hq => ⟨a' p hq, ?_⟩))
      obtain ⟨p, rfl⟩ := Int.eq_ofNat_of_zero_le (hp p hq).1
      exact b.lt p (by rw [a.len]; have := (hp _ hq).2; omega) (a' _ hq)
theorem shP_ok {l : List Node} (h0 : 0 < l.length) (ok : okNs 0 l = true) : okNs 0 (shP l) = true ∧ 0 < (shP l).length ∧ (shP l).length ≤ l.length := by
  have hn : ∀ j : Nat, j < l.length → ¬ 0 ≤ rd (List.replicate l.length (-1)) (j : Int) := fun j hj h => by
    unfold rd at h
    rw [Int.toNat_natCast, getD_eq _ j (by simpa using hj)] at h
    simp at h
  have G := shD_gd l ok l.length (l.length - 1) ([], List.replicate l.length (-1)) (by omega) (by omega) (by simp) (by simp) ⟨rfl, fun j hj h => absurd h (hn j (by simpa using hj))⟩
  obtain ⟨K, k⟩ := shD_ok l ok l.length (l.length - 1) ([], List.replicate l.length (-1)) (by omega) (by omega) (by simp) (by simp)
  have := G.lt _ (by rw [K.len]; omega) k
  have c := K.cnt
  have c2 := nmd_le (shD l l.length ((l.length - 1 : Nat) : Int) ([], List.replicate l.length (-1))).2
  rw [K.len] at c2
  exact ⟨G.ok, by unfold shP; omega, by unfold shP; omega⟩
def rops : List ByteArray := [(⟨#[105, 110]⟩ : ByteArray), ⟨#[99, 111, 110, 115, 116]⟩, ⟨#[110, 111, 116]⟩, ⟨#[110, 101, 103]⟩] ++ bops
def rk (s : ByteArray) : Int := idx (fun y => decide (s = y)) rops
theorem indexS_ev (l : List ByteArray) (s : ByteArray) (hl : l.length ≤ 1048576) : Ev (fun k => slices_Index_string_string.f k l s) (idx (fun y => decide (s = y)) l) := by
  unfold slices_Index_string_string.f
  refine search_ev l _ (fun k i => slices_Index_string_string.l0 k l s l.length i) ?_ (fun i x hi hx hp => ?_) (fun i x r hi hx hp hr => ?_)
  · refine Ev.step (f := fun _ => some (-1)) (fun k => ?_) (Ev.now _)
    simp only [slices_Index_string_string.l0]
    rw [if_neg (by omega)]
  · refine Ev.step (f := fun _ => some (i : Int)) (fun k => ?_) (Ev.now _)
    simp only [slices_Index_string_string.l0, rdOf_eq hx, str_eq]
    rw [if_pos (by omega), if_pos (by omega), if_pos (by omega), if_pos (of_decide_eq_true hp)]
  · refine Ev.step (fun k => ?_) hr
    simp only [slices_Index_string_string.l0, rdOf_eq hx, str_eq]
    rw [if_pos (by omega), if_pos (by omega), if_pos (by omega), if_neg (of_decide_eq_false hp), w64n i (by omega)]
theorem rank_ev (s : ByteArray) : Ev (fun k => impl_rank.f k s) (rk s) := by
  unfold impl_rank.f
  refine Ev.call rfl (Ev.call binary_eq (Ev.ifp (by decide) (Ev.bind (indexS_ev rops s (by decide)) (Ev.now _))))
theorem vaRank_ev (s : ByteArray) (h : s ∈ rops) : Ev (fun k => spec_vaRank.f k s) (rk s) := by
  have hge : 0 ≤ rk s := (idx_nonneg _ _).2 ⟨s, h, decide_eq_true rfl⟩
  have key : ∀ (d i : Nat), i + d = rops.length → 0 ≤ idx (fun y => decide (s = y)) (rops.drop i) → Ev (fun k => spec_vaRank.l0 k s rops i) (i + idx (fun y => decide (s = y)) (rops.drop i)) := by
    intro d
    induction d with
    | zero =>
      intro i hi h0
      rw [List.drop_of_length_le (by omega)] at h0
      simp [idx] at h0
    | succ d ih =>
      intro i hi h0
      have hlt : i < rops.length := by omega
      have e : rops.drop i = rops[i] :: rops.drop (i + 1) := List.drop_eq_getElem_cons hlt
      have hb : rops.length ≤ 1000 := by decide
      rw [e] at h0 ⊢
      refine Ev.step (fun k => by simp only [spec_vaRank.l0, rdOf_eq (getD_eq rops i hlt), str_eq]; rfl) (Ev.ifp (by omega) (Ev.ifp (by omega) ?_))
      by_cases q : s = rops[i]
      · refine Ev.ifp q.symm (Ev.some ?_)
        unfold idx
        rw [if_pos (by simpa using q)]
        omega
      · refine Ev.ifn (fun h => q h.symm) ?_
        have f : idx (fun y => decide (s = y)) (rops[i] :: rops.drop (i + 1)) = if idx (fun y => decide (s = y)) (rops.drop (i + 1)) < 0 then -1 else idx (fun y => decide (s = y)) (rops.drop (i + 1)) + 1 := by
          rw [idx, if_neg (by simpa using q)]
        rw [f] at h0 ⊢
        by_cases r : idx (fun y => decide (s = y)) (rops.drop (i + 1)) < 0
        · rw [if_pos r] at h0
          omega
        · rw [if_neg r, w64n i (by omega)]
          refine ev_eq (ih (i + 1) (by omega) (by omega)) ?_
          omega
  have := key rops.length 0 (by omega) (by rw [List.drop_zero]; exact hge)
  unfold spec_vaRank.f
  refine ev_eq this ?_
  simp [rk]
theorem idx_at {s : ByteArray} : ∀ (l : List ByteArray), 0 ≤ idx (fun y => decide (s = y)) l → l[(idx (fun y => decide (s = y)) l).toNat]? = some s
  | [], h => by simp [idx] at h
  | x :: xs, h => by
    by_cases q : s = x
    · rw [idx, if_pos (by simpa using q)]
      simp [q]
    · rw [idx, if_neg (by simpa using q)] at h ⊢
      by_cases r : idx (fun y => decide (s = y)) xs < 0
      · rw [if_pos r] at h
        omega
      · rw [if_neg r] at h ⊢
        have := idx_at (s := s) xs (by omega)
        rw [show (idx (fun y => decide (s = y)) xs + 1).toNat = (idx (fun y => decide (s = y)) xs).toNat + 1 by omega, List.getElem?_cons_succ]
        exact this
theorem rk_inj {s t : ByteArray} (h : s ∈ rops) (h' : t ∈ rops) (e : rk s = rk t) : s = t := by
  have a := idx_at (s := s) rops ((idx_nonneg _ _).2 ⟨s, h, decide_eq_true rfl⟩)
  have b := idx_at (s := t) rops ((idx_nonneg _ _).2 ⟨t, h', decide_eq_true rfl⟩)
  unfold rk at e
  rw [e, b] at a
  exact (Option.some.inj a).symm
theorem rk_lt (s : ByteArray) : -1 ≤ rk s ∧ rk s < 14 := ⟨idx_ge _ _, idx_lt _ rops⟩
theorem mem_rops {s : ByteArray} (h : kN s ≠ 4) : s ∈ rops := by
  unfold kN at h
  split at h
  · rename_i q
    rw [str_lit.1 q]
    exact (hasS_iff _ _).1 (by decide +kernel)
  split at h
  · rename_i q
    rw [str_lit.1 q]
    exact (hasS_iff _ _).1 (by decide +kernel)
  split at h
  · rename_i q
    rcases q with q | q <;> rw [str_lit.1 q] <;> exact (hasS_iff _ _).1 (by decide +kernel)
  split at h
  · rename_i q
    exact List.mem_append_right _ ((hasS_iff _ _).1 q)
  · exact absurd rfl h
def Sg (c c' : Int) : Prop := (c < 0 ↔ c' < 0) ∧ (c = 0 ↔ c' = 0)
theorem compare_eq (a b : Int) : cmp_Compare_int.f a b = some (if a < b then -1 else if a > b then 1 else 0) := by
  unfold cmp_Compare_int.f cmp_isNaN_int.f
  simp
  split
  · rfl
  · split <;> rfl
theorem or_ev (a b : Int) : Ev (fun k => cmp_Or_int.f k [a, b]) (if a = 0 then b else a) := by
  have w1 : wrap64 ((0 : Int) + 1) = 1 := by unfold wrap64; omega
  have w2 : wrap64 ((1 : Int) + 1) = 2 := by unfold wrap64; omega
  unfold cmp_Or_int.f
  refine Ev.step (fun k => by simp only [cmp_Or_int.l0, w1]; rfl) (Ev.ifp (by simp) (Ev.ifp (by omega) (Ev.ifp (by simp) ?_)))
  by_cases q : a = 0
  · refine Ev.ifp q ?_
    rw [if_pos q]
    refine Ev.step (fun k => by simp only [cmp_Or_int.l0, w2]; rfl) (Ev.ifp (by simp) (Ev.ifp (by omega) (Ev.ifp (by simp) ?_)))
    by_cases r : b = 0
    · refine Ev.ifp r ?_
      rw [r]
      exact Ev.step (fun k => by simp only [cmp_Or_int.l0]; rfl) (Ev.ifn (by simp) (Ev.now _))
    · exact Ev.ifn r (Ev.now _)
  · rw [if_neg q]
    exact Ev.ifn q (Ev.now _)
theorem orLoop (G G' : Nat → Int → Int → Option Int) : ∀ (pa pb : List Int), pa.length = pb.length → (∀ t : Nat, t < pa.length → ∃ c c', Ev (fun k => G k (pa.getD t 0) (pb.getD t 0)) c ∧ Ev (fun k => G' k (pa.getD t 0) (pb.getD t 0)) c' ∧ Sg c c') →
    ∃ c c', Ev (fun k => scL (G k) pa pb) c ∧ Ev (fun k => icL (G' k) pa pb) c' ∧ Sg c c'
  | [], _, _, _ => ⟨0, 0, Ev.now _, Ev.now _, Iff.rfl, Iff.rfl⟩
  | _ :: _, [], h, _ => by simp at h
  | a :: pa, b :: pb, h, H => by
    obtain ⟨c, c', h1, h2, h3⟩ := H 0 (by simp)
    by_cases q : c = 0
    · obtain ⟨e, e', g1, g2, g3⟩ := orLoop G G' pa pb (by simpa using h) (fun t ht => H (t + 1) (by simp; omega))
      exact ⟨e, e', Ev.bind h1 (Ev.ifp q g1), Ev.bind h2 (Ev.ifp (h3.2.1 q) g2), g3⟩
    · exact ⟨c, c', Ev.bind h1 (Ev.ifn q (Ev.now _)), Ev.bind h2 (Ev.ifn (fun e => q (h3.2.2 e)) (Ev.now _)), h3⟩
theorem scW_deeper (k : Nat) (e : List Node) (d : Nat) (i j R : Int) (h : scW k e d i j = some R) : ∀ m, scW k e (d + m) i j = some R
  | 0 => h
  | m + 1 => scW_deep k e (d + m) i j R (scW_deeper k e d i j R h m)
theorem icW_deeper (k : Nat) (e : List Node) (d : Nat) (i j R : Int) (h : icW k e d i j = some R) : ∀ m, icW k e (d + m) i j = some R
  | 0 => h
  | m + 1 => icW_deep k e (d + m) i j R (icW_deeper k e d i j R h m)
theorem scW_ev (e : List Node) (d : Nat) (i j R : Int) (h : Ev (fun k => scW k e d i j) R) : Ev (fun k => spec_vaCmp.f k e i j) R := by
  obtain ⟨K, hK⟩ := h
  exact ⟨max K d, fun k hk => by have := scW_deeper k e d i j R (hK k (by omega)) (k - d); rwa [show d + (k - d) = k by omega] at this⟩
theorem icW_ev (e : List Node) (d : Nat) (i j R : Int) (h : Ev (fun k => icW k e d i j) R) : Ev (fun k => impl_compareNodes.f k e i j) R := by
  obtain ⟨K, hK⟩ := h
  exact ⟨max K d, fun k hk => by have := icW_deeper k e d i j R (hK k (by omega)) (k - d); rwa [show d + (k - d) = k by omega] at this⟩
theorem okN_val {x : Node} {i : Int} (h : okNx x i = true) : 0 ≤ x.f3 ∧ x.f3 ≤ 63 := by
  unfold okNx at h
  rcases kN_le x.f0 with c | c | c | c | c <;> rw [c] at h <;> simp [okNd] at h <;> omega
theorem partsC_rd {x : Node} {i : Int} (h : okNx x i = true) (t : Nat) (ht : t < (partsC (kN x.f0) x.f1 x.f2).length) : ∃ p : Nat, (partsC (kN x.f0) x.f1 x.f2).getD t 0 = (p : Int) ∧ (p : Int) ≤ i - 1 := by
  have hp := (parts_ok h).2
  rw [getD_eq _ t ht]
  obtain ⟨a, b⟩ := hp _ (List.getElem_mem ht)
  obtain ⟨p, hp⟩ := Int.eq_ofNat_of_zero_le a
  exact ⟨p, hp, by omega⟩
theorem partsC_len (c : Nat) (a b a' b' : Int) : (partsC c a b).length = (partsC c a' b').length := by
  rcases c with _ | _ | _ | _ | c <;> rfl
theorem cmp_fix (l : List Node) (hl : l.length ≤ 1000) (ok : okNs 0 l = true) : ∀ (d i j : Nat), i < d → i < l.length → j < l.length → ∃ c c', Ev (fun k => scW k l d i j) c ∧ Ev (fun k => icW k l d i j) c' ∧ Sg c c'
  | 0, _, _, h, _, _ => absurd h (by omega)
  | d + 1, i, j, hn, hi, hj => by
    simp only [scW, icW]
    by_cases q : i = j
    · subst q
      simp only [if_true]
      exact ⟨0, 0, Ev.now _, Ev.now _, Iff.rfl, Iff.rfl⟩
    have hx : rd_T72 l (i : Int) = l[i] := rdN_eq (getD_eq l i hi)
    have hy : rd_T72 l (j : Int) = l[j] := rdN_eq (getD_eq l j hj)
    have okx := okNs_get l 0 i hi ok
    have oky := okNs_get l 0 j hj ok
    rw [Nat.zero_add] at okx oky
    have qi : ¬ ((i : Int) = j) := by omega
    have qin : (0 ≤ (i : Int) ∧ (i : Int) < (l.length : Int)) ∧ 0 ≤ (j : Int) ∧ (j : Int) < (l.length : Int) := by omega
    simp only [if_neg qi, if_pos qin]
    rw [hx, hy]
    generalize l[i] = x at okx
    generalize l[j] = y at oky
    have mx := mem_rops (fun c => okN_none okx c)
    have my := mem_rops (fun c => okN_none oky c)
    have vx := okN_val okx
    have vy := okN_val oky
    have rx := rk_lt x.f0
    have ry := rk_lt y.f0
    simp only [str_eq]
    by_cases o : x.f0 = y.f0
    · by_cases v : x.f3 = y.f3
      · have hl2 := (parts_ok okx).1
        have hlen : (partsC (kN x.f0) x.f1 x.f2).length = (partsC (kN y.f0) y.f1 y.f2).length := by rw [o]; exact partsC_len _ _ _ _ _
        obtain ⟨c, c', g1, g2, g3⟩ := orLoop (fun k => scW k l d) (fun k => icW k l d) (partsC (kN x.f0) x.f1 x.f2) (partsC (kN y.f0) y.f1 y.f2) hlen (fun t ht => by
          obtain ⟨p, hp, hp'⟩ := partsC_rd okx t ht
          obtain ⟨p2, hp2, hp2'⟩ := partsC_rd oky t (by omega)
          rw [hp, hp2]
          exact cmp_fix l hl ok d p p2 (by omega) (by omega) (by omega))
        refine ⟨c, c', Ev.ifp o (Ev.ifp v (Ev.bind (exParts_ev y) (Ev.bind (exParts_ev x) (Ev.ifp (by omega) g1)))), ?_, g3⟩
        refine Ev.bind (rank_ev x.f0) (Ev.bind (rank_ev y.f0) (Ev.call (compare_eq _ _) (Ev.call (compare_eq _ _) (Ev.bind (or_ev _ _) (Ev.ifp ?_ (Ev.bind (of_ev x) (Ev.bind (of_ev y) (Ev.ifp (by omega) g2))))))))
        rw [o, v]
        simp
      · refine ⟨wrap64 (x.f3 - y.f3), _, Ev.ifp o (Ev.ifn v (Ev.now _)), Ev.bind (rank_ev x.f0) (Ev.bind (rank_ev y.f0) (Ev.call (compare_eq _ _) (Ev.call (compare_eq _ _) (Ev.bind (or_ev _ _) (Ev.ifn ?_ (Ev.now _)))))), ?_⟩
        · rw [o]
          simp
          split
          · omega
          · split <;> omega
        · rw [w64 (by omega) (by omega), o]
          simp only [Int.lt_irrefl, gt_iff_lt, if_false, if_true]
          unfold Sg
          split
          · omega
          · split <;> omega
    · have hr : rk x.f0 ≠ rk y.f0 := fun e => o (rk_inj mx my e)
      refine ⟨wrap64 (rk x.f0 - rk y.f0), _, Ev.ifn o (Ev.bind (vaRank_ev _ mx) (Ev.bind (vaRank_ev _ my) (Ev.now (wrap64 (rk x.f0 - rk y.f0))))), Ev.bind (rank_ev x.f0) (Ev.bind (rank_ev y.f0) (Ev.call (compare_eq _ _) (Ev.call (compare_eq _ _) (Ev.bind (or_ev _ _) (Ev.ifn ?_ (Ev.now _)))))), ?_⟩
      · split
        · split at * <;> omega
        · split at * <;> omega
      · rw [w64 (by omega) (by omega)]
        unfold Sg
        split
        · split at * <;> omega
        · split at * <;> omega
theorem kN_io {s : ByteArray} (h : hasS ioOps s = true) : kN s = 3 := by
  have := (hasS_iff _ _).1 h
  unfold ioOps at this
  simp only [List.mem_cons, List.not_mem_nil, or_false] at this
  rcases this with rfl | rfl | rfl | rfl | rfl | rfl <;> decide +kernel
theorem okNs_set : ∀ (xs : List Node) (i j : Nat) (y : Node), okNs i xs = true → okNx y ((i + j : Nat) : Int) = true → okNs i (xs.set j y) = true
  | [], _, _, _, h, _ => by simpa using h
  | x :: xs, i, 0, y, h, hy => by
    simp only [okNs, Bool.and_eq_true, List.set_cons_zero] at h ⊢
    exact ⟨hy, h.2⟩
  | x :: xs, i, j + 1, y, h, hy => by
    simp only [okNs, Bool.and_eq_true, List.set_cons_succ] at h ⊢
    exact ⟨h.1, okNs_set xs (i + 1) j y h.2 (by rw [show i + 1 + j = i + (j + 1) by omega]; exact hy)⟩
theorem st_both (out : List Node) (u : Nat) (hu : u < out.length) (hl : out.length ≤ 1000) (ok : okNs 0 out = true) : ∃ o, Ev (fun k => ioSt k out u) o ∧ Ev (fun k => vaSt k out u) o ∧ okNs 0 o = true ∧ o.length = out.length := by
  have hx : rd_T72 out (u : Int) = out[u] := rdN_eq (getD_eq out u hu)
  have okx := okNs_get out 0 u hu ok
  rw [Nat.zero_add] at okx
  unfold ioSt vaSt
  rw [hx]
  generalize out[u] = x at okx
  have ht : Ev (fun k => spec_vaTurned.f k x.f0) (hasS ioOps x.f0) := by
    unfold spec_vaTurned.f
    exact Ev.bind (l1HasS_ev ioOps x.f0 (by decide)) (Ev.now _)
  by_cases q : hasS ioOps x.f0 = true
  · have c3 := kN_io q
    obtain ⟨⟨e1, e2⟩, e4, e5⟩ := okN_bi okx c3
    obtain ⟨p, hp⟩ := Int.eq_ofNat_of_zero_le e1
    obtain ⟨p', hp'⟩ := Int.eq_ofNat_of_zero_le e4
    obtain ⟨c, c', g1, g2, g3⟩ := cmp_fix out hl ok (p' + 1) p' p (by omega) (by omega) (by omega)
    replace g1 := scW_ev _ _ _ _ _ g1
    replace g2 := icW_ev _ _ _ _ _ g2
    rw [← hp, ← hp'] at g1 g2
    refine ⟨if c < 0 then out.set (u : Int).toNat ⟨x.f0, x.f2, x.f1, x.f3⟩ else out, Ev.bind (containsS_ev ioOps x.f0 (by decide)) (Ev.ifp q (Ev.bind g2 (Ev.some ?_))), Ev.bind ht (Ev.ifp q (Ev.bind g1 (Ev.now _))), ?_, ?_⟩
    · by_cases r : c < 0
      · rw [if_pos r, if_pos (g3.1.1 r)]
      · rw [if_neg r, if_neg (fun e => r (g3.1.2 e))]
    · split
      · rw [Int.toNat_natCast]
        refine okNs_set out 0 u _ ok ?_
        rw [Nat.zero_add]
        unfold okNx at okx ⊢
        simp only
        rw [c3] at okx ⊢
        simp [okNd] at okx ⊢
        omega
      · exact ok
    · split <;> simp
  · exact ⟨out, Ev.bind (containsS_ev ioOps x.f0 (by decide)) (Ev.ifn q (Ev.now _)), Ev.bind ht (Ev.ifn q (Ev.now _)), ok, rfl⟩
theorem loop_both : ∀ (d u : Nat) (out : List Node), u + d = out.length → out.length ≤ 1000 → okNs 0 out = true → ∃ o, Ev (fun k => ioL k d u out) o ∧ Ev (fun k => vaL k d u out) o ∧ okNs 0 o = true ∧ o.length = out.length
  | 0, u, out, _, _, ok => ⟨out, Ev.now _, Ev.now _, ok, rfl⟩
  | d + 1, u, out, h, hl, ok => by
    obtain ⟨o, a, b, c, e⟩ := st_both out u (by omega) hl ok
    obtain ⟨o2, a2, b2, c2, e2⟩ := loop_both d (u + 1) o (by omega) (by omega) c
    exact ⟨o2, Ev.bind a a2, Ev.bind b b2, c2, by omega⟩
theorem order_both (l : List Node) (h0 : 0 < l.length) (hl : l.length ≤ 1000) (ok : okNs 0 l = true) : ∃ R, Ev (fun k => impl_inOrder.f k l) R ∧ Ev (fun k => spec_vaOrder.f k l) R ∧ okNs 0 R = true ∧ 0 < R.length ∧ R.length ≤ l.length := by
  obtain ⟨a, b, c⟩ := shP_ok h0 ok
  obtain ⟨o, d, e, f, g⟩ := loop_both (shP l).length 0 (shP l) (by omega) (by omega) a
  obtain ⟨a', b', c'⟩ := shP_ok (l := o) (by omega) f
  refine ⟨shP o, ?_, ?_, a', b', by omega⟩
  · unfold impl_inOrder.f
    exact Ev.bind (share_ev l h0 hl ok) (Ev.ifp (by omega) (Ev.bind d (share_ev o (by omega) (by omega) f)))
  · unfold spec_vaOrder.f
    exact Ev.bind (exShare_ev l h0 hl ok) (Ev.ifp (by omega) (Ev.bind e (exShare_ev o (by omega) (by omega) f)))
open Classical in
noncomputable def ordR (l : List Node) : List Node := if h : ∃ R, Ev (fun k => impl_inOrder.f k l) R then Classical.choose h else []
theorem ordR_ev (l : List Node) (h0 : 0 < l.length) (hl : l.length ≤ 1000) (ok : okNs 0 l = true) : Ev (fun k => impl_inOrder.f k l) (ordR l) ∧ Ev (fun k => spec_vaOrder.f k l) (ordR l) ∧ okNs 0 (ordR l) = true ∧ 0 < (ordR l).length ∧ (ordR l).length ≤ l.length := by
  obtain ⟨R, a, b, c⟩ := order_both l h0 hl ok
  have h : ∃ R, Ev (fun k => impl_inOrder.f k l) R := ⟨R, a⟩
  have e : ordR l = R := by
    unfold ordR
    rw [dif_pos h]
    exact Ev.uniq (Classical.choose_spec h) a
  rw [e]
  exact ⟨a, b, c⟩
theorem and63_eq (n : Int) : bits .and .i64 n 63 = n % 64 := by
  have h63 : (BitVec.ofInt 64 63).toNat = 2 ^ 6 - 1 := by decide
  have key : (BitVec.ofInt 64 n &&& BitVec.ofInt 64 63).toNat = (n % ((2 ^ 64 : Nat) : Int)).toNat % 2 ^ 6 := by
    rw [BitVec.toNat_and, BitVec.toNat_ofInt, h63, Nat.and_two_pow_sub_one_eq_mod]
  show IntKind.i64.wrap ((BitVec.ofInt 64 n &&& BitVec.ofInt 64 63).toNat : Nat) = n % 64
  rw [key, IntKind.wrap_i64]
  omega
def okV (v : Int) : Prop := 0 ≤ v ∧ v ≤ 63
theorem okV_and (n : Int) : okV (bits .and .i64 n 63) := by
  rw [and63_eq]
  unfold okV
  omega
theorem bit_eq (b : Bool) : impl_bit.f b = some (if b = true then 1 else 0) := by
  cases b <;> rfl
theorem apply_eq (s : ByteArray) (a b : Int) : impl_apply.f s a b = spec_exApply.f s a b := by
  unfold impl_apply.f spec_exApply.f
  simp only [bit_eq, Option.bind_some]
  repeat refine ite_congr rfl (fun _ => rfl) (fun _ => ?_)
  refine ite_congr rfl (fun _ => ?_) (fun _ => ite_congr rfl (fun _ => ?_) (fun _ => rfl))
  · by_cases h : a < b
    · rw [if_pos h, if_pos (by simpa using h)]
    · rw [if_neg h, if_neg (by simpa using h)]
  · by_cases h : a = b
    · rw [if_pos h, if_pos (by simpa using h)]
    · rw [if_neg h, if_neg (by simpa using h)]
theorem ex_ite {c : Prop} [Decidable c] {x y : Option Int} {P : Int → Prop} (hx : ∃ v, x = some v ∧ P v) (hy : ∃ v, y = some v ∧ P v) : ∃ v, (if c then x else y) = some v ∧ P v := by
  by_cases h : c
  · rw [if_pos h]; exact hx
  · rw [if_neg h]; exact hy
theorem exApply_ok (s : ByteArray) (a b : Int) (hb : 0 ≤ b) : ∃ v, spec_exApply.f s a b = some v ∧ okV v := by
  unfold spec_exApply.f
  rw [if_pos hb, if_pos hb]
  repeat' refine ex_ite ?_ ?_
  all_goals exact ⟨_, rfl, okV_and _⟩
def isC (s : ByteArray) : Bool := s.toList == ([99, 111, 110, 115, 116] : List UInt8)
def foV (x : Node) (out : List Node) : Int := (spec_exApply.f x.f0 (rd_T72 out x.f1).f3 (if 1 < (prt x).length then (rd_T72 out x.f2).f3 else 0)).getD 0
def foC (x : Node) (out : List Node) : Bool := decide (0 < (prt x).length) && (prt x).all fun p => isC (rd_T72 out p).f0
def foSt (out : List Node) (u : Nat) : List Node := if foC (rd_T72 out (u : Int)) out = true then out.set u (fdC (foV (rd_T72 out (u : Int)) out)) else out
theorem foSt_len (out : List Node) (u : Nat) : (foSt out u).length = out.length := by
  unfold foSt
  split <;> simp
theorem efIn_all (out : List Node) : ∀ (ps : List Int) (b : Bool), (∀ p ∈ ps, 0 ≤ p ∧ p < (out.length : Int)) → efIn out ps b = some (b && ps.all fun p => isC (rd_T72 out p).f0)
  | [], b, _ => by simp [efIn]
  | p :: ps, b, h => by
    unfold efIn
    cases b with
    | true => rw [if_pos rfl, if_pos (h p (by simp)), efIn_all out ps _ (fun q hq => h q (by simp [hq]))]; simp [isC]
    | false => rw [if_neg Bool.false_ne_true, efIn_all out ps _ (fun q hq => h q (by simp [hq]))]; simp
theorem ifb (b c : Bool) : (if b = true then c else false) = (b && c) := by cases b <;> simp
theorem fdIn_all (x : Node) (out : List Node) (hp : ∀ p ∈ prt x, 0 ≤ p ∧ p < (out.length : Int)) : ∃ s, fdIn out (prt x) 0 [0, 0] (decide (0 < opndC (kN x.f0))) = some (s, foC x out) ∧ (foC x out = true → rdOf 0 s 0 = (rd_T72 out x.f1).f3 ∧ rdOf 0 s 1 = if 1 < (prt x).length then (rd_T72 out x.f2).f3 else 0) := by
  unfold foC
  unfold prt at hp ⊢
  rcases kN_le x.f0 with c | c | c | c | c <;> rw [c] at hp ⊢ <;> simp only [partsC, opndC] at hp ⊢
  · exact ⟨[0, 0], by simp [fdIn], by simp⟩
  · exact ⟨[0, 0], by simp [fdIn], by simp⟩
  · have h1 := hp x.f1 (by simp)
    refine ⟨[(rd_T72 out x.f1).f3, 0], ?_, fun _ => ⟨rfl, rfl⟩⟩
    simp only [fdIn]
    rw [if_pos ⟨h1.1, h1.2, by omega⟩, ifb]
    simp [isC]
  · have h1 := hp x.f1 (by simp)
    have h2 := hp x.f2 (by simp)
    refine ⟨[(rd_T72 out x.f1).f3, (rd_T72 out x.f2).f3], ?_, fun _ => ⟨rfl, rfl⟩⟩
    simp only [fdIn]
    rw [if_pos ⟨h1.1, h1.2, by omega⟩, if_pos ⟨h2.1, h2.2, by omega⟩, ifb, ifb]
    simp [isC]
  · exact ⟨[0, 0], by simp [fdIn], by simp⟩
theorem kN_fdC (v : Int) : kN (fdC v).f0 = 1 := by
  show kN (⟨#[99, 111, 110, 115, 116]⟩ : ByteArray) = 1
  decide +kernel
theorem fo_both (out : List Node) (u : Nat) (hu : u < out.length) (ok : okNs 0 out = true) : Ev (fun k => fdSt k out u) (foSt out u) ∧ Ev (fun k => efSt k out u) (foSt out u) ∧ okNs 0 (foSt out u) = true := by
  have hx : rd_T72 out (u : Int) = out[u] := rdN_eq (getD_eq out u hu)
  have hok := okNs_get out 0 u hu ok
  rw [Nat.zero_add] at hok
  unfold fdSt efSt foSt
  rw [hx]
  obtain ⟨x, ex⟩ : ∃ x, x = out[u] := ⟨_, rfl⟩
  rw [← ex] at hok ⊢
  have hp0 := (parts_ok hok).2
  have hp : ∀ p ∈ prt x, 0 ≤ p ∧ p < (out.length : Int) := fun p h => by have := hp0 p h; omega
  obtain ⟨s, hs, hv⟩ := fdIn_all x out hp
  have he := efIn_all out (prt x) (decide (0 < (prt x).length)) hp
  have hval : ∀ p ∈ prt x, 0 ≤ (rd_T72 out p).f3 := fun p h => by
    obtain ⟨a, b⟩ := hp p h
    obtain ⟨q, rfl⟩ := Int.eq_ofNat_of_zero_le a
    have hq : q < out.length := by omega
    rw [rdN_eq (getD_eq out q hq)]
    exact (okN_val (okNs_get out 0 q hq ok)).1
  by_cases hc : foC x out = true
  · have hc0 : 0 < (prt x).length := by
      unfold foC at hc
      simp only [Bool.and_eq_true, decide_eq_true_eq] at hc
      exact hc.1
    have hm1 : x.f1 ∈ prt x := by
      unfold prt at hc0 ⊢
      rcases kN_le x.f0 with c | c | c | c | c <;> rw [c] at hc0 ⊢ <;> simp [partsC] at hc0 ⊢
    have hm2 : 1 < (prt x).length → x.f2 ∈ prt x := fun h => by
      unfold prt at h ⊢
      rcases kN_le x.f0 with c | c | c | c | c <;> rw [c] at h ⊢ <;> simp [partsC] at h ⊢
    obtain ⟨v, ev, hvv⟩ := exApply_ok x.f0 (rd_T72 out x.f1).f3 (if 1 < (prt x).length then (rd_T72 out x.f2).f3 else 0) (by
      split
      · rename_i h
        exact hval _ (hm2 h)
      · omega)
    have hV : foV x out = v := by unfold foV; rw [ev]; rfl
    rw [if_pos hc, hV]
    refine ⟨?_, ?_, ?_⟩
    · refine Ev.bind (operands_ev x.f0) (Ev.bind (of_ev x) (Ev.call hs (Ev.ifp hc (Ev.call (a := v) ?_ (Ev.now _)))))
      obtain ⟨e0, e1⟩ := hv hc
      rw [e0, e1, apply_eq]
      exact ev
    · refine Ev.bind (exParts_ev x) (Ev.call he (Ev.ifp hc (Ev.ifp ⟨hp _ hm1, fun h => hp _ (hm2 h)⟩ (Ev.call ev (Ev.now _)))))
    · refine okNs_set out 0 u (fdC v) ok ?_
      unfold okNx
      rw [kN_fdC]
      obtain ⟨a, b⟩ := hvv
      simp [okNd, fdC, a, b]
  · rw [if_neg hc]
    exact ⟨Ev.bind (operands_ev x.f0) (Ev.bind (of_ev x) (Ev.call hs (Ev.ifn hc (Ev.now _)))), Ev.bind (exParts_ev x) (Ev.call he (Ev.ifn hc (Ev.now _))), ok⟩
def foL : Nat → Nat → List Node → List Node
  | 0, _, out => out
  | d + 1, u, out => foL d (u + 1) (foSt out u)
theorem foL_both : ∀ (d u : Nat) (out : List Node), u + d = out.length → okNs 0 out = true → Ev (fun k => fdL k d u out) (foL d u out) ∧ Ev (fun k => efL k d u out) (foL d u out) ∧ okNs 0 (foL d u out) = true ∧ (foL d u out).length = out.length
  | 0, _, out, _, ok => ⟨Ev.now _, Ev.now _, ok, rfl⟩
  | d + 1, u, out, h, ok => by
    obtain ⟨a, b, c⟩ := fo_both out u (by omega) ok
    obtain ⟨a', b', c', d'⟩ := foL_both d (u + 1) (foSt out u) (by rw [foSt_len]; omega) c
    exact ⟨Ev.bind a a', Ev.bind b b', c', d'.trans (foSt_len _ _)⟩
theorem clone_ev (l : List Node) (hl : l.length ≤ 1000) : impl_Node_171.f l = some l := by
  unfold impl_Node_171.f
  rw [Option.bind_some, if_pos (by simp; omega)]
  simp
theorem fold_both (l : List Node) (h0 : 0 < l.length) (hl : l.length ≤ 1000) (ok : okNs 0 l = true) : ∃ e e', Ev (fun k => impl_fold.f k l) e ∧ Ev (fun k => spec_exFold.f k l) e' ∧ (okNs 0 e = true ∧ 0 < e.length ∧ e.length ≤ l.length) ∧ (okNs 0 e' = true ∧ 0 < e'.length ∧ e'.length ≤ l.length) ∧ shP e = shP e' := by
  obtain ⟨a, b, c, d⟩ := foL_both l.length 0 l (by omega) ok
  obtain ⟨e, he, hk⟩ := kept_ev (foL l.length 0 l) c (by omega) (l.length - 1) (by omega)
  obtain ⟨e', he', hk'⟩ := keep_ev (foL l.length 0 l) c (by omega) (l.length - 1) (by omega)
  have hi : (l.length : Int) - 1 = ((l.length - 1 : Nat) : Int) := by omega
  rw [← hi] at he he'
  refine ⟨e, e', ?_, ?_, ⟨hk.1, hk.2.1, by have := hk.2.2.1; omega⟩, ⟨hk'.1, hk'.2.1, by have := hk'.2.2.1; omega⟩, kept_share hk hk' rfl⟩
  · unfold impl_fold.f
    exact Ev.call (clone_ev l hl) (Ev.ifp (by omega) (Ev.bind a (Ev.ifp d he)))
  · unfold spec_exFold.f
    exact Ev.ifp (by omega) (Ev.bind b (Ev.ifp d he'))
theorem order_two {l m : List Node} (h0 : 0 < l.length) (hl : l.length ≤ 1000) (ok : okNs 0 l = true) (h0' : 0 < m.length) (hl' : m.length ≤ 1000) (ok' : okNs 0 m = true) (hs : shP l = shP m) : Ev (fun k => impl_inOrder.f k l) (ordR m) ∧ Ev (fun k => spec_vaOrder.f k m) (ordR m) := by
  refine ⟨?_, (ordR_ev m h0' hl' ok').2.1⟩
  obtain ⟨a, b, c⟩ := shP_ok h0 ok
  obtain ⟨o, d, e, f, g⟩ := loop_both (shP l).length 0 (shP l) (by omega) (by omega) a
  have k1 : Ev (fun k => impl_inOrder.f k l) (shP o) := by
    unfold impl_inOrder.f
    exact Ev.bind (share_ev l h0 hl ok) (Ev.ifp (by omega) (Ev.bind d (share_ev o (by omega) (by omega) f)))
  have k2 : Ev (fun k => impl_inOrder.f k m) (shP o) := by
    unfold impl_inOrder.f
    rw [hs] at b c d g
    exact Ev.bind (share_ev m h0' hl' ok') (Ev.ifp (by omega) (Ev.bind d (share_ev o (by omega) (by omega) f)))
  rw [Ev.uniq (ordR_ev m h0' hl' ok').1 k2]
  exact k1
open Classical in
noncomputable def plR (l : List Node) : List Node := if h : ∃ R, Ev (fun k => (impl_fold.f k l).bind fun e => impl_inOrder.f k e) R then Classical.choose h else []
theorem plR_ev (l : List Node) (h0 : 0 < l.length) (hl : l.length ≤ 1000) (ok : okNs 0 l = true) : ∃ e e', Ev (fun k => impl_fold.f k l) e ∧ Ev (fun k => spec_exFold.f k l) e' ∧ Ev (fun k => impl_inOrder.f k e) (plR l) ∧ Ev (fun k => spec_vaOrder.f k e') (plR l) ∧ (plR l).length ≤ l.length := by
  obtain ⟨e, e', h, h', ⟨a, b, c⟩, ⟨a', b', c'⟩, hs⟩ := fold_both l h0 hl ok
  obtain ⟨p, q⟩ := order_two b (by omega) a b' (by omega) a' hs
  have hR : plR l = ordR e' := by
    have hx : ∃ R, Ev (fun k => (impl_fold.f k l).bind fun e => impl_inOrder.f k e) R := ⟨_, Ev.bind h p⟩
    unfold plR
    rw [dif_pos hx]
    exact Ev.uniq (Classical.choose_spec hx) (Ev.bind h p)
  rw [hR]
  exact ⟨e, e', h, h', p, q, by have := (ordR_ev e' b' (by omega) a').2.2.2.2; omega⟩
noncomputable def plS (l : List Instr) (r : Int) : List Node × Bool := if (symR l r).2 = true then (plR (symR l r).1, true) else ([], false)
theorem plS_ev (l : List Instr) (hl : l.length ≤ 100) (hok : ∀ x ∈ l, okI x) (r : Int) (h0 : 0 ≤ r) (h1 : r < 6) : Ev (fun k => impl_plain.f k l r) (plS l r) ∧ Ev (fun k => spec_vaPlain.f k l r) (plS l r) ∧ (plS l r).1.length ≤ 24 := by
  obtain ⟨a, b, c⟩ := symR_ev l hl hok r h0 h1
  unfold impl_plain.f spec_vaPlain.f plS
  by_cases h : (symR l r).2 = true
  · obtain ⟨⟨p, q⟩, ok⟩ := okExpr_of (c.symm.trans h)
    obtain ⟨e, e', f, f', g, g', hlen⟩ := plR_ev (symR l r).1 (by omega) (by omega) ok
    simp only [if_pos h]
    exact ⟨Ev.bind a (Ev.ifp h (Ev.bind f (Ev.bind g (Ev.now _)))), Ev.bind b (Ev.ifp h (Ev.bind f' (Ev.bind g' (Ev.now _)))), by omega⟩
  · simp only [if_neg h]
    exact ⟨Ev.bind a (Ev.ifn h (Ev.now _)), Ev.bind b (Ev.ifn h (Ev.now _)), Nat.zero_le _⟩
def risingL : List Int → Bool
  | a :: b :: r => decide (a < b) && risingL (b :: r)
  | _ => true
def inR (w : Int) : Bool := decide (0 ≤ w ∧ w ≤ 5)
def okWant (ws : List Int) : Bool := risingL ws && ws.all inR
def rngR (a b : Int) : Option Int → List Int → Bool
  | _, [] => true
  | p, y :: ys => decide (a ≤ y ∧ y ≤ b) && (match p with | none => true | some q => decide (q < y)) && rngR a b (some y) ys
theorem rngR_some (a b : Int) (ys : List Int) : ∀ p, rngR a b (some p) ys = (risingL (p :: ys) && ys.all (fun y => decide (a ≤ y ∧ y ≤ b))) := by
  induction ys with
  | nil => intro p; rfl
  | cons y ys ih =>
    intro p
    simp only [rngR, ih, risingL, List.all_cons]
    cases decide (a ≤ y ∧ y ≤ b) <;> cases decide (p < y) <;> simp
theorem rngR_none (a b : Int) (ys : List Int) : rngR a b none ys = (risingL ys && ys.all (fun y => decide (a ≤ y ∧ y ≤ b))) := by
  cases ys with
  | nil => rfl
  | cons y ys =>
    simp only [rngR, rngR_some, List.all_cons]
    cases decide (a ≤ y ∧ y ≤ b) <;> simp
theorem l1Rising_ev (ws : List Int) (a b : Int) (h : ws.length ≤ 1048576) : Ev (fun k => spec_l1Rising.f k ws a b) (risingL ws && ws.all (fun y => decide (a ≤ y ∧ y ≤ b))) := by
  rw [← rngR_none]
  unfold spec_l1Rising.f
  have key : ∀ (d i : Nat) (p : Option Int), (i = 0 → p = none) → (0 < i → p = some (rd ws ((i - 1 : Nat) : Int))) → i + d = ws.length → Ev (fun k => spec_l1Rising.l0 k ws a b ws ws.length i) (rngR a b p (ws.drop i)) := by
    intro d
    induction d with
    | zero =>
      intro i p hp hp' hi
      refine Ev.step (f := fun _ => some true) (fun k => ?_) (Ev.some ?_)
      · simp only [spec_l1Rising.l0]
        rw [if_neg (by omega)]
      · rw [List.drop_of_length_le (by omega)]
        rfl
    | succ d ih =>
      intro i p hp hp' hi
      have hlt : i < ws.length := by omega
      have e : ws.drop i = ws[i] :: ws.drop (i + 1) := List.drop_eq_getElem_cons hlt
      have hx := rd_eq (getD_eq ws i hlt)
      have next := ih (i + 1) (some ws[i]) (by omega) (fun _ => by rw [show ((i + 1 - 1 : Nat) : Int) = (i : Int) by omega, hx]) (by omega)
      rw [e]
      refine Ev.step (fun k => by simp only [spec_l1Rising.l0, hx]; rfl) (Ev.ifp (by omega) (Ev.ifp (by omega) (Ev.ifp (by omega) (Ev.call (l1In_eq _ _ _) ?_))))
      by_cases q : a ≤ ws[i] ∧ ws[i] ≤ b
      · refine Ev.ifp (by simpa using q) ?_
        by_cases hz : i = 0
        · subst hz
          rw [hp rfl]
          refine Ev.ifn (by omega) ?_
          rw [w64n 0 (by omega)]
          refine ev_eq next ?_
          simp only [rngR]
          rw [decide_eq_true q]
          rfl
        · refine Ev.ifp (by omega) ?_
          rw [show wrap64 ((i : Int) - 1) = ((i - 1 : Nat) : Int) by rw [w64 (by omega) (by omega)]; omega]
          refine Ev.ifp (by omega) (Ev.ifp (by omega) ?_)
          rw [hp' (by omega)]
          by_cases u : rd ws ((i - 1 : Nat) : Int) ≥ ws[i]
          · refine Ev.ifp u (Ev.some ?_)
            simp only [rngR]
            rw [decide_eq_false (show ¬ rd ws ((i - 1 : Nat) : Int) < ws[i] by omega)]
            simp
          · refine Ev.ifn u ?_
            rw [w64n i (by omega)]
            refine ev_eq next ?_
            simp only [rngR]
            rw [decide_eq_true q, decide_eq_true (show rd ws ((i - 1 : Nat) : Int) < ws[i] by omega)]
            rfl
      · refine Ev.ifn (by simpa using q) (Ev.some ?_)
        simp only [rngR]
        rw [decide_eq_false q]
        rfl
  simpa using key ws.length 0 none (fun _ => rfl) (by omega) (by omega)
theorem cdWanted_ev (ws : List Int) (h : ws.length ≤ 1048576) : Ev (fun k => spec_cdWanted.f k ws) (okWant ws) := by
  unfold spec_cdWanted.f
  exact Ev.bind (l1Rising_ev ws 0 5 h) (Ev.now _)
theorem isRising_ev (ws : List Int) (h : ws.length ≤ 1048576) : Ev (fun k => impl_isRising.f k ws) (risingL ws) := by
  unfold impl_isRising.f
  have key : ∀ (d i : Nat), i + 1 + d = ws.length → Ev (fun k => impl_isRising.l0 k ws ((i + 1 : Nat) : Int)) (risingL (ws.drop i)) := by
    intro d
    induction d with
    | zero =>
      intro i hi
      have hlt : i < ws.length := by omega
      have e : ws.drop i = ws[i] :: ws.drop (i + 1) := List.drop_eq_getElem_cons hlt
      refine Ev.step (f := fun _ => some true) (fun k => ?_) (Ev.some ?_)
      · simp only [impl_isRising.l0]
        rw [if_neg (by omega)]
      · rw [e, List.drop_of_length_le (by omega)]
        rfl
    | succ d ih =>
      intro i hi
      have hlt : i < ws.length := by omega
      have hlt' : i + 1 < ws.length := by omega
      have e : ws.drop i = ws[i] :: ws.drop (i + 1) := List.drop_eq_getElem_cons hlt
      have e' : ws.drop (i + 1) = ws[i + 1] :: ws.drop (i + 1 + 1) := List.drop_eq_getElem_cons hlt'
      refine Ev.step (fun k => by simp only [impl_isRising.l0, rd_eq (getD_eq ws (i + 1) hlt'), show wrap64 (((i + 1 : Nat) : Int) - 1) = (i : Int) by rw [w64 (by omega) (by omega)]; omega, rd_eq (getD_eq ws i hlt)]; rfl) (Ev.ifp (by omega) (Ev.ifp (by omega) (Ev.ifp (by omega) (Ev.ifp (by omega) ?_))))
      rw [e, e']
      by_cases q : ws[i + 1] ≤ ws[i]
      · refine Ev.ifp q (Ev.some ?_)
        simp only [risingL]
        rw [decide_eq_false (by omega)]
        rfl
      · refine Ev.ifn q ?_
        rw [w64n (i + 1) (by omega)]
        refine ev_eq (ih (i + 1) (by omega)) ?_
        rw [e']
        simp only [risingL]
        rw [decide_eq_true (show ws[i] < ws[i + 1] by omega)]
        rfl
  cases ws with
  | nil =>
    refine Ev.step (f := fun _ => some true) (fun k => ?_) (Ev.now _)
    simp only [impl_isRising.l0]
    rw [if_neg (by simp)]
  | cons w ws =>
    have := key ws.length 0 (by simp; omega)
    simpa using this
theorem areWanted_ev (ws : List Int) (h : ws.length ≤ 1048576) : Ev (fun k => impl_areWanted.f k ws) (okWant ws) := by
  unfold impl_areWanted.f okWant
  refine Ev.bind (isRising_ev ws h) ?_
  by_cases hr : risingL ws = true
  · refine Ev.ifp hr ?_
    rw [hr, Bool.true_and]
    have hs : Ev (fun k => slices_IndexFunc_impl_areWanted_1.f k ws) (idx (fun x => !inR x) ws) := by
      unfold slices_IndexFunc_impl_areWanted_1.f
      refine search_ev ws _ (fun k i => slices_IndexFunc_impl_areWanted_1.l0 k ws ws.length i) ?_ (fun i x hi hx hp => ?_) (fun i x r hi hx hp hr => ?_)
      · refine Ev.step (f := fun _ => some (-1)) (fun k => ?_) (Ev.now _)
        simp only [slices_IndexFunc_impl_areWanted_1.l0]
        rw [if_neg (by omega)]
      · refine Ev.step (f := fun _ => some (i : Int)) (fun k => ?_) (Ev.now _)
        simp only [slices_IndexFunc_impl_areWanted_1.l0, impl_areWanted_1.f, rd_eq hx, isRegister_eq, Option.bind_some]
        rw [if_pos (by omega), if_pos (by omega), if_pos (by omega), if_pos (show (!decide (0 ≤ x ∧ x ≤ 5)) = true from hp)]
      · refine Ev.step (fun k => ?_) hr
        simp only [slices_IndexFunc_impl_areWanted_1.l0, impl_areWanted_1.f, rd_eq hx, isRegister_eq, Option.bind_some]
        rw [if_pos (by omega), if_pos (by omega), if_pos (by omega), if_neg (show ¬ (!decide (0 ≤ x ∧ x ≤ 5)) = true from fun e => by rw [show (!decide (0 ≤ x ∧ x ≤ 5)) = false from hp] at e; cases e), w64n i (by omega)]
    unfold slices_ContainsFunc_impl_areWanted_1.f
    refine Ev.bind (Ev.bind hs (Ev.now _)) (Ev.some ?_)
    have e := idx_nonneg (fun x => !inR x) ws
    by_cases hc : 0 ≤ idx (fun x => !inR x) ws
    · obtain ⟨x, hx, hx'⟩ := e.1 hc
      rw [decide_eq_true (show idx (fun x => !inR x) ws ≥ 0 from hc)]
      symm
      simpa using ⟨x, hx, by simpa using hx'⟩
    · rw [decide_eq_false (show ¬ idx (fun x => !inR x) ws ≥ 0 from hc)]
      symm
      have := fun h => hc (e.2 h)
      simpa using this
  · refine Ev.ifn hr (Ev.some ?_)
    rw [Bool.eq_false_iff.2 hr]
    rfl
def okTask (l m : List Instr) (ws : List Int) : Bool := okBlock l && (okBlock m && okWant ws)
theorem areBlocks_ev (l m : List Instr) (ws : List Int) (h : ws.length ≤ 1048576) : Ev (fun k => impl_areBlocks.f k l m ws) (okTask l m ws) := by
  unfold impl_areBlocks.f okTask
  refine Ev.bind (isBlock_ev l) ?_
  cases okBlock l
  · exact Ev.ifn (by decide) (Ev.now _)
  refine Ev.ifp rfl (Ev.bind (isBlock_ev m) ?_)
  cases okBlock m
  · exact Ev.ifn (by decide) (Ev.now _)
  exact Ev.ifp rfl (Ev.bind (areWanted_ev ws h) (Ev.now _))
theorem vaTask_ev (l m : List Instr) (ws : List Int) (h : ws.length ≤ 1048576) : Ev (fun k => spec_vaTask.f k l m ws) (okTask l m ws) := by
  unfold spec_vaTask.f okTask
  refine Ev.bind (vaGoodS_ev l) ?_
  cases okBlock l
  · exact Ev.ifn (by decide) (Ev.now _)
  refine Ev.ifp rfl (Ev.bind (vaGoodS_ev m) ?_)
  cases okBlock m
  · exact Ev.ifn (by decide) (Ev.now _)
  exact Ev.ifp rfl (Ev.bind (cdWanted_ev ws h) (Ev.now _))
def okW (ws : List Int) : Prop := ws.length ≤ 1048576 ∧ ∀ w ∈ ws, 0 ≤ w ∧ w ≤ 5
theorem okTask_of {l m : List Instr} {ws : List Int} (h : okTask l m ws = true) (hw : ws.length ≤ 1048576) : (l.length ≤ 20 ∧ ∀ x ∈ l, okI x) ∧ (m.length ≤ 20 ∧ ∀ x ∈ m, okI x) ∧ okW ws := by
  unfold okTask okWant at h
  simp only [Bool.and_eq_true, List.all_eq_true] at h
  exact ⟨okBlock_of h.1, okBlock_of h.2.1, hw, fun w hq => by simpa [inR] using h.2.2.2 w hq⟩
def neN (x y : Node) : Bool := !((x.f0.toList == y.f0.toList)) || (!((x.f1 == y.f1)) || (!((x.f2 == y.f2)) || (!((x.f3 == y.f3)))))
def smL : List Node → List Node → Bool
  | [], [] => true
  | x :: xs, y :: ys => if neN x y = true then false else smL xs ys
  | _, _ => false
def smN (l m : List Node) : Bool := if l.length = m.length then smL l m else false
theorem sm_impl (l m : List Node) (hl : l.length ≤ 1000) (hm : l.length = m.length) : ∀ (d i : Nat), i + d = l.length → Ev (fun k => impl_Node_76.l0 k l m l.length i) (smL (l.drop i) (m.drop i))
  | 0, i, h => by
    rw [List.drop_of_length_le (by omega), List.drop_of_length_le (by omega)]
    exact Ev.step (fun k => by simp only [impl_Node_76.l0]; rfl) (Ev.ifn (by omega) (Ev.now _))
  | d + 1, i, h => by
    have hi : i < l.length := by omega
    have hj : i < m.length := by omega
    have H := sm_impl l m hl hm d (i + 1) (by omega)
    rw [← w64n i (by omega)] at H
    rw [List.drop_eq_getElem_cons hi, List.drop_eq_getElem_cons hj]
    refine Ev.step (fun k => by simp only [impl_Node_76.l0, rdN_eq (getD_eq l i hi), rdN_eq (getD_eq m i hj)]; rfl) (Ev.ifp (by omega) (Ev.ifp (by omega) (Ev.ifp (by omega) (Ev.ifp (by omega) ?_))))
    unfold smL
    by_cases q : neN l[i] m[i] = true
    · rw [if_pos q]
      exact Ev.ifp q (Ev.now _)
    · rw [if_neg q]
      exact Ev.ifn q H
theorem sm_spec (l m : List Node) (hl : l.length ≤ 1000) (hm : l.length = m.length) : ∀ (d i : Nat), i + d = l.length → Ev (fun k => spec_ruSame.l0 k m l l.length i) (smL (l.drop i) (m.drop i))
  | 0, i, h => by
    rw [List.drop_of_length_le (by omega), List.drop_of_length_le (by omega)]
    exact Ev.step (fun k => by simp only [spec_ruSame.l0]; rfl) (Ev.ifn (by omega) (Ev.now _))
  | d + 1, i, h => by
    have hi : i < l.length := by omega
    have hj : i < m.length := by omega
    have H := sm_spec l m hl hm d (i + 1) (by omega)
    rw [← w64n i (by omega)] at H
    rw [List.drop_eq_getElem_cons hi, List.drop_eq_getElem_cons hj]
    refine Ev.step (fun k => by simp only [spec_ruSame.l0, rdN_eq (getD_eq l i hi), rdN_eq (getD_eq m i hj)]; rfl) (Ev.ifp (by omega) (Ev.ifp (by omega) (Ev.ifp (by omega) (Ev.ifp (by omega) ?_))))
    unfold smL
    by_cases q : neN l[i] m[i] = true
    · rw [if_pos q]
      exact Ev.ifp q (Ev.now _)
    · rw [if_neg q]
      exact Ev.ifn q H
theorem smN_ev (l m : List Node) (hl : l.length ≤ 1000) : Ev (fun k => impl_Node_76.f k l m) (smN l m) ∧ Ev (fun k => spec_ruSame.f k l m) (smN l m) := by
  unfold impl_Node_76.f spec_ruSame.f smN
  by_cases h : l.length = m.length
  · rw [if_pos h]
    exact ⟨Ev.ifp (by omega) (by simpa using sm_impl l m hl h l.length 0 (by omega)), Ev.ifp (by omega) (by simpa using sm_spec l m hl h l.length 0 (by omega))⟩
  · rw [if_neg h]
    exact ⟨Ev.ifn (by omega) (Ev.now _), Ev.ifn (by omega) (Ev.now _)⟩
noncomputable def aaL (a b : List Instr) : List Int → Bool → Bool × Bool
  | [], al => (al, true)
  | r :: rs, al => if (plS a r).2 = true then (if (plS b r).2 = true then aaL a b rs (if al = true then smN (plS a r).1 (plS b r).1 else false) else (false, false)) else (false, false)
theorem aa_both (a b : List Instr) (la : a.length ≤ 100) (lb : b.length ≤ 100) (ha : ∀ x ∈ a, okI x) (hb : ∀ x ∈ b, okI x) (ws : List Int) (hl : ws.length ≤ 1048576) (hw : ∀ w ∈ ws, 0 ≤ w ∧ w ≤ 5) : ∀ (d i : Nat) (al : Bool), i + d = ws.length →
    Ev (fun k => impl_AreAlike.l0 k a b al ws ws.length i) (aaL a b (ws.drop i) al) ∧ Ev (fun k => spec_vaAlike.l0 k a b al ws ws.length i) (aaL a b (ws.drop i) al)
  | 0, i, al, h => by
    rw [List.drop_of_length_le (by omega)]
    exact ⟨Ev.step (fun k => by simp only [impl_AreAlike.l0]; rfl) (Ev.ifn (by omega) (Ev.now _)), Ev.step (fun k => by simp only [spec_vaAlike.l0]; rfl) (Ev.ifn (by omega) (Ev.now _))⟩
  | d + 1, i, al, h => by
    have hi : i < ws.length := by omega
    have hv : rd ws (i : Int) = ws[i] := by
      unfold rd
      rw [Int.toNat_natCast, List.getD_eq_getElem?_getD, List.getElem?_eq_getElem hi]
      rfl
    have H := fun al => aa_both a b la lb ha hb ws hl hw d (i + 1) al (by omega)
    rw [← w64n i (by omega)] at H
    rw [List.drop_eq_getElem_cons hi]
    obtain ⟨h0, h1⟩ := hw _ (List.getElem_mem hi)
    generalize ws[i] = r at hv h0 h1 ⊢
    obtain ⟨p1, p2, p3⟩ := plS_ev a la ha r h0 (by omega)
    obtain ⟨q1, q2, q3⟩ := plS_ev b lb hb r h0 (by omega)
    obtain ⟨s1, s2⟩ := smN_ev (plS a r).1 (plS b r).1 (by omega)
    unfold aaL
    refine ⟨Ev.step (fun k => by simp only [impl_AreAlike.l0, hv]; rfl) (Ev.ifp (by omega) (Ev.ifp (by omega) (Ev.ifp (by omega) (Ev.bind p1 (Ev.bind q1 ?_))))), Ev.step (fun k => by simp only [spec_vaAlike.l0, hv]; rfl) (Ev.ifp (by omega) (Ev.ifp (by omega) (Ev.ifp (by omega) (Ev.bind p2 (Ev.bind q2 ?_)))))⟩
    · by_cases c : (plS a r).2 = true
      · rw [if_pos c]
        refine Ev.ifp c ?_
        by_cases e : (plS b r).2 = true
        · rw [if_pos e]
          refine Ev.ifp e ?_
          by_cases z : al = true
          · rw [if_pos z]
            exact Ev.ifp z (Ev.bind s1 (H _).1)
          · rw [if_neg z]
            exact Ev.ifn z (H _).1
        · rw [if_neg e]
          exact Ev.ifn e (Ev.now _)
      · rw [if_neg c]
        exact Ev.ifn c (Ev.now _)
    · by_cases c : (plS a r).2 = true
      · rw [if_pos c]
        refine Ev.ifp c ?_
        by_cases e : (plS b r).2 = true
        · rw [if_pos e]
          refine Ev.ifp e ?_
          by_cases z : al = true
          · rw [if_pos z]
            exact Ev.ifp z (Ev.bind s2 (H _).2)
          · rw [if_neg z]
            exact Ev.ifn z (H _).2
        · rw [if_neg e]
          exact Ev.ifn e (Ev.now _)
      · rw [if_neg c]
        exact Ev.ifn c (Ev.now _)
end Go.Proofs.Ytkfkbmlbpeojaaa.PL
end
section
namespace Go.Proofs.Ytkfkbmlbpeojaaa.PL
open Go Go.RowKit Go.Proofs.YtkfkbmlbpeojaaaW.PrintWords Go.Proofs.YtkfkbmlbpeojaaaW.PrintLast Go.Proofs.YtkfkbmlbpeojaaaW.PrintMore Go.Proofs.Ytkfkbmlbpeojaaa.Q
set_option linter.unusedSimpArgs false
set_option linter.unusedVariables false
noncomputable def alR (l m : List Instr) (ws : List Int) : Bool × Bool := if okTask l m ws = true then ((aaL l m ws true).1, (aaL l m ws true).2) else (false, false)
theorem implAA_ev (l m : List Instr) (ws : List Int) (h : ws.length ≤ 1048576) : Ev (fun k => impl_AreAlike.f k l m ws) (alR l m ws) := by
  unfold impl_AreAlike.f alR
  refine Ev.bind (areBlocks_ev l m ws h) ?_
  by_cases q : okTask l m ws = true
  · rw [if_pos q]
    obtain ⟨hl, hm, hw⟩ := okTask_of q h
    have := (aa_both l m (by omega) (by omega) hl.2 hm.2 ws h hw.2 ws.length 0 true (by omega)).1
    rw [List.drop_zero] at this
    exact Ev.ifp q this
  · rw [if_neg q]
    exact Ev.ifn q (Ev.now _)
theorem specAA_ev (l m : List Instr) (ws : List Int) (h : ws.length ≤ 1048576) : Ev (fun k => spec_AreAlike.f k l m ws) (alR l m ws) := by
  unfold spec_AreAlike.f alR
  refine Ev.bind (vaTask_ev l m ws h) ?_
  by_cases q : okTask l m ws = true
  · rw [if_pos q]
    obtain ⟨hl, hm, hw⟩ := okTask_of q h
    have := (aa_both l m (by omega) (by omega) hl.2 hm.2 ws h hw.2 ws.length 0 true (by omega)).2
    rw [List.drop_zero] at this
    unfold spec_vaAlike.f
    exact Ev.ifp q (Ev.bind this (Ev.now _))
  · rw [if_neg q]
    exact Ev.ifn q (Ev.now _)
end Go.Proofs.Ytkfkbmlbpeojaaa.PL
namespace Go.Proofs.Ytkfkbmlbpeojaaa.Pure
open Go Go.RowKit Go.Proofs.YtkfkbmlbpeojaaaW.PrintWords Go.Proofs.YtkfkbmlbpeojaaaW.PrintLast Go.Proofs.YtkfkbmlbpeojaaaW.PrintMore Go.Proofs.Ytkfkbmlbpeojaaa.Q Go.Proofs.Ytkfkbmlbpeojaaa.PL
set_option linter.unusedSimpArgs false
set_option linter.unusedVariables false
theorem FnExactAreAlike : laws_FnExactAreAlike.Pure := by
  intro a0 a1 a2 h0 h1 h2
  refine Ev.rounds (g := fun k => laws_FnExactAreAlike.f k a0 a1 a2) ?_
  unfold laws_FnExactAreAlike.f
  by_cases hc : (a2.length : Int) > 1048576
  · exact Ev.ifp hc (Ev.now _)
  refine Ev.ifn hc ?_
  have hc' : a2.length ≤ 1048576 := by omega
  obtain ⟨r, hr, hr'⟩ := szInstrS_ev a0 1048576 h0 (by decide) (by decide)
  refine Ev.bind hr ?_
  by_cases hn : r < 0
  · exact Ev.ifp hn (Ev.now _)
  have hl := hr' (by omega)
  refine Ev.ifn hn ?_
  obtain ⟨r2, hr2, hr2'⟩ := szInstrS_ev a1 r h1 (by omega) (by have := hl.2.2; omega)
  refine Ev.bind hr2 ?_
  by_cases hn2 : r2 < 0
  · exact Ev.ifp hn2 (Ev.now _)
  have hl2 := hr2' (by omega)
  refine Ev.ifn hn2 ?_
  have b0 : a0.length ≤ 1048576 := by omega
  have b1 : a1.length ≤ 1048576 := by have := hl.2.2; omega
  refine Ev.bind (toInstrS_ev a0 b0) (Ev.bind (toInstrS_ev a1 b1) (Ev.bind (toIntS_ev a2 hc') ?_))
  refine Ev.bind (specAA_ev _ _ _ hc') ?_
  refine Ev.bind (toInstrS_ev a0 b0) (Ev.bind (toInstrS_ev a1 b1) (Ev.bind (toIntS_ev a2 hc') ?_))
  refine Ev.bind (implAA_ev _ _ _ hc') ?_
  refine Ev.ifn (by simp) ?_
  rw [show ((alR (a0.map cvI) (a1.map cvI) a2).2 != (alR (a0.map cvI) (a1.map cvI) a2).2) = false by simp]
  refine Ev.step (fun k => by simp only [laws_FnExactAreAlike.j0]; rfl) (Ev.ifn (by decide) ?_)
  refine Ev.bind (toInstrS_ev a0 b0) (Ev.bind (eqInstrS_refl _ (by simpa using b0)) (Ev.ifp rfl ?_))
  refine Ev.bind (toInstrS_ev a1 b1) (Ev.bind (eqInstrS_refl _ (by simpa using b1)) (Ev.ifp rfl ?_))
  exact Ev.bind (toIntS_ev a2 hc') (Ev.bind (eqIntS_refl _ hc') (Ev.ifp rfl (Ev.now _)))
end Go.Proofs.Ytkfkbmlbpeojaaa.Pure
end
