/- Proved here: contracts of functions that the law FnExactTestsFor reaches, and lemmas on what they compute; texts of this session and the printed words of the kit that they lean on, cut down and put together by its program link.py. Conditions: as each states. -/
import Derived.Carry
import Derived.Deep.Slices
import Derived.Laws.BitsLemmas
import Derived.ProofKit
import Derived.Test.YtppljcmkilmgmaaZFnExactTestsFor1
import Derived.Test.YtppljcmkilmgmaaZFnExactTestsFor2
section
namespace Go.Proofs.Ytppljcmkilmgmaa.Q
open Go.RowKit Go.Proofs.YtppljcmkilmgmaaW.PrintWords Go.Proofs.YtppljcmkilmgmaaW.PrintLast Go.Proofs.YtppljcmkilmgmaaW.PrintMore
set_option maxHeartbeats 8000000
set_option maxRecDepth 100000
attribute [local go_sem] zgu zgv zh8 zh9 zff zfg zgw zgx
set_option linter.unusedVariables false
set_option linter.unusedSimpArgs false
mutual
def zb4 : Nat → List (List (S60)) → Int → Bool → Option ((List (List Int)) × Bool)
 | 0, _, _, _ => none
 | k + 1, x0, x1, x26 => if x26 = true then (some (([] : List (List Int)), false)) else (zbm k x0 x1 ([] : List (List (List Int))) x0 (x0.length : Int) 0)
def zbm : Nat → List (List (S60)) → Int → List (List (List Int)) → List (List (S60)) → Int → Int → Option ((List (List Int)) × Bool)
 | 0, _, _, _, _, _, _ => none
 | k + 1, x0, x1, x6, x27, x28, x29 => if x29 < x28 then (if 0 ≤ x29 then (if x29 < (x27.length : Int) then ((zd8 k (zei x27 x29)).bind fun t104 => (if t104 = true then ((zd3 k (zei x27 x29)).bind fun t105 => (if x6.length < 5864062014805 then (zbm k x0 x1 (x6 ++ [t105]) x27 x28 (wrap64 (x29 + 1))) else (none))) else (some (([] : List (List Int)), false)))) else (none)) else (none)) else (zbo k x0 x1 x6 ([] : List (List Int)) (x0.length : Int) 0)
def zbo : Nat → List (List (S60)) → Int → List (List (List Int)) → List (List Int) → Int → Int → Option ((List (List Int)) × Bool)
 | 0, _, _, _, _, _, _ => none
 | k + 1, x0, x1, x6, x9, x43, x44 => if x44 < x43 then (za3 k x0 x1 x6 x9 x44 (wrap64 (x44 + 1)) x43 x44) else (some (x9, true))
def za3 : Nat → List (List (S60)) → Int → List (List (List Int)) → List (List Int) → Int → Int → Int → Int → Option ((List (List Int)) × Bool)
 | 0, _, _, _, _, _, _, _, _ => none
 | k + 1, x0, x1, x6, x9, x10, x11, x43, x44 => if x11 < (x0.length : Int) then (za8 k x0 x1 x6 x9 x10 x11 false x43 x44 x9 (x9.length : Int) 0) else (zbo k x0 x1 x6 x9 x43 (wrap64 (x44 + 1)))
def za8 : Nat → List (List (S60)) → Int → List (List (List Int)) → List (List Int) → Int → Int → Bool → Int → Int → List (List Int) → Int → Int → Option ((List (List Int)) × Bool)
 | 0, _, _, _, _, _, _, _, _, _, _, _, _ => none
 | k + 1, x0, x1, x6, x9, x10, x11, x12, x43, x44, x55, x56, x57 => if x57 < x56 then (if 0 ≤ x57 then (if x57 < (x55.length : Int) then (if 0 < ((zaz x55 x57).length : Int) then (if 1 < ((zaz x55 x57).length : Int) then (if x12 = true then (za8 k x0 x1 x6 x9 x10 x11 true x43 x44 x55 x56 (wrap64 (x57 + 1))) else (if 0 ≤ x10 then (if x10 < (x6.length : Int) then (if 0 ≤ (wrap64 ((wrap64 (64 * (rd (zaz x55 x57) 0))) + (rd (zaz x55 x57) 1))) then (if (wrap64 ((wrap64 (64 * (rd (zaz x55 x57) 0))) + (rd (zaz x55 x57) 1))) < ((zdj x6 x10).length : Int) then (if 0 ≤ x1 then (if x1 < ((zaz (zdj x6 x10) (wrap64 ((wrap64 (64 * (rd (zaz x55 x57) 0))) + (rd (zaz x55 x57) 1)))).length : Int) then (if 0 ≤ x11 then (if x11 < (x6.length : Int) then (if (wrap64 ((wrap64 (64 * (rd (zaz x55 x57) 0))) + (rd (zaz x55 x57) 1))) < ((zdj x6 x11).length : Int) then (if x1 < ((zaz (zdj x6 x11) (wrap64 ((wrap64 (64 * (rd (zaz x55 x57) 0))) + (rd (zaz x55 x57) 1)))).length : Int) then (za8 k x0 x1 x6 x9 x10 x11 ((rd (zaz (zdj x6 x10) (wrap64 ((wrap64 (64 * (rd (zaz x55 x57) 0))) + (rd (zaz x55 x57) 1)))) x1) != (rd (zaz (zdj x6 x11) (wrap64 ((wrap64 (64 * (rd (zaz x55 x57) 0))) + (rd (zaz x55 x57) 1)))) x1)) x43 x44 x55 x56 (wrap64 (x57 + 1))) else (none)) else (none)) else (none)) else (none)) else (none)) else (none)) else (none)) else (none)) else (none)) else (none))) else (none)) else (none)) else (none)) else (none)) else (if x12 = true then (za3 k x0 x1 x6 x9 x10 (wrap64 (x11 + 1)) x43 x44) else (if 0 ≤ x10 then (if x10 < (x6.length : Int) then (if 0 ≤ x11 then (if x11 < (x6.length : Int) then ((zc2 k (zdj x6 x10) (zdj x6 x11) (([x1] : List Int))).bind fun bt125 => (if bt125.2 = true then (if 0 < (bt125.1.length : Int) then (if 1 < (bt125.1.length : Int) then (if x9.length < 5864062014805 then (za3 k x0 x1 x6 (x9 ++ [(([rd bt125.1 0, rd bt125.1 1] : List Int))]) x10 (wrap64 (x11 + 1)) x43 x44) else (none)) else (none)) else (none)) else (za3 k x0 x1 x6 x9 x10 (wrap64 (x11 + 1)) x43 x44))) else (none)) else (none)) else (none)) else (none)))
end
def zdi (k : Nat) (l0 : List (List (S60))) (a1 : Int) : Option ((List (List Int)) × Bool) := (ze6 (l0.length : Int) 1 6).bind fun t101 => (if t101 = true then ((zd2 a1).bind fun t102 => (zb4 k l0 a1 (!t102))) else (zb4 k l0 a1 true))
theorem zgn : ∀ k, (∀ y0 y1 y2, LeO (zb4 k y0 y1 y2) (zb4 (k + 1) y0 y1 y2)) ∧ (∀ y0 y1 y2 y3 y4 y5, LeO (zbm k y0 y1 y2 y3 y4 y5) (zbm (k + 1) y0 y1 y2 y3 y4 y5)) ∧ (∀ y0 y1 y2 y3 y4 y5, LeO (zbo k y0 y1 y2 y3 y4 y5) (zbo (k + 1) y0 y1 y2 y3 y4 y5)) ∧ (∀ y0 y1 y2 y3 y4 y5 y6 y7, LeO (za3 k y0 y1 y2 y3 y4 y5 y6 y7) (za3 (k + 1) y0 y1 y2 y3 y4 y5 y6 y7)) ∧ (∀ y0 y1 y2 y3 y4 y5 y6 y7 y8 y9 y10 y11, LeO (za8 k y0 y1 y2 y3 y4 y5 y6 y7 y8 y9 y10 y11) (za8 (k + 1) y0 y1 y2 y3 y4 y5 y6 y7 y8 y9 y10 y11))
 | 0 => ⟨fun _ _ _ r h => by simp [zb4] at h, fun _ _ _ _ _ _ r h => by simp [zbm] at h, fun _ _ _ _ _ _ r h => by simp [zbo] at h, fun _ _ _ _ _ _ _ _ r h => by simp [za3] at h, fun _ _ _ _ _ _ _ _ _ _ _ _ r h => by simp [za8] at h⟩
 | k + 1 => by
   obtain ⟨ih0, ih1, ih2, ih3, ih4⟩ := zgn k
   refine ⟨?_, ?_, ?_, ?_, ?_⟩
   · intro y0 y1 y2
     unfold zb4
     exact zm8 ih0 ih1 ih2 ih3 ih4 zdw zdx zc8
   · intro y0 y1 y2 y3 y4 y5
     unfold zbm
     exact zm8 ih0 ih1 ih2 ih3 ih4 zdw zdx zc8
   · intro y0 y1 y2 y3 y4 y5
     unfold zbo
     exact zm8 ih0 ih1 ih2 ih3 ih4 zdw zdx zc8
   · intro y0 y1 y2 y3 y4 y5 y6 y7
     unfold za3
     exact zm8 ih0 ih1 ih2 ih3 ih4 zdw zdx zc8
   · intro y0 y1 y2 y3 y4 y5 y6 y7 y8 y9 y10 y11
     unfold za8
     exact zm8 ih0 ih1 ih2 ih3 ih4 zdw zdx zc8
theorem zop : ∀ a0 a1 k, LeO (zdi k a0 a1) (zdi (k + 1) a0 a1) := by
 intro a0 a1 k
 obtain ⟨ih0, ih1, ih2, ih3, ih4⟩ := zgn k
 unfold zdi
 exact zm8 ih0 ih1 ih2 ih3 ih4 zdw zdx zc8
def spec_TestsFor.T22 : Bool × List (List Nat × List Nat) := (true, [([], []), ([0], [0]), ([1], [1]), ([2], [2]), ([], []), ([4], [4]), ([5], [5]), ([3, 6], [3, 6]), ([7, 0, 1, 2, 3, 4, 5, 6, 7], [7])])
def zkk : List Nat := [0, 1, 3, 7, 0, 16, 48, 127, 255]
theorem zg9 : rtab .any (znx Try.f8 22) = spec_TestsFor.T22 := by kernel_rfl
theorem zgp : zft spec_TestsFor.T22.2 zkk = true := by kernel_rfl
def spec_TestsFor.T23 : Bool × List (List Nat × List Nat) := (true, [([], []), ([0], [0]), ([1], [1]), ([1], [1]), ([2, 3, 1], [1, 2, 3]), ([4, 1], [1, 4]), ([1], [1]), ([5, 6, 1], [1, 5, 6]), ([7, 1], [1, 7]), ([1], [1]), ([8, 9, 1], [1, 8, 9]), ([10, 1], [1, 10]), ([1], [1]), ([1], [1]), ([12, 13, 1], [1, 12, 13]), ([14, 1], [1, 14]), ([1], [1]), ([15, 16, 1], [1, 15, 16]), ([17, 1], [1, 17]), ([1], [1]), ([18, 19, 1], [1, 18, 19]), ([20, 1], [1, 20]), ([11, 21, 1], [1, 11, 21]), ([1, 22], [1, 22]), ([23, 1, 0, 1, 2, 3, 4, 5, 6, 7, 8, 9, 10, 11, 12, 13, 14, 15, 16, 17, 18, 19, 20, 21, 22, 23], [0, 23])])
def zkl : List Nat := [0, 1, 3, 3, 15, 31, 3, 127, 255, 3, 1023, 2047, 3, 3, 12291, 28675, 3, 126979, 258051, 3, 1044483, 2093059, 4194303, 8388607, 16777215]
theorem zha : rtab .any (znx Try.f8 23) = spec_TestsFor.T23 := by kernel_rfl
theorem zgq : zft spec_TestsFor.T23.2 zkl = true := by kernel_rfl
def spec_TestsFor.T26 : Bool × List (List Nat × List Nat) := (true, [([], []), ([], []), ([0, 1], [0, 1]), ([2], [2]), ([], []), ([], []), ([4, 5], [4, 5]), ([6], [6]), ([], []), ([8], [8]), ([3, 7, 9], [3, 7, 9]), ([10], [10]), ([11], [11]), ([11], [11]), ([12, 10, 0, 1, 2, 3, 4, 5, 6, 7, 8, 9, 10, 11, 12], [12]), ([13, 14, 0, 1, 2, 3, 4, 5, 6, 7, 8, 9, 10, 11, 12, 13, 14], [13])])
def zkm : List Nat := [0, 0, 3, 7, 0, 0, 48, 112, 0, 256, 1023, 2047, 4095, 4095, 8191, 32767]
theorem zhb : rtab .any (znx Try.f8 26) = spec_TestsFor.T26 := by kernel_rfl
theorem zgr : zft spec_TestsFor.T26.2 zkm = true := by kernel_rfl
def spec_TestsFor.T28 : Bool × List (List Nat × List Nat) := (true, [([], []), ([], []), ([1], [1]), ([2], [2]), ([], []), ([4], [4]), ([5], [5]), ([3, 6], [3, 6]), ([7], [7]), ([0, 8], [0, 8]), ([9, 9, 0, 1, 2, 3, 4, 5, 6, 7, 8, 9], [0, 9])])
def zko : List Nat := [0, 0, 2, 6, 0, 16, 48, 126, 254, 511, 1023]
theorem zjj : rtab .any (znx Try.f8 28) = spec_TestsFor.T28 := by kernel_rfl
theorem zi9 : zft spec_TestsFor.T28.2 zko = true := by kernel_rfl
theorem zjk (k : Nat) (A0 : Option Addr) (c0 : Nat) (l0 : List (List (S60))) (a1 : Int) (r1 : List (List Int)) (r2 : Bool) (w : World) (hr0 : Kd.C (Kd.slice 60 k60) w A0 l0.length l0) (hc0 : l0.length ≤ c0) (h : zdi k l0 a1 = some (r1, r2)) :
   Calls Try.prog 8 #[.slice A0 l0.length c0, .int .i64 a1] w fun e w' => ∃ v0_ : Value, e = .returned (.tuple #[v0_, .bool r2]) ∧ Kd.S (Kd.slice 3 (Kd.int .i64)) 42 w' w.heap.size (fun _ => True) v0_ r1 ∧ Below w.heap.size w w' := by
 have HR0 := zA hr0
 have HC0 := zA hc0
 clear hr0 hc0
 have HB := zA (Below.refl w.heap.size w)
 have H := h
 unfold zdi at H
 clear h
 have HC3 := zA H
 clear H
 go_enter Try.func8, Try.ntmps8
 go_upto_region 1 with (fail)
 go_cut [26] (fun v26 wc => ∃ (kq : Nat) (x26_2 : Bool), v26 = .bool x26_2 ∧ Aside0 (zb4 kq l0 a1 x26_2 = some (r1, r2)) ∧ Aside0 (kq ≤ k) ∧ Aside0 (Below w.heap.size w wc))
 case first =>
   have H := HC3.out
   clear HC3
   replace H := zob H
   obtain ⟨t101, A40, H⟩ := H
   have A4 := zA A40
   clear A40
   by_cases c5 : t101 = true
   rotate_left
   · replace c5 := zbf c5
     subst c5
     replace H := zif H
     have H' := zA H
     clear H
     go_wp2_with (first | ((with_reducible refine zgc 49 ?_); refine zcl 20 Try.func49 (zcx (l0.length : Int) 1 6 false _ A4.out) ?_; rintro e w' ⟨rfl, ⟨nd, rfl⟩⟩; refine ⟨_, rfl, ?_⟩))
     go_meet
     case rel => exact ⟨_, (true), zq2, H', ⟨zq26⟩, ⟨zq1⟩⟩
   subst c5
   replace H := zih H
   replace H := zob H
   obtain ⟨t102, A60, H⟩ := H
   have A6 := zA A60
   clear A60
   have H' := zA H
   clear H
   go_wp2_with (first | ((with_reducible refine zgc 49 ?_); refine zcl 20 Try.func49 (zcx (l0.length : Int) 1 6 true _ A4.out) ?_; rintro e w' ⟨rfl, ⟨nd, rfl⟩⟩; refine ⟨_, rfl, ?_⟩) | (go_at_call 50; (with_reducible refine (zal a1 t102 _ A6.out).mono ?_); rintro e w' ⟨rfl, ⟨nd, rfl⟩⟩))
   go_meet
   case rel => exact ⟨_, (!t102), zq2, H', ⟨zq26⟩, ⟨zq1⟩⟩
 clear HC3
 obtain ⟨kq, x26_2, rfl, HA, HJ2, HB⟩ := hcut
 cases kq with
 | zero => exact absurd HA.out (by simp [zb4])
 | succ kj2 =>
 have H := HA.out
 clear HA
 simp only [zb4] at H
 by_cases c7 : x26_2 = true
 · subst c7
   replace H := zih H
   simp only [Option.some.injEq, Prod.mk.injEq] at H
   obtain ⟨rfl, rfl⟩ := H
   go_wp2
   go_ret2
   exact ⟨_, zq3, zq20, zq1⟩
 replace c7 := zbf c7
 subst c7
 replace H := zif H
 have H' := zA H
 clear H
 go_wp2
 go_loopg [6, 29] kj2 (fun kq v6 v29 w' => ∃ (x6_2 : List (List (List Int))) (x29_2 : Int), v29 = .int .i64 x29_2 ∧ Aside0 (zbm kq l0 a1 x6_2 l0 (l0.length : Int) x29_2 = some (r1, r2)) ∧ Aside0 (kq ≤ kj2) ∧ Aside0 (Kd.R (Kd.slice 42 (Kd.slice 3 (Kd.int .i64))) 24 w' w.heap.size (fun _ => True) v6 x6_2) ∧ Aside0 (Below w.heap.size w w'))
 case atStart => exact ⟨(([] : List (List (List Int)))), (0), zq2, H', ⟨zlr _⟩, ⟨zq32⟩, ⟨zq1⟩⟩
 clear H'
 obtain ⟨x6_2, x29_2, rfl, HA, HK2, HO_6, HB⟩ := hrel
 cases gk with
 | zero => exact absurd HA.out (by simp [zbm])
 | succ k2 =>
 have H := HA.out
 clear HA
 simp only [zbm] at H
 revert H
 refine zit (fun c8b0 H => ?_) fun c8b0 H => ?_
 · revert H
   refine zin fun c9 H => ?_
   revert H
   refine zin fun c10 H => ?_
   replace H := zob H
   obtain ⟨t104, A110, H⟩ := H
   have A11 := zA A110
   clear A110
   by_cases c12 : t104 = true
   rotate_left
   · replace c12 := zbf c12
     subst c12
     replace H := zif H
     simp only [Option.some.injEq, Prod.mk.injEq] at H
     obtain ⟨rfl, rfl⟩ := H
     obtain ⟨p103, q103⟩ := zpq x29_2 l0.length
     obtain ⟨ad103, A103_0, c103_0, e103, hx103_0, hl103_0, hi103_0⟩ := zmh HR0.out x29_2 (zoe p103) (zoe q103)
     cases e103
     replace hx103_0 := zkep HB.out hx103_0
     have HR103_0 := zA hi103_0
     have HC103_0 := zA hl103_0
     clear hi103_0 hl103_0
     go_wp2_with (first | ((with_reducible refine zgc 51 ?_); refine zca 34 Try.func51 #[.slice A103_0 (zei l0 x29_2).length c103_0] (zhz k2 _ _ (zei l0 x29_2) false _ (zq17 HR103_0) HC103_0.out A11.out) ?_; rintro e w19 ⟨rfl, hb⟩; refine ⟨_, rfl, ?_⟩; replace HO_6 := zA (zRb (zq5 HO_6) hb); replace HB := zA (zad zq1 hb); (try clear hb)))
     go_ret2
     exact ⟨_, zq3, zq20, zq1⟩
   subst c12
   replace H := zih H
   replace H := zob H
   obtain ⟨t105, A130, H⟩ := H
   have A13 := zA A130
   clear A130
   by_cases c14 : x6_2.length < 5864062014805
   rotate_left
   · rw [if_neg c14] at H
     exact absurd H (by simp)
   rw [if_pos c14] at H
   have LMc14 := zA c14
   clear c14
   obtain ⟨y108, hy108⟩ : ∃ y_ : List (List (List Int)), y_ = (x6_2 ++ [t105]) := ⟨_, rfl⟩
   rw [← hy108] at H; try with_reducible replace H := zbs H
   have Ny108 := zA hy108
   clear hy108
   have H' := zA H
   clear H
   obtain ⟨p103, q103⟩ := zpq x29_2 l0.length
   obtain ⟨ad103, A103_0, c103_0, e103, hx103_0, hl103_0, hi103_0⟩ := zmh HR0.out x29_2 (zoe p103) (zoe q103)
   cases e103
   replace hx103_0 := zkep HB.out hx103_0
   have HR103_0 := zA hi103_0
   have HC103_0 := zA hl103_0
   clear hi103_0 hl103_0
   go_wp2_with (first | ((with_reducible refine zgc 51 ?_); refine zca 34 Try.func51 #[.slice A103_0 (zei l0 x29_2).length c103_0] (zhz k2 _ _ (zei l0 x29_2) true _ (zq17 HR103_0) HC103_0.out A11.out) ?_; rintro e w15 ⟨rfl, hb⟩; refine ⟨_, rfl, ?_⟩; replace HO_6 := zA (zRb (zq5 HO_6) hb); replace HB := zA (zad zq1 hb); (try clear hb)) | ((with_reducible refine zgc 52 ?_); refine zca 38 Try.func52 #[.slice A103_0 (zei l0 x29_2).length c103_0] (zki k2 _ _ (zei l0 x29_2) t105 _ (zq17 HR103_0) HC103_0.out A13.out) ?_; rintro e w16 ⟨v106, rfl, ho0, hb⟩; refine ⟨_, rfl, ?_⟩; replace HO_6 := zA (Kd.R_elder' (zq5 HO_6) (Kd.S_base ho0) hb); have HO107 := zA (Kd.S_lower ho0 (zax zq1)); replace HB := zA (zad zq1 hb); (try clear hb); (try clear ho0); obtain ⟨Ao18, co18, eo18⟩ := Kd.S_slice HO107.out; subst eo18) | ((with_reducible refine zep (b := .append) (xs := #[.tmp 36, .tmp 39]) rfl ?_); at_builtin; refine Kd.R_append (Kd.slice 42 (Kd.slice 3 (Kd.int .i64))) (w0 := w) w.heap.size rfl (.tmp 36) (.tmp 39) 79 24 (.slice none 0 0) 24 rfl Try.underlying79 zsn rfl (by decide) (by omega) u6 x6_2 t105 [.slice Ao18 t105.length co18] (fun _ => True) (fun k_ => ((fun _ => True)) k_ ∧ some k_ ≠ (u6 : Value).ownBlock) rfl rfl ?aP (fun _ hk => hk) ?aF ?aO ?aB ?aS ?aL ?_; (case aP => exact Kd.M_row (Kd.R_mono (Kd.R_apart' ((Kd.S_R HO107.out)) (Kd.R_typed HO_6.out) (by decide)) (fun k_ hk => ⟨trivial, hk.2⟩))); (case aB => exact zq1); (case aF => exact (fun _ _ => trivial)); (case aO => exact (by (with_reducible repeat (first | apply zRa | apply zRn | apply zRd)); exact Kd.R_mono HO_6.out (fun _ hk => trivial))); (case aS => exact (zax zq1)); (case aL => have := LMc14.out; omega); intro v109 w17 ho hb hg hat; rw [← Ny108.out] at ho; replace HB := zA (hb); have HO110 := zA (ho); clear HO_6 HO107; clear ho hb hg hat))
   go_roundg k2
   case measure => have := HJ2.out; have := HK2.out; omega
   case rel => exact ⟨(y108), (wrap64 (x29_2 + 1)), zq2, H', ⟨by have := HJ2.out; have := HK2.out; omega⟩, ⟨zq5 HO110⟩, ⟨zq1⟩⟩
 have H' := zA H
 clear H
 go_wp2
 go_loopg [9, 44] k2 (fun kq v9 v44 w' => ∃ (x9_3 : List (List Int)) (x44_3 : Int), v44 = .int .i64 x44_3 ∧ Aside0 (zbo kq l0 a1 x6_2 x9_3 (l0.length : Int) x44_3 = some (r1, r2)) ∧ Aside0 (kq ≤ k2) ∧ Aside0 (Kd.R (Kd.slice 42 (Kd.slice 3 (Kd.int .i64))) 24 w' w.heap.size (fun k_ => some k_ ≠ (v9 : Value).ownBlock) u6 x6_2) ∧ Aside0 (Kd.S (Kd.slice 3 (Kd.int .i64)) 42 w' w.heap.size (fun _ => True) v9 x9_3) ∧ Aside0 (Below w.heap.size w w'))
 case atStart => exact ⟨(([] : List (List Int))), (0), zq2, H', ⟨zlr _⟩, ⟨by (with_reducible repeat (first | apply zRa | apply zRn | apply zRd)); exact Kd.R_mono HO_6.out (fun _ hk => (by simp [Value.ownBlock]))⟩, ⟨zq20⟩, ⟨zq1⟩⟩
 clear H'
 obtain ⟨x9_3, x44_3, rfl, HA, HK3, HO_6, HO_9, HB⟩ := hrel
 cases gk with
 | zero => exact absurd HA.out (by simp [zbo])
 | succ k3 =>
 have H := HA.out
 clear HA
 simp only [zbo] at H
 revert H
 refine zit (fun c20 H => ?_) fun c20 H => ?_
 rotate_left
 · simp only [Option.some.injEq, Prod.mk.injEq] at H
   obtain ⟨rfl, rfl⟩ := H
   go_wp2
   go_ret2
   exact ⟨_, zq3, zq8 HO_9, zq1⟩
 have H' := zA H
 clear H
 go_wp2
 go_loopg [9, 11] k3 (fun kq v9 v11 w' => ∃ (x9_4 : List (List Int)) (x11_4 : Int), v11 = .int .i64 x11_4 ∧ Aside0 (za3 kq l0 a1 x6_2 x9_4 x44_3 x11_4 (l0.length : Int) x44_3 = some (r1, r2)) ∧ Aside0 (kq ≤ k3) ∧ Aside0 (Kd.R (Kd.slice 42 (Kd.slice 3 (Kd.int .i64))) 24 w' w.heap.size (fun k_ => some k_ ≠ (v9 : Value).ownBlock) u6 x6_2) ∧ Aside0 (Kd.S (Kd.slice 3 (Kd.int .i64)) 42 w' w.heap.size (fun _ => True) v9 x9_4) ∧ Aside0 (Below w.heap.size w w'))
 case atStart => exact ⟨(x9_3), (wrap64 (x44_3 + 1)), zq2, H', ⟨zlr _⟩, ⟨zq5 HO_6⟩, ⟨zq8 HO_9⟩, ⟨zq1⟩⟩
 clear H'
 obtain ⟨x9_4, x11_4, rfl, HA, HK4, HO_6, HO_9, HB⟩ := hrel
 cases gk with
 | zero => exact absurd HA.out (by simp [za3])
 | succ k4 =>
 have H := HA.out
 clear HA
 simp only [za3] at H
 revert H
 refine zit (fun c21 H => ?_) fun c21 H => ?_
 rotate_left
 · have H' := zA H
   clear H
   go_wp2
   go_roundg k4
   case measure => have := HJ2.out; have := HK2.out; have := HK3.out; have := HK4.out; omega
   case rel => exact ⟨(x9_4), (wrap64 (x44_3 + 1)), zq2, H', ⟨by have := HJ2.out; have := HK2.out; have := HK3.out; have := HK4.out; omega⟩, ⟨zq5 HO_6⟩, ⟨zq8 HO_9⟩, ⟨zq1⟩⟩
 have H' := zA H
 clear H
 obtain ⟨Ao22, co22, eo22⟩ := Kd.S_slice HO_9.out
 subst eo22
 go_wp2
 go_loopg [12, 57] k4 (fun kq v12 v57 w' => ∃ (x12_5 : Bool) (x57_5 : Int), v12 = .bool x12_5 ∧ v57 = .int .i64 x57_5 ∧ Aside0 (za8 kq l0 a1 x6_2 x9_4 x44_3 x11_4 x12_5 (l0.length : Int) x44_3 x9_4 (x9_4.length : Int) x57_5 = some (r1, r2)) ∧ Aside0 (kq ≤ k4) ∧ Aside0 (Kd.R (Kd.slice 42 (Kd.slice 3 (Kd.int .i64))) 24 w' w.heap.size (fun k_ => some k_ ≠ ((.slice Ao22 x9_4.length co22) : Value).ownBlock ∧ some k_ ≠ ((.slice Ao22 x9_4.length co22) : Value).ownBlock) u6 x6_2) ∧ Aside0 (Kd.S (Kd.slice 3 (Kd.int .i64)) 42 w' w.heap.size (fun _ => True) (.slice Ao22 x9_4.length co22) x9_4) ∧ Aside0 (Kd.S (Kd.slice 3 (Kd.int .i64)) 42 w' w.heap.size (fun _ => True) (.slice Ao22 x9_4.length co22) x9_4) ∧ Aside0 (Below w.heap.size w w'))
 case atStart => exact ⟨(false), (0), zq2, zq2, H', ⟨zlr _⟩, ⟨by (with_reducible repeat (first | apply zRa | apply zRn | apply zRd)); exact Kd.R_mono HO_6.out (fun _ hk => ⟨hk, hk⟩)⟩, ⟨zq8 HO_9⟩, ⟨zq8 HO_9⟩, ⟨zq1⟩⟩
 clear H'
 obtain ⟨x12_5, x57_5, rfl, rfl, HA, HK5, HO_6, HO_9, HO_55, HB⟩ := hrel
 cases gk with
 | zero => exact absurd HA.out (by simp [za8])
 | succ k5 =>
 have H := HA.out
 clear HA
 simp only [za8] at H
 revert H
 refine zit (fun c23 H => ?_) fun c23 H => ?_
 rotate_left
 · by_cases c45 : x12_5 = true
   · subst c45
     replace H := zih H
     have H' := zA H
     clear H
     go_wp2
     go_roundg k5
     case measure => have := HJ2.out; have := HK2.out; have := HK3.out; have := HK4.out; have := HK5.out; omega
     case rel => exact ⟨(x9_4), (wrap64 (x11_4 + 1)), zq2, H', ⟨by have := HJ2.out; have := HK2.out; have := HK3.out; have := HK4.out; have := HK5.out; omega⟩, ⟨by (with_reducible repeat (first | apply zRa | apply zRn | apply zRd)); exact Kd.R_mono HO_6.out (fun _ hk => hk.1)⟩, ⟨zq8 HO_9⟩, ⟨zq1⟩⟩
   replace c45 := zbf c45
   subst c45
   replace H := zif H
   revert H
   refine zin fun c46 H => ?_
   revert H
   refine zin fun c47 H => ?_
   revert H
   refine zin fun c48 H => ?_
   revert H
   refine zin fun c49 H => ?_
   obtain ⟨y122, hy122⟩ : ∃ y_ : List Int, y_ = (([a1] : List Int)) := ⟨_, rfl⟩
   rw [← hy122] at H; try with_reducible replace H := zbs H
   have Ny122 := zA hy122
   clear hy122
   replace H := zob H
   obtain ⟨⟨t125, t126⟩, A500, H⟩ := H
   have A50 := zA A500
   clear A500
   by_cases c51 : t126 = true
   rotate_left
   · replace c51 := zbf c51
     subst c51
     replace H := zif H
     have H' := zA H
     clear H
     try go_wp2
     replace HO_6 := zA (zRd HO_6.out)
     replace HO_9 := zA (zSd HO_9.out)
     replace HO_55 := zA (zSd HO_55.out)
     replace HB := zA (zbd HB.out)
     obtain ⟨Ao68, co68, eo68⟩ := Kd.R_slice HO_6.out
     (first | subst eo68 | (injection eo68 with f1_ f2_ f3_; have f4_ := f1_.symm; have f5_ := f3_.symm; clear f1_ f2_ f3_; subst f4_; subst f5_))
     have p120 : 0 ≤ (x44_3 : Int) := zde zq9
     have q120 : x44_3 < (x6_2.length : Int) := zde zq9
     obtain ⟨ad120, A120_0, c120_0, e120, hx120_0, hl120_0, hi120_0⟩ := zow (zRr HO_6.out).2.2 x44_3 p120 q120
     cases e120
     obtain ⟨ce120, hce120, hMe120, hcc120⟩ := Kd.R_get HO_6.out [] x44_3 p120 (by first | exact q120 | exact zde zq9 | (have e_ := (zRr HO_6.out).1; omega))
     obtain ⟨ve120_0, rfl, ge120_0⟩ := hMe120
     have hv120_0 := hcc120 0 _ rfl
     rw [Nat.add_zero, show ((Kd.slice 42 (Kd.slice 3 (Kd.int .i64)))).sz = 1 from rfl, Nat.mul_one] at hv120_0
     replace hv120_0 := zsi (hv120_0.symm.trans hx120_0)
     rw [hv120_0] at ge120_0
     have HL120_0 := zA (show Kd.R (Kd.slice 3 (Kd.int .i64)) 42 _ _ _ _ (zdj x6_2 x44_3) from ge120_0)
     clear hv120_0 ge120_0
     clear hcc120 hce120
     have HR120_0 := zA hi120_0
     have HC120_0 := zA hl120_0
     clear hi120_0 hl120_0
     replace p120 := eq_true p120
     replace q120 := eq_true q120
     have p121 : 0 ≤ (x11_4 : Int) := zde zq9
     have q121 : x11_4 < (x6_2.length : Int) := zde zq9
     obtain ⟨ad121, A121_0, c121_0, e121, hx121_0, hl121_0, hi121_0⟩ := zow (zRr HO_6.out).2.2 x11_4 p121 q121
     obtain rfl : ad120 = ad121 := (by injection e121)
     obtain ⟨ce121, hce121, hMe121, hcc121⟩ := Kd.R_get HO_6.out [] x11_4 p121 (by first | exact q121 | exact zde zq9 | (have e_ := (zRr HO_6.out).1; omega))
     obtain ⟨ve121_0, rfl, ge121_0⟩ := hMe121
     have hv121_0 := hcc121 0 _ rfl
     rw [Nat.add_zero, show ((Kd.slice 42 (Kd.slice 3 (Kd.int .i64)))).sz = 1 from rfl, Nat.mul_one] at hv121_0
     replace hv121_0 := zsi (hv121_0.symm.trans hx121_0)
     rw [hv121_0] at ge121_0
     have HL121_0 := zA (show Kd.R (Kd.slice 3 (Kd.int .i64)) 42 _ _ _ _ (zdj x6_2 x11_4) from ge121_0)
     clear hv121_0 ge121_0
     clear hcc121 hce121
     have HR121_0 := zA hi121_0
     have HC121_0 := zA hl121_0
     clear hi121_0 hl121_0
     replace p121 := eq_true p121
     replace q121 := eq_true q121
     refine zh1 (n := 16) (S := fun w' => w'.cell? (ad120.add (x44_3).toNat) = some (.slice A120_0 (zdj x6_2 x44_3).length c120_0) ∧ w'.cell? (ad120.add (x11_4).toNat) = some (.slice A121_0 (zdj x6_2 x11_4).length c121_0)) (ds := []) #[false, false, false, false, false, false, false, false, false, false, false, false, false, false, false, false] zq15 rfl rfl ⟨hx120_0, hx121_0⟩ (fun hHeld => ?_); refine zec zhb zgr (fun HT_ HW_ => ?_)
     generalize wr.drew = w67 at HO_6 HO_9 HO_55 HB HL120_0 HL121_0 HR120_0 HR121_0 hx120_0 hx121_0 hHeld ⊢
     refine zpu 0 96 HT_ ?_
     refine zpu 1 97 HT_ ?_
     refine zpu 2 98 HT_ ?_
     refine zpu 4 100 HT_ ?_
     refine zpu 5 101 HT_ ?_
     refine zpu 6 102 HT_ ?_
     refine zpu 8 104 HT_ ?_
     refine ztu 3 99 HT_ HW_ hHeld ?_
     refine ztu 7 103 HT_ HW_ hHeld ?_
     refine one_ (i := 9) (N := some 105) #[true, true, true, true, true, true, true, true, true, true, false, false, false, false, false, false] rfl rfl (zhd HT_.out zq15) (by decide) (fun K hK => ?_)
     refine Kd.R_lit_step (Kd.int .i64) _ 3 ?hg (N := 105) ?hd (xs := ([a1] : List Int)) (inner := [.int .i64 a1]) (ok := fun _ => True) (okp := fun _ => True) ?hr ?hp (fun _ hk => hk) trivial (Below.refl _ _) (zlr _) (by simp) ?_; (case hd => rfl); (case hg => rfl); (case hr => go_simp <;> rfl); (case hp => exact (zcg (show Kd.M (Kd.int .i64) _ _ _ a1 [.int .i64 a1] from rfl) (Reps.none _ _)))
     intro v123 w69 ho70 hb hg_ hnew_
     have HS0_ := (hb.cell (World.block_lt_of_cell? _ _ (hHeld.1))).trans (hHeld.1)
     have HS1_ := (hb.cell (World.block_lt_of_cell? _ _ (hHeld.2))).trans (hHeld.2)
     clear hg_ hnew_
     (first | rw [← Ny122.out] at ho70 | (simp only [Int.reduceToNat] at ho70; rw [← Ny122.out] at ho70))
     replace HO_6 := zA (Kd.R_elder' (zq5 HO_6) (Kd.R_base ho70) hb)
     replace HO_9 := zA (Kd.S_elder' (zq8 HO_9) (Kd.R_base ho70) hb)
     replace HO_55 := zA (Kd.S_elder' (zq8 HO_55) (Kd.R_base ho70) hb)
     replace HL120_0 := zA (Kd.R_elder' (zq5 HL120_0) (Kd.R_base ho70) hb)
     replace HL121_0 := zA (Kd.R_elder' (zq5 HL121_0) (Kd.R_base ho70) hb)
     have HO124 := zA (Kd.R_lower ho70 (zax zq1))
     replace HR120_0 := zA (zCb (zq7 HR120_0) hb)
     replace HR121_0 := zA (zCb (zq7 HR121_0) hb)
     replace HB := zA (zad zq1 hb)
     clear hb ho70
     obtain ⟨Ao71, co71, eo71⟩ := Kd.R_slice HO124.out
     (first | subst eo71 | (injection eo71 with f1_ f2_ f3_; have f4_ := f1_.symm; have f5_ := f3_.symm; clear f1_ f2_ f3_; subst f4_; subst f5_))
     refine hK.out _ _ ⟨HS0_, HS1_⟩ (fun hHeld => ?_)
     clear hK K
     refine znm 105 ?_
     refine one_ (i := 10) (N := some 106) #[true, true, true, true, true, true, true, true, true, true, true, false, false, false, false, false] rfl rfl (zhd HT_.out zq15) (by decide) (fun K hK => ?_)
     refine zo2 Try.func53 zq15 rfl #[.slice A120_0 (zdj x6_2 x44_3).length c120_0, .slice A121_0 (zdj x6_2 x11_4).length c121_0, .slice Ao71 y122.length co71] (by rfl) rfl rfl zq18 ?_
     with_reducible refine (zgm k5 _ _ (zdj x6_2 x44_3) _ _ (zdj x6_2 x11_4) _ _ y122 t125 false _ ?side1 ?side2 ?side3 ?side4 ?side5 ?side6 A50.out).mono ?_
     (case side1 => repeat (first | exact (zq7 HR120_0) | (with_reducible first | refine zCa ?_ _ | refine zCn ?_ _ | refine zCd ?_)))
     (case side2 => exact HC120_0.out)
     (case side3 => repeat (first | exact (zq7 HR121_0) | (with_reducible first | refine zCa ?_ _ | refine zCn ?_ _ | refine zCd ?_)))
     (case side4 => exact HC121_0.out)
     (case side5 => repeat (first | exact (zRr HO124.out).2.2 | (with_reducible first | refine zCa ?_ _ | refine zCn ?_ _ | refine zCd ?_)))
     (case side6 => exact (zRr HO124.out).2.1)
     rintro e w72 ⟨v127, rfl, ho0, hb⟩
     have HS0_ := (hb.cell (World.block_lt_of_cell? _ _ (hHeld.1))).trans (hHeld.1)
     have HS1_ := (hb.cell (World.block_lt_of_cell? _ _ (hHeld.2))).trans (hHeld.2)
     refine ⟨_, rfl, ?_⟩
     replace HO_6 := zA (Kd.R_elder' (zq5 HO_6) (Kd.R_base ho0) hb)
     replace HO_9 := zA (Kd.S_elder' (zq8 HO_9) (Kd.R_base ho0) hb)
     replace HO_55 := zA (Kd.S_elder' (zq8 HO_55) (Kd.R_base ho0) hb)
     replace HL120_0 := zA (Kd.R_elder' (zq5 HL120_0) (Kd.R_base ho0) hb)
     replace HL121_0 := zA (Kd.R_elder' (zq5 HL121_0) (Kd.R_base ho0) hb)
     have HO128 := zA (Kd.R_lower (Kd.R_new' ho0 (Kd.R_lt (zq5 HO124))) (zax zq1))
     replace HO124 := zA (Kd.R_elder' (zq5 HO124) (Kd.R_base ho0) hb)
     replace HR120_0 := zA (zCb (zq7 HR120_0) hb)
     replace HR121_0 := zA (zCb (zq7 HR121_0) hb)
     replace HB := zA (zad zq1 hb)
     (try clear hb)
     (try clear hb2)
     (try clear hk)
     (try clear hi)
     (try clear ho0)
     refine hK.out _ _ ⟨HS0_, HS1_⟩ (fun hHeld => ?_)
     clear hK K
     refine znm 106 ?_
     refine zpu 11 95 HT_ ?_
     refine zpu 12 107 HT_ ?_
     refine zpu 13 108 HT_ ?_
     refine zpu 14 16 HT_ ?_
     refine zpu 15 17 HT_ ?_
     refine zkq (zfs HT_.out zq15) ?_
     try go_wp2
     go_roundg k5
     case measure => have := HJ2.out; have := HK2.out; have := HK3.out; have := HK4.out; have := HK5.out; omega
     case rel => exact ⟨(x9_4), (wrap64 (x11_4 + 1)), zq2, H', ⟨by have := HJ2.out; have := HK2.out; have := HK3.out; have := HK4.out; have := HK5.out; omega⟩, ⟨by (with_reducible repeat (first | apply zRa | apply zRn | apply zRd)); exact Kd.R_mono HO_6.out (fun _ hk => hk.1.1.1)⟩, ⟨zq30 HO_9⟩, ⟨zq1⟩⟩
   subst c51
   replace H := zih H
   by_cases c52 : 0 < (t125.length : Int)
   rotate_left
   · rw [if_neg c52] at H
     exact absurd H (by simp)
   rw [if_pos c52] at H
   have c52b0 := zdt c52
   have c52b1 : decide (0 < t125.length) = true := zdt (by omega)
   clear c52
   by_cases c53 : 1 < (t125.length : Int)
   rotate_left
   · rw [if_neg c53] at H
     exact absurd H (by simp)
   rw [if_pos c53] at H
   have c53b0 := zdt c53
   have c53b1 : decide (1 < t125.length) = true := zdt (by omega)
   clear c53
   obtain ⟨y131, hy131⟩ : ∃ y_ : List Int, y_ = (([rd t125 0, rd t125 1] : List Int)) := ⟨_, rfl⟩
   rw [← hy131] at H; try with_reducible replace H := zbs H
   have Ny131 := zA hy131
   clear hy131
   by_cases c54 : x9_4.length < 5864062014805
   rotate_left
   · rw [if_neg c54] at H
     exact absurd H (by simp)
   rw [if_pos c54] at H
   have LMc54 := zA c54
   clear c54
   obtain ⟨y134, hy134⟩ : ∃ y_ : List (List Int), y_ = (x9_4 ++ [y131]) := ⟨_, rfl⟩
   rw [← hy134] at H; try with_reducible replace H := zbs H
   have Ny134 := zA hy134
   clear hy134
   have H' := zA H
   clear H
   try go_wp2
   replace HO_6 := zA (zRd HO_6.out)
   replace HO_9 := zA (zSd HO_9.out)
   replace HO_55 := zA (zSd HO_55.out)
   replace HB := zA (zbd HB.out)
   obtain ⟨Ao56, co56, eo56⟩ := Kd.R_slice HO_6.out
   (first | subst eo56 | (injection eo56 with f1_ f2_ f3_; have f4_ := f1_.symm; have f5_ := f3_.symm; clear f1_ f2_ f3_; subst f4_; subst f5_))
   have p120 : 0 ≤ (x44_3 : Int) := zde zq9
   have q120 : x44_3 < (x6_2.length : Int) := zde zq9
   obtain ⟨ad120, A120_0, c120_0, e120, hx120_0, hl120_0, hi120_0⟩ := zow (zRr HO_6.out).2.2 x44_3 p120 q120
   cases e120
   obtain ⟨ce120, hce120, hMe120, hcc120⟩ := Kd.R_get HO_6.out [] x44_3 p120 (by first | exact q120 | exact zde zq9 | (have e_ := (zRr HO_6.out).1; omega))
   obtain ⟨ve120_0, rfl, ge120_0⟩ := hMe120
   have hv120_0 := hcc120 0 _ rfl
   rw [Nat.add_zero, show ((Kd.slice 42 (Kd.slice 3 (Kd.int .i64)))).sz = 1 from rfl, Nat.mul_one] at hv120_0
   replace hv120_0 := zsi (hv120_0.symm.trans hx120_0)
   rw [hv120_0] at ge120_0
   have HL120_0 := zA (show Kd.R (Kd.slice 3 (Kd.int .i64)) 42 _ _ _ _ (zdj x6_2 x44_3) from ge120_0)
   clear hv120_0 ge120_0
   clear hcc120 hce120
   have HR120_0 := zA hi120_0
   have HC120_0 := zA hl120_0
   clear hi120_0 hl120_0
   replace p120 := eq_true p120
   replace q120 := eq_true q120
   have p121 : 0 ≤ (x11_4 : Int) := zde zq9
   have q121 : x11_4 < (x6_2.length : Int) := zde zq9
   obtain ⟨ad121, A121_0, c121_0, e121, hx121_0, hl121_0, hi121_0⟩ := zow (zRr HO_6.out).2.2 x11_4 p121 q121
   obtain rfl : ad120 = ad121 := (by injection e121)
   obtain ⟨ce121, hce121, hMe121, hcc121⟩ := Kd.R_get HO_6.out [] x11_4 p121 (by first | exact q121 | exact zde zq9 | (have e_ := (zRr HO_6.out).1; omega))
   obtain ⟨ve121_0, rfl, ge121_0⟩ := hMe121
   have hv121_0 := hcc121 0 _ rfl
   rw [Nat.add_zero, show ((Kd.slice 42 (Kd.slice 3 (Kd.int .i64)))).sz = 1 from rfl, Nat.mul_one] at hv121_0
   replace hv121_0 := zsi (hv121_0.symm.trans hx121_0)
   rw [hv121_0] at ge121_0
   have HL121_0 := zA (show Kd.R (Kd.slice 3 (Kd.int .i64)) 42 _ _ _ _ (zdj x6_2 x11_4) from ge121_0)
   clear hv121_0 ge121_0
   clear hcc121 hce121
   have HR121_0 := zA hi121_0
   have HC121_0 := zA hl121_0
   clear hi121_0 hl121_0
   replace p121 := eq_true p121
   replace q121 := eq_true q121
   refine zh1 (n := 16) (S := fun w' => w'.cell? (ad120.add (x44_3).toNat) = some (.slice A120_0 (zdj x6_2 x44_3).length c120_0) ∧ w'.cell? (ad120.add (x11_4).toNat) = some (.slice A121_0 (zdj x6_2 x11_4).length c121_0)) (ds := []) #[false, false, false, false, false, false, false, false, false, false, false, false, false, false, false, false] zq15 rfl rfl ⟨hx120_0, hx121_0⟩ (fun hHeld => ?_); refine zec zhb zgr (fun HT_ HW_ => ?_)
   generalize wr.drew = w55 at HO_6 HO_9 HO_55 HB HL120_0 HL121_0 HR120_0 HR121_0 hx120_0 hx121_0 hHeld ⊢
   refine zpu 0 96 HT_ ?_
   refine zpu 1 97 HT_ ?_
   refine zpu 2 98 HT_ ?_
   refine zpu 4 100 HT_ ?_
   refine zpu 5 101 HT_ ?_
   refine zpu 6 102 HT_ ?_
   refine zpu 8 104 HT_ ?_
   refine ztu 3 99 HT_ HW_ hHeld ?_
   refine ztu 7 103 HT_ HW_ hHeld ?_
   refine one_ (i := 9) (N := some 105) #[true, true, true, true, true, true, true, true, true, true, false, false, false, false, false, false] rfl rfl (zhd HT_.out zq15) (by decide) (fun K hK => ?_)
   refine Kd.R_lit_step (Kd.int .i64) _ 3 ?hg (N := 105) ?hd (xs := ([a1] : List Int)) (inner := [.int .i64 a1]) (ok := fun _ => True) (okp := fun _ => True) ?hr ?hp (fun _ hk => hk) trivial (Below.refl _ _) (zlr _) (by simp) ?_; (case hd => rfl); (case hg => rfl); (case hr => go_simp <;> rfl); (case hp => exact (zcg (show Kd.M (Kd.int .i64) _ _ _ a1 [.int .i64 a1] from rfl) (Reps.none _ _)))
   intro v123 w57 ho58 hb hg_ hnew_
   have HS0_ := (hb.cell (World.block_lt_of_cell? _ _ (hHeld.1))).trans (hHeld.1)
   have HS1_ := (hb.cell (World.block_lt_of_cell? _ _ (hHeld.2))).trans (hHeld.2)
   clear hg_ hnew_
   (first | rw [← Ny122.out] at ho58 | (simp only [Int.reduceToNat] at ho58; rw [← Ny122.out] at ho58))
   replace HO_6 := zA (Kd.R_elder' (zq5 HO_6) (Kd.R_base ho58) hb)
   replace HO_9 := zA (Kd.S_elder' (zq8 HO_9) (Kd.R_base ho58) hb)
   replace HO_55 := zA (Kd.S_elder' (zq8 HO_55) (Kd.R_base ho58) hb)
   replace HL120_0 := zA (Kd.R_elder' (zq5 HL120_0) (Kd.R_base ho58) hb)
   replace HL121_0 := zA (Kd.R_elder' (zq5 HL121_0) (Kd.R_base ho58) hb)
   have HO124 := zA (Kd.R_lower ho58 (zax zq1))
   replace HR120_0 := zA (zCb (zq7 HR120_0) hb)
   replace HR121_0 := zA (zCb (zq7 HR121_0) hb)
   replace HB := zA (zad zq1 hb)
   clear hb ho58
   obtain ⟨Ao59, co59, eo59⟩ := Kd.R_slice HO124.out
   (first | subst eo59 | (injection eo59 with f1_ f2_ f3_; have f4_ := f1_.symm; have f5_ := f3_.symm; clear f1_ f2_ f3_; subst f4_; subst f5_))
   refine hK.out _ _ ⟨HS0_, HS1_⟩ (fun hHeld => ?_)
   clear hK K
   refine znm 105 ?_
   refine one_ (i := 10) (N := some 106) #[true, true, true, true, true, true, true, true, true, true, true, false, false, false, false, false] rfl rfl (zhd HT_.out zq15) (by decide) (fun K hK => ?_)
   refine zo2 Try.func53 zq15 rfl #[.slice A120_0 (zdj x6_2 x44_3).length c120_0, .slice A121_0 (zdj x6_2 x11_4).length c121_0, .slice Ao59 y122.length co59] (by rfl) rfl rfl zq18 ?_
   with_reducible refine (zgm k5 _ _ (zdj x6_2 x44_3) _ _ (zdj x6_2 x11_4) _ _ y122 t125 true _ ?side1 ?side2 ?side3 ?side4 ?side5 ?side6 A50.out).mono ?_
   (case side1 => repeat (first | exact (zq7 HR120_0) | (with_reducible first | refine zCa ?_ _ | refine zCn ?_ _ | refine zCd ?_)))
   (case side2 => exact HC120_0.out)
   (case side3 => repeat (first | exact (zq7 HR121_0) | (with_reducible first | refine zCa ?_ _ | refine zCn ?_ _ | refine zCd ?_)))
   (case side4 => exact HC121_0.out)
   (case side5 => repeat (first | exact (zRr HO124.out).2.2 | (with_reducible first | refine zCa ?_ _ | refine zCn ?_ _ | refine zCd ?_)))
   (case side6 => exact (zRr HO124.out).2.1)
   rintro e w60 ⟨v127, rfl, ho0, hb⟩
   have HS0_ := (hb.cell (World.block_lt_of_cell? _ _ (hHeld.1))).trans (hHeld.1)
   have HS1_ := (hb.cell (World.block_lt_of_cell? _ _ (hHeld.2))).trans (hHeld.2)
   refine ⟨_, rfl, ?_⟩
   replace HO_6 := zA (Kd.R_elder' (zq5 HO_6) (Kd.R_base ho0) hb)
   replace HO_9 := zA (Kd.S_elder' (zq8 HO_9) (Kd.R_base ho0) hb)
   replace HO_55 := zA (Kd.S_elder' (zq8 HO_55) (Kd.R_base ho0) hb)
   replace HL120_0 := zA (Kd.R_elder' (zq5 HL120_0) (Kd.R_base ho0) hb)
   replace HL121_0 := zA (Kd.R_elder' (zq5 HL121_0) (Kd.R_base ho0) hb)
   have HO128 := zA (Kd.R_lower (Kd.R_new' ho0 (Kd.R_lt (zq5 HO124))) (zax zq1))
   replace HO124 := zA (Kd.R_elder' (zq5 HO124) (Kd.R_base ho0) hb)
   replace HR120_0 := zA (zCb (zq7 HR120_0) hb)
   replace HR121_0 := zA (zCb (zq7 HR121_0) hb)
   replace HB := zA (zad zq1 hb)
   (try clear hb)
   (try clear hb2)
   (try clear hk)
   (try clear hi)
   (try clear ho0)
   refine hK.out _ _ ⟨HS0_, HS1_⟩ (fun hHeld => ?_)
   clear hK K
   refine znm 106 ?_
   refine zpu 11 95 HT_ ?_
   refine zpu 12 107 HT_ ?_
   refine zpu 13 108 HT_ ?_
   refine zpu 14 16 HT_ ?_
   refine zpu 15 17 HT_ ?_
   refine zkq (zfs HT_.out zq15) ?_
   try go_wp2
   replace HO_6 := zA (zRd HO_6.out)
   replace HO_9 := zA (zSd HO_9.out)
   replace HO_55 := zA (zSd HO_55.out)
   replace HL120_0 := zA (zRd HL120_0.out)
   replace HL121_0 := zA (zRd HL121_0.out)
   replace HO124 := zA (zRd HO124.out)
   replace HO128 := zA (zRd HO128.out)
   replace HR120_0 := zA (zCd HR120_0.out)
   replace HR121_0 := zA (zCd HR121_0.out)
   replace HB := zA (zbd HB.out)
   obtain ⟨Ao62, co62, eo62⟩ := Kd.R_slice HO128.out
   (first | subst eo62 | (injection eo62 with f1_ f2_ f3_; have f4_ := f1_.symm; have f5_ := f3_.symm; clear f1_ f2_ f3_; subst f4_; subst f5_))
   have p129 : 0 ≤ (0 : Int) := (by omega)
   have q129 : 0 < (t125.length : Int) := zde zq9
   obtain ⟨ad129, e129, hx129_0⟩ := Kd.at_int (zRr HO128.out).2.2 0 p129 q129
   cases e129
   have qi129 : (0 < t125.length) = True := eq_true (by omega)
   (try rw [show ((0 : Int)).toNat = 0 from rfl] at hx129_0)
   (try rw [Addr.add_zero'] at hx129_0)
   replace p129 := eq_true p129
   replace q129 := eq_true q129
   have p130 : 0 ≤ (1 : Int) := (by omega)
   have q130 : 1 < (t125.length : Int) := zde zq9
   obtain ⟨ad130, e130, hx130_0⟩ := Kd.at_int (zRr HO128.out).2.2 1 p130 q130
   obtain rfl : ad129 = ad130 := (by injection e130)
   (try simp only [show (1 : Int).toNat = 1 from rfl, Nat.reduceMul, Nat.reduceEqDiff, Go.Addr.add, ↓reduceIte] at hx130_0)
   have qi130 : (1 < t125.length) = True := eq_true (by omega)
   (try rw [show ((1 : Int)).toNat = 1 from rfl] at hx130_0)
   replace p130 := eq_true p130
   replace q130 := eq_true q130
   refine zh1 (n := 11) (S := fun w' => w'.cell? ad129 = some (.int .i64 (rd t125 0)) ∧ w'.cell? ⟨ad129.block, ad129.off + 1, none⟩ = some (.int .i64 (rd t125 1))) (ds := [8, 9]) #[false, false, false, false, false, false, false, false, false, false, false] zq15 rfl rfl ⟨hx129_0, hx130_0⟩ (fun hHeld => ?_); refine zec zjj zi9 (fun HT_ HW_ => ?_)
   generalize w60.drew = w61 at HO_6 HO_9 HO_55 HL120_0 HL121_0 HO124 HO128 HR120_0 HR121_0 HB hx129_0 hx130_0 hHeld ⊢
   refine zpu 0 110 HT_ ?_
   refine zpu 1 111 HT_ ?_
   refine zpu 2 112 HT_ ?_
   refine zpu 4 114 HT_ ?_
   refine zpu 5 115 HT_ ?_
   refine ztu 3 113 HT_ HW_ hHeld ?_
   refine ztu 6 116 HT_ HW_ hHeld ?_
   refine one_ (i := 7) (N := some 117) #[true, true, true, true, true, true, true, true, false, false, false] rfl rfl (zhd HT_.out zq15) (by decide) (fun K hK => ?_)
   refine Kd.R_lit_step (Kd.int .i64) _ 3 ?hg (N := 117) ?hd (xs := ([rd t125 0, rd t125 1] : List Int)) (inner := [.int .i64 (rd t125 0), .int .i64 (rd t125 1)]) (ok := fun _ => True) (okp := fun _ => True) ?hr ?hp (fun _ hk => hk) trivial (Below.refl _ _) (zlr _) (by simp) ?_; (case hd => rfl); (case hg => rfl); (case hr => go_simp <;> rfl); (case hp => exact (zcg (show Kd.M (Kd.int .i64) _ _ _ (rd t125 0) [.int .i64 (rd t125 0)] from rfl) (zcg (show Kd.M (Kd.int .i64) _ _ _ (rd t125 1) [.int .i64 (rd t125 1)] from rfl) (Reps.none _ _))))
   intro v132 w63 ho64 hb hg_ hnew_
   have HS0_ := (hb.cell (World.block_lt_of_cell? _ _ (hHeld.1))).trans (hHeld.1)
   have HS1_ := (hb.cell (World.block_lt_of_cell? _ _ (hHeld.2))).trans (hHeld.2)
   clear hg_ hnew_
   (first | rw [← Ny131.out] at ho64 | (simp only [Int.reduceToNat] at ho64; rw [← Ny131.out] at ho64))
   replace HO_6 := zA (Kd.R_elder' (zq5 HO_6) (Kd.R_base ho64) hb)
   replace HO_9 := zA (Kd.S_elder' (zq8 HO_9) (Kd.R_base ho64) hb)
   replace HO_55 := zA (Kd.S_elder' (zq8 HO_55) (Kd.R_base ho64) hb)
   replace HL120_0 := zA (Kd.R_elder' (zq5 HL120_0) (Kd.R_base ho64) hb)
   replace HL121_0 := zA (Kd.R_elder' (zq5 HL121_0) (Kd.R_base ho64) hb)
   have HO133 := zA (Kd.R_lower (Kd.R_new' (Kd.R_new' ho64 (Kd.R_lt (zq5 HO124))) (Kd.R_lt (zq5 HO128))) (zax zq1))
   replace HO124 := zA (Kd.R_elder' (zq5 HO124) (Kd.R_base ho64) hb)
   replace HO128 := zA (Kd.R_elder' (zq5 HO128) (Kd.R_base ho64) hb)
   replace HR120_0 := zA (zCb (zq7 HR120_0) hb)
   replace HR121_0 := zA (zCb (zq7 HR121_0) hb)
   replace HB := zA (zad zq1 hb)
   clear hb ho64
   obtain ⟨Ao66, co66, eo66⟩ := Kd.R_slice HO133.out
   (first | subst eo66 | (injection eo66 with f1_ f2_ f3_; have f4_ := f1_.symm; have f5_ := f3_.symm; clear f1_ f2_ f3_; subst f4_; subst f5_))
   refine hK.out _ _ ⟨HS0_, HS1_⟩ (fun hHeld => ?_)
   clear hK K
   refine znm 117 ?_
   refine zqu (i := 8) (N := some 118) #[true, true, true, true, true, true, true, true, true, false, false] rfl rfl (zhd HT_.out zq15) (by decide) (fun K hK => ?_)
   refine zro (w1 := ?_) (v := ?_) (by rfl) rfl ?_ ?_
   rotate_left 2
   · go_simp
     constructor
     · rfl
     · rfl
   refine hK.out _ _ ?_
   clear hK K
   refine znm 118 ?_
   refine zqu (i := 9) (N := some 119) #[true, true, true, true, true, true, true, true, true, true, false] rfl rfl (zhd HT_.out zq15) (by decide) (fun K hK => ?_)
   refine Kd.S_append_step (Kd.slice 3 (Kd.int .i64)) (w0 := w) w.heap.size (by rfl) (.tmp 110) (.tmp 118) 24 42 (.slice none 0 0) 24 rfl Try.underlying24 znf rfl (by decide) (by omega) (.slice Ao22 x9_4.length co22) x9_4 y131 [.slice Ao66 y131.length co66] (fun k_ => some k_ ≠ (.slice Ao59 y122.length co59 : Value).ownBlock ∧ some k_ ≠ (.slice (some ad129) t125.length co62 : Value).ownBlock) (fun k_ => some k_ = (.slice Ao66 y131.length co66 : Value).ownBlock) rfl rfl ?aP (fun k_ hk_ => ((Kd.R_mono (ok' := fun k_ => ((fun k_ => some k_ ≠ (.slice Ao59 y122.length co59 : Value).ownBlock ∧ some k_ ≠ (.slice (some ad129) t125.length co62 : Value).ownBlock)) k_ ∧ some k_ ≠ (.slice Ao22 x9_4.length co22 : Value).ownBlock) (Kd.R_apart' (HO133.out) (Kd.S_typed HO_9.out) (by decide)) (fun k_ hk => ⟨⟨hk.1.1.2, hk.1.2⟩, hk.2⟩))).1 k_ hk_.symm) ?aF ?aO ?aB ?aS ?aL ?_
   (case aP => exact Kd.M_row (Kd.R_mono (Kd.R_tight rfl (Kd.R_mono (ok' := fun k_ => ((fun k_ => some k_ ≠ (.slice Ao59 y122.length co59 : Value).ownBlock ∧ some k_ ≠ (.slice (some ad129) t125.length co62 : Value).ownBlock)) k_ ∧ some k_ ≠ (.slice Ao22 x9_4.length co22 : Value).ownBlock) (Kd.R_apart' (HO133.out) (Kd.S_typed HO_9.out) (by decide)) (fun k_ hk => ⟨⟨hk.1.1.2, hk.1.2⟩, hk.2⟩))) (fun _ h_ => h_)))
   (case aB => exact zq1)
   (case aF => exact (fun k_ hk => ⟨Kd.fresh' (Kd.R_lt (zq5 HO124)) k_ hk, Kd.fresh' (Kd.R_lt (zq5 HO128)) k_ hk⟩))
   (case aO => exact (by (with_reducible repeat (first | apply zSa | apply zSn | apply zSd)); exact Kd.S_mono HO_9.out (fun k_ hk => ⟨⟨hk.1.1.2, hk.1.2⟩, fun e_ => hk.2 e_⟩)))
   (case aS => exact (zax zq1))
   (case aL => have := LMc54.out; omega)
   intro v135 w65 ho hb hg hat
   rw [← Ny134.out] at ho
   replace HO_6 := zA (Kd.R_after (ok := (fun k_ => some k_ ≠ (.slice Ao59 y122.length co59 : Value).ownBlock ∧ some k_ ≠ (.slice (some ad129) t125.length co62 : Value).ownBlock ∧ some k_ ≠ (.slice Ao66 y131.length co66 : Value).ownBlock)) (by (with_reducible repeat (first | apply zRa | apply zRn | apply zRd)); exact Kd.R_mono HO_6.out (fun _ hk => ⟨⟨hk.1.1.2, ⟨hk.1.2, hk.2⟩⟩, hk.1.1.1.1⟩)) hg hat)
   replace HL120_0 := zA (Kd.R_after (ok := (fun k_ => some k_ ≠ (.slice (some ad120) x6_2.length co56 : Value).ownBlock ∧ some k_ ≠ (.slice Ao59 y122.length co59 : Value).ownBlock ∧ some k_ ≠ (.slice (some ad129) t125.length co62 : Value).ownBlock ∧ some k_ ≠ (.slice Ao66 y131.length co66 : Value).ownBlock)) (zq33 HL120_0) hg hat)
   replace HL121_0 := zA (Kd.R_after (ok := (fun k_ => some k_ ≠ (.slice (some ad120) x6_2.length co56 : Value).ownBlock ∧ some k_ ≠ (.slice Ao59 y122.length co59 : Value).ownBlock ∧ some k_ ≠ (.slice (some ad129) t125.length co62 : Value).ownBlock ∧ some k_ ≠ (.slice Ao66 y131.length co66 : Value).ownBlock)) (zq33 HL121_0) hg hat)
   replace HO124 := zA (Kd.R_over' (zq5 HO124) (Kd.S_typed (zq8 HO_9)) (by decide) hg)
   replace HO128 := zA (Kd.R_over' (zq5 HO128) (Kd.S_typed (zq8 HO_9)) (by decide) hg)
   replace HB := zA (hb)
   have HO136 := zA (ho)
   clear HO_9 HO133
   clear ho hb hg hat
   refine hK.out _ _ ?_
   clear hK K
   refine znm 119 ?_
   refine zpu 10 9 HT_ ?_
   refine zkq (zfs HT_.out zq15) ?_
   try go_wp2
   go_roundg k5
   case measure => have := HJ2.out; have := HK2.out; have := HK3.out; have := HK4.out; have := HK5.out; omega
   case rel => exact ⟨(y134), (wrap64 (x11_4 + 1)), zq2, H', ⟨by have := HJ2.out; have := HK2.out; have := HK3.out; have := HK4.out; have := HK5.out; omega⟩, ⟨by (with_reducible repeat (first | apply zRa | apply zRn | apply zRd)); exact Kd.R_mono HO_6.out (fun _ hk => hk.2)⟩, ⟨zq30 HO136⟩, ⟨zq1⟩⟩
 revert H
 refine zin fun c24 H => ?_
 revert H
 refine zin fun c25 H => ?_
 by_cases c26 : 0 < ((zaz x9_4 x57_5).length : Int)
 rotate_left
 · rw [if_neg c26] at H
   exact absurd H (by simp)
 rw [if_pos c26] at H
 have c26b0 := zdt c26
 have c26b1 : decide (0 < (zaz x9_4 x57_5).length) = true := zdt (by omega)
 clear c26
 by_cases c27 : 1 < ((zaz x9_4 x57_5).length : Int)
 rotate_left
 · rw [if_neg c27] at H
   exact absurd H (by simp)
 rw [if_pos c27] at H
 have c27b0 := zdt c27
 have c27b1 : decide (1 < (zaz x9_4 x57_5).length) = true := zdt (by omega)
 clear c27
 by_cases c28 : x12_5 = true
 · subst c28
   replace H := zih H
   have H' := zA H
   clear H
   have p111 : 0 ≤ (x57_5 : Int) := zde zq9
   have q111 : x57_5 < (x9_4.length : Int) := zde zq9
   obtain ⟨ad111, A111_0, c111_0, e111, hx111_0, hl111_0, hi111_0⟩ := zio (zSr HO_55.out).2.2 x57_5 p111 q111
   cases e111
   obtain ⟨ce111, hce111, hMe111, hcc111⟩ := Kd.S_get HO_55.out [] x57_5 p111 (by first | exact q111 | exact zde zq9 | (have e_ := (zSr HO_55.out).1; omega))
   obtain ⟨ve111_0, rfl, ge111_0⟩ := hMe111
   have hv111_0 := hcc111 0 _ rfl
   rw [Nat.add_zero, show ((Kd.slice 3 (Kd.int .i64))).sz = 1 from rfl, Nat.mul_one] at hv111_0
   replace hv111_0 := zsi (hv111_0.symm.trans hx111_0)
   rw [hv111_0] at ge111_0
   have HL111_0 := zA (show Kd.R (Kd.int .i64) 3 _ _ _ _ (zaz x9_4 x57_5) from ge111_0)
   clear hv111_0 ge111_0
   clear hcc111 hce111
   have HR111_0 := zA hi111_0
   have HC111_0 := zA hl111_0
   clear hi111_0 hl111_0
   replace p111 := eq_true p111
   replace q111 := eq_true q111
   try go_wp2
   replace HO_6 := zA (zRd HO_6.out)
   replace HO_9 := zA (zSd HO_9.out)
   replace HO_55 := zA (zSd HO_55.out)
   replace HL111_0 := zA (zRd HL111_0.out)
   replace HR111_0 := zA (zCd HR111_0.out)
   replace HB := zA (zbd HB.out)
   have p112 : 0 ≤ (0 : Int) := (by omega)
   have q112 : 0 < ((zaz x9_4 x57_5).length : Int) := zde zq9
   obtain ⟨ad112, e112, hx112_0⟩ := Kd.at_int (zq7 HR111_0) 0 p112 q112
   cases e112
   have qi112 : (0 < (zaz x9_4 x57_5).length) = True := eq_true (by omega)
   (try rw [show ((0 : Int)).toNat = 0 from rfl] at hx112_0)
   (try rw [Addr.add_zero'] at hx112_0)
   replace p112 := eq_true p112
   replace q112 := eq_true q112
   have p113 : 0 ≤ (1 : Int) := (by omega)
   have q113 : 1 < ((zaz x9_4 x57_5).length : Int) := zde zq9
   obtain ⟨ad113, e113, hx113_0⟩ := Kd.at_int (zq7 HR111_0) 1 p113 q113
   obtain rfl : ad112 = ad113 := (by injection e113)
   (try simp only [show (1 : Int).toNat = 1 from rfl, Nat.reduceMul, Nat.reduceEqDiff, Go.Addr.add, ↓reduceIte] at hx113_0)
   have qi113 : (1 < (zaz x9_4 x57_5).length) = True := eq_true (by omega)
   (try rw [show ((1 : Int)).toNat = 1 from rfl] at hx113_0)
   replace p113 := eq_true p113
   replace q113 := eq_true q113
   refine zh1 (n := 9) (S := fun w' => w'.cell? ad112 = some (.int .i64 (rd (zaz x9_4 x57_5) 0)) ∧ w'.cell? ⟨ad112.block, ad112.off + 1, none⟩ = some (.int .i64 (rd (zaz x9_4 x57_5) 1))) (ds := []) #[false, false, false, false, false, false, false, false, false] zq15 rfl rfl ⟨hx112_0, hx113_0⟩ (fun hHeld => ?_); refine zec zg9 zgp (fun HT_ HW_ => ?_)
   generalize wr.drew = w29 at HO_6 HO_9 HO_55 HL111_0 HR111_0 HB hx112_0 hx113_0 hHeld ⊢
   refine zpu 0 61 HT_ ?_
   refine zpu 1 62 HT_ ?_
   refine zpu 4 65 HT_ ?_
   refine zpu 5 66 HT_ ?_
   refine ztu 2 63 HT_ HW_ hHeld ?_
   refine zpu 3 64 HT_ ?_
   refine ztu 6 67 HT_ HW_ hHeld ?_
   refine zpu 7 68 HT_ ?_
   refine zpu 8 15 HT_ ?_
   refine zkq (zfs HT_.out zq15) ?_
   try go_wp2
   replace HO_6 := zA (zRd HO_6.out)
   replace HO_9 := zA (zSd HO_9.out)
   replace HO_55 := zA (zSd HO_55.out)
   replace HL111_0 := zA (zRd HL111_0.out)
   replace HR111_0 := zA (zCd HR111_0.out)
   replace HB := zA (zbd HB.out)
   refine zh1 (n := 25) (S := fun w' => True) (ds := []) #[false, false, false, false, false, false, false, false, false, false, false, false, false, false, false, false, false, false, false, false, false, false, false, false, false] zq15 rfl rfl trivial (fun hHeld => ?_); refine zec zha zgq (fun HT_ HW_ => ?_)
   generalize w29.drew = w30 at HO_6 HO_9 HO_55 HL111_0 HR111_0 HB hHeld ⊢
   refine zpu 0 69 HT_ ?_
   refine zpu 1 70 HT_ ?_
   refine zhg (i := 2) (N := some 71) (v := undef) (a' := ?_) #[true, true, true, false, false, false, false, false, false, false, false, false, false, false, false, false, false, false, false, false, false, false, false, false, false] rfl rfl (zex HT_.out zq15) (fun _ _ _ h => h) (Or.inr ⟨by rfl, rfl⟩) ?_ ?_
   rotate_left
   · simp only [Act.put, List.setIfInBounds_toArray, List.set_cons_zero, List.set_cons_succ, zef, zev]
     rfl
   refine zhg (i := 3) (N := some 72) (v := undef) (a' := ?_) #[true, true, true, true, false, false, false, false, false, false, false, false, false, false, false, false, false, false, false, false, false, false, false, false, false] rfl rfl (zex HT_.out zq15) (fun _ _ _ h => h) (Or.inr ⟨by rfl, rfl⟩) ?_ ?_
   rotate_left
   · simp only [Act.put, List.setIfInBounds_toArray, List.set_cons_zero, List.set_cons_succ, zef, zev]
     rfl
   refine zhg (i := 4) (N := some 73) (v := undef) (a' := ?_) #[true, true, true, true, true, false, false, false, false, false, false, false, false, false, false, false, false, false, false, false, false, false, false, false, false] rfl rfl (zex HT_.out zq15) (fun _ _ _ h => h) (Or.inr ⟨by rfl, rfl⟩) ?_ ?_
   rotate_left
   · simp only [Act.put, List.setIfInBounds_toArray, List.set_cons_zero, List.set_cons_succ, zef, zev]
     rfl
   refine zhg (i := 5) (N := some 74) (v := undef) (a' := ?_) #[true, true, true, true, true, true, false, false, false, false, false, false, false, false, false, false, false, false, false, false, false, false, false, false, false] rfl rfl (zex HT_.out zq15) (fun _ _ _ h => h) (Or.inr ⟨by rfl, rfl⟩) ?_ ?_
   rotate_left
   · simp only [Act.put, List.setIfInBounds_toArray, List.set_cons_zero, List.set_cons_succ, zef, zev]
     rfl
   refine zhg (i := 6) (N := some 75) (v := undef) (a' := ?_) #[true, true, true, true, true, true, true, false, false, false, false, false, false, false, false, false, false, false, false, false, false, false, false, false, false] rfl rfl (zex HT_.out zq15) (fun _ _ _ h => h) (Or.inr ⟨by rfl, rfl⟩) ?_ ?_
   rotate_left
   · simp only [Act.put, List.setIfInBounds_toArray, List.set_cons_zero, List.set_cons_succ, zef, zev]
     rfl
   refine zhg (i := 7) (N := some 76) (v := undef) (a' := ?_) #[true, true, true, true, true, true, true, true, false, false, false, false, false, false, false, false, false, false, false, false, false, false, false, false, false] rfl rfl (zex HT_.out zq15) (fun _ _ _ h => h) (Or.inr ⟨by rfl, rfl⟩) ?_ ?_
   rotate_left
   · simp only [Act.put, List.setIfInBounds_toArray, List.set_cons_zero, List.set_cons_succ, zef, zev]
     rfl
   refine zhg (i := 8) (N := some 77) (v := undef) (a' := ?_) #[true, true, true, true, true, true, true, true, true, false, false, false, false, false, false, false, false, false, false, false, false, false, false, false, false] rfl rfl (zex HT_.out zq15) (fun _ _ _ h => h) (Or.inr ⟨by rfl, rfl⟩) ?_ ?_
   rotate_left
   · simp only [Act.put, List.setIfInBounds_toArray, List.set_cons_zero, List.set_cons_succ, zef, zev]
     rfl
   refine zhg (i := 9) (N := some 78) (v := undef) (a' := ?_) #[true, true, true, true, true, true, true, true, true, true, false, false, false, false, false, false, false, false, false, false, false, false, false, false, false] rfl rfl (zex HT_.out zq15) (fun _ _ _ h => h) (Or.inr ⟨by rfl, rfl⟩) ?_ ?_
   rotate_left
   · simp only [Act.put, List.setIfInBounds_toArray, List.set_cons_zero, List.set_cons_succ, zef, zev]
     rfl
   refine zhg (i := 10) (N := some 79) (v := undef) (a' := ?_) #[true, true, true, true, true, true, true, true, true, true, true, false, false, false, false, false, false, false, false, false, false, false, false, false, false] rfl rfl (zex HT_.out zq15) (fun _ _ _ h => h) (Or.inr ⟨by rfl, rfl⟩) ?_ ?_
   rotate_left
   · simp only [Act.put, List.setIfInBounds_toArray, List.set_cons_zero, List.set_cons_succ, zef, zev]
     rfl
   refine zhg (i := 11) (N := some 80) (v := undef) (a' := ?_) #[true, true, true, true, true, true, true, true, true, true, true, true, false, false, false, false, false, false, false, false, false, false, false, false, false] rfl rfl (zex HT_.out zq15) (fun _ _ _ h => h) (Or.inr ⟨by rfl, rfl⟩) ?_ ?_
   rotate_left
   · simp only [Act.put, List.setIfInBounds_toArray, List.set_cons_zero, List.set_cons_succ, zef, zev]
     rfl
   refine zhg (i := 12) (N := some 81) (v := undef) (a' := ?_) #[true, true, true, true, true, true, true, true, true, true, true, true, true, false, false, false, false, false, false, false, false, false, false, false, false] rfl rfl (zex HT_.out zq15) (fun _ _ _ h => h) (Or.inr ⟨by rfl, rfl⟩) ?_ ?_
   rotate_left
   · simp only [Act.put, List.setIfInBounds_toArray, List.set_cons_zero, List.set_cons_succ, zef, zev]
     rfl
   refine zhg (i := 13) (N := some 82) (v := undef) (a' := ?_) #[true, true, true, true, true, true, true, true, true, true, true, true, true, true, false, false, false, false, false, false, false, false, false, false, false] rfl rfl (zex HT_.out zq15) (fun _ _ _ h => h) (Or.inr ⟨by rfl, rfl⟩) ?_ ?_
   rotate_left
   · simp only [Act.put, List.setIfInBounds_toArray, List.set_cons_zero, List.set_cons_succ, zef, zev]
     rfl
   refine zhg (i := 14) (N := some 83) (v := undef) (a' := ?_) #[true, true, true, true, true, true, true, true, true, true, true, true, true, true, true, false, false, false, false, false, false, false, false, false, false] rfl rfl (zex HT_.out zq15) (fun _ _ _ h => h) (Or.inr ⟨by rfl, rfl⟩) ?_ ?_
   rotate_left
   · simp only [Act.put, List.setIfInBounds_toArray, List.set_cons_zero, List.set_cons_succ, zef, zev]
     rfl
   refine zhg (i := 15) (N := some 84) (v := undef) (a' := ?_) #[true, true, true, true, true, true, true, true, true, true, true, true, true, true, true, true, false, false, false, false, false, false, false, false, false] rfl rfl (zex HT_.out zq15) (fun _ _ _ h => h) (Or.inr ⟨by rfl, rfl⟩) ?_ ?_
   rotate_left
   · simp only [Act.put, List.setIfInBounds_toArray, List.set_cons_zero, List.set_cons_succ, zef, zev]
     rfl
   refine zhg (i := 16) (N := some 85) (v := undef) (a' := ?_) #[true, true, true, true, true, true, true, true, true, true, true, true, true, true, true, true, true, false, false, false, false, false, false, false, false] rfl rfl (zex HT_.out zq15) (fun _ _ _ h => h) (Or.inr ⟨by rfl, rfl⟩) ?_ ?_
   rotate_left
   · simp only [Act.put, List.setIfInBounds_toArray, List.set_cons_zero, List.set_cons_succ, zef, zev]
     rfl
   refine zhg (i := 17) (N := some 86) (v := undef) (a' := ?_) #[true, true, true, true, true, true, true, true, true, true, true, true, true, true, true, true, true, true, false, false, false, false, false, false, false] rfl rfl (zex HT_.out zq15) (fun _ _ _ h => h) (Or.inr ⟨by rfl, rfl⟩) ?_ ?_
   rotate_left
   · simp only [Act.put, List.setIfInBounds_toArray, List.set_cons_zero, List.set_cons_succ, zef, zev]
     rfl
   refine zhg (i := 18) (N := some 87) (v := undef) (a' := ?_) #[true, true, true, true, true, true, true, true, true, true, true, true, true, true, true, true, true, true, true, false, false, false, false, false, false] rfl rfl (zex HT_.out zq15) (fun _ _ _ h => h) (Or.inr ⟨by rfl, rfl⟩) ?_ ?_
   rotate_left
   · simp only [Act.put, List.setIfInBounds_toArray, List.set_cons_zero, List.set_cons_succ, zef, zev]
     rfl
   refine zhg (i := 19) (N := some 88) (v := undef) (a' := ?_) #[true, true, true, true, true, true, true, true, true, true, true, true, true, true, true, true, true, true, true, true, false, false, false, false, false] rfl rfl (zex HT_.out zq15) (fun _ _ _ h => h) (Or.inr ⟨by rfl, rfl⟩) ?_ ?_
   rotate_left
   · simp only [Act.put, List.setIfInBounds_toArray, List.set_cons_zero, List.set_cons_succ, zef, zev]
     rfl
   refine zhg (i := 20) (N := some 89) (v := undef) (a' := ?_) #[true, true, true, true, true, true, true, true, true, true, true, true, true, true, true, true, true, true, true, true, true, false, false, false, false] rfl rfl (zex HT_.out zq15) (fun _ _ _ h => h) (Or.inr ⟨by rfl, rfl⟩) ?_ ?_
   rotate_left
   · simp only [Act.put, List.setIfInBounds_toArray, List.set_cons_zero, List.set_cons_succ, zef, zev]
     rfl
   refine zhg (i := 21) (N := some 90) (v := undef) (a' := ?_) #[true, true, true, true, true, true, true, true, true, true, true, true, true, true, true, true, true, true, true, true, true, true, false, false, false] rfl rfl (zex HT_.out zq15) (fun _ _ _ h => h) (Or.inr ⟨by rfl, rfl⟩) ?_ ?_
   rotate_left
   · simp only [Act.put, List.setIfInBounds_toArray, List.set_cons_zero, List.set_cons_succ, zef, zev]
     rfl
   refine zhg (i := 22) (N := some 91) (v := undef) (a' := ?_) #[true, true, true, true, true, true, true, true, true, true, true, true, true, true, true, true, true, true, true, true, true, true, true, false, false] rfl rfl (zex HT_.out zq15) (fun _ _ _ h => h) (Or.inr ⟨by rfl, rfl⟩) ?_ ?_
   rotate_left
   · simp only [Act.put, List.setIfInBounds_toArray, List.set_cons_zero, List.set_cons_succ, zef, zev]
     rfl
   refine zpu 23 92 HT_ ?_
   refine zpu 24 12 HT_ ?_
   refine zkq (zfs HT_.out zq15) ?_
   try go_wp2
   go_roundg k5
   case measure => have := HJ2.out; have := HK2.out; have := HK3.out; have := HK4.out; have := HK5.out; omega
   case rel => exact ⟨(true), (wrap64 (x57_5 + 1)), zq2, zq2, H', ⟨by have := HJ2.out; have := HK2.out; have := HK3.out; have := HK4.out; have := HK5.out; omega⟩, ⟨zq5 HO_6⟩, ⟨zq8 HO_9⟩, ⟨zq8 HO_55⟩, ⟨zq1⟩⟩
 replace c28 := zbf c28
 subst c28
 replace H := zif H
 revert H
 refine zin fun c31 H => ?_
 revert H
 refine zin fun c32 H => ?_
 obtain ⟨ji33, hji33⟩ : ∃ j_ : Int, (wrap64 ((wrap64 (64 * (rd (zaz x9_4 x57_5) 0))) + (rd (zaz x9_4 x57_5) 1))) = j_ := ⟨_, rfl⟩
 replace H : (if 0 ≤ (ji33) then (if (ji33) < ((zdj x6_2 x44_3).length : Int) then (if 0 ≤ a1 then (if a1 < ((zaz (zdj x6_2 x44_3) (ji33)).length : Int) then (if 0 ≤ x11_4 then (if x11_4 < (x6_2.length : Int) then (if (ji33) < ((zdj x6_2 x11_4).length : Int) then (if a1 < ((zaz (zdj x6_2 x11_4) (ji33)).length : Int) then (za8 k5 l0 a1 x6_2 x9_4 x44_3 x11_4 ((rd (zaz (zdj x6_2 x44_3) (ji33)) a1) != (rd (zaz (zdj x6_2 x11_4) (ji33)) a1)) (l0.length : Int) x44_3 x9_4 (x9_4.length : Int) (wrap64 (x57_5 + 1))) else (none)) else (none)) else (none)) else (none)) else (none)) else (none)) else (none)) else (none)) = some (r1, r2) := by first | (rw [hji33] at H; exact H) | (simp only [hji33] at H ⊢; exact H)
 have hji33w : (IntKind.i64.wrap ((wrap64 (64 * (rd (zaz x9_4 x57_5) 0))) + (rd (zaz x9_4 x57_5) 1))) = ji33 := (zef _).trans hji33
 revert H
 refine zin fun c34 H => ?_
 revert H
 refine zin fun c35 H => ?_
 revert H
 refine zin fun c36 H => ?_
 revert H
 refine zin fun c37 H => ?_
 revert H
 refine zin fun c38 H => ?_
 revert H
 refine zin fun c39 H => ?_
 revert H
 refine zin fun c40 H => ?_
 revert H
 refine zin fun c41 H => ?_
 have H' := zA H
 clear H
 have p111 : 0 ≤ (x57_5 : Int) := zde zq9
 have q111 : x57_5 < (x9_4.length : Int) := zde zq9
 obtain ⟨ad111, A111_0, c111_0, e111, hx111_0, hl111_0, hi111_0⟩ := zio (zSr HO_55.out).2.2 x57_5 p111 q111
 cases e111
 obtain ⟨ce111, hce111, hMe111, hcc111⟩ := Kd.S_get HO_55.out [] x57_5 p111 (by first | exact q111 | exact zde zq9 | (have e_ := (zSr HO_55.out).1; omega))
 obtain ⟨ve111_0, rfl, ge111_0⟩ := hMe111
 have hv111_0 := hcc111 0 _ rfl
 rw [Nat.add_zero, show ((Kd.slice 3 (Kd.int .i64))).sz = 1 from rfl, Nat.mul_one] at hv111_0
 replace hv111_0 := zsi (hv111_0.symm.trans hx111_0)
 rw [hv111_0] at ge111_0
 have HL111_0 := zA (show Kd.R (Kd.int .i64) 3 _ _ _ _ (zaz x9_4 x57_5) from ge111_0)
 clear hv111_0 ge111_0
 clear hcc111 hce111
 have HR111_0 := zA hi111_0
 have HC111_0 := zA hl111_0
 clear hi111_0 hl111_0
 replace p111 := eq_true p111
 replace q111 := eq_true q111
 try go_wp2
 replace HO_6 := zA (zRd HO_6.out)
 replace HO_9 := zA (zSd HO_9.out)
 replace HO_55 := zA (zSd HO_55.out)
 replace HL111_0 := zA (zRd HL111_0.out)
 replace HR111_0 := zA (zCd HR111_0.out)
 replace HB := zA (zbd HB.out)
 have p112 : 0 ≤ (0 : Int) := (by omega)
 have q112 : 0 < ((zaz x9_4 x57_5).length : Int) := zde zq9
 obtain ⟨ad112, e112, hx112_0⟩ := Kd.at_int (zq7 HR111_0) 0 p112 q112
 cases e112
 have qi112 : (0 < (zaz x9_4 x57_5).length) = True := eq_true (by omega)
 (try rw [show ((0 : Int)).toNat = 0 from rfl] at hx112_0)
 (try rw [Addr.add_zero'] at hx112_0)
 replace p112 := eq_true p112
 replace q112 := eq_true q112
 have p113 : 0 ≤ (1 : Int) := (by omega)
 have q113 : 1 < ((zaz x9_4 x57_5).length : Int) := zde zq9
 obtain ⟨ad113, e113, hx113_0⟩ := Kd.at_int (zq7 HR111_0) 1 p113 q113
 obtain rfl : ad112 = ad113 := (by injection e113)
 (try simp only [show (1 : Int).toNat = 1 from rfl, Nat.reduceMul, Nat.reduceEqDiff, Go.Addr.add, ↓reduceIte] at hx113_0)
 have qi113 : (1 < (zaz x9_4 x57_5).length) = True := eq_true (by omega)
 (try rw [show ((1 : Int)).toNat = 1 from rfl] at hx113_0)
 replace p113 := eq_true p113
 replace q113 := eq_true q113
 refine zh1 (n := 9) (S := fun w' => w'.cell? ad112 = some (.int .i64 (rd (zaz x9_4 x57_5) 0)) ∧ w'.cell? ⟨ad112.block, ad112.off + 1, none⟩ = some (.int .i64 (rd (zaz x9_4 x57_5) 1))) (ds := []) #[false, false, false, false, false, false, false, false, false] zq15 rfl rfl ⟨hx112_0, hx113_0⟩ (fun hHeld => ?_); refine zec zg9 zgp (fun HT_ HW_ => ?_)
 generalize wr.drew = w42 at HO_6 HO_9 HO_55 HL111_0 HR111_0 HB hx112_0 hx113_0 hHeld ⊢
 refine zpu 0 61 HT_ ?_
 refine zpu 1 62 HT_ ?_
 refine zpu 4 65 HT_ ?_
 refine zpu 5 66 HT_ ?_
 refine ztu 2 63 HT_ HW_ hHeld ?_
 refine zpu 3 64 HT_ ?_
 refine ztu 6 67 HT_ HW_ hHeld ?_
 refine zpu 7 68 HT_ ?_
 refine zpu 8 15 HT_ ?_
 refine zkq (zfs HT_.out zq15) ?_
 try go_wp2
 replace HO_6 := zA (zRd HO_6.out)
 replace HO_9 := zA (zSd HO_9.out)
 replace HO_55 := zA (zSd HO_55.out)
 replace HL111_0 := zA (zRd HL111_0.out)
 replace HR111_0 := zA (zCd HR111_0.out)
 replace HB := zA (zbd HB.out)
 obtain ⟨Ao44, co44, eo44⟩ := Kd.R_slice HO_6.out
 (first | subst eo44 | (injection eo44 with f1_ f2_ f3_; have f4_ := f1_.symm; have f5_ := f3_.symm; clear f1_ f2_ f3_; subst f4_; subst f5_))
 have p114 : 0 ≤ (x44_3 : Int) := zde zq9
 have q114 : x44_3 < (x6_2.length : Int) := zde zq9
 obtain ⟨ad114, A114_0, c114_0, e114, hx114_0, hl114_0, hi114_0⟩ := zow (zRr HO_6.out).2.2 x44_3 p114 q114
 cases e114
 obtain ⟨ce114, hce114, hMe114, hcc114⟩ := Kd.R_get HO_6.out [] x44_3 p114 (by first | exact q114 | exact zde zq9 | (have e_ := (zRr HO_6.out).1; omega))
 obtain ⟨ve114_0, rfl, ge114_0⟩ := hMe114
 have hv114_0 := hcc114 0 _ rfl
 rw [Nat.add_zero, show ((Kd.slice 42 (Kd.slice 3 (Kd.int .i64)))).sz = 1 from rfl, Nat.mul_one] at hv114_0
 replace hv114_0 := zsi (hv114_0.symm.trans hx114_0)
 rw [hv114_0] at ge114_0
 have HL114_0 := zA (show Kd.R (Kd.slice 3 (Kd.int .i64)) 42 _ _ _ _ (zdj x6_2 x44_3) from ge114_0)
 clear hv114_0 ge114_0
 clear hcc114 hce114
 have HR114_0 := zA hi114_0
 have HC114_0 := zA hl114_0
 clear hi114_0 hl114_0
 replace p114 := eq_true p114
 replace q114 := eq_true q114
 have p115 : 0 ≤ ((ji33) : Int) := zde zq9
 have q115 : (ji33) < ((zdj x6_2 x44_3).length : Int) := zde zq9
 obtain ⟨ad115, A115_0, c115_0, e115, hx115_0, hl115_0, hi115_0⟩ := zio (zq7 HR114_0) (ji33) p115 q115
 cases e115
 obtain ⟨ce115, hce115, hMe115, hcc115⟩ := Kd.R_get HL114_0.out [] (ji33) p115 (by first | exact q115 | exact zde zq9 | (have e_ := (zRr HL114_0.out).1; omega))
 obtain ⟨ve115_0, rfl, ge115_0⟩ := hMe115
 have hv115_0 := hcc115 0 _ rfl
 rw [Nat.add_zero, show ((Kd.slice 3 (Kd.int .i64))).sz = 1 from rfl, Nat.mul_one] at hv115_0
 replace hv115_0 := zsi (hv115_0.symm.trans hx115_0)
 rw [hv115_0] at ge115_0
 have HL115_0 := zA (show Kd.R (Kd.int .i64) 3 _ _ _ _ (zaz (zdj x6_2 x44_3) (ji33)) from ge115_0)
 clear hv115_0 ge115_0
 clear hcc115 hce115
 have HR115_0 := zA hi115_0
 have HC115_0 := zA hl115_0
 clear hi115_0 hl115_0
 replace p115 := eq_true p115
 replace q115 := eq_true q115
 have p116 : 0 ≤ (a1 : Int) := zde zq9
 have q116 : a1 < ((zaz (zdj x6_2 x44_3) (ji33)).length : Int) := zde zq9
 obtain ⟨ad116, e116, hx116_0⟩ := Kd.at_int (zq7 HR115_0) a1 p116 q116
 cases e116
 replace p116 := eq_true p116
 replace q116 := eq_true q116
 have p117 : 0 ≤ (x11_4 : Int) := zde zq9
 have q117 : x11_4 < (x6_2.length : Int) := zde zq9
 obtain ⟨ad117, A117_0, c117_0, e117, hx117_0, hl117_0, hi117_0⟩ := zow (zRr HO_6.out).2.2 x11_4 p117 q117
 obtain rfl : ad114 = ad117 := (by injection e117)
 obtain ⟨ce117, hce117, hMe117, hcc117⟩ := Kd.R_get HO_6.out [] x11_4 p117 (by first | exact q117 | exact zde zq9 | (have e_ := (zRr HO_6.out).1; omega))
 obtain ⟨ve117_0, rfl, ge117_0⟩ := hMe117
 have hv117_0 := hcc117 0 _ rfl
 rw [Nat.add_zero, show ((Kd.slice 42 (Kd.slice 3 (Kd.int .i64)))).sz = 1 from rfl, Nat.mul_one] at hv117_0
 replace hv117_0 := zsi (hv117_0.symm.trans hx117_0)
 rw [hv117_0] at ge117_0
 have HL117_0 := zA (show Kd.R (Kd.slice 3 (Kd.int .i64)) 42 _ _ _ _ (zdj x6_2 x11_4) from ge117_0)
 clear hv117_0 ge117_0
 clear hcc117 hce117
 have HR117_0 := zA hi117_0
 have HC117_0 := zA hl117_0
 clear hi117_0 hl117_0
 replace p117 := eq_true p117
 replace q117 := eq_true q117
 have p118 : 0 ≤ ((ji33) : Int) := zde zq9
 have q118 : (ji33) < ((zdj x6_2 x11_4).length : Int) := zde zq9
 obtain ⟨ad118, A118_0, c118_0, e118, hx118_0, hl118_0, hi118_0⟩ := zio (zq7 HR117_0) (ji33) p118 q118
 cases e118
 obtain ⟨ce118, hce118, hMe118, hcc118⟩ := Kd.R_get HL117_0.out [] (ji33) p118 (by first | exact q118 | exact zde zq9 | (have e_ := (zRr HL117_0.out).1; omega))
 obtain ⟨ve118_0, rfl, ge118_0⟩ := hMe118
 have hv118_0 := hcc118 0 _ rfl
 rw [Nat.add_zero, show ((Kd.slice 3 (Kd.int .i64))).sz = 1 from rfl, Nat.mul_one] at hv118_0
 replace hv118_0 := zsi (hv118_0.symm.trans hx118_0)
 rw [hv118_0] at ge118_0
 have HL118_0 := zA (show Kd.R (Kd.int .i64) 3 _ _ _ _ (zaz (zdj x6_2 x11_4) (ji33)) from ge118_0)
 clear hv118_0 ge118_0
 clear hcc118 hce118
 have HR118_0 := zA hi118_0
 have HC118_0 := zA hl118_0
 clear hi118_0 hl118_0
 replace p118 := eq_true p118
 replace q118 := eq_true q118
 have p119 : 0 ≤ (a1 : Int) := zde zq9
 have q119 : a1 < ((zaz (zdj x6_2 x11_4) (ji33)).length : Int) := zde zq9
 obtain ⟨ad119, e119, hx119_0⟩ := Kd.at_int (zq7 HR118_0) a1 p119 q119
 cases e119
 replace p119 := eq_true p119
 replace q119 := eq_true q119
 refine zh1 (n := 25) (S := fun w' => w'.cell? (ad114.add (x44_3).toNat) = some (.slice (some ad115) (zdj x6_2 x44_3).length c114_0) ∧ w'.cell? (ad115.add ((ji33)).toNat) = some (.slice (some ad116) (zaz (zdj x6_2 x44_3) (ji33)).length c115_0) ∧ w'.cell? (ad116.add (a1).toNat) = some (.int .i64 (rd (zaz (zdj x6_2 x44_3) (ji33)) a1)) ∧ w'.cell? (ad114.add (x11_4).toNat) = some (.slice (some ad118) (zdj x6_2 x11_4).length c117_0) ∧ w'.cell? (ad118.add ((ji33)).toNat) = some (.slice (some ad119) (zaz (zdj x6_2 x11_4) (ji33)).length c118_0) ∧ w'.cell? (ad119.add (a1).toNat) = some (.int .i64 (rd (zaz (zdj x6_2 x11_4) (ji33)) a1))) (ds := []) #[false, false, false, false, false, false, false, false, false, false, false, false, false, false, false, false, false, false, false, false, false, false, false, false, false] zq15 rfl rfl ⟨hx114_0, hx115_0, hx116_0, hx117_0, hx118_0, hx119_0⟩ (fun hHeld => ?_); refine zec zha zgq (fun HT_ HW_ => ?_)
 generalize w42.drew = w43 at HO_6 HO_9 HO_55 HL111_0 HR111_0 HB HL114_0 HL115_0 HL117_0 HL118_0 HR114_0 HR115_0 HR117_0 HR118_0 hx114_0 hx115_0 hx116_0 hx117_0 hx118_0 hx119_0 hHeld ⊢
 refine zpu 0 69 HT_ ?_
 refine zpu 1 70 HT_ ?_
 refine zpu 2 71 HT_ ?_
 refine zpu 3 72 HT_ ?_
 refine zpu 4 73 HT_ ?_
 refine zpu 6 75 HT_ ?_
 refine zpu 9 78 HT_ ?_
 refine zpu 12 81 HT_ ?_
 refine zpu 13 82 HT_ ?_
 refine zpu 14 83 HT_ ?_
 refine zpu 16 85 HT_ ?_
 refine zpu 19 88 HT_ ?_
 refine ztu 5 74 HT_ HW_ hHeld ?_
 refine zpu 7 76 HT_ ?_
 refine ztu 8 77 HT_ HW_ hHeld ?_
 refine zpu 10 79 HT_ ?_
 refine ztu 11 80 HT_ HW_ hHeld ?_
 refine ztu 15 84 HT_ HW_ hHeld ?_
 refine zpu 17 86 HT_ ?_
 refine ztu 18 87 HT_ HW_ hHeld ?_
 refine zpu 20 89 HT_ ?_
 refine ztu 21 90 HT_ HW_ hHeld ?_
 refine zpu 22 91 HT_ ?_
 refine zpu 23 92 HT_ ?_
 refine zpu 24 12 HT_ ?_
 refine zkq (zfs HT_.out zq15) ?_
 try go_wp2
 go_roundg k5
 case measure => have := HJ2.out; have := HK2.out; have := HK3.out; have := HK4.out; have := HK5.out; omega
 case rel => exact ⟨(((rd (zaz (zdj x6_2 x44_3) (ji33)) a1) != (rd (zaz (zdj x6_2 x11_4) (ji33)) a1))), (wrap64 (x57_5 + 1)), (by first | rfl | (simp; done) | (simp only [← hji33] <;> (first | rfl | simp)) | (simp [*]; done)), zq2, H', ⟨by have := HJ2.out; have := HK2.out; have := HK3.out; have := HK4.out; have := HK5.out; omega⟩, ⟨zq5 HO_6⟩, ⟨zq8 HO_9⟩, ⟨zq8 HO_55⟩, ⟨zq1⟩⟩
def zch (k : Nat) (l0 : List (List S125)) (a1 : Int) : Option Bool :=
 (zcm k l0 1048576).bind fun t => if t < 0 then some true else
 (zc1 k l0).bind fun c => (zdi k c a1).bind fun s => (zdu k c a1).bind fun g =>
 (zdp k g.1 s.1).bind fun e1 => (zcy k c c).bind fun e2 => (zcf k c 1).bind fun m => (zc0 k g.1 1).bind fun m2 => (zcz k m2.2 1).bind fun q =>
 if e1 = true ∧ g.2 = s.2 ∧ e2 = true ∧ 0 ≤ m.1 ∧ q = m2.1 ∧ 0 ≤ q then some true else none
theorem zhf (k : Nat) (A0 : Option Addr) (c0 : Nat) (l0 : List (List S125)) (a1 : Int) (r : Bool) (w : World) (hr0 : Kd.C (Kd.slice 125 k125) w A0 l0.length l0) (hc0 : l0.length ≤ c0) (h : zch k l0 a1 = some r) :
   Calls Try.prog 3 #[.slice A0 l0.length c0, .int .i64 a1] w fun e w' => e = .returned (.bool r) ∧ Below w.heap.size w w' := by
 have HR := zA hr0
 have HC := zA hc0
 clear hr0 hc0
 unfold zch at h
 obtain ⟨t, ht, h⟩ := Option.bind_eq_some_iff.1 h
 have Ht := zA ht
 clear ht
 by_cases hneg : t < 0
 · rw [if_pos hneg] at h
   obtain rfl := zsi h
   clear h
   have hd : decide (t < 0) = true := zdt hneg
   go_enter Try.func3, Try.ntmps3
   go_wp2_with fail
   (with_reducible refine (zgk k _ _ l0 1048576 t _ HR.out HC.out Ht.out).mono ?_)
   rintro e w1 ⟨rfl, hb⟩
   have HB := zA hb
   clear hb
   go_wp2_with fail
   go_ret
   exact ⟨rfl, HB.out⟩
 rw [if_neg hneg] at h
 have hd : decide (t < 0) = false := zdf hneg
 obtain ⟨c, hc, h⟩ := Option.bind_eq_some_iff.1 h
 obtain ⟨⟨s1, s2⟩, hs, h⟩ := Option.bind_eq_some_iff.1 h
 obtain ⟨⟨g1, g2⟩, hg, h⟩ := Option.bind_eq_some_iff.1 h
 obtain ⟨e1, he1, h⟩ := Option.bind_eq_some_iff.1 h
 obtain ⟨e2, he2, h⟩ := Option.bind_eq_some_iff.1 h
 obtain ⟨⟨m, mc⟩, hm, h⟩ := Option.bind_eq_some_iff.1 h
 obtain ⟨⟨q, qc⟩, hq, h⟩ := Option.bind_eq_some_iff.1 h
 obtain ⟨q2, hq2, h⟩ := Option.bind_eq_some_iff.1 h
 by_cases hall : e1 = true ∧ g2 = s2 ∧ e2 = true ∧ 0 ≤ m ∧ q2 = q ∧ 0 ≤ q2
 rotate_left
 · rw [if_neg hall] at h
   cases h
 rw [if_pos hall] at h
 obtain rfl := zsi h
 obtain ⟨rfl, rfl, rfl, hm0, rfl, hq0⟩ := hall
 clear h
 have dm : decide (m < 0) = false := zdf (by omega)
 have dq : decide (q2 < 0) = false := zdf (by omega)
 have H1 := zA hc
 have H2 := zA hs
 have H3 := zA hg
 have H4 := zA he1
 have H5 := zA he2
 have H6 := zA hm
 have H7 := zA hq
 have H8 := zA hq2
 clear hc hs hg he1 he2 hm hq hq2 hneg
 go_enter Try.func3, Try.ntmps3
 go_wp2_with fail
 (with_reducible refine (zgk k _ _ l0 1048576 t _ HR.out HC.out Ht.out).mono ?_)
 rintro e w1 ⟨rfl, hb⟩
 have HB := zA hb
 clear hb
 go_wp2_with fail
 (with_reducible refine (zea k _ _ l0 c _ (zCb HR.out HB.out) HC.out H1.out).mono ?_)
 rintro e w2 ⟨v, rfl, ho, hb⟩
 obtain ⟨A1, c1, rfl, hl1, hC1⟩ := Kd.S_reads ho
 have n := zA (zad HB.out hb)
 clear HB hb ho
 have HB := n
 clear n
 have HC1 := zA hC1
 have HL1 := zA hl1
 clear hC1 hl1
 go_wp2_with fail
 (with_reducible refine (zjk k _ _ c a1 s1 g2 _ HC1.out HL1.out H2.out).mono ?_)
 rintro e wA ⟨v, rfl, ho, hb⟩
 obtain ⟨A2, c2, rfl, hl2, hC2⟩ := Kd.S_reads ho
 have n := zA (zad HB.out hb)
 clear HB hb ho HC1 HL1
 have HB := n
 clear n
 have HBA := zA HB.out
 have HC2 := zA hC2
 have HL2 := zA hl2
 clear hC2 hl2
 go_wp2_with fail
 (with_reducible refine (zea k _ _ l0 c _ (zCb HR.out HB.out) HC.out H1.out).mono ?_)
 rintro e w4 ⟨v, rfl, ho, hb⟩
 obtain ⟨A3, c3, rfl⟩ := Kd.S_slice ho
 have HA := zA hb
 have n := zA (zad HB.out hb)
 have HX := zA ho
 clear HB hb ho
 have HB := n
 clear n
 go_wp2_with fail
 (with_reducible refine (zg0 k _ _ c a1 g1 g2 _ (zSr HX.out).2.2 (zSr HX.out).2.1 H3.out).mono ?_)
 rintro e w5 ⟨v, rfl, ho, hb⟩
 obtain ⟨A4, c4, rfl⟩ := Kd.S_slice ho
 have HX4 := zA (show _ ≤ w4.heap.size ∧ w4.heap.size ≤ w5.heap.size from ⟨HA.out.size, hb.size⟩)
 have n1 := zA (Kd.S_bound ho)
 have n2 := zA (Kd.S_below (Kd.S_bound HX.out) hb)
 have n3 := zA (zad HB.out hb)
 have n4 := zA (zad HA.out hb)
 clear HB HA HX hb ho
 have HG := n1
 have HX := n2
 have HB := n3
 have HA := n4
 clear n1 n2 n3 n4
 go_wp2_with fail
 (with_reducible refine (zfc k _ _ g1 _ _ s1 true _ (zSr HG.out).2.2 (zSr HG.out).2.1 (zCb HC2.out HA.out) HL2.out H4.out).mono ?_)
 rintro e w6 ⟨rfl, ⟨nd, rfl⟩⟩
 go_wp2_with fail
 (with_reducible refine (zea k _ _ l0 c _ (zCb HR.out (zbn HB.out _)) HC.out H1.out).mono ?_)
 rintro e w7 ⟨v, rfl, ho, hb⟩
 obtain ⟨A5, c5, rfl, hl5, hC5⟩ := Kd.S_reads ho
 have n1 := zA (Kd.S_below (zSn HG.out nd) hb)
 have n2 := zA (Kd.S_below (zSn HX.out nd) hb)
 have n3 := zA (zad (zbn HB.out nd) hb)
 have n4 := zA (zad (zbn HA.out nd) hb)
 have HC5 := zA hC5
 have HL5 := zA hl5
 clear HB HA HX HG hb ho hC5 hl5
 have HG := n1
 have HX := n2
 have HB := n3
 have HA := n4
 clear n1 n2 n3 n4
 go_wp2_with fail
 (with_reducible refine (zi6 k _ _ c _ _ c true _ (zSr HX.out).2.2 (zSr HX.out).2.1 HC5.out HL5.out H5.out).mono ?_)
 rintro e w8 ⟨rfl, hb⟩
 have n1 := zA (Kd.S_below HG.out hb)
 have n2 := zA (Kd.S_below HX.out hb)
 have n3 := zA (zad HB.out hb)
 have n4 := zA (zad HA.out hb)
 clear HB HA HX HG hb HC5 HL5
 have HG := n1
 have HX := n2
 have HB := n3
 have HA := n4
 clear n1 n2 n3 n4
 go_wp2_with fail
 (with_reducible refine (zil k (fun k_ => k_ < w4.heap.size) _ c 1 m mc wA _ HA.out ?side1 H6.out).mono ?_)
 case side1 => exact Kd.S_mono (Kd.S_lower HX.out (zlr _)) (fun k_ hk => hk.2.2.1)
 rintro e w9 ⟨rfl, _, hA9, hk9⟩
 have n1 := zA (Kd.S_kept HG.out hk9 (fun k_ hk h_ => by have := hk.2.1; omega))
 have n3 := zA (zkx HBA.out HBA.out.size hA9)
 clear HB HA HG HX
 have HG := n1
 have HB := n3
 have HA := zA hA9
 clear n1 n3 hA9 hk9
 go_wp2_with fail
 (with_reducible refine (zfc k _ _ g1 _ _ s1 true _ (zSr HG.out).2.2 (zSr HG.out).2.1 (zCb HC2.out HA.out) HL2.out H4.out).mono ?_)
 rintro e w10 ⟨rfl, ⟨nd2, rfl⟩⟩
 go_wp2_with fail
 (with_reducible refine (zi8 k (fun _ => True) _ g1 1 q2 qc wA _ (zbn HA.out _) ?side3 H7.out).mono ?_)
 case side3 => exact Kd.S_mono (Kd.S_lower (zSn HG.out nd2) HX4.out.1) (fun _ _ => trivial)
 rintro e w11 ⟨rfl, hG, hA9, hk9⟩
 have n3 := zA (zkx HBA.out HBA.out.size hA9)
 clear HB HA HG
 have HG := zA hG
 have HE := zA (zSr hG).1
 have HE2 := zA (show qc.length ≤ c4 from (zSr hG).1 ▸ (zSr hG).2.1)
 have HB := n3
 have HA := zA hA9
 clear n3 hA9 hk9 hG
 go_wp2_with fail
 refine zj0 (args' := #[.slice A4 qc.length c4, .int .i64 1]) (by rw [HE.out]) ?_
 (with_reducible refine (zgg k _ _ qc 1 q2 _ (zSr HG.out).2.2 HE2.out H8.out).mono ?_)
 rintro e w12 ⟨rfl, ⟨nd3, rfl⟩⟩
 go_wp2_with fail
 (with_reducible refine (zea k _ _ l0 c _ (zCb HR.out (zbn HB.out _)) HC.out H1.out).mono ?_)
 rintro e w13 ⟨v, rfl, ho, hb⟩
 obtain ⟨A6, c6, rfl, hl6, hC6⟩ := Kd.S_reads ho
 have n1 := zA (Kd.S_below (zSn HG.out nd3) hb)
 have n3 := zA (zad (zbn HB.out nd3) hb)
 have n4 := zA (zad (zbn HA.out nd3) hb)
 have HC6 := zA hC6
 have HL6 := zA hl6
 clear HB HA HG hb ho hC6 hl6
 have HG := n1
 have HB := n3
 have HA := n4
 clear n1 n3 n4
 go_wp2_with fail
 (with_reducible refine (zg0 k _ _ c a1 g1 g2 _ HC6.out HL6.out H3.out).mono ?_)
 rintro e w14 ⟨v, rfl, ho, hb⟩
 obtain ⟨A7, c7, rfl, hl7, hC7⟩ := Kd.S_reads ho
 have n1 := zA (Kd.S_below HG.out hb)
 have n3 := zA (zad HB.out hb)
 have n4 := zA (zad HA.out hb)
 have HC7 := zA hC7
 have HL7 := zA hl7
 clear HB HA HG hb ho hC7 hl7 HC6 HL6
 have HG := n1
 have HB := n3
 have HA := n4
 clear n1 n3 n4
 go_wp2_with fail
 (with_reducible refine (zfc k _ _ g1 _ _ s1 true _ HC7.out HL7.out (zCb HC2.out HA.out) HL2.out H4.out).mono ?_)
 rintro e w15 ⟨rfl, ⟨nd4, rfl⟩⟩
 go_wp2_with fail
 refine zj0 (args' := #[.slice A4 qc.length c4, .int .i64 1]) (by rw [HE.out]) ?_
 (with_reducible refine (zgg k _ _ qc 1 q2 _ (zCn (zSr HG.out).2.2 _) HE2.out H8.out).mono ?_)
 rintro e w16 ⟨rfl, ⟨nd5, rfl⟩⟩
 go_wp2_with fail
 go_ret
 exact ⟨rfl, zbn HB.out _⟩
end Go.Proofs.Ytppljcmkilmgmaa.Q
end
section
namespace Go.Proofs.Ytppljcmkilmgmaa.Rd
open Go Go.RowKit Go.Proofs.YtppljcmkilmgmaaW.PrintWords Go.Proofs.YtppljcmkilmgmaaW.PrintLast Go.ChangeShapes Go.WideShapes Go.Deep
set_option linter.unusedSimpArgs false
set_option linter.unusedVariables false
structure RdK {α : Type} (d : Kd α) (P : Program) (t : TypeId) (Good : α → Prop) : Prop where
  size : P.cellsOf t = d.sz
  get : ∀ {H : Type} {enc : TypeId × Value → H} {w : World} {n : Nat} {cs : List Value} {x : DataW H × List MemPlace}, DataW.trod enc P w 0 (fun _ => true) true n t cs = some x → ∃ a, d.K w a cs ∧ Good a
def okInt (k : IntKind) (n : Int) : Prop := (Lit.int k n).wf = true
def okStr (s : ByteArray) : Prop := s.size ≤ maxLen
def okSl {α : Type} (G : α → Prop) (xs : List α) : Prop := xs.length ≤ maxLen ∧ ∀ x ∈ xs, G x
theorem rk_int {P : Program} {t : TypeId} {k : IntKind} (ht : P.underlying t = some (.int k)) (hs : P.cellsOf t = 1) : RdK (Kd.int k) P t (okInt k) :=
  ⟨hs, fun h => by obtain ⟨n, rfl, _, hw⟩ := DataW.trod_int ht h; exact ⟨n, rfl, hw⟩⟩
theorem rk_string {P : Program} {t : TypeId} (ht : P.underlying t = some .string) (hs : P.cellsOf t = 1) : RdK Kd.string P t okStr :=
  ⟨hs, fun h => by obtain ⟨n, rfl, _, hw⟩ := DataW.trod_string ht h; exact ⟨n, rfl, hw⟩⟩
theorem rk_slice {α : Type} {d : Kd α} {P : Program} {t e : TypeId} {G : α → Prop} (hd : RdK d P e G) (ht : P.underlying t = some (.slice e)) (hs : P.cellsOf t = 1) : RdK (Kd.slice e d) P t (okSl G) := by
  refine ⟨hs, fun {H enc w n cs x} h => ?_⟩
  rcases open_slice ht h with ⟨rfl, _⟩ | ⟨a, len, cap, m, n', D, Pl, rfl, _, hl, hm, hmm, _, hx⟩
  · exact ⟨[], ⟨none, 0, rfl, Nat.le_refl _, rfl, Nat.zero_le _, fun h => absurd h (Nat.lt_irrefl 0)⟩, Nat.zero_le _, fun _ h => by cases h⟩
  · have hc : m = cap := by simpa using hmm
    subst hc
    have key : ∀ i : Fin len, ∃ a' : α, ∃ cs', d.K w a' cs' ∧ G a' ∧ w.cells? 0 (a.add (i * P.cellsOf e)) (P.cellsOf e) = some cs' := fun i => by
      obtain ⟨cs', h1, h2⟩ := hx i (by omega)
      obtain ⟨a', h3, h4⟩ := hd.get h2
      exact ⟨a', cs', h3, h4, h1⟩
    have hlen : (List.ofFn fun i => Classical.choose (key i)).length = len := List.length_ofFn
    refine ⟨List.ofFn fun i => Classical.choose (key i), ⟨some a, m, by rw [hlen], by omega, hlen.trans hlen.symm, ?_, fun _ => ⟨a, rfl, fun j p hj => ?_⟩⟩, by rw [hlen]; omega, fun y hy => ?_⟩
    · rw [hlen]; unfold maxLen at hm; omega
    · have hjl : j < len := by
        have := (List.getElem?_eq_some_iff.1 hj).1
        rwa [hlen] at this
      rw [List.getElem?_ofFn, dif_pos hjl, Option.some.injEq] at hj
      obtain ⟨cs', h1, h2, h3⟩ := Classical.choose_spec (key ⟨j, hjl⟩)
      rw [hj] at h1 h2
      obtain ⟨_, h5, h6⟩ := World.cells?_some h3
      refine ⟨cs', d.K_len h1, h1, fun i u hi => ?_⟩
      have hil : i < P.cellsOf e := by
        have := (List.getElem?_eq_some_iff.1 hi).1
        omega
      have := h6 i hil
      rw [Go.Deep.add_add] at this
      rw [← hd.size]
      exact this.trans hi
    · obtain ⟨i, rfl⟩ := List.mem_ofFn.1 hy
      obtain ⟨cs', h1, h2, h3⟩ := Classical.choose_spec (key i)
      exact h2
structure RdF {α : Type} (d : Kd α) (P : Program) (fs : List Field) (off : Nat) (Good : α → Prop) : Prop where
  get : ∀ {H : Type} {enc : TypeId × Value → H} {w : World} {n : Nat} {cs : List Value}, cs.length = off + d.sz →
    (∀ f ∈ fs, ∃ y, DataW.trod enc P w 0 (fun _ => true) true n f.type ((cs.drop f.offset).take (P.cellsOf f.type)) = some y) → ∃ a, d.K w a (cs.drop off) ∧ Good a
theorem rf_one {α : Type} {d : Kd α} {P : Program} {f : Field} {G : α → Prop} (hd : RdK d P f.type G) : RdF d P [f] f.offset G := by
  refine ⟨fun {H enc w n cs} hl h => ?_⟩
  obtain ⟨y, hy⟩ := h f (List.mem_singleton.2 rfl)
  rw [hd.size, List.take_of_length_le (by rw [List.length_drop]; omega)] at hy
  exact hd.get hy
theorem rf_cons {α β : Type} {d : Kd α} {d' : Kd β} {P : Program} {f : Field} {fs : List Field} {G : α → Prop} {G' : β → Prop} {off' : Nat} (hd : RdK d P f.type G) (ho : off' = f.offset + d.sz) (hf : RdF d' P fs off' G') :
    RdF (Kd.pair d d') P (f :: fs) f.offset (fun x => G x.1 ∧ G' x.2) := by
  refine ⟨fun {H enc w n cs} hl h => ?_⟩
  have hl' : cs.length = f.offset + (d.sz + d'.sz) := hl
  obtain ⟨y, hy⟩ := h f List.mem_cons_self
  rw [hd.size] at hy
  obtain ⟨a, h1, h2⟩ := hd.get hy
  obtain ⟨b, h3, h4⟩ := hf.get (cs := cs) (by omega) (fun g hg => h g (List.mem_cons_of_mem _ hg))
  refine ⟨(a, b), ⟨_, _, ?_, h1, h3⟩, h2, h4⟩
  rw [ho, ← List.drop_drop, List.take_append_drop]
theorem rk_struct {α : Type} {d : Kd α} {P : Program} {t : TypeId} {fs : Array Field} {G : α → Prop} (ht : P.underlying t = some (.struct fs)) (hs : P.cellsOf t = d.sz) (hf : RdF d P fs.toList 0 G) : RdK d P t G := by
  refine ⟨hs, fun {H enc w n cs x} h => ?_⟩
  obtain ⟨xs, n', _, _, hl, hlen, hg⟩ := DataW.trod_struct ht h
  have := hf.get (cs := cs) (enc := enc) (w := w) (n := n') (by omega) (fun f hf' => by
    obtain ⟨i, hi, he⟩ := List.getElem_of_mem hf'
    have h1 : fs[i]? = some f := by rw [← Array.getElem?_toList, List.getElem?_eq_getElem hi, he]
    have h2 := hg i f h1
    rw [List.getElem?_eq_getElem (by rw [hlen]; simpa using hi)] at h2
    exact ⟨_, h2⟩)
  simpa using this
theorem rk_iso {α β : Type} {d : Kd α} {P : Program} {t : TypeId} {G : α → Prop} (hd : RdK d P t G) (f : β → α) (g : α → β) (hfg : ∀ a, f (g a) = a) : RdK (Kd.iso d f) P t (fun b => G (f b)) := by
  refine ⟨hd.size, fun {H enc w n cs x} h => ?_⟩
  obtain ⟨a, h1, h2⟩ := hd.get h
  exact ⟨g a, by show d.K w (f (g a)) cs; rw [hfg]; exact h1, by rw [hfg]; exact h2⟩
theorem arg_slice {α : Type} {d : Kd α} {P : Program} {t e : TypeId} {G : α → Prop} (hd : RdK (Kd.slice e d) P t (okSl G)) {H : Type} {enc : TypeId × Value → H} {w : World} {a : Option Addr} {len cap : Nat} {x : DataW H} {ps : List MemPlace}
    (h : DataW.Trod enc P w 0 (fun _ => true) true t (.slice a len cap) x ps) : ∃ xs : List α, len = xs.length ∧ xs.length ≤ cap ∧ Kd.C d w a xs.length xs ∧ okSl G xs := by
  obtain ⟨n, hn⟩ := h
  obtain ⟨xs, ⟨A, c, he, hl, hc⟩, hg⟩ := hd.get hn
  simp [Value.cells] at he
  obtain ⟨rfl, rfl, rfl⟩ := he
  exact ⟨xs, rfl, hl, hc, hg⟩
end Go.Proofs.Ytppljcmkilmgmaa.Rd
end
section
namespace Go.Proofs.Ytppljcmkilmgmaa.Q
open Go.RowKit Go.Proofs.YtppljcmkilmgmaaW.PrintWords Go.Proofs.YtppljcmkilmgmaaW.PrintLast Go.Proofs.YtppljcmkilmgmaaW.PrintMore
attribute [local go_sem] zgu zgv zh8 zh9 zff zfg zgw zgx
set_option linter.unusedVariables false
set_option linter.unusedSimpArgs false
def zmn (x : S125) : Prop := Rd.okStr x.f0 ∧ (Rd.okInt .i64) x.f1 ∧ (Rd.okInt .i64) x.f2 ∧ (Rd.okInt .i64) x.f3 ∧ (Rd.okInt .i64) x.f4
theorem rd125 : Rd.RdK k125 Try.prog 125 zmn :=
  Rd.rk_iso (Rd.rk_struct Try.underlying125 (by kernel_rfl) (Rd.rf_cons (Rd.rk_string Try.underlying9 (by kernel_rfl)) rfl (Rd.rf_cons (Rd.rk_int Try.underlying3 (by kernel_rfl)) rfl (Rd.rf_cons (Rd.rk_int Try.underlying3 (by kernel_rfl)) rfl (Rd.rf_cons (Rd.rk_int Try.underlying3 (by kernel_rfl)) rfl (Rd.rf_one (Rd.rk_int Try.underlying3 (by kernel_rfl)))))))) (fun x : S125 => (x.f0, x.f1, x.f2, x.f3, x.f4)) (fun p => ⟨p.1, p.2.1, p.2.2.1, p.2.2.2.1, p.2.2.2.2⟩) (fun _ => rfl)
def laws_FnExactTestsFor.Pure : Prop := ∀ (a0 : List (List (S125))) (a1 : Int), (Rd.okSl (Rd.okSl zmn)) a0 → (Rd.okInt .i64) a1 → ∃ k, zch k a0 a1 = some true
end Go.Proofs.Ytppljcmkilmgmaa.Q
end
section
namespace Go.Proofs.Ytppljcmkilmgmaa.PL
open Go Go.RowKit Go.Proofs.YtppljcmkilmgmaaW.PrintWords Go.Proofs.YtppljcmkilmgmaaW.PrintLast Go.Proofs.YtppljcmkilmgmaaW.PrintMore Go.Proofs.Ytppljcmkilmgmaa.Q
set_option linter.unusedSimpArgs false
set_option linter.unusedVariables false
theorem w64 {x : Int} (h1 : -9223372036854775808 ≤ x) (h2 : x < 9223372036854775808) : wrap64 x = x := by unfold wrap64; omega
theorem w64n (i : Nat) (h : i < 4611686018427387904) : wrap64 ((i : Int) + 1) = ((i + 1 : Nat) : Int) := by unfold wrap64; omega
theorem Ev.some {α : Type} {a r : α} (h : a = r) : Ev (fun _ => some a) r := h ▸ zce a
theorem zi4 {α : Type} {g : Option α} {r : α} (h : g = Option.some r) : Ev (fun _ => g) r := by rw [h]; exact zce r
theorem zmo {α : Type} {g : Nat → Option α} {r s : α} (h : Ev g r) (e : r = s) : Ev g s := e ▸ h
theorem zag {α : Type} {c : Prop} [Decidable c] {g g' : Nat → Option α} {r : α} (h : c) (H : Ev g r) : Ev (fun k => if c then g k else g' k) r := zk8 (fun _ => if_pos h) H
theorem zc3 {α : Type} {c : Prop} [Decidable c] {g g' : Nat → Option α} {r : α} (h : ¬ c) (H : Ev g' r) : Ev (fun k => if c then g k else g' k) r := zk8 (fun _ => if_neg h) H
theorem Ev.call {α β : Type} {g : Option α} {f : Nat → α → Option β} {a : α} {r : β} (h : g = Option.some a) (k : Ev (fun n => f n a) r) : Ev (fun n => g.bind (f n)) r := by
  rw [h]; exact k
theorem zpc {σ ρ : Type} (n : Nat) (L : Nat → σ → Int → Option ρ) (M : Nat → σ → ρ) (hend : ∀ s, Ev (fun k => L k s n) (M n s))
    (hstep : ∀ (i : Nat) s, i < n → (∀ s', Ev (fun k => L k s' ((i + 1 : Nat) : Int)) (M (i + 1) s')) → Ev (fun k => L k s i) (M i s)) :
    ∀ (d i : Nat) s, i + d = n → Ev (fun k => L k s i) (M i s)
  | 0, i, s, h => by
    have e : i = n := by omega
    rw [e]
    exact hend s
  | d + 1, i, s, h => hstep i s (by omega) (fun s' => zpc n L M hend hstep d (i + 1) s' (by omega))
theorem zjw {α σ ρ : Type} (xs : List α) (L : Nat → σ → Int → Option ρ) (m : List α → σ → ρ) (hend : ∀ s, Ev (fun k => L k s (xs.length : Nat)) (m [] s))
    (hstep : ∀ (i : Nat) s x rest, i < xs.length → (∀ d, xs.getD i d = x) → (∀ s', Ev (fun k => L k s' ((i + 1 : Nat) : Int)) (m rest s')) → Ev (fun k => L k s i) (m (x :: rest) s)) (s : σ) :
    Ev (fun k => L k s 0) (m xs s) := by
  have := zpc xs.length L (fun i s => m (xs.drop i) s) (fun s => by simpa using hend s) (fun i s hi ih => by
    have e : xs.drop i = xs[i] :: xs.drop (i + 1) := List.drop_eq_getElem_cons hi
    show Ev (fun k => L k s i) (m (xs.drop i) s)
    rw [e]
    exact hstep i s xs[i] _ hi (fun d => by simp [List.getD, List.getElem?_eq_getElem hi]) ih) xs.length 0 s (by omega)
  simpa using this
def idx {α : Type} (p : α → Bool) : List α → Int
  | [] => -1
  | x :: xs => if p x = true then 0 else if idx p xs < 0 then -1 else idx p xs + 1
theorem zl1 {α : Type} (p : α → Bool) (xs : List α) : 0 ≤ idx p xs ↔ ∃ x ∈ xs, p x = true := by
  induction xs with
  | nil => simp [idx]
  | cons x xs ih =>
    unfold idx
    by_cases h : p x = true
    · simp [h]
    · by_cases h2 : idx p xs < 0
      · rw [if_neg h, if_pos h2]
        have : ¬ ∃ x ∈ xs, p x = true := fun e => by have := ih.2 e; omega
        simp [h]
        simpa using this
      · rw [if_neg h, if_neg h2]
        have := ih.1 (by omega)
        simp [h]
        exact ⟨fun _ => this, fun _ => by omega⟩
theorem zs7 {α : Type} (p : α → Bool) (xs : List α) : -1 ≤ idx p xs := by
  induction xs with
  | nil => unfold idx; simp
  | cons x xs ih => unfold idx; split; · decide
                    · split <;> omega
theorem znl {α : Type} (xs : List α) (p : α → Bool) (L : Nat → Int → Option Int) (hend : Ev (fun k => L k (xs.length : Nat)) (-1))
    (hyes : ∀ (i : Nat) x, i < xs.length → (∀ d, xs.getD i d = x) → p x = true → Ev (fun k => L k i) (i : Int))
    (hno : ∀ (i : Nat) x r, i < xs.length → (∀ d, xs.getD i d = x) → p x = false → Ev (fun k => L k ((i + 1 : Nat) : Int)) r → Ev (fun k => L k i) r) : Ev (fun k => L k 0) (idx p xs) := by
  have key : ∀ (d i : Nat), i + d = xs.length → Ev (fun k => L k i) (if idx p (xs.drop i) < 0 then -1 else idx p (xs.drop i) + i) := by
    intro d
    induction d with
    | zero =>
      intro i hi
      rw [List.drop_of_length_le (by omega), if_pos (show idx p [] < 0 by unfold idx; decide)]
      have e : i = xs.length := by omega
      rw [e]; exact hend
    | succ d ih =>
      intro i hi
      have hlt : i < xs.length := by omega
      have e : xs.drop i = xs[i] :: xs.drop (i + 1) := List.drop_eq_getElem_cons hlt
      have hg : ∀ d, xs.getD i d = xs[i] := fun d => by simp [List.getD, List.getElem?_eq_getElem hlt]
      rw [e]
      unfold idx
      by_cases h : p xs[i] = true
      · rw [if_pos h, if_neg (by decide)]
        simpa using hyes i _ hlt hg h
      · refine hno i _ _ hlt hg (by simpa using h) (zmo (ih (i + 1) (by omega)) ?_)
        rw [if_neg h]
        by_cases h2 : idx p (xs.drop (i + 1)) < 0
        · rw [if_pos h2, if_pos h2, if_pos (by decide)]
        · rw [if_neg h2, if_neg h2, if_neg (by omega)]
          omega
  have := key xs.length 0 (by omega)
  simp only [List.drop_zero, Int.natCast_zero, Int.add_zero] at this
  refine zmo this ?_
  have := zs7 p xs
  split <;> omega
theorem zs8 {α : Type} (xs : List α) (p : α → Bool) (L : Nat → Int → Option Bool) (hend : Ev (fun k => L k (xs.length : Nat)) true)
    (hno : ∀ (i : Nat) x, i < xs.length → (∀ d, xs.getD i d = x) → p x = false → Ev (fun k => L k i) false)
    (hyes : ∀ (i : Nat) x r, i < xs.length → (∀ d, xs.getD i d = x) → p x = true → Ev (fun k => L k ((i + 1 : Nat) : Int)) r → Ev (fun k => L k i) r) : Ev (fun k => L k 0) (xs.all p) := by
  refine zjw (σ := Unit) xs (fun k _ i => L k i) (fun l _ => l.all p) (fun _ => hend) (fun i _ x rest hi hx ih => ?_) ()
  by_cases h : p x = true
  · exact hyes i x _ hi hx h (zmo (ih ()) (by simp [h]))
  · have h' : p x = false := by simpa using h
    exact zmo (hno i x hi hx h') (by simp [h'])
theorem zs9 {xs : List Int} {i : Nat} {x : Int} (h : ∀ d, xs.getD i d = x) : rd xs i = x := by unfold rd; rw [Int.toNat_natCast]; exact h 0
theorem zl2 {xs : List S60} {i : Nat} {x : S60} (h : ∀ d, xs.getD i d = x) : zaa xs i = x := by unfold zaa; rw [Int.toNat_natCast]; exact h _
theorem zrh {xs : List S125} {i : Nat} {x : S125} (h : ∀ d, xs.getD i d = x) : zci xs i = x := by unfold zci; rw [Int.toNat_natCast]; exact h _
theorem zfe {α : Type} (xs : List α) (i : Nat) (h : i < xs.length) : ∀ d, xs.getD i d = xs[i] := fun d => by simp [List.getD, List.getElem?_eq_getElem h]
theorem zoq {α : Type} (xs ys : List α) (z : α) (v : α) : (xs ++ List.replicate (ys.length + 1) z).set xs.length v = (xs ++ [v]) ++ List.replicate ys.length z := by
  rw [List.set_append_right _ _ (Nat.le_refl _)]
  simp [List.replicate_succ]
abbrev Instr := S60
abbrev ziy := S125
def cvI (x : ziy) : Instr := ⟨x.f0, x.f1, x.f2, x.f3, x.f4⟩
theorem zl3 (s : ByteArray) (a b c d r : Int) (hs : s.size ≤ maxLen) (h0 : 0 ≤ r) (h1 : r ≤ 1048576) : ze3 s a b c d r = some (if r < s.size then -1 else r - s.size) := by
  unfold maxLen at hs
  unfold ze3
  rw [w64 (by omega) (by omega)]
  by_cases h : r < s.size
  · rw [if_pos (by omega), if_pos h]
  · rw [if_neg (by omega), if_neg h]
theorem zoc (l : List ziy) (hl : l.length ≤ 1048576) : Ev (fun k => zdh k l) (l.map cvI) := by
  have key : ∀ (d i : Nat), i + d = l.length → Ev (fun k => zbz k l ((l.take i).map cvI ++ List.replicate d z60) i) (l.map cvI) := by
    intro d
    induction d with
    | zero =>
      intro i hi
      refine Ev.step (f := fun _ => some _) (fun k => ?_) (zce _)
      simp only [zbz]
      rw [if_neg (by omega), List.take_of_length_le (by omega)]
      simp
    | succ d ih =>
      intro i hi
      have hlt : i < l.length := by omega
      have hx := zrh (zfe l i hlt)
      refine Ev.step (fun k => ?_) (ih (i + 1) (by omega))
      simp only [zbz, zfv, Option.bind_some]
      rw [if_pos (by omega), if_pos (by omega), if_pos (by simp; omega), hx, w64n i (by omega)]
      congr 1
      have e : ((i : Int)).toNat = ((l.take i).map cvI).length := by simp; omega
      rw [e]
      have := zoq ((l.take i).map cvI) (List.replicate d z60) z60 (cvI l[i])
      simp only [List.length_replicate] at this
      rw [show (⟨l[i].f0, l[i].f1, l[i].f2, l[i].f3, l[i].f4⟩ : Instr) = cvI l[i] from rfl, this]
      congr 1
      rw [List.take_succ_eq_append_getElem hlt, List.map_append]
      rfl
  unfold zdh
  refine zag (by omega) (zag (by simp; omega) ?_)
  simpa using key l.length 0 (by omega)
theorem zmp (l : List Instr) (hl : l.length ≤ 1048576) : Ev (fun k => zdc k l l) true := by
  unfold zdc
  simp only [if_true]
  refine zjw (σ := Unit) l (fun k _ i => zbu k l l i) (fun _ _ => true) (fun _ => ?_) (fun i _ x rest hi hx ih => ?_) ()
  · refine Ev.step (f := fun _ => some true) (fun k => ?_) (zce _)
    simp only [zbu]
    rw [if_neg (by omega)]
  · refine Ev.step (fun k => ?_) (ih ())
    simp only [zbu, zfu, reduceIte, Option.bind_some]
    rw [if_pos (by omega), if_pos (by omega), w64n i (by omega), if_pos (by omega)]
theorem zod (l : List Int) (hl : l.length ≤ 1048576) : Ev (fun k => zd1 k l l) true := by
  unfold zd1
  simp only [if_true]
  refine zjw (σ := Unit) l (fun k _ i => zcb k l l i) (fun _ _ => true) (fun _ => ?_) (fun i _ x rest hi hx ih => ?_) ()
  · refine Ev.step (f := fun _ => some true) (fun k => ?_) (zce _)
    simp only [zcb]
    rw [if_neg (by omega)]
  · refine Ev.step (fun k => ?_) (ih ())
    simp only [zcb, if_true]
    rw [if_pos (by omega), if_pos (by omega), w64n i (by omega), if_pos (by omega)]
def zjc (c : Nat) : Bool × Bool × Bool × Int × Int :=
  match c with
  | 0 => (true, false, false, 0, 63)
  | 1 => (true, true, false, 0, 0)
  | 2 => (true, true, true, 0, 0)
  | 3 => (true, true, true, 0, 0)
  | 4 => (true, true, true, 0, 0)
  | 5 => (true, true, false, 0, 63)
  | 6 => (true, true, false, 1, 5)
  | 7 => (true, true, true, 1, 3)
  | _ => (false, false, false, 0, 0)
theorem znn : ∀ p ∈ ops, zct 20 p.1 = some (zjc p.2) := by decide +kernel
theorem zqn (s : ByteArray) : Ev (fun k => zct k s) (zjc (cls s)) := by
  refine zmi (P := fun s => Ev (fun k => zct k s) (zjc (cls s))) s (fun p hp => ?_) (fun h => ?_)
  · rw [zrf p hp]
    exact zts (zfr _) (znn p hp)
  · rw [zmj h]
    obtain ⟨h0, h1, h2, h3, h4, h5, h6, h7, h8, h9, h10, h11, h12, h13, h14, h15, h16, h17, h18, h19⟩ := zn3 h
    refine zts (zfr _) (k := 5) ?_
    simp only [zct, zb8, zay, zb9, zck, h0, h1, h2, h3, h4, h5, h6, h7, h8, h9, h10, h11, h12, h13, h14, h15, h16, h17, h18, h19, if_false, beq_iff_eq]
    rfl
theorem zmq (a b c : Int) : ze6 a b c = some (decide (b ≤ a ∧ a ≤ c)) := by
  unfold ze6
  by_cases h : a ≥ b
  · rw [if_pos h]; congr 1; rw [decide_eq_decide]; omega
  · rw [if_neg h]; congr 1; symm; rw [decide_eq_false_iff_not]; omega
theorem zqo (a : Int) : zd2 a = some (decide (0 ≤ a ∧ a ≤ 5)) := by
  unfold zd2
  rw [zmq]; rfl
def okI (x : Instr) : Prop := cls x.f0 ≠ 8 ∧ (0 ≤ x.f1 ∧ x.f1 ≤ 5) ∧ ((zjc (cls x.f0)).2.1 = true ∧ 0 ≤ x.f2 ∧ x.f2 ≤ 5 ∨ x.f2 = 0) ∧ ((zjc (cls x.f0)).2.2.1 = true ∧ 0 ≤ x.f3 ∧ x.f3 ≤ 5 ∨ x.f3 = 0) ∧ (zjc (cls x.f0)).2.2.2.1 ≤ x.f4 ∧ x.f4 ≤ (zjc (cls x.f0)).2.2.2.2
instance (x : Instr) : Decidable (okI x) := by unfold okI; infer_instance
theorem zta (s : ByteArray) : cls s ≤ 8 := by
  refine zmi (P := fun s => cls s ≤ 8) s (by decide +kernel) (fun h => by rw [zmj h]; exact Nat.le_refl _)
theorem zk9 (s : ByteArray) : cls s = 0 ∨ cls s = 1 ∨ cls s = 2 ∨ cls s = 3 ∨ cls s = 4 ∨ cls s = 5 ∨ cls s = 6 ∨ cls s = 7 ∨ cls s = 8 := by have := zta s; omega
theorem zl4 (x : Instr) : ze1 x.f0 x.f1 x.f2 x.f3 x.f4 = some (decide (okI x)) := by
  unfold ze1
  congr 1
  obtain ⟨s, d, a, b, m⟩ := x
  simp only [okI]
  rw [Bool.eq_iff_iff]
  simp only [okF, Bool.and_eq_true, Bool.or_eq_true, decide_eq_true_eq, Bool.not_eq_true', decide_eq_false_iff_not]
  rcases zk9 s with h | h | h | h | h | h | h | h | h <;> simp only [h, zij, zjc] <;> simp <;> omega
theorem zno (x : Instr) : Ev (fun k => zd4 k x.f0 x.f1 x.f2 x.f3 x.f4) (decide (okI x)) := by
  unfold zd4
  refine Ev.bind (zqn x.f0) (zi4 ?_)
  obtain ⟨s, d, a, b, m⟩ := x
  simp only [zmq, zqo, Option.bind_some, okI]
  rcases zk9 s with h | h | h | h | h | h | h | h | h <;> simp only [h, zjc] <;> by_cases h1 : 0 ≤ d ∧ d ≤ 5 <;> by_cases h2 : 0 ≤ a ∧ a ≤ 5 <;> by_cases h3 : 0 ≤ b ∧ b ≤ 5 <;> (try simp [h1, h2, h3]) <;> (repeat' split) <;> (try (rw [Bool.eq_iff_iff]; simp only [Bool.and_eq_true, decide_eq_true_eq, beq_iff_eq, true_iff, false_iff, Bool.false_eq_true, iff_false, iff_true])) <;> (try simp only [Option.some.injEq]) <;> (try (rw [Bool.eq_iff_iff]; simp only [Bool.and_eq_true, decide_eq_true_eq, beq_iff_eq, true_iff, false_iff, Bool.false_eq_true, iff_false, iff_true])) <;> (try omega)
def zjx (l : List Instr) : Bool := decide (l.length ≤ 40) && l.all (fun x => decide (okI x))
def zd9 (l : List Instr) : Bool := decide (l.length ≤ 20) && l.all (fun x => decide (okI x))
theorem zpd (l : List Instr) : Ev (fun k => zd0 k l) (zjx l) := by
  unfold zd0
  by_cases hl : l.length ≤ 40
  · refine zag (by omega) ?_
    have h : Ev (fun k => zaq k l) (idx (fun x => !decide (okI x)) l) := by
      unfold zaq
      refine znl l _ (fun k i => zah k l l.length i) ?_ (fun i x hi hx hp => ?_) (fun i x r hi hx hp hr => ?_)
      · refine Ev.step (f := fun _ => some (-1)) (fun k => ?_) (zce _)
        simp only [zah]
        rw [if_neg (by omega)]
      · refine Ev.step (f := fun _ => some (i : Int)) (fun k => ?_) (zce _)
        simp only [zah, zen, zl2 hx, zl4, Option.bind_some, hp]
        rw [if_pos (by omega), if_pos (by omega), if_pos (by omega), if_pos trivial]
      · refine Ev.step (fun k => ?_) hr
        simp only [zah, zen, zl2 hx, zl4, Option.bind_some, hp]
        rw [if_pos (by omega), if_pos (by omega), if_pos (by omega), if_neg (by simp), w64n i (by omega)]
    unfold zar
    refine Ev.bind (Ev.bind h (zce _)) (Ev.some ?_)
    have e := zl1 (fun x => !decide (okI x)) l
    unfold zjx
    rw [show decide (l.length ≤ 40) = true by simpa using hl, Bool.true_and]
    by_cases hc : 0 ≤ idx (fun x => !decide (okI x)) l
    · obtain ⟨x, hx, hx'⟩ := e.1 hc
      rw [decide_eq_true (show idx (fun x => !decide (okI x)) l ≥ 0 from hc)]
      symm
      simpa using ⟨x, hx, by simpa using hx'⟩
    · rw [decide_eq_false (show ¬ idx (fun x => !decide (okI x)) l ≥ 0 from hc)]
      symm
      have := fun h => hc (e.2 h)
      simpa using this
  · refine zc3 (by omega) (Ev.some ?_)
    unfold zjx
    rw [show decide (l.length ≤ 40) = false by simpa using hl]
    rfl
theorem zpe (l : List Instr) : Ev (fun k => zd7 k l) (zjx l) := by
  unfold zd7
  by_cases hl : l.length ≤ 40
  · refine zc3 (by omega) ?_
    unfold zjx
    rw [show decide (l.length ≤ 40) = true by simpa using hl, Bool.true_and]
    refine zs8 l _ (fun k i => zb6 k l l.length i) ?_ (fun i x hi hx hp => ?_) (fun i x r hi hx hp hr => ?_)
    · refine Ev.step (f := fun _ => some true) (fun k => ?_) (zce _)
      simp only [zb6]
      rw [if_neg (by omega)]
    · refine Ev.step (fun k => by simp only [zb6, zl2 hx]; rfl) ?_
      refine zag (by omega) (zag (by omega) (zag (by omega) ?_))
      exact Ev.bind (zno x) (zc3 (by simpa using hp) (zce _))
    · refine Ev.step (fun k => by simp only [zb6, zl2 hx, w64n i (show i < 4611686018427387904 by omega)]; rfl) ?_
      refine zag (by omega) (zag (by omega) (zag (by omega) ?_))
      exact Ev.bind (zno x) (zag (by simpa using hp) hr)
  · refine zag (by omega) (Ev.some ?_)
    unfold zjx
    rw [show decide (l.length ≤ 40) = false by simpa using hl]
    rfl
theorem zl5 (l : List Instr) : zd9 l = (zjx l && decide (l.length ≤ 20)) := by
  unfold zd9 zjx
  by_cases h : l.length ≤ 20
  · simp [h, show l.length ≤ 40 by omega]
  · simp [h]
theorem zi5 {l : List Instr} (h : zd9 l = true) : l.length ≤ 20 ∧ ∀ x ∈ l, okI x := by
  unfold zd9 at h
  simp only [Bool.and_eq_true, decide_eq_true_eq, List.all_eq_true] at h
  exact h
theorem zl6 (l : List Instr) : Ev (fun k => zdo k l) (zd9 l) := by
  unfold zdo
  refine Ev.bind (zpd l) ?_
  rw [zl5]
  cases h : zjx l
  · exact zc3 (by simp) (Ev.some rfl)
  · refine zag rfl (Ev.some ?_)
    rw [Bool.true_and, decide_eq_decide]
    omega
theorem zqp (n : Int) : bits .and .i64 n 63 = n % 64 := by
  have h63 : (BitVec.ofInt 64 63).toNat = 2 ^ 6 - 1 := by decide
  have key : (BitVec.ofInt 64 n &&& BitVec.ofInt 64 63).toNat = (n % ((2 ^ 64 : Nat) : Int)).toNat % 2 ^ 6 := by
    rw [BitVec.toNat_and, BitVec.toNat_ofInt, h63, Nat.and_two_pow_sub_one_eq_mod]
  show IntKind.i64.wrap ((BitVec.ofInt 64 n &&& BitVec.ofInt 64 63).toNat : Nat) = n % 64
  rw [key, IntKind.wrap_i64]
  omega
def okV (v : Int) : Prop := 0 ≤ v ∧ v ≤ 63
theorem zr0 (n : Int) : okV (bits .and .i64 n 63) := by
  rw [zqp]
  unfold okV
  omega
theorem ztb (b : Bool) : zhw b = some (if b = true then 1 else 0) := by
  cases b <;> rfl
theorem zmr (s : ByteArray) (a b : Int) : zeg s a b = za9 s a b := by
  unfold zeg za9
  simp only [ztb, Option.bind_some]
  repeat refine ite_congr rfl (fun _ => rfl) (fun _ => ?_)
  refine ite_congr rfl (fun _ => ?_) (fun _ => ite_congr rfl (fun _ => ?_) (fun _ => rfl))
  · by_cases h : a < b
    · rw [if_pos h, if_pos (by simpa using h)]
    · rw [if_neg h, if_neg (by simpa using h)]
  · by_cases h : a = b
    · rw [if_pos h, if_pos (by simpa using h)]
    · rw [if_neg h, if_neg (by simpa using h)]
theorem ztc {c : Prop} [Decidable c] {x y : Option Int} {P : Int → Prop} (hx : ∃ v, x = some v ∧ P v) (hy : ∃ v, y = some v ∧ P v) : ∃ v, (if c then x else y) = some v ∧ P v := by
  by_cases h : c
  · rw [if_pos h]; exact hx
  · rw [if_neg h]; exact hy
theorem zkp (s : ByteArray) (a b : Int) (hb : 0 ≤ b) : ∃ v, za9 s a b = some v ∧ okV v := by
  unfold za9
  rw [if_pos hb, if_pos hb]
  repeat' refine ztc ?_ ?_
  all_goals exact ⟨_, rfl, zr0 _⟩
def okS (s : List Int) : Prop := s.length = 6 ∧ ∀ v ∈ s, okV v
theorem zri {s : List Int} (h : okS s) {i : Int} (h0 : 0 ≤ i) (h1 : i ≤ 5) : okV (rd s i) := by
  have hi : i.toNat < s.length := by rw [h.1]; omega
  unfold rd
  rw [zfe s _ hi]
  exact h.2 _ (List.getElem_mem hi)
theorem zr1 {s : List Int} (h : okS s) (i : Nat) {v : Int} (hv : okV v) : okS (s.set i v) := by
  refine ⟨by rw [List.length_set]; exact h.1, fun u hu => ?_⟩
  rcases List.mem_or_eq_of_mem_set hu with hu | rfl
  · exact h.2 u hu
  · exact hv
theorem zk6 {x : Instr} (h : okI x) : 0 ≤ x.f1 ∧ x.f1 ≤ 5 ∧ 0 ≤ x.f2 ∧ x.f2 ≤ 5 ∧ 0 ≤ x.f3 ∧ x.f3 ≤ 5 ∧ 0 ≤ x.f4 ∧ x.f4 ≤ 63 := by
  obtain ⟨hc, h1, h2, h3, h4⟩ := h
  rcases zk9 x.f0 with e | e | e | e | e | e | e | e | e <;> simp only [e, zjc] at h2 h3 h4 <;> simp at h2 h3 h4 <;> first | omega | exact absurd e hc
theorem zqq (x : Instr) (s : List Int) (h : okI x) (hs : okS s) : ∃ v, zdq x.f0 x.f1 x.f2 x.f3 x.f4 s = some v ∧ okV v := by
  obtain ⟨h1, h1', h2, h2', h3, h3', h4, h4'⟩ := zk6 h
  have hl := hs.1
  have ha := zri hs h2 h2'
  have hb := zri hs h3 h3'
  unfold zdq
  rw [if_pos h2, if_pos (by omega), if_pos h3, if_pos (by omega)]
  have one : ∀ t a b, 0 ≤ b → ∃ v, ((za9 t a b).bind fun v => some v) = some v ∧ okV v := fun t a b hb => by
    obtain ⟨v, e, hv⟩ := zkp t a b hb
    exact ⟨v, by rw [e]; rfl, hv⟩
  by_cases qset : x.f0.toList = ([115, 101, 116] : List UInt8)
  · rw [if_pos qset]
    exact ⟨_, rfl, h4, h4'⟩
  rw [if_neg qset]
  by_cases qmov : x.f0.toList = ([109, 111, 118] : List UInt8)
  · rw [if_pos qmov]
    exact ⟨_, rfl, ha⟩
  rw [if_neg qmov]
  by_cases qaddi : x.f0.toList = ([97, 100, 100, 105] : List UInt8)
  · rw [if_pos qaddi]
    exact one _ _ _ h4
  rw [if_neg qaddi]
  by_cases qandi : x.f0.toList = ([97, 110, 100, 105] : List UInt8)
  · rw [if_pos qandi]
    exact one _ _ _ h4
  rw [if_neg qandi]
  by_cases qxori : x.f0.toList = ([120, 111, 114, 105] : List UInt8)
  · rw [if_pos qxori]
    exact one _ _ _ h4
  rw [if_neg qxori]
  by_cases qshli : x.f0.toList = ([115, 104, 108, 105] : List UInt8)
  · rw [if_pos qshli]
    exact one _ _ _ h4
  rw [if_neg qshli]
  by_cases qshri : x.f0.toList = ([115, 104, 114, 105] : List UInt8)
  · rw [if_pos qshri]
    exact one _ _ _ h4
  rw [if_neg qshri]
  by_cases qlea : x.f0.toList = ([108, 101, 97] : List UInt8)
  · rw [if_pos qlea]
    obtain ⟨v, e, hv⟩ := zkp (⟨#[115, 104, 108]⟩ : ByteArray) (rd s x.f3) x.f4 h4
    obtain ⟨v', e', hv'⟩ := zkp (⟨#[97, 100, 100]⟩ : ByteArray) (rd s x.f2) v hv.1
    exact ⟨v', by rw [e, Option.bind_some, e']; rfl, hv'⟩
  rw [if_neg qlea]
  exact one _ _ _ hb.1
def valM (x : Instr) (s : List Int) : Int := (zdq x.f0 x.f1 x.f2 x.f3 x.f4 s).getD 0
def zr2 (s : List Int) (x : Instr) : List Int := s.set x.f1.toNat (valM x s)
theorem zof (x : Instr) (s : List Int) (h : okI x) (hs : okS s) : zdq x.f0 x.f1 x.f2 x.f3 x.f4 s = some (valM x s) ∧ okV (valM x s) := by
  obtain ⟨v, e, hv⟩ := zqq x s h hs
  unfold valM
  rw [e]
  exact ⟨rfl, hv⟩
theorem zms (x : Instr) (s : List Int) (h : okI x) (hs : okS s) : okS (zr2 s x) := zr1 hs _ (zof x s h hs).2
theorem cut3 {s : ByteArray} {a b c d : UInt8} (h : s.toList = [a, b, c, d]) : (3 : Int) ≤ (s.size : Int) ∧ s.extract 0 3 = ⟨#[a, b, c]⟩ := by
  have e : s = ⟨#[a, b, c, d]⟩ := str_lit.1 h
  rw [e]
  exact ⟨by show (3 : Int) ≤ ((4 : Nat) : Int); decide, rfl⟩
theorem zr3 (x : Instr) (s : List Int) (h : okI x) (hs : okS s) : Ev (fun k => zcr k x.f0 x.f1 x.f2 x.f3 x.f4 (rd s x.f2) (rd s x.f3)) (valM x s) := by
  obtain ⟨h1, h1', h2, h2', h3, h3', h4, h4'⟩ := zk6 h
  have hl := hs.1
  have e := (zof x s h hs).1
  generalize valM x s = v at e
  unfold zdq at e
  rw [if_pos h2, if_pos (by omega), if_pos h3, if_pos (by omega)] at e
  have bs : ∀ (o : Option Int) r, (o.bind fun v => some v) = some r → o = some r := fun o r h => by
    cases o with
    | none => cases h
    | some y => exact h
  unfold zcr
  by_cases q1 : x.f0.toList = [115, 101, 116]
  · rw [if_pos q1] at e
    exact zag q1 (zi4 e)
  refine zc3 q1 ?_
  rw [if_neg q1] at e
  by_cases q2 : x.f0.toList = [109, 111, 118]
  · rw [if_pos q2] at e
    exact zag q2 (zi4 e)
  refine zc3 q2 ?_
  rw [if_neg q2] at e
  by_cases q3 : x.f0.toList = [108, 101, 97]
  · refine zag q3 (zi4 ?_)
    rw [if_neg (by rw [q3]; decide), if_neg (by rw [q3]; decide), if_neg (by rw [q3]; decide), if_neg (by rw [q3]; decide), if_neg (by rw [q3]; decide), if_pos q3] at e
    simp only [zmr]
    exact e
  refine zc3 q3 ?_
  have imm : ∀ a b c d : UInt8, x.f0.toList = [a, b, c, d] → za9 ⟨#[a, b, c]⟩ (rd s x.f2) x.f4 = some v → Ev (fun k => zaw k (rd s x.f2) (rd s x.f3) (x.f0.toList == ([a, b, c, d] : List UInt8)) x.f0 x.f1 x.f2 x.f3 x.f4) v := fun a b c d q hv => by
    obtain ⟨hc, hc'⟩ := cut3 q
    refine Ev.step (fun k => by simp only [zaw]; rfl) (zag (by rw [q]; simp) (zag (by decide) (zag hc (zi4 ?_))))
    rw [zmr, hc', hv]
    rfl
  by_cases q4 : x.f0.toList = [97, 100, 100, 105]
  · rw [if_pos q4] at e
    exact zag q4 (imm _ _ _ _ q4 (bs _ _ e))
  refine zc3 q4 ?_
  rw [if_neg q4] at e
  by_cases q5 : x.f0.toList = [97, 110, 100, 105]
  · rw [if_pos q5] at e
    exact zag q5 (imm _ _ _ _ q5 (bs _ _ e))
  refine zc3 q5 ?_
  rw [if_neg q5] at e
  by_cases q6 : x.f0.toList = [120, 111, 114, 105]
  · rw [if_pos q6] at e
    exact zag q6 (imm _ _ _ _ q6 (bs _ _ e))
  refine zc3 q6 ?_
  rw [if_neg q6] at e
  by_cases q7 : x.f0.toList = [115, 104, 108, 105]
  · rw [if_pos q7] at e
    exact zag q7 (imm _ _ _ _ q7 (bs _ _ e))
  refine zc3 q7 ?_
  rw [if_neg q7] at e
  by_cases q8 : x.f0.toList = [115, 104, 114, 105]
  · rw [if_pos q8] at e
    exact imm _ _ _ _ q8 (bs _ _ e)
  rw [if_neg q8, if_neg q3] at e
  refine Ev.step (fun k => by simp only [zaw]; rfl) (zc3 (by simpa using q8) (zi4 ?_))
  rw [zmr, bs _ _ e]
  rfl
def runM (l : List Instr) (s : List Int) : List Int := l.foldl zr2 s
theorem zr4 (l : List Instr) (h : ∀ x ∈ l, okI x) : ∀ s, okS s → okS (runM l s) := by
  induction l with
  | nil => exact fun s hs => hs
  | cons x l ih => exact fun s hs => ih (fun y hy => h y (List.mem_cons_of_mem _ hy)) _ (zms x s (h x (List.mem_cons_self)) hs)
theorem ztd (l : List Instr) (hl : l.length ≤ 40) (h : ∀ x ∈ l, okI x) (s : List Int) (hs : okS s) : Ev (fun k => ze8 k l s) (runM l s) := by
  unfold ze8
  have key : ∀ (d i : Nat) (s : List Int), okS s → i + d = l.length → Ev (fun k => zdk k s l l.length i) (runM (l.drop i) s) := by
    intro d
    induction d with
    | zero =>
      intro i s hs hi
      refine Ev.step (f := fun _ => some s) (fun k => ?_) (Ev.some ?_)
      · simp only [zdk]
        rw [if_neg (by omega)]
      · rw [List.drop_of_length_le (by omega)]
        rfl
    | succ d ih =>
      intro i s hs hi
      have hlt : i < l.length := by omega
      have e : l.drop i = l[i] :: l.drop (i + 1) := List.drop_eq_getElem_cons hlt
      have hx := zl2 (zfe l i hlt)
      have ok := h l[i] (List.getElem_mem hlt)
      obtain ⟨h1, h1', h2, h2', h3, h3', h4, h4'⟩ := zk6 ok
      have hq := hs.1
      rw [e]
      refine Ev.step (fun k => by simp only [zdk, hx]; rfl) ?_
      refine zag (by omega) (zag (by omega) (zag (by omega) (zag h2 (zag (by omega) (zag h3 (zag (by omega) ?_))))))
      refine Ev.bind (zr3 l[i] s ok hs) ?_
      refine zag h1 (zag (by omega) ?_)
      rw [w64n i (by omega)]
      exact ih (i + 1) _ (zms _ s ok hs) (by omega)
  simpa using key l.length 0 s hs (by omega)
theorem zrj (l : List Int) (h : l.length ≤ 1048576) : ze9 l = some l := by
  unfold ze9
  rw [Option.bind_some, if_pos (by simp; omega)]
  rfl
theorem zpf (x : Instr) (s : List Int) (h : okI x) (hs : okS s) : zfd x.f0 x.f1 x.f2 x.f3 x.f4 s = some (zr2 s x) := by
  obtain ⟨h1, h1', h2, h2', h3, h3', h4, h4'⟩ := zk6 h
  have hq := hs.1
  unfold zfd
  rw [zrj s (by omega), Option.bind_some, (zof x s h hs).1, Option.bind_some, if_pos h1, if_pos (by omega)]
  rfl
theorem zqr (l : List Instr) (hl : l.length ≤ 40) (h : ∀ x ∈ l, okI x) (s : List Int) (hs : okS s) : Ev (fun k => zeh k l s) (runM l s) := by
  unfold zeh
  refine Ev.call (zrj s (by rw [hs.1]; decide)) ?_
  have key : ∀ (d i : Nat) (s : List Int), okS s → i + d = l.length → Ev (fun k => zcn k s l l.length i) (runM (l.drop i) s) := by
    intro d
    induction d with
    | zero =>
      intro i s hs hi
      refine Ev.step (f := fun _ => some s) (fun k => ?_) (Ev.some ?_)
      · simp only [zcn]
        rw [if_neg (by omega)]
      · rw [List.drop_of_length_le (by omega)]
        rfl
    | succ d ih =>
      intro i s hs hi
      have hlt : i < l.length := by omega
      have e : l.drop i = l[i] :: l.drop (i + 1) := List.drop_eq_getElem_cons hlt
      have hx := zl2 (zfe l i hlt)
      have ok := h l[i] (List.getElem_mem hlt)
      rw [e]
      refine Ev.step (fun k => ?_) (ih (i + 1) _ (zms _ s ok hs) (by omega))
      simp only [zcn, hx]
      rw [if_pos (by omega), if_pos (by omega), if_pos (by omega), zpf _ s ok hs, Option.bind_some, w64n i (by omega)]
  simpa using key l.length 0 s hs (by omega)
def st0 (a b : Int) : List Int := [a, b, 0, 0, 0, 0]
theorem zpg {a b : Int} (ha : okV a) (hb : okV b) : okS (st0 a b) := by
  refine ⟨rfl, fun v hv => ?_⟩
  have hz : okV 0 := by unfold okV; decide
  simp only [st0, List.mem_cons, List.not_mem_nil, or_false] at hv
  rcases hv with rfl | rfl | rfl | rfl | rfl | rfl <;> assumption
def endM (l : List Instr) (a b : Int) : List Int := runM l (st0 a b)
theorem zph (l : List Instr) (hl : l.length ≤ 40) (h : ∀ x ∈ l, okI x) {a b : Int} (ha : okV a) (hb : okV b) : Ev (fun k => zc9 k l a b) (endM l a b) := by
  unfold zc9
  refine zag (by decide) (Ev.call rfl (zag (by decide) (zag (by decide) ?_)))
  exact Ev.bind (ztd l hl h (st0 a b) (zpg ha hb)) (zce _)
theorem zoy (a b : Int) : zfw a b = some (st0 a b) := rfl
def zmt (l : List Instr) (x0 n : Nat) : List (List Int) := (List.range n).map fun x1 : Nat => endM l x0 x1
def zfj (l : List Instr) (n : Nat) : List (List Int) := (List.range n).flatMap fun x0 => zmt l x0 64
theorem zoz (l : List Instr) (x0 n : Nat) : zmt l x0 (n + 1) = zmt l x0 n ++ [endM l x0 n] := by simp [zmt, List.range_succ]
theorem zl7 (l : List Instr) (n : Nat) : zfj l (n + 1) = zfj l n ++ zmt l n 64 := by simp [zfj, List.range_succ]
theorem znp (l : List Instr) (x0 n : Nat) : (zmt l x0 n).length = n := by simp [zmt]
theorem ziz (l : List Instr) (n : Nat) : (zfj l n).length = 64 * n := by
  induction n with
  | zero => rfl
  | succ n ih => rw [zl7, List.length_append, ih, znp]; omega
theorem zpi (l : List Instr) (hl : l.length ≤ 40) (h : ∀ x ∈ l, okI x) : Ev (fun k => zd3 k l) (zfj l 64) := by
  unfold zd3
  have inner : ∀ (i : Nat), i < 64 → (Ev (fun k => zb5 k l (zfj l (i + 1)) ((i + 1 : Nat) : Int)) (zfj l 64)) → ∀ (d j : Nat), j + d = 64 → Ev (fun k => zcd k l (zfj l i ++ zmt l i j) i j) (zfj l 64) := by
    intro i hi H d
    induction d with
    | zero =>
      intro j hj
      have e : j = 64 := by omega
      subst e
      refine Ev.step (fun k => ?_) H
      simp only [zcd]
      rw [if_neg (by omega), w64n i (by omega), zl7]
    | succ d ih =>
      intro j hj
      refine Ev.step (fun k => by simp only [zcd]; rfl) (zag (by omega) (Ev.call (zoy _ _) ?_))
      refine Ev.bind (zqr l hl h _ (zpg (by unfold okV; omega) (by unfold okV; omega))) ?_
      refine zag (by rw [List.length_append, ziz, znp]; omega) ?_
      have := ih (j + 1) (by omega)
      rw [zoz, ← List.append_assoc] at this
      rw [w64n j (by omega)]
      exact this
  have outer : ∀ (d i : Nat), i + d = 64 → Ev (fun k => zb5 k l (zfj l i) i) (zfj l 64) := by
    intro d
    induction d with
    | zero =>
      intro i hi
      have e : i = 64 := by omega
      subst e
      refine Ev.step (f := fun _ => some (zfj l 64)) (fun k => ?_) (zce _)
      simp only [zb5]
      rw [if_neg (by omega)]
    | succ d ih =>
      intro i hi
      have := inner i (by omega) (ih (i + 1) (by omega)) 64 0 (by omega)
      refine Ev.step (fun k => ?_) this
      simp only [zb5]
      rw [if_pos (by omega)]
      simp [zmt]
  simpa [zfj] using outer 64 0 (by omega)
theorem zpj (l : List Instr) : Ev (fun k => zd8 k l) (zd9 l) := by
  unfold zd8
  rw [zl5]
  by_cases h : (l.length : Int) ≤ 20
  · refine zag h (Ev.bind (zpe l) (Ev.some ?_))
    rw [decide_eq_true (show l.length ≤ 20 by omega), Bool.and_true]
  · refine zc3 h (Ev.some ?_)
    rw [decide_eq_false (show ¬ l.length ≤ 20 by omega), Bool.and_false]
theorem zku {α : Type} (f : Nat → Nat → α) (n : Nat) : (List.range n).flatMap (fun i => (List.range 64).map (fun j => f i j)) = (List.range (64 * n)).map (fun i => f (i / 64) (i % 64)) := by
  induction n with
  | zero => rfl
  | succ n ih =>
    rw [show List.range (n + 1) = List.range n ++ [n] from List.range_succ, List.flatMap_append, ih, show 64 * (n + 1) = 64 * n + 64 by omega, List.range_add, List.map_append, List.map_map]
    congr 1
    rw [List.flatMap_singleton]
    refine List.map_congr_left fun j hj => ?_
    have := List.mem_range.1 hj
    show f n j = f ((64 * n + j) / 64) ((64 * n + j) % 64)
    rw [show (64 * n + j) / 64 = n by omega, show (64 * n + j) % 64 = j by omega]
def endI (l : List Instr) (i : Nat) : List Int := endM l ((i / 64 : Nat) : Int) ((i % 64 : Nat) : Int)
theorem zqs (l : List Instr) : zfj l 64 = (List.range 4096).map (endI l) := zku (fun x0 x1 => endM l x0 x1) 64
theorem zr5 (g : Int → Int → Int) : tabL g 64 = (List.range 4096).map (fun i : Nat => g ((i / 64 : Nat) : Int) ((i % 64 : Nat) : Int)) := zku (fun x0 x1 => g x0 x1) 64
theorem zla (l : List Instr) (h : ∀ x ∈ l, okI x) (i : Nat) (hi : i < 4096) : okS (endI l i) := zr4 l h _ (zpg (by unfold okV; omega) (by unfold okV; omega))
def zog (s t : List Int) : List Int → Option Int
  | [] => none
  | w :: ws => if rd s w = rd t w then zog s t ws else some w
def witM (l m : List Instr) (ws : List Int) : Nat → Nat → List Int × Bool
  | 0, _ => ([], false)
  | d + 1, i => match zog (endI l i) (endI m i) ws with
    | some w => ([((i / 64 : Nat) : Int), ((i % 64 : Nat) : Int), w], true)
    | none => witM l m ws d (i + 1)
def okW (ws : List Int) : Prop := ws.length ≤ 1048576 ∧ ∀ w ∈ ws, 0 ≤ w ∧ w ≤ 5
theorem zpk {xs : List (List Int)} {i : Nat} {x : List Int} (h : ∀ d, xs.getD i d = x) : zaz xs i = x := by unfold zaz; rw [Int.toNat_natCast]; exact h _
theorem zmu (l : List Instr) (i : Nat) (hi : i < 4096) : zaz (zfj l 64) i = endI l i := by
  refine zpk fun d => ?_
  rw [zqs]
  simp [List.getD, List.getElem?_map, List.getElem?_range hi]
theorem zqt (l m : List Instr) (hl : ∀ x ∈ l, okI x) (hm : ∀ x ∈ m, okI x) (ws : List Int) (hw : okW ws) : Ev (fun k => zc2 k (zfj l 64) (zfj m 64) ws) (witM l m ws 4096 0) := by
  unfold zc2
  have key : ∀ (d i : Nat), i + d = 4096 → Ev (fun k => zbk k (zfj m 64) ws (zfj l 64) ((zfj l 64).length : Nat) i) (witM l m ws d i) := by
    intro d
    induction d with
    | zero =>
      intro i hi
      refine Ev.step (f := fun _ => some ([], false)) (fun k => ?_) (zce _)
      simp only [zbk]
      rw [if_neg (by rw [ziz]; omega)]
    | succ d ih =>
      intro i hi
      have Hl := (zla l hl i (by omega)).1
      have Hm := (zla m hm i (by omega)).1
      have L1 : (zfj l 64).length = 4096 := ziz l 64
      have L2 : (zfj m 64).length = 4096 := ziz m 64
      refine Ev.step (fun k => by simp only [zbk, zmu l i (by omega)]; rfl) (zag (by omega) (zag (by omega) (zag (by omega) ?_)))
      refine zmo (s := witM l m ws (d + 1) i) (zjw (σ := Unit) ws (fun k _ j => zbl k (zfj m 64) ws i (endI l i) (zfj l 64) ((zfj l 64).length : Nat) i ws ws.length j) (fun rest _ => match zog (endI l i) (endI m i) rest with
        | some w => ([((i / 64 : Nat) : Int), ((i % 64 : Nat) : Int), w], true)
        | none => witM l m ws d (i + 1)) (fun _ => ?_) (fun j _ x rest hj hx H => ?_) ()) rfl
      · refine Ev.step (fun k => ?_) (ih (i + 1) (by omega))
        simp only [zbl]
        rw [if_neg (by omega), w64n i (by omega)]
      · have hr := zs9 hx
        have hb : 0 ≤ x ∧ x ≤ 5 := hw.2 x (by
          have := hx 0
          rw [zfe ws j hj] at this
          rw [← this]
          exact List.getElem_mem hj)
        have hlen := hw.1
        refine Ev.step (fun k => by simp only [zbl, hr, zmu m i (by omega)]; rfl) ?_
        refine zag (by omega) (zag (by omega) (zag (by omega) (zag hb.1 (zag (by omega) (zag (by omega) (zag (by omega) (zag (by omega) ?_)))))))
        by_cases q : rd (endI l i) x = rd (endI m i) x
        · refine zag q ?_
          rw [w64n j (by omega)]
          simp only [zog, if_pos q]
          exact H ()
        · refine zc3 q (Ev.some ?_)
          simp only [zog, if_neg q]
          rw [show Int.tdiv (i : Int) 64 = ((i / 64 : Nat) : Int) from rfl, show Int.tmod (i : Int) 64 = ((i % 64 : Nat) : Int) from rfl, w64 (by omega) (by omega)]
  simpa using key 4096 0 (by omega)
theorem zr6 {α : Type} (n : Nat) (g : Nat → Nat → Option α) (r : Nat → α) (h : ∀ i, i < n → Ev (fun k => g k i) (r i)) : ∃ K, ∀ k, K ≤ k → ∀ i, i < n → g k i = some (r i) := by
  induction n with
  | zero => exact ⟨0, fun _ _ i hi => by omega⟩
  | succ n ih =>
    obtain ⟨K, hK⟩ := ih (fun i hi => h i (by omega))
    obtain ⟨K', hK'⟩ := h n (by omega)
    refine ⟨max K K', fun k hk i hi => ?_⟩
    by_cases e : i = n
    · rw [e]; exact hK' k (by omega)
    · exact hK k (by omega) i (by omega)
theorem zpl (l : List Instr) (hl : l.length ≤ 40) (h : ∀ x ∈ l, okI x) (r : Int) (h0 : 0 ≤ r) (h1 : r ≤ 5) : Ev (fun k => zdn k l r) ((List.range 4096).map fun i => rd (endI l i) r) := by
  obtain ⟨K, hK⟩ := zr6 4096 (fun k i => zc9 k l ((i / 64 : Nat) : Int) ((i % 64 : Nat) : Int)) (endI l) (fun i hi => zph l hl h (by unfold okV; omega) (by unfold okV; omega))
  have at2 : ∀ k, K ≤ k → ∀ x0 x1 : Nat, x0 < 64 → x1 < 64 → zic k l r x0 x1 = some (rd (endM l x0 x1) r) := fun k hk x0 x1 h0' h1' => by
    have := hK k hk (64 * x0 + x1) (by omega)
    unfold endI at this
    rw [show (64 * x0 + x1) / 64 = x0 by omega, show (64 * x0 + x1) % 64 = x1 by omega] at this
    have hl6 := (zla l h (64 * x0 + x1) (by omega)).1
    unfold endI at hl6
    rw [show (64 * x0 + x1) / 64 = x0 by omega, show (64 * x0 + x1) % 64 = x1 by omega] at hl6
    unfold zic
    rw [this, Option.bind_some, if_pos ⟨h0, by omega⟩]
  refine ⟨K, fun k hk => ?_⟩
  show zdn k l r = _
  unfold zdn
  rw [if_pos ((zi3 _ _ _).2 (fun x0 hx0 x1 hx1 => by rw [at2 k hk x0 x1 hx0 hx1]; rfl)), zl0 (g' := fun x0 x1 => rd (endM l x0 x1) r) (fun x0 x1 hx0 hx1 => by rw [at2 k hk x0 x1 hx0 hx1]; rfl), zr5]
  rfl
def difT (r : Int) (a b : List Instr) (i : Nat) : Bool := rd (endI a i) r != rd (endI b i) r
def inpT (i : Nat) : List Int := [((i / 64 : Nat) : Int), ((i % 64 : Nat) : Int)]
def tabR (r : Int) (a : List Instr) : List Int := (List.range 4096).map fun i => rd (endI a i) r
theorem tabR_len (r : Int) (a : List Instr) : (tabR r a).length = 4096 := by unfold tabR; rw [List.length_map, List.length_range]
theorem zmv (r : Int) (a : List Instr) (i : Nat) (h : i < 4096) : rd (tabR r a) (i : Int) = rd (endI a i) r := by
  refine zs9 (fun d => ?_)
  unfold tabR
  rw [zfe _ _ (by rw [List.length_map, List.length_range]; exact h), List.getElem_map, List.getElem_range]
def stT (r : Int) (a b : List Instr) (is : List Nat) : List Nat := if is.any (difT r a b) then is else match (List.range 4096).find? (difT r a b) with
  | some i => is ++ [i]
  | none => is
def rowT (r : Int) (a : List Instr) : List (List Instr) → List Nat → List Nat
  | [], is => is
  | b :: bs, is => rowT r a bs (stT r a b is)
def allT (r : Int) : List (List Instr) → List Nat → List Nat
  | [], is => is
  | a :: bs, is => allT r bs (rowT r a bs is)
theorem zpm (r : Int) (a b : List Instr) (is : List Nat) (h : ∀ i ∈ is, i < 4096) : ∀ i ∈ stT r a b is, i < 4096 := by
  unfold stT
  split
  · exact h
  · split
    · rename_i i hf
      intro j hj
      rcases List.mem_append.1 hj with q | q
      · exact h j q
      · rw [List.mem_singleton.1 q]
        exact List.mem_range.1 (List.mem_of_find?_eq_some hf)
    · exact h
theorem zoh (r : Int) (a b : List Instr) (is : List Nat) : (stT r a b is).length ≤ is.length + 1 := by
  unfold stT
  split
  · omega
  · split
    · rw [List.length_append, List.length_singleton]
      exact Nat.le_refl _
    · omega
theorem zr7 (r : Int) (a b : List Instr) (is : List Nat) (h : ∀ i ∈ is, i < 4096) (hl : is.length ≤ 1048576) : Ev (fun k => zan k (is.map inpT) [tabR r a] [tabR r b]) (is.any (difT r a b)) := by
  have key : ∀ (d i : Nat), i + d = is.length → ∃ j : Int, Ev (fun k => zaf k (is.map inpT) ((is.map inpT).length : Int) i [tabR r a] [tabR r b]) j ∧ (decide (j ≥ 0) = (is.drop i).any (difT r a b)) := by
    intro d
    induction d with
    | zero =>
      intro i hi
      refine ⟨-1, Ev.step (f := fun _ => some (-1)) (fun k => ?_) (zce _), ?_⟩
      · simp only [zaf]
        rw [if_neg (by rw [List.length_map]; omega)]
      · rw [List.drop_of_length_le (by omega)]
        rfl
    | succ d ih =>
      intro i hi
      have hlt : i < is.length := by omega
      obtain ⟨j, hj, hjd⟩ := ih (i + 1) (by omega)
      have hx : i < (is.map inpT).length := by rw [List.length_map]; exact hlt
      have hm : (is.map inpT)[i] = inpT is[i] := List.getElem_map ..
      have hb : is[i] < 4096 := h _ (List.getElem_mem hlt)
      have hg : zaz (is.map inpT) (i : Int) = inpT is[i] := by rw [← hm]; exact zpk (zfe _ i hx)
      have hat : wrap64 ((wrap64 (64 * (rd (inpT is[i]) 0))) + (rd (inpT is[i]) 1)) = ((is[i] : Nat) : Int) := by
        have e0 : rd (inpT is[i]) 0 = ((is[i] / 64 : Nat) : Int) := rfl
        have e1 : rd (inpT is[i]) 1 = ((is[i] % 64 : Nat) : Int) := rfl
        rw [e0, e1]
        generalize is[i] = n at hb ⊢
        rw [show wrap64 (64 * ((n / 64 : Nat) : Int)) = 64 * ((n / 64 : Nat) : Int) from w64 (by omega) (by omega), w64 (by omega) (by omega)]
        omega
      have hv : zeb (inpT is[i]) [tabR r a] [tabR r b] = some (difT r a b is[i]) := by
        unfold zeb
        rw [hat]
        have ea : ∀ x : List Int, zaz [x] 0 = x := fun x => rfl
        rewrite [ea, ea, tabR_len, tabR_len, zmv r a _ hb, zmv r b _ hb]
        simp only [inpT, List.length_cons, List.length_nil]
        rewrite [if_pos (by decide), if_pos (by decide), if_pos (by decide), if_pos (by omega), if_pos (by omega), if_pos (by decide), if_pos (by omega)]
        unfold difT
        rfl
      have hd : (is.drop i).any (difT r a b) = (difT r a b is[i] || (is.drop (i + 1)).any (difT r a b)) := by rw [List.drop_eq_getElem_cons hlt, List.any_cons]
      cases hq : difT r a b is[i] with
      | true =>
        refine ⟨(i : Int), Ev.step (fun k => by simp only [zaf, hg, hv]; rfl) (zag (by omega) (zag (by omega) (zag (by omega) (zag hq (zce _))))), ?_⟩
        rw [hd, hq, Bool.true_or]
        exact decide_eq_true (by omega)
      | false =>
        refine ⟨j, Ev.step (fun k => by simp only [zaf, hg, hv]; rfl) (zag (by omega) (zag (by omega) (zag (by omega) (zc3 (by rw [hq]; decide) ?_)))), ?_⟩
        · rw [w64n i (by omega)]
          exact hj
        · rw [hd, hq, Bool.false_or]
          exact hjd
  obtain ⟨j, hj, hd⟩ := key is.length 0 (by omega)
  unfold zan zav
  refine Ev.bind hj (Ev.some ?_)
  rw [hd, List.drop_zero]
theorem zls (r : Int) (a b : List Instr) : ∃ ds : List Int, Ev (fun k => zcv k (tabR r a) (tabR r b)) ds ∧ (∀ i, (List.range 4096).find? (difT r a b) = some i → 0 < ds.length ∧ rd ds 0 = (i : Int)) ∧ ((List.range 4096).find? (difT r a b) = none → ds = []) := by
  have key : ∀ (d i : Nat) (acc : List Int), i + d = 4096 → acc.length ≤ i → Ev (fun k => za0 k (tabR r b) acc (tabR r a) ((tabR r a).length : Int) i) (acc ++ ((List.range' i d).filter (difT r a b)).map (fun n : Nat => (n : Int))) := by
    intro d
    induction d with
    | zero =>
      intro i acc hi _
      refine Ev.step (f := fun _ => some acc) (fun k => ?_) (Ev.some (by simp))
      simp only [za0]
      rw [if_neg (by rw [tabR_len]; omega)]
    | succ d ih =>
      intro i acc hi ha
      have h4 : i < 4096 := by omega
      have next := ih (i + 1)
      refine Ev.step (fun k => by simp only [za0]; rfl) (zag (by rw [tabR_len]; omega) (zag (by omega) (zag (by rw [tabR_len]; omega) (zag (by rw [tabR_len]; omega) ?_))))
      rw [zmv r a i h4, zmv r b i h4, w64n i (by omega), List.range'_succ, List.filter_cons]
      by_cases q : rd (endI b i) r = rd (endI a i) r
      · refine zag q ?_
        rw [if_neg (by unfold difT; simp [q])]
        exact next acc (by omega) (by omega)
      · refine zc3 q (zag (by omega) ?_)
        rw [if_pos (by unfold difT; simpa using fun e => q e.symm)]
        have := next (acc ++ [(i : Int)]) (by omega) (by rw [List.length_append, List.length_singleton]; omega)
        simpa using this
  have h := key 4096 0 [] (by omega) (Nat.le_refl _)
  rw [← List.range_eq_range', List.nil_append] at h
  refine ⟨_, h, fun i hf => ?_, fun hf => ?_⟩
  · rw [← List.head?_filter] at hf
    obtain ⟨t, ht⟩ := List.head?_eq_some_iff.1 hf
    rw [ht]
    exact ⟨by simp, rfl⟩
  · rw [← List.head?_filter] at hf
    rw [List.head?_eq_none_iff.1 hf]
    rfl
theorem st_ev (r : Int) (a b : List Instr) (is : List Nat) (h : ∀ i ∈ is, i < 4096) (hl : is.length < 1048576) : Ev (fun k => zdv k (tabR r a) (tabR r b) (is.map inpT)) ((stT r a b is).map inpT) := by
  unfold zdv
  obtain ⟨ds, hds, h1, h2⟩ := zls r a b
  refine Ev.bind (zr7 r a b is h (by omega)) (Ev.bind hds ?_)
  cases hf : (List.range 4096).find? (difT r a b) with
  | none =>
    rw [h2 hf]
    refine zc3 (by simp) (Ev.some ?_)
    unfold stT
    rw [hf]
    simp
  | some i =>
    obtain ⟨p, q⟩ := h1 i hf
    refine zag p ?_
    rw [q]
    by_cases ht : is.any (difT r a b) = true
    · refine zag ht (Ev.some ?_)
      unfold stT
      rw [if_pos ht]
    · refine zc3 ht (zag (by rw [List.length_map]; exact hl) ?_)
      have hi : i < 4096 := List.mem_range.1 (List.mem_of_find?_eq_some hf)
      refine Ev.call (a := (((i / 64 : Nat) : Int), ((i % 64 : Nat) : Int))) ?_ (Ev.some ?_)
      · unfold zfb
        rw [show Int.tdiv (i : Int) 64 = ((i / 64 : Nat) : Int) from rfl, show Int.tmod (i : Int) 64 = ((i % 64 : Nat) : Int) from rfl, w64 (by omega) (by omega)]
      · unfold stT
        rw [if_neg ht, hf]
        simp [inpT]
theorem zmw (r : Int) (a : List Instr) : ∀ (bs : List (List Instr)) (is : List Nat), (∀ i ∈ is, i < 4096) → (∀ i ∈ rowT r a bs is, i < 4096) ∧ (rowT r a bs is).length ≤ is.length + bs.length
  | [], is, h => ⟨h, Nat.le_refl _⟩
  | b :: bs, is, h => by
    obtain ⟨h1, h2⟩ := zmw r a bs _ (zpm r a b is h)
    have := zoh r a b is
    exact ⟨h1, by rw [List.length_cons]; show (rowT r a bs (stT r a b is)).length ≤ _; omega⟩
theorem zrk (r : Int) (a : List Instr) : ∀ (bs : List (List Instr)) (is : List Nat), (∀ i ∈ is, i < 4096) → is.length + bs.length < 1048576 → Ev (fun k => zc7 k (tabR r a) (bs.map (tabR r)) (is.map inpT)) ((rowT r a bs is).map inpT)
  | [], is, _, _ => zce _
  | b :: bs, is, h, hl => by
    rw [List.length_cons] at hl
    have := zoh r a b is
    exact Ev.bind (st_ev r a b is h (by omega)) (zrk r a bs _ (zpm r a b is h) (by omega))
theorem zpn (r : Int) : ∀ (bs : List (List Instr)) (is : List Nat) (m : Nat), (∀ i ∈ is, i < 4096) → bs.length ≤ m → is.length + bs.length * m < 1048576 → Ev (fun k => impl_TestsFor.all k (bs.map (tabR r)) (is.map inpT)) ((allT r bs is).map inpT)
  | [], is, _, _, _, _ => zce _
  | a :: bs, is, m, h, hm, hl => by
    rw [List.length_cons] at hm hl
    rw [Nat.succ_mul] at hl
    obtain ⟨h1, h2⟩ := zmw r a bs is h
    exact Ev.bind (zrk r a bs is h (by omega)) (zpn r bs _ m h1 (by omega) (by omega))
theorem zte (r : Int) (h0 : 0 ≤ r) (h1 : r ≤ 5) : ∀ (bs : List (List Instr)), (∀ b ∈ bs, zd9 b = true) → Ev (fun k => zdl k r bs) (bs.map (tabR r))
  | [], _ => zce _
  | b :: bs, h => by
    obtain ⟨q1, q2⟩ := zi5 (h b (List.mem_cons_self ..))
    exact Ev.bind (zpl b (by omega) q2 r h0 h1) (Ev.bind (zte r h0 h1 bs (fun x hx => h x (List.mem_cons_of_mem _ hx))) (zce _))
theorem ztf (bs : List (List Instr)) (hl : bs.length ≤ 1048576) : Ev (fun k => zam k bs) (!bs.all zd9) := by
  have h := znl bs (fun b => !zd9 b) (fun k i => zae k bs (bs.length : Int) i) ?_ ?_ ?_
  · unfold zam zau
    refine Ev.bind h (Ev.some ?_)
    have := zl1 (fun b => !zd9 b) bs
    cases hq : bs.all zd9 with
    | true =>
      rw [List.all_eq_true] at hq
      refine decide_eq_false (fun q => ?_)
      obtain ⟨x, hx, hb⟩ := this.1 q
      rw [hq x hx] at hb
      exact absurd hb (by decide)
    | false =>
      rw [List.all_eq_false] at hq
      obtain ⟨x, hx, hb⟩ := hq
      exact decide_eq_true (this.2 ⟨x, hx, by simpa using hb⟩)
  · refine Ev.step (f := fun _ => some (-1)) (fun k => ?_) (zce _)
    simp only [zae]
    rw [if_neg (by omega)]
  · intro i x hi hx hp
    have hr : zei bs (i : Int) = x := by unfold zei; rw [Int.toNat_natCast]; exact hx _
    refine Ev.step (fun k => by simp only [zae, hr, zcq]; rfl) (zag (by omega) (zag (by omega) (zag (by omega) ?_)))
    refine Ev.bind (Ev.bind (zl6 x) (zce _)) (zag hp (zce _))
  · intro i x y hi hx hp hn
    have hr : zei bs (i : Int) = x := by unfold zei; rw [Int.toNat_natCast]; exact hx _
    refine Ev.step (fun k => by simp only [zae, hr, zcq]; rfl) (zag (by omega) (zag (by omega) (zag (by omega) ?_)))
    refine Ev.bind (Ev.bind (zl6 x) (zce _)) (zc3 (by rw [hp]; decide) ?_)
    rw [w64n i (by omega)]
    exact hn
def zii (bs : List (List Instr)) (r : Int) : List (List Int) × Bool := if (1 ≤ bs.length ∧ bs.length ≤ 6) ∧ (0 ≤ r ∧ r ≤ 5) ∧ bs.all zd9 = true then ((allT r bs []).map inpT, true) else ([], false)
theorem zpo (bs : List (List Instr)) (r : Int) (hl : bs.length ≤ 1048576) : Ev (fun k => zdu k bs r) (zii bs r) := by
  have hw : ∀ a b c : Int, zdz a b c = some (decide (b ≤ a ∧ a ≤ c)) := by
    intro a b c
    unfold zdz
    by_cases h : b ≤ a
    · rw [if_pos h]
      simp [h]
    · rw [if_neg h]
      simp [h]
  unfold zdu zii
  refine Ev.call (hw _ _ _) ?_
  by_cases h1 : 1 ≤ bs.length ∧ bs.length ≤ 6
  · refine zag (decide_eq_true (by omega)) ?_
    refine Ev.call (a := decide (0 ≤ r ∧ r ≤ 5)) (by unfold zc6; rw [hw]; rfl) ?_
    by_cases h2 : 0 ≤ r ∧ r ≤ 5
    · refine zag (decide_eq_true h2) (Ev.bind (ztf bs hl) ?_)
      cases h3 : bs.all zd9 with
      | true =>
        refine zc3 (by decide) (zag (by omega) ?_)
        rw [if_pos ⟨h1, h2, rfl⟩]
        have hb : ∀ b ∈ bs, zd9 b = true := List.all_eq_true.1 h3
        refine Ev.bind (zte r h2.1 h2.2 bs hb) ?_
        have := zpn r bs [] 6 (fun i hi => by simp at hi) h1.2 (by simp; omega)
        exact Ev.bind this (zce _)
      | false =>
        refine zag rfl ?_
        rw [if_neg (fun q => by have := q.2.2; simp at this)]
        exact zce _
    · refine zc3 (by simpa using h2) ?_
      rw [if_neg (fun q => h2 q.2.1)]
      exact zce _
  · refine zc3 (by simp; omega) ?_
    rw [if_neg (fun q => h1 q.1)]
    exact zce _
def zk5 (bs : List (List Instr)) : List (List (List Int)) := bs.map fun b => zfj b 64
theorem zh0 (bs : List (List Instr)) : (zk5 bs).length = bs.length := List.length_map ..
theorem zk7 (bs : List (List Instr)) (i : Nat) (h : i < bs.length) : zdj (zk5 bs) (i : Int) = zfj bs[i] 64 := by
  unfold zdj
  rw [Int.toNat_natCast]
  have h2 : i < (zk5 bs).length := by rw [zh0]; exact h
  rw [zfe _ i h2]
  exact List.getElem_map ..
theorem zor (l m : List Instr) (r : Int) : ∀ d i, witM l m [r] d i = match (List.range' i d).find? (difT r l m) with
    | some j => ([((j / 64 : Nat) : Int), ((j % 64 : Nat) : Int), r], true)
    | none => ([], false)
  | 0, i => rfl
  | d + 1, i => by
    unfold witM
    rw [List.range'_succ, List.find?_cons]
    by_cases q : rd (endI l i) r = rd (endI m i) r
    · have hd : difT r l m i = false := by unfold difT; simp [q]
      simp only [zog, if_pos q, hd]
      exact zor l m r d (i + 1)
    · have hd : difT r l m i = true := by unfold difT; simp [q]
      simp only [zog, if_neg q, hd]
theorem ztg (n : Nat) (hb : n < 4096) : wrap64 ((wrap64 (64 * (rd (inpT n) 0))) + (rd (inpT n) 1)) = (n : Int) := by
  have e0 : rd (inpT n) 0 = ((n / 64 : Nat) : Int) := rfl
  have e1 : rd (inpT n) 1 = ((n % 64 : Nat) : Int) := rfl
  rw [e0, e1]
  rw [show wrap64 (64 * ((n / 64 : Nat) : Int)) = 64 * ((n / 64 : Nat) : Int) from w64 (by omega) (by omega), w64 (by omega) (by omega)]
  omega
section
variable (bs : List (List Instr)) (r : Int) (hr0 : 0 ≤ r) (hr : r ≤ 5) (hl : bs.length ≤ 6) (hok : ∀ b ∈ bs, zd9 b = true)
include hr0 hr hl hok
theorem l3_ev (i j : Nat) (hi : i < bs.length) (hj : j < bs.length) (is : List Nat) (his : ∀ n ∈ is, n < 4096) (hs : is.length < 1048576) (res : List (List Int) × Bool)
    (H : Ev (fun k => za3 k bs r (zk5 bs) ((stT r bs[i] bs[j] is).map inpT) i ((j + 1 : Nat) : Int) (bs.length : Int) i) res) :
    ∀ (d n : Nat) (told : Bool), n + d = is.length → (told || (is.drop n).any (difT r bs[i] bs[j])) = is.any (difT r bs[i] bs[j]) → Ev (fun k => za8 k bs r (zk5 bs) (is.map inpT) i j told (bs.length : Int) i (is.map inpT) ((is.map inpT).length : Int) n) res := by
  have ki := (zi5 (hok bs[i] (List.getElem_mem hi))).2
  have kj := (zi5 (hok bs[j] (List.getElem_mem hj))).2
  intro d
  induction d with
  | zero =>
    intro n told hn ht
    rw [List.drop_of_length_le (by omega)] at ht
    simp only [List.any_nil, Bool.or_false] at ht
    refine Ev.step (fun k => by simp only [za8, zk7 bs i hi, zk7 bs j hj]; rfl) (zc3 (by rw [List.length_map]; omega) ?_)
    rw [w64n j (by omega)]
    cases told with
    | true =>
      refine zag rfl ?_
      unfold stT at H
      rw [if_pos ht.symm] at H
      exact H
    | false =>
      refine zc3 (by decide) (zag (by omega) (zag (by rw [zh0]; omega) (zag (by omega) (zag (by rw [zh0]; omega) ?_))))
      refine Ev.bind (zqt _ _ ki kj [r] ⟨by simp, fun w hw => by rw [List.mem_singleton.1 hw]; exact ⟨hr0, hr⟩⟩) ?_
      unfold stT at H
      rw [if_neg (by rw [← ht]; decide)] at H
      rw [zor, ← List.range_eq_range']
      cases hf : (List.range 4096).find? (difT r bs[i] bs[j]) with
      | none =>
        rw [hf] at H
        exact zc3 (by simp) H
      | some m =>
        rw [hf] at H
        refine zag rfl (zag (by simp) (zag (by simp) (zag (by rw [List.length_map]; omega) ?_)))
        rw [List.map_append] at H
        exact H
  | succ d ih =>
    intro n told hn ht
    have hlt : n < is.length := by omega
    have hx : n < (is.map inpT).length := by rw [List.length_map]; exact hlt
    have hm : (is.map inpT)[n] = inpT is[n] := List.getElem_map ..
    have hb : is[n] < 4096 := his _ (List.getElem_mem hlt)
    have hg : zaz (is.map inpT) (n : Int) = inpT is[n] := by rw [← hm]; exact zpk (zfe _ n hx)
    have hat := ztg is[n] hb
    have ea : (endI bs[i] is[n]).length = 6 := (zla _ ki _ hb).1
    have eb : (endI bs[j] is[n]).length = 6 := (zla _ kj _ hb).1
    rw [List.drop_eq_getElem_cons hlt, List.any_cons] at ht
    refine Ev.step (fun k => by simp only [za8, hg, hat, zk7 bs i hi, zk7 bs j hj, zmu _ _ hb, ziz, ea, eb]; rfl) (zag (by omega) (zag (by omega) (zag (by omega) (zag (by simp [inpT]) (zag (by simp [inpT]) ?_)))))
    rw [w64n n (by omega)]
    cases told with
    | true => exact zag rfl (ih (n + 1) true (by omega) (by simpa using ht))
    | false =>
      refine zc3 (by decide) (zag (by omega) (zag (by rw [zh0]; omega) (zag (by omega) (zag (by omega) (zag hr0 (zag (by omega) (zag (by omega) (zag (by rw [zh0]; omega) (zag (by omega) (zag (by omega) ?_))))))))))
      exact ih (n + 1) _ (by omega) (by rw [← ht, Bool.false_or]; rfl)
theorem l2_ev (i : Nat) (hi : i < bs.length) (res : List (List Int) × Bool) : ∀ (d j : Nat) (is : List Nat), j + d = bs.length → (∀ n ∈ is, n < 4096) → is.length + d < 1048576 → Ev (fun k => zbo k bs r (zk5 bs) ((rowT r bs[i] (bs.drop j) is).map inpT) (bs.length : Int) ((i + 1 : Nat) : Int)) res → Ev (fun k => za3 k bs r (zk5 bs) (is.map inpT) i j (bs.length : Int) i) res := by
  intro d
  induction d with
  | zero =>
    intro j is hj his hs H
    rw [List.drop_of_length_le (by omega)] at H
    refine Ev.step (fun k => by simp only [za3]; rfl) (zc3 (by omega) ?_)
    rw [w64n i (by omega)]
    exact H
  | succ d ih =>
    intro j is hj his hs H
    have hlt : j < bs.length := by omega
    rw [List.drop_eq_getElem_cons hlt] at H
    have := zoh r bs[i] bs[j] is
    refine Ev.step (fun k => by simp only [za3]; rfl) (zag (by omega) ?_)
    exact l3_ev bs r hr0 hr hl hok i j hi hlt is his (by omega) res (ih (j + 1) _ (by omega) (zpm r bs[i] bs[j] is his) (by omega) H) is.length 0 false (by omega) (by simp)
theorem zth : ∀ (d i : Nat) (is : List Nat), i + d = bs.length → (∀ n ∈ is, n < 4096) → is.length + d * 6 < 1048576 → Ev (fun k => zbo k bs r (zk5 bs) (is.map inpT) (bs.length : Int) i) ((allT r (bs.drop i) is).map inpT, true) := by
  intro d
  induction d with
  | zero =>
    intro i is hi his hs
    rw [List.drop_of_length_le (by omega)]
    exact Ev.step (fun k => by simp only [zbo]; rfl) (zc3 (by omega) (zce _))
  | succ d ih =>
    intro i is hi his hs
    have hlt : i < bs.length := by omega
    rw [List.drop_eq_getElem_cons hlt]
    obtain ⟨h1, h2⟩ := zmw r bs[i] (bs.drop (i + 1)) is his
    have h3 : (bs.drop (i + 1)).length ≤ 6 := by rw [List.length_drop]; omega
    refine Ev.step (fun k => by simp only [zbo]; rfl) (zag (by omega) ?_)
    rw [w64n i (by omega)]
    exact l2_ev bs r hr0 hr hl hok i hlt _ (bs.length - (i + 1)) (i + 1) is (by omega) his (by omega) (ih (i + 1) _ (by omega) h1 (by omega))
end
theorem zrl (bs : List (List Instr)) (r : Int) (hr0 : 0 ≤ r) (hr : r ≤ 5) (hl : bs.length ≤ 6) : ∀ (q p : List (List Instr)), bs = p ++ q → (∀ b ∈ p, zd9 b = true) → Ev (fun k => zbm k bs r (zk5 p) bs (bs.length : Int) (p.length : Int)) (if q.all zd9 = true then ((allT r bs []).map inpT, true) else ([], false))
  | [], p, hb, hp => by
    rw [List.append_nil] at hb
    subst hb
    refine Ev.step (fun k => by simp only [zbm]; rfl) (zc3 (by omega) ?_)
    rw [if_pos (show ([] : List (List Instr)).all zd9 = true from rfl)]
    exact zth bs r hr0 hr hl hp bs.length 0 [] (by omega) (fun n hn => by simp at hn) (by simp; omega)
  | b :: q, p, hb, hp => by
    have hlen : bs.length = p.length + (q.length + 1) := by rw [hb, List.length_append, List.length_cons]
    have hg : zei bs (p.length : Int) = b := by
      unfold zei
      rw [Int.toNat_natCast, hb]
      simp [List.getD]
    refine Ev.step (fun k => by simp only [zbm, hg]; rfl) (zag (by omega) (zag (by omega) (zag (by omega) (Ev.bind (zpj b) ?_))))
    rw [List.all_cons]
    cases hq : zd9 b with
    | true =>
      obtain ⟨q1, q2⟩ := zi5 hq
      refine zag rfl (Ev.bind (zpi b (by omega) q2) (zag (by rw [zh0]; omega) ?_))
      rw [w64n _ (by omega), Bool.true_and]
      have := zrl bs r hr0 hr hl q (p ++ [b]) (by rw [hb, List.append_assoc]; rfl) (fun x hx => by
        rcases List.mem_append.1 hx with m | m
        · exact hp x m
        · rw [List.mem_singleton.1 m]
          exact hq)
      rw [show zk5 (p ++ [b]) = zk5 p ++ [zfj b 64] by unfold zk5; rw [List.map_append]; rfl, List.length_append, List.length_singleton] at this
      exact this
    | false =>
      refine zc3 (by decide) ?_
      rw [Bool.false_and, if_neg (by decide)]
      exact zce _
theorem zpp (bs : List (List Instr)) (r : Int) : Ev (fun k => zdi k bs r) (zii bs r) := by
  have j0 : ∀ b : Bool, (b = false → Ev (fun k => zbm k bs r [] bs (bs.length : Int) 0) (zii bs r)) → (b = true → zii bs r = ([], false)) → Ev (fun k => zb4 k bs r b) (zii bs r) := by
    intro b h1 h2
    refine Ev.step (fun k => by simp only [zb4]; rfl) ?_
    cases b with
    | true => exact zag rfl (by rw [h2 rfl]; exact zce _)
    | false => exact zc3 (by decide) (h1 rfl)
  unfold zdi
  refine Ev.call (zmq _ _ _) ?_
  by_cases h1 : 1 ≤ bs.length ∧ bs.length ≤ 6
  · refine zag (decide_eq_true (by omega)) ?_
    refine Ev.call (a := decide (0 ≤ r ∧ r ≤ 5)) (by unfold zd2; rw [zmq]; rfl) ?_
    refine j0 _ (fun hf => ?_) (fun ht => ?_)
    · have h2 : 0 ≤ r ∧ r ≤ 5 := by simpa using hf
      have := zrl bs r h2.1 h2.2 h1.2 bs [] rfl (fun b hb => by simp at hb)
      unfold zii
      by_cases h3 : bs.all zd9 = true
      · rw [if_pos h3] at this
        rw [if_pos ⟨h1, h2, h3⟩]
        exact this
      · rw [if_neg h3] at this
        rw [if_neg (fun q => h3 q.2.2)]
        exact this
    · unfold zii
      rw [if_neg (fun q => by have h2 := q.2.1; simp at ht; omega)]
  · refine zc3 (by simp; omega) (j0 _ (fun hf => by cases hf) (fun _ => ?_))
    unfold zii
    rw [if_neg (fun q => h1 q.1)]
theorem zh6 : ∀ (m : Nat) (n : Nat) (s : ByteArray), n ≤ m → s.size + n ≤ 4611686018427387904 → ∃ t, Ev (fun k => zbw k n s) t
  | 0, n, s, h, hs => by
    have e : n = 0 := by omega
    subst e
    refine ⟨(⟨#[109]⟩ : ByteArray) ++ s, Ev.step (f := fun _ => some ((⟨#[109]⟩ : ByteArray) ++ s)) (fun k => ?_) (zce _)⟩
    have hz : (⟨#[109]⟩ : ByteArray).size = 1 := rfl
    simp only [zbw]
    rw [if_neg (by decide), if_pos (by omega)]
  | m + 1, n, s, h, hs => by
    by_cases hn : n = 0
    · exact zh6 m n s (by omega) hs
    · have hsz : (strOfNums [(wrap64 (48 + Int.tmod (n : Int) 10)) % 256]).size = 1 := by
        unfold strOfNums
        rfl
      obtain ⟨t, ht⟩ := zh6 m (n / 10) (strOfNums [(wrap64 (48 + Int.tmod (n : Int) 10)) % 256] ++ s) (by omega) (by rw [ByteArray.size_append, hsz]; omega)
      refine ⟨t, Ev.step (fun k => ?_) ht⟩
      simp only [zbw, Option.bind_some]
      rw [if_pos (by omega), if_pos (by rw [hsz]; omega)]
      congr 1
      have e : Int.tdiv (n : Int) 10 = ((n / 10 : Nat) : Int) := by
        rw [Int.tdiv_eq_ediv_of_nonneg (by omega)]
        omega
      rw [e, w64 (by omega) (by omega)]
theorem zlb (n : Nat) (h : n ≤ 4611686018427387903) : ∃ t, Ev (fun k => zcj k n) t := by
  unfold zcj
  by_cases hn : (n : Int) ≤ 0
  · exact ⟨_, zag hn (zce _)⟩
  · obtain ⟨t, ht⟩ := zh6 n n ⟨#[]⟩ (Nat.le_refl _) (by show 0 + n ≤ _; omega)
    exact ⟨t, zc3 hn ht⟩
open Classical in
noncomputable def mtx (n : Nat) : ByteArray := if h : ∃ t, Ev (fun k => zcj k n) t then Classical.choose h else ⟨#[]⟩
theorem zti (n : Nat) (h : n ≤ 4611686018427387903) : Ev (fun k => zcj k n) (mtx n) := by
  unfold mtx
  rw [dif_pos (zlb n h)]
  exact Classical.choose_spec (zlb n h)
def zf6 : Nat → Nat → List Int
  | 0, _ => []
  | n + 1, a => (a : Int) :: zf6 n (a + 1)
theorem zl8 : ∀ n a, (zf6 n a).length = n
  | 0, _ => rfl
  | n + 1, a => by simp [zf6, zl8 n]
theorem zpr {α : Type} (xs : List α) (y : α) (ys : List α) (v : α) : (xs ++ y :: ys).set xs.length v = (xs ++ [v]) ++ ys := by
  rw [List.set_append_right _ _ (Nat.le_refl _)]
  simp
theorem zmx {α : Type} (xs : List α) (y : α) (ys : List α) (d : α) : (xs ++ y :: ys).getD xs.length d = y := by simp [List.getD]
theorem zoi (l : List Int) (a : Nat) (hl : l.length ≤ 1048576) (ha : a ≤ 33554432) : Ev (fun k => zdg k l a) ((a : Int) + l.length, zf6 l.length a) := by
  have key : ∀ (ys xs : List Int) (b : Nat), xs.length + ys.length ≤ 1048576 → b ≤ 67108864 - ys.length → Ev (fun k => zby k (xs ++ ys) b xs.length) ((b : Int) + ys.length, xs ++ zf6 ys.length b) := by
    intro ys
    induction ys with
    | nil =>
      intro xs b h h'
      refine Ev.step (f := fun _ => some (((b : Int), xs ++ []))) (fun k => ?_) (Ev.some ?_)
      · simp only [zby]
        rw [if_neg (by simp)]
      · simp [zf6]
    | cons y ys ih =>
      intro xs b h h'
      simp only [List.length_cons] at h h'
      have := ih (xs ++ [(b : Int)]) (b + 1) (by simp; omega) (by omega)
      rw [List.append_assoc] at this
      refine Ev.step (fun k => ?_) (zmo this ?_)
      · simp only [zby]
        rw [if_pos (by simp; omega), if_pos (by omega), Int.toNat_natCast, zpr, w64n _ (by omega), w64n _ (by omega), List.append_assoc]
        congr 1
        simp
      · simp only [List.length_cons, zf6, Prod.mk.injEq]
        exact ⟨by omega, by simp⟩
  have := key l [] a (by simpa using hl) (by omega)
  unfold zdg
  simpa using this
theorem zoj (n a : Nat) (hn : n ≤ 1048576) (ha : a ≤ 1048576) : Ev (fun k => zdd k (zf6 n a) a) ((a : Int) + n) := by
  have key : ∀ (d : Nat) (xs : List Int) (b : Nat), xs.length + d ≤ 1048576 → b ≤ 4194304 - d → Ev (fun k => zbv k (xs ++ zf6 d b) b xs.length) ((b : Int) + d) := by
    intro d
    induction d with
    | zero =>
      intro xs b h h'
      refine Ev.step (f := fun _ => some (b : Int)) (fun k => ?_) (Ev.some (by simp))
      simp only [zbv]
      rw [if_neg (by simp [zf6])]
    | succ d ih =>
      intro xs b h h'
      have := ih (xs ++ [(b : Int)]) (b + 1) (by simp; omega) (by omega)
      rw [List.append_assoc] at this
      refine Ev.step (fun k => ?_) (zmo this (by omega))
      have e : rd (xs ++ zf6 (d + 1) b) (xs.length : Nat) = b := by
        unfold rd zf6
        rw [Int.toNat_natCast, zmx]
      simp only [zbv]
      rw [if_pos (by simp [zl8]; omega), if_pos (by omega), e, if_pos rfl, w64n _ (by omega), w64n _ (by omega)]
      congr 1
      simp
  have := key n [] a (by simpa using hn) (by omega)
  unfold zdd
  simpa using this
noncomputable def zlc : Nat → Nat → List Instr
  | 0, _ => []
  | n + 1, a => ⟨mtx a, (a + 1 : Nat), (a + 2 : Nat), (a + 3 : Nat), (a + 4 : Nat)⟩ :: zlc n (a + 5)
theorem zr8 (xs : List Instr) (y : Instr) (ys : List Instr) : zaa (xs ++ y :: ys) (xs.length : Nat) = y := by
  unfold zaa
  rw [Int.toNat_natCast, zmx]
theorem zmy (l : List Instr) (a : Nat) (hl : l.length ≤ 1048576) (ha : a ≤ 11534336) : Ev (fun k => zcs k l a) ((a : Int) + 5 * l.length, zlc l.length a) := by
  have key : ∀ (ys xs : List Instr) (b : Nat), xs.length + ys.length ≤ 1048576 → b ≤ 16777216 - 5 * ys.length → Ev (fun k => za6 k (xs ++ ys) b xs.length) ((b : Int) + 5 * ys.length, xs ++ zlc ys.length b) := by
    intro ys
    induction ys with
    | nil =>
      intro xs b h h'
      refine Ev.step (f := fun _ => some (((b : Int), xs ++ []))) (fun k => ?_) (Ev.some ?_)
      · simp only [za6]
        rw [if_neg (by simp)]
      · simp [zlc]
    | cons y ys ih =>
      intro xs b h h'
      simp only [List.length_cons] at h h'
      have := ih (xs ++ [⟨mtx b, (b + 1 : Nat), (b + 2 : Nat), (b + 3 : Nat), (b + 4 : Nat)⟩]) (b + 5) (by simp; omega) (by omega)
      rw [List.append_assoc] at this
      refine Ev.step (fun k => by simp only [za6]; rfl) ?_
      refine zag (by simp; omega) ?_
      refine Ev.bind (zti b (by omega)) ?_
      refine zag (by omega) ?_
      refine zk8 (fun k => ?_) (zmo this ?_)
      · simp only [Option.bind_some, Int.toNat_natCast, zpr, zr8, List.append_assoc, List.singleton_append]
        rw [w64n b (by omega), w64n (b + 1) (by omega), w64n (b + 2) (by omega), w64n (b + 3) (by omega), w64n (b + 4) (by omega), w64n _ (by omega)]
        congr 1
        simp
      · simp only [List.length_cons, zlc, Prod.mk.injEq]
        exact ⟨by omega, by simp⟩
  have := key l [] a (by simpa using hl) (by omega)
  unfold zcs
  simpa using this
theorem zr9 {xs : List (List Instr)} {i : Nat} {x : List Instr} (h : ∀ d, xs.getD i d = x) : zei xs i = x := by
  unfold zei
  rw [Int.toNat_natCast]
  exact h _
theorem zps (l : List (List Instr)) (hl : l.length ≤ 1048576) (hb : ∀ x ∈ l, x.length ≤ 1048576) : Ev (fun k => zcy k l l) true := by
  unfold zcy
  refine zag rfl ?_
  have key : ∀ (d i : Nat), i + d = l.length → Ev (fun k => zbg k l l i) true := by
    intro d
    induction d with
    | zero =>
      intro i hi
      refine Ev.step (f := fun _ => some true) (fun k => ?_) (zce _)
      simp only [zbg]
      rw [if_neg (by omega)]
    | succ d ih =>
      intro i hi
      have hlt : i < l.length := by omega
      refine Ev.step (fun k => by simp only [zbg, zr9 (zfe l i hlt)]; rfl) (zag (by omega) (zag (by omega) (zag (by omega) (Ev.bind (zmp _ (hb _ (List.getElem_mem hlt))) (zag rfl ?_)))))
      rw [w64n i (by omega)]
      exact ih (i + 1) (by omega)
  exact key l.length 0 (by omega)
noncomputable def zld : List (List Instr) → Nat → List (List Instr)
  | [], _ => []
  | x :: xs, a => zlc x.length a :: zld xs (a + 5 * x.length)
def cntI : List (List Instr) → Nat
  | [] => 0
  | x :: xs => 5 * x.length + cntI xs
theorem zle (x : List Instr) (xs : List (List Instr)) : cntI (x :: xs) = 5 * x.length + cntI xs := rfl
theorem znq (x : List Instr) (xs : List (List Instr)) (a : Nat) : zld (x :: xs) a = zlc x.length a :: zld xs (a + 5 * x.length) := rfl
theorem zpt {xs : List (List Int)} {i : Nat} {x : List Int} (h : ∀ d, xs.getD i d = x) : zaz xs i = x := by
  unfold zaz
  rw [Int.toNat_natCast]
  exact h _
theorem zpv (l : List (List Int)) (hl : l.length ≤ 1048576) (hb : ∀ x ∈ l, x.length ≤ 1048576) : Ev (fun k => zdp k l l) true := by
  unfold zdp
  refine zag rfl ?_
  have key : ∀ (d i : Nat), i + d = l.length → Ev (fun k => zb3 k l l i) true := by
    intro d
    induction d with
    | zero =>
      intro i hi
      refine Ev.step (f := fun _ => some true) (fun k => ?_) (zce _)
      simp only [zb3]
      rw [if_neg (by omega)]
    | succ d ih =>
      intro i hi
      have hlt : i < l.length := by omega
      refine Ev.step (fun k => by simp only [zb3, zpt (zfe l i hlt)]; rfl) (zag (by omega) (zag (by omega) (zag (by omega) (Ev.bind (zod _ (hb _ (List.getElem_mem hlt))) (zag rfl ?_)))))
      rw [w64n i (by omega)]
      exact ih (i + 1) (by omega)
  exact key l.length 0 (by omega)
def zh7 : List (List Int) → Nat → List (List Int)
  | [], _ => []
  | x :: xs, a => zf6 x.length a :: zh7 xs (a + x.length)
def cntN : List (List Int) → Nat
  | [] => 0
  | x :: xs => x.length + cntN xs
theorem zjy (x : List Int) (xs : List (List Int)) : cntN (x :: xs) = x.length + cntN xs := rfl
theorem zkv (x : List Int) (xs : List (List Int)) (a : Nat) : zh7 (x :: xs) a = zf6 x.length a :: zh7 xs (a + x.length) := rfl
theorem zpw (l : List (List Int)) (a : Nat) (hl : l.length ≤ 1048576) (h : a + cntN l ≤ 1048576) : Ev (fun k => zc0 k l a) (((a + cntN l : Nat) : Int), zh7 l a) := by
  have key : ∀ (l : List (List Int)) (a : Nat), a + cntN l ≤ 1048576 → Ev (fun k => zcc k l a) (((a + cntN l : Nat) : Int), zh7 l a) := by
    intro l
    induction l with
    | nil => intro a h; exact zce _
    | cons x xs ih =>
      intro a h
      rw [zjy] at h
      refine Ev.bind (zoi x a (by omega) (by omega)) ?_
      have := ih (a + x.length) (by omega)
      rw [show ((a + x.length : Nat) : Int) = (a : Int) + x.length by omega] at this
      refine Ev.bind this (Ev.some ?_)
      rw [zjy, zkv, Nat.add_assoc]
  unfold zc0
  exact zag hl (key l a h)
theorem zpx (l : List (List Int)) (a : Nat) (hl : l.length ≤ 1048576) (h : a + cntN l ≤ 1048576) : Ev (fun k => zcz k (zh7 l a) a) ((a + cntN l : Nat) : Int) := by
  unfold zcz
  have key : ∀ (r : List (List Int)) (pre : List (List Int)) (b : Nat), pre.length + r.length ≤ 1048576 → b + cntN r ≤ 1048576 → Ev (fun k => zbi k (pre ++ zh7 r b) b pre.length) ((b + cntN r : Nat) : Int) := by
    intro r
    induction r with
    | nil =>
      intro pre b h1 h2
      refine Ev.step (f := fun _ => some (b : Int)) (fun k => ?_) (Ev.some rfl)
      simp only [zbi]
      rw [if_neg (by simp [zh7])]
    | cons x xs ih =>
      intro pre b h1 h2
      rw [zjy] at h2
      simp only [List.length_cons] at h1
      have next := ih (pre ++ [zf6 x.length b]) (b + x.length) (by rw [List.length_append, List.length_singleton]; omega) (by omega)
      rw [List.append_assoc, List.length_append, List.length_singleton] at next
      rw [zkv]
      have e : zaz (pre ++ zf6 x.length b :: zh7 xs (b + x.length)) (pre.length : Nat) = zf6 x.length b := zpt (fun d => zmx _ _ _ _)
      refine Ev.step (fun k => by simp only [zbi]; rfl) (zag (by rw [List.length_append, List.length_cons]; omega) (zag (by omega) ?_))
      rw [e]
      refine Ev.bind (zoj x.length b (by omega) (by omega)) (zc3 (by omega) ?_)
      rw [w64n _ (by omega), show (b : Int) + (x.length : Int) = ((b + x.length : Nat) : Int) by omega]
      refine zmo next ?_
      rw [zjy, Nat.add_assoc]
  exact key l [] a (by simpa using hl) h
end Go.Proofs.Ytppljcmkilmgmaa.PL
end
section
namespace Go.Proofs.Ytppljcmkilmgmaa.PL
open Go Go.RowKit Go.Proofs.YtppljcmkilmgmaaW.PrintWords Go.Proofs.YtppljcmkilmgmaaW.PrintLast Go.Proofs.YtppljcmkilmgmaaW.PrintMore Go.Proofs.Ytppljcmkilmgmaa.Q
set_option linter.unusedSimpArgs false
set_option linter.unusedVariables false
theorem zpy {xs : List (List ziy)} {i : Nat} {x : List ziy} (h : ∀ d, xs.getD i d = x) : zjo xs i = x := by
  unfold zjo
  rw [Int.toNat_natCast]
  exact h _
def lens : List (List ziy) → Nat
  | [] => 0
  | x :: xs => x.length + lens xs
theorem zos : ∀ (l : List (List ziy)) (x : List ziy), x ∈ l → x.length ≤ lens l
  | y :: ys, x, h => by
    unfold lens
    rcases List.mem_cons.1 h with rfl | h
    · omega
    · have := zos ys x h
      omega
theorem zsa (l : List ziy) (a : Int) (hl : Rd.okSl zmn l) (h0 : 0 ≤ a) (h1 : a ≤ 1048576) :
    ∃ r, Ev (fun k => zcw k l a) r ∧ (0 ≤ r → (l.length : Int) + r ≤ a) := by
  obtain ⟨hl1, hl2⟩ := hl
  unfold maxLen at hl1
  by_cases h : a < l.length
  · refine ⟨-1, ?_, fun h => absurd h (by decide)⟩
    unfold zcw
    rw [w64 (by omega) (by omega)]
    exact zag (by omega) (zce _)
  · have key : ∀ (d i : Nat) (r : Int), i + d = l.length → 0 ≤ r → r ≤ a → ∃ q, Ev (fun k => za7 k l r i) q ∧ q ≤ r := by
      intro d
      induction d with
      | zero =>
        intro i r hi hr _
        refine ⟨r, Ev.step (f := fun _ => some r) (fun k => ?_) (zce _), by omega⟩
        simp only [za7]
        rw [if_neg (by omega)]
      | succ d ih =>
        intro i r hi hr hra
        have hlt : i < l.length := by omega
        have hx := zrh (zfe l i hlt)
        have hsz := (hl2 l[i] (List.getElem_mem hlt)).1
        by_cases hb : r < l[i].f0.size
        · refine ⟨-1, Ev.step (f := fun _ => some (-1)) (fun k => ?_) (zce _), by omega⟩
          simp only [za7]
          rw [if_pos (by omega), if_pos (by omega), hx, zl3 _ _ _ _ _ _ hsz hr (by omega), if_pos hb]
          rfl
        · obtain ⟨q, hq, hqa⟩ := ih (i + 1) (r - l[i].f0.size) (by omega) (by omega) (by omega)
          refine ⟨q, Ev.step (f := fun k => za7 k l (r - l[i].f0.size) ((i + 1 : Nat) : Int)) (fun k => ?_) hq, by omega⟩
          simp only [za7]
          rw [if_pos (by omega), if_pos (by omega), hx, zl3 _ _ _ _ _ _ hsz hr (by omega), if_neg hb, Option.bind_some, if_neg (by omega), w64n i (by omega)]
    obtain ⟨q, hq, hqa⟩ := key l.length 0 (a - l.length) (by omega) (by omega) (by omega)
    refine ⟨q, ?_, fun h' => by omega⟩
    unfold zcw
    rw [w64 (by omega) (by omega)]
    exact zc3 (by omega) (by simpa using hq)
theorem zsb (l : List (List ziy)) (a : Int) (hl : Rd.okSl (Rd.okSl zmn) l) (h0 : 0 ≤ a) (h1 : a ≤ 1048576) :
    ∃ r, Ev (fun k => zcm k l a) r ∧ (0 ≤ r → (l.length : Int) + lens l ≤ a) := by
  obtain ⟨hl1, hl2⟩ := hl
  unfold maxLen at hl1
  by_cases h : a < l.length
  · refine ⟨-1, ?_, fun h => absurd h (by decide)⟩
    unfold zcm
    rw [w64 (by omega) (by omega)]
    exact zag (by omega) (zce _)
  · have key : ∀ (d i : Nat) (r : Int), i + d = l.length → 0 ≤ r → r ≤ a → ∃ q, Ev (fun k => za5 k l r i) q ∧ (0 ≤ q → (lens (l.drop i) : Int) + q ≤ r) := by
      intro d
      induction d with
      | zero =>
        intro i r hi hr _
        refine ⟨r, Ev.step (f := fun _ => some r) (fun k => ?_) (zce _), fun _ => ?_⟩
        · simp only [za5]
          rw [if_neg (by omega)]
        · rw [List.drop_of_length_le (by omega)]
          simp [lens]
      | succ d ih =>
        intro i r hi hr hra
        have hlt : i < l.length := by omega
        have e : l.drop i = l[i] :: l.drop (i + 1) := List.drop_eq_getElem_cons hlt
        have hx := zpy (zfe l i hlt)
        obtain ⟨q1, hq1, hs1⟩ := zsa l[i] r (hl2 l[i] (List.getElem_mem hlt)) hr (by omega)
        by_cases hb : q1 < 0
        · exact ⟨-1, Ev.step (fun k => by simp only [za5, hx]; rfl) (zag (by omega) (zag (by omega) (Ev.bind hq1 (zag hb (zce _))))), fun h => absurd h (by decide)⟩
        · have hs := hs1 (by omega)
          obtain ⟨q, hq, hq'⟩ := ih (i + 1) q1 (by omega) (by omega) (by omega)
          refine ⟨q, Ev.step (fun k => by simp only [za5, hx]; rfl) (zag (by omega) (zag (by omega) (Ev.bind hq1 (zc3 hb ?_)))), fun h => ?_⟩
          · rw [w64n i (by omega)]
            exact hq
          · rw [e]
            have := hq' h
            show ((l[i].length + lens (l.drop (i + 1)) : Nat) : Int) + q ≤ r
            omega
    obtain ⟨q, hq, hq'⟩ := key l.length 0 (a - l.length) (by omega) (by omega) (by omega)
    refine ⟨q, ?_, fun h' => by have := hq' h'; rw [List.drop_zero] at this; omega⟩
    unfold zcm
    rw [w64 (by omega) (by omega)]
    exact zc3 (by omega) (by simpa using hq)
theorem zsc (l : List (List ziy)) (hl : l.length ≤ 1048576) (hb : ∀ x ∈ l, x.length ≤ 1048576) : Ev (fun k => zc1 k l) (l.map fun x => x.map cvI) := by
  have key : ∀ (d i : Nat), i + d = l.length → Ev (fun k => zbj k l ((l.take i).map (fun x => x.map cvI) ++ List.replicate d []) i) (l.map fun x => x.map cvI) := by
    intro d
    induction d with
    | zero =>
      intro i hi
      refine Ev.step (f := fun _ => some _) (fun k => ?_) (zce _)
      simp only [zbj]
      rw [if_neg (by omega), List.take_of_length_le (by omega)]
      simp
    | succ d ih =>
      intro i hi
      have hlt : i < l.length := by omega
      have hx := zpy (zfe l i hlt)
      refine Ev.step (fun k => by simp only [zbj, hx]; rfl) (zag (by omega) (zag (by omega) (Ev.bind (zoc l[i] (hb _ (List.getElem_mem hlt))) ?_)))
      refine zag (by simp; omega) ?_
      rw [w64n i (by omega)]
      refine zk8 (fun k => ?_) (ih (i + 1) (by omega))
      congr 1
      have e : ((i : Int)).toNat = ((l.take i).map (fun x => x.map cvI)).length := by simp; omega
      rw [e]
      have := zoq ((l.take i).map (fun x => x.map cvI)) (List.replicate d ([] : List Instr)) [] (l[i].map cvI)
      simp only [List.length_replicate] at this
      rw [this]
      congr 1
      rw [List.take_succ_eq_append_getElem hlt, List.map_append]
      rfl
  unfold zc1
  refine zag (by omega) (zag (by simp; omega) ?_)
  simpa using key l.length 0 (by omega)
theorem zo0 (l : List (List Instr)) (a : Nat) (hl : l.length ≤ 1048576) (hb : ∀ x ∈ l, x.length ≤ 1048576) (h : a + cntI l ≤ 11534336) : Ev (fun k => zcf k l a) (((a + cntI l : Nat) : Int), zld l a) := by
  have key : ∀ (l : List (List Instr)) (a : Nat), (∀ x ∈ l, x.length ≤ 1048576) → a + cntI l ≤ 11534336 → Ev (fun k => zb0 k l a) (((a + cntI l : Nat) : Int), zld l a) := by
    intro l
    induction l with
    | nil => intro a _ h; exact zce _
    | cons x xs ih =>
      intro a hb h
      rw [zle] at h
      refine Ev.bind (zmy x a (hb x (List.mem_cons_self ..)) (by omega)) ?_
      have := ih (a + 5 * x.length) (fun y hy => hb y (List.mem_cons_of_mem _ hy)) (by omega)
      rw [show ((a + 5 * x.length : Nat) : Int) = (a : Int) + 5 * x.length by omega] at this
      refine Ev.bind this (Ev.some ?_)
      rw [zle, znq, Nat.add_assoc]
  unfold zcf
  exact zag hl (key l a hb h)
theorem znr : ∀ l : List (List ziy), cntI (l.map fun x => x.map cvI) = 5 * lens l
  | [] => rfl
  | x :: xs => by
    rw [List.map_cons, zle, znr xs, List.length_map, show lens (x :: xs) = x.length + lens xs from rfl]
    omega
theorem zpz (r : Int) : ∀ (bs : List (List Instr)) (is : List Nat) (m : Nat), (∀ i ∈ is, i < 4096) → bs.length ≤ m → (allT r bs is).length ≤ is.length + bs.length * m
  | [], is, _, _, _ => Nat.le_add_right _ _
  | a :: bs, is, m, h, hm => by
    rw [List.length_cons] at hm ⊢
    rw [Nat.succ_mul]
    obtain ⟨h1, h2⟩ := zmw r a bs is h
    have := zpz r bs _ m h1 (by omega)
    show (allT r bs (rowT r a bs is)).length ≤ _
    omega
theorem zp0 (bs : List (List Instr)) (r : Int) : (zii bs r).1.length ≤ 36 ∧ ∀ x ∈ (zii bs r).1, x.length = 2 := by
  unfold zii
  by_cases h : (1 ≤ bs.length ∧ bs.length ≤ 6) ∧ (0 ≤ r ∧ r ≤ 5) ∧ bs.all zd9 = true
  · rw [if_pos h]
    have := zpz r bs [] 6 (fun i hi => by simp at hi) h.1.2
    refine ⟨?_, fun x hx => ?_⟩
    · rw [List.length_map]
      simp only [List.length_nil] at this
      omega
    · obtain ⟨i, _, rfl⟩ := List.mem_map.1 hx
      rfl
  · rw [if_neg h]
    exact ⟨by simp, fun x hx => by simp at hx⟩
theorem zot : ∀ (l : List (List Int)), (∀ x ∈ l, x.length = 2) → cntN l = 2 * l.length
  | [], _ => rfl
  | x :: xs, h => by
    have h1 := h x (List.mem_cons_self ..)
    have h2 := zot xs (fun y hy => h y (List.mem_cons_of_mem _ hy))
    rw [List.length_cons]
    unfold cntN
    omega
end Go.Proofs.Ytppljcmkilmgmaa.PL
namespace Go.Proofs.Ytppljcmkilmgmaa.Pure
open Go Go.RowKit Go.Proofs.YtppljcmkilmgmaaW.PrintWords Go.Proofs.YtppljcmkilmgmaaW.PrintLast Go.Proofs.YtppljcmkilmgmaaW.PrintMore Go.Proofs.Ytppljcmkilmgmaa.Q Go.Proofs.Ytppljcmkilmgmaa.PL
set_option linter.unusedSimpArgs false
set_option linter.unusedVariables false
theorem FnExactTestsFor : laws_FnExactTestsFor.Pure := by
  intro bs0 n h0 h1
  show ∃ k, zch k bs0 n = some true
  refine zqd (g := fun k => zch k bs0 n) ?_
  unfold zch
  obtain ⟨r, hr, hr'⟩ := zsb bs0 1048576 h0 (by decide) (by decide)
  refine Ev.bind hr ?_
  by_cases hn : r < 0
  · exact zag hn (zce _)
  have hs := hr' (by omega)
  have b0 : bs0.length ≤ 1048576 := by omega
  have b1 : ∀ x ∈ bs0, x.length ≤ 1048576 := fun x hx => by have := zos bs0 x hx; omega
  refine zc3 hn (Ev.bind (zsc bs0 b0 b1) ?_)
  have hc := znr bs0
  obtain ⟨bs, hbs⟩ : ∃ bs, bs = bs0.map fun x => x.map cvI := ⟨_, rfl⟩
  rw [← hbs] at hc ⊢
  have c0 : bs.length ≤ 1048576 := by rw [hbs, List.length_map]; exact b0
  have c1 : ∀ x ∈ bs, x.length ≤ 1048576 := fun x hx => by
    rw [hbs] at hx
    obtain ⟨y, hy, rfl⟩ := List.mem_map.1 hx
    rw [List.length_map]
    exact b1 y hy
  obtain ⟨t1, t2⟩ := zp0 bs n
  have t3 := zot _ t2
  refine Ev.bind (zpp bs n) (Ev.bind (zpo bs n c0) ?_)
  refine Ev.bind (zpv _ (by omega) (fun x hx => by have := t2 x hx; omega)) (Ev.bind (zps bs c0 c1) ?_)
  refine Ev.bind (zo0 bs 1 c0 c1 (by omega)) (Ev.bind (zpw _ 1 (by omega) (by omega)) (Ev.bind (zpx _ 1 (by omega) (by omega)) ?_))
  exact zag ⟨rfl, rfl, rfl, by show (0 : Int) ≤ ((1 + cntI bs : Nat) : Int); omega, rfl, by omega⟩ (zce _)
end Go.Proofs.Ytppljcmkilmgmaa.Pure
end
