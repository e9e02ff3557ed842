/- Proved here: contracts of functions that the law FnBestSchedules reaches, and lemmas on what they compute; texts of this session and the printed words of the kit that they lean on, cut down and put together by its program link.py. Conditions: as each states. -/
import Derived.Test.YtabnafbgcpchdaaGreatZFnBestSchedules1
import Derived.Test.YtabnafbgcpchdaaGreatZFnBestSchedules2
section
namespace Go.Proofs.YtabnafbgcpchdaaGreat.Q
open Go.RowKit Go.Proofs.YtabnafbgcpchdaaGreatW.PrintWords Go.Proofs.YtabnafbgcpchdaaGreatW.PrintLast Go.Proofs.YtabnafbgcpchdaaGreatW.PrintMore
set_option maxHeartbeats 8000000
set_option maxRecDepth 100000
attribute [local go_sem] zjj zjk zla zlb zh8 zh9 zjl zjm
set_option linter.unusedVariables false
set_option linter.unusedSimpArgs false
def zbj : Nat → Int → Int → List (List Int) → List Int → Int → Int → Option (Bool)
 | 0, _, _, _, _, _, _ => none
 | k + 1, x0, x1, x3, x12, x13, x14 => if x14 < x13 then (if 0 ≤ x14 then (if x14 < (x12.length : Int) then (if (rd x12 x14) ≥ 0 then (if 0 < (x3.length : Int) then (if x14 < ((za1 x3 0).length : Int) then (if (rd (za1 x3 0) x14) < 0 then (some false) else (if (wrap64 ((rd (za1 x3 0) x14) + (rd x12 x14))) > x1 then (some false) else (zbj k x0 x1 x3 x12 x13 (wrap64 (x14 + 1))))) else (none)) else (none)) else (zbj k x0 x1 x3 x12 x13 (wrap64 (x14 + 1)))) else (none)) else (none)) else (if 0 < (x3.length : Int) then (if 0 ≤ x0 then (if x0 < ((za1 x3 0).length : Int) then (some (decide ((rd (za1 x3 0) x0) < 0))) else (none)) else (none)) else (none))
def zdq (k : Nat) (a0 : Int) (a1 : Int) (l2 : List (List (List Int))) (l3 : List (List Int)) : Option (Bool) := if 0 < (l2.length : Int) then (if 0 ≤ a0 then (if a0 < ((zo7 l2 0).length : Int) then (zbj k a0 a1 l3 (za1 (zo7 l2 0) a0) ((za1 (zo7 l2 0) a0).length : Int) 0) else (none)) else (none)) else (none)
theorem zi8 : ∀ k, (∀ y0 y1 y2 y3 y4 y5, LeO (zbj k y0 y1 y2 y3 y4 y5) (zbj (k + 1) y0 y1 y2 y3 y4 y5))
 | 0 => fun _ _ _ _ _ _ r h => by simp [zbj] at h
 | k + 1 => by
   have ih0 := zi8 k
   · intro y0 y1 y2 y3 y4 y5
     unfold zbj
     exact zm1 ih0
theorem zfh : ∀ a0 a1 a2 a3 k, LeO (zdq k a0 a1 a2 a3) (zdq (k + 1) a0 a1 a2 a3) := by
 intro a0 a1 a2 a3 k
 have ih0 := zi8 k
 unfold zdq
 exact zm1 ih0
theorem zf7 (k : Nat) (a0 : Int) (a1 : Int) (A2 : Option Addr) (c2 : Nat) (l2 : List (List (List Int))) (A3 : Option Addr) (c3 : Nat) (l3 : List (List Int)) (r : Bool) (w : World) (hr2 : Kd.C (Kd.slice 25 (Kd.slice 3 (Kd.int .i64))) w A2 l2.length l2) (hc2 : l2.length ≤ c2) (hr3 : Kd.C (Kd.slice 3 (Kd.int .i64)) w A3 l3.length l3) (hc3 : l3.length ≤ c3) (h : zdq k a0 a1 l2 l3 = some r) :
   Calls Tryz.prog 84 #[.int .i64 a0, .int .i64 a1, .pointer A2, .pointer A3] w fun e w' => e = .returned (.bool r) ∧ Drawn0 w w' := by
 have HR2 := zA hr2
 have HC2 := zA hc2
 clear hr2 hc2
 have HR3 := zA hr3
 have HC3 := zA hc3
 clear hr3 hc3
 have H := h
 unfold zdq at H
 clear h
 by_cases c5 : 0 < (l2.length : Int)
 rotate_left
 · rw [if_neg c5] at H
   exact absurd H (by simp)
 rw [if_pos c5] at H
 have c5b0 := zdt c5
 have c5b1 : decide (0 < l2.length) = true := zdt (by omega)
 clear c5
 revert H
 refine zin fun c6 H => ?_
 revert H
 refine zin fun c7 H => ?_
 have H' := zA H
 clear H
 have p101 : 0 ≤ (0 : Int) := (by omega)
 have q101 : 0 < (l2.length : Int) := zde zq21
 obtain ⟨ad101, A101_0, c101_0, e101, hx101_0, hl101_0, hi101_0⟩ := at_L8 HR2.out 0 p101 q101
 cases e101
 have qi101 : (0 < l2.length) = True := eq_true (by omega)
 (try rw [show ((0 : Int)).toNat = 0 from rfl] at hx101_0)
 (try rw [Addr.add_zero'] at hx101_0)
 have HR101_0 := zA hi101_0
 have HC101_0 := zA hl101_0
 clear hi101_0 hl101_0
 replace p101 := eq_true p101
 replace q101 := eq_true q101
 have p102 : 0 ≤ (a0 : Int) := zde zq21
 have q102 : a0 < ((zo7 l2 0).length : Int) := zde zq21
 obtain ⟨ad102, A102_0, c102_0, e102, hx102_0, hl102_0, hi102_0⟩ := zkm HR101_0.out a0 p102 q102
 cases e102
 have HR102_0 := zA hi102_0
 have HC102_0 := zA hl102_0
 clear hi102_0 hl102_0
 replace p102 := eq_true p102
 replace q102 := eq_true q102
 go_enter Tryz.func84, Tryz.ntmps84
 go_wp2
 go_loopg [14] k (fun kq v14 w' => ∃ (x14_1 : Int), v14 = .int .i64 x14_1 ∧ Aside0 (zbj kq a0 a1 l3 (za1 (zo7 l2 0) a0) ((za1 (zo7 l2 0) a0).length : Int) x14_1 = some r) ∧ Aside0 (kq ≤ k) ∧ Drawn0 w w')
 case atStart => exact ⟨(0), zq8, H', ⟨zlr _⟩, zq14⟩
 clear H'
 obtain ⟨x14_1, rfl, HA, HK1, ⟨m1, rfl⟩⟩ := hrel
 cases gk with
 | zero => exact absurd HA.out (by simp [zbj])
 | succ k1 =>
 have H := HA.out
 clear HA
 simp only [zbj] at H
 revert H
 refine zit (fun c8 H => ?_) fun c8 H => ?_
 rotate_left
 · by_cases c16 : 0 < (l3.length : Int)
   rotate_left
   · rw [if_neg c16] at H
     exact absurd H (by simp)
   rw [if_pos c16] at H
   have c16b0 := zdt c16
   have c16b1 : decide (0 < l3.length) = true := zdt (by omega)
   clear c16
   revert H
   refine zin fun c17 H => ?_
   revert H
   refine zin fun c18 H => ?_
   obtain rfl := zsi H
   have p108 : 0 ≤ (0 : Int) := (by omega)
   have q108 : 0 < (l3.length : Int) := zde zq21
   obtain ⟨ad108, A108_0, c108_0, e108, hx108_0, hl108_0, hi108_0⟩ := zkm HR3.out 0 p108 q108
   cases e108
   have qi108 : (0 < l3.length) = True := eq_true (by omega)
   (try rw [show ((0 : Int)).toNat = 0 from rfl] at hx108_0)
   (try rw [Addr.add_zero'] at hx108_0)
   have HR108_0 := zA hi108_0
   have HC108_0 := zA hl108_0
   clear hi108_0 hl108_0
   replace p108 := eq_true p108
   replace q108 := eq_true q108
   have p109 : 0 ≤ (a0 : Int) := zde zq21
   have q109 : a0 < ((za1 l3 0).length : Int) := zde zq21
   obtain ⟨ad109, e109, hx109_0⟩ := Kd.at_int HR108_0.out a0 p109 q109
   cases e109
   replace p109 := eq_true p109
   replace q109 := eq_true q109
   exact zr_5
 revert H
 refine zin fun c9 H => ?_
 revert H
 refine zin fun c10 H => ?_
 by_cases c11 : (rd (za1 (zo7 l2 0) a0) x14_1) ≥ 0
 rotate_left
 · rw [if_neg c11] at H
   have c11b0 := zdf c11
   clear c11
   have H' := zA H
   clear H
   have p103 : 0 ≤ (x14_1 : Int) := zde zq21
   have q103 : x14_1 < ((za1 (zo7 l2 0) a0).length : Int) := zde zq21
   obtain ⟨ad103, e103, hx103_0⟩ := Kd.at_int HR102_0.out x14_1 p103 q103
   cases e103
   replace p103 := eq_true p103
   replace q103 := eq_true q103
   go_wp2
   go_roundg k1
   case measure => have := HK1.out; omega
   case rel => exact ⟨(wrap64 (x14_1 + 1)), zq8, H', ⟨zq46 HK1⟩, zq14⟩
 rw [if_pos c11] at H
 have c11b0 := zdt c11
 clear c11
 by_cases c12 : 0 < (l3.length : Int)
 rotate_left
 · rw [if_neg c12] at H
   exact absurd H (by simp)
 rw [if_pos c12] at H
 have c12b0 := zdt c12
 have c12b1 : decide (0 < l3.length) = true := zdt (by omega)
 clear c12
 revert H
 refine zin fun c13 H => ?_
 revert H
 refine zit (fun c14b0 H => ?_) fun c14b0 H => ?_
 · obtain rfl := zsi H
   have p103 : 0 ≤ (x14_1 : Int) := zde zq21
   have q103 : x14_1 < ((za1 (zo7 l2 0) a0).length : Int) := zde zq21
   obtain ⟨ad103, e103, hx103_0⟩ := Kd.at_int HR102_0.out x14_1 p103 q103
   cases e103
   replace p103 := eq_true p103
   replace q103 := eq_true q103
   have p104 : 0 ≤ (0 : Int) := (by omega)
   have q104 : 0 < (l3.length : Int) := zde zq21
   obtain ⟨ad104, A104_0, c104_0, e104, hx104_0, hl104_0, hi104_0⟩ := zkm HR3.out 0 p104 q104
   cases e104
   have qi104 : (0 < l3.length) = True := eq_true (by omega)
   (try rw [show ((0 : Int)).toNat = 0 from rfl] at hx104_0)
   (try rw [Addr.add_zero'] at hx104_0)
   have HR104_0 := zA hi104_0
   have HC104_0 := zA hl104_0
   clear hi104_0 hl104_0
   replace p104 := eq_true p104
   replace q104 := eq_true q104
   have p105 : 0 ≤ (x14_1 : Int) := zde zq21
   have q105 : x14_1 < ((za1 l3 0).length : Int) := zde zq21
   obtain ⟨ad105, e105, hx105_0⟩ := Kd.at_int HR104_0.out x14_1 p105 q105
   cases e105
   replace p105 := eq_true p105
   replace q105 := eq_true q105
   exact zr_5
 revert H
 refine zit (fun c15b0 H => ?_) fun c15b0 H => ?_
 · obtain rfl := zsi H
   have p103 : 0 ≤ (x14_1 : Int) := zde zq21
   have q103 : x14_1 < ((za1 (zo7 l2 0) a0).length : Int) := zde zq21
   obtain ⟨ad103, e103, hx103_0⟩ := Kd.at_int HR102_0.out x14_1 p103 q103
   cases e103
   replace p103 := eq_true p103
   replace q103 := eq_true q103
   have p104 : 0 ≤ (0 : Int) := (by omega)
   have q104 : 0 < (l3.length : Int) := zde zq21
   obtain ⟨ad104, A104_0, c104_0, e104, hx104_0, hl104_0, hi104_0⟩ := zkm HR3.out 0 p104 q104
   cases e104
   have qi104 : (0 < l3.length) = True := eq_true (by omega)
   (try rw [show ((0 : Int)).toNat = 0 from rfl] at hx104_0)
   (try rw [Addr.add_zero'] at hx104_0)
   have HR104_0 := zA hi104_0
   have HC104_0 := zA hl104_0
   clear hi104_0 hl104_0
   replace p104 := eq_true p104
   replace q104 := eq_true q104
   have p105 : 0 ≤ (x14_1 : Int) := zde zq21
   have q105 : x14_1 < ((za1 l3 0).length : Int) := zde zq21
   obtain ⟨ad105, e105, hx105_0⟩ := Kd.at_int HR104_0.out x14_1 p105 q105
   cases e105
   replace p105 := eq_true p105
   replace q105 := eq_true q105
   have p106 : 0 ≤ (0 : Int) := (by omega)
   have q106 : 0 < (l3.length : Int) := zde zq21
   obtain ⟨ad106, A106_0, c106_0, e106, hx106_0, hl106_0, hi106_0⟩ := zkm HR3.out 0 p106 q106
   obtain rfl : ad104 = ad106 := (by injection e106)
   have qi106 : (0 < l3.length) = True := eq_true (by omega)
   (try rw [show ((0 : Int)).toNat = 0 from rfl] at hx106_0)
   (try rw [Addr.add_zero'] at hx106_0)
   have HR106_0 := zA hi106_0
   have HC106_0 := zA hl106_0
   clear hi106_0 hl106_0
   replace p106 := eq_true p106
   replace q106 := eq_true q106
   have ea_ := zsi (hx104_0.symm.trans hx106_0)
   injection ea_ with ea_ en_ ec_
   subst ea_
   subst ec_
   clear en_
   have p107 : 0 ≤ (x14_1 : Int) := zde zq21
   have q107 : x14_1 < ((za1 l3 0).length : Int) := zde zq21
   obtain ⟨ad107, e107, hx107_0⟩ := Kd.at_int HR106_0.out x14_1 p107 q107
   cases e107
   replace p107 := eq_true p107
   replace q107 := eq_true q107
   exact zr_5
 have H' := zA H
 clear H
 have p103 : 0 ≤ (x14_1 : Int) := zde zq21
 have q103 : x14_1 < ((za1 (zo7 l2 0) a0).length : Int) := zde zq21
 obtain ⟨ad103, e103, hx103_0⟩ := Kd.at_int HR102_0.out x14_1 p103 q103
 cases e103
 replace p103 := eq_true p103
 replace q103 := eq_true q103
 have p104 : 0 ≤ (0 : Int) := (by omega)
 have q104 : 0 < (l3.length : Int) := zde zq21
 obtain ⟨ad104, A104_0, c104_0, e104, hx104_0, hl104_0, hi104_0⟩ := zkm HR3.out 0 p104 q104
 cases e104
 have qi104 : (0 < l3.length) = True := eq_true (by omega)
 (try rw [show ((0 : Int)).toNat = 0 from rfl] at hx104_0)
 (try rw [Addr.add_zero'] at hx104_0)
 have HR104_0 := zA hi104_0
 have HC104_0 := zA hl104_0
 clear hi104_0 hl104_0
 replace p104 := eq_true p104
 replace q104 := eq_true q104
 have p105 : 0 ≤ (x14_1 : Int) := zde zq21
 have q105 : x14_1 < ((za1 l3 0).length : Int) := zde zq21
 obtain ⟨ad105, e105, hx105_0⟩ := Kd.at_int HR104_0.out x14_1 p105 q105
 cases e105
 replace p105 := eq_true p105
 replace q105 := eq_true q105
 have p106 : 0 ≤ (0 : Int) := (by omega)
 have q106 : 0 < (l3.length : Int) := zde zq21
 obtain ⟨ad106, A106_0, c106_0, e106, hx106_0, hl106_0, hi106_0⟩ := zkm HR3.out 0 p106 q106
 obtain rfl : ad104 = ad106 := (by injection e106)
 have qi106 : (0 < l3.length) = True := eq_true (by omega)
 (try rw [show ((0 : Int)).toNat = 0 from rfl] at hx106_0)
 (try rw [Addr.add_zero'] at hx106_0)
 have HR106_0 := zA hi106_0
 have HC106_0 := zA hl106_0
 clear hi106_0 hl106_0
 replace p106 := eq_true p106
 replace q106 := eq_true q106
 have ea_ := zsi (hx104_0.symm.trans hx106_0)
 injection ea_ with ea_ en_ ec_
 subst ea_
 subst ec_
 clear en_
 have p107 : 0 ≤ (x14_1 : Int) := zde zq21
 have q107 : x14_1 < ((za1 l3 0).length : Int) := zde zq21
 obtain ⟨ad107, e107, hx107_0⟩ := Kd.at_int HR106_0.out x14_1 p107 q107
 cases e107
 replace p107 := eq_true p107
 replace q107 := eq_true q107
 go_wp2
 go_roundg k1
 case measure => have := HK1.out; omega
 case rel => exact ⟨(wrap64 (x14_1 + 1)), zq8, H', ⟨zq46 HK1⟩, zq14⟩
def zdw : Nat → List Int → Int → Int → Option (List Int)
 | 0, _, _, _ => none
 | k + 1, x3, x8, x9 => if x9 < x8 then (if 0 ≤ x9 then (if x9 < (x3.length : Int) then (zdw k (x3.set (x9 : Int).toNat (wrap64 (-(rd x3 x9)))) x8 (wrap64 (x9 + 1))) else (none)) else (none)) else (some x3)
def zf8 (k : Nat) (l0 : List (S55)) : Option (List Int) := (zfm k l0 0).bind fun t101 => (zdw k t101 (t101.length : Int) 0)
theorem zl1 : ∀ k, (∀ y0 y1 y2, LeO (zdw k y0 y1 y2) (zdw (k + 1) y0 y1 y2))
 | 0 => fun _ _ _ r h => by simp [zdw] at h
 | k + 1 => by
   have ih0 := zl1 k
   · intro y0 y1 y2
     unfold zdw
     exact zm2 ih0 zh6
theorem zg5 : ∀ a0 k, LeO (zf8 k a0) (zf8 (k + 1) a0) := by
 intro a0 k
 have ih0 := zl1 k
 unfold zf8
 exact zm2 ih0 zh6
theorem zmk (k : Nat) (A0 : Option Addr) (c0 : Nat) (l0 : List (S55)) (r : List Int) (w : World) (hr0 : Kd.C k55 w A0 l0.length l0) (hc0 : l0.length ≤ c0) (h : zf8 k l0 = some r) :
   Calls Tryz.prog 75 #[.slice A0 l0.length c0] w fun e w' => ∃ v0_ : Value, e = .returned (v0_) ∧ Kd.R (Kd.int .i64) 3 w' w.heap.size (fun _ => True) v0_ r ∧ Below w.heap.size w w' := by
 have HR0 := zA hr0
 have HC0 := zA hc0
 clear hr0 hc0
 have HB := zA (Below.refl w.heap.size w)
 have H := h
 unfold zf8 at H
 clear h
 replace H := zob H
 obtain ⟨t101, A20, H⟩ := H
 have A2 := zA A20
 clear A20
 have H' := zA H
 clear H
 go_enter Tryz.func75, Tryz.ntmps75
 go_wp2_with (first | ((with_reducible refine zgc 79 ?_); refine zca 6 Tryz.func79 #[.slice A0 l0.length c0, .int .i64 0] (zi0 k _ _ l0 0 t101 _ (zq17 HR0) HC0.out A2.out) ?_; rintro e w3 ⟨v102, rfl, ho0, hb⟩; refine ⟨_, rfl, ?_⟩; have HO103 := zA (Kd.R_lower ho0 (zah zq1)); replace HB := zA (zac zq1 hb); (try clear hb); (try clear ho0); obtain ⟨Ao4, co4, eo4⟩ := Kd.R_slice HO103.out; subst eo4))
 go_loopg [9] k (fun kq v9 w' => ∃ (x3_1 : List Int) (x9_1 : Int), v9 = .int .i64 x9_1 ∧ Aside0 (zdw kq x3_1 (t101.length : Int) x9_1 = some r) ∧ Aside0 (kq ≤ k) ∧ Aside0 (Kd.R (Kd.int .i64) 3 w' w.heap.size (fun _ => True) (.slice Ao4 t101.length co4) x3_1) ∧ Aside0 (Below w.heap.size w w'))
 case atStart => exact ⟨(t101), (0), zq8, H', ⟨zlr _⟩, ⟨zq2 HO103⟩, ⟨zq1⟩⟩
 clear H'
 obtain ⟨x3_1, x9_1, rfl, HA, HK1, HO_3, HB⟩ := hrel
 have hl3_1 := (zRr HO_3.out).1
 rw [hl3_1] at HO_3
 (try simp only [hl3_1])
 cases gk with
 | zero => exact absurd HA.out (by simp [zdw])
 | succ k1 =>
 have H := HA.out
 clear HA
 simp only [zdw] at H
 by_cases c5 : x9_1 < (t101.length : Int)
 rotate_left
 · rw [if_neg c5] at H
   have c5b0 := zdf c5
   clear c5
   (try simp only [hl3_1] at c5b0)
   obtain rfl := zsi H
   go_wp2
   go_ret
   exact ⟨_, zq5, zq2 HO_3, zq1⟩
 rw [if_pos c5] at H
 have c5b0 := zdt c5
 clear c5
 by_cases c6 : 0 ≤ x9_1
 rotate_left
 · rw [if_neg c6] at H
   exact absurd H (by simp)
 rw [if_pos c6] at H
 have c6b0 := zdt c6
 clear c6
 by_cases c7 : x9_1 < (x3_1.length : Int)
 rotate_left
 · rw [if_neg c7] at H
   exact absurd H (by simp)
 rw [if_pos c7] at H
 have c7b0 := zdt c7
 clear c7
 obtain ⟨y105, hy105⟩ : ∃ y_ : List Int, y_ = (x3_1.set (x9_1 : Int).toNat (wrap64 (-(rd x3_1 x9_1)))) := ⟨_, rfl⟩
 rw [← hy105] at H; try with_reducible replace H := zbs H
 have Ny105 := zA hy105
 clear hy105
 have H' := zA H
 clear H
 obtain ⟨p104, q104⟩ := zpq x9_1 x3_1.length
 obtain ⟨ad104, e104, hx104_0⟩ := Kd.at_int (zRr HO_3.out).2.2 x9_1 (zoe p104) (zoe q104)
 cases e104
 have p8 : 0 ≤ (x9_1 : Int) := zde zq21
 have q8 : (x9_1 : Int) < ((x3_1.length : Int) : Int) := zde zq21
 obtain ⟨go8, co8, eo8, gb8, gl8, cl8, HG8⟩ := Kd.R_form HO_3.out (by omega)
 (first | cases eo8 | (injection eo8 with ea_ en_ ec_; (first | subst ea_ | (injection ea_ with ea_; subst ea_)); subst ec_; clear en_))
 have GB8 := zA gb8
 have GG8 := zA HG8
 clear gb8 gl8 HG8
 (first | simp only [ze4] at hx104_0 | skip)
 obtain ⟨hx8_0, hf8_0⟩ := Kd.R_celln 0 HO_3.out (x9_1 : Int) p8 q8
 replace p8 := eq_true p8
 replace q8 := eq_true q8
 have HP9 := Kd.R_putg HO_3.out (x9_1 : Int) (wrap64 (-(rd x3_1 x9_1)))
 go_wp2_with (first | ((with_reducible refine zgs 3 19 ?_); refine zse (wr.setCell ⟨go8, (x9_1 : Int).toNat, none⟩ (.int .i64 (wrap64 (-(rd x3_1 x9_1))))) ?_; intro w10 hw; have hg : wr.grownBy w10 (some go8) := (by rw [hw]; exact HP9.2); have hp_ : Kd.R (Kd.int .i64) 3 w10 w.heap.size (fun _ => True) (.slice (some ⟨go8, 0, none⟩) x3_1.length co4) y105 := (by rw [hw, Ny105.out]; exact HP9.1); clear HP9; replace HO_3 := zA (hp_); replace HB := zA ((zq57 GB8 : Below w.heap.size w w10)); clear hg hw hp_))
 (try simp only [← hl3_1])
 go_roundg k1
 case measure => have := HK1.out; omega
 case rel => exact ⟨(y105), (wrap64 (x9_1 + 1)), zq8, H', ⟨zq46 HK1⟩, ⟨by (try simp only [hl3_1]); (with_reducible repeat (first | apply zRa | apply zRn | apply zRd)); exact HO_3.out⟩, ⟨zq1⟩⟩
mutual
def zcc : Nat → List (S55) → Int → Bool → Option (List Int × Bool)
 | 0, _, _, _ => none
 | k + 1, x0, x1, x20 => if x20 = true then (some (([] : List Int), false)) else ((zes k x0).bind fun t103 => ((zf8 k x0).bind fun t106 => ((zer (([(-1)] : List Int)) (x0.length : Int)).bind fun t112 => (zb2 k x0 x1 t106 0 t103 t112))))
def zb2 : Nat → List (S55) → Int → List Int → Int → List (List Int) → List Int → Option (List Int × Bool)
 | 0, _, _, _, _, _, _ => none
 | k + 1, x0, x1, x7, x10, x116000, x117000 => (zbm k x117000 (-1)).bind fun t117 => (if t117 = true then (zbu k x0 x1 x7 x10 x1 0 x116000 x117000) else (some (x117000, true)))
def zbu : Nat → List (S55) → Int → List Int → Int → Int → Int → List (List Int) → List Int → Option (List Int × Bool)
 | 0, _, _, _, _, _, _, _, _ => none
 | k + 1, x0, x1, x7, x10, x34, x35, x116000, x117000 => if x35 < x34 then (zbi k x0 x1 x7 x10 (-1) x34 x35 (x0.length : Int) 0 x116000 x117000) else (zb2 k x0 x1 x7 (wrap64 (x10 + 1)) x116000 x117000)
def zbi : Nat → List (S55) → Int → List Int → Int → Int → Int → Int → Int → Int → List (List Int) → List Int → Option (List Int × Bool)
 | 0, _, _, _, _, _, _, _, _, _, _, _ => none
 | k + 1, x0, x1, x7, x10, x11, x34, x35, x38, x39, x116000, x117000 => if x39 < x38 then ((zdq k x39 x10 [x116000] [x117000]).bind fun t118 => (if t118 = true then (if x11 < 0 then (zbi k x0 x1 x7 x10 x39 x34 x35 x38 (wrap64 (x39 + 1)) x116000 x117000) else (if 0 ≤ x39 then (if x39 < (x7.length : Int) then (if 0 ≤ x11 then (if x11 < (x7.length : Int) then (if (rd x7 x39) > (rd x7 x11) then (zbi k x0 x1 x7 x10 x39 x34 x35 x38 (wrap64 (x39 + 1)) x116000 x117000) else (zbi k x0 x1 x7 x10 x11 x34 x35 x38 (wrap64 (x39 + 1)) x116000 x117000)) else (none)) else (none)) else (none)) else (none))) else (zbi k x0 x1 x7 x10 x11 x34 x35 x38 (wrap64 (x39 + 1)) x116000 x117000))) else (if x11 ≥ 0 then (if 0 ≤ x11 then (if x11 < (x117000.length : Int) then (zbu k x0 x1 x7 x10 x34 (wrap64 (x35 + 1)) x116000 (x117000.set (x11 : Int).toNat x10)) else (none)) else (none)) else (zbu k x0 x1 x7 x10 x34 (wrap64 (x35 + 1)) x116000 x117000))
end
def zee (k : Nat) (l0 : List (S55)) (a1 : Int) : Option (List Int × Bool) := (zdn k l0).bind fun t101 => (if t101 = true then ((zea a1).bind fun t102 => (zcc k l0 a1 (!t102))) else (zcc k l0 a1 true))
theorem zjw : ∀ k, (∀ y0 y1 y2, LeO (zcc k y0 y1 y2) (zcc (k + 1) y0 y1 y2)) ∧ (∀ y0 y1 y2 y3 y4 y5, LeO (zb2 k y0 y1 y2 y3 y4 y5) (zb2 (k + 1) y0 y1 y2 y3 y4 y5)) ∧ (∀ y0 y1 y2 y3 y4 y5 y6 y7, LeO (zbu k y0 y1 y2 y3 y4 y5 y6 y7) (zbu (k + 1) y0 y1 y2 y3 y4 y5 y6 y7)) ∧ (∀ y0 y1 y2 y3 y4 y5 y6 y7 y8 y9 y10, LeO (zbi k y0 y1 y2 y3 y4 y5 y6 y7 y8 y9 y10) (zbi (k + 1) y0 y1 y2 y3 y4 y5 y6 y7 y8 y9 y10))
 | 0 => ⟨fun _ _ _ r h => by simp [zcc] at h, fun _ _ _ _ _ _ r h => by simp [zb2] at h, fun _ _ _ _ _ _ _ _ r h => by simp [zbu] at h, fun _ _ _ _ _ _ _ _ _ _ _ r h => by simp [zbi] at h⟩
 | k + 1 => by
   obtain ⟨ih0, ih1, ih2, ih3⟩ := zjw k
   refine ⟨?_, ?_, ?_, ?_⟩
   · intro y0 y1 y2
     unfold zcc
     repeat' first
     | (with_reducible first | exact ih0 _ _ _ | exact ih1 _ _ _ _ _ _ | exact ih2 _ _ _ _ _ _ _ _ | exact ih3 _ _ _ _ _ _ _ _ _ _ _ | exact zfh _ _ _ _ _ | exact zdv _ _ | exact zg5 _ _ | exact zb7 _ _ | exact zbg _ _ _ | exact LeO.refl _ | exact LeO.none _ | refine zev ?_ ?_ | refine LeO.bind ?_ (fun _ => ?_))
     | exact LeO.none _
     | refine zev ?_ ?_
     | refine LeO.bind ?_ (fun _ => ?_)
   · intro y0 y1 y2 y3 y4 y5
     unfold zb2
     repeat' first
     | (with_reducible first | exact ih0 _ _ _ | exact ih1 _ _ _ _ _ _ | exact ih2 _ _ _ _ _ _ _ _ | exact ih3 _ _ _ _ _ _ _ _ _ _ _ | exact zfh _ _ _ _ _ | exact zdv _ _ | exact zg5 _ _ | exact zb7 _ _ | exact zbg _ _ _ | exact LeO.refl _ | exact LeO.none _ | refine zev ?_ ?_ | refine LeO.bind ?_ (fun _ => ?_))
     | exact LeO.none _
     | refine zev ?_ ?_
     | refine LeO.bind ?_ (fun _ => ?_)
   · intro y0 y1 y2 y3 y4 y5 y6 y7
     unfold zbu
     repeat' first
     | (with_reducible first | exact ih0 _ _ _ | exact ih1 _ _ _ _ _ _ | exact ih2 _ _ _ _ _ _ _ _ | exact ih3 _ _ _ _ _ _ _ _ _ _ _ | exact zfh _ _ _ _ _ | exact zdv _ _ | exact zg5 _ _ | exact zb7 _ _ | exact zbg _ _ _ | exact LeO.refl _ | exact LeO.none _ | refine zev ?_ ?_ | refine LeO.bind ?_ (fun _ => ?_))
     | exact LeO.none _
     | refine zev ?_ ?_
     | refine LeO.bind ?_ (fun _ => ?_)
   · intro y0 y1 y2 y3 y4 y5 y6 y7 y8 y9 y10
     unfold zbi
     repeat' first
     | (with_reducible first | exact ih0 _ _ _ | exact ih1 _ _ _ _ _ _ | exact ih2 _ _ _ _ _ _ _ _ | exact ih3 _ _ _ _ _ _ _ _ _ _ _ | exact zfh _ _ _ _ _ | exact zdv _ _ | exact zg5 _ _ | exact zb7 _ _ | exact zbg _ _ _ | exact LeO.refl _ | exact LeO.none _ | refine zev ?_ ?_ | refine LeO.bind ?_ (fun _ => ?_))
     | exact LeO.none _
     | refine zev ?_ ?_
     | refine LeO.bind ?_ (fun _ => ?_)
theorem zuk : ∀ a0 a1 k, LeO (zee k a0 a1) (zee (k + 1) a0 a1) := by
 intro a0 a1 k
 obtain ⟨ih0, ih1, ih2, ih3⟩ := zjw k
 unfold zee
 repeat' first
     | (with_reducible first | exact ih0 _ _ _ | exact ih1 _ _ _ _ _ _ | exact ih2 _ _ _ _ _ _ _ _ | exact ih3 _ _ _ _ _ _ _ _ _ _ _ | exact zfh _ _ _ _ _ | exact zdv _ _ | exact zg5 _ _ | exact zb7 _ _ | exact zbg _ _ _ | exact LeO.refl _ | exact LeO.none _ | refine zev ?_ ?_ | refine LeO.bind ?_ (fun _ => ?_))
     | exact LeO.none _
     | refine zev ?_ ?_
     | refine LeO.bind ?_ (fun _ => ?_)
theorem znv (k : Nat) (A0 : Option Addr) (c0 : Nat) (l0 : List (S55)) (a1 : Int) (r1 : List Int) (r2 : Bool) (w : World) (hr0 : Kd.C k55 w A0 l0.length l0) (hc0 : l0.length ≤ c0) (h : zee k l0 a1 = some (r1, r2)) :
   Calls Tryz.prog 36 #[.slice A0 l0.length c0, .int .i64 a1] w fun e w' => ∃ v0_ : Value, e = .returned (.tuple #[v0_, .bool r2]) ∧ Kd.R (Kd.int .i64) 3 w' w.heap.size (fun _ => True) v0_ r1 ∧ Below w.heap.size w w' := by
 have HR0 := zA hr0
 have HC0 := zA hc0
 clear hr0 hc0
 have HB := zA (Below.refl w.heap.size w)
 have H := h
 unfold zee at H
 clear h
 have HC3 := zA H
 clear H
 go_enter Tryz.func36, Tryz.ntmps36
 go_upto_region 1 with (fail)
 repeat (go_quiet (fail); go_upto_region 1 with (fail))
 go_cut [20] (fun v20 wc => ∃ (kq : Nat) (x20_2 : Bool), v20 = .bool x20_2 ∧ Aside0 (zcc kq l0 a1 x20_2 = some (r1, r2)) ∧ Aside0 (kq ≤ k) ∧ Aside0 (Below w.heap.size w wc))
 case first =>
   have H := HC3.out
   clear HC3
   replace H := zob H
   obtain ⟨t101, A40, H⟩ := H
   have A4 := zA A40
   clear A40
   by_cases c5 : t101 = true
   rotate_left
   · replace c5 := zbf c5
     subst c5
     replace H := zif H
     have H' := zA H
     clear H
     go_wp2_with (first | (go_at_call 51; (with_reducible refine (za7 k _ _ l0 false _ ?side1 ?side2 A4.out).mono ?_); (case side1 => repeat (first | exact (zCb HR0.out HB.out) | (with_reducible first | refine zCa ?_ _ | refine zCn ?_ _ | refine zCd ?_))); (case side2 => exact HC0.out); rintro e w8 ⟨rfl, hb⟩; replace HB := zA (zac zq1 hb); (try clear hb)))
     go_meet
     case rel => exact ⟨_, (true), zq8, H', ⟨zq38⟩, ⟨zq1⟩⟩
   subst c5
   replace H := zih H
   replace H := zob H
   obtain ⟨t102, A60, H⟩ := H
   have A6 := zA A60
   clear A60
   have H' := zA H
   clear H
   go_wp2_with (first | (go_at_call 51; (with_reducible refine (za7 k _ _ l0 true _ ?side1 ?side2 A4.out).mono ?_); (case side1 => repeat (first | exact (zCb HR0.out HB.out) | (with_reducible first | refine zCa ?_ _ | refine zCn ?_ _ | refine zCd ?_))); (case side2 => exact HC0.out); rintro e w7 ⟨rfl, hb⟩; replace HB := zA (zac zq1 hb); (try clear hb)) | (go_at_call 67; (with_reducible refine (zfe a1 t102 _ A6.out).mono ?_); rintro e w' ⟨rfl, ⟨nd, rfl⟩⟩; (try first | exact ⟨rfl, _, World.drewN_drewN _ _ _⟩ | exact ⟨rfl, _, Eq.trans (World.drewN_drewN _ _ _) (congrArg (World.drewN _) (Nat.add_assoc _ _ _))⟩)))
   go_meet
   case rel => exact ⟨_, (!t102), zq8, H', ⟨zq38⟩, ⟨zq1⟩⟩
 clear HC3
 obtain ⟨kq, x20_2, rfl, HA, HJ2, HB⟩ := hcut
 cases kq with
 | zero => exact absurd HA.out (by simp [zcc])
 | succ kj2 =>
 have H := HA.out
 clear HA
 simp only [zcc] at H
 by_cases c9 : x20_2 = true
 · subst c9
   replace H := zih H
   simp only [Option.some.injEq, Prod.mk.injEq] at H
   obtain ⟨rfl, rfl⟩ := H
   go_wp2
   repeat (go_quiet (fail); try go_wp2)
   go_ret2
   exact ⟨_, zq5, zq24, zq1⟩
 replace c9 := zbf c9
 subst c9
 replace H := zif H
 replace H := zob H
 obtain ⟨t103, A100, H⟩ := H
 have A10 := zA A100
 clear A100
 replace H := zob H
 obtain ⟨t106, A110, H⟩ := H
 have A11 := zA A110
 clear A110
 obtain ⟨y109, hy109⟩ : ∃ y_ : List Int, y_ = (([(-1)] : List Int)) := ⟨_, rfl⟩
 rw [← hy109] at H; try with_reducible replace H := zbs H
 have Ny109 := zA hy109
 clear hy109
 replace H := zob H
 obtain ⟨t112, A120, H⟩ := H
 have A12 := zA A120
 clear A120
 have H' := zA H
 clear H
 go_wp2_with (first | (go_at_call 59; (with_reducible refine (zg4 kj2 _ _ l0 t103 _ ?side1 ?side2 A10.out).mono ?_); (case side1 => repeat (first | exact (zCb HR0.out HB.out) | (with_reducible first | refine zCa ?_ _ | refine zCn ?_ _ | refine zCd ?_))); (case side2 => exact HC0.out); rintro e w13 ⟨v104, rfl, ho0, hb⟩; have HO105 := zA (Kd.S_lower ho0 (zah zq1)); replace HB := zA (zac zq1 hb); (try clear hb); (try clear ho0)) | (go_at_call 75; (with_reducible refine (zmk kj2 _ _ l0 t106 _ ?side1 ?side2 A11.out).mono ?_); (case side1 => repeat (first | exact (zCb HR0.out HB.out) | (with_reducible first | refine zCa ?_ _ | refine zCn ?_ _ | refine zCd ?_))); (case side2 => exact HC0.out); rintro e w14 ⟨v107, rfl, ho0, hb⟩; replace HO105 := zA (Kd.S_elder' (zq16 HO105) (Kd.R_base ho0) hb); have HO108 := zA (Kd.R_lower ho0 (zah zq1)); replace HB := zA (zac zq1 hb); (try clear hb); (try clear ho0)) | ((with_reducible refine zgd 25 ?_); refine Kd.R_lit (Kd.int .i64) _ 3 ?hg (N := 25) ?hd (xs := ([(-1)] : List Int)) (inner := [.int .i64 (-1)]) (ok := fun _ => True) (okp := fun _ => True) ?hr ?hp (fun _ hk => hk) trivial (Below.refl _ _) (zlr _) (by simp) ?_; (case hd => rfl); (case hg => rfl); (case hr => go_simp <;> rfl); (case hp => exact (zak (show Kd.M (Kd.int .i64) _ _ _ (-1) [.int .i64 (-1)] from rfl) (Reps.none _ _))); intro v110 w15 ho16 hb hg_ hnew_; clear hg_ hnew_; (first | rw [← Ny109.out] at ho16 | (simp only [Int.reduceToNat] at ho16; rw [← Ny109.out] at ho16)); replace HO105 := zA (Kd.S_elder' (zq16 HO105) (Kd.R_base ho16) hb); have HO111 := zA (Kd.R_lower (Kd.R_new' ho16 (Kd.R_lt (zq2 HO108))) (zah zq1)); replace HO108 := zA (Kd.R_elder' (zq2 HO108) (Kd.R_base ho16) hb); replace HB := zA (zac zq1 hb); clear hb ho16; obtain ⟨Ao17, co17, eo17⟩ := Kd.R_slice HO111.out; subst eo17) | (go_at_call 83; (with_reducible refine (zip _ _ y109 (l0.length : Int) t112 _ ?side1 ?side2 A12.out).mono ?_); (case side1 => repeat (first | exact (zRr HO111.out).2.2 | (with_reducible first | refine zCa ?_ _ | refine zCn ?_ _ | refine zCd ?_))); (case side2 => exact (zRr HO111.out).2.1); rintro e w18 ⟨v113, rfl, ho0, hb⟩; replace HO105 := zA (Kd.S_elder' (zq16 HO105) (Kd.R_base ho0) hb); have HO114 := zA (Kd.R_lower (Kd.R_new' (Kd.R_new' ho0 (Kd.R_lt (zq2 HO108))) (Kd.R_lt (zq2 HO111))) (zah zq1)); replace HO108 := zA (Kd.R_elder' (zq2 HO108) (Kd.R_base ho0) hb); replace HO111 := zA (Kd.R_elder' (zq2 HO111) (Kd.R_base ho0) hb); replace HB := zA (zac zq1 hb); (try clear hb); (try clear ho0)) | ((with_reducible refine zgd 6 ?_); refine zbx #[.slice none 0 0] 36 ?_; intro gb115 hg w19 hbox hb; have zs := zpair zq1 hb; replace HO105 := zA (Kd.S_below (zq16 HO105) hb); replace HO108 := zA (zRb (zq2 HO108) hb); replace HO111 := zA (zRb (zq2 HO111) hb); replace HO114 := zA (zRb (zq2 HO114) hb); replace HB := zA (zs.1); have BK115 := zA (hbox); have GW115 := zA (zge hg zs.2); have GE115 := GW115; clear zs hb hbox hg) | ((with_reducible refine zgd 8 ?_); refine zbx #[.slice none 0 0] 25 ?_; intro gb116 hg w20 hbox hb; have zs := zpair (zq10 GE115) hb; replace HO105 := zA (Kd.S_below (Kd.S_elderB (zq16 HO105) gb116 (Nat.le_of_eq hg.symm)) hb); replace HO108 := zA (zRb (zq2 HO108) hb); replace HO111 := zA (zRb (zq2 HO111) hb); replace HO114 := zA (zRb (zq2 HO114) hb); replace HB := zA (zs.1); have BK116 := zA (hbox); have GW116 := zA (zge hg zs.2); have GE116 := GW116; have NB115_116 := zA ((zq35 BK115 : gb115 ≠ gb116)); replace BK115 := zbb BK115 hb; have NB116_115 := zA (Ne.symm NB115_116.out); clear zs hb hbox hg; obtain ⟨Ao21, co21, eo21⟩ := Kd.S_slice HO105.out; subst eo21; have hnb22 := NB115_116.out; have hnc22 := NB116_115.out; have hcz23_0 : w20.cell? ⟨gb115, 0, none⟩ = some (.slice none 0 0) := (zab BK115.out 0).trans rfl; have hfz23_0 := zat BK115.out 0; obtain ⟨Ao24, co24, eo24⟩ := Kd.R_slice HO114.out; subst eo24; have hcz25_0 : w20.cell? ⟨gb116, 0, none⟩ = some (.slice none 0 0) := (zab BK116.out 0).trans rfl; have hfz25_0 := zat BK116.out 0))
 go_loopg [10] kj2 (fun kq v10 w' => ∃ (x7_2 : List Int) (x10_2 : Int) (x117000_2 : List Int) (u117000 : Value), v10 = .int .i64 x10_2 ∧ Aside0 (zb2 kq l0 a1 x7_2 x10_2 t103 x117000_2 = some (r1, r2)) ∧ Aside0 (kq ≤ kj2) ∧ Aside0 (Kd.R (Kd.int .i64) 3 w' w.heap.size (fun k_ => some k_ ≠ (u117000 : Value).ownBlock) v107 x7_2) ∧ Aside0 (Kd.S (Kd.slice 3 (Kd.int .i64)) 25 w' w.heap.size (fun k_ => some k_ ≠ (v107 : Value).ownBlock ∧ some k_ ≠ (u117000 : Value).ownBlock ∧ k_ ≠ gb116) (.slice Ao21 t103.length co21) t103) ∧ Aside0 (Kd.R (Kd.int .i64) 3 w' w.heap.size (fun k_ => some k_ ≠ (v107 : Value).ownBlock) u117000 x117000_2) ∧ Aside0 (w'.heap[gb115]? = some (.cells #[(.slice Ao21 t103.length co21)] 36 (0, 0))) ∧ Aside0 (w'.heap[gb116]? = some (.cells #[u117000] 25 (0, 0))) ∧ Aside0 (Below w.heap.size w w'))
 case atStart => exact ⟨(t106), (0), (t112), (.slice Ao24 t112.length co24), zq8, H', ⟨zlr _⟩, ⟨by (with_reducible repeat (first | apply zRa | apply zRn | apply zRd)); exact Kd.R_mono (Kd.R_far (p := ⟨gb116, 0, none⟩) (Kd.R_far (p := ⟨gb115, 0, none⟩) (Kd.R_types (Kd.R_types HO108.out BK115.out (by decide)) BK116.out (by decide)) (fun _ hk => hk.1.2) (.slice Ao21 t103.length co21)) (fun _ hk => hk.2) (.slice Ao24 t112.length co24)) (fun _ hk => hk.1.1.2)⟩, ⟨by (with_reducible repeat (first | apply zSa | apply zSn | apply zSd)); exact Kd.S_mono (Kd.S_far (p := ⟨gb116, 0, none⟩) (Kd.S_far (p := ⟨gb115, 0, none⟩) (Kd.S_mono (Kd.S_types HO105.out BK115.out (by decide)) (fun k_ hk => (⟨hk, hk.1.2⟩ : _ ∧ k_ ≠ gb116))) (fun _ hk => hk.1.2) (.slice Ao21 t103.length co21)) (fun _ hk => hk.2) (.slice Ao24 t112.length co24)) (fun _ hk => ⟨hk.1.1.1.1.1.2, ⟨hk.1.1.1.2, hk.1.1.2⟩⟩)⟩, ⟨by (with_reducible repeat (first | apply zRa | apply zRn | apply zRd)); exact Kd.R_mono (Kd.R_far (p := ⟨gb116, 0, none⟩) (Kd.R_far (p := ⟨gb115, 0, none⟩) (Kd.R_types (Kd.R_types HO114.out BK115.out (by decide)) BK116.out (by decide)) (fun _ hk => hk.1.2) (.slice Ao21 t103.length co21)) (fun _ hk => hk.2) (.slice Ao24 t112.length co24)) (fun _ hk => hk.1.1.1.2)⟩, ⟨by (with_reducible repeat (first | refine zkn ?_ _ | refine zkd ?_ | refine zka ?_ _)); refine zav ?_ NB115_116.out _; (with_reducible repeat (first | refine zkn ?_ _ | refine zkd ?_ | refine zka ?_ _)); refine zaw (cs := #[.slice none 0 0]) ?_ 0 _ rfl; (with_reducible repeat (first | refine zkn ?_ _ | refine zkd ?_ | refine zka ?_ _)); exact BK115.out⟩, ⟨by (with_reducible repeat (first | refine zkn ?_ _ | refine zkd ?_ | refine zka ?_ _)); refine zaw (cs := #[.slice none 0 0]) ?_ 0 _ rfl; (with_reducible repeat (first | refine zkn ?_ _ | refine zkd ?_ | refine zka ?_ _)); refine zav ?_ NB116_115.out _; (with_reducible repeat (first | refine zkn ?_ _ | refine zkd ?_ | refine zka ?_ _)); exact BK116.out⟩, ⟨zq9 GE115 GE116⟩⟩
 clear H'
 obtain ⟨x7_2, x10_2, x117000_2, u117000, rfl, HA, HK2, HO_7, HO_116000, HO_117000, BK115, BK116, HB⟩ := hrel
 cases gk with
 | zero => exact absurd HA.out (by simp [zb2])
 | succ k2 =>
 have H := HA.out
 clear HA
 simp only [zb2] at H
 replace H := zob H
 obtain ⟨t117, A260, H⟩ := H
 have A26 := zA A260
 clear A260
 by_cases c27 : t117 = true
 rotate_left
 · replace c27 := zbf c27
   subst c27
   replace H := zif H
   simp only [Option.some.injEq, Prod.mk.injEq] at H
   obtain ⟨rfl, rfl⟩ := H
   have hnb51 := NB116_115.out
   have hnc51 := NB115_116.out
   have hcz52_0 : wr.cell? ⟨gb116, 0, none⟩ = some (u117000) := (zab BK116.out 0).trans rfl
   have hfz52_0 := zat BK116.out 0
   obtain ⟨Ao53, co53, eo53⟩ := Kd.R_slice HO_117000.out
   subst eo53
   go_wp2_with (first | (go_at_call 85; (with_reducible refine (zcw k2 _ _ x117000_2 (-1) false _ ?side1 ?side2 A26.out).mono ?_); (case side1 => repeat (first | exact (zRr HO_117000.out).2.2 | (with_reducible first | refine zCa ?_ _ | refine zCn ?_ _ | refine zCd ?_))); (case side2 => exact (zRr HO_117000.out).2.1); rintro e w' ⟨rfl, ⟨nd, rfl⟩⟩; (try first | exact ⟨rfl, _, World.drewN_drewN _ _ _⟩ | exact ⟨rfl, _, Eq.trans (World.drewN_drewN _ _ _) (congrArg (World.drewN _) (Nat.add_assoc _ _ _))⟩)))
   go_ret2
   exact ⟨_, zq5, zq53 HO_117000, zq9 GE115 GE116⟩
 subst c27
 replace H := zih H
 have H' := zA H
 clear H
 have hnb28 := NB116_115.out
 have hnc28 := NB115_116.out
 have hcz29_0 : wr.cell? ⟨gb116, 0, none⟩ = some (u117000) := (zab BK116.out 0).trans rfl
 have hfz29_0 := zat BK116.out 0
 obtain ⟨Ao30, co30, eo30⟩ := Kd.R_slice HO_117000.out
 subst eo30
 go_wp2_with (first | (go_at_call 85; (with_reducible refine (zcw k2 _ _ x117000_2 (-1) true _ ?side1 ?side2 A26.out).mono ?_); (case side1 => repeat (first | exact (zRr HO_117000.out).2.2 | (with_reducible first | refine zCa ?_ _ | refine zCn ?_ _ | refine zCd ?_))); (case side2 => exact (zRr HO_117000.out).2.1); rintro e w' ⟨rfl, ⟨nd, rfl⟩⟩; (try first | exact ⟨rfl, _, World.drewN_drewN _ _ _⟩ | exact ⟨rfl, _, Eq.trans (World.drewN_drewN _ _ _) (congrArg (World.drewN _) (Nat.add_assoc _ _ _))⟩)))
 go_loopg [35] k2 (fun kq v35 w' => ∃ (x7_3 : List Int) (x35_3 : Int) (x117000_3 : List Int) (u117000 : Value), v35 = .int .i64 x35_3 ∧ Aside0 (zbu kq l0 a1 x7_3 x10_2 a1 x35_3 t103 x117000_3 = some (r1, r2)) ∧ Aside0 (kq ≤ k2) ∧ Aside0 (Kd.R (Kd.int .i64) 3 w' w.heap.size (fun k_ => some k_ ≠ (u117000 : Value).ownBlock) v107 x7_3) ∧ Aside0 (Kd.S (Kd.slice 3 (Kd.int .i64)) 25 w' w.heap.size (fun k_ => some k_ ≠ (v107 : Value).ownBlock ∧ some k_ ≠ (u117000 : Value).ownBlock ∧ k_ ≠ gb116) (.slice Ao21 t103.length co21) t103) ∧ Aside0 (Kd.R (Kd.int .i64) 3 w' w.heap.size (fun k_ => some k_ ≠ (v107 : Value).ownBlock) u117000 x117000_3) ∧ Aside0 (w'.heap[gb115]? = some (.cells #[(.slice Ao21 t103.length co21)] 36 (0, 0))) ∧ Aside0 (w'.heap[gb116]? = some (.cells #[u117000] 25 (0, 0))) ∧ Aside0 (Below w.heap.size w w'))
 case atStart => exact ⟨(x7_2), (0), (x117000_2), (.slice Ao30 x117000_2.length co30), zq8, H', ⟨zlr _⟩, ⟨zq2 HO_7⟩, ⟨zq16 HO_116000⟩, ⟨zq2 HO_117000⟩, ⟨zq4 BK115⟩, ⟨zq4 BK116⟩, ⟨zq9 GE115 GE116⟩⟩
 clear H'
 obtain ⟨x7_3, x35_3, x117000_3, u117000, rfl, HA, HK3, HO_7, HO_116000, HO_117000, BK115, BK116, HB⟩ := hrel
 cases gk with
 | zero => exact absurd HA.out (by simp [zbu])
 | succ k3 =>
 have H := HA.out
 clear HA
 simp only [zbu] at H
 revert H
 refine zit (fun c31 H => ?_) fun c31 H => ?_
 rotate_left
 · have H' := zA H
   clear H
   go_wp2
   repeat (go_quiet (fail); try go_wp2)
   go_roundg k3
   case measure => have := HJ2.out; have := HK2.out; have := HK3.out; omega
   case rel => exact ⟨(x7_3), (wrap64 (x10_2 + 1)), (x117000_3), (u117000), zq8, H', ⟨zq42 HJ2 HK2 HK3⟩, ⟨zq2 HO_7⟩, ⟨zq16 HO_116000⟩, ⟨zq2 HO_117000⟩, ⟨zq4 BK115⟩, ⟨zq4 BK116⟩, ⟨zq9 GE115 GE116⟩⟩
 have H' := zA H
 clear H
 go_wp2
 repeat (go_quiet (fail); try go_wp2)
 go_loopg [11, 39] k3 (fun kq v11 v39 w' => ∃ (x11_4 : Int) (x39_4 : Int), v11 = .int .i64 x11_4 ∧ v39 = .int .i64 x39_4 ∧ Aside0 (zbi kq l0 a1 x7_3 x10_2 x11_4 a1 x35_3 (l0.length : Int) x39_4 t103 x117000_3 = some (r1, r2)) ∧ Aside0 (kq ≤ k3) ∧ Aside0 (Kd.R (Kd.int .i64) 3 w' w.heap.size (fun k_ => some k_ ≠ (u117000 : Value).ownBlock) v107 x7_3) ∧ Aside0 (Kd.S (Kd.slice 3 (Kd.int .i64)) 25 w' w.heap.size (fun k_ => some k_ ≠ (v107 : Value).ownBlock ∧ some k_ ≠ (u117000 : Value).ownBlock ∧ k_ ≠ gb116) (.slice Ao21 t103.length co21) t103) ∧ Aside0 (Kd.R (Kd.int .i64) 3 w' w.heap.size (fun k_ => some k_ ≠ (v107 : Value).ownBlock) u117000 x117000_3) ∧ Aside0 (w'.heap[gb115]? = some (.cells #[(.slice Ao21 t103.length co21)] 36 (0, 0))) ∧ Aside0 (w'.heap[gb116]? = some (.cells #[u117000] 25 (0, 0))) ∧ Aside0 (Below w.heap.size w w'))
 case atStart => exact ⟨((-1)), (0), zq8, zq8, H', ⟨zlr _⟩, ⟨zq2 HO_7⟩, ⟨zq16 HO_116000⟩, ⟨zq2 HO_117000⟩, ⟨zq4 BK115⟩, ⟨zq4 BK116⟩, ⟨zq9 GE115 GE116⟩⟩
 clear H'
 obtain ⟨x11_4, x39_4, rfl, rfl, HA, HK4, HO_7, HO_116000, HO_117000, BK115, BK116, HB⟩ := hrel
 cases gk with
 | zero => exact absurd HA.out (by simp [zbi])
 | succ k4 =>
 have H := HA.out
 clear HA
 simp only [zbi] at H
 revert H
 refine zit (fun c32 H => ?_) fun c32 H => ?_
 rotate_left
 · by_cases c43 : x11_4 ≥ 0
   rotate_left
   · rw [if_neg c43] at H
     have c43b0 := zdf c43
     clear c43
     have H' := zA H
     clear H
     go_wp2
     repeat (go_quiet (fail); try go_wp2)
     go_roundg k4
     case measure => have := HJ2.out; have := HK2.out; have := HK3.out; have := HK4.out; omega
     case rel => exact ⟨(x7_3), (wrap64 (x35_3 + 1)), (x117000_3), (u117000), zq8, H', ⟨zq56 HJ2 HK2 HK3 HK4⟩, ⟨zq2 HO_7⟩, ⟨zq16 HO_116000⟩, ⟨zq2 HO_117000⟩, ⟨zq4 BK115⟩, ⟨zq4 BK116⟩, ⟨zq9 GE115 GE116⟩⟩
   rw [if_pos c43] at H
   have c43b0 := zdt c43
   clear c43
   revert H
   refine zin fun c44 H => ?_
   revert H
   refine zin fun c45 H => ?_
   obtain ⟨y121, hy121⟩ : ∃ y_ : List Int, y_ = (x117000_3.set (x11_4 : Int).toNat x10_2) := ⟨_, rfl⟩
   rw [← hy121] at H; try with_reducible replace H := zbs H
   have Ny121 := zA hy121
   clear hy121
   have H' := zA H
   clear H
   have hnb47 := NB116_115.out
   have hnc47 := NB115_116.out
   have hcz48_0 : wr.cell? ⟨gb116, 0, none⟩ = some (u117000) := (zab BK116.out 0).trans rfl
   have hfz48_0 := zat BK116.out 0
   have p46 : 0 ≤ (x11_4 : Int) := zde zq21
   have q46 : (x11_4 : Int) < ((x117000_3.length : Int) : Int) := zde zq21
   obtain ⟨go46, co46, eo46, gb46, gl46, cl46, HG46⟩ := Kd.R_form HO_117000.out (by omega)
   (first | cases eo46 | (injection eo46 with ea_ en_ ec_; (first | subst ea_ | (injection ea_ with ea_; subst ea_)); subst ec_; clear en_))
   have GB46 := zA gb46
   have GG46 := zA HG46
   clear gb46 gl46 HG46
   obtain ⟨hx46_0, hf46_0⟩ := Kd.R_celln 0 HO_117000.out (x11_4 : Int) p46 q46
   replace p46 := eq_true p46
   replace q46 := eq_true q46
   have HP49 := Kd.R_putg HO_117000.out (x11_4 : Int) x10_2
   go_wp2_with (first | ((with_reducible refine zgs 3 68 ?_); (try (rw [zgn wr]; generalize hq_ : World.drewN wr _ = wr; have n0_ := zA (Kd.R_at hq_ HO_7.out); have n1_ := zA (Kd.S_at hq_ HO_116000.out); have n2_ := zA (Kd.R_at hq_ HO_117000.out); have n3_ := zA (zj1 hq_ BK115.out); have n4_ := zA (zj1 hq_ BK116.out); have n5_ := zA (zkw hq_ HB.out); clear hq_ HO_7 HO_116000 HO_117000 BK115 BK116 HB; have HO_7 := n0_; have HO_116000 := n1_; have HO_117000 := n2_; have BK115 := n3_; have BK116 := n4_; have HB := n5_; clear n0_ n1_ n2_ n3_ n4_ n5_; (try (have HP49 := Kd.R_putg HO_117000.out (x11_4 : Int) x10_2)))); refine zn7 (t := 3) (p := 68) (v := ?vo_w50) (w1 := (wr.setCell ⟨go46, (x11_4 : Int).toNat, none⟩ (.int .i64 x10_2))) ?hg ?ho ?hn ?hr ?_; (case ho => rfl); (case hg => rfl); (case hn => rfl); (case hr => go_simp <;> rfl); intro w50 hw; have hg : wr.grownBy w50 (some go46) := (by rw [hw]; exact HP49.2); have hp_ : Kd.R (Kd.int .i64) 3 w50 w.heap.size (fun k_ => some k_ ≠ (v107 : Value).ownBlock) (.slice (some ⟨go46, 0, none⟩) x117000_3.length co46) y121 := (by rw [hw, Ny121.out]; exact HP49.1); clear HP49; replace HO_7 := zA (Kd.R_after (v := (.slice (some ⟨go46, 0, none⟩) x117000_3.length co46)) (v1 := (.slice (some ⟨go46, 0, none⟩) x117000_3.length co46)) (ok := (fun _ => True)) (zq69 HO_7) hg (.inl rfl)); replace HO_116000 := zA (Kd.S_after (v := (.slice (some ⟨go46, 0, none⟩) x117000_3.length co46)) (v1 := (.slice (some ⟨go46, 0, none⟩) x117000_3.length co46)) (ok := (fun k_ => some k_ ≠ (v107 : Value).ownBlock ∧ k_ ≠ gb116)) (zq63 HO_116000) hg (.inl rfl)); replace BK115 := zA (zgv (g := gb115) (o := .cells #[.slice Ao21 t103.length co21] 36 (0, 0)) (zq4 BK115) hg (Kd.R_ne HO_117000.out BK115.out (by decide))); replace BK116 := zA (zgv (g := gb116) (o := .cells #[.slice (some ⟨go46, 0, none⟩) x117000_3.length co46] 25 (0, 0)) (zq4 BK116) hg (Kd.R_ne HO_117000.out BK116.out (by decide))); replace HO_117000 := zA (hp_); replace HB := zA ((zq57 GB46 : Below w.heap.size w w50)); clear hg hw hp_))
   repeat (go_quiet (first | ((with_reducible refine ztl (t := 3) (p := 68) rfl ?_); (try (rw [zgn wr]; generalize hq_ : World.drewN wr _ = wr; have n0_ := zA (Kd.R_at hq_ HO_7.out); have n1_ := zA (Kd.S_at hq_ HO_116000.out); have n2_ := zA (Kd.R_at hq_ HO_117000.out); have n3_ := zA (zj1 hq_ BK115.out); have n4_ := zA (zj1 hq_ BK116.out); have n5_ := zA (zkw hq_ HB.out); clear hq_ HO_7 HO_116000 HO_117000 BK115 BK116 HB; have HO_7 := n0_; have HO_116000 := n1_; have HO_117000 := n2_; have BK115 := n3_; have BK116 := n4_; have HB := n5_; clear n0_ n1_ n2_ n3_ n4_ n5_; (try (have HP49 := Kd.R_putg HO_117000.out (x11_4 : Int) x10_2)))); refine zn7 (t := 3) (p := 68) (v := ?vo_w50) (w1 := (wr.setCell ⟨go46, (x11_4 : Int).toNat, none⟩ (.int .i64 x10_2))) ?hg ?ho ?hn ?hr ?_; (case ho => rfl); (case hg => rfl); (case hn => rfl); (case hr => go_simp <;> rfl); intro w50 hw; have hg : wr.grownBy w50 (some go46) := (by rw [hw]; exact HP49.2); have hp_ : Kd.R (Kd.int .i64) 3 w50 w.heap.size (fun k_ => some k_ ≠ (v107 : Value).ownBlock) (.slice (some ⟨go46, 0, none⟩) x117000_3.length co46) y121 := (by rw [hw, Ny121.out]; exact HP49.1); clear HP49; have n0_ := zA (Kd.R_after (v := (.slice (some ⟨go46, 0, none⟩) x117000_3.length co46)) (v1 := (.slice (some ⟨go46, 0, none⟩) x117000_3.length co46)) (ok := (fun _ => True)) (zq69 HO_7) hg (.inl rfl)); have n1_ := zA (Kd.S_after (v := (.slice (some ⟨go46, 0, none⟩) x117000_3.length co46)) (v1 := (.slice (some ⟨go46, 0, none⟩) x117000_3.length co46)) (ok := (fun k_ => some k_ ≠ (v107 : Value).ownBlock ∧ k_ ≠ gb116)) (zq63 HO_116000) hg (.inl rfl)); have n2_ := zA (hp_); have n3_ := zA (zgv (g := gb115) (o := .cells #[.slice Ao21 t103.length co21] 36 (0, 0)) (zq4 BK115) hg (Kd.R_ne HO_117000.out BK115.out (by decide))); have n4_ := zA (zgv (g := gb116) (o := .cells #[.slice (some ⟨go46, 0, none⟩) x117000_3.length co46] 25 (0, 0)) (zq4 BK116) hg (Kd.R_ne HO_117000.out BK116.out (by decide))); have n5_ := zA ((zq57 GB46 : Below w.heap.size w w50)); clear HO_7 HO_116000; clear HO_117000 BK115; clear BK116 HB; have HO_7 := n0_; have HO_116000 := n1_; have HO_117000 := n2_; have BK115 := n3_; have BK116 := n4_; have HB := n5_; clear n0_ n1_ n2_ n3_ n4_ n5_; clear hg hw hp_)); try go_wp2_with (first | ((with_reducible refine ztl (t := 3) (p := 68) rfl ?_); (try (rw [zgn wr]; generalize hq_ : World.drewN wr _ = wr; have n0_ := zA (Kd.R_at hq_ HO_7.out); have n1_ := zA (Kd.S_at hq_ HO_116000.out); have n2_ := zA (Kd.R_at hq_ HO_117000.out); have n3_ := zA (zj1 hq_ BK115.out); have n4_ := zA (zj1 hq_ BK116.out); have n5_ := zA (zkw hq_ HB.out); clear hq_ HO_7 HO_116000 HO_117000 BK115 BK116 HB; have HO_7 := n0_; have HO_116000 := n1_; have HO_117000 := n2_; have BK115 := n3_; have BK116 := n4_; have HB := n5_; clear n0_ n1_ n2_ n3_ n4_ n5_; (try (have HP49 := Kd.R_putg HO_117000.out (x11_4 : Int) x10_2)))); refine zn7 (t := 3) (p := 68) (v := ?vo_w50) (w1 := (wr.setCell ⟨go46, (x11_4 : Int).toNat, none⟩ (.int .i64 x10_2))) ?hg ?ho ?hn ?hr ?_; (case ho => rfl); (case hg => rfl); (case hn => rfl); (case hr => go_simp <;> rfl); intro w50 hw; have hg : wr.grownBy w50 (some go46) := (by rw [hw]; exact HP49.2); have hp_ : Kd.R (Kd.int .i64) 3 w50 w.heap.size (fun k_ => some k_ ≠ (v107 : Value).ownBlock) (.slice (some ⟨go46, 0, none⟩) x117000_3.length co46) y121 := (by rw [hw, Ny121.out]; exact HP49.1); clear HP49; have n0_ := zA (Kd.R_after (v := (.slice (some ⟨go46, 0, none⟩) x117000_3.length co46)) (v1 := (.slice (some ⟨go46, 0, none⟩) x117000_3.length co46)) (ok := (fun _ => True)) (zq69 HO_7) hg (.inl rfl)); have n1_ := zA (Kd.S_after (v := (.slice (some ⟨go46, 0, none⟩) x117000_3.length co46)) (v1 := (.slice (some ⟨go46, 0, none⟩) x117000_3.length co46)) (ok := (fun k_ => some k_ ≠ (v107 : Value).ownBlock ∧ k_ ≠ gb116)) (zq63 HO_116000) hg (.inl rfl)); have n2_ := zA (hp_); have n3_ := zA (zgv (g := gb115) (o := .cells #[.slice Ao21 t103.length co21] 36 (0, 0)) (zq4 BK115) hg (Kd.R_ne HO_117000.out BK115.out (by decide))); have n4_ := zA (zgv (g := gb116) (o := .cells #[.slice (some ⟨go46, 0, none⟩) x117000_3.length co46] 25 (0, 0)) (zq4 BK116) hg (Kd.R_ne HO_117000.out BK116.out (by decide))); have n5_ := zA ((zq57 GB46 : Below w.heap.size w w50)); clear HO_7 HO_116000; clear HO_117000 BK115; clear BK116 HB; have HO_7 := n0_; have HO_116000 := n1_; have HO_117000 := n2_; have BK115 := n3_; have BK116 := n4_; have HB := n5_; clear n0_ n1_ n2_ n3_ n4_ n5_; clear hg hw hp_)))
   go_roundg k4
   case measure => have := HJ2.out; have := HK2.out; have := HK3.out; have := HK4.out; omega
   case rel => exact ⟨(x7_3), (wrap64 (x35_3 + 1)), (y121), (.slice (some ⟨go46, 0, none⟩) x117000_3.length co46), zq8, H', ⟨zq56 HJ2 HK2 HK3 HK4⟩, ⟨by (with_reducible repeat (first | apply zRa | apply zRn | apply zRd)); exact Kd.R_mono HO_7.out (fun _ hk => hk.2)⟩, ⟨by (with_reducible repeat (first | apply zSa | apply zSn | apply zSd)); exact Kd.S_mono HO_116000.out (fun _ hk => ⟨hk.1.1, ⟨hk.2, hk.1.2⟩⟩)⟩, ⟨zq2 HO_117000⟩, ⟨zq4 BK115⟩, ⟨zq4 BK116⟩, ⟨zq9 GE115 GE116⟩⟩
 replace H := zob H
 obtain ⟨t118, A330, H⟩ := H
 have A33 := zA A330
 clear A330
 by_cases c34 : t118 = true
 rotate_left
 · replace c34 := zbf c34
   subst c34
   replace H := zif H
   have H' := zA H
   clear H
   obtain ⟨AU, cU, rfl⟩ := Kd.R_slice HO_117000.out
   go_wp2_with fail
   refine zoz [[], [], [], [0, 1, 2], [0, 1, 2, 3], [0, 1, 2, 3, 4], [0, 1, 2, 3, 4, 5], [0, 1, 2, 3, 4, 5, 6], [0, 1, 2, 3, 4, 5, 6, 7], [0, 1, 2, 3, 4, 5, 6, 7], [0, 1, 2, 3, 4, 5, 6, 7, 8, 9], [0, 1, 2, 3, 4, 5, 6, 7, 8, 9, 10], [0, 1, 2, 3, 4, 5, 6, 7], [0, 1, 2, 3, 4, 5, 6, 7], [0, 1, 2, 3, 4, 5, 6, 7, 12, 13], [0, 1, 2, 3, 4, 5, 6, 7, 12, 13, 14], [0, 1, 2, 3, 4, 5, 6, 7, 8, 9, 10, 11, 12, 13, 14, 15], [0, 1, 2, 3, 4, 5, 6, 7, 8, 9, 10, 11, 12, 13, 14, 15, 16], [0, 1, 2, 3, 4, 5, 6, 7, 8, 9, 10, 11, 12, 13, 14, 15, 16, 17]] (zoi [.func (.func 84) #[] #[.pointer (some ⟨gb115, 0, none⟩), .pointer (some ⟨gb116, 0, none⟩)], .int .i64 x39_4, .int .i64 x10_2, .bool false, .bool false, undef, undef, undef, undef, undef, undef, undef, undef, undef, undef, undef, undef, undef, .bool false]) rfl (fun _ _ _ _ _ h => h) zq27 ⟨?s0, ?s1, ?s2, ?s3, ?s4, ?s5, ?s6, ?s7, ?s8, ?s9, ?s10, ?s11, ?s12, ?s13, ?s14, ?s15, ?s16, ?s17, ?s18, trivial⟩ (fun nd => ?_)
   case s0 =>
     rintro w' ⟨n0, rfl⟩
     refine zbl zaj (by rfl) ?_
     refine zsr ?_
     go_simp
   case s1 =>
     rintro w' ⟨n0, rfl⟩
     refine zbl zaj (by rfl) ?_
     refine zsr ?_
     go_simp
   case s2 =>
     rintro w' ⟨n0, rfl⟩
     refine zbl zaj (by rfl) ?_
     refine zsr ?_
     go_simp
   case s3 =>
     rintro w' ⟨n0, rfl⟩ K hK
     refine zyf 84 #[.int .i64 x39_4, .int .i64 x10_2, .pointer (some ⟨gb115, 0, none⟩), .pointer (some ⟨gb116, 0, none⟩)] (by rfl) rfl ?_ ?_
     · have he := zpv (P := Tryz.prog) Tryz.func84 zq27 rfl #[.int .i64 x39_4, .int .i64 x10_2, .pointer (some ⟨gb115, 0, none⟩), .pointer (some ⟨gb116, 0, none⟩)] (wr.drew.drewN n0)
       refine zsr ?_
       go_simp
     refine (zf7 k4 x39_4 x10_2 _ 1 [t103] _ 1 [x117000_3] false _ ?side1 ?side2 ?side3 ?side4 A33.out).mono ?_
     case side1 => exact zrz (g := gb115) (o := .cells #[.slice Ao21 t103.length co21] 36 (0, 0)) (zq4 BK115) rfl ⟨_, _, rfl, (by exact (zSr HO_116000.out).2.1), (zq52 HO_116000)⟩
     case side2 => exact zlr _
     case side3 => exact zrz (g := gb116) (o := .cells #[.slice AU x117000_3.length cU] 25 (0, 0)) (zq4 BK116) rfl ⟨_, _, rfl, (zq43 HO_117000), (zq18 HO_117000)⟩
     case side4 => exact zlr _
     rintro e w'' ⟨rfl, hd⟩
     exact ⟨_, rfl, hK _ _ ⟨rfl, hd.out⟩⟩
   case s4 =>
     rintro w' ⟨n0, rfl⟩
     refine zbl zaj (by rfl) ?_
     refine zsr ?_
     go_simp
   case s5 => exact fun w' _ => zft zaj (by rfl)
   case s6 => exact fun w' _ => zft zaj (by rfl)
   case s7 => exact fun w' _ => zft zaj (by rfl)
   case s8 => exact fun w' _ => zft zaj (by rfl)
   case s9 => exact fun w' _ => zft zaj (by rfl)
   case s10 => exact fun w' _ => zft zaj (by rfl)
   case s11 => exact fun w' _ => zft zaj (by rfl)
   case s12 => exact fun w' _ => zft zaj (by rfl)
   case s13 => exact fun w' _ => zft zaj (by rfl)
   case s14 => exact fun w' _ => zft zaj (by rfl)
   case s15 => exact fun w' _ => zft zaj (by rfl)
   case s16 => exact fun w' _ => zft zaj (by rfl)
   case s17 => exact fun w' _ => zft zaj (by rfl)
   case s18 =>
     rintro w' ⟨n0, rfl⟩
     refine zbl zaj (by rfl) ?_
     refine zsr ?_
     go_simp
   refine zsr ?_
   go_wp2_with fail
   go_roundg k4
   case measure => have := HJ2.out; have := HK2.out; have := HK3.out; have := HK4.out; omega
   case rel => exact ⟨(x11_4), (wrap64 (x39_4 + 1)), zq8, zq8, H', ⟨zq56 HJ2 HK2 HK3 HK4⟩, ⟨zq2 HO_7⟩, ⟨zq16 HO_116000⟩, ⟨zq2 HO_117000⟩, ⟨zq4 BK115⟩, ⟨zq4 BK116⟩, ⟨zq9 GE115 GE116⟩⟩
 subst c34
 replace H := zih H
 revert H
 refine zit (fun c35b0 H => ?_) fun c35b0 H => ?_
 · have H' := zA H
   clear H
   obtain ⟨AU, cU, rfl⟩ := Kd.R_slice HO_117000.out
   go_wp2_with fail
   refine zoz [[], [], [], [0, 1, 2], [0, 1, 2, 3], [0, 1, 2, 3, 4], [0, 1, 2, 3, 4, 5], [0, 1, 2, 3, 4, 5, 6], [0, 1, 2, 3, 4, 5, 6, 7], [0, 1, 2, 3, 4, 5, 6, 7], [0, 1, 2, 3, 4, 5, 6, 7, 8, 9], [0, 1, 2, 3, 4, 5, 6, 7, 8, 9, 10], [0, 1, 2, 3, 4, 5, 6, 7], [0, 1, 2, 3, 4, 5, 6, 7], [0, 1, 2, 3, 4, 5, 6, 7, 12, 13], [0, 1, 2, 3, 4, 5, 6, 7, 12, 13, 14], [0, 1, 2, 3, 4, 5, 6, 7, 8, 9, 10, 11, 12, 13, 14, 15], [0, 1, 2, 3, 4, 5, 6, 7, 8, 9, 10, 11, 12, 13, 14, 15, 16], [0, 1, 2, 3, 4, 5, 6, 7, 8, 9, 10, 11, 12, 13, 14, 15, 16, 17]] (zoi [.func (.func 84) #[] #[.pointer (some ⟨gb115, 0, none⟩), .pointer (some ⟨gb116, 0, none⟩)], .int .i64 x39_4, .int .i64 x10_2, .bool true, .bool true, .int .i64 x11_4, .bool true, .bool true, undef, undef, undef, undef, undef, undef, undef, undef, undef, .bool true, .bool true]) rfl (fun _ _ _ _ _ h => h) zq27 ⟨?s0, ?s1, ?s2, ?s3, ?s4, ?s5, ?s6, ?s7, ?s8, ?s9, ?s10, ?s11, ?s12, ?s13, ?s14, ?s15, ?s16, ?s17, ?s18, trivial⟩ (fun nd => ?_)
   case s0 =>
     rintro w' ⟨n0, rfl⟩
     refine zbl zaj (by rfl) ?_
     refine zsr ?_
     go_simp
   case s1 =>
     rintro w' ⟨n0, rfl⟩
     refine zbl zaj (by rfl) ?_
     refine zsr ?_
     go_simp
   case s2 =>
     rintro w' ⟨n0, rfl⟩
     refine zbl zaj (by rfl) ?_
     refine zsr ?_
     go_simp
   case s3 =>
     rintro w' ⟨n0, rfl⟩ K hK
     refine zyf 84 #[.int .i64 x39_4, .int .i64 x10_2, .pointer (some ⟨gb115, 0, none⟩), .pointer (some ⟨gb116, 0, none⟩)] (by rfl) rfl ?_ ?_
     · have he := zpv (P := Tryz.prog) Tryz.func84 zq27 rfl #[.int .i64 x39_4, .int .i64 x10_2, .pointer (some ⟨gb115, 0, none⟩), .pointer (some ⟨gb116, 0, none⟩)] (wr.drew.drewN n0)
       refine zsr ?_
       go_simp
     refine (zf7 k4 x39_4 x10_2 _ 1 [t103] _ 1 [x117000_3] true _ ?side1 ?side2 ?side3 ?side4 A33.out).mono ?_
     case side1 => exact zrz (g := gb115) (o := .cells #[.slice Ao21 t103.length co21] 36 (0, 0)) (zq4 BK115) rfl ⟨_, _, rfl, (by exact (zSr HO_116000.out).2.1), (zq52 HO_116000)⟩
     case side2 => exact zlr _
     case side3 => exact zrz (g := gb116) (o := .cells #[.slice AU x117000_3.length cU] 25 (0, 0)) (zq4 BK116) rfl ⟨_, _, rfl, (zq43 HO_117000), (zq18 HO_117000)⟩
     case side4 => exact zlr _
     rintro e w'' ⟨rfl, hd⟩
     exact ⟨_, rfl, hK _ _ ⟨rfl, hd.out⟩⟩
   case s4 =>
     rintro w' ⟨n0, rfl⟩
     refine zbl zaj (by rfl) ?_
     refine zsr ?_
     go_simp
   case s5 =>
     rintro w' ⟨n0, rfl⟩
     refine zbl zaj (by rfl) ?_
     refine zsr ?_
     go_simp
   case s6 =>
     rintro w' ⟨n0, rfl⟩
     refine zbl zaj (by rfl) ?_
     refine zsr ?_
     go_simp
   case s7 =>
     rintro w' ⟨n0, rfl⟩
     refine zbl zaj (by rfl) ?_
     refine zsr ?_
     go_simp
   case s8 => exact fun w' _ => zft zaj (by rfl)
   case s9 => exact fun w' _ => zft zaj (by rfl)
   case s10 => exact fun w' _ => zft zaj (by rfl)
   case s11 => exact fun w' _ => zft zaj (by rfl)
   case s12 => exact fun w' _ => zft zaj (by rfl)
   case s13 => exact fun w' _ => zft zaj (by rfl)
   case s14 => exact fun w' _ => zft zaj (by rfl)
   case s15 => exact fun w' _ => zft zaj (by rfl)
   case s16 => exact fun w' _ => zft zaj (by rfl)
   case s17 =>
     rintro w' ⟨n0, rfl⟩
     refine zbl zaj (by rfl) ?_
     refine zsr ?_
     go_simp
   case s18 =>
     rintro w' ⟨n0, rfl⟩
     refine zbl zaj (by rfl) ?_
     refine zsr ?_
     go_simp
   refine zsr ?_
   go_wp2_with fail
   go_roundg k4
   case measure => have := HJ2.out; have := HK2.out; have := HK3.out; have := HK4.out; omega
   case rel => exact ⟨(x39_4), (wrap64 (x39_4 + 1)), zq8, zq8, H', ⟨zq56 HJ2 HK2 HK3 HK4⟩, ⟨zq2 HO_7⟩, ⟨zq16 HO_116000⟩, ⟨zq2 HO_117000⟩, ⟨zq4 BK115⟩, ⟨zq4 BK116⟩, ⟨zq9 GE115 GE116⟩⟩
 revert H
 refine zin fun c36 H => ?_
 revert H
 refine zin fun c37 H => ?_
 revert H
 refine zin fun c38 H => ?_
 revert H
 refine zin fun c39 H => ?_
 revert H
 refine zit (fun c40b0 H => ?_) fun c40b0 H => ?_
 · have H' := zA H
   clear H
   obtain ⟨AH, cH, eH, _, hCH⟩ := Kd.R_reads HO_7.out
   obtain ⟨adH, eAH, hH1⟩ := Kd.at_int hCH x39_4 (zde zq21) (zde zq21)
   obtain ⟨adH', eAH', hH2⟩ := Kd.at_int hCH x11_4 (zde zq21) (zde zq21)
   have pj0 : 0 ≤ x39_4 := zde zq21
   have pj1 : x39_4 < (x7_3.length : Int) := zde zq21
   have pb0 : 0 ≤ x11_4 := zde zq21
   have pb1 : x11_4 < (x7_3.length : Int) := zde zq21
   subst eAH
   cases eAH'
   obtain ⟨AU, cU, rfl⟩ := Kd.R_slice HO_117000.out
   go_wp2_with fail
   refine zoz [[], [], [], [0, 1, 2], [0, 1, 2, 3], [0, 1, 2, 3, 4], [0, 1, 2, 3, 4, 5], [0, 1, 2, 3, 4, 5, 6], [0, 1, 2, 3, 4, 5, 6, 7], [0, 1, 2, 3, 4, 5, 6, 7], [0, 1, 2, 3, 4, 5, 6, 7, 8, 9], [0, 1, 2, 3, 4, 5, 6, 7, 8, 9, 10], [0, 1, 2, 3, 4, 5, 6, 7], [0, 1, 2, 3, 4, 5, 6, 7], [0, 1, 2, 3, 4, 5, 6, 7, 12, 13], [0, 1, 2, 3, 4, 5, 6, 7, 12, 13, 14], [0, 1, 2, 3, 4, 5, 6, 7, 8, 9, 10, 11, 12, 13, 14, 15], [0, 1, 2, 3, 4, 5, 6, 7, 8, 9, 10, 11, 12, 13, 14, 15, 16], [0, 1, 2, 3, 4, 5, 6, 7, 8, 9, 10, 11, 12, 13, 14, 15, 16, 17]] (zoi [.func (.func 84) #[] #[.pointer (some ⟨gb115, 0, none⟩), .pointer (some ⟨gb116, 0, none⟩)], .int .i64 x39_4, .int .i64 x10_2, .bool true, .bool true, .int .i64 x11_4, .bool false, .bool false, .slice (some adH) x7_3.length cH, .int .i64 x39_4, .pointer (some ((adH).add (x39_4).toNat)), .int .i64 (rd x7_3 x39_4), .slice (some adH) x7_3.length cH, .int .i64 x11_4, .pointer (some ((adH).add (x11_4).toNat)), .int .i64 (rd x7_3 x11_4), .bool true, .bool true, .bool true]) rfl (fun _ _ _ _ _ h => h) zq27 ⟨?s0, ?s1, ?s2, ?s3, ?s4, ?s5, ?s6, ?s7, ?s8, ?s9, ?s10, ?s11, ?s12, ?s13, ?s14, ?s15, ?s16, ?s17, ?s18, trivial⟩ (fun nd => ?_)
   case s0 =>
     rintro w' ⟨n0, rfl⟩
     refine zbl zaj (by rfl) ?_
     refine zsr ?_
     go_simp
   case s1 =>
     rintro w' ⟨n0, rfl⟩
     refine zbl zaj (by rfl) ?_
     refine zsr ?_
     go_simp
   case s2 =>
     rintro w' ⟨n0, rfl⟩
     refine zbl zaj (by rfl) ?_
     refine zsr ?_
     go_simp
   case s3 =>
     rintro w' ⟨n0, rfl⟩ K hK
     refine zyf 84 #[.int .i64 x39_4, .int .i64 x10_2, .pointer (some ⟨gb115, 0, none⟩), .pointer (some ⟨gb116, 0, none⟩)] (by rfl) rfl ?_ ?_
     · have he := zpv (P := Tryz.prog) Tryz.func84 zq27 rfl #[.int .i64 x39_4, .int .i64 x10_2, .pointer (some ⟨gb115, 0, none⟩), .pointer (some ⟨gb116, 0, none⟩)] (wr.drew.drewN n0)
       refine zsr ?_
       go_simp
     refine (zf7 k4 x39_4 x10_2 _ 1 [t103] _ 1 [x117000_3] true _ ?side1 ?side2 ?side3 ?side4 A33.out).mono ?_
     case side1 => exact zrz (g := gb115) (o := .cells #[.slice Ao21 t103.length co21] 36 (0, 0)) (zq4 BK115) rfl ⟨_, _, rfl, (by exact (zSr HO_116000.out).2.1), (zq52 HO_116000)⟩
     case side2 => exact zlr _
     case side3 => exact zrz (g := gb116) (o := .cells #[.slice AU x117000_3.length cU] 25 (0, 0)) (zq4 BK116) rfl ⟨_, _, rfl, (zq43 HO_117000), (zq18 HO_117000)⟩
     case side4 => exact zlr _
     rintro e w'' ⟨rfl, hd⟩
     exact ⟨_, rfl, hK _ _ ⟨rfl, hd.out⟩⟩
   case s4 =>
     rintro w' ⟨n0, rfl⟩
     refine zbl zaj (by rfl) ?_
     refine zsr ?_
     go_simp
   case s5 =>
     rintro w' ⟨n0, rfl⟩
     refine zbl zaj (by rfl) ?_
     refine zsr ?_
     go_simp
   case s6 =>
     rintro w' ⟨n0, rfl⟩
     refine zbl zaj (by rfl) ?_
     refine zsr ?_
     go_simp
   case s7 =>
     rintro w' ⟨n0, rfl⟩
     refine zbl zaj (by rfl) ?_
     refine zsr ?_
     go_simp
   case s8 =>
     rintro w' ⟨n0, rfl⟩
     refine zbl zaj (by rfl) ?_
     refine zsr ?_
     go_simp
   case s9 =>
     rintro w' ⟨n0, rfl⟩
     refine zbl zaj (by rfl) ?_
     refine zsr ?_
     go_simp
   case s10 =>
     rintro w' ⟨n0, rfl⟩
     refine zbl zaj (by rfl) ?_
     refine zsr ?_
     go_simp
   case s11 =>
     rintro w' ⟨n0, rfl⟩
     refine zbl zaj (by rfl) ?_
     refine zsr ?_
     go_simp
   case s12 =>
     rintro w' ⟨n0, rfl⟩
     refine zbl zaj (by rfl) ?_
     refine zsr ?_
     go_simp
   case s13 =>
     rintro w' ⟨n0, rfl⟩
     refine zbl zaj (by rfl) ?_
     refine zsr ?_
     go_simp
   case s14 =>
     rintro w' ⟨n0, rfl⟩
     refine zbl zaj (by rfl) ?_
     refine zsr ?_
     go_simp
   case s15 =>
     rintro w' ⟨n0, rfl⟩
     refine zbl zaj (by rfl) ?_
     refine zsr ?_
     go_simp
   case s16 =>
     rintro w' ⟨n0, rfl⟩
     refine zbl zaj (by rfl) ?_
     refine zsr ?_
     go_simp
   case s17 =>
     rintro w' ⟨n0, rfl⟩
     refine zbl zaj (by rfl) ?_
     refine zsr ?_
     go_simp
   case s18 =>
     rintro w' ⟨n0, rfl⟩
     refine zbl zaj (by rfl) ?_
     refine zsr ?_
     go_simp
   refine zsr ?_
   go_wp2_with fail
   go_roundg k4
   case measure => have := HJ2.out; have := HK2.out; have := HK3.out; have := HK4.out; omega
   case rel => exact ⟨(x39_4), (wrap64 (x39_4 + 1)), zq8, zq8, H', ⟨zq56 HJ2 HK2 HK3 HK4⟩, ⟨zq2 HO_7⟩, ⟨zq16 HO_116000⟩, ⟨zq2 HO_117000⟩, ⟨zq4 BK115⟩, ⟨zq4 BK116⟩, ⟨zq9 GE115 GE116⟩⟩
 have H' := zA H
 clear H
 obtain ⟨AH, cH, eH, _, hCH⟩ := Kd.R_reads HO_7.out
 obtain ⟨adH, eAH, hH1⟩ := Kd.at_int hCH x39_4 (zde zq21) (zde zq21)
 obtain ⟨adH', eAH', hH2⟩ := Kd.at_int hCH x11_4 (zde zq21) (zde zq21)
 have pj0 : 0 ≤ x39_4 := zde zq21
 have pj1 : x39_4 < (x7_3.length : Int) := zde zq21
 have pb0 : 0 ≤ x11_4 := zde zq21
 have pb1 : x11_4 < (x7_3.length : Int) := zde zq21
 subst eAH
 cases eAH'
 obtain ⟨AU, cU, rfl⟩ := Kd.R_slice HO_117000.out
 go_wp2_with fail
 refine zoz [[], [], [], [0, 1, 2], [0, 1, 2, 3], [0, 1, 2, 3, 4], [0, 1, 2, 3, 4, 5], [0, 1, 2, 3, 4, 5, 6], [0, 1, 2, 3, 4, 5, 6, 7], [0, 1, 2, 3, 4, 5, 6, 7], [0, 1, 2, 3, 4, 5, 6, 7, 8, 9], [0, 1, 2, 3, 4, 5, 6, 7, 8, 9, 10], [0, 1, 2, 3, 4, 5, 6, 7], [0, 1, 2, 3, 4, 5, 6, 7], [0, 1, 2, 3, 4, 5, 6, 7, 12, 13], [0, 1, 2, 3, 4, 5, 6, 7, 12, 13, 14], [0, 1, 2, 3, 4, 5, 6, 7, 8, 9, 10, 11, 12, 13, 14, 15], [0, 1, 2, 3, 4, 5, 6, 7, 8, 9, 10, 11, 12, 13, 14, 15, 16], [0, 1, 2, 3, 4, 5, 6, 7, 8, 9, 10, 11, 12, 13, 14, 15, 16, 17]] (zoi [.func (.func 84) #[] #[.pointer (some ⟨gb115, 0, none⟩), .pointer (some ⟨gb116, 0, none⟩)], .int .i64 x39_4, .int .i64 x10_2, .bool true, .bool true, .int .i64 x11_4, .bool false, .bool false, .slice (some adH) x7_3.length cH, .int .i64 x39_4, .pointer (some ((adH).add (x39_4).toNat)), .int .i64 (rd x7_3 x39_4), .slice (some adH) x7_3.length cH, .int .i64 x11_4, .pointer (some ((adH).add (x11_4).toNat)), .int .i64 (rd x7_3 x11_4), .bool false, .bool false, .bool false]) rfl (fun _ _ _ _ _ h => h) zq27 ⟨?s0, ?s1, ?s2, ?s3, ?s4, ?s5, ?s6, ?s7, ?s8, ?s9, ?s10, ?s11, ?s12, ?s13, ?s14, ?s15, ?s16, ?s17, ?s18, trivial⟩ (fun nd => ?_)
 case s0 =>
   rintro w' ⟨n0, rfl⟩
   refine zbl zaj (by rfl) ?_
   refine zsr ?_
   go_simp
 case s1 =>
   rintro w' ⟨n0, rfl⟩
   refine zbl zaj (by rfl) ?_
   refine zsr ?_
   go_simp
 case s2 =>
   rintro w' ⟨n0, rfl⟩
   refine zbl zaj (by rfl) ?_
   refine zsr ?_
   go_simp
 case s3 =>
   rintro w' ⟨n0, rfl⟩ K hK
   refine zyf 84 #[.int .i64 x39_4, .int .i64 x10_2, .pointer (some ⟨gb115, 0, none⟩), .pointer (some ⟨gb116, 0, none⟩)] (by rfl) rfl ?_ ?_
   · have he := zpv (P := Tryz.prog) Tryz.func84 zq27 rfl #[.int .i64 x39_4, .int .i64 x10_2, .pointer (some ⟨gb115, 0, none⟩), .pointer (some ⟨gb116, 0, none⟩)] (wr.drew.drewN n0)
     refine zsr ?_
     go_simp
   refine (zf7 k4 x39_4 x10_2 _ 1 [t103] _ 1 [x117000_3] true _ ?side1 ?side2 ?side3 ?side4 A33.out).mono ?_
   case side1 => exact zrz (g := gb115) (o := .cells #[.slice Ao21 t103.length co21] 36 (0, 0)) (zq4 BK115) rfl ⟨_, _, rfl, (by exact (zSr HO_116000.out).2.1), (zq52 HO_116000)⟩
   case side2 => exact zlr _
   case side3 => exact zrz (g := gb116) (o := .cells #[.slice AU x117000_3.length cU] 25 (0, 0)) (zq4 BK116) rfl ⟨_, _, rfl, (zq43 HO_117000), (zq18 HO_117000)⟩
   case side4 => exact zlr _
   rintro e w'' ⟨rfl, hd⟩
   exact ⟨_, rfl, hK _ _ ⟨rfl, hd.out⟩⟩
 case s4 =>
   rintro w' ⟨n0, rfl⟩
   refine zbl zaj (by rfl) ?_
   refine zsr ?_
   go_simp
 case s5 =>
   rintro w' ⟨n0, rfl⟩
   refine zbl zaj (by rfl) ?_
   refine zsr ?_
   go_simp
 case s6 =>
   rintro w' ⟨n0, rfl⟩
   refine zbl zaj (by rfl) ?_
   refine zsr ?_
   go_simp
 case s7 =>
   rintro w' ⟨n0, rfl⟩
   refine zbl zaj (by rfl) ?_
   refine zsr ?_
   go_simp
 case s8 =>
   rintro w' ⟨n0, rfl⟩
   refine zbl zaj (by rfl) ?_
   refine zsr ?_
   go_simp
 case s9 =>
   rintro w' ⟨n0, rfl⟩
   refine zbl zaj (by rfl) ?_
   refine zsr ?_
   go_simp
 case s10 =>
   rintro w' ⟨n0, rfl⟩
   refine zbl zaj (by rfl) ?_
   refine zsr ?_
   go_simp
 case s11 =>
   rintro w' ⟨n0, rfl⟩
   refine zbl zaj (by rfl) ?_
   refine zsr ?_
   go_simp
 case s12 =>
   rintro w' ⟨n0, rfl⟩
   refine zbl zaj (by rfl) ?_
   refine zsr ?_
   go_simp
 case s13 =>
   rintro w' ⟨n0, rfl⟩
   refine zbl zaj (by rfl) ?_
   refine zsr ?_
   go_simp
 case s14 =>
   rintro w' ⟨n0, rfl⟩
   refine zbl zaj (by rfl) ?_
   refine zsr ?_
   go_simp
 case s15 =>
   rintro w' ⟨n0, rfl⟩
   refine zbl zaj (by rfl) ?_
   refine zsr ?_
   go_simp
 case s16 =>
   rintro w' ⟨n0, rfl⟩
   refine zbl zaj (by rfl) ?_
   refine zsr ?_
   go_simp
 case s17 =>
   rintro w' ⟨n0, rfl⟩
   refine zbl zaj (by rfl) ?_
   refine zsr ?_
   go_simp
 case s18 =>
   rintro w' ⟨n0, rfl⟩
   refine zbl zaj (by rfl) ?_
   refine zsr ?_
   go_simp
 refine zsr ?_
 go_wp2_with fail
 go_roundg k4
 case measure => have := HJ2.out; have := HK2.out; have := HK3.out; have := HK4.out; omega
 case rel => exact ⟨(x11_4), (wrap64 (x39_4 + 1)), zq8, zq8, H', ⟨zq56 HJ2 HK2 HK3 HK4⟩, ⟨zq2 HO_7⟩, ⟨zq16 HO_116000⟩, ⟨zq2 HO_117000⟩, ⟨zq4 BK115⟩, ⟨zq4 BK116⟩, ⟨zq9 GE115 GE116⟩⟩
def zbz : Nat → List Int → Int → Int → Option (Int)
 | 0, _, _, _ => none
 | k + 1, x0, x3, x4 => if x4 < (x0.length : Int) then (if 0 ≤ x4 then (zbz k x0 (mx x3 (rd x0 x4)) (wrap64 (x4 + 1))) else (none)) else (some x3)
def zd4 (k : Nat) (l0 : List Int) : Option (Int) := if (l0.length : Int) < 1 then (none) else (if 0 < (l0.length : Int) then (zbz k l0 (rd l0 0) 1) else (none))
theorem zje : ∀ k, (∀ y0 y1 y2, LeO (zbz k y0 y1 y2) (zbz (k + 1) y0 y1 y2))
 | 0 => fun _ _ _ r h => by simp [zbz] at h
 | k + 1 => by
   have ih0 := zje k
   · intro y0 y1 y2
     unfold zbz
     exact zm1 ih0
theorem znw : ∀ a0 k, LeO (zd4 k a0) (zd4 (k + 1) a0) := by
 intro a0 k
 have ih0 := zje k
 unfold zd4
 exact zm1 ih0
theorem zne (k : Nat) (A0 : Option Addr) (c0 : Nat) (l0 : List Int) (r : Int) (w : World) (hr0 : Kd.C (Kd.int .i64) w A0 l0.length l0) (hc0 : l0.length ≤ c0) (h : zd4 k l0 = some r) :
   Calls Tryz.prog 74 #[.slice A0 l0.length c0] w fun e w' => e = .returned (.int .i64 r) ∧ Below w.heap.size w w' := by
 have HR0 := zA hr0
 have HC0 := zA hc0
 clear hr0 hc0
 have HB := zA (Below.refl w.heap.size w)
 have H := h
 unfold zd4 at H
 clear h
 by_cases c2 : (l0.length : Int) < 1
 · rw [if_pos c2] at H
   exact absurd H (by simp)
 rw [if_neg c2] at H
 have c2b0 := zdf c2
 have c2b1 : decide (l0.length < 1) = false := zdf (by omega)
 clear c2
 by_cases c3 : 0 < (l0.length : Int)
 rotate_left
 · rw [if_neg c3] at H
   exact absurd H (by simp)
 rw [if_pos c3] at H
 have c3b0 := zdt c3
 have c3b1 : decide (0 < l0.length) = true := zdt (by omega)
 clear c3
 have H' := zA H
 clear H
 have p101 : 0 ≤ (0 : Int) := (by omega)
 have q101 : 0 < (l0.length : Int) := zde zq21
 obtain ⟨ad101, e101, hx101_0⟩ := Kd.at_int HR0.out 0 p101 q101
 cases e101
 have qi101 : (0 < l0.length) = True := eq_true (by omega)
 (try rw [show ((0 : Int)).toNat = 0 from rfl] at hx101_0)
 (try rw [Addr.add_zero'] at hx101_0)
 replace p101 := eq_true p101
 replace q101 := eq_true q101
 go_enter Tryz.func74, Tryz.ntmps74
 go_wp2
 go_loopg [3, 4] k (fun kq v3 v4 w' => ∃ (x3_1 : Int) (x4_1 : Int), v3 = .int .i64 x3_1 ∧ v4 = .int .i64 x4_1 ∧ Aside0 (zbz kq l0 x3_1 x4_1 = some r) ∧ Aside0 (kq ≤ k) ∧ Aside0 (Below w.heap.size w w'))
 case atStart => exact ⟨(rd l0 0), (1), zq8, zq8, H', ⟨zlr _⟩, ⟨zq1⟩⟩
 clear H'
 obtain ⟨x3_1, x4_1, rfl, rfl, HA, HK1, HB⟩ := hrel
 cases gk with
 | zero => exact absurd HA.out (by simp [zbz])
 | succ k1 =>
 have H := HA.out
 clear HA
 simp only [zbz] at H
 revert H
 refine zit (fun c4 H => ?_) fun c4 H => ?_
 rotate_left
 · obtain rfl := zsi H
   go_wp2
   exact zr_3
 revert H
 refine zin fun c5 H => ?_
 obtain ⟨ji6, hji6⟩ : ∃ j_ : Int, (mx x3_1 (rd l0 x4_1)) = j_ := ⟨_, rfl⟩
 replace H : (zbz k1 l0 ji6 (wrap64 (x4_1 + 1))) = some r := by first | (rw [hji6] at H; exact H) | (simp only [hji6] at H ⊢; exact H)
 have hji6_ : (if x3_1 < (rd l0 x4_1) then (rd l0 x4_1) else x3_1) = ji6 := hji6
 have H' := zA H
 clear H
 obtain ⟨p102, q102⟩ := zpq x4_1 l0.length
 obtain ⟨ad102, e102, hx102_0⟩ := Kd.at_int HR0.out x4_1 (zoe p102) (zoe q102)
 obtain rfl : ad101 = ad102 := (by injection e102)
 replace hx102_0 := zkep HB.out hx102_0
 go_wp2
 go_roundg k1
 case measure => have := HK1.out; omega
 case rel => exact ⟨(ji6), (wrap64 (x4_1 + 1)), (by first | rfl | (simp; done) | (simp only [← hji6] <;> (first | rfl | simp)) | (simp [*]; done)), zq8, H', ⟨zq46 HK1⟩, ⟨zq1⟩⟩
def ze6 (k : Nat) (l0 : List (S55)) : Option (Int × Bool) := (zdn k l0).bind fun t101 => (if t101 = true then ((zf8 k l0).bind fun t102 => (if t102.length < 17592186044416 then ((zd4 k (t102 ++ [0])).bind fun t108 => (some (t108, true))) else (none))) else (some (0, false)))
theorem zwe : ∀ a0 k, LeO (ze6 k a0) (ze6 (k + 1) a0) := by
 intro a0 k
 unfold ze6
 exact zm3 zg5 zb7 znw
theorem zlg (k : Nat) (A0 : Option Addr) (c0 : Nat) (l0 : List (S55)) (r1 : Int) (r2 : Bool) (w : World) (hr0 : Kd.C k55 w A0 l0.length l0) (hc0 : l0.length ≤ c0) (h : ze6 k l0 = some (r1, r2)) :
   Calls Tryz.prog 31 #[.slice A0 l0.length c0] w fun e w' => e = .returned (.tuple #[.int .i64 r1, .bool r2]) ∧ Below w.heap.size w w' := by
 have HR0 := zA hr0
 have HC0 := zA hc0
 clear hr0 hc0
 have HB := zA (Below.refl w.heap.size w)
 have H := h
 unfold ze6 at H
 clear h
 replace H := zob H
 obtain ⟨t101, A20, H⟩ := H
 have A2 := zA A20
 clear A20
 by_cases c3 : t101 = true
 rotate_left
 · replace c3 := zbf c3
   subst c3
   replace H := zif H
   simp only [Option.some.injEq, Prod.mk.injEq] at H
   obtain ⟨rfl, rfl⟩ := H
   go_enter Tryz.func31, Tryz.ntmps31
   go_wp2_with (first | ((with_reducible refine zgc 51 ?_); refine zca 5 Tryz.func51 #[.slice A0 l0.length c0] (za7 k _ _ l0 false _ (zq17 HR0) HC0.out A2.out) ?_; rintro e w12 ⟨rfl, hb⟩; refine ⟨_, rfl, ?_⟩; replace HB := zA (zac zq1 hb); (try clear hb)))
   go_ret2
   exact ⟨zq5, zq1⟩
 subst c3
 replace H := zih H
 replace H := zob H
 obtain ⟨t102, A40, H⟩ := H
 have A4 := zA A40
 clear A40
 by_cases c5 : t102.length < 17592186044416
 rotate_left
 · rw [if_neg c5] at H
   exact absurd H (by simp)
 rw [if_pos c5] at H
 have LMc5 := zA c5
 clear c5
 obtain ⟨y105, hy105⟩ : ∃ y_ : List Int, y_ = (t102 ++ [0]) := ⟨_, rfl⟩
 rw [← hy105] at H; try with_reducible replace H := zbs H
 have Ny105 := zA hy105
 clear hy105
 replace H := zob H
 obtain ⟨t108, A60, H⟩ := H
 have A6 := zA A60
 clear A60
 simp only [Option.some.injEq, Prod.mk.injEq] at H
 obtain ⟨rfl, rfl⟩ := H
 go_enter Tryz.func31, Tryz.ntmps31
 go_wp2_with (first | ((with_reducible refine zgc 51 ?_); refine zca 5 Tryz.func51 #[.slice A0 l0.length c0] (za7 k _ _ l0 true _ (zq17 HR0) HC0.out A2.out) ?_; rintro e w7 ⟨rfl, hb⟩; refine ⟨_, rfl, ?_⟩; replace HB := zA (zac zq1 hb); (try clear hb)) | ((with_reducible refine zgc 75 ?_); refine zca 8 Tryz.func75 #[.slice A0 l0.length c0] (zmk k _ _ l0 t102 _ (zq15 HR0) HC0.out A4.out) ?_; rintro e w8 ⟨v103, rfl, ho0, hb⟩; refine ⟨_, rfl, ?_⟩; have HO104 := zA (Kd.R_lower ho0 (zah zq1)); replace HB := zA (zac zq1 hb); (try clear hb); (try clear ho0)) | ((with_reducible refine zc7 (b := .append) (xs := #[.tmp 8, .tmp 9]) rfl ?_); at_builtin; refine Kd.R_append (Kd.int .i64) (w0 := w) w.heap.size rfl (.tmp 8) (.tmp 9) 25 3 (.int .i64 0) 8 rfl Tryz.underlying25 zkf rfl (by decide) (by omega) v103 t102 0 [.int .i64 0] (fun _ => True) (fun _ => False) rfl rfl ?aP (fun _ hk => hk.elim) ?aF ?aO ?aB ?aS ?aL ?_; (case aP => exact rfl); (case aB => exact zq1); (case aF => exact (fun _ _ => trivial)); (case aO => exact (zq2 HO104)); (case aS => exact (zah zq1)); (case aL => have := LMc5.out; omega); intro v106 w9 ho hb hg hat; rw [← Ny105.out] at ho; replace HB := zA (hb); have HO107 := zA (ho); clear HO104; clear ho hb hg hat; obtain ⟨Ao10, co10, eo10⟩ := Kd.R_slice HO107.out; subst eo10) | ((with_reducible refine zgc 74 ?_); refine zca 11 Tryz.func74 #[.slice Ao10 y105.length co10] (zne k _ _ y105 t108 _ (zq18 HO107) (zq43 HO107) A6.out) ?_; rintro e w11 ⟨rfl, hb⟩; refine ⟨_, rfl, ?_⟩; replace HO107 := zA (zRb (zq2 HO107) hb); replace HB := zA (zac zq1 hb); (try clear hb)))
 go_ret2
 exact ⟨zq5, zq1⟩
mutual
def zdi : Nat → List (S55) → Int → Bool → Option (Int × Bool)
 | 0, _, _, _ => none
 | k + 1, x0, x1, x21 => if x21 = true then (some (0, false)) else ((zfn k x0).bind fun t103 => (zcf k x0 x1 0 t103 t103 (t103.length : Int) 0))
def zcf : Nat → List (S55) → Int → Int → List Int → List Int → Int → Int → Option (Int × Bool)
 | 0, _, _, _, _, _, _, _ => none
 | k + 1, x0, x1, x6, x7, x24, x25, x26 => if x26 < x25 then (if 0 ≤ x26 then (if x26 < (x24.length : Int) then (zcg k x0 x1 x6 x7 (rd x24 x26) 0 100 x24 x25 x26 x0 (x0.length : Int) 0) else (none)) else (none)) else (some (x6, true))
def zcg : Nat → List (S55) → Int → Int → List Int → Int → Int → Int → List Int → Int → Int → List (S55) → Int → Int → Option (Int × Bool)
 | 0, _, _, _, _, _, _, _, _, _, _, _, _, _ => none
 | k + 1, x0, x1, x6, x7, x9, x10, x11, x24, x25, x26, x30, x31, x32 => if x32 < x31 then (if 0 ≤ x32 then (if x32 < (x30.length : Int) then (if x32 < (x7.length : Int) then (if (rd x7 x32) ≥ x9 then ((zdx ((zaa x30 x32).f0) ((zaa x30 x32).f1) ((zaa x30 x32).f2) ((zaa x30 x32).f3) ((zaa x30 x32).f4)).bind fun t110 => (zcg k x0 x1 x6 x7 x9 (wrap64 (x10 + 1)) (mn x11 t110) x24 x25 x26 x30 x31 (wrap64 (x32 + 1)))) else (zcg k x0 x1 x6 x7 x9 x10 x11 x24 x25 x26 x30 x31 (wrap64 (x32 + 1)))) else (none)) else (none)) else (none)) else (if x1 = 0 then (none) else (zcf k x0 x1 (mx x6 (wrap64 ((wrap64 ((wrap64 (x9 + (wrap64 (Int.tdiv (wrap64 ((wrap64 (x10 + x1)) - 1)) x1)))) + x11)) - 1))) x7 x24 x25 (wrap64 (x26 + 1))))
end
def zfr (k : Nat) (l0 : List (S55)) (a1 : Int) : Option (Int × Bool) := (zdn k l0).bind fun t101 => (if t101 = true then ((zea a1).bind fun t102 => (zdi k l0 a1 (!t102))) else (zdi k l0 a1 true))
theorem zkz : ∀ k, (∀ y0 y1 y2, LeO (zdi k y0 y1 y2) (zdi (k + 1) y0 y1 y2)) ∧ (∀ y0 y1 y2 y3 y4 y5 y6, LeO (zcf k y0 y1 y2 y3 y4 y5 y6) (zcf (k + 1) y0 y1 y2 y3 y4 y5 y6)) ∧ (∀ y0 y1 y2 y3 y4 y5 y6 y7 y8 y9 y10 y11 y12, LeO (zcg k y0 y1 y2 y3 y4 y5 y6 y7 y8 y9 y10 y11 y12) (zcg (k + 1) y0 y1 y2 y3 y4 y5 y6 y7 y8 y9 y10 y11 y12))
 | 0 => ⟨fun _ _ _ r h => by simp [zdi] at h, fun _ _ _ _ _ _ _ r h => by simp [zcf] at h, fun _ _ _ _ _ _ _ _ _ _ _ _ _ r h => by simp [zcg] at h⟩
 | k + 1 => by
   obtain ⟨ih0, ih1, ih2⟩ := zkz k
   refine ⟨?_, ?_, ?_⟩
   · intro y0 y1 y2
     unfold zdi
     exact zm5 ih0 ih1 ih2 zhe zb7
   · intro y0 y1 y2 y3 y4 y5 y6
     unfold zcf
     exact zm5 ih0 ih1 ih2 zhe zb7
   · intro y0 y1 y2 y3 y4 y5 y6 y7 y8 y9 y10 y11 y12
     unfold zcg
     exact zm5 ih0 ih1 ih2 zhe zb7
theorem zwf : ∀ a0 a1 k, LeO (zfr k a0 a1) (zfr (k + 1) a0 a1) := by
 intro a0 a1 k
 obtain ⟨ih0, ih1, ih2⟩ := zkz k
 unfold zfr
 exact zm5 ih0 ih1 ih2 zhe zb7
theorem zo8 (k : Nat) (A0 : Option Addr) (c0 : Nat) (l0 : List (S55)) (a1 : Int) (r1 : Int) (r2 : Bool) (w : World) (hr0 : Kd.C k55 w A0 l0.length l0) (hc0 : l0.length ≤ c0) (h : zfr k l0 a1 = some (r1, r2)) :
   Calls Tryz.prog 32 #[.slice A0 l0.length c0, .int .i64 a1] w fun e w' => e = .returned (.tuple #[.int .i64 r1, .bool r2]) ∧ Below w.heap.size w w' := by
 have hu55 := Tryz.underlying55
 have HR0 := zA hr0
 have HC0 := zA hc0
 clear hr0 hc0
 have HB := zA (Below.refl w.heap.size w)
 have H := h
 unfold zfr at H
 clear h
 have HC3 := zA H
 clear H
 go_enter Tryz.func32, Tryz.ntmps32
 go_upto_region 1 with (fail)
 go_cut [21] (fun v21 wc => ∃ (kq : Nat) (x21_2 : Bool), v21 = .bool x21_2 ∧ Aside0 (zdi kq l0 a1 x21_2 = some (r1, r2)) ∧ Aside0 (kq ≤ k) ∧ Aside0 (Below w.heap.size w wc))
 case first =>
   have H := HC3.out
   clear HC3
   replace H := zob H
   obtain ⟨t101, A40, H⟩ := H
   have A4 := zA A40
   clear A40
   by_cases c5 : t101 = true
   rotate_left
   · replace c5 := zbf c5
     subst c5
     replace H := zif H
     have H' := zA H
     clear H
     go_wp2_with (first | ((with_reducible refine zgc 51 ?_); refine zca 15 Tryz.func51 #[.slice A0 l0.length c0] (za7 k _ _ l0 false _ (zq15 HR0) HC0.out A4.out) ?_; rintro e w8 ⟨rfl, hb⟩; refine ⟨_, rfl, ?_⟩; replace HB := zA (zac zq1 hb); (try clear hb)))
     go_meet
     case rel => exact ⟨_, (true), zq8, H', ⟨zq38⟩, ⟨zq1⟩⟩
   subst c5
   replace H := zih H
   replace H := zob H
   obtain ⟨t102, A60, H⟩ := H
   have A6 := zA A60
   clear A60
   have H' := zA H
   clear H
   go_wp2_with (first | ((with_reducible refine zgc 51 ?_); refine zca 15 Tryz.func51 #[.slice A0 l0.length c0] (za7 k _ _ l0 true _ (zq15 HR0) HC0.out A4.out) ?_; rintro e w7 ⟨rfl, hb⟩; refine ⟨_, rfl, ?_⟩; replace HB := zA (zac zq1 hb); (try clear hb)) | (go_at_call 67; (with_reducible refine (zfe a1 t102 _ A6.out).mono ?_); rintro e w' ⟨rfl, ⟨nd, rfl⟩⟩))
   go_meet
   case rel => exact ⟨_, (!t102), zq8, H', ⟨zq38⟩, ⟨zq1⟩⟩
 clear HC3
 obtain ⟨kq, x21_2, rfl, HA, HJ2, HB⟩ := hcut
 cases kq with
 | zero => exact absurd HA.out (by simp [zdi])
 | succ kj2 =>
 have H := HA.out
 clear HA
 simp only [zdi] at H
 by_cases c9 : x21_2 = true
 · subst c9
   replace H := zih H
   simp only [Option.some.injEq, Prod.mk.injEq] at H
   obtain ⟨rfl, rfl⟩ := H
   go_wp2
   go_ret2
   exact ⟨zq5, zq1⟩
 replace c9 := zbf c9
 subst c9
 replace H := zif H
 replace H := zob H
 obtain ⟨t103, A100, H⟩ := H
 have A10 := zA A100
 clear A100
 have H' := zA H
 clear H
 go_wp2_with (first | ((with_reducible refine zgc 76 ?_); refine zca 23 Tryz.func76 #[.slice A0 l0.length c0] (zlx kj2 _ _ l0 t103 _ (zq15 HR0) HC0.out A10.out) ?_; rintro e w11 ⟨v104, rfl, ho0, hb⟩; refine ⟨_, rfl, ?_⟩; have HO105 := zA (Kd.R_lower ho0 (zah zq1)); replace HB := zA (zac zq1 hb); (try clear hb); (try clear ho0); obtain ⟨Ao12, co12, eo12⟩ := Kd.R_slice HO105.out; subst eo12))
 go_loopg [6, 26] kj2 (fun kq v6 v26 w' => ∃ (x6_2 : Int) (x26_2 : Int), v6 = .int .i64 x6_2 ∧ v26 = .int .i64 x26_2 ∧ Aside0 (zcf kq l0 a1 x6_2 t103 t103 (t103.length : Int) x26_2 = some (r1, r2)) ∧ Aside0 (kq ≤ kj2) ∧ Aside0 (Kd.R (Kd.int .i64) 3 w' w.heap.size (fun _ => True) (.slice Ao12 t103.length co12) t103) ∧ Aside0 (Kd.R (Kd.int .i64) 3 w' w.heap.size (fun _ => True) (.slice Ao12 t103.length co12) t103) ∧ Aside0 (Below w.heap.size w w'))
 case atStart => exact ⟨(0), (0), zq8, zq8, H', ⟨zlr _⟩, ⟨zq2 HO105⟩, ⟨zq2 HO105⟩, ⟨zq1⟩⟩
 clear H'
 obtain ⟨x6_2, x26_2, rfl, rfl, HA, HK2, HO_7, HO_24, HB⟩ := hrel
 cases gk with
 | zero => exact absurd HA.out (by simp [zcf])
 | succ k2 =>
 have H := HA.out
 clear HA
 simp only [zcf] at H
 revert H
 refine zit (fun c13 H => ?_) fun c13 H => ?_
 rotate_left
 · simp only [Option.some.injEq, Prod.mk.injEq] at H
   obtain ⟨rfl, rfl⟩ := H
   go_wp2
   go_ret2
   exact ⟨zq5, zq1⟩
 revert H
 refine zin fun c14 H => ?_
 revert H
 refine zin fun c15 H => ?_
 have H' := zA H
 clear H
 obtain ⟨p106, q106⟩ := zpq x26_2 t103.length
 obtain ⟨ad106, e106, hx106_0⟩ := Kd.at_int (zRr HO_24.out).2.2 x26_2 (zoe p106) (zoe q106)
 cases e106
 go_wp2
 go_loopg [10, 11, 32] k2 (fun kq v10 v11 v32 w' => ∃ (x10_3 : Int) (x11_3 : Int) (x32_3 : Int), v10 = .int .i64 x10_3 ∧ v11 = .int .i64 x11_3 ∧ v32 = .int .i64 x32_3 ∧ Aside0 (zcg kq l0 a1 x6_2 t103 (rd t103 x26_2) x10_3 x11_3 t103 (t103.length : Int) x26_2 l0 (l0.length : Int) x32_3 = some (r1, r2)) ∧ Aside0 (kq ≤ k2) ∧ Aside0 (Kd.R (Kd.int .i64) 3 w' w.heap.size (fun _ => True) (.slice (some ad106) t103.length co12) t103) ∧ Aside0 (Kd.R (Kd.int .i64) 3 w' w.heap.size (fun _ => True) (.slice (some ad106) t103.length co12) t103) ∧ Aside0 (Below w.heap.size w w'))
 case atStart => exact ⟨(0), (100), (0), zq8, zq8, zq8, H', ⟨zlr _⟩, ⟨zq2 HO_7⟩, ⟨zq2 HO_24⟩, ⟨zq1⟩⟩
 clear H'
 obtain ⟨x10_3, x11_3, x32_3, rfl, rfl, rfl, HA, HK3, HO_7, HO_24, HB⟩ := hrel
 cases gk with
 | zero => exact absurd HA.out (by simp [zcg])
 | succ k3 =>
 have H := HA.out
 clear HA
 simp only [zcg] at H
 revert H
 refine zit (fun c16 H => ?_) fun c16 H => ?_
 rotate_left
 · by_cases c28 : a1 = 0
   · rw [if_pos c28] at H
     exact absurd H (by simp)
   rw [if_neg c28] at H
   obtain ⟨c28b0, c28b1⟩ := zbq c28
   obtain ⟨ji29, hji29⟩ : ∃ j_ : Int, (mx x6_2 (wrap64 ((wrap64 ((wrap64 ((rd t103 x26_2) + (wrap64 (Int.tdiv (wrap64 ((wrap64 (x10_3 + a1)) - 1)) a1)))) + x11_3)) - 1))) = j_ := ⟨_, rfl⟩
   replace H : (zcf k3 l0 a1 ji29 t103 t103 (t103.length : Int) (wrap64 (x26_2 + 1))) = some (r1, r2) := by first | (rw [hji29] at H; exact H) | (simp only [hji29] at H ⊢; exact H)
   have hji29_ : (if x6_2 < (wrap64 ((wrap64 ((wrap64 ((rd t103 x26_2) + (wrap64 (Int.tdiv (wrap64 ((wrap64 (x10_3 + a1)) - 1)) a1)))) + x11_3)) - 1)) then (wrap64 ((wrap64 ((wrap64 ((rd t103 x26_2) + (wrap64 (Int.tdiv (wrap64 ((wrap64 (x10_3 + a1)) - 1)) a1)))) + x11_3)) - 1)) else x6_2) = ji29 := hji29
   have H' := zA H
   clear H
   go_wp2
   go_roundg k3
   case measure => have := HJ2.out; have := HK2.out; have := HK3.out; omega
   case rel => exact ⟨(ji29), (wrap64 (x26_2 + 1)), (by first | rfl | (simp; done) | (simp only [← hji29] <;> (first | rfl | simp)) | (simp [*]; done)), zq8, H', ⟨zq42 HJ2 HK2 HK3⟩, ⟨zq2 HO_7⟩, ⟨zq2 HO_24⟩, ⟨zq1⟩⟩
 revert H
 refine zin fun c17 H => ?_
 revert H
 refine zin fun c18 H => ?_
 revert H
 refine zin fun c19 H => ?_
 by_cases c20 : (rd t103 x32_3) ≥ (rd t103 x26_2)
 rotate_left
 · rw [if_neg c20] at H
   have c20b0 := zdf c20
   clear c20
   have H' := zA H
   clear H
   obtain ⟨p107, q107⟩ := zpq x32_3 l0.length
   obtain ⟨ad107, e107, hx107_0, hx107_1, hx107_2, hx107_3, hx107_4⟩ := zi7 HR0.out x32_3 (zoe p107) (zoe q107)
   cases e107
   replace hx107_0 := zkep HB.out hx107_0
   replace hx107_1 := zkep HB.out hx107_1
   replace hx107_2 := zkep HB.out hx107_2
   replace hx107_3 := zkep HB.out hx107_3
   replace hx107_4 := zkep HB.out hx107_4
   go_wp2_with (first | ((with_reducible refine zgd 13 ?_); refine zbx #[.string (⟨#[]⟩ : ByteArray), .int .i64 0, .int .i64 0, .int .i64 0, .int .i64 0] 55 ?_; intro gb108 hg w26 hbox hb; have zs := zpair zq1 hb; replace HO_7 := zA (zRb (zq2 HO_7) hb); replace HO_24 := zA (zRb (zq2 HO_24) hb); replace HB := zA (zs.1); have BK108 := zA (hbox); have GW108 := zA (zge hg zs.2); have GE108 := GW108; clear zs hb hbox hg; obtain ⟨hcz27_0, hcz27_1, hcz27_2, hcz27_3, hcz27_4, hfz27_0, hfz27_1, hfz27_2, hfz27_3, hfz27_4⟩ := zd5 BK108; have p109 : 0 ≤ (x32_3 : Int) := zde zq21; have q109 : x32_3 < (t103.length : Int) := zde zq21; obtain ⟨ad109, e109, hx109_0⟩ := Kd.at_int (zRr HO_7.out).2.2 x32_3 p109 q109; obtain rfl : ad106 = ad109 := (by injection e109); have hn109_0 : ad106.block ≠ gb108 := Kd.own_blk (Kd.R_ne HO_7.out BK108.out (by decide)); have hn109_1 : ad106.block ≠ gb108 := Kd.own_blk (Kd.R_ne HO_7.out BK108.out (by decide)); have hn109_2 : ad106.block ≠ gb108 := Kd.own_blk (Kd.R_ne HO_7.out BK108.out (by decide)); have hn109_3 : ad106.block ≠ gb108 := Kd.own_blk (Kd.R_ne HO_7.out BK108.out (by decide)); have hn109_4 : ad106.block ≠ gb108 := Kd.own_blk (Kd.R_ne HO_7.out BK108.out (by decide)); replace hx109_0 := (zaf (p := ⟨gb108, 0, none⟩) zq77 (.string ((zaa l0 x32_3).f0))).trans hx109_0; replace hx109_0 := (zaf (p := ⟨gb108, 1, none⟩) zq78 (.int .i64 ((zaa l0 x32_3).f1))).trans hx109_0; replace hx109_0 := (zaf (p := ⟨gb108, 2, none⟩) zq79 (.int .i64 ((zaa l0 x32_3).f2))).trans hx109_0; replace hx109_0 := (zaf (p := ⟨gb108, 3, none⟩) zq80 (.int .i64 ((zaa l0 x32_3).f3))).trans hx109_0; replace hx109_0 := (zaf (p := ⟨gb108, 4, none⟩) zq81 (.int .i64 ((zaa l0 x32_3).f4))).trans hx109_0; clear hn109_0; clear hn109_1; clear hn109_2; clear hn109_3; clear hn109_4; replace p109 := eq_true p109; replace q109 := eq_true q109))
   go_roundg k3
   case measure => have := HJ2.out; have := HK2.out; have := HK3.out; omega
   case rel => exact ⟨(x10_3), (x11_3), (wrap64 (x32_3 + 1)), zq8, zq8, zq8, H', ⟨zq42 HJ2 HK2 HK3⟩, ⟨zq39 HO_7 BK108⟩, ⟨zq39 HO_24 BK108⟩, ⟨zq10 GE108⟩⟩
 rw [if_pos c20] at H
 have c20b0 := zdt c20
 clear c20
 replace H := zob H
 obtain ⟨t110, A210, H⟩ := H
 have A21 := zA A210
 clear A210
 obtain ⟨ji22, hji22⟩ : ∃ j_ : Int, (mn x11_3 t110) = j_ := ⟨_, rfl⟩
 replace H : (zcg k3 l0 a1 x6_2 t103 (rd t103 x26_2) (wrap64 (x10_3 + 1)) ji22 t103 (t103.length : Int) x26_2 l0 (l0.length : Int) (wrap64 (x32_3 + 1))) = some (r1, r2) := by first | (rw [hji22] at H; exact H) | (simp only [hji22] at H ⊢; exact H)
 (try rw [hji22] at A21)
 have hji22_ : (if t110 < x11_3 then t110 else x11_3) = ji22 := hji22
 have H' := zA H
 clear H
 obtain ⟨p107, q107⟩ := zpq x32_3 l0.length
 obtain ⟨ad107, e107, hx107_0, hx107_1, hx107_2, hx107_3, hx107_4⟩ := zi7 HR0.out x32_3 (zoe p107) (zoe q107)
 cases e107
 replace hx107_0 := zkep HB.out hx107_0
 replace hx107_1 := zkep HB.out hx107_1
 replace hx107_2 := zkep HB.out hx107_2
 replace hx107_3 := zkep HB.out hx107_3
 replace hx107_4 := zkep HB.out hx107_4
 go_wp2_with (first | ((with_reducible refine zgd 13 ?_); refine zbx #[.string (⟨#[]⟩ : ByteArray), .int .i64 0, .int .i64 0, .int .i64 0, .int .i64 0] 55 ?_; intro gb108 hg w23 hbox hb; have zs := zpair zq1 hb; replace HO_7 := zA (zRb (zq2 HO_7) hb); replace HO_24 := zA (zRb (zq2 HO_24) hb); replace HB := zA (zs.1); have BK108 := zA (hbox); have GW108 := zA (zge hg zs.2); have GE108 := GW108; clear zs hb hbox hg; obtain ⟨hcz24_0, hcz24_1, hcz24_2, hcz24_3, hcz24_4, hfz24_0, hfz24_1, hfz24_2, hfz24_3, hfz24_4⟩ := zd5 BK108; have p109 : 0 ≤ (x32_3 : Int) := zde zq21; have q109 : x32_3 < (t103.length : Int) := zde zq21; obtain ⟨ad109, e109, hx109_0⟩ := Kd.at_int (zRr HO_7.out).2.2 x32_3 p109 q109; obtain rfl : ad106 = ad109 := (by injection e109); have hn109_0 : ad106.block ≠ gb108 := Kd.own_blk (Kd.R_ne HO_7.out BK108.out (by decide)); have hn109_1 : ad106.block ≠ gb108 := Kd.own_blk (Kd.R_ne HO_7.out BK108.out (by decide)); have hn109_2 : ad106.block ≠ gb108 := Kd.own_blk (Kd.R_ne HO_7.out BK108.out (by decide)); have hn109_3 : ad106.block ≠ gb108 := Kd.own_blk (Kd.R_ne HO_7.out BK108.out (by decide)); have hn109_4 : ad106.block ≠ gb108 := Kd.own_blk (Kd.R_ne HO_7.out BK108.out (by decide)); replace hx109_0 := (zaf (p := ⟨gb108, 0, none⟩) zq77 (.string ((zaa l0 x32_3).f0))).trans hx109_0; replace hx109_0 := (zaf (p := ⟨gb108, 1, none⟩) zq78 (.int .i64 ((zaa l0 x32_3).f1))).trans hx109_0; replace hx109_0 := (zaf (p := ⟨gb108, 2, none⟩) zq79 (.int .i64 ((zaa l0 x32_3).f2))).trans hx109_0; replace hx109_0 := (zaf (p := ⟨gb108, 3, none⟩) zq80 (.int .i64 ((zaa l0 x32_3).f3))).trans hx109_0; replace hx109_0 := (zaf (p := ⟨gb108, 4, none⟩) zq81 (.int .i64 ((zaa l0 x32_3).f4))).trans hx109_0; clear hn109_0; clear hn109_1; clear hn109_2; clear hn109_3; clear hn109_4; replace p109 := eq_true p109; replace q109 := eq_true q109) | ((with_reducible refine zgc 77 ?_); refine zcl 47 Tryz.func77 (zhd ((zaa l0 x32_3).f0) ((zaa l0 x32_3).f1) ((zaa l0 x32_3).f2) ((zaa l0 x32_3).f3) ((zaa l0 x32_3).f4) t110 _ A21.out) ?_; rintro e w25 ⟨rfl, hb⟩; refine ⟨_, rfl, ?_⟩; replace HO_7 := zA (zRb (zq40 HO_7 BK108) hb); replace HO_24 := zA (zRb (zq40 HO_24 BK108) hb); replace BK108 := zA (zag (g := gb108) (o := .cells #[.string ((zaa l0 x32_3).f0), .int .i64 ((zaa l0 x32_3).f1), .int .i64 ((zaa l0 x32_3).f2), .int .i64 ((zaa l0 x32_3).f3), .int .i64 ((zaa l0 x32_3).f4)] 55 (0, 0)) (by (with_reducible repeat (first | refine zkn ?_ _ | refine zkd ?_ | refine zka ?_ _)); refine zaw (cs := #[.string ((zaa l0 x32_3).f0), .int .i64 ((zaa l0 x32_3).f1), .int .i64 ((zaa l0 x32_3).f2), .int .i64 ((zaa l0 x32_3).f3), .int .i64 0]) ?_ 4 _ rfl; (with_reducible repeat (first | refine zkn ?_ _ | refine zkd ?_ | refine zka ?_ _)); refine zaw (cs := #[.string ((zaa l0 x32_3).f0), .int .i64 ((zaa l0 x32_3).f1), .int .i64 ((zaa l0 x32_3).f2), .int .i64 0, .int .i64 0]) ?_ 3 _ rfl; (with_reducible repeat (first | refine zkn ?_ _ | refine zkd ?_ | refine zka ?_ _)); refine zaw (cs := #[.string ((zaa l0 x32_3).f0), .int .i64 ((zaa l0 x32_3).f1), .int .i64 0, .int .i64 0, .int .i64 0]) ?_ 2 _ rfl; (with_reducible repeat (first | refine zkn ?_ _ | refine zkd ?_ | refine zka ?_ _)); refine zaw (cs := #[.string ((zaa l0 x32_3).f0), .int .i64 0, .int .i64 0, .int .i64 0, .int .i64 0]) ?_ 1 _ rfl; (with_reducible repeat (first | refine zkn ?_ _ | refine zkd ?_ | refine zka ?_ _)); refine zaw (cs := #[.string (⟨#[]⟩ : ByteArray), .int .i64 0, .int .i64 0, .int .i64 0, .int .i64 0]) ?_ 0 _ rfl; (with_reducible repeat (first | refine zkn ?_ _ | refine zkd ?_ | refine zka ?_ _)); exact BK108.out) hb); replace HB := zA (zac (zq10 GE108) hb); (try clear hb); (try clear hk)))
 go_roundg k3
 case measure => have := HJ2.out; have := HK2.out; have := HK3.out; omega
 case rel => exact ⟨(wrap64 (x10_3 + 1)), (ji22), (wrap64 (x32_3 + 1)), zq8, (by first | rfl | (simp; done) | (simp only [← hji22] <;> (first | rfl | simp)) | (simp [*]; done)), zq8, H', ⟨zq42 HJ2 HK2 HK3⟩, ⟨zq2 HO_7⟩, ⟨zq2 HO_24⟩, ⟨zq10 GE108⟩⟩
def zlq (l0 : List Int) (l1 : List Int) : Option (Bool) := if (l0.length : Int) > 1048576 then (some true) else (some (decide ((l1.length : Int) > (wrap64 (1048576 - (l0.length : Int))))))
theorem zpd (A0 : Option Addr) (c0 : Nat) (l0 : List Int) (A1 : Option Addr) (c1 : Nat) (l1 : List Int) (r : Bool) (w : World) (hr0 : Kd.C (Kd.int .u8) w A0 l0.length l0) (hc0 : l0.length ≤ c0) (hr1 : Kd.C (Kd.int .u8) w A1 l1.length l1) (hc1 : l1.length ≤ c1) (h : zlq l0 l1 = some r) :
   Calls Tryz.prog 6 #[.slice A0 l0.length c0, .slice A1 l1.length c1] w fun e w' => e = .returned (.bool r) ∧ Drawn0 w w' := by
 have HR0 := zA hr0
 have HC0 := zA hc0
 clear hr0 hc0
 have HR1 := zA hr1
 have HC1 := zA hc1
 clear hr1 hc1
 have H := h
 unfold zlq at H
 clear h
 by_cases c3 : (l0.length : Int) > 1048576
 · rw [if_pos c3] at H
   have c3b0 := zdt c3
   have c3b1 : decide (1048576 < l0.length) = true := zdt (by omega)
   clear c3
   obtain rfl := zsi H
   go_enter Tryz.func6, Tryz.ntmps6
   exact zr_5
 · rw [if_neg c3] at H
   have c3b0 := zdf c3
   have c3b1 : decide (1048576 < l0.length) = false := zdf (by omega)
   clear c3
   obtain rfl := zsi H
   go_enter Tryz.func6, Tryz.ntmps6
   exact zr_5
def ze7 : Nat → List Int → List Int → Int → Int → Option (Bool)
 | 0, _, _, _, _ => none
 | k + 1, x0, x1, x12, x13 => if x13 < x12 then (if 0 ≤ x13 then (if x13 < (x0.length : Int) then (if x13 < (x1.length : Int) then (if (rd x0 x13) = (rd x1 x13) then (ze7 k x0 x1 x12 (wrap64 (x13 + 1))) else (some false)) else (none)) else (none)) else (none)) else (some true)
def zgh (k : Nat) (l0 : List Int) (l1 : List Int) : Option (Bool) := if (l0.length : Int) = (l1.length : Int) then (ze7 k l0 l1 (l0.length : Int) 0) else (some false)
theorem znf : ∀ k, (∀ y0 y1 y2 y3, LeO (ze7 k y0 y1 y2 y3) (ze7 (k + 1) y0 y1 y2 y3))
 | 0 => fun _ _ _ _ r h => by simp [ze7] at h
 | k + 1 => by
   have ih0 := znf k
   · intro y0 y1 y2 y3
     unfold ze7
     exact zm1 ih0
theorem zyr : ∀ a0 a1 k, LeO (zgh k a0 a1) (zgh (k + 1) a0 a1) := by
 intro a0 a1 k
 have ih0 := znf k
 unfold zgh
 exact zm1 ih0
theorem zk5 (k : Nat) (A0 : Option Addr) (c0 : Nat) (l0 : List Int) (A1 : Option Addr) (c1 : Nat) (l1 : List Int) (r : Bool) (w : World) (hr0 : Kd.C (Kd.int .i64) w A0 l0.length l0) (hc0 : l0.length ≤ c0) (hr1 : Kd.C (Kd.int .i64) w A1 l1.length l1) (hc1 : l1.length ≤ c1) (h : zgh k l0 l1 = some r) :
   Calls Tryz.prog 14 #[.slice A0 l0.length c0, .slice A1 l1.length c1] w fun e w' => e = .returned (.bool r) ∧ Drawn0 w w' := by
 have HR0 := zA hr0
 have HC0 := zA hc0
 clear hr0 hc0
 have HR1 := zA hr1
 have HC1 := zA hc1
 clear hr1 hc1
 have H := h
 unfold zgh at H
 clear h
 by_cases c3 : (l0.length : Int) = (l1.length : Int)
 rotate_left
 · rw [if_neg c3] at H
   obtain ⟨c3b0, c3b1⟩ := zbq c3
   have c3b2 : (l0.length == l1.length) = false := by first | simpa using c3 | (simp at c3 ⊢; omega)
   obtain rfl := zsi H
   go_enter Tryz.func14, Tryz.ntmps14
   go_wp2
   repeat (go_quiet (fail); try go_wp2)
   exact zr_1
 rw [if_pos c3] at H
 obtain ⟨c3b0, c3b1⟩ := zbe c3
 have c3b2 : (l0.length == l1.length) = true := by first | simpa using c3 | (simp at c3 ⊢; omega)
 clear c3
 have H' := zA H
 clear H
 go_enter Tryz.func14, Tryz.ntmps14
 go_wp2
 repeat (go_quiet (fail); try go_wp2)
 go_loopg [13] k (fun kq v13 w' => ∃ (x13_1 : Int), v13 = .int .i64 x13_1 ∧ Aside0 (ze7 kq l0 l1 (l0.length : Int) x13_1 = some r) ∧ Aside0 (kq ≤ k) ∧ Drawn0 w w')
 case atStart => exact ⟨(0), zq8, H', ⟨zlr _⟩, zq14⟩
 clear H'
 obtain ⟨x13_1, rfl, HA, HK1, ⟨m1, rfl⟩⟩ := hrel
 cases gk with
 | zero => exact absurd HA.out (by simp [ze7])
 | succ k1 =>
 have H := HA.out
 clear HA
 simp only [ze7] at H
 revert H
 refine zit (fun c4 H => ?_) fun c4 H => ?_
 rotate_left
 · obtain rfl := zsi H
   go_wp2
   repeat (go_quiet (fail); try go_wp2)
   exact zr_1
 revert H
 refine zin fun c5 H => ?_
 revert H
 refine zin fun c6 H => ?_
 revert H
 refine zin fun c7 H => ?_
 by_cases c8 : (rd l0 x13_1) = (rd l1 x13_1)
 rotate_left
 · rw [if_neg c8] at H
   obtain ⟨c8b0, c8b1⟩ := zbq c8
   obtain rfl := zsi H
   obtain ⟨p101, q101⟩ := zpq x13_1 l0.length
   obtain ⟨ad101, e101, hx101_0⟩ := Kd.at_int HR0.out x13_1 (zoe p101) (zoe q101)
   cases e101
   obtain ⟨p102, q102⟩ := zpq x13_1 l1.length
   obtain ⟨ad102, e102, hx102_0⟩ := Kd.at_int HR1.out x13_1 (zoe p102) (zoe q102)
   cases e102
   go_wp2
   repeat (go_quiet (fail); try go_wp2)
   exact zr_1
 rw [if_pos c8] at H
 obtain ⟨c8b0, c8b1⟩ := zbe c8
 clear c8
 have H' := zA H
 clear H
 obtain ⟨p101, q101⟩ := zpq x13_1 l0.length
 obtain ⟨ad101, e101, hx101_0⟩ := Kd.at_int HR0.out x13_1 (zoe p101) (zoe q101)
 cases e101
 obtain ⟨p102, q102⟩ := zpq x13_1 l1.length
 obtain ⟨ad102, e102, hx102_0⟩ := Kd.at_int HR1.out x13_1 (zoe p102) (zoe q102)
 cases e102
 go_wp2
 repeat (go_quiet (fail); try go_wp2)
 go_roundg k1
 case measure => have := HK1.out; omega
 case rel => exact ⟨(wrap64 (x13_1 + 1)), zq8, H', ⟨zq46 HK1⟩, zq14⟩
def zdb (a0 : Int) (a1 : Int) : Option (Int) := if a0 > a1 then (some a0) else (some a1)
theorem zdz (a0 : Int) (a1 : Int) (r : Int) (w : World) (h : zdb a0 a1 = some r) :
   Calls Tryz.prog 103 #[.int .i64 a0, .int .i64 a1] w fun e w' => e = .returned (.int .i64 r) ∧ Drawn0 w w' := by
 have H := h
 unfold zdb at H
 clear h
 revert H
 refine zit (fun c3b0 H => ?_) fun c3b0 H => ?_
 · obtain rfl := zsi H
   go_enter Tryz.func103, Tryz.ntmps103
   exact zr_5
 · obtain rfl := zsi H
   go_enter Tryz.func103, Tryz.ntmps103
   exact zr_5
def zf9 (a0 : ByteArray) : Option (Int) := if a0.toList = ([109, 117, 108] : List UInt8) then (some 4) else (if a0.toList = ([115, 104, 108] : List UInt8) then (some 2) else (if a0.toList = ([115, 104, 114] : List UInt8) then (some 2) else (some 1)))
theorem zfz (a0 : ByteArray) (r : Int) (w : World) (h : zf9 a0 = some r) :
   Calls Tryz.prog 100 #[.string a0] w fun e w' => e = .returned (.int .i64 r) ∧ Drawn0 w w' := by
 have H := h
 unfold zf9 at H
 clear h
 by_cases c2 : a0.toList = ([109, 117, 108] : List UInt8)
 · rw [if_pos c2] at H
   obtain ⟨c2b0, c2b1⟩ := zbe c2
   clear c2
   exact zr_4
 rw [if_neg c2] at H
 obtain ⟨c2b0, c2b1⟩ := zbq c2
 by_cases c3 : a0.toList = ([115, 104, 108] : List UInt8)
 · rw [if_pos c3] at H
   obtain ⟨c3b0, c3b1⟩ := zbe c3
   clear c3
   exact zr_4
 rw [if_neg c3] at H
 obtain ⟨c3b0, c3b1⟩ := zbq c3
 by_cases c4 : a0.toList = ([115, 104, 114] : List UInt8)
 rotate_left
 · rw [if_neg c4] at H
   obtain ⟨c4b0, c4b1⟩ := zbq c4
   exact zr_4
 rw [if_pos c4] at H
 obtain ⟨c4b0, c4b1⟩ := zbe c4
 clear c4
 exact zr_4
def zg1 (a0 : Int) (a1 : Int) : Option (Int) := if a0 < a1 then (some a0) else (some a1)
theorem zml (a0 : Int) (a1 : Int) (r : Int) (w : World) (h : zg1 a0 a1 = some r) :
   Calls Tryz.prog 101 #[.int .i64 a0, .int .i64 a1] w fun e w' => e = .returned (.int .i64 r) ∧ Drawn0 w w' := by
 have H := h
 unfold zg1 at H
 clear h
 revert H
 refine zit (fun c3b0 H => ?_) fun c3b0 H => ?_
 · obtain rfl := zsi H
   go_enter Tryz.func101, Tryz.ntmps101
   exact zr_5
 · obtain rfl := zsi H
   go_enter Tryz.func101, Tryz.ntmps101
   exact zr_5
mutual
def zef : Nat → ByteArray → Bool → Option (Bool × Bool × Bool × Int × Int)
 | 0, _, _ => none
 | k + 1, x7, x10 => if x10 = true then (some (true, true, false, 0, 0)) else (if x7.toList = ([97, 100, 100] : List UInt8) then (zb5 k x7 (x7.toList == ([97, 100, 100] : List UInt8))) else (if x7.toList = ([115, 117, 98] : List UInt8) then (zb5 k x7 (x7.toList == ([115, 117, 98] : List UInt8))) else (if x7.toList = ([97, 110, 100] : List UInt8) then (zb5 k x7 (x7.toList == ([97, 110, 100] : List UInt8))) else (if x7.toList = ([111, 114] : List UInt8) then (zb5 k x7 (x7.toList == ([111, 114] : List UInt8))) else (if x7.toList = ([120, 111, 114] : List UInt8) then (zb5 k x7 (x7.toList == ([120, 111, 114] : List UInt8))) else (if x7.toList = ([115, 104, 108] : List UInt8) then (zb5 k x7 (x7.toList == ([115, 104, 108] : List UInt8))) else (if x7.toList = ([115, 104, 114] : List UInt8) then (zb5 k x7 (x7.toList == ([115, 104, 114] : List UInt8))) else (if x7.toList = ([108, 101, 115, 115] : List UInt8) then (zb5 k x7 (x7.toList == ([108, 101, 115, 115] : List UInt8))) else (if x7.toList = ([101, 113] : List UInt8) then (zb5 k x7 (x7.toList == ([101, 113] : List UInt8))) else (zb5 k x7 (x7.toList == ([109, 117, 108] : List UInt8))))))))))))
def zb5 : Nat → ByteArray → Bool → Option (Bool × Bool × Bool × Int × Int)
 | 0, _, _ => none
 | k + 1, x7, x14 => if x14 = true then (some (true, true, true, 0, 0)) else (if x7.toList = ([97, 100, 100, 105] : List UInt8) then (zeg k x7 (x7.toList == ([97, 100, 100, 105] : List UInt8))) else (if x7.toList = ([97, 110, 100, 105] : List UInt8) then (zeg k x7 (x7.toList == ([97, 110, 100, 105] : List UInt8))) else (zeg k x7 (x7.toList == ([120, 111, 114, 105] : List UInt8)))))
def zeg : Nat → ByteArray → Bool → Option (Bool × Bool × Bool × Int × Int)
 | 0, _, _ => none
 | k + 1, x7, x25 => if x25 = true then (some (true, true, false, 0, 63)) else (if x7.toList = ([115, 104, 108, 105] : List UInt8) then (ze0 k x7 (x7.toList == ([115, 104, 108, 105] : List UInt8))) else (ze0 k x7 (x7.toList == ([115, 104, 114, 105] : List UInt8))))
def ze0 : Nat → ByteArray → Bool → Option (Bool × Bool × Bool × Int × Int)
 | 0, _, _ => none
 | k + 1, x7, x29 => if x29 = true then (some (true, true, false, 1, 5)) else (if x7.toList = ([108, 101, 97] : List UInt8) then (some (true, true, true, 1, 3)) else (some (false, false, false, 0, 0)))
end
def zem (k : Nat) (a0 : ByteArray) : Option (Bool × Bool × Bool × Int × Int) := if a0.toList = ([115, 101, 116] : List UInt8) then (some (true, false, false, 0, 63)) else (if a0.toList = ([109, 111, 118] : List UInt8) then (zef k a0 (a0.toList == ([109, 111, 118] : List UInt8))) else (if a0.toList = ([110, 111, 116] : List UInt8) then (zef k a0 (a0.toList == ([110, 111, 116] : List UInt8))) else (zef k a0 (a0.toList == ([110, 101, 103] : List UInt8)))))
theorem zl2 : ∀ k, (∀ y0 y1, LeO (zef k y0 y1) (zef (k + 1) y0 y1)) ∧ (∀ y0 y1, LeO (zb5 k y0 y1) (zb5 (k + 1) y0 y1)) ∧ (∀ y0 y1, LeO (zeg k y0 y1) (zeg (k + 1) y0 y1)) ∧ (∀ y0 y1, LeO (ze0 k y0 y1) (ze0 (k + 1) y0 y1))
 | 0 => ⟨fun _ _ r h => by simp [zef] at h, fun _ _ r h => by simp [zb5] at h, fun _ _ r h => by simp [zeg] at h, fun _ _ r h => by simp [ze0] at h⟩
 | k + 1 => by
   obtain ⟨ih0, ih1, ih2, ih3⟩ := zl2 k
   refine ⟨?_, ?_, ?_, ?_⟩
   · intro y0 y1
     unfold zef
     exact zm4 ih0 ih1 ih2 ih3
   · intro y0 y1
     unfold zb5
     exact zm4 ih0 ih1 ih2 ih3
   · intro y0 y1
     unfold zeg
     exact zm4 ih0 ih1 ih2 ih3
   · intro y0 y1
     unfold ze0
     exact zm4 ih0 ih1 ih2 ih3
theorem zf0 : ∀ a0 k, LeO (zem k a0) (zem (k + 1) a0) := by
 intro a0 k
 obtain ⟨ih0, ih1, ih2, ih3⟩ := zl2 k
 unfold zem
 exact zm4 ih0 ih1 ih2 ih3
theorem zb1 (k : Nat) (a0 : ByteArray) (r1 : Bool) (r2 : Bool) (r3 : Bool) (r4 : Int) (r5 : Int) (w : World) (h : zem k a0 = some (r1, r2, r3, r4, r5)) :
   Calls Tryz.prog 148 #[.string a0] w fun e w' => e = .returned (.tuple #[.bool r1, .bool r2, .bool r3, .int .i64 r4, .int .i64 r5]) ∧ Drawn0 w w' := by
 have H := h
 unfold zem at H
 clear h
 by_cases c2 : a0.toList = ([115, 101, 116] : List UInt8)
 · rw [if_pos c2] at H
   obtain ⟨c2b0, c2b1⟩ := zbe c2
   clear c2
   simp only [Option.some.injEq, Prod.mk.injEq] at H
   obtain ⟨rfl, rfl, rfl, rfl, rfl⟩ := H
   go_enter Tryz.func148, Tryz.ntmps148
   go_wp2
   refine bodyPost_ret (ziw (rs := [.tmp 2, .tmp 3, .tmp 4, .tmp 5, .tmp 6]) rfl (by simp) (.tmp (.tmp (.tmp (.tmp (.tmp .nil)))))) rfl ?_
   exact ⟨zq8, zq14⟩
 rw [if_neg c2] at H
 obtain ⟨c2b0, c2b1⟩ := zbq c2
 have HC3 := zA H
 clear H
 go_enter Tryz.func148, Tryz.ntmps148
 go_upto_if 10 with (fail)
 go_cut [10] (fun v10 wc => ∃ (kq : Nat) (x10_2 : Bool), v10 = .bool x10_2 ∧ Aside0 (zef kq a0 x10_2 = some (r1, r2, r3, r4, r5)) ∧ Aside0 (kq ≤ k) ∧ Drawn0 w wc)
 case first =>
   have H := HC3.out
   clear HC3
   by_cases c4 : a0.toList = ([109, 111, 118] : List UInt8)
   · rw [if_pos c4] at H
     obtain ⟨c4b0, c4b1⟩ := zbe c4
     clear c4
     (first | rw [c4b0] | (simp only [zlo, zm9]; rw [c4b0]) | skip)
     have H' := zA H
     clear H
     go_wp2
     go_meet
     case rel => exact ⟨_, ((a0.toList == ([109, 111, 118] : List UInt8))), zq8, H', ⟨zq38⟩, zq14⟩
   rw [if_neg c4] at H
   obtain ⟨c4b0, c4b1⟩ := zbq c4
   (first | rw [c4b0] | (simp only [zlo, zm9]; rw [c4b0]) | skip)
   by_cases c5 : a0.toList = ([110, 111, 116] : List UInt8)
   rotate_left
   · rw [if_neg c5] at H
     obtain ⟨c5b0, c5b1⟩ := zbq c5
     have H' := zA H
     clear H
     go_wp2
     go_meet
     case rel => exact ⟨_, ((a0.toList == ([110, 101, 103] : List UInt8))), zq8, H', ⟨zq38⟩, zq14⟩
   rw [if_pos c5] at H
   obtain ⟨c5b0, c5b1⟩ := zbe c5
   clear c5
   have H' := zA H
   clear H
   go_wp2
   go_meet
   case rel => exact ⟨_, ((a0.toList == ([110, 111, 116] : List UInt8))), zq8, H', ⟨zq38⟩, zq14⟩
 clear HC3
 obtain ⟨kq, x10_2, rfl, HA, HJ2, ⟨mc2, rfl⟩⟩ := hcut
 cases kq with
 | zero => exact absurd HA.out (by simp [zef])
 | succ kj2 =>
 have H := HA.out
 clear HA
 simp only [zef] at H
 by_cases c6 : x10_2 = true
 · subst c6
   replace H := zih H
   simp only [Option.some.injEq, Prod.mk.injEq] at H
   obtain ⟨rfl, rfl, rfl, rfl, rfl⟩ := H
   go_wp2
   refine bodyPost_ret (ziw (rs := [.tmp 2, .tmp 3, .tmp 4, .tmp 5, .tmp 6]) rfl (by simp) (.tmp (.tmp (.tmp (.tmp (.tmp .nil)))))) rfl ?_
   exact ⟨zq8, zq14⟩
 replace c6 := zbf c6
 subst c6
 replace H := zif H
 have HC7 := zA H
 clear H
 go_upto_if 14 with (fail)
 go_cut [14] (fun v14 wc => ∃ (kq : Nat) (x14_6 : Bool), v14 = .bool x14_6 ∧ Aside0 (zb5 kq a0 x14_6 = some (r1, r2, r3, r4, r5)) ∧ Aside0 (kq ≤ kj2) ∧ Drawn0 w wc)
 case first =>
   have H := HC7.out
   clear HC7
   by_cases c8 : a0.toList = ([97, 100, 100] : List UInt8)
   · rw [if_pos c8] at H
     obtain ⟨c8b0, c8b1⟩ := zbe c8
     clear c8
     (first | rw [c8b0] | (simp only [zlo, zm9]; rw [c8b0]) | skip)
     have H' := zA H
     clear H
     go_wp2
     go_meet
     case rel => exact ⟨_, ((a0.toList == ([97, 100, 100] : List UInt8))), zq8, H', ⟨zq41 HJ2⟩, zq14⟩
   rw [if_neg c8] at H
   obtain ⟨c8b0, c8b1⟩ := zbq c8
   (first | rw [c8b0] | (simp only [zlo, zm9]; rw [c8b0]) | skip)
   by_cases c9 : a0.toList = ([115, 117, 98] : List UInt8)
   · rw [if_pos c9] at H
     obtain ⟨c9b0, c9b1⟩ := zbe c9
     clear c9
     have H' := zA H
     clear H
     go_wp2
     go_meet
     case rel => exact ⟨_, ((a0.toList == ([115, 117, 98] : List UInt8))), zq8, H', ⟨zq41 HJ2⟩, zq14⟩
   rw [if_neg c9] at H
   obtain ⟨c9b0, c9b1⟩ := zbq c9
   by_cases c10 : a0.toList = ([97, 110, 100] : List UInt8)
   · rw [if_pos c10] at H
     obtain ⟨c10b0, c10b1⟩ := zbe c10
     clear c10
     have H' := zA H
     clear H
     go_wp2
     go_meet
     case rel => exact ⟨_, ((a0.toList == ([97, 110, 100] : List UInt8))), zq8, H', ⟨zq41 HJ2⟩, zq14⟩
   rw [if_neg c10] at H
   obtain ⟨c10b0, c10b1⟩ := zbq c10
   by_cases c11 : a0.toList = ([111, 114] : List UInt8)
   · rw [if_pos c11] at H
     obtain ⟨c11b0, c11b1⟩ := zbe c11
     clear c11
     have H' := zA H
     clear H
     go_wp2
     go_meet
     case rel => exact ⟨_, ((a0.toList == ([111, 114] : List UInt8))), zq8, H', ⟨zq41 HJ2⟩, zq14⟩
   rw [if_neg c11] at H
   obtain ⟨c11b0, c11b1⟩ := zbq c11
   by_cases c12 : a0.toList = ([120, 111, 114] : List UInt8)
   · rw [if_pos c12] at H
     obtain ⟨c12b0, c12b1⟩ := zbe c12
     clear c12
     have H' := zA H
     clear H
     go_wp2
     go_meet
     case rel => exact ⟨_, ((a0.toList == ([120, 111, 114] : List UInt8))), zq8, H', ⟨zq41 HJ2⟩, zq14⟩
   rw [if_neg c12] at H
   obtain ⟨c12b0, c12b1⟩ := zbq c12
   by_cases c13 : a0.toList = ([115, 104, 108] : List UInt8)
   · rw [if_pos c13] at H
     obtain ⟨c13b0, c13b1⟩ := zbe c13
     clear c13
     have H' := zA H
     clear H
     go_wp2
     go_meet
     case rel => exact ⟨_, ((a0.toList == ([115, 104, 108] : List UInt8))), zq8, H', ⟨zq41 HJ2⟩, zq14⟩
   rw [if_neg c13] at H
   obtain ⟨c13b0, c13b1⟩ := zbq c13
   by_cases c14 : a0.toList = ([115, 104, 114] : List UInt8)
   · rw [if_pos c14] at H
     obtain ⟨c14b0, c14b1⟩ := zbe c14
     clear c14
     have H' := zA H
     clear H
     go_wp2
     go_meet
     case rel => exact ⟨_, ((a0.toList == ([115, 104, 114] : List UInt8))), zq8, H', ⟨zq41 HJ2⟩, zq14⟩
   rw [if_neg c14] at H
   obtain ⟨c14b0, c14b1⟩ := zbq c14
   by_cases c15 : a0.toList = ([108, 101, 115, 115] : List UInt8)
   · rw [if_pos c15] at H
     obtain ⟨c15b0, c15b1⟩ := zbe c15
     clear c15
     have H' := zA H
     clear H
     go_wp2
     go_meet
     case rel => exact ⟨_, ((a0.toList == ([108, 101, 115, 115] : List UInt8))), zq8, H', ⟨zq41 HJ2⟩, zq14⟩
   rw [if_neg c15] at H
   obtain ⟨c15b0, c15b1⟩ := zbq c15
   by_cases c16 : a0.toList = ([101, 113] : List UInt8)
   rotate_left
   · rw [if_neg c16] at H
     obtain ⟨c16b0, c16b1⟩ := zbq c16
     have H' := zA H
     clear H
     go_wp2
     go_meet
     case rel => exact ⟨_, ((a0.toList == ([109, 117, 108] : List UInt8))), zq8, H', ⟨zq41 HJ2⟩, zq14⟩
   rw [if_pos c16] at H
   obtain ⟨c16b0, c16b1⟩ := zbe c16
   clear c16
   have H' := zA H
   clear H
   go_wp2
   go_meet
   case rel => exact ⟨_, ((a0.toList == ([101, 113] : List UInt8))), zq8, H', ⟨zq41 HJ2⟩, zq14⟩
 clear HC7
 obtain ⟨kq, x14_6, rfl, HA, HJ6, ⟨mc6, rfl⟩⟩ := hcut
 cases kq with
 | zero => exact absurd HA.out (by simp [zb5])
 | succ kj6 =>
 have H := HA.out
 clear HA
 simp only [zb5] at H
 by_cases c17 : x14_6 = true
 · subst c17
   replace H := zih H
   simp only [Option.some.injEq, Prod.mk.injEq] at H
   obtain ⟨rfl, rfl, rfl, rfl, rfl⟩ := H
   go_wp2
   refine bodyPost_ret (ziw (rs := [.tmp 2, .tmp 3, .tmp 4, .tmp 5, .tmp 6]) rfl (by simp) (.tmp (.tmp (.tmp (.tmp (.tmp .nil)))))) rfl ?_
   exact ⟨zq8, zq14⟩
 replace c17 := zbf c17
 subst c17
 replace H := zif H
 have HC18 := zA H
 clear H
 go_upto_if 25 with (fail)
 go_cut [25] (fun v25 wc => ∃ (kq : Nat) (x25_17 : Bool), v25 = .bool x25_17 ∧ Aside0 (zeg kq a0 x25_17 = some (r1, r2, r3, r4, r5)) ∧ Aside0 (kq ≤ kj6) ∧ Drawn0 w wc)
 case first =>
   have H := HC18.out
   clear HC18
   by_cases c19 : a0.toList = ([97, 100, 100, 105] : List UInt8)
   · rw [if_pos c19] at H
     obtain ⟨c19b0, c19b1⟩ := zbe c19
     clear c19
     (first | rw [c19b0] | (simp only [zlo, zm9]; rw [c19b0]) | skip)
     have H' := zA H
     clear H
     go_wp2
     go_meet
     case rel => exact ⟨_, ((a0.toList == ([97, 100, 100, 105] : List UInt8))), zq8, H', ⟨zq76 HJ2 HJ6⟩, zq14⟩
   rw [if_neg c19] at H
   obtain ⟨c19b0, c19b1⟩ := zbq c19
   (first | rw [c19b0] | (simp only [zlo, zm9]; rw [c19b0]) | skip)
   by_cases c20 : a0.toList = ([97, 110, 100, 105] : List UInt8)
   rotate_left
   · rw [if_neg c20] at H
     obtain ⟨c20b0, c20b1⟩ := zbq c20
     have H' := zA H
     clear H
     go_wp2
     go_meet
     case rel => exact ⟨_, ((a0.toList == ([120, 111, 114, 105] : List UInt8))), zq8, H', ⟨zq76 HJ2 HJ6⟩, zq14⟩
   rw [if_pos c20] at H
   obtain ⟨c20b0, c20b1⟩ := zbe c20
   clear c20
   have H' := zA H
   clear H
   go_wp2
   go_meet
   case rel => exact ⟨_, ((a0.toList == ([97, 110, 100, 105] : List UInt8))), zq8, H', ⟨zq76 HJ2 HJ6⟩, zq14⟩
 clear HC18
 obtain ⟨kq, x25_17, rfl, HA, HJ17, ⟨mc17, rfl⟩⟩ := hcut
 cases kq with
 | zero => exact absurd HA.out (by simp [zeg])
 | succ kj17 =>
 have H := HA.out
 clear HA
 simp only [zeg] at H
 by_cases c21 : x25_17 = true
 · subst c21
   replace H := zih H
   simp only [Option.some.injEq, Prod.mk.injEq] at H
   obtain ⟨rfl, rfl, rfl, rfl, rfl⟩ := H
   go_wp2
   refine bodyPost_ret (ziw (rs := [.tmp 2, .tmp 3, .tmp 4, .tmp 5, .tmp 6]) rfl (by simp) (.tmp (.tmp (.tmp (.tmp (.tmp .nil)))))) rfl ?_
   exact ⟨zq8, zq14⟩
 replace c21 := zbf c21
 subst c21
 replace H := zif H
 have HC22 := zA H
 clear H
 go_upto_if 29 with (fail)
 go_cut [29] (fun v29 wc => ∃ (kq : Nat) (x29_21 : Bool), v29 = .bool x29_21 ∧ Aside0 (ze0 kq a0 x29_21 = some (r1, r2, r3, r4, r5)) ∧ Aside0 (kq ≤ kj17) ∧ Drawn0 w wc)
 case first =>
   have H := HC22.out
   clear HC22
   by_cases c23 : a0.toList = ([115, 104, 108, 105] : List UInt8)
   rotate_left
   · rw [if_neg c23] at H
     obtain ⟨c23b0, c23b1⟩ := zbq c23
     (first | rw [c23b0] | (simp only [zlo, zm9]; rw [c23b0]) | skip)
     have H' := zA H
     clear H
     go_wp2
     go_meet
     case rel => exact ⟨_, ((a0.toList == ([115, 104, 114, 105] : List UInt8))), zq8, H', ⟨by have := HJ2.out; have := HJ6.out; have := HJ17.out; first | omega | exact zlr _⟩, zq14⟩
   rw [if_pos c23] at H
   obtain ⟨c23b0, c23b1⟩ := zbe c23
   clear c23
   (first | rw [c23b0] | (simp only [zlo, zm9]; rw [c23b0]) | skip)
   have H' := zA H
   clear H
   go_wp2
   go_meet
   case rel => exact ⟨_, ((a0.toList == ([115, 104, 108, 105] : List UInt8))), zq8, H', ⟨by have := HJ2.out; have := HJ6.out; have := HJ17.out; first | omega | exact zlr _⟩, zq14⟩
 clear HC22
 obtain ⟨kq, x29_21, rfl, HA, HJ21, ⟨mc21, rfl⟩⟩ := hcut
 cases kq with
 | zero => exact absurd HA.out (by simp [ze0])
 | succ kj21 =>
 have H := HA.out
 clear HA
 simp only [ze0] at H
 by_cases c24 : x29_21 = true
 · subst c24
   replace H := zih H
   simp only [Option.some.injEq, Prod.mk.injEq] at H
   obtain ⟨rfl, rfl, rfl, rfl, rfl⟩ := H
   go_wp2
   refine bodyPost_ret (ziw (rs := [.tmp 2, .tmp 3, .tmp 4, .tmp 5, .tmp 6]) rfl (by simp) (.tmp (.tmp (.tmp (.tmp (.tmp .nil)))))) rfl ?_
   exact ⟨zq8, zq14⟩
 replace c24 := zbf c24
 subst c24
 replace H := zif H
 by_cases c25 : a0.toList = ([108, 101, 97] : List UInt8)
 rotate_left
 · rw [if_neg c25] at H
   obtain ⟨c25b0, c25b1⟩ := zbq c25
   simp only [Option.some.injEq, Prod.mk.injEq] at H
   obtain ⟨rfl, rfl, rfl, rfl, rfl⟩ := H
   go_wp2
   refine bodyPost_ret (ziw (rs := [.tmp 2, .tmp 3, .tmp 4, .tmp 5, .tmp 6]) rfl (by simp) (.tmp (.tmp (.tmp (.tmp (.tmp .nil)))))) rfl ?_
   exact ⟨zq8, zq14⟩
 rw [if_pos c25] at H
 obtain ⟨c25b0, c25b1⟩ := zbe c25
 clear c25
 simp only [Option.some.injEq, Prod.mk.injEq] at H
 obtain ⟨rfl, rfl, rfl, rfl, rfl⟩ := H
 go_wp2
 refine bodyPost_ret (ziw (rs := [.tmp 2, .tmp 3, .tmp 4, .tmp 5, .tmp 6]) rfl (by simp) (.tmp (.tmp (.tmp (.tmp (.tmp .nil)))))) rfl ?_
 exact ⟨zq8, zq14⟩
def ze8 : Nat → List Int → Int → Int → Option (List Int)
 | 0, _, _, _ => none
 | k + 1, x0, x1, x5 => if x5 < (x0.length : Int) then (if 0 ≤ x5 then (if (rd x0 x5) < x1 then (ze8 k x0 x1 (wrap64 (x5 + 1))) else (if (rd x0 x5) = x1 then (some x0) else ((some (([] : List Int) : List Int)).bind fun y103 => (if x5 ≤ (x0.length : Int) then ((some (x0.take (x5 : Int).toNat : List Int)).bind fun y106 => (if y103.length + y106.length < 17592186044416 then ((some (y103 ++ y106 : List Int)).bind fun y110 => (if y110.length < 17592186044416 then ((some (y110 ++ [x1] : List Int)).bind fun y113 => ((some (x0.drop (x5 : Int).toNat : List Int)).bind fun y116 => (if y113.length + y116.length < 17592186044416 then (some (y113 ++ y116)) else (none)))) else (none))) else (none))) else (none))))) else (none)) else ((some (([] : List Int) : List Int)).bind fun y123 => (if 0 ≤ x5 then (if x5 ≤ (x0.length : Int) then ((some (x0.take (x5 : Int).toNat : List Int)).bind fun y126 => (if y123.length + y126.length < 17592186044416 then ((some (y123 ++ y126 : List Int)).bind fun y130 => (if y130.length < 17592186044416 then ((some (y130 ++ [x1] : List Int)).bind fun y133 => ((some (x0.drop (x5 : Int).toNat : List Int)).bind fun y136 => (if y133.length + y136.length < 17592186044416 then (some (y133 ++ y136)) else (none)))) else (none))) else (none))) else (none)) else (none)))
def zfs (k : Nat) (l0 : List Int) (a1 : Int) : Option (List Int) := ze8 k l0 a1 0
theorem zng : ∀ k, (∀ y0 y1 y2, LeO (ze8 k y0 y1 y2) (ze8 (k + 1) y0 y1 y2))
 | 0 => fun _ _ _ r h => by simp [ze8] at h
 | k + 1 => by
   have ih0 := zng k
   · intro y0 y1 y2
     unfold ze8
     exact zm1 ih0
theorem zr3 : ∀ a0 a1 k, LeO (zfs k a0 a1) (zfs (k + 1) a0 a1) := by
 intro a0 a1 k
 have ih0 := zng k
 unfold zfs
 exact zm1 ih0
theorem zjh (k : Nat) (P0_ : Nat → Prop) (u9000_ : Value) (l0 : List Int) (a1 : Int) (r : List Int) (w0 w : World) (hB : Below w0.heap.size w0 w) (ho0 : Kd.R (Kd.int .i64) 3 w w0.heap.size P0_ u9000_ l0) (h : zfs k l0 a1 = some r) :
   Calls Tryz.prog 156 #[u9000_, .int .i64 a1] w fun e w' => ∃ v0_ : Value, e = .returned (v0_) ∧ Kd.R (Kd.int .i64) 3 w' w0.heap.size (fun k_ => (P0_ k_ ∨ w.heap.size ≤ k_)) v0_ r ∧ Below w0.heap.size w0 w' ∧ Kept w w' (fun k_ => P0_ k_) := by
 have HO0 := zA (show Kd.R (Kd.int .i64) 3 w w0.heap.size (fun k_ => (P0_ k_ ∨ w.heap.size ≤ k_)) u9000_ l0 from Kd.R_mono ho0 (fun k_ hk => (.inl hk)))
 have HK := zA (Kept.refl w (fun k_ => P0_ k_))
 have HW0 := zA hB.size
 have HB := zA hB
 clear hB
 have H := h
 unfold zfs at H
 clear h
 have H' := zA H
 clear H
 go_enter Tryz.func156, Tryz.ntmps156
 go_wp2
 go_loopg [5] k (fun kq v5 w' => ∃ (x5_1 : Int), v5 = .int .i64 x5_1 ∧ Aside0 (ze8 kq l0 a1 x5_1 = some r) ∧ Aside0 (kq ≤ k) ∧ Aside0 (Kd.R (Kd.int .i64) 3 w' w0.heap.size (fun k_ => (P0_ k_ ∨ w.heap.size ≤ k_)) u9000_ l0) ∧ Aside0 (Kept w w' (fun k_ => P0_ k_)) ∧ Aside0 (Below w0.heap.size w0 w'))
 case atStart => exact ⟨(0), zq8, H', ⟨zlr _⟩, ⟨zq2 HO0⟩, ⟨zq28⟩, ⟨zq1⟩⟩
 clear H'
 obtain ⟨x5_1, rfl, HA, HK1, HO_0, HK, HB⟩ := hrel
 cases gk with
 | zero => exact absurd HA.out (by simp [ze8])
 | succ k1 =>
 have H := HA.out
 clear HA
 simp only [ze8] at H
 revert H
 refine zit (fun c3 H => ?_) fun c3 H => ?_
 rotate_left
 · obtain ⟨y123, hy123⟩ : ∃ y_ : List Int, y_ = (([] : List Int)) := ⟨_, rfl⟩
   replace H : (if 0 ≤ x5_1 then (if x5_1 ≤ (l0.length : Int) then ((some (l0.take (x5_1 : Int).toNat : List Int)).bind fun y126 => (if y123.length + y126.length < 17592186044416 then ((some (y123 ++ y126 : List Int)).bind fun y130 => (if y130.length < 17592186044416 then ((some (y130 ++ [a1] : List Int)).bind fun y133 => ((some (l0.drop (x5_1 : Int).toNat : List Int)).bind fun y136 => (if y133.length + y136.length < 17592186044416 then (some (y133 ++ y136)) else (none)))) else (none))) else (none))) else (none)) else (none)) = some r := by first | (rw [hy123]; with_reducible exact H) | (have H2_ := (Option.bind_some _ _).symm.trans H; rw [hy123]; with_reducible exact H2_) | (have H2_ := (Option.bind_some _ _).symm.trans H; with_reducible exact H2_) | with_reducible exact H | (rw [hy123]; exact H) | exact H
   have Ny123 := zA hy123
   clear hy123
   by_cases c24 : 0 ≤ x5_1
   rotate_left
   · rw [if_neg c24] at H
     exact absurd H (by simp)
   rw [if_pos c24] at H
   have c24b0 := eq_true c24
   have c24b1 := zdt c24
   clear c24
   by_cases c25 : x5_1 ≤ (l0.length : Int)
   rotate_left
   · rw [if_neg c25] at H
     exact absurd H (by simp)
   rw [if_pos c25] at H
   have c25b0 := eq_true c25
   have c25b1 := zdt c25
   clear c25
   obtain ⟨y126, hy126⟩ : ∃ y_ : List Int, y_ = (l0.take (x5_1 : Int).toNat) := ⟨_, rfl⟩
   rw [← hy126] at H; try with_reducible replace H := zbs H
   have Ny126 := zA hy126
   clear hy126
   by_cases c26 : y123.length + y126.length < 17592186044416
   rotate_left
   · rw [if_neg c26] at H
     exact absurd H (by simp)
   rw [if_pos c26] at H
   have LMc26 := zA c26
   clear c26
   obtain ⟨y130, hy130⟩ : ∃ y_ : List Int, y_ = (y123 ++ y126) := ⟨_, rfl⟩
   rw [← hy130] at H; try with_reducible replace H := zbs H
   have Ny130 := zA hy130
   clear hy130
   by_cases c27 : y130.length < 17592186044416
   rotate_left
   · rw [if_neg c27] at H
     exact absurd H (by simp)
   rw [if_pos c27] at H
   have LMc27 := zA c27
   clear c27
   obtain ⟨y133, hy133⟩ : ∃ y_ : List Int, y_ = (y130 ++ [a1]) := ⟨_, rfl⟩
   rw [← hy133] at H; try with_reducible replace H := zbs H
   have Ny133 := zA hy133
   clear hy133
   have c28b0 := eq_true (zde zq21 : 0 ≤ x5_1)
   have c29b0 := eq_true (zde zq21 : x5_1 ≤ (l0.length : Int))
   obtain ⟨y136, hy136⟩ : ∃ y_ : List Int, y_ = (l0.drop (x5_1 : Int).toNat) := ⟨_, rfl⟩
   rw [← hy136] at H; try with_reducible replace H := zbs H
   have Ny136 := zA hy136
   clear hy136
   by_cases c30 : y133.length + y136.length < 17592186044416
   rotate_left
   · rw [if_neg c30] at H
     exact absurd H (by simp)
   rw [if_pos c30] at H
   have LMc30 := zA c30
   clear c30
   obtain ⟨y140, hy140⟩ : ∃ y_ : List Int, y_ = (y133 ++ y136) := ⟨_, rfl⟩
   rw [← hy140] at H; try with_reducible replace H := zbs H
   have Ny140 := zA hy140
   clear hy140
   obtain rfl := zsi H
   obtain ⟨Ao31, co31, eo31⟩ := Kd.R_slice HO_0.out
   subst eo31
   go_wp2_with (first | ((with_reducible refine zgd 34 ?_); refine Kd.R_lit (Kd.int .i64) _ 3 ?hg (N := 34) ?hd (xs := ([] : List Int)) (inner := []) (ok := fun _ => True) (okp := fun _ => True) ?hr ?hp (fun _ hk => hk) trivial (Below.refl _ _) (zlr _) (by simp) ?_; (case hd => rfl); (case hg => rfl); (case hr => go_simp <;> rfl); (case hp => exact (Reps.none _ _)); intro v124 w32 ho33 hb hg_ hnew_; clear hg_ hnew_; (first | rw [← Ny123.out] at ho33 | (simp only [Int.reduceToNat] at ho33; rw [← Ny123.out] at ho33)); have HO125 := zA (Kd.R_lower (Kd.R_new' (Kd.R_newM (M := fun k_ => (P0_ k_ ∨ w.heap.size ≤ k_)) ho33 zq29 (fun k_ h_ => .inr h_)) (Kd.R_lt (zq2 HO_0))) (zah zq1)); replace HO_0 := zA (Kd.R_elder' (zq2 HO_0) (Kd.R_base ho33) hb); replace HK := zA (Kept.below (S := (fun k_ => P0_ k_)) zq28 hb); replace HB := zA (zac zq1 hb); clear hb ho33; have q34 : (x5_1 : Int) ≤ ((l0.length : Int) : Int) := zde zq21; obtain ⟨i034, hi034, _, hsz34, _⟩ := info_parts zkf; have hroom34 : l0.length ≤ co31 := (zRr HO_0.out).2.1; have hC34 : Kd.C (Kd.int .i64) _ Ao31 l0.length l0 := (zRr HO_0.out).2.2; have hcut34 := zxw (P := Tryz.prog) 25 3 .i64 Tryz.underlying25 hi034 Ao31 l0.length co31 x5_1 (zde zq21) q34 hroom34; have hr34 := Kd.C_take (m := (x5_1 : Int).toNat) hC34 (by omega); have hy34 : y126.length = (x5_1 : Int).toNat := (by rw [Ny126.out, List.length_take]; omega); rw [← Ny126.out] at hr34; rw [← hy34] at hcut34; have HR129 := zA hr34; have HC129 := zA (show y126.length ≤ co31 from by omega); clear hr34 hC34 hroom34 hi034 hsz34; have KY34 := zA hy34; clear hy34; have KL34 := zA (show (x5_1 : Int).toNat ≤ l0.length from by omega); replace q34 := eq_true q34) | ((with_reducible refine zc7 (b := .append) (xs := #[.tmp 34, .tmp 37]) rfl ?_); at_builtin; refine Kd.R_append_rows (Kd.int .i64) (w0 := w0) w0.heap.size rfl (.tmp 34) (.tmp 37) 25 3 (.int .i64 0) 8 rfl Tryz.underlying25 zkf rfl (by decide) (by omega) v124 y123 y126 _ _ _ (fun k_ => (P0_ k_ ∨ w.heap.size ≤ k_) ∧ some k_ ≠ (.slice Ao31 l0.length co31 : Value).ownBlock) (fun _ => False) rfl rfl ?aO ?aR (fun _ _ h => h) (fun _ h => h.elim) ?aF ?aB ?aS ?aL ?_; (case aR => repeat (first | exact (zq20 HR129) | (with_reducible first | refine zCa ?_ _ | refine zCn ?_ _ | refine zCd ?_))); (case aB => exact zq1); (case aF => exact (fun k_ hk => ⟨(.inr (Nat.le_trans zq29 hk)), Kd.fresh' (Kd.R_lt (zq2 HO_0)) k_ hk⟩)); (case aO => exact (by (with_reducible repeat (first | apply zRa | apply zRn | apply zRd)); exact Kd.R_mono HO125.out (fun _ hk => ⟨hk.1.1, hk.2⟩))); (case aS => exact (zah zq1)); (case aL => have := LMc26.out; omega); intro v131 w35 ho hb hg hat; rw [← Ny130.out] at ho; replace HB := zA (hb); replace HK := zA (zhl (S := (fun k_ => P0_ k_)) hg zq28 (fun k_ e_ => (HO125.out.1 k_ e_).1.1)); replace HR129 := zA ((show Kd.C (Kd.int .i64) w35 Ao31 y126.length y126 from by rw [Ny126.out]; exact Kd.C_take (m := (x5_1 : Int).toNat) ((zRr (Kd.R_after (ok := (fun k_ => (P0_ k_ ∨ w.heap.size ≤ k_))) (zq2 HO_0) hg hat)).2.2) KL34.out)); replace HO_0 := zA (Kd.R_after (ok := (fun k_ => (P0_ k_ ∨ w.heap.size ≤ k_))) (zq2 HO_0) hg hat); have HO132 := zA (ho); clear HO125; clear ho hb hg hat) | ((with_reducible refine zc7 (b := .append) (xs := #[.tmp 39, .tmp 41]) rfl ?_); at_builtin; refine Kd.R_append (Kd.int .i64) (w0 := w0) w0.heap.size rfl (.tmp 39) (.tmp 41) 25 3 (.int .i64 0) 8 rfl Tryz.underlying25 zkf rfl (by decide) (by omega) v131 y130 a1 [.int .i64 a1] (fun k_ => (P0_ k_ ∨ w.heap.size ≤ k_) ∧ some k_ ≠ (.slice Ao31 l0.length co31 : Value).ownBlock) (fun _ => False) rfl rfl ?aP (fun _ hk => hk.elim) ?aF ?aO ?aB ?aS ?aL ?_; (case aP => exact rfl); (case aB => exact zq1); (case aF => exact (fun k_ hk => ⟨(.inr (Nat.le_trans zq29 hk)), Kd.fresh' (Kd.R_lt (zq2 HO_0)) k_ hk⟩)); (case aO => exact (zq2 HO132)); (case aS => exact (zah zq1)); (case aL => have := LMc27.out; omega); intro v134 w36 ho hb hg hat; rw [← Ny133.out] at ho; replace HB := zA (hb); replace HK := zA (zhl (S := (fun k_ => P0_ k_)) hg zq28 (fun k_ e_ => (HO132.out.1 k_ e_).1)); replace HR129 := zA ((show Kd.C (Kd.int .i64) w36 Ao31 y126.length y126 from by rw [Ny126.out]; exact Kd.C_take (m := (x5_1 : Int).toNat) ((zRr (Kd.R_after (ok := (fun k_ => (P0_ k_ ∨ w.heap.size ≤ k_))) (zq2 HO_0) hg hat)).2.2) KL34.out)); replace HO_0 := zA (Kd.R_after (ok := (fun k_ => (P0_ k_ ∨ w.heap.size ≤ k_))) (zq2 HO_0) hg hat); have HO135 := zA (ho); clear HO132; clear ho hb hg hat; have q37 : (x5_1 : Int) ≤ ((l0.length : Int) : Int) := zde zq21; obtain ⟨i037, hi037, _, hsz37, _⟩ := info_parts zkf; have hroom37 : l0.length ≤ co31 := (zRr HO_0.out).2.1; have hC37 : Kd.C (Kd.int .i64) _ Ao31 l0.length l0 := (zRr HO_0.out).2.2; have q037 : (0 : Int) ≤ (x5_1 : Int) := zde zq21; have hcut37 := zui (P := Tryz.prog) 25 3 .i64 Tryz.underlying25 hi037 1 hsz37 Ao31 l0.length co31 x5_1 q037 q37; have hr37 := Kd.C_drop (m := (x5_1 : Int).toNat) (c := co31) hC37 (by omega) hroom37; obtain ⟨A37, hA37⟩ : ∃ A1, A1 = (if co31 = (x5_1 : Int).toNat then Ao31 else (Ao31 : Option Addr).map (·.add ((x5_1 : Int).toNat * 1))) := ⟨_, rfl⟩; obtain ⟨c37, hc37⟩ : ∃ c1, c1 = co31 - (x5_1 : Int).toNat := ⟨_, rfl⟩; have hy37 : y136.length = l0.length - (x5_1 : Int).toNat := (by rw [Ny136.out, List.length_drop] <;> omega); rw [show (l0).drop (x5_1 : Int).toNat = y136 from Ny136.out.symm] at hr37; replace hr37 : Kd.C (Kd.int .i64) _ A37 y136.length y136 := (by rw [hA37]; exact hr37); rw [← hy37, ← hA37, ← hc37] at hcut37; have HR139 := zA hr37; have HC139 := zA (show y136.length ≤ c37 from by rw [hy37, hc37]; exact Nat.sub_le_sub_right hroom37 _); clear hr37 hC37 hroom37 hi037 hsz37 hc37; have KY37 := zA hy37; have KA37 := zA hA37; clear hy37 hA37; have KL37 := zA (show (x5_1 : Int).toNat ≤ l0.length from by omega); replace q37 := eq_true q37) | ((with_reducible refine zc7 (b := .append) (xs := #[.tmp 43, .tmp 46]) rfl ?_); at_builtin; refine Kd.R_append_rows (Kd.int .i64) (w0 := w0) w0.heap.size rfl (.tmp 43) (.tmp 46) 25 3 (.int .i64 0) 8 rfl Tryz.underlying25 zkf rfl (by decide) (by omega) v134 y133 y136 _ _ _ (fun k_ => (P0_ k_ ∨ w.heap.size ≤ k_) ∧ some k_ ≠ (.slice Ao31 l0.length co31 : Value).ownBlock) (fun _ => False) rfl rfl ?aO ?aR (fun _ _ h => h) (fun _ h => h.elim) ?aF ?aB ?aS ?aL ?_; (case aR => repeat (first | exact (zq20 HR139) | (with_reducible first | refine zCa ?_ _ | refine zCn ?_ _ | refine zCd ?_))); (case aB => exact zq1); (case aF => exact (fun k_ hk => ⟨(.inr (Nat.le_trans zq29 hk)), Kd.fresh' (Kd.R_lt (zq2 HO_0)) k_ hk⟩)); (case aO => exact (zq2 HO135)); (case aS => exact (zah zq1)); (case aL => have := LMc30.out; omega); intro v141 w38 ho hb hg hat; rw [← Ny140.out] at ho; replace HB := zA (hb); replace HK := zA (zhl (S := (fun k_ => P0_ k_)) hg zq28 (fun k_ e_ => (HO135.out.1 k_ e_).1)); replace HR129 := zA ((show Kd.C (Kd.int .i64) w38 Ao31 y126.length y126 from by rw [Ny126.out]; exact Kd.C_take (m := (x5_1 : Int).toNat) ((zRr (Kd.R_after (ok := (fun k_ => (P0_ k_ ∨ w.heap.size ≤ k_))) (zq2 HO_0) hg hat)).2.2) KL34.out)); replace HR139 := zA ((show Kd.C (Kd.int .i64) w38 A37 y136.length y136 from by rw [Ny136.out, KA37.out]; exact Kd.C_drop (m := (x5_1 : Int).toNat) (c := co31) ((zRr (Kd.R_after (ok := (fun k_ => (P0_ k_ ∨ w.heap.size ≤ k_))) (zq2 HO_0) hg hat)).2.2) KL37.out ((zRr (Kd.R_after (ok := (fun k_ => (P0_ k_ ∨ w.heap.size ≤ k_))) (zq2 HO_0) hg hat)).2.1))); replace HO_0 := zA (Kd.R_after (ok := (fun k_ => (P0_ k_ ∨ w.heap.size ≤ k_))) (zq2 HO_0) hg hat); have HO142 := zA (ho); clear HO135; clear ho hb hg hat))
   go_ret
   exact ⟨_, zq5, zq72 HO142, zq1, zq28⟩
 revert H
 refine zin fun c4 H => ?_
 revert H
 refine zit (fun c5b0 H => ?_) fun c5b0 H => ?_
 · have H' := zA H
   clear H
   obtain ⟨Ao6, co6, eo6⟩ := Kd.R_slice HO_0.out
   subst eo6
   obtain ⟨p101, q101⟩ := zpq x5_1 l0.length
   obtain ⟨ad101, e101, hx101_0⟩ := Kd.at_int (zRr HO_0.out).2.2 x5_1 (zoe p101) (zoe q101)
   cases e101
   go_wp2
   go_roundg k1
   case measure => have := HK1.out; omega
   case rel => exact ⟨(wrap64 (x5_1 + 1)), zq8, H', ⟨zq46 HK1⟩, ⟨zq2 HO_0⟩, ⟨zq28⟩, ⟨zq1⟩⟩
 by_cases c7 : (rd l0 x5_1) = a1
 · rw [if_pos c7] at H
   obtain ⟨c7b0, c7b1⟩ := zbe c7
   clear c7
   obtain rfl := zsi H
   obtain ⟨Ao8, co8, eo8⟩ := Kd.R_slice HO_0.out
   subst eo8
   obtain ⟨p101, q101⟩ := zpq x5_1 l0.length
   obtain ⟨ad101, e101, hx101_0⟩ := Kd.at_int (zRr HO_0.out).2.2 x5_1 (zoe p101) (zoe q101)
   cases e101
   obtain ⟨p102, q102⟩ := zpq x5_1 l0.length
   obtain ⟨ad102, e102, hx102_0⟩ := Kd.at_int (zRr HO_0.out).2.2 x5_1 (zoe p102) (zoe q102)
   obtain rfl : ad101 = ad102 := (by injection e102)
   go_wp2
   go_ret
   exact ⟨_, zq5, zq2 HO_0, zq1, zq28⟩
 rw [if_neg c7] at H
 obtain ⟨c7b0, c7b1⟩ := zbq c7
 obtain ⟨y103, hy103⟩ : ∃ y_ : List Int, y_ = (([] : List Int)) := ⟨_, rfl⟩
 replace H : (if x5_1 ≤ (l0.length : Int) then ((some (l0.take (x5_1 : Int).toNat : List Int)).bind fun y106 => (if y103.length + y106.length < 17592186044416 then ((some (y103 ++ y106 : List Int)).bind fun y110 => (if y110.length < 17592186044416 then ((some (y110 ++ [a1] : List Int)).bind fun y113 => ((some (l0.drop (x5_1 : Int).toNat : List Int)).bind fun y116 => (if y113.length + y116.length < 17592186044416 then (some (y113 ++ y116)) else (none)))) else (none))) else (none))) else (none)) = some r := by first | (rw [hy103]; with_reducible exact H) | (have H2_ := (Option.bind_some _ _).symm.trans H; rw [hy103]; with_reducible exact H2_) | (have H2_ := (Option.bind_some _ _).symm.trans H; with_reducible exact H2_) | with_reducible exact H | (rw [hy103]; exact H) | exact H
 have Ny103 := zA hy103
 clear hy103
 have c9b0 := eq_true (zde zq21 : 0 ≤ x5_1)
 by_cases c10 : x5_1 ≤ (l0.length : Int)
 rotate_left
 · rw [if_neg c10] at H
   exact absurd H (by simp)
 rw [if_pos c10] at H
 have c10b0 := eq_true c10
 have c10b1 := zdt c10
 clear c10
 obtain ⟨y106, hy106⟩ : ∃ y_ : List Int, y_ = (l0.take (x5_1 : Int).toNat) := ⟨_, rfl⟩
 rw [← hy106] at H; try with_reducible replace H := zbs H
 have Ny106 := zA hy106
 clear hy106
 by_cases c11 : y103.length + y106.length < 17592186044416
 rotate_left
 · rw [if_neg c11] at H
   exact absurd H (by simp)
 rw [if_pos c11] at H
 have LMc11 := zA c11
 clear c11
 obtain ⟨y110, hy110⟩ : ∃ y_ : List Int, y_ = (y103 ++ y106) := ⟨_, rfl⟩
 rw [← hy110] at H; try with_reducible replace H := zbs H
 have Ny110 := zA hy110
 clear hy110
 by_cases c12 : y110.length < 17592186044416
 rotate_left
 · rw [if_neg c12] at H
   exact absurd H (by simp)
 rw [if_pos c12] at H
 have LMc12 := zA c12
 clear c12
 obtain ⟨y113, hy113⟩ : ∃ y_ : List Int, y_ = (y110 ++ [a1]) := ⟨_, rfl⟩
 rw [← hy113] at H; try with_reducible replace H := zbs H
 have Ny113 := zA hy113
 clear hy113
 have c13b0 := eq_true (zde zq21 : 0 ≤ x5_1)
 have c14b0 := eq_true (zde zq21 : x5_1 ≤ (l0.length : Int))
 obtain ⟨y116, hy116⟩ : ∃ y_ : List Int, y_ = (l0.drop (x5_1 : Int).toNat) := ⟨_, rfl⟩
 rw [← hy116] at H; try with_reducible replace H := zbs H
 have Ny116 := zA hy116
 clear hy116
 by_cases c15 : y113.length + y116.length < 17592186044416
 rotate_left
 · rw [if_neg c15] at H
   exact absurd H (by simp)
 rw [if_pos c15] at H
 have LMc15 := zA c15
 clear c15
 obtain ⟨y120, hy120⟩ : ∃ y_ : List Int, y_ = (y113 ++ y116) := ⟨_, rfl⟩
 rw [← hy120] at H; try with_reducible replace H := zbs H
 have Ny120 := zA hy120
 clear hy120
 obtain rfl := zsi H
 obtain ⟨Ao16, co16, eo16⟩ := Kd.R_slice HO_0.out
 subst eo16
 obtain ⟨p101, q101⟩ := zpq x5_1 l0.length
 obtain ⟨ad101, e101, hx101_0⟩ := Kd.at_int (zRr HO_0.out).2.2 x5_1 (zoe p101) (zoe q101)
 cases e101
 obtain ⟨p102, q102⟩ := zpq x5_1 l0.length
 obtain ⟨ad102, e102, hx102_0⟩ := Kd.at_int (zRr HO_0.out).2.2 x5_1 (zoe p102) (zoe q102)
 obtain rfl : ad101 = ad102 := (by injection e102)
 go_wp2_with (first | ((with_reducible refine zgd 34 ?_); refine Kd.R_lit (Kd.int .i64) _ 3 ?hg (N := 34) ?hd (xs := ([] : List Int)) (inner := []) (ok := fun _ => True) (okp := fun _ => True) ?hr ?hp (fun _ hk => hk) trivial (Below.refl _ _) (zlr _) (by simp) ?_; (case hd => rfl); (case hg => rfl); (case hr => go_simp <;> rfl); (case hp => exact (Reps.none _ _)); intro v104 w17 ho18 hb hg_ hnew_; clear hg_ hnew_; (first | rw [← Ny103.out] at ho18 | (simp only [Int.reduceToNat] at ho18; rw [← Ny103.out] at ho18)); have HO105 := zA (Kd.R_lower (Kd.R_new' (Kd.R_newM (M := fun k_ => (P0_ k_ ∨ w.heap.size ≤ k_)) ho18 zq29 (fun k_ h_ => .inr h_)) (Kd.R_lt (zq2 HO_0))) (zah zq1)); replace HO_0 := zA (Kd.R_elder' (zq2 HO_0) (Kd.R_base ho18) hb); replace HK := zA (Kept.below (S := (fun k_ => P0_ k_)) zq28 hb); replace HB := zA (zac zq1 hb); clear hb ho18; have q19 : (x5_1 : Int) ≤ ((l0.length : Int) : Int) := zde zq21; obtain ⟨i019, hi019, _, hsz19, _⟩ := info_parts zkf; have hroom19 : l0.length ≤ co16 := (zRr HO_0.out).2.1; have hC19 : Kd.C (Kd.int .i64) _ (some ad101) l0.length l0 := (zRr HO_0.out).2.2; have hcut19 := zxw (P := Tryz.prog) 25 3 .i64 Tryz.underlying25 hi019 (some ad101) l0.length co16 x5_1 (zde zq21) q19 hroom19; have hr19 := Kd.C_take (m := (x5_1 : Int).toNat) hC19 (by omega); have hy19 : y106.length = (x5_1 : Int).toNat := (by rw [Ny106.out, List.length_take]; omega); rw [← Ny106.out] at hr19; rw [← hy19] at hcut19; have HR109 := zA hr19; have HC109 := zA (show y106.length ≤ co16 from by omega); clear hr19 hC19 hroom19 hi019 hsz19; have KY19 := zA hy19; clear hy19; have KL19 := zA (show (x5_1 : Int).toNat ≤ l0.length from by omega); replace q19 := eq_true q19) | ((with_reducible refine zc7 (b := .append) (xs := #[.tmp 34, .tmp 37]) rfl ?_); at_builtin; refine Kd.R_append_rows (Kd.int .i64) (w0 := w0) w0.heap.size rfl (.tmp 34) (.tmp 37) 25 3 (.int .i64 0) 8 rfl Tryz.underlying25 zkf rfl (by decide) (by omega) v104 y103 y106 _ _ _ (fun k_ => (P0_ k_ ∨ w.heap.size ≤ k_) ∧ some k_ ≠ (.slice (some ad101) l0.length co16 : Value).ownBlock) (fun _ => False) rfl rfl ?aO ?aR (fun _ _ h => h) (fun _ h => h.elim) ?aF ?aB ?aS ?aL ?_; (case aR => repeat (first | exact (zq20 HR109) | (with_reducible first | refine zCa ?_ _ | refine zCn ?_ _ | refine zCd ?_))); (case aB => exact zq1); (case aF => exact (fun k_ hk => ⟨(.inr (Nat.le_trans zq29 hk)), Kd.fresh' (Kd.R_lt (zq2 HO_0)) k_ hk⟩)); (case aO => exact (by (with_reducible repeat (first | apply zRa | apply zRn | apply zRd)); exact Kd.R_mono HO105.out (fun _ hk => ⟨hk.1.1, hk.2⟩))); (case aS => exact (zah zq1)); (case aL => have := LMc11.out; omega); intro v111 w20 ho hb hg hat; rw [← Ny110.out] at ho; replace HB := zA (hb); replace HK := zA (zhl (S := (fun k_ => P0_ k_)) hg zq28 (fun k_ e_ => (HO105.out.1 k_ e_).1.1)); replace HR109 := zA ((show Kd.C (Kd.int .i64) w20 (some ad101) y106.length y106 from by rw [Ny106.out]; exact Kd.C_take (m := (x5_1 : Int).toNat) ((zRr (Kd.R_after (ok := (fun k_ => (P0_ k_ ∨ w.heap.size ≤ k_))) (zq2 HO_0) hg hat)).2.2) KL19.out)); replace HO_0 := zA (Kd.R_after (ok := (fun k_ => (P0_ k_ ∨ w.heap.size ≤ k_))) (zq2 HO_0) hg hat); have HO112 := zA (ho); clear HO105; clear ho hb hg hat) | ((with_reducible refine zc7 (b := .append) (xs := #[.tmp 39, .tmp 41]) rfl ?_); at_builtin; refine Kd.R_append (Kd.int .i64) (w0 := w0) w0.heap.size rfl (.tmp 39) (.tmp 41) 25 3 (.int .i64 0) 8 rfl Tryz.underlying25 zkf rfl (by decide) (by omega) v111 y110 a1 [.int .i64 a1] (fun k_ => (P0_ k_ ∨ w.heap.size ≤ k_) ∧ some k_ ≠ (.slice (some ad101) l0.length co16 : Value).ownBlock) (fun _ => False) rfl rfl ?aP (fun _ hk => hk.elim) ?aF ?aO ?aB ?aS ?aL ?_; (case aP => exact rfl); (case aB => exact zq1); (case aF => exact (fun k_ hk => ⟨(.inr (Nat.le_trans zq29 hk)), Kd.fresh' (Kd.R_lt (zq2 HO_0)) k_ hk⟩)); (case aO => exact (zq2 HO112)); (case aS => exact (zah zq1)); (case aL => have := LMc12.out; omega); intro v114 w21 ho hb hg hat; rw [← Ny113.out] at ho; replace HB := zA (hb); replace HK := zA (zhl (S := (fun k_ => P0_ k_)) hg zq28 (fun k_ e_ => (HO112.out.1 k_ e_).1)); replace HR109 := zA ((show Kd.C (Kd.int .i64) w21 (some ad101) y106.length y106 from by rw [Ny106.out]; exact Kd.C_take (m := (x5_1 : Int).toNat) ((zRr (Kd.R_after (ok := (fun k_ => (P0_ k_ ∨ w.heap.size ≤ k_))) (zq2 HO_0) hg hat)).2.2) KL19.out)); replace HO_0 := zA (Kd.R_after (ok := (fun k_ => (P0_ k_ ∨ w.heap.size ≤ k_))) (zq2 HO_0) hg hat); have HO115 := zA (ho); clear HO112; clear ho hb hg hat; have q22 : (x5_1 : Int) ≤ ((l0.length : Int) : Int) := zde zq21; obtain ⟨i022, hi022, _, hsz22, _⟩ := info_parts zkf; have hroom22 : l0.length ≤ co16 := (zRr HO_0.out).2.1; have hC22 : Kd.C (Kd.int .i64) _ (some ad101) l0.length l0 := (zRr HO_0.out).2.2; have q022 : (0 : Int) ≤ (x5_1 : Int) := zde zq21; have hcut22 := zui (P := Tryz.prog) 25 3 .i64 Tryz.underlying25 hi022 1 hsz22 (some ad101) l0.length co16 x5_1 q022 q22; have hr22 := Kd.C_drop (m := (x5_1 : Int).toNat) (c := co16) hC22 (by omega) hroom22; obtain ⟨A22, hA22⟩ : ∃ A1, A1 = (if co16 = (x5_1 : Int).toNat then (some ad101) else ((some ad101) : Option Addr).map (·.add ((x5_1 : Int).toNat * 1))) := ⟨_, rfl⟩; obtain ⟨c22, hc22⟩ : ∃ c1, c1 = co16 - (x5_1 : Int).toNat := ⟨_, rfl⟩; have hy22 : y116.length = l0.length - (x5_1 : Int).toNat := (by rw [Ny116.out, List.length_drop] <;> omega); rw [show (l0).drop (x5_1 : Int).toNat = y116 from Ny116.out.symm] at hr22; replace hr22 : Kd.C (Kd.int .i64) _ A22 y116.length y116 := (by rw [hA22]; exact hr22); rw [← hy22, ← hA22, ← hc22] at hcut22; have HR119 := zA hr22; have HC119 := zA (show y116.length ≤ c22 from by rw [hy22, hc22]; exact Nat.sub_le_sub_right hroom22 _); clear hr22 hC22 hroom22 hi022 hsz22 hc22; have KY22 := zA hy22; have KA22 := zA hA22; clear hy22 hA22; have KL22 := zA (show (x5_1 : Int).toNat ≤ l0.length from by omega); replace q22 := eq_true q22) | ((with_reducible refine zc7 (b := .append) (xs := #[.tmp 43, .tmp 46]) rfl ?_); at_builtin; refine Kd.R_append_rows (Kd.int .i64) (w0 := w0) w0.heap.size rfl (.tmp 43) (.tmp 46) 25 3 (.int .i64 0) 8 rfl Tryz.underlying25 zkf rfl (by decide) (by omega) v114 y113 y116 _ _ _ (fun k_ => (P0_ k_ ∨ w.heap.size ≤ k_) ∧ some k_ ≠ (.slice (some ad101) l0.length co16 : Value).ownBlock) (fun _ => False) rfl rfl ?aO ?aR (fun _ _ h => h) (fun _ h => h.elim) ?aF ?aB ?aS ?aL ?_; (case aR => repeat (first | exact (zq20 HR119) | (with_reducible first | refine zCa ?_ _ | refine zCn ?_ _ | refine zCd ?_))); (case aB => exact zq1); (case aF => exact (fun k_ hk => ⟨(.inr (Nat.le_trans zq29 hk)), Kd.fresh' (Kd.R_lt (zq2 HO_0)) k_ hk⟩)); (case aO => exact (zq2 HO115)); (case aS => exact (zah zq1)); (case aL => have := LMc15.out; omega); intro v121 w23 ho hb hg hat; rw [← Ny120.out] at ho; replace HB := zA (hb); replace HK := zA (zhl (S := (fun k_ => P0_ k_)) hg zq28 (fun k_ e_ => (HO115.out.1 k_ e_).1)); replace HR109 := zA ((show Kd.C (Kd.int .i64) w23 (some ad101) y106.length y106 from by rw [Ny106.out]; exact Kd.C_take (m := (x5_1 : Int).toNat) ((zRr (Kd.R_after (ok := (fun k_ => (P0_ k_ ∨ w.heap.size ≤ k_))) (zq2 HO_0) hg hat)).2.2) KL19.out)); replace HR119 := zA ((show Kd.C (Kd.int .i64) w23 A22 y116.length y116 from by rw [Ny116.out, KA22.out]; exact Kd.C_drop (m := (x5_1 : Int).toNat) (c := co16) ((zRr (Kd.R_after (ok := (fun k_ => (P0_ k_ ∨ w.heap.size ≤ k_))) (zq2 HO_0) hg hat)).2.2) KL22.out ((zRr (Kd.R_after (ok := (fun k_ => (P0_ k_ ∨ w.heap.size ≤ k_))) (zq2 HO_0) hg hat)).2.1))); replace HO_0 := zA (Kd.R_after (ok := (fun k_ => (P0_ k_ ∨ w.heap.size ≤ k_))) (zq2 HO_0) hg hat); have HO122 := zA (ho); clear HO115; clear ho hb hg hat))
 go_ret
 exact ⟨_, zq5, zq72 HO122, zq1, zq28⟩
def zga (k : Nat) (a0_0 : ByteArray) (a0_1 : Int) (a0_2 : Int) (a0_3 : Int) (a0_4 : Int) : Option (List Int) := (zem k a0_0).bind fun bt102 => (if bt102.2.1 = true then ((zfs k ([] : List Int) a0_2).bind fun t107 => (if bt102.2.2.1 = true then ((zfs k t107 a0_3).bind fun t110 => (some t110)) else (some t107))) else (if bt102.2.2.1 = true then ((zfs k ([] : List Int) a0_3).bind fun t113 => (some t113)) else (some ([] : List Int))))
theorem zi3 : ∀ a0 a1 a2 a3 a4 k, LeO (zga k a0 a1 a2 a3 a4) (zga (k + 1) a0 a1 a2 a3 a4) := by
 intro a0 a1 a2 a3 a4 k
 unfold zga
 exact zm2 zf0 zr3
theorem zj5 (k : Nat) (a0_0 : ByteArray) (a0_1 : Int) (a0_2 : Int) (a0_3 : Int) (a0_4 : Int) (r : List Int) (w : World) (h : zga k a0_0 a0_1 a0_2 a0_3 a0_4 = some r) :
   Calls Tryz.prog 140 #[.agg #[.string a0_0, .int .i64 a0_1, .int .i64 a0_2, .int .i64 a0_3, .int .i64 a0_4]] w fun e w' => ∃ v0_ : Value, e = .returned (v0_) ∧ Kd.R (Kd.int .i64) 3 w' w.heap.size (fun _ => True) v0_ r ∧ Below w.heap.size w w' := by
 have hu55 := Tryz.underlying55
 have HB := zA (Below.refl w.heap.size w)
 have H := h
 unfold zga at H
 clear h
 replace H := zob H
 obtain ⟨⟨t102, t103, t104, t105, t106⟩, A20, H⟩ := H
 have A2 := zA A20
 clear A20
 by_cases c3 : t103 = true
 rotate_left
 · replace c3 := zbf c3
   subst c3
   replace H := zif H
   by_cases c16 : t104 = true
   rotate_left
   · replace c16 := zbf c16
     subst c16
     replace H := zif H
     obtain rfl := zsi H
     go_enter Tryz.func140, Tryz.ntmps140
     go_wp2_with (first | ((with_reducible refine zgd 1 ?_); refine zbh zq1 #[.string a0_0, .int .i64 a0_1, .int .i64 a0_2, .int .i64 a0_3, .int .i64 a0_4] 55 ?_; clear HB; intro gb101 w21 HB BK101 GW101; have GE101 := GW101; obtain ⟨hcz22_0, hcz22_1, hcz22_2, hcz22_3, hcz22_4, hfz22_0, hfz22_1, hfz22_2, hfz22_3, hfz22_4⟩ := zd5 BK101) | ((with_reducible refine zgc 148 ?_); refine zcl 12 Tryz.func148 (zb1 k a0_0 t102 false false t105 t106 _ A2.out) ?_; rintro e w' ⟨rfl, ⟨nd, rfl⟩⟩; refine ⟨_, rfl, ?_⟩))
     go_ret
     exact ⟨_, zq5, zq24, zq10 GE101⟩
   subst c16
   replace H := zih H
   replace H := zob H
   obtain ⟨t113, A170, H⟩ := H
   have A17 := zA A170
   clear A170
   obtain rfl := zsi H
   go_enter Tryz.func140, Tryz.ntmps140
   go_wp2_with (first | ((with_reducible refine zgd 1 ?_); refine zbh zq1 #[.string a0_0, .int .i64 a0_1, .int .i64 a0_2, .int .i64 a0_3, .int .i64 a0_4] 55 ?_; clear HB; intro gb101 w18 HB BK101 GW101; have GE101 := GW101; obtain ⟨hcz19_0, hcz19_1, hcz19_2, hcz19_3, hcz19_4, hfz19_0, hfz19_1, hfz19_2, hfz19_3, hfz19_4⟩ := zd5 BK101) | ((with_reducible refine zgc 148 ?_); refine zcl 12 Tryz.func148 (zb1 k a0_0 t102 false true t105 t106 _ A2.out) ?_; rintro e w' ⟨rfl, ⟨nd, rfl⟩⟩; refine ⟨_, rfl, ?_⟩) | ((with_reducible refine zmc (f := 156) rfl ?_); refine zsl (some 27) rfl rfl Tryz.func156 zq27 rfl #[.slice none 0 0, .int .i64 a0_3] rfl zq25 ?_; (refine (zjh k (fun k_ => some k_ = (.slice none 0 0 : Value).ownBlock) (.slice none 0 0) ([] : List Int) a0_3 t113 w _ ?side1 ?side2 A17.out).mono ?_); (case side1 => repeat (first | (with_reducible first | exact HB.out | apply zba | apply zbn | apply zbd | refine zad ?_ GE101.out) | exact HB.out)); (case side2 => exact Kd.R_nil _ _ _ _ _); rintro e w20 ⟨v114, rfl, ho0, hb, hkp⟩; refine ⟨_, rfl, ?_⟩; replace BK101 := zA (zi4 (zq4 BK101) hkp (fun hs_ => (fun e_ => by simp [Value.ownBlock] at e_) hs_)); have HO115 := zA (Kd.R_mono (ok' := fun k_ => True) ho0 (fun k_ hk_ => trivial)); replace HB := zA (hb); (try clear hb); (try clear hkp); (try clear ho0)))
   go_ret
   exact ⟨_, zq5, zq2 HO115, zq10 GE101⟩
 subst c3
 replace H := zih H
 replace H := zob H
 obtain ⟨t107, A40, H⟩ := H
 have A4 := zA A40
 clear A40
 by_cases c5 : t104 = true
 rotate_left
 · replace c5 := zbf c5
   subst c5
   replace H := zif H
   obtain rfl := zsi H
   go_enter Tryz.func140, Tryz.ntmps140
   go_wp2_with (first | ((with_reducible refine zgd 1 ?_); refine zbh zq1 #[.string a0_0, .int .i64 a0_1, .int .i64 a0_2, .int .i64 a0_3, .int .i64 a0_4] 55 ?_; clear HB; intro gb101 w13 HB BK101 GW101; have GE101 := GW101; obtain ⟨hcz14_0, hcz14_1, hcz14_2, hcz14_3, hcz14_4, hfz14_0, hfz14_1, hfz14_2, hfz14_3, hfz14_4⟩ := zd5 BK101) | ((with_reducible refine zgc 148 ?_); refine zcl 12 Tryz.func148 (zb1 k a0_0 t102 true false t105 t106 _ A2.out) ?_; rintro e w' ⟨rfl, ⟨nd, rfl⟩⟩; refine ⟨_, rfl, ?_⟩) | ((with_reducible refine zmc (f := 156) rfl ?_); refine zsl (some 22) rfl rfl Tryz.func156 zq27 rfl #[.slice none 0 0, .int .i64 a0_2] rfl zq25 ?_; (refine (zjh k (fun k_ => some k_ = (.slice none 0 0 : Value).ownBlock) (.slice none 0 0) ([] : List Int) a0_2 t107 w _ ?side1 ?side2 A4.out).mono ?_); (case side1 => repeat (first | (with_reducible first | exact HB.out | apply zba | apply zbn | apply zbd | refine zad ?_ GE101.out) | exact HB.out)); (case side2 => exact Kd.R_nil _ _ _ _ _); rintro e w15 ⟨v108, rfl, ho0, hb, hkp⟩; refine ⟨_, rfl, ?_⟩; replace BK101 := zA (zi4 (zq4 BK101) hkp (fun hs_ => (fun e_ => by simp [Value.ownBlock] at e_) hs_)); have HO109 := zA (Kd.R_mono (ok' := fun k_ => True) ho0 (fun k_ hk_ => trivial)); replace HB := zA (hb); (try clear hb); (try clear hkp); (try clear ho0)))
   go_ret
   exact ⟨_, zq5, zq2 HO109, zq10 GE101⟩
 subst c5
 replace H := zih H
 replace H := zob H
 obtain ⟨t110, A60, H⟩ := H
 have A6 := zA A60
 clear A60
 obtain rfl := zsi H
 go_enter Tryz.func140, Tryz.ntmps140
 go_wp2_with (first | ((with_reducible refine zgd 1 ?_); refine zbh zq1 #[.string a0_0, .int .i64 a0_1, .int .i64 a0_2, .int .i64 a0_3, .int .i64 a0_4] 55 ?_; clear HB; intro gb101 w7 HB BK101 GW101; have GE101 := GW101; obtain ⟨hcz8_0, hcz8_1, hcz8_2, hcz8_3, hcz8_4, hfz8_0, hfz8_1, hfz8_2, hfz8_3, hfz8_4⟩ := zd5 BK101) | ((with_reducible refine zgc 148 ?_); refine zcl 12 Tryz.func148 (zb1 k a0_0 t102 true true t105 t106 _ A2.out) ?_; rintro e w' ⟨rfl, ⟨nd, rfl⟩⟩; refine ⟨_, rfl, ?_⟩) | ((with_reducible refine zmc (f := 156) rfl ?_); refine zsl (some 22) rfl rfl Tryz.func156 zq27 rfl #[.slice none 0 0, .int .i64 a0_2] rfl zq25 ?_; (refine (zjh k (fun k_ => some k_ = (.slice none 0 0 : Value).ownBlock) (.slice none 0 0) ([] : List Int) a0_2 t107 w _ ?side1 ?side2 A4.out).mono ?_); (case side1 => repeat (first | (with_reducible first | exact HB.out | apply zba | apply zbn | apply zbd | refine zad ?_ GE101.out) | exact HB.out)); (case side2 => exact Kd.R_nil _ _ _ _ _); rintro e w9 ⟨v108, rfl, ho0, hb, hkp⟩; refine ⟨_, rfl, ?_⟩; replace BK101 := zA (zi4 (zq4 BK101) hkp (fun hs_ => (fun e_ => by simp [Value.ownBlock] at e_) hs_)); have HO109 := zA (Kd.R_mono (ok' := fun k_ => True) ho0 (fun k_ hk_ => trivial)); replace HB := zA (hb); (try clear hb); (try clear hkp); (try clear ho0); obtain ⟨hcz10_0, hcz10_1, hcz10_2, hcz10_3, hcz10_4⟩ := zc5 w9 (.string a0_0) (.int .i64 a0_1) (.int .i64 a0_2) (.int .i64 a0_3) (.int .i64 a0_4) BK101.out; obtain ⟨hfz10_0, hfz10_1, hfz10_2, hfz10_3, hfz10_4⟩ := zf5 BK101.out; obtain ⟨Ao11, co11, eo11⟩ := Kd.R_slice HO109.out; subst eo11) | ((with_reducible refine zgc 156 ?_); refine zca 27 Tryz.func156 #[.slice Ao11 t107.length co11, .int .i64 a0_3] (zjh k (fun k_ => some k_ = (.slice Ao11 t107.length co11 : Value).ownBlock) (.slice Ao11 t107.length co11) t107 a0_3 t110 w _ (zq10 GE101) (by exact Kd.R_tight rfl HO109.out) A6.out) ?_; rintro e w12 ⟨v111, rfl, ho0, hb, hkp⟩; refine ⟨_, rfl, ?_⟩; replace BK101 := zA (zi4 (zq4 BK101) hkp (fun hs_ => (fun e_ => (Kd.R_ne HO109.out BK101.out (by decide)) e_) hs_)); have HO112 := zA (Kd.R_mono (ok' := fun k_ => True) ho0 (fun k_ hk_ => trivial)); replace HB := zA (hb); clear HO109; (try clear hb); (try clear hkp); (try clear ho0)))
 go_ret
 exact ⟨_, zq5, zq2 HO112, zq10 GE101⟩
def ze9 : Nat → Int → List Int → Int → Int → Option (Bool)
 | 0, _, _, _, _ => none
 | k + 1, x1, x7, x8, x9 => if x9 < x8 then (if 0 ≤ x9 then (if x9 < (x7.length : Int) then (if (rd x7 x9) = x1 then (some true) else (ze9 k x1 x7 x8 (wrap64 (x9 + 1)))) else (none)) else (none)) else (some false)
def zhg (k : Nat) (l0 : List Int) (a1 : Int) : Option (Bool) := ze9 k a1 l0 (l0.length : Int) 0
theorem znh : ∀ k, (∀ y0 y1 y2 y3, LeO (ze9 k y0 y1 y2 y3) (ze9 (k + 1) y0 y1 y2 y3))
 | 0 => fun _ _ _ _ r h => by simp [ze9] at h
 | k + 1 => by
   have ih0 := znh k
   · intro y0 y1 y2 y3
     unfold ze9
     exact zm1 ih0
theorem zj6 : ∀ a0 a1 k, LeO (zhg k a0 a1) (zhg (k + 1) a0 a1) := by
 intro a0 a1 k
 have ih0 := znh k
 unfold zhg
 exact zm1 ih0
theorem zk6 (k : Nat) (A0 : Option Addr) (c0 : Nat) (l0 : List Int) (a1 : Int) (r : Bool) (w : World) (hr0 : Kd.C (Kd.int .i64) w A0 l0.length l0) (hc0 : l0.length ≤ c0) (h : zhg k l0 a1 = some r) :
   Calls Tryz.prog 65 #[.slice A0 l0.length c0, .int .i64 a1] w fun e w' => e = .returned (.bool r) ∧ Drawn0 w w' := by
 have HR0 := zA hr0
 have HC0 := zA hc0
 clear hr0 hc0
 have H := h
 unfold zhg at H
 clear h
 have H' := zA H
 clear H
 go_enter Tryz.func65, Tryz.ntmps65
 go_wp2
 go_loopg [9] k (fun kq v9 w' => ∃ (x9_1 : Int), v9 = .int .i64 x9_1 ∧ Aside0 (ze9 kq a1 l0 (l0.length : Int) x9_1 = some r) ∧ Aside0 (kq ≤ k) ∧ Drawn0 w w')
 case atStart => exact ⟨(0), zq8, H', ⟨zlr _⟩, zq14⟩
 clear H'
 obtain ⟨x9_1, rfl, HA, HK1, ⟨m1, rfl⟩⟩ := hrel
 cases gk with
 | zero => exact absurd HA.out (by simp [ze9])
 | succ k1 =>
 have H := HA.out
 clear HA
 simp only [ze9] at H
 revert H
 refine zit (fun c3 H => ?_) fun c3 H => ?_
 rotate_left
 · obtain rfl := zsi H
   exact zr_5
 revert H
 refine zin fun c4 H => ?_
 revert H
 refine zin fun c5 H => ?_
 by_cases c6 : (rd l0 x9_1) = a1
 · rw [if_pos c6] at H
   obtain ⟨c6b0, c6b1⟩ := zbe c6
   clear c6
   obtain rfl := zsi H
   obtain ⟨p101, q101⟩ := zpq x9_1 l0.length
   obtain ⟨ad101, e101, hx101_0⟩ := Kd.at_int HR0.out x9_1 (zoe p101) (zoe q101)
   cases e101
   exact zr_5
 rw [if_neg c6] at H
 obtain ⟨c6b0, c6b1⟩ := zbq c6
 have H' := zA H
 clear H
 obtain ⟨p101, q101⟩ := zpq x9_1 l0.length
 obtain ⟨ad101, e101, hx101_0⟩ := Kd.at_int HR0.out x9_1 (zoe p101) (zoe q101)
 cases e101
 go_wp2
 go_roundg k1
 case measure => have := HK1.out; omega
 case rel => exact ⟨(wrap64 (x9_1 + 1)), zq8, H', ⟨zq46 HK1⟩, zq14⟩
mutual
def zeh : Nat → List (S55) → Int → Int → Int → ByteArray → Int → Int → Int → Int → ByteArray → Int → Int → Int → Int → Option (Int)
 | 0, _, _, _, _, _, _, _, _, _, _, _, _, _, _ => none
 | k + 1, x0, x1, x2, x9, x104000, x104001, x104002, x104003, x104004, x105000, x105001, x105002, x105003, x105004 => if x104001 = x105001 then (zei k x0 x1 x2 1 x104000 x104001 x104002 x104003 x104004 x105000 x105001 x105002 x105003 x105004) else (zei k x0 x1 x2 x9 x104000 x104001 x104002 x104003 x104004 x105000 x105001 x105002 x105003 x105004)
def zei : Nat → List (S55) → Int → Int → Int → ByteArray → Int → Int → Int → Int → ByteArray → Int → Int → Int → Int → Option (Int)
 | 0, _, _, _, _, _, _, _, _, _, _, _, _, _, _ => none
 | k + 1, x0, x1, x2, x9, x104000, x104001, x104002, x104003, x104004, x105000, x105001, x105002, x105003, x105004 => (zga k x105000 x105001 x105002 x105003 x105004).bind fun t109 => ((zhg k t109 x104001).bind fun t112 => (if t112 = true then (zdj k x0 x1 x2 x9 x1 (wrap64 (x1 + 1)) x104000 x104001 x104002 x104003 x104004) else (some x9)))
def zdj : Nat → List (S55) → Int → Int → Int → Int → Int → ByteArray → Int → Int → Int → Int → Option (Int)
 | 0, _, _, _, _, _, _, _, _, _, _, _ => none
 | k + 1, x0, x1, x2, x9, x10, x11, x104000, x104001, x104002, x104003, x104004 => if x11 < x2 then (if 0 ≤ x11 then (if x11 < (x0.length : Int) then (if ((zaa x0 x11).f1) = x104001 then (zdj k x0 x1 x2 x9 x11 (wrap64 (x11 + 1)) x104000 x104001 x104002 x104003 x104004) else (zdj k x0 x1 x2 x9 x10 (wrap64 (x11 + 1)) x104000 x104001 x104002 x104003 x104004)) else (none)) else (none)) else (if x10 = x1 then ((zf9 x104000).bind fun t114 => ((zdb x9 t114).bind fun t115 => (some t115))) else (some x9))
end
def zg2 (k : Nat) (l0 : List (S55)) (a1 : Int) (a2 : Int) : Option (Int) := if 0 ≤ a1 then (if a1 < (l0.length : Int) then (if 0 ≤ a2 then (if a2 < (l0.length : Int) then ((zga k ((zaa l0 a1).f0) ((zaa l0 a1).f1) ((zaa l0 a1).f2) ((zaa l0 a1).f3) ((zaa l0 a1).f4)).bind fun t105 => ((zhg k t105 ((zaa l0 a2).f1)).bind fun t108 => (if t108 = true then (zeh k l0 a1 a2 0 ((zaa l0 a1).f0) ((zaa l0 a1).f1) ((zaa l0 a1).f2) ((zaa l0 a1).f3) ((zaa l0 a1).f4) ((zaa l0 a2).f0) ((zaa l0 a2).f1) ((zaa l0 a2).f2) ((zaa l0 a2).f3) ((zaa l0 a2).f4)) else (zeh k l0 a1 a2 (-1) ((zaa l0 a1).f0) ((zaa l0 a1).f1) ((zaa l0 a1).f2) ((zaa l0 a1).f3) ((zaa l0 a1).f4) ((zaa l0 a2).f0) ((zaa l0 a2).f1) ((zaa l0 a2).f2) ((zaa l0 a2).f3) ((zaa l0 a2).f4))))) else (none)) else (none)) else (none)) else (none)
theorem zl3 : ∀ k, (∀ y0 y1 y2 y3 y4 y5 y6 y7 y8 y9 y10 y11 y12 y13, LeO (zeh k y0 y1 y2 y3 y4 y5 y6 y7 y8 y9 y10 y11 y12 y13) (zeh (k + 1) y0 y1 y2 y3 y4 y5 y6 y7 y8 y9 y10 y11 y12 y13)) ∧ (∀ y0 y1 y2 y3 y4 y5 y6 y7 y8 y9 y10 y11 y12 y13, LeO (zei k y0 y1 y2 y3 y4 y5 y6 y7 y8 y9 y10 y11 y12 y13) (zei (k + 1) y0 y1 y2 y3 y4 y5 y6 y7 y8 y9 y10 y11 y12 y13)) ∧ (∀ y0 y1 y2 y3 y4 y5 y6 y7 y8 y9 y10, LeO (zdj k y0 y1 y2 y3 y4 y5 y6 y7 y8 y9 y10) (zdj (k + 1) y0 y1 y2 y3 y4 y5 y6 y7 y8 y9 y10))
 | 0 => ⟨fun _ _ _ _ _ _ _ _ _ _ _ _ _ _ r h => by simp [zeh] at h, fun _ _ _ _ _ _ _ _ _ _ _ _ _ _ r h => by simp [zei] at h, fun _ _ _ _ _ _ _ _ _ _ _ r h => by simp [zdj] at h⟩
 | k + 1 => by
   obtain ⟨ih0, ih1, ih2⟩ := zl3 k
   refine ⟨?_, ?_, ?_⟩
   · intro y0 y1 y2 y3 y4 y5 y6 y7 y8 y9 y10 y11 y12 y13
     unfold zeh
     exact zm5 ih0 ih1 ih2 zi3 zj6
   · intro y0 y1 y2 y3 y4 y5 y6 y7 y8 y9 y10 y11 y12 y13
     unfold zei
     exact zm5 ih0 ih1 ih2 zi3 zj6
   · intro y0 y1 y2 y3 y4 y5 y6 y7 y8 y9 y10
     unfold zdj
     exact zm5 ih0 ih1 ih2 zi3 zj6
theorem zkr : ∀ a0 a1 a2 k, LeO (zg2 k a0 a1 a2) (zg2 (k + 1) a0 a1 a2) := by
 intro a0 a1 a2 k
 obtain ⟨ih0, ih1, ih2⟩ := zl3 k
 unfold zg2
 exact zm5 ih0 ih1 ih2 zi3 zj6
def spec_orDelay.T1 : Bool × List (List Nat × List Nat) := (true, [([], []), ([], []), ([0, 1], [0, 1]), ([2], [2]), ([], []), ([], []), ([4, 5], [4, 5]), ([6], [6]), ([], []), ([], []), ([8, 3, 0, 1, 2, 3, 8, 9], [3, 8]), ([9, 7, 10, 0, 1, 2, 3, 4, 5, 6, 7, 8, 9, 10], [7, 9])])
def zr4 : List Nat := [0, 0, 3, 7, 0, 0, 48, 112, 0, 0, 783, 2047]
theorem zqr : rtab .any (zuf Tryz.f117 1) = spec_orDelay.T1 := by kernel_rfl
theorem zp4 : zke spec_orDelay.T1.2 zr4 = true := by kernel_rfl
def spec_orDelay.T12 : Bool × List (List Nat × List Nat) := (true, [([], []), ([], []), ([0, 1], [0, 1]), ([2], [2]), ([3], [3]), ([], []), ([5], [5]), ([4, 6], [4, 6])])
def zrm : List Nat := [0, 0, 3, 7, 15, 0, 32, 127]
theorem zmm : rtab .any (zuf Tryz.f117 12) = spec_orDelay.T12 := by kernel_rfl
theorem zl4 : zke spec_orDelay.T12.2 zrm = true := by kernel_rfl
theorem zp5 (k : Nat) (A0 : Option Addr) (c0 : Nat) (l0 : List (S55)) (a1 : Int) (a2 : Int) (r : Int) (w : World) (hr0 : Kd.C k55 w A0 l0.length l0) (hc0 : l0.length ≤ c0) (h : zg2 k l0 a1 a2 = some r) :
   Calls Tryz.prog 117 #[.slice A0 l0.length c0, .int .i64 a1, .int .i64 a2] w fun e w' => e = .returned (.int .i64 r) ∧ Below w.heap.size w w' := by
 have hu55 := Tryz.underlying55
 have HR0 := zA hr0
 have HC0 := zA hc0
 clear hr0 hc0
 have HB := zA (Below.refl w.heap.size w)
 have H := h
 unfold zg2 at H
 clear h
 revert H
 refine zin fun c4 H => ?_
 revert H
 refine zin fun c5 H => ?_
 revert H
 refine zin fun c6 H => ?_
 revert H
 refine zin fun c7 H => ?_
 replace H := zob H
 obtain ⟨t105, A80, H⟩ := H
 have A8 := zA A80
 clear A80
 replace H := zob H
 obtain ⟨t108, A90, H⟩ := H
 have A9 := zA A90
 clear A90
 have HC10 := zA H
 clear H
 go_enter Tryz.func117, Tryz.ntmps117
 try go_wp2
 replace HB := zA (zbd HB.out)
 obtain ⟨p101, q101⟩ := zpq a1 l0.length
 obtain ⟨ad101, e101, hx101_0, hx101_1, hx101_2, hx101_3, hx101_4⟩ := zi7 HR0.out a1 (zoe p101) (zoe q101)
 have hw101_4 := hx101_4
 have hw101_3 := hx101_3
 have hw101_2 := hx101_2
 have hw101_1 := hx101_1
 have hw101_0 := hx101_0
 cases e101
 replace hx101_0 := zkep HB.out hx101_0
 replace hx101_1 := zkep HB.out hx101_1
 replace hx101_2 := zkep HB.out hx101_2
 replace hx101_3 := zkep HB.out hx101_3
 replace hx101_4 := zkep HB.out hx101_4
 obtain ⟨p102, q102⟩ := zpq a2 l0.length
 obtain ⟨ad102, e102, hx102_0, hx102_1, hx102_2, hx102_3, hx102_4⟩ := zi7 HR0.out a2 (zoe p102) (zoe q102)
 have hw102_4 := hx102_4
 have hw102_3 := hx102_3
 have hw102_2 := hx102_2
 have hw102_1 := hx102_1
 have hw102_0 := hx102_0
 obtain rfl : ad101 = ad102 := (by injection e102)
 replace hx102_0 := zkep HB.out hx102_0
 replace hx102_1 := zkep HB.out hx102_1
 replace hx102_2 := zkep HB.out hx102_2
 replace hx102_3 := zkep HB.out hx102_3
 replace hx102_4 := zkep HB.out hx102_4
 refine zk4 (n := 12) (S := fun w' => w'.cell? (ad101.add ((a1).toNat * 5)) = some (.string ((zaa l0 a1).f0)) ∧ w'.cell? ⟨(ad101.add ((a1).toNat * 5)).block, (ad101.add ((a1).toNat * 5)).off + 1, none⟩ = some (.int .i64 ((zaa l0 a1).f1)) ∧ w'.cell? ⟨(ad101.add ((a1).toNat * 5)).block, (ad101.add ((a1).toNat * 5)).off + 2, none⟩ = some (.int .i64 ((zaa l0 a1).f2)) ∧ w'.cell? ⟨(ad101.add ((a1).toNat * 5)).block, (ad101.add ((a1).toNat * 5)).off + 3, none⟩ = some (.int .i64 ((zaa l0 a1).f3)) ∧ w'.cell? ⟨(ad101.add ((a1).toNat * 5)).block, (ad101.add ((a1).toNat * 5)).off + 4, none⟩ = some (.int .i64 ((zaa l0 a1).f4)) ∧ w'.cell? (ad101.add ((a2).toNat * 5)) = some (.string ((zaa l0 a2).f0)) ∧ w'.cell? ⟨(ad101.add ((a2).toNat * 5)).block, (ad101.add ((a2).toNat * 5)).off + 1, none⟩ = some (.int .i64 ((zaa l0 a2).f1)) ∧ w'.cell? ⟨(ad101.add ((a2).toNat * 5)).block, (ad101.add ((a2).toNat * 5)).off + 2, none⟩ = some (.int .i64 ((zaa l0 a2).f2)) ∧ w'.cell? ⟨(ad101.add ((a2).toNat * 5)).block, (ad101.add ((a2).toNat * 5)).off + 3, none⟩ = some (.int .i64 ((zaa l0 a2).f3)) ∧ w'.cell? ⟨(ad101.add ((a2).toNat * 5)).block, (ad101.add ((a2).toNat * 5)).off + 4, none⟩ = some (.int .i64 ((zaa l0 a2).f4))) (ds := []) #[false, false, false, false, false, false, false, false, false, false, false, false] zq27 rfl rfl ⟨(zkep HB.out hw101_0), (zkep HB.out hw101_1), (zkep HB.out hw101_2), (zkep HB.out hw101_3), (zkep HB.out hw101_4), (zkep HB.out hw102_0), (zkep HB.out hw102_1), (zkep HB.out hw102_2), (zkep HB.out hw102_3), (zkep HB.out hw102_4)⟩ (fun hHeld => ?_); refine zia zqr zp4 (fun HT_ HW_ => ?_)
 generalize w.drew = w11 at HB hx101_0 hx101_1 hx101_2 hx101_3 hx101_4 hx102_0 hx102_1 hx102_2 hx102_3 hx102_4 hHeld ⊢
 refine zpu 0 12 HT_ ?_
 refine zpu 1 13 HT_ ?_
 refine zpu 2 14 HT_ ?_
 refine zpu 4 16 HT_ ?_
 refine zpu 5 17 HT_ ?_
 refine zpu 6 18 HT_ ?_
 refine ztu 3 15 HT_ HW_ hHeld ?_
 refine ztu 7 19 HT_ HW_ hHeld ?_
 refine yd9 (σ := Nat × Nat) 2 #[true, true, true, true, true, true, true, true, true, true, false, false] (fun s_ => [(7, .pointer (some ⟨s_.1, 0, none⟩)), (8, .pointer (some ⟨s_.2, 0, none⟩))]) (fun s_ w' => (w'.cell? (ad101.add ((a1).toNat * 5)) = some (.string ((zaa l0 a1).f0)) ∧ w'.cell? ⟨(ad101.add ((a1).toNat * 5)).block, (ad101.add ((a1).toNat * 5)).off + 1, none⟩ = some (.int .i64 ((zaa l0 a1).f1)) ∧ w'.cell? ⟨(ad101.add ((a1).toNat * 5)).block, (ad101.add ((a1).toNat * 5)).off + 2, none⟩ = some (.int .i64 ((zaa l0 a1).f2)) ∧ w'.cell? ⟨(ad101.add ((a1).toNat * 5)).block, (ad101.add ((a1).toNat * 5)).off + 3, none⟩ = some (.int .i64 ((zaa l0 a1).f3)) ∧ w'.cell? ⟨(ad101.add ((a1).toNat * 5)).block, (ad101.add ((a1).toNat * 5)).off + 4, none⟩ = some (.int .i64 ((zaa l0 a1).f4)) ∧ w'.cell? (ad101.add ((a2).toNat * 5)) = some (.string ((zaa l0 a2).f0)) ∧ w'.cell? ⟨(ad101.add ((a2).toNat * 5)).block, (ad101.add ((a2).toNat * 5)).off + 1, none⟩ = some (.int .i64 ((zaa l0 a2).f1)) ∧ w'.cell? ⟨(ad101.add ((a2).toNat * 5)).block, (ad101.add ((a2).toNat * 5)).off + 2, none⟩ = some (.int .i64 ((zaa l0 a2).f2)) ∧ w'.cell? ⟨(ad101.add ((a2).toNat * 5)).block, (ad101.add ((a2).toNat * 5)).off + 3, none⟩ = some (.int .i64 ((zaa l0 a2).f3)) ∧ w'.cell? ⟨(ad101.add ((a2).toNat * 5)).block, (ad101.add ((a2).toNat * 5)).off + 4, none⟩ = some (.int .i64 ((zaa l0 a2).f4))) ∧ (w'.heap[s_.1]? = some (.cells #[.string (⟨#[]⟩ : ByteArray), .int .i64 0, .int .i64 0, .int .i64 0, .int .i64 0] 55 (0, 0))) ∧ (w'.heap[s_.2]? = some (.cells #[.string (⟨#[]⟩ : ByteArray), .int .i64 0, .int .i64 0, .int .i64 0, .int .i64 0] 55 (0, 0))) ∧ (w.heap.size ≤ s_.1) ∧ (w.heap.size ≤ s_.1) ∧ (s_.2 ≠ s_.1) ∧ (s_.1 ≠ s_.2) ∧ (w.heap.size ≤ s_.2) ∧ (w.heap.size ≤ s_.2) ∧ (Below w.heap.size w w')) ?_ ?_
 rotate_left
 · intro hCont
   refine two_ (i := 8) (j := 9) (Ni := some 7) (Nj := some 8) #[true, true, true, true, true, true, true, true, true, false, false, false] #[true, true, true, true, true, true, true, true, false, true, false, false] rfl rfl rfl rfl (yea HT_.out zq27) (by decide) (by decide) (fun K hK => ?_) (fun K hK => ?_)
   · skip
     refine zo6 ?hg (N := 7) ?hd (cs := #[.string (⟨#[]⟩ : ByteArray), .int .i64 0, .int .i64 0, .int .i64 0, .int .i64 0]) (t := 55) ?hr ?_; (case hd => rfl); (case hg => rfl); (case hr => go_simp <;> rfl)
     intro gb103 hg w12 hbox hb
     have BK103 := zA (hbox)
     have GW103 := zA ((by rw [hg]; exact (zah zq1) : w.heap.size ≤ gb103))
     have GE103 := zA ((by rw [hg]; exact (zah zq1) : w.heap.size ≤ gb103))
     replace HB := zA (zac zq1 hb)
     clear hb hbox hg
     refine hK.out _ _ ⟨(zkep HB.out hw101_0), (zkep HB.out hw101_1), (zkep HB.out hw101_2), (zkep HB.out hw101_3), (zkep HB.out hw101_4), (zkep HB.out hw102_0), (zkep HB.out hw102_1), (zkep HB.out hw102_2), (zkep HB.out hw102_3), (zkep HB.out hw102_4)⟩ (fun hHeld => ?_)
     clear hK K
     refine znm 7 ?_
     refine one_ (i := 9) (N := some 8) #[true, true, true, true, true, true, true, true, true, true, false, false] rfl rfl (zj2 HT_.out zq27) (by decide) (fun K hK => ?_)
     refine zo6 ?hg (N := 8) ?hd (cs := #[.string (⟨#[]⟩ : ByteArray), .int .i64 0, .int .i64 0, .int .i64 0, .int .i64 0]) (t := 55) ?hr ?_; (case hd => rfl); (case hg => rfl); (case hr => go_simp <;> rfl)
     intro gb104 hg w13 hbox hb
     have BK104 := zA (hbox)
     have GW104 := zA ((by rw [hg]; exact (zah (zq10 GE103)) : w.heap.size ≤ gb104))
     have GE104 := zA ((by rw [hg]; exact (zah (zq10 GE103)) : w.heap.size ≤ gb104))
     replace HB := zA (zac (zq10 GE103) hb)
     have NB103_104 := zA ((zq35 BK103 : gb103 ≠ gb104))
     have NB104_103 := zA ((by rw [hg]; exact Nat.ne_of_gt (zlt BK103.out (fun h => by (with_reducible repeat (first | refine zkn ?_ _ | refine zkd ?_ | refine zka ?_ _)); exact h)) : gb104 ≠ gb103))
     replace BK103 := zA (zag (g := gb103) (o := .cells #[.string (⟨#[]⟩ : ByteArray), .int .i64 0, .int .i64 0, .int .i64 0, .int .i64 0] 55 (0, 0)) (zq4 BK103) hb)
     clear hb hbox hg
     refine hK.out _ _ ⟨(zkep HB.out hw101_0), (zkep HB.out hw101_1), (zkep HB.out hw101_2), (zkep HB.out hw101_3), (zkep HB.out hw101_4), (zkep HB.out hw102_0), (zkep HB.out hw102_1), (zkep HB.out hw102_2), (zkep HB.out hw102_3), (zkep HB.out hw102_4)⟩ (fun hHeld => ?_)
     clear hK K
     refine znm 8 ?_
     exact zwr zq55 (hCont (gb103, gb104) _ ⟨hHeld, (zq4 BK103), (zq4 BK104), GW103.out, GE103.out, NB104_103.out, NB103_104.out, GW104.out, GE104.out, (zq9 GE103 GE104)⟩)
   skip
   refine zo6 ?hg (N := 8) ?hd (cs := #[.string (⟨#[]⟩ : ByteArray), .int .i64 0, .int .i64 0, .int .i64 0, .int .i64 0]) (t := 55) ?hr ?_; (case hd => rfl); (case hg => rfl); (case hr => go_simp <;> rfl)
   intro gb104 hg w12 hbox hb
   have BK104 := zA (hbox)
   have GW104 := zA ((by rw [hg]; exact (zah zq1) : w.heap.size ≤ gb104))
   have GE104 := zA ((by rw [hg]; exact (zah zq1) : w.heap.size ≤ gb104))
   replace HB := zA (zac zq1 hb)
   clear hb hbox hg
   refine hK.out _ _ ⟨(zkep HB.out hw101_0), (zkep HB.out hw101_1), (zkep HB.out hw101_2), (zkep HB.out hw101_3), (zkep HB.out hw101_4), (zkep HB.out hw102_0), (zkep HB.out hw102_1), (zkep HB.out hw102_2), (zkep HB.out hw102_3), (zkep HB.out hw102_4)⟩ (fun hHeld => ?_)
   clear hK K
   refine znm 8 ?_
   refine one_ (i := 8) (N := some 7) #[true, true, true, true, true, true, true, true, true, true, false, false] rfl rfl (zj2 HT_.out zq27) (by decide) (fun K hK => ?_)
   refine zo6 ?hg (N := 7) ?hd (cs := #[.string (⟨#[]⟩ : ByteArray), .int .i64 0, .int .i64 0, .int .i64 0, .int .i64 0]) (t := 55) ?hr ?_; (case hd => rfl); (case hg => rfl); (case hr => go_simp <;> rfl)
   intro gb103 hg w13 hbox hb
   have BK103 := zA (hbox)
   have GW103 := zA ((by rw [hg]; exact (zah (zq10 GE104)) : w.heap.size ≤ gb103))
   have GE103 := zA ((by rw [hg]; exact (zah (zq10 GE104)) : w.heap.size ≤ gb103))
   replace HB := zA (zac (zq10 GE104) hb)
   have NB104_103 := zA ((zq35 BK104 : gb104 ≠ gb103))
   have NB103_104 := zA ((by rw [hg]; exact Nat.ne_of_gt (zlt BK104.out (fun h => by (with_reducible repeat (first | refine zkn ?_ _ | refine zkd ?_ | refine zka ?_ _)); exact h)) : gb103 ≠ gb104))
   replace BK104 := zA (zag (g := gb104) (o := .cells #[.string (⟨#[]⟩ : ByteArray), .int .i64 0, .int .i64 0, .int .i64 0, .int .i64 0] 55 (0, 0)) (zq4 BK104) hb)
   clear hb hbox hg
   refine hK.out _ _ ⟨(zkep HB.out hw101_0), (zkep HB.out hw101_1), (zkep HB.out hw101_2), (zkep HB.out hw101_3), (zkep HB.out hw101_4), (zkep HB.out hw102_0), (zkep HB.out hw102_1), (zkep HB.out hw102_2), (zkep HB.out hw102_3), (zkep HB.out hw102_4)⟩ (fun hHeld => ?_)
   clear hK K
   refine znm 7 ?_
   exact zwr zq55 (hCont (gb103, gb104) _ ⟨hHeld, (zq4 BK103), (zq4 BK104), GW103.out, GE103.out, NB104_103.out, NB103_104.out, GW104.out, GE104.out, (zq9 GE104 GE103)⟩)
 rintro ⟨gb103, gb104⟩ w14 ⟨hS_, h0_, h1_, h2_, h3_, h4_, h5_, h6_, h7_, h8_⟩
 have n0_ : Aside0 (w14.heap[gb103]? = some (.cells #[.string (⟨#[]⟩ : ByteArray), .int .i64 0, .int .i64 0, .int .i64 0, .int .i64 0] 55 (0, 0))) := ⟨h0_⟩
 have n1_ : Aside0 (w14.heap[gb104]? = some (.cells #[.string (⟨#[]⟩ : ByteArray), .int .i64 0, .int .i64 0, .int .i64 0, .int .i64 0] 55 (0, 0))) := ⟨h1_⟩
 have n2_ : Aside0 (w.heap.size ≤ gb103) := ⟨h2_⟩
 have n3_ : Aside0 (w.heap.size ≤ gb103) := ⟨h3_⟩
 have n4_ : Aside0 (gb104 ≠ gb103) := ⟨h4_⟩
 have n5_ : Aside0 (gb103 ≠ gb104) := ⟨h5_⟩
 have n6_ : Aside0 (w.heap.size ≤ gb104) := ⟨h6_⟩
 have n7_ : Aside0 (w.heap.size ≤ gb104) := ⟨h7_⟩
 have n8_ : Aside0 (Below w.heap.size w w14) := ⟨h8_⟩
 clear HB
 clear h0_ h1_ h2_ h3_ h4_ h5_ h6_ h7_ h8_
 have BK103 := n0_
 have BK104 := n1_
 have GW103 := n2_
 have GE103 := n3_
 have NB104_103 := n4_
 have NB103_104 := n5_
 have GW104 := n6_
 have GE104 := n7_
 have HB := n8_
 clear n0_ n1_ n2_ n3_ n4_ n5_ n6_ n7_ n8_
 have hHeld : w14.cell? (ad101.add ((a1).toNat * 5)) = some (.string ((zaa l0 a1).f0)) ∧ w14.cell? ⟨(ad101.add ((a1).toNat * 5)).block, (ad101.add ((a1).toNat * 5)).off + 1, none⟩ = some (.int .i64 ((zaa l0 a1).f1)) ∧ w14.cell? ⟨(ad101.add ((a1).toNat * 5)).block, (ad101.add ((a1).toNat * 5)).off + 2, none⟩ = some (.int .i64 ((zaa l0 a1).f2)) ∧ w14.cell? ⟨(ad101.add ((a1).toNat * 5)).block, (ad101.add ((a1).toNat * 5)).off + 3, none⟩ = some (.int .i64 ((zaa l0 a1).f3)) ∧ w14.cell? ⟨(ad101.add ((a1).toNat * 5)).block, (ad101.add ((a1).toNat * 5)).off + 4, none⟩ = some (.int .i64 ((zaa l0 a1).f4)) ∧ w14.cell? (ad101.add ((a2).toNat * 5)) = some (.string ((zaa l0 a2).f0)) ∧ w14.cell? ⟨(ad101.add ((a2).toNat * 5)).block, (ad101.add ((a2).toNat * 5)).off + 1, none⟩ = some (.int .i64 ((zaa l0 a2).f1)) ∧ w14.cell? ⟨(ad101.add ((a2).toNat * 5)).block, (ad101.add ((a2).toNat * 5)).off + 2, none⟩ = some (.int .i64 ((zaa l0 a2).f2)) ∧ w14.cell? ⟨(ad101.add ((a2).toNat * 5)).block, (ad101.add ((a2).toNat * 5)).off + 3, none⟩ = some (.int .i64 ((zaa l0 a2).f3)) ∧ w14.cell? ⟨(ad101.add ((a2).toNat * 5)).block, (ad101.add ((a2).toNat * 5)).off + 4, none⟩ = some (.int .i64 ((zaa l0 a2).f4)) := hS_
 refine zwr (a' := ?_) ?_ ?_
 rotate_left
 · simp only [zte, Act.put, List.setIfInBounds_toArray, List.set_cons_zero, List.set_cons_succ]
   rfl
 refine one_ (i := 10) (N := none) #[true, true, true, true, true, true, true, true, true, true, true, false] rfl rfl (zj2 HT_.out zq27) (by decide) (fun K hK => ?_)
 have hs15 : w14.cell? ⟨gb103, 0, none⟩ = some (.string (⟨#[]⟩ : ByteArray)) := (zab BK103.out 0).trans rfl
 have hfs15 := zat BK103.out 0
 have hns15_1 := NB104_103.out
 have hms15_1 := NB103_104.out
 have hs16 : w14.cell? ⟨gb103, 1, none⟩ = some (.int .i64 0) := (zab BK103.out 1).trans rfl
 have hfs16 := zat BK103.out 1
 have hns16_1 := NB104_103.out
 have hms16_1 := NB103_104.out
 have hs17 : w14.cell? ⟨gb103, 2, none⟩ = some (.int .i64 0) := (zab BK103.out 2).trans rfl
 have hfs17 := zat BK103.out 2
 have hns17_1 := NB104_103.out
 have hms17_1 := NB103_104.out
 have hs18 : w14.cell? ⟨gb103, 3, none⟩ = some (.int .i64 0) := (zab BK103.out 3).trans rfl
 have hfs18 := zat BK103.out 3
 have hns18_1 := NB104_103.out
 have hms18_1 := NB103_104.out
 have hs19 : w14.cell? ⟨gb103, 4, none⟩ = some (.int .i64 0) := (zab BK103.out 4).trans rfl
 have hfs19 := zat BK103.out 4
 have hns19_1 := NB104_103.out
 have hms19_1 := NB103_104.out
 refine zsm (w1 := ?_) (by rfl) rfl ?_ ?_
 rotate_left
 · go_simp
   rfl
 refine hK.out _ _ ⟨((zaf (p := ⟨gb103, _, none⟩) (zfar hw101_0 GW103.out :) _).trans (((zaf (p := ⟨gb103, _, none⟩) (zfar hw101_0 GW103.out :) _).trans (((zaf (p := ⟨gb103, _, none⟩) (zfar hw101_0 GW103.out :) _).trans (((zaf (p := ⟨gb103, _, none⟩) (zfar hw101_0 GW103.out :) _).trans (((zaf (p := ⟨gb103, _, none⟩) (zfar hw101_0 GW103.out :) _).trans (hHeld.1)))))))))), ((zaf (p := ⟨gb103, _, none⟩) (zfar hw101_1 GW103.out :) _).trans (((zaf (p := ⟨gb103, _, none⟩) (zfar hw101_1 GW103.out :) _).trans (((zaf (p := ⟨gb103, _, none⟩) (zfar hw101_1 GW103.out :) _).trans (((zaf (p := ⟨gb103, _, none⟩) (zfar hw101_1 GW103.out :) _).trans (((zaf (p := ⟨gb103, _, none⟩) (zfar hw101_1 GW103.out :) _).trans (hHeld.2.1)))))))))), ((zaf (p := ⟨gb103, _, none⟩) (zfar hw101_2 GW103.out :) _).trans (((zaf (p := ⟨gb103, _, none⟩) (zfar hw101_2 GW103.out :) _).trans (((zaf (p := ⟨gb103, _, none⟩) (zfar hw101_2 GW103.out :) _).trans (((zaf (p := ⟨gb103, _, none⟩) (zfar hw101_2 GW103.out :) _).trans (((zaf (p := ⟨gb103, _, none⟩) (zfar hw101_2 GW103.out :) _).trans (hHeld.2.2.1)))))))))), ((zaf (p := ⟨gb103, _, none⟩) (zfar hw101_3 GW103.out :) _).trans (((zaf (p := ⟨gb103, _, none⟩) (zfar hw101_3 GW103.out :) _).trans (((zaf (p := ⟨gb103, _, none⟩) (zfar hw101_3 GW103.out :) _).trans (((zaf (p := ⟨gb103, _, none⟩) (zfar hw101_3 GW103.out :) _).trans (((zaf (p := ⟨gb103, _, none⟩) (zfar hw101_3 GW103.out :) _).trans (hHeld.2.2.2.1)))))))))), ((zaf (p := ⟨gb103, _, none⟩) (zfar hw101_4 GW103.out :) _).trans (((zaf (p := ⟨gb103, _, none⟩) (zfar hw101_4 GW103.out :) _).trans (((zaf (p := ⟨gb103, _, none⟩) (zfar hw101_4 GW103.out :) _).trans (((zaf (p := ⟨gb103, _, none⟩) (zfar hw101_4 GW103.out :) _).trans (((zaf (p := ⟨gb103, _, none⟩) (zfar hw101_4 GW103.out :) _).trans (hHeld.2.2.2.2.1)))))))))), ((zaf (p := ⟨gb103, _, none⟩) (zfar hw102_0 GW103.out :) _).trans (((zaf (p := ⟨gb103, _, none⟩) (zfar hw102_0 GW103.out :) _).trans (((zaf (p := ⟨gb103, _, none⟩) (zfar hw102_0 GW103.out :) _).trans (((zaf (p := ⟨gb103, _, none⟩) (zfar hw102_0 GW103.out :) _).trans (((zaf (p := ⟨gb103, _, none⟩) (zfar hw102_0 GW103.out :) _).trans (hHeld.2.2.2.2.2.1)))))))))), ((zaf (p := ⟨gb103, _, none⟩) (zfar hw102_1 GW103.out :) _).trans (((zaf (p := ⟨gb103, _, none⟩) (zfar hw102_1 GW103.out :) _).trans (((zaf (p := ⟨gb103, _, none⟩) (zfar hw102_1 GW103.out :) _).trans (((zaf (p := ⟨gb103, _, none⟩) (zfar hw102_1 GW103.out :) _).trans (((zaf (p := ⟨gb103, _, none⟩) (zfar hw102_1 GW103.out :) _).trans (hHeld.2.2.2.2.2.2.1)))))))))), ((zaf (p := ⟨gb103, _, none⟩) (zfar hw102_2 GW103.out :) _).trans (((zaf (p := ⟨gb103, _, none⟩) (zfar hw102_2 GW103.out :) _).trans (((zaf (p := ⟨gb103, _, none⟩) (zfar hw102_2 GW103.out :) _).trans (((zaf (p := ⟨gb103, _, none⟩) (zfar hw102_2 GW103.out :) _).trans (((zaf (p := ⟨gb103, _, none⟩) (zfar hw102_2 GW103.out :) _).trans (hHeld.2.2.2.2.2.2.2.1)))))))))), ((zaf (p := ⟨gb103, _, none⟩) (zfar hw102_3 GW103.out :) _).trans (((zaf (p := ⟨gb103, _, none⟩) (zfar hw102_3 GW103.out :) _).trans (((zaf (p := ⟨gb103, _, none⟩) (zfar hw102_3 GW103.out :) _).trans (((zaf (p := ⟨gb103, _, none⟩) (zfar hw102_3 GW103.out :) _).trans (((zaf (p := ⟨gb103, _, none⟩) (zfar hw102_3 GW103.out :) _).trans (hHeld.2.2.2.2.2.2.2.2.1)))))))))), ((zaf (p := ⟨gb103, _, none⟩) (zfar hw102_4 GW103.out :) _).trans (((zaf (p := ⟨gb103, _, none⟩) (zfar hw102_4 GW103.out :) _).trans (((zaf (p := ⟨gb103, _, none⟩) (zfar hw102_4 GW103.out :) _).trans (((zaf (p := ⟨gb103, _, none⟩) (zfar hw102_4 GW103.out :) _).trans (((zaf (p := ⟨gb103, _, none⟩) (zfar hw102_4 GW103.out :) _).trans (hHeld.2.2.2.2.2.2.2.2.2))))))))))⟩ (fun hHeld => ?_)
 clear hK K
 refine one_ (i := 11) (N := none) #[true, true, true, true, true, true, true, true, true, true, true, true] rfl rfl (zj2 HT_.out zq27) (by decide) (fun K hK => ?_)
 have hs20 : w14.cell? ⟨gb104, 0, none⟩ = some (.string (⟨#[]⟩ : ByteArray)) := (zab BK104.out 0).trans rfl
 have hfs20 := zat BK104.out 0
 have hns20_0 := NB103_104.out
 have hms20_0 := NB104_103.out
 have hs21 : w14.cell? ⟨gb104, 1, none⟩ = some (.int .i64 0) := (zab BK104.out 1).trans rfl
 have hfs21 := zat BK104.out 1
 have hns21_0 := NB103_104.out
 have hms21_0 := NB104_103.out
 have hs22 : w14.cell? ⟨gb104, 2, none⟩ = some (.int .i64 0) := (zab BK104.out 2).trans rfl
 have hfs22 := zat BK104.out 2
 have hns22_0 := NB103_104.out
 have hms22_0 := NB104_103.out
 have hs23 : w14.cell? ⟨gb104, 3, none⟩ = some (.int .i64 0) := (zab BK104.out 3).trans rfl
 have hfs23 := zat BK104.out 3
 have hns23_0 := NB103_104.out
 have hms23_0 := NB104_103.out
 have hs24 : w14.cell? ⟨gb104, 4, none⟩ = some (.int .i64 0) := (zab BK104.out 4).trans rfl
 have hfs24 := zat BK104.out 4
 have hns24_0 := NB103_104.out
 have hms24_0 := NB104_103.out
 refine zsm (w1 := ?_) (by rfl) rfl ?_ ?_
 rotate_left
 · go_simp
   rfl
 refine hK.out _ _ ⟨((zaf (p := ⟨gb104, _, none⟩) (zfar hw101_0 GW104.out :) _).trans (((zaf (p := ⟨gb104, _, none⟩) (zfar hw101_0 GW104.out :) _).trans (((zaf (p := ⟨gb104, _, none⟩) (zfar hw101_0 GW104.out :) _).trans (((zaf (p := ⟨gb104, _, none⟩) (zfar hw101_0 GW104.out :) _).trans (((zaf (p := ⟨gb104, _, none⟩) (zfar hw101_0 GW104.out :) _).trans (hHeld.1)))))))))), ((zaf (p := ⟨gb104, _, none⟩) (zfar hw101_1 GW104.out :) _).trans (((zaf (p := ⟨gb104, _, none⟩) (zfar hw101_1 GW104.out :) _).trans (((zaf (p := ⟨gb104, _, none⟩) (zfar hw101_1 GW104.out :) _).trans (((zaf (p := ⟨gb104, _, none⟩) (zfar hw101_1 GW104.out :) _).trans (((zaf (p := ⟨gb104, _, none⟩) (zfar hw101_1 GW104.out :) _).trans (hHeld.2.1)))))))))), ((zaf (p := ⟨gb104, _, none⟩) (zfar hw101_2 GW104.out :) _).trans (((zaf (p := ⟨gb104, _, none⟩) (zfar hw101_2 GW104.out :) _).trans (((zaf (p := ⟨gb104, _, none⟩) (zfar hw101_2 GW104.out :) _).trans (((zaf (p := ⟨gb104, _, none⟩) (zfar hw101_2 GW104.out :) _).trans (((zaf (p := ⟨gb104, _, none⟩) (zfar hw101_2 GW104.out :) _).trans (hHeld.2.2.1)))))))))), ((zaf (p := ⟨gb104, _, none⟩) (zfar hw101_3 GW104.out :) _).trans (((zaf (p := ⟨gb104, _, none⟩) (zfar hw101_3 GW104.out :) _).trans (((zaf (p := ⟨gb104, _, none⟩) (zfar hw101_3 GW104.out :) _).trans (((zaf (p := ⟨gb104, _, none⟩) (zfar hw101_3 GW104.out :) _).trans (((zaf (p := ⟨gb104, _, none⟩) (zfar hw101_3 GW104.out :) _).trans (hHeld.2.2.2.1)))))))))), ((zaf (p := ⟨gb104, _, none⟩) (zfar hw101_4 GW104.out :) _).trans (((zaf (p := ⟨gb104, _, none⟩) (zfar hw101_4 GW104.out :) _).trans (((zaf (p := ⟨gb104, _, none⟩) (zfar hw101_4 GW104.out :) _).trans (((zaf (p := ⟨gb104, _, none⟩) (zfar hw101_4 GW104.out :) _).trans (((zaf (p := ⟨gb104, _, none⟩) (zfar hw101_4 GW104.out :) _).trans (hHeld.2.2.2.2.1)))))))))), ((zaf (p := ⟨gb104, _, none⟩) (zfar hw102_0 GW104.out :) _).trans (((zaf (p := ⟨gb104, _, none⟩) (zfar hw102_0 GW104.out :) _).trans (((zaf (p := ⟨gb104, _, none⟩) (zfar hw102_0 GW104.out :) _).trans (((zaf (p := ⟨gb104, _, none⟩) (zfar hw102_0 GW104.out :) _).trans (((zaf (p := ⟨gb104, _, none⟩) (zfar hw102_0 GW104.out :) _).trans (hHeld.2.2.2.2.2.1)))))))))), ((zaf (p := ⟨gb104, _, none⟩) (zfar hw102_1 GW104.out :) _).trans (((zaf (p := ⟨gb104, _, none⟩) (zfar hw102_1 GW104.out :) _).trans (((zaf (p := ⟨gb104, _, none⟩) (zfar hw102_1 GW104.out :) _).trans (((zaf (p := ⟨gb104, _, none⟩) (zfar hw102_1 GW104.out :) _).trans (((zaf (p := ⟨gb104, _, none⟩) (zfar hw102_1 GW104.out :) _).trans (hHeld.2.2.2.2.2.2.1)))))))))), ((zaf (p := ⟨gb104, _, none⟩) (zfar hw102_2 GW104.out :) _).trans (((zaf (p := ⟨gb104, _, none⟩) (zfar hw102_2 GW104.out :) _).trans (((zaf (p := ⟨gb104, _, none⟩) (zfar hw102_2 GW104.out :) _).trans (((zaf (p := ⟨gb104, _, none⟩) (zfar hw102_2 GW104.out :) _).trans (((zaf (p := ⟨gb104, _, none⟩) (zfar hw102_2 GW104.out :) _).trans (hHeld.2.2.2.2.2.2.2.1)))))))))), ((zaf (p := ⟨gb104, _, none⟩) (zfar hw102_3 GW104.out :) _).trans (((zaf (p := ⟨gb104, _, none⟩) (zfar hw102_3 GW104.out :) _).trans (((zaf (p := ⟨gb104, _, none⟩) (zfar hw102_3 GW104.out :) _).trans (((zaf (p := ⟨gb104, _, none⟩) (zfar hw102_3 GW104.out :) _).trans (((zaf (p := ⟨gb104, _, none⟩) (zfar hw102_3 GW104.out :) _).trans (hHeld.2.2.2.2.2.2.2.2.1)))))))))), ((zaf (p := ⟨gb104, _, none⟩) (zfar hw102_4 GW104.out :) _).trans (((zaf (p := ⟨gb104, _, none⟩) (zfar hw102_4 GW104.out :) _).trans (((zaf (p := ⟨gb104, _, none⟩) (zfar hw102_4 GW104.out :) _).trans (((zaf (p := ⟨gb104, _, none⟩) (zfar hw102_4 GW104.out :) _).trans (((zaf (p := ⟨gb104, _, none⟩) (zfar hw102_4 GW104.out :) _).trans (hHeld.2.2.2.2.2.2.2.2.2))))))))))⟩ (fun hHeld => ?_)
 clear hK K
 refine zou (zlc HT_.out zq27) ?_
 try go_wp2
 have n0_ : Aside0 (((((((((((w14.setCell ⟨gb103, 0, none⟩ (.string ((zaa l0 a1).f0))).setCell ⟨gb103, 1, none⟩ (.int .i64 ((zaa l0 a1).f1))).setCell ⟨gb103, 2, none⟩ (.int .i64 ((zaa l0 a1).f2))).setCell ⟨gb103, 3, none⟩ (.int .i64 ((zaa l0 a1).f3))).setCell ⟨gb103, 4, none⟩ (.int .i64 ((zaa l0 a1).f4))).setCell ⟨gb104, 0, none⟩ (.string ((zaa l0 a2).f0))).setCell ⟨gb104, 1, none⟩ (.int .i64 ((zaa l0 a2).f1))).setCell ⟨gb104, 2, none⟩ (.int .i64 ((zaa l0 a2).f2))).setCell ⟨gb104, 3, none⟩ (.int .i64 ((zaa l0 a2).f3))).setCell ⟨gb104, 4, none⟩ (.int .i64 ((zaa l0 a2).f4))).heap[gb103]? = some (.cells #[.string ((zaa l0 a1).f0), .int .i64 ((zaa l0 a1).f1), .int .i64 ((zaa l0 a1).f2), .int .i64 ((zaa l0 a1).f3), .int .i64 ((zaa l0 a1).f4)] 55 (0, 0))) := ⟨by (with_reducible repeat (first | refine zkn ?_ _ | refine zkd ?_ | refine zka ?_ _)); refine zav ?_ NB103_104.out _; (with_reducible repeat (first | refine zkn ?_ _ | refine zkd ?_ | refine zka ?_ _)); refine zav ?_ NB103_104.out _; (with_reducible repeat (first | refine zkn ?_ _ | refine zkd ?_ | refine zka ?_ _)); refine zav ?_ NB103_104.out _; (with_reducible repeat (first | refine zkn ?_ _ | refine zkd ?_ | refine zka ?_ _)); refine zav ?_ NB103_104.out _; (with_reducible repeat (first | refine zkn ?_ _ | refine zkd ?_ | refine zka ?_ _)); refine zav ?_ NB103_104.out _; (with_reducible repeat (first | refine zkn ?_ _ | refine zkd ?_ | refine zka ?_ _)); refine zaw (cs := #[.string ((zaa l0 a1).f0), .int .i64 ((zaa l0 a1).f1), .int .i64 ((zaa l0 a1).f2), .int .i64 ((zaa l0 a1).f3), .int .i64 0]) ?_ 4 _ rfl; (with_reducible repeat (first | refine zkn ?_ _ | refine zkd ?_ | refine zka ?_ _)); refine zaw (cs := #[.string ((zaa l0 a1).f0), .int .i64 ((zaa l0 a1).f1), .int .i64 ((zaa l0 a1).f2), .int .i64 0, .int .i64 0]) ?_ 3 _ rfl; (with_reducible repeat (first | refine zkn ?_ _ | refine zkd ?_ | refine zka ?_ _)); refine zaw (cs := #[.string ((zaa l0 a1).f0), .int .i64 ((zaa l0 a1).f1), .int .i64 0, .int .i64 0, .int .i64 0]) ?_ 2 _ rfl; (with_reducible repeat (first | refine zkn ?_ _ | refine zkd ?_ | refine zka ?_ _)); refine zaw (cs := #[.string ((zaa l0 a1).f0), .int .i64 0, .int .i64 0, .int .i64 0, .int .i64 0]) ?_ 1 _ rfl; (with_reducible repeat (first | refine zkn ?_ _ | refine zkd ?_ | refine zka ?_ _)); refine zaw (cs := #[.string (⟨#[]⟩ : ByteArray), .int .i64 0, .int .i64 0, .int .i64 0, .int .i64 0]) ?_ 0 _ rfl; (with_reducible repeat (first | refine zkn ?_ _ | refine zkd ?_ | refine zka ?_ _)); exact BK103.out⟩
 have n1_ : Aside0 (((((((((((w14.setCell ⟨gb103, 0, none⟩ (.string ((zaa l0 a1).f0))).setCell ⟨gb103, 1, none⟩ (.int .i64 ((zaa l0 a1).f1))).setCell ⟨gb103, 2, none⟩ (.int .i64 ((zaa l0 a1).f2))).setCell ⟨gb103, 3, none⟩ (.int .i64 ((zaa l0 a1).f3))).setCell ⟨gb103, 4, none⟩ (.int .i64 ((zaa l0 a1).f4))).setCell ⟨gb104, 0, none⟩ (.string ((zaa l0 a2).f0))).setCell ⟨gb104, 1, none⟩ (.int .i64 ((zaa l0 a2).f1))).setCell ⟨gb104, 2, none⟩ (.int .i64 ((zaa l0 a2).f2))).setCell ⟨gb104, 3, none⟩ (.int .i64 ((zaa l0 a2).f3))).setCell ⟨gb104, 4, none⟩ (.int .i64 ((zaa l0 a2).f4))).heap[gb104]? = some (.cells #[.string ((zaa l0 a2).f0), .int .i64 ((zaa l0 a2).f1), .int .i64 ((zaa l0 a2).f2), .int .i64 ((zaa l0 a2).f3), .int .i64 ((zaa l0 a2).f4)] 55 (0, 0))) := ⟨by (with_reducible repeat (first | refine zkn ?_ _ | refine zkd ?_ | refine zka ?_ _)); refine zaw (cs := #[.string ((zaa l0 a2).f0), .int .i64 ((zaa l0 a2).f1), .int .i64 ((zaa l0 a2).f2), .int .i64 ((zaa l0 a2).f3), .int .i64 0]) ?_ 4 _ rfl; (with_reducible repeat (first | refine zkn ?_ _ | refine zkd ?_ | refine zka ?_ _)); refine zaw (cs := #[.string ((zaa l0 a2).f0), .int .i64 ((zaa l0 a2).f1), .int .i64 ((zaa l0 a2).f2), .int .i64 0, .int .i64 0]) ?_ 3 _ rfl; (with_reducible repeat (first | refine zkn ?_ _ | refine zkd ?_ | refine zka ?_ _)); refine zaw (cs := #[.string ((zaa l0 a2).f0), .int .i64 ((zaa l0 a2).f1), .int .i64 0, .int .i64 0, .int .i64 0]) ?_ 2 _ rfl; (with_reducible repeat (first | refine zkn ?_ _ | refine zkd ?_ | refine zka ?_ _)); refine zaw (cs := #[.string ((zaa l0 a2).f0), .int .i64 0, .int .i64 0, .int .i64 0, .int .i64 0]) ?_ 1 _ rfl; (with_reducible repeat (first | refine zkn ?_ _ | refine zkd ?_ | refine zka ?_ _)); refine zaw (cs := #[.string (⟨#[]⟩ : ByteArray), .int .i64 0, .int .i64 0, .int .i64 0, .int .i64 0]) ?_ 0 _ rfl; (with_reducible repeat (first | refine zkn ?_ _ | refine zkd ?_ | refine zka ?_ _)); refine zav ?_ NB104_103.out _; (with_reducible repeat (first | refine zkn ?_ _ | refine zkd ?_ | refine zka ?_ _)); refine zav ?_ NB104_103.out _; (with_reducible repeat (first | refine zkn ?_ _ | refine zkd ?_ | refine zka ?_ _)); refine zav ?_ NB104_103.out _; (with_reducible repeat (first | refine zkn ?_ _ | refine zkd ?_ | refine zka ?_ _)); refine zav ?_ NB104_103.out _; (with_reducible repeat (first | refine zkn ?_ _ | refine zkd ?_ | refine zka ?_ _)); refine zav ?_ NB104_103.out _; (with_reducible repeat (first | refine zkn ?_ _ | refine zkd ?_ | refine zka ?_ _)); exact BK104.out⟩
 have n2_ : Aside0 (Below w.heap.size w ((((((((((w14.setCell ⟨gb103, 0, none⟩ (.string ((zaa l0 a1).f0))).setCell ⟨gb103, 1, none⟩ (.int .i64 ((zaa l0 a1).f1))).setCell ⟨gb103, 2, none⟩ (.int .i64 ((zaa l0 a1).f2))).setCell ⟨gb103, 3, none⟩ (.int .i64 ((zaa l0 a1).f3))).setCell ⟨gb103, 4, none⟩ (.int .i64 ((zaa l0 a1).f4))).setCell ⟨gb104, 0, none⟩ (.string ((zaa l0 a2).f0))).setCell ⟨gb104, 1, none⟩ (.int .i64 ((zaa l0 a2).f1))).setCell ⟨gb104, 2, none⟩ (.int .i64 ((zaa l0 a2).f2))).setCell ⟨gb104, 3, none⟩ (.int .i64 ((zaa l0 a2).f3))).setCell ⟨gb104, 4, none⟩ (.int .i64 ((zaa l0 a2).f4)))) := ⟨zq9 GE103 GE104⟩
 (try clear BK103)
 (try clear BK104)
 (try clear HB)
 generalize ((((((((((w14.setCell ⟨gb103, 0, none⟩ (.string ((zaa l0 a1).f0))).setCell ⟨gb103, 1, none⟩ (.int .i64 ((zaa l0 a1).f1))).setCell ⟨gb103, 2, none⟩ (.int .i64 ((zaa l0 a1).f2))).setCell ⟨gb103, 3, none⟩ (.int .i64 ((zaa l0 a1).f3))).setCell ⟨gb103, 4, none⟩ (.int .i64 ((zaa l0 a1).f4))).setCell ⟨gb104, 0, none⟩ (.string ((zaa l0 a2).f0))).setCell ⟨gb104, 1, none⟩ (.int .i64 ((zaa l0 a2).f1))).setCell ⟨gb104, 2, none⟩ (.int .i64 ((zaa l0 a2).f2))).setCell ⟨gb104, 3, none⟩ (.int .i64 ((zaa l0 a2).f3))).setCell ⟨gb104, 4, none⟩ (.int .i64 ((zaa l0 a2).f4))) = w25 at n0_ n1_ n2_ ⊢
 have BK103 := n0_
 have BK104 := n1_
 have HB := n2_
 clear n0_ n1_ n2_
 replace BK103 := zA (zkd BK103.out)
 replace BK104 := zA (zkd BK104.out)
 replace HB := zA (zbd HB.out)
 refine zk4 (n := 5) (S := fun w' => w'.cell? ⟨gb103, 0, none⟩ = some (.string ((zaa l0 a1).f0)) ∧ w'.cell? ⟨gb103, 1, none⟩ = some (.int .i64 ((zaa l0 a1).f1)) ∧ w'.cell? ⟨gb103, 2, none⟩ = some (.int .i64 ((zaa l0 a1).f2)) ∧ w'.cell? ⟨gb103, 3, none⟩ = some (.int .i64 ((zaa l0 a1).f3)) ∧ w'.cell? ⟨gb103, 4, none⟩ = some (.int .i64 ((zaa l0 a1).f4)) ∧ w'.cell? ⟨gb104, 0, none⟩ = some (.string ((zaa l0 a2).f0)) ∧ w'.cell? ⟨gb104, 1, none⟩ = some (.int .i64 ((zaa l0 a2).f1)) ∧ w'.cell? ⟨gb104, 2, none⟩ = some (.int .i64 ((zaa l0 a2).f2)) ∧ w'.cell? ⟨gb104, 3, none⟩ = some (.int .i64 ((zaa l0 a2).f3)) ∧ w'.cell? ⟨gb104, 4, none⟩ = some (.int .i64 ((zaa l0 a2).f4))) (ds := []) #[false, false, false, false, false] zq27 rfl rfl ⟨(zab BK103.out 0).trans rfl, (zab BK103.out 1).trans rfl, (zab BK103.out 2).trans rfl, (zab BK103.out 3).trans rfl, (zab BK103.out 4).trans rfl, (zab BK104.out 0).trans rfl, (zab BK104.out 1).trans rfl, (zab BK104.out 2).trans rfl, (zab BK104.out 3).trans rfl, (zab BK104.out 4).trans rfl⟩ (fun hHeld => ?_)
 generalize w25.drew = w26 at BK103 BK104 HB hHeld ⊢
 refine zpk 2 22 ?_
 refine ztk 0 20 hHeld ?_
 refine ztk 3 23 hHeld ?_
 refine one_ (i := 1) (N := some 21) #[true, true, true, true, false] rfl rfl zq27 (by decide) (fun K hK => ?_)
 refine zgo Tryz.func140 (zj5 k ((zaa l0 a1).f0) ((zaa l0 a1).f1) ((zaa l0 a1).f2) ((zaa l0 a1).f3) ((zaa l0 a1).f4) t105 _ A8.out) ?_
 rintro e w27 ⟨v106, rfl, ho0, hb⟩
 refine ⟨_, rfl, ?_⟩
 have HO107 := zA (Kd.R_lower ho0 (zah (zq9 GE103 GE104)))
 replace BK103 := zA (zag (g := gb103) (o := .cells #[.string ((zaa l0 a1).f0), .int .i64 ((zaa l0 a1).f1), .int .i64 ((zaa l0 a1).f2), .int .i64 ((zaa l0 a1).f3), .int .i64 ((zaa l0 a1).f4)] 55 (0, 0)) (zq4 BK103) hb)
 replace BK104 := zA (zag (g := gb104) (o := .cells #[.string ((zaa l0 a2).f0), .int .i64 ((zaa l0 a2).f1), .int .i64 ((zaa l0 a2).f2), .int .i64 ((zaa l0 a2).f3), .int .i64 ((zaa l0 a2).f4)] 55 (0, 0)) (zq4 BK104) hb)
 replace HB := zA (zac (zq9 GE103 GE104) hb)
 (try clear hb)
 (try clear hb2)
 (try clear hk)
 (try clear hi)
 (try clear ho0)
 obtain ⟨Ao28, co28, eo28⟩ := Kd.R_slice HO107.out
 (first | subst eo28 | (injection eo28 with f1_ f2_ f3_; have f4_ := f1_.symm; have f5_ := f3_.symm; clear f1_ f2_ f3_; subst f4_; subst f5_))
 refine hK.out _ _ ⟨(zab BK103.out 0).trans rfl, (zab BK103.out 1).trans rfl, (zab BK103.out 2).trans rfl, (zab BK103.out 3).trans rfl, (zab BK103.out 4).trans rfl, (zab BK104.out 0).trans rfl, (zab BK104.out 1).trans rfl, (zab BK104.out 2).trans rfl, (zab BK104.out 3).trans rfl, (zab BK104.out 4).trans rfl⟩ (fun hHeld => ?_)
 clear hK K
 refine znm 21 ?_
 refine one_ (i := 4) (N := some 24) #[true, true, true, true, true] rfl rfl zq27 (by decide) (fun K hK => ?_)
 refine zqz Tryz.func65 zq27 rfl #[.slice Ao28 t105.length co28, .int .i64 ((zaa l0 a2).f1)] (by rfl) rfl rfl zq25 ?_
 with_reducible refine (zk6 k _ _ t105 ((zaa l0 a2).f1) t108 _ ?side1 ?side2 A9.out).mono ?_
 (case side1 => repeat (first | exact (zRr HO107.out).2.2 | (with_reducible first | refine zCa ?_ _ | refine zCn ?_ _ | refine zCd ?_)))
 (case side2 => exact (zRr HO107.out).2.1)
 rintro e w' ⟨rfl, ⟨nd, rfl⟩⟩
 refine ⟨_, rfl, ?_⟩
 refine hK.out _ _ ⟨(zab BK103.out 0).trans rfl, (zab BK103.out 1).trans rfl, (zab BK103.out 2).trans rfl, (zab BK103.out 3).trans rfl, (zab BK103.out 4).trans rfl, (zab BK104.out 0).trans rfl, (zab BK104.out 1).trans rfl, (zab BK104.out 2).trans rfl, (zab BK104.out 3).trans rfl, (zab BK104.out 4).trans rfl⟩ (fun hHeld => ?_)
 clear hK K
 refine znm 24 ?_
 refine zou zq27 ?_
 (try (rw [zgn w27]; generalize hq_ : World.drewN w27 _ = w27; have n0_ := zA (Kd.R_at hq_ HO107.out); have n1_ := zA (zj1 hq_ BK103.out); have n2_ := zA (zj1 hq_ BK104.out); have n3_ := zA (zkw hq_ HB.out); clear hq_ HO107 BK103 BK104 HB; have HO107 := n0_; have BK103 := n1_; have BK104 := n2_; have HB := n3_; clear n0_ n1_ n2_ n3_))
 go_upto_if 24 with (fail)
 go_cut [9] (fun v9 wc => ∃ (kq : Nat) (x9_9 : Int), v9 = .int .i64 x9_9 ∧ Aside0 (zeh kq l0 a1 a2 x9_9 ((zaa l0 a1).f0) ((zaa l0 a1).f1) ((zaa l0 a1).f2) ((zaa l0 a1).f3) ((zaa l0 a1).f4) ((zaa l0 a2).f0) ((zaa l0 a2).f1) ((zaa l0 a2).f2) ((zaa l0 a2).f3) ((zaa l0 a2).f4) = some r) ∧ Aside0 (kq ≤ k) ∧ Aside0 (wc.heap[gb103]? = some (.cells #[.string ((zaa l0 a1).f0), .int .i64 ((zaa l0 a1).f1), .int .i64 ((zaa l0 a1).f2), .int .i64 ((zaa l0 a1).f3), .int .i64 ((zaa l0 a1).f4)] 55 (0, 0))) ∧ Aside0 (wc.heap[gb104]? = some (.cells #[.string ((zaa l0 a2).f0), .int .i64 ((zaa l0 a2).f1), .int .i64 ((zaa l0 a2).f2), .int .i64 ((zaa l0 a2).f3), .int .i64 ((zaa l0 a2).f4)] 55 (0, 0))) ∧ Aside0 (Below w.heap.size w wc))
 case first =>
   have H := HC10.out
   clear HC10
   by_cases c29 : t108 = true
   · subst c29
     replace H := zih H
     have H' := zA H
     clear H
     go_wp2
     go_meet
     case rel => exact ⟨_, (0), zq8, H', ⟨zq38⟩, ⟨zq4 BK103⟩, ⟨zq4 BK104⟩, ⟨zq9 GE103 GE104⟩⟩
   replace c29 := zbf c29
   subst c29
   replace H := zif H
   have H' := zA H
   clear H
   go_wp2
   go_meet
   case rel => exact ⟨_, ((-1)), zq8, H', ⟨zq38⟩, ⟨zq4 BK103⟩, ⟨zq4 BK104⟩, ⟨zq9 GE103 GE104⟩⟩
 clear HC10
 obtain ⟨kq, x9_9, rfl, HA, HJ9, BK103, BK104, HB⟩ := hcut
 cases kq with
 | zero => exact absurd HA.out (by simp [zeh])
 | succ kj9 =>
 have H := HA.out
 clear HA
 simp only [zeh] at H
 have HC30 := zA H
 clear H
 have hnb31 := NB103_104.out
 have hnc31 := NB104_103.out
 obtain ⟨hcz32_0, hcz32_1, hcz32_2, hcz32_3, hcz32_4⟩ := zc5 wc (.string ((zaa l0 a1).f0)) (.int .i64 ((zaa l0 a1).f1)) (.int .i64 ((zaa l0 a1).f2)) (.int .i64 ((zaa l0 a1).f3)) (.int .i64 ((zaa l0 a1).f4)) BK103.out
 obtain ⟨hfz32_0, hfz32_1, hfz32_2, hfz32_3, hfz32_4⟩ := zf5 BK103.out
 obtain ⟨hcz33_0, hcz33_1, hcz33_2, hcz33_3, hcz33_4⟩ := zc5 wc (.string ((zaa l0 a2).f0)) (.int .i64 ((zaa l0 a2).f1)) (.int .i64 ((zaa l0 a2).f2)) (.int .i64 ((zaa l0 a2).f3)) (.int .i64 ((zaa l0 a2).f4)) BK104.out
 obtain ⟨hfz33_0, hfz33_1, hfz33_2, hfz33_3, hfz33_4⟩ := zf5 BK104.out
 go_upto_if 29 with (fail)
 go_cut [9] (fun v9 wc => ∃ (kq : Nat) (x9_29 : Int), v9 = .int .i64 x9_29 ∧ Aside0 (zei kq l0 a1 a2 x9_29 ((zaa l0 a1).f0) ((zaa l0 a1).f1) ((zaa l0 a1).f2) ((zaa l0 a1).f3) ((zaa l0 a1).f4) ((zaa l0 a2).f0) ((zaa l0 a2).f1) ((zaa l0 a2).f2) ((zaa l0 a2).f3) ((zaa l0 a2).f4) = some r) ∧ Aside0 (kq ≤ kj9) ∧ Aside0 (wc.heap[gb103]? = some (.cells #[.string ((zaa l0 a1).f0), .int .i64 ((zaa l0 a1).f1), .int .i64 ((zaa l0 a1).f2), .int .i64 ((zaa l0 a1).f3), .int .i64 ((zaa l0 a1).f4)] 55 (0, 0))) ∧ Aside0 (wc.heap[gb104]? = some (.cells #[.string ((zaa l0 a2).f0), .int .i64 ((zaa l0 a2).f1), .int .i64 ((zaa l0 a2).f2), .int .i64 ((zaa l0 a2).f3), .int .i64 ((zaa l0 a2).f4)] 55 (0, 0))) ∧ Aside0 (Below w.heap.size w wc))
 case first =>
   have H := HC30.out
   clear HC30
   by_cases c34 : ((zaa l0 a1).f1) = ((zaa l0 a2).f1)
   rotate_left
   · rw [if_neg c34] at H
     obtain ⟨c34b0, c34b1⟩ := zbq c34
     (first | rw [c34b0] | (simp only [zlo, zm9]; rw [c34b0]) | skip)
     have H' := zA H
     clear H
     go_wp2
     go_meet
     case rel => exact ⟨_, (x9_9), zq8, H', ⟨zq41 HJ9⟩, ⟨zq4 BK103⟩, ⟨zq4 BK104⟩, ⟨zq9 GE103 GE104⟩⟩
   rw [if_pos c34] at H
   obtain ⟨c34b0, c34b1⟩ := zbe c34
   clear c34
   (first | rw [c34b0] | (simp only [zlo, zm9]; rw [c34b0]) | skip)
   have H' := zA H
   clear H
   go_wp2
   go_meet
   case rel => exact ⟨_, (1), zq8, H', ⟨zq41 HJ9⟩, ⟨zq4 BK103⟩, ⟨zq4 BK104⟩, ⟨zq9 GE103 GE104⟩⟩
 clear HC30
 obtain ⟨kq, x9_29, rfl, HA, HJ29, BK103, BK104, HB⟩ := hcut
 cases kq with
 | zero => exact absurd HA.out (by simp [zei])
 | succ kj29 =>
 have H := HA.out
 clear HA
 simp only [zei] at H
 replace H := zob H
 obtain ⟨t109, A350, H⟩ := H
 have A35 := zA A350
 clear A350
 replace H := zob H
 obtain ⟨t112, A360, H⟩ := H
 have A36 := zA A360
 clear A360
 by_cases c37 : t112 = true
 rotate_left
 · replace c37 := zbf c37
   subst c37
   replace H := zif H
   obtain rfl := zsi H
   try go_wp2
   replace BK103 := zA (zkd BK103.out)
   replace BK104 := zA (zkd BK104.out)
   replace HB := zA (zbd HB.out)
   refine zk4 (n := 5) (S := fun w' => w'.cell? ⟨gb104, 0, none⟩ = some (.string ((zaa l0 a2).f0)) ∧ w'.cell? ⟨gb104, 1, none⟩ = some (.int .i64 ((zaa l0 a2).f1)) ∧ w'.cell? ⟨gb104, 2, none⟩ = some (.int .i64 ((zaa l0 a2).f2)) ∧ w'.cell? ⟨gb104, 3, none⟩ = some (.int .i64 ((zaa l0 a2).f3)) ∧ w'.cell? ⟨gb104, 4, none⟩ = some (.int .i64 ((zaa l0 a2).f4)) ∧ w'.cell? ⟨gb103, 0, none⟩ = some (.string ((zaa l0 a1).f0)) ∧ w'.cell? ⟨gb103, 1, none⟩ = some (.int .i64 ((zaa l0 a1).f1)) ∧ w'.cell? ⟨gb103, 2, none⟩ = some (.int .i64 ((zaa l0 a1).f2)) ∧ w'.cell? ⟨gb103, 3, none⟩ = some (.int .i64 ((zaa l0 a1).f3)) ∧ w'.cell? ⟨gb103, 4, none⟩ = some (.int .i64 ((zaa l0 a1).f4))) (ds := []) #[false, false, false, false, false] zq27 rfl rfl ⟨(zab BK104.out 0).trans rfl, (zab BK104.out 1).trans rfl, (zab BK104.out 2).trans rfl, (zab BK104.out 3).trans rfl, (zab BK104.out 4).trans rfl, (zab BK103.out 0).trans rfl, (zab BK103.out 1).trans rfl, (zab BK103.out 2).trans rfl, (zab BK103.out 3).trans rfl, (zab BK103.out 4).trans rfl⟩ (fun hHeld => ?_)
   generalize wc.drew = w52 at BK103 BK104 HB hHeld ⊢
   refine zpk 2 32 ?_
   refine ztk 0 30 hHeld ?_
   refine ztk 3 33 hHeld ?_
   refine one_ (i := 1) (N := some 31) #[true, true, true, true, false] rfl rfl zq27 (by decide) (fun K hK => ?_)
   refine zgo Tryz.func140 (zj5 kj29 ((zaa l0 a2).f0) ((zaa l0 a2).f1) ((zaa l0 a2).f2) ((zaa l0 a2).f3) ((zaa l0 a2).f4) t109 _ A35.out) ?_
   rintro e w53 ⟨v110, rfl, ho0, hb⟩
   refine ⟨_, rfl, ?_⟩
   have HO111 := zA (Kd.R_lower ho0 (zah (zq9 GE103 GE104)))
   replace BK103 := zA (zag (g := gb103) (o := .cells #[.string ((zaa l0 a1).f0), .int .i64 ((zaa l0 a1).f1), .int .i64 ((zaa l0 a1).f2), .int .i64 ((zaa l0 a1).f3), .int .i64 ((zaa l0 a1).f4)] 55 (0, 0)) (zq4 BK103) hb)
   replace BK104 := zA (zag (g := gb104) (o := .cells #[.string ((zaa l0 a2).f0), .int .i64 ((zaa l0 a2).f1), .int .i64 ((zaa l0 a2).f2), .int .i64 ((zaa l0 a2).f3), .int .i64 ((zaa l0 a2).f4)] 55 (0, 0)) (zq4 BK104) hb)
   replace HB := zA (zac (zq9 GE103 GE104) hb)
   (try clear hb)
   (try clear hb2)
   (try clear hk)
   (try clear hi)
   (try clear ho0)
   obtain ⟨Ao54, co54, eo54⟩ := Kd.R_slice HO111.out
   (first | subst eo54 | (injection eo54 with f1_ f2_ f3_; have f4_ := f1_.symm; have f5_ := f3_.symm; clear f1_ f2_ f3_; subst f4_; subst f5_))
   refine hK.out _ _ ⟨(zab BK104.out 0).trans rfl, (zab BK104.out 1).trans rfl, (zab BK104.out 2).trans rfl, (zab BK104.out 3).trans rfl, (zab BK104.out 4).trans rfl, (zab BK103.out 0).trans rfl, (zab BK103.out 1).trans rfl, (zab BK103.out 2).trans rfl, (zab BK103.out 3).trans rfl, (zab BK103.out 4).trans rfl⟩ (fun hHeld => ?_)
   clear hK K
   refine znm 31 ?_
   refine one_ (i := 4) (N := some 34) #[true, true, true, true, true] rfl rfl zq27 (by decide) (fun K hK => ?_)
   refine zqz Tryz.func65 zq27 rfl #[.slice Ao54 t109.length co54, .int .i64 ((zaa l0 a1).f1)] (by rfl) rfl rfl zq25 ?_
   with_reducible refine (zk6 kj29 _ _ t109 ((zaa l0 a1).f1) false _ ?side1 ?side2 A36.out).mono ?_
   (case side1 => repeat (first | exact (zRr HO111.out).2.2 | (with_reducible first | refine zCa ?_ _ | refine zCn ?_ _ | refine zCd ?_)))
   (case side2 => exact (zRr HO111.out).2.1)
   rintro e w' ⟨rfl, ⟨nd, rfl⟩⟩
   refine ⟨_, rfl, ?_⟩
   refine hK.out _ _ ⟨(zab BK104.out 0).trans rfl, (zab BK104.out 1).trans rfl, (zab BK104.out 2).trans rfl, (zab BK104.out 3).trans rfl, (zab BK104.out 4).trans rfl, (zab BK103.out 0).trans rfl, (zab BK103.out 1).trans rfl, (zab BK103.out 2).trans rfl, (zab BK103.out 3).trans rfl, (zab BK103.out 4).trans rfl⟩ (fun hHeld => ?_)
   clear hK K
   refine znm 34 ?_
   refine zou zq27 ?_
   (try (rw [zgn w53]; generalize hq_ : World.drewN w53 _ = w53; have n0_ := zA (Kd.R_at hq_ HO111.out); have n1_ := zA (zj1 hq_ BK103.out); have n2_ := zA (zj1 hq_ BK104.out); have n3_ := zA (zkw hq_ HB.out); clear hq_ HO111 BK103 BK104 HB; have HO111 := n0_; have BK103 := n1_; have BK104 := n2_; have HB := n3_; clear n0_ n1_ n2_ n3_))
   try go_wp2
   go_ret
   exact ⟨zq5, zq9 GE103 GE104⟩
 subst c37
 replace H := zih H
 have H' := zA H
 clear H
 try go_wp2
 replace BK103 := zA (zkd BK103.out)
 replace BK104 := zA (zkd BK104.out)
 replace HB := zA (zbd HB.out)
 refine zk4 (n := 5) (S := fun w' => w'.cell? ⟨gb104, 0, none⟩ = some (.string ((zaa l0 a2).f0)) ∧ w'.cell? ⟨gb104, 1, none⟩ = some (.int .i64 ((zaa l0 a2).f1)) ∧ w'.cell? ⟨gb104, 2, none⟩ = some (.int .i64 ((zaa l0 a2).f2)) ∧ w'.cell? ⟨gb104, 3, none⟩ = some (.int .i64 ((zaa l0 a2).f3)) ∧ w'.cell? ⟨gb104, 4, none⟩ = some (.int .i64 ((zaa l0 a2).f4)) ∧ w'.cell? ⟨gb103, 0, none⟩ = some (.string ((zaa l0 a1).f0)) ∧ w'.cell? ⟨gb103, 1, none⟩ = some (.int .i64 ((zaa l0 a1).f1)) ∧ w'.cell? ⟨gb103, 2, none⟩ = some (.int .i64 ((zaa l0 a1).f2)) ∧ w'.cell? ⟨gb103, 3, none⟩ = some (.int .i64 ((zaa l0 a1).f3)) ∧ w'.cell? ⟨gb103, 4, none⟩ = some (.int .i64 ((zaa l0 a1).f4))) (ds := []) #[false, false, false, false, false] zq27 rfl rfl ⟨(zab BK104.out 0).trans rfl, (zab BK104.out 1).trans rfl, (zab BK104.out 2).trans rfl, (zab BK104.out 3).trans rfl, (zab BK104.out 4).trans rfl, (zab BK103.out 0).trans rfl, (zab BK103.out 1).trans rfl, (zab BK103.out 2).trans rfl, (zab BK103.out 3).trans rfl, (zab BK103.out 4).trans rfl⟩ (fun hHeld => ?_)
 generalize wc.drew = w38 at BK103 BK104 HB hHeld ⊢
 refine zpk 2 32 ?_
 refine ztk 0 30 hHeld ?_
 refine ztk 3 33 hHeld ?_
 refine one_ (i := 1) (N := some 31) #[true, true, true, true, false] rfl rfl zq27 (by decide) (fun K hK => ?_)
 refine zgo Tryz.func140 (zj5 kj29 ((zaa l0 a2).f0) ((zaa l0 a2).f1) ((zaa l0 a2).f2) ((zaa l0 a2).f3) ((zaa l0 a2).f4) t109 _ A35.out) ?_
 rintro e w39 ⟨v110, rfl, ho0, hb⟩
 refine ⟨_, rfl, ?_⟩
 have HO111 := zA (Kd.R_lower ho0 (zah (zq9 GE103 GE104)))
 replace BK103 := zA (zag (g := gb103) (o := .cells #[.string ((zaa l0 a1).f0), .int .i64 ((zaa l0 a1).f1), .int .i64 ((zaa l0 a1).f2), .int .i64 ((zaa l0 a1).f3), .int .i64 ((zaa l0 a1).f4)] 55 (0, 0)) (zq4 BK103) hb)
 replace BK104 := zA (zag (g := gb104) (o := .cells #[.string ((zaa l0 a2).f0), .int .i64 ((zaa l0 a2).f1), .int .i64 ((zaa l0 a2).f2), .int .i64 ((zaa l0 a2).f3), .int .i64 ((zaa l0 a2).f4)] 55 (0, 0)) (zq4 BK104) hb)
 replace HB := zA (zac (zq9 GE103 GE104) hb)
 (try clear hb)
 (try clear hb2)
 (try clear hk)
 (try clear hi)
 (try clear ho0)
 obtain ⟨Ao40, co40, eo40⟩ := Kd.R_slice HO111.out
 (first | subst eo40 | (injection eo40 with f1_ f2_ f3_; have f4_ := f1_.symm; have f5_ := f3_.symm; clear f1_ f2_ f3_; subst f4_; subst f5_))
 refine hK.out _ _ ⟨(zab BK104.out 0).trans rfl, (zab BK104.out 1).trans rfl, (zab BK104.out 2).trans rfl, (zab BK104.out 3).trans rfl, (zab BK104.out 4).trans rfl, (zab BK103.out 0).trans rfl, (zab BK103.out 1).trans rfl, (zab BK103.out 2).trans rfl, (zab BK103.out 3).trans rfl, (zab BK103.out 4).trans rfl⟩ (fun hHeld => ?_)
 clear hK K
 refine znm 31 ?_
 refine one_ (i := 4) (N := some 34) #[true, true, true, true, true] rfl rfl zq27 (by decide) (fun K hK => ?_)
 refine zqz Tryz.func65 zq27 rfl #[.slice Ao40 t109.length co40, .int .i64 ((zaa l0 a1).f1)] (by rfl) rfl rfl zq25 ?_
 with_reducible refine (zk6 kj29 _ _ t109 ((zaa l0 a1).f1) true _ ?side1 ?side2 A36.out).mono ?_
 (case side1 => repeat (first | exact (zRr HO111.out).2.2 | (with_reducible first | refine zCa ?_ _ | refine zCn ?_ _ | refine zCd ?_)))
 (case side2 => exact (zRr HO111.out).2.1)
 rintro e w' ⟨rfl, ⟨nd, rfl⟩⟩
 refine ⟨_, rfl, ?_⟩
 refine hK.out _ _ ⟨(zab BK104.out 0).trans rfl, (zab BK104.out 1).trans rfl, (zab BK104.out 2).trans rfl, (zab BK104.out 3).trans rfl, (zab BK104.out 4).trans rfl, (zab BK103.out 0).trans rfl, (zab BK103.out 1).trans rfl, (zab BK103.out 2).trans rfl, (zab BK103.out 3).trans rfl, (zab BK103.out 4).trans rfl⟩ (fun hHeld => ?_)
 clear hK K
 refine znm 34 ?_
 refine zou zq27 ?_
 (try (rw [zgn w39]; generalize hq_ : World.drewN w39 _ = w39; have n0_ := zA (Kd.R_at hq_ HO111.out); have n1_ := zA (zj1 hq_ BK103.out); have n2_ := zA (zj1 hq_ BK104.out); have n3_ := zA (zkw hq_ HB.out); clear hq_ HO111 BK103 BK104 HB; have HO111 := n0_; have BK103 := n1_; have BK104 := n2_; have HB := n3_; clear n0_ n1_ n2_ n3_))
 try go_wp2
 go_loopg [10, 11] kj29 (fun kq v10 v11 w' => ∃ (x10_3 : Int) (x11_3 : Int), v10 = .int .i64 x10_3 ∧ v11 = .int .i64 x11_3 ∧ Aside0 (zdj kq l0 a1 a2 x9_29 x10_3 x11_3 ((zaa l0 a1).f0) ((zaa l0 a1).f1) ((zaa l0 a1).f2) ((zaa l0 a1).f3) ((zaa l0 a1).f4) = some r) ∧ Aside0 (kq ≤ kj29) ∧ Aside0 (w'.heap[gb103]? = some (.cells #[.string ((zaa l0 a1).f0), .int .i64 ((zaa l0 a1).f1), .int .i64 ((zaa l0 a1).f2), .int .i64 ((zaa l0 a1).f3), .int .i64 ((zaa l0 a1).f4)] 55 (0, 0))) ∧ Aside0 (w'.heap[gb104]? = some (.cells #[.string ((zaa l0 a2).f0), .int .i64 ((zaa l0 a2).f1), .int .i64 ((zaa l0 a2).f2), .int .i64 ((zaa l0 a2).f3), .int .i64 ((zaa l0 a2).f4)] 55 (0, 0))) ∧ Aside0 (Below w.heap.size w w'))
 case atStart => exact ⟨(a1), (wrap64 (a1 + 1)), zq8, zq8, H', ⟨zlr _⟩, ⟨zq4 BK103⟩, ⟨zq4 BK104⟩, ⟨zq9 GE103 GE104⟩⟩
 clear H'
 obtain ⟨x10_3, x11_3, rfl, rfl, HA, HK3, BK103, BK104, HB⟩ := hrel
 cases gk with
 | zero => exact absurd HA.out (by simp [zdj])
 | succ k3 =>
 have H := HA.out
 clear HA
 simp only [zdj] at H
 revert H
 refine zit (fun c41 H => ?_) fun c41 H => ?_
 rotate_left
 · by_cases c47 : x10_3 = a1
   rotate_left
   · rw [if_neg c47] at H
     obtain ⟨c47b0, c47b1⟩ := zbq c47
     obtain rfl := zsi H
     go_wp2
     go_ret
     exact ⟨zq5, zq9 GE103 GE104⟩
   rw [if_pos c47] at H
   obtain ⟨c47b0, c47b1⟩ := zbe c47
   clear c47
   replace H := zob H
   obtain ⟨t114, A480, H⟩ := H
   have A48 := zA A480
   clear A480
   replace H := zob H
   obtain ⟨t115, A490, H⟩ := H
   have A49 := zA A490
   clear A490
   obtain rfl := zsi H
   have hnb50 := NB103_104.out
   have hnc50 := NB104_103.out
   obtain ⟨hcz51_0, hcz51_1, hcz51_2, hcz51_3, hcz51_4⟩ := zc5 wr (.string ((zaa l0 a1).f0)) (.int .i64 ((zaa l0 a1).f1)) (.int .i64 ((zaa l0 a1).f2)) (.int .i64 ((zaa l0 a1).f3)) (.int .i64 ((zaa l0 a1).f4)) BK103.out
   obtain ⟨hfz51_0, hfz51_1, hfz51_2, hfz51_3, hfz51_4⟩ := zf5 BK103.out
   go_wp2_with (first | ((with_reducible refine zgc 100 ?_); refine zcl 58 Tryz.func100 (zfz ((zaa l0 a1).f0) t114 _ A48.out) ?_; rintro e w' ⟨rfl, ⟨nd, rfl⟩⟩; refine ⟨_, rfl, ?_⟩) | ((with_reducible refine zgc 103 ?_); refine zcl 59 Tryz.func103 (zdz x9_29 t114 t115 _ A49.out) ?_; rintro e w' ⟨rfl, ⟨nd, rfl⟩⟩; refine ⟨_, rfl, ?_⟩))
   go_ret
   exact ⟨zq5, zq9 GE103 GE104⟩
 revert H
 refine zin fun c42 H => ?_
 revert H
 refine zin fun c43 H => ?_
 by_cases c44 : ((zaa l0 x11_3).f1) = ((zaa l0 a1).f1)
 rotate_left
 · rw [if_neg c44] at H
   obtain ⟨c44b0, c44b1⟩ := zbq c44
   have H' := zA H
   clear H
   try go_wp2
   replace BK103 := zA (zkd BK103.out)
   replace BK104 := zA (zkd BK104.out)
   replace HB := zA (zbd HB.out)
   obtain ⟨p113, q113⟩ := zpq x11_3 l0.length
   obtain ⟨ad113, e113, hx113_0, hx113_1, hx113_2, hx113_3, hx113_4⟩ := zi7 HR0.out x11_3 (zoe p113) (zoe q113)
   have hw113_4 := hx113_4
   have hw113_3 := hx113_3
   have hw113_2 := hx113_2
   have hw113_1 := hx113_1
   have hw113_0 := hx113_0
   obtain rfl : ad101 = ad113 := (by injection e113)
   replace hx113_0 := zkep HB.out hx113_0
   replace hx113_1 := zkep HB.out hx113_1
   replace hx113_2 := zkep HB.out hx113_2
   replace hx113_3 := zkep HB.out hx113_3
   replace hx113_4 := zkep HB.out hx113_4
   refine zk4 (n := 8) (S := fun w' => w'.cell? ⟨gb103, 0, none⟩ = some (.string ((zaa l0 a1).f0)) ∧ w'.cell? ⟨gb103, 1, none⟩ = some (.int .i64 ((zaa l0 a1).f1)) ∧ w'.cell? ⟨gb103, 2, none⟩ = some (.int .i64 ((zaa l0 a1).f2)) ∧ w'.cell? ⟨gb103, 3, none⟩ = some (.int .i64 ((zaa l0 a1).f3)) ∧ w'.cell? ⟨gb103, 4, none⟩ = some (.int .i64 ((zaa l0 a1).f4)) ∧ w'.cell? (ad101.add ((x11_3).toNat * 5)) = some (.string ((zaa l0 x11_3).f0)) ∧ w'.cell? ⟨(ad101.add ((x11_3).toNat * 5)).block, (ad101.add ((x11_3).toNat * 5)).off + 1, none⟩ = some (.int .i64 ((zaa l0 x11_3).f1)) ∧ w'.cell? ⟨(ad101.add ((x11_3).toNat * 5)).block, (ad101.add ((x11_3).toNat * 5)).off + 2, none⟩ = some (.int .i64 ((zaa l0 x11_3).f2)) ∧ w'.cell? ⟨(ad101.add ((x11_3).toNat * 5)).block, (ad101.add ((x11_3).toNat * 5)).off + 3, none⟩ = some (.int .i64 ((zaa l0 x11_3).f3)) ∧ w'.cell? ⟨(ad101.add ((x11_3).toNat * 5)).block, (ad101.add ((x11_3).toNat * 5)).off + 4, none⟩ = some (.int .i64 ((zaa l0 x11_3).f4))) (ds := []) #[false, false, false, false, false, false, false, false] zq27 rfl rfl ⟨(zab BK103.out 0).trans rfl, (zab BK103.out 1).trans rfl, (zab BK103.out 2).trans rfl, (zab BK103.out 3).trans rfl, (zab BK103.out 4).trans rfl, (zkep HB.out hw113_0), (zkep HB.out hw113_1), (zkep HB.out hw113_2), (zkep HB.out hw113_3), (zkep HB.out hw113_4)⟩ (fun hHeld => ?_); refine zia zmm zl4 (fun HT_ HW_ => ?_)
   generalize wr.drew = w46 at BK103 BK104 HB hx113_0 hx113_1 hx113_2 hx113_3 hx113_4 hHeld ⊢
   refine zpu 0 43 HT_ ?_
   refine zpu 1 44 HT_ ?_
   refine zpu 2 45 HT_ ?_
   refine zpu 3 46 HT_ ?_
   refine zpu 5 48 HT_ ?_
   refine ztu 4 47 HT_ HW_ hHeld ?_
   refine ztu 6 49 HT_ HW_ hHeld ?_
   refine zpu 7 50 HT_ ?_
   refine zou (zlc HT_.out zq27) ?_
   try go_wp2
   go_roundg k3
   case measure => have := HJ9.out; have := HJ29.out; have := HK3.out; omega
   case rel => exact ⟨(x10_3), (wrap64 (x11_3 + 1)), zq8, zq8, H', ⟨zq42 HJ9 HJ29 HK3⟩, ⟨zq4 BK103⟩, ⟨zq4 BK104⟩, ⟨zq9 GE103 GE104⟩⟩
 rw [if_pos c44] at H
 obtain ⟨c44b0, c44b1⟩ := zbe c44
 clear c44
 have H' := zA H
 clear H
 try go_wp2
 replace BK103 := zA (zkd BK103.out)
 replace BK104 := zA (zkd BK104.out)
 replace HB := zA (zbd HB.out)
 obtain ⟨p113, q113⟩ := zpq x11_3 l0.length
 obtain ⟨ad113, e113, hx113_0, hx113_1, hx113_2, hx113_3, hx113_4⟩ := zi7 HR0.out x11_3 (zoe p113) (zoe q113)
 have hw113_4 := hx113_4
 have hw113_3 := hx113_3
 have hw113_2 := hx113_2
 have hw113_1 := hx113_1
 have hw113_0 := hx113_0
 obtain rfl : ad101 = ad113 := (by injection e113)
 replace hx113_0 := zkep HB.out hx113_0
 replace hx113_1 := zkep HB.out hx113_1
 replace hx113_2 := zkep HB.out hx113_2
 replace hx113_3 := zkep HB.out hx113_3
 replace hx113_4 := zkep HB.out hx113_4
 refine zk4 (n := 8) (S := fun w' => w'.cell? ⟨gb103, 0, none⟩ = some (.string ((zaa l0 a1).f0)) ∧ w'.cell? ⟨gb103, 1, none⟩ = some (.int .i64 ((zaa l0 a1).f1)) ∧ w'.cell? ⟨gb103, 2, none⟩ = some (.int .i64 ((zaa l0 a1).f2)) ∧ w'.cell? ⟨gb103, 3, none⟩ = some (.int .i64 ((zaa l0 a1).f3)) ∧ w'.cell? ⟨gb103, 4, none⟩ = some (.int .i64 ((zaa l0 a1).f4)) ∧ w'.cell? (ad101.add ((x11_3).toNat * 5)) = some (.string ((zaa l0 x11_3).f0)) ∧ w'.cell? ⟨(ad101.add ((x11_3).toNat * 5)).block, (ad101.add ((x11_3).toNat * 5)).off + 1, none⟩ = some (.int .i64 ((zaa l0 x11_3).f1)) ∧ w'.cell? ⟨(ad101.add ((x11_3).toNat * 5)).block, (ad101.add ((x11_3).toNat * 5)).off + 2, none⟩ = some (.int .i64 ((zaa l0 x11_3).f2)) ∧ w'.cell? ⟨(ad101.add ((x11_3).toNat * 5)).block, (ad101.add ((x11_3).toNat * 5)).off + 3, none⟩ = some (.int .i64 ((zaa l0 x11_3).f3)) ∧ w'.cell? ⟨(ad101.add ((x11_3).toNat * 5)).block, (ad101.add ((x11_3).toNat * 5)).off + 4, none⟩ = some (.int .i64 ((zaa l0 x11_3).f4))) (ds := []) #[false, false, false, false, false, false, false, false] zq27 rfl rfl ⟨(zab BK103.out 0).trans rfl, (zab BK103.out 1).trans rfl, (zab BK103.out 2).trans rfl, (zab BK103.out 3).trans rfl, (zab BK103.out 4).trans rfl, (zkep HB.out hw113_0), (zkep HB.out hw113_1), (zkep HB.out hw113_2), (zkep HB.out hw113_3), (zkep HB.out hw113_4)⟩ (fun hHeld => ?_); refine zia zmm zl4 (fun HT_ HW_ => ?_)
 generalize wr.drew = w45 at BK103 BK104 HB hx113_0 hx113_1 hx113_2 hx113_3 hx113_4 hHeld ⊢
 refine zpu 0 43 HT_ ?_
 refine zpu 1 44 HT_ ?_
 refine zpu 2 45 HT_ ?_
 refine zpu 3 46 HT_ ?_
 refine zpu 5 48 HT_ ?_
 refine ztu 4 47 HT_ HW_ hHeld ?_
 refine ztu 6 49 HT_ HW_ hHeld ?_
 refine zpu 7 50 HT_ ?_
 refine zou (zlc HT_.out zq27) ?_
 try go_wp2
 go_roundg k3
 case measure => have := HJ9.out; have := HJ29.out; have := HK3.out; omega
 case rel => exact ⟨(x11_3), (wrap64 (x11_3 + 1)), zq8, zq8, H', ⟨zq42 HJ9 HJ29 HK3⟩, ⟨zq4 BK103⟩, ⟨zq4 BK104⟩, ⟨zq9 GE103 GE104⟩⟩
mutual
def zcz : Nat → List (S55) → List (List Int) → Int → Int → Option ((List (List Int)))
 | 0, _, _, _, _ => none
 | k + 1, x0, x3, x9, x10 => if x10 < x9 then (zc0 k x0 x3 x10 ([] : List Int) x9 x10 (x0.length : Int) 0) else (some x3)
def zc0 : Nat → List (S55) → List (List Int) → Int → List Int → Int → Int → Int → Int → Option ((List (List Int)))
 | 0, _, _, _, _, _, _, _, _ => none
 | k + 1, x0, x3, x4, x5, x9, x10, x14, x15 => if x15 < x14 then (if x4 < x15 then ((zg2 k x0 x4 x15).bind fun t101 => (if x5.length < 17592186044416 then (zc0 k x0 x3 x4 (x5 ++ [t101]) x9 x10 x14 (wrap64 (x15 + 1))) else (none))) else (if x5.length < 17592186044416 then (zc0 k x0 x3 x4 (x5 ++ [(-1)]) x9 x10 x14 (wrap64 (x15 + 1))) else (none))) else (if x3.length < 5864062014805 then (zcz k x0 (x3 ++ [x5]) x9 (wrap64 (x10 + 1))) else (none))
end
def ze1 (k : Nat) (l0 : List (S55)) : Option ((List (List Int))) := zcz k l0 ([] : List (List Int)) (l0.length : Int) 0
theorem zlh : ∀ k, (∀ y0 y1 y2 y3, LeO (zcz k y0 y1 y2 y3) (zcz (k + 1) y0 y1 y2 y3)) ∧ (∀ y0 y1 y2 y3 y4 y5 y6 y7, LeO (zc0 k y0 y1 y2 y3 y4 y5 y6 y7) (zc0 (k + 1) y0 y1 y2 y3 y4 y5 y6 y7))
 | 0 => ⟨fun _ _ _ _ r h => by simp [zcz] at h, fun _ _ _ _ _ _ _ _ r h => by simp [zc0] at h⟩
 | k + 1 => by
   obtain ⟨ih0, ih1⟩ := zlh k
   refine ⟨?_, ?_⟩
   · intro y0 y1 y2 y3
     unfold zcz
     exact zm3 ih0 ih1 zkr
   · intro y0 y1 y2 y3 y4 y5 y6 y7
     unfold zc0
     exact zm3 ih0 ih1 zkr
theorem zct : ∀ a0 k, LeO (ze1 k a0) (ze1 (k + 1) a0) := by
 intro a0 k
 obtain ⟨ih0, ih1⟩ := zlh k
 unfold ze1
 exact zm3 ih0 ih1 zkr
theorem zh1 (k : Nat) (A0 : Option Addr) (c0 : Nat) (l0 : List (S55)) (r : List (List Int)) (w : World) (hr0 : Kd.C k55 w A0 l0.length l0) (hc0 : l0.length ≤ c0) (h : ze1 k l0 = some r) :
   Calls Tryz.prog 62 #[.slice A0 l0.length c0] w fun e w' => ∃ v0_ : Value, e = .returned (v0_) ∧ Kd.S (Kd.slice 3 (Kd.int .i64)) 25 w' w.heap.size (fun _ => True) v0_ r ∧ Below w.heap.size w w' := by
 have HR0 := zA hr0
 have HC0 := zA hc0
 clear hr0 hc0
 have HB := zA (Below.refl w.heap.size w)
 have H := h
 unfold ze1 at H
 clear h
 have H' := zA H
 clear H
 go_enter Tryz.func62, Tryz.ntmps62
 go_wp2
 go_loopg [3, 10] k (fun kq v3 v10 w' => ∃ (x3_1 : List (List Int)) (x10_1 : Int), v10 = .int .i64 x10_1 ∧ Aside0 (zcz kq l0 x3_1 (l0.length : Int) x10_1 = some r) ∧ Aside0 (kq ≤ k) ∧ Aside0 (Kd.S (Kd.slice 3 (Kd.int .i64)) 25 w' w.heap.size (fun _ => True) v3 x3_1) ∧ Aside0 (Below w.heap.size w w'))
 case atStart => exact ⟨(([] : List (List Int))), (0), zq8, H', ⟨zlr _⟩, ⟨by first | exact Kd.S_nil _ _ _ _ _ | exact Kd.N_nil _ _ _ _ _ | exact Kd.V_nil _ _ _ _ _ | exact Kd.Q_nil _ _ _ _ _ | exact Kd.R_nil _ _ _ _ _⟩, ⟨zq1⟩⟩
 clear H'
 obtain ⟨x3_1, x10_1, rfl, HA, HK1, HO_3, HB⟩ := hrel
 cases gk with
 | zero => exact absurd HA.out (by simp [zcz])
 | succ k1 =>
 have H := HA.out
 clear HA
 simp only [zcz] at H
 revert H
 refine zit (fun c2 H => ?_) fun c2 H => ?_
 rotate_left
 · obtain rfl := zsi H
   go_wp2
   go_ret
   exact ⟨_, zq5, zq16 HO_3, zq1⟩
 have H' := zA H
 clear H
 go_wp2
 go_loopg [5, 15] k1 (fun kq v5 v15 w' => ∃ (x5_2 : List Int) (x15_2 : Int), v15 = .int .i64 x15_2 ∧ Aside0 (zc0 kq l0 x3_1 x10_1 x5_2 (l0.length : Int) x10_1 (l0.length : Int) x15_2 = some r) ∧ Aside0 (kq ≤ k1) ∧ Aside0 (Kd.S (Kd.slice 3 (Kd.int .i64)) 25 w' w.heap.size (fun k_ => some k_ ≠ (v5 : Value).ownBlock) u3 x3_1) ∧ Aside0 (Kd.R (Kd.int .i64) 3 w' w.heap.size (fun _ => True) v5 x5_2) ∧ Aside0 (Below w.heap.size w w'))
 case atStart => exact ⟨(([] : List Int)), (0), zq8, H', ⟨zlr _⟩, ⟨by (with_reducible repeat (first | apply zSa | apply zSn | apply zSd)); exact Kd.S_mono HO_3.out (fun _ hk => (by simp [Value.ownBlock]))⟩, ⟨zq24⟩, ⟨zq1⟩⟩
 clear H'
 obtain ⟨x5_2, x15_2, rfl, HA, HK2, HO_3, HO_5, HB⟩ := hrel
 cases gk with
 | zero => exact absurd HA.out (by simp [zc0])
 | succ k2 =>
 have H := HA.out
 clear HA
 simp only [zc0] at H
 revert H
 refine zit (fun c3 H => ?_) fun c3 H => ?_
 rotate_left
 · by_cases c11 : x3_1.length < 5864062014805
   rotate_left
   · rw [if_neg c11] at H
     exact absurd H (by simp)
   rw [if_pos c11] at H
   have LMc11 := zA c11
   clear c11
   obtain ⟨y108, hy108⟩ : ∃ y_ : List (List Int), y_ = (x3_1 ++ [x5_2]) := ⟨_, rfl⟩
   rw [← hy108] at H; try with_reducible replace H := zbs H
   have Ny108 := zA hy108
   clear hy108
   have H' := zA H
   clear H
   obtain ⟨Ao13, co13, eo13⟩ := Kd.R_slice HO_5.out
   subst eo13
   go_wp2_with (first | ((with_reducible refine zc7 (b := .append) (xs := #[.tmp 30, .tmp 32]) rfl ?_); at_builtin; refine Kd.S_append (Kd.slice 3 (Kd.int .i64)) (w0 := w) w.heap.size rfl (.tmp 30) (.tmp 32) 36 25 (.slice none 0 0) 24 rfl Tryz.underlying36 ybb rfl (by decide) (by omega) u3 x3_1 x5_2 [.slice Ao13 x5_2.length co13] (fun _ => True) (fun k_ => some k_ = (.slice Ao13 x5_2.length co13 : Value).ownBlock) rfl rfl ?aP (fun k_ hk_ => ((Kd.R_mono (ok' := fun k_ => ((fun _ => True)) k_ ∧ some k_ ≠ (u3 : Value).ownBlock) (Kd.R_apart' (HO_5.out) (Kd.S_typed HO_3.out) (by decide)) (fun k_ hk => ⟨trivial, hk.2⟩))).1 k_ hk_.symm) ?aF ?aO ?aB ?aS ?aL ?_; (case aP => exact Kd.M_row (Kd.R_mono (Kd.R_tight rfl (Kd.R_mono (ok' := fun k_ => ((fun _ => True)) k_ ∧ some k_ ≠ (u3 : Value).ownBlock) (Kd.R_apart' (HO_5.out) (Kd.S_typed HO_3.out) (by decide)) (fun k_ hk => ⟨trivial, hk.2⟩))) (fun _ h_ => h_))); (case aB => exact zq1); (case aF => exact (fun _ _ => trivial)); (case aO => exact (by (with_reducible repeat (first | apply zSa | apply zSn | apply zSd)); exact Kd.S_mono HO_3.out (fun k_ hk => ⟨trivial, fun e_ => hk e_⟩))); (case aS => exact (zah zq1)); (case aL => have := LMc11.out; omega); intro v109 w12 ho hb hg hat; rw [← Ny108.out] at ho; replace HB := zA (hb); have HO110 := zA (ho); clear HO_3 HO_5; clear ho hb hg hat))
   go_roundg k2
   case measure => have := HK1.out; have := HK2.out; omega
   case rel => exact ⟨(y108), (wrap64 (x10_1 + 1)), zq8, H', ⟨zq48 HK1 HK2⟩, ⟨zq16 HO110⟩, ⟨zq1⟩⟩
 revert H
 refine zit (fun c4 H => ?_) fun c4 H => ?_
 rotate_left
 · by_cases c9 : x5_2.length < 17592186044416
   rotate_left
   · rw [if_neg c9] at H
     exact absurd H (by simp)
   rw [if_pos c9] at H
   have LMc9 := zA c9
   clear c9
   obtain ⟨y105, hy105⟩ : ∃ y_ : List Int, y_ = (x5_2 ++ [(-1)]) := ⟨_, rfl⟩
   rw [← hy105] at H; try with_reducible replace H := zbs H
   have Ny105 := zA hy105
   clear hy105
   have H' := zA H
   clear H
   go_wp2_with (first | ((with_reducible refine zc7 (b := .append) (xs := #[.tmp 25, .tmp 27]) rfl ?_); at_builtin; refine Kd.R_append (Kd.int .i64) (w0 := w) w.heap.size rfl (.tmp 25) (.tmp 27) 25 3 (.int .i64 0) 8 rfl Tryz.underlying25 zkf rfl (by decide) (by omega) u5 x5_2 (-1) [.int .i64 (-1)] (fun _ => True) (fun _ => False) rfl rfl ?aP (fun _ hk => hk.elim) ?aF ?aO ?aB ?aS ?aL ?_; (case aP => exact rfl); (case aB => exact zq1); (case aF => exact (fun _ _ => trivial)); (case aO => exact (zq2 HO_5)); (case aS => exact (zah zq1)); (case aL => have := LMc9.out; omega); intro v106 w10 ho hb hg hat; rw [← Ny105.out] at ho; replace HO_3 := zA (Kd.S_after (ok := (fun _ => True)) (zq50 HO_3) hg hat); replace HB := zA (hb); have HO107 := zA (ho); clear HO_5; clear ho hb hg hat))
   go_roundg k2
   case measure => have := HK1.out; have := HK2.out; omega
   case rel => exact ⟨(y105), (wrap64 (x15_2 + 1)), zq8, H', ⟨zq48 HK1 HK2⟩, ⟨zq34 HO_3⟩, ⟨zq2 HO107⟩, ⟨zq1⟩⟩
 replace H := zob H
 obtain ⟨t101, A50, H⟩ := H
 have A5 := zA A50
 clear A50
 by_cases c6 : x5_2.length < 17592186044416
 rotate_left
 · rw [if_neg c6] at H
   exact absurd H (by simp)
 rw [if_pos c6] at H
 have LMc6 := zA c6
 clear c6
 obtain ⟨y102, hy102⟩ : ∃ y_ : List Int, y_ = (x5_2 ++ [t101]) := ⟨_, rfl⟩
 rw [← hy102] at H; try with_reducible replace H := zbs H
 have Ny102 := zA hy102
 clear hy102
 have H' := zA H
 clear H
 go_wp2_with (first | ((with_reducible refine zgc 117 ?_); refine zca 24 Tryz.func117 #[.slice A0 l0.length c0, .int .i64 x10_1, .int .i64 x15_2] (zp5 k2 _ _ l0 x10_1 x15_2 t101 _ (zq15 HR0) HC0.out A5.out) ?_; rintro e w7 ⟨rfl, hb⟩; refine ⟨_, rfl, ?_⟩; replace HO_3 := zA (Kd.S_below (zq16 HO_3) hb); replace HO_5 := zA (zRb (zq2 HO_5) hb); replace HB := zA (zac zq1 hb); (try clear hb)) | ((with_reducible refine zc7 (b := .append) (xs := #[.tmp 25, .tmp 27]) rfl ?_); at_builtin; refine Kd.R_append (Kd.int .i64) (w0 := w) w.heap.size rfl (.tmp 25) (.tmp 27) 25 3 (.int .i64 0) 8 rfl Tryz.underlying25 zkf rfl (by decide) (by omega) u5 x5_2 t101 [.int .i64 t101] (fun _ => True) (fun _ => False) rfl rfl ?aP (fun _ hk => hk.elim) ?aF ?aO ?aB ?aS ?aL ?_; (case aP => exact rfl); (case aB => exact zq1); (case aF => exact (fun _ _ => trivial)); (case aO => exact (zq2 HO_5)); (case aS => exact (zah zq1)); (case aL => have := LMc6.out; omega); intro v103 w8 ho hb hg hat; rw [← Ny102.out] at ho; replace HO_3 := zA (Kd.S_after (ok := (fun _ => True)) (zq50 HO_3) hg hat); replace HB := zA (hb); have HO104 := zA (ho); clear HO_5; clear ho hb hg hat))
 go_roundg k2
 case measure => have := HK1.out; have := HK2.out; omega
 case rel => exact ⟨(y102), (wrap64 (x15_2 + 1)), zq8, H', ⟨zq48 HK1 HK2⟩, ⟨zq34 HO_3⟩, ⟨zq2 HO104⟩, ⟨zq1⟩⟩
mutual
def zch : Nat → List (List Int) → List Int → Int → Int → Option (List Int)
 | 0, _, _, _, _ => none
 | k + 1, x3, x4, x13, x14 => if x14 < x13 then (zci k x3 x4 x14 0 x13 x14) else (some x4)
def zci : Nat → List (List Int) → List Int → Int → Int → Int → Int → Option (List Int)
 | 0, _, _, _, _, _, _ => none
 | k + 1, x3, x4, x5, x6, x13, x14 => if x6 < x5 then (if 0 ≤ x6 then (if x6 < (x3.length : Int) then (if 0 ≤ x5 then (if x5 < ((za1 x3 x6).length : Int) then (if (rd (za1 x3 x6) x5) ≥ 0 then (if x5 < (x4.length : Int) then (if x6 < (x4.length : Int) then ((zdb (rd x4 x5) (wrap64 ((rd x4 x6) + (rd (za1 x3 x6) x5)))).bind fun t113 => (zci k x3 (x4.set (x5 : Int).toNat t113) x5 (wrap64 (x6 + 1)) x13 x14)) else (none)) else (none)) else (zci k x3 x4 x5 (wrap64 (x6 + 1)) x13 x14)) else (none)) else (none)) else (none)) else (none)) else (zch k x3 x4 x13 (wrap64 (x14 + 1)))
end
def zet (k : Nat) (l0 : List (S55)) : Option (List Int) := (ze1 k l0).bind fun t101 => (if 0 ≤ (l0.length : Int) then (if ((l0.length : Int) : Int).toNat ≤ 35184372088832 then (zch k t101 (List.replicate ((l0.length : Int) : Int).toNat 0) (l0.length : Int) 0) else (none)) else (none))
theorem zkk : ∀ k, (∀ y0 y1 y2 y3, LeO (zch k y0 y1 y2 y3) (zch (k + 1) y0 y1 y2 y3)) ∧ (∀ y0 y1 y2 y3 y4 y5, LeO (zci k y0 y1 y2 y3 y4 y5) (zci (k + 1) y0 y1 y2 y3 y4 y5))
 | 0 => ⟨fun _ _ _ _ r h => by simp [zch] at h, fun _ _ _ _ _ _ r h => by simp [zci] at h⟩
 | k + 1 => by
   obtain ⟨ih0, ih1⟩ := zkk k
   refine ⟨?_, ?_⟩
   · intro y0 y1 y2 y3
     unfold zch
     exact zm3 ih0 ih1 zct
   · intro y0 y1 y2 y3 y4 y5
     unfold zci
     exact zm3 ih0 ih1 zct
theorem zho : ∀ a0 k, LeO (zet k a0) (zet (k + 1) a0) := by
 intro a0 k
 obtain ⟨ih0, ih1⟩ := zkk k
 unfold zet
 exact zm3 ih0 ih1 zct
def spec_orEarliest.T10 : Bool × List (List Nat × List Nat) := (true, [([], []), ([], []), ([], []), ([], []), ([2, 3], [2, 3]), ([4], [4]), ([], []), ([], []), ([6, 7], [6, 7]), ([8], [8]), ([], []), ([], []), ([10, 11], [10, 11]), ([12], [12]), ([], []), ([13, 14], [13, 14]), ([15], [15]), ([9, 16], [9, 16]), ([5, 17], [5, 17]), ([0, 1, 0, 1, 2, 3, 4, 5, 6, 7, 8, 9, 10, 11, 12, 13, 14, 15, 16, 17, 18], [0, 1]), ([19, 18, 18, 0, 1, 2, 3, 4, 5, 6, 7, 8, 9, 10, 11, 12, 13, 14, 15, 16, 17, 18], [18, 19])])
def zpm : List Nat := [0, 0, 0, 0, 12, 28, 0, 0, 192, 448, 0, 0, 3072, 7168, 0, 31744, 64512, 131008, 262140, 524287, 1048575]
theorem zom : rtab .any (zuf Tryz.f102 10) = spec_orEarliest.T10 := by kernel_rfl
theorem zof : zke spec_orEarliest.T10.2 zpm = true := by kernel_rfl
theorem zk0 (k : Nat) (A0 : Option Addr) (c0 : Nat) (l0 : List (S55)) (r : List Int) (w : World) (hr0 : Kd.C k55 w A0 l0.length l0) (hc0 : l0.length ≤ c0) (h : zet k l0 = some r) :
   Calls Tryz.prog 102 #[.slice A0 l0.length c0] w fun e w' => ∃ v0_ : Value, e = .returned (v0_) ∧ Kd.R (Kd.int .i64) 3 w' w.heap.size (fun _ => True) v0_ r ∧ Below w.heap.size w w' := by
 have HR0 := zA hr0
 have HC0 := zA hc0
 clear hr0 hc0
 have HB := zA (Below.refl w.heap.size w)
 have H := h
 unfold zet at H
 clear h
 replace H := zob H
 obtain ⟨t101, A20, H⟩ := H
 have A2 := zA A20
 clear A20
 by_cases c3 : 0 ≤ (l0.length : Int)
 rotate_left
 · rw [if_neg c3] at H
   exact absurd H (by simp)
 rw [if_pos c3] at H
 have c3b0 := eq_true c3
 have c3b1 := zdt c3
 clear c3
 by_cases c4 : ((l0.length : Int) : Int).toNat ≤ 35184372088832
 rotate_left
 · rw [if_neg c4] at H
   exact absurd H (by simp)
 rw [if_pos c4] at H
 have c4b0 := eq_true c4
 have c4b1 := zdt c4
 clear c4
 obtain ⟨y104, hy104⟩ : ∃ y_ : List Int, y_ = (List.replicate ((l0.length : Int) : Int).toNat 0) := ⟨_, rfl⟩
 rw [← hy104] at H; try with_reducible replace H := zbs H
 have Ny104 := zA hy104
 clear hy104
 have H' := zA H
 clear H
 go_enter Tryz.func102, Tryz.ntmps102
 go_wp2_with (first | ((with_reducible refine zgc 62 ?_); refine zca 8 Tryz.func62 #[.slice A0 l0.length c0] (zh1 k _ _ l0 t101 _ (zq17 HR0) HC0.out A2.out) ?_; rintro e w5 ⟨v102, rfl, ho0, hb⟩; refine ⟨_, rfl, ?_⟩; have HO103 := zA (Kd.S_lower ho0 (zah zq1)); replace HB := zA (zac zq1 hb); (try clear hb); (try clear ho0)) | ((with_reducible refine zgd 11 ?_); refine Kd.R_make (Kd.int .i64) _ 3 rfl (N := 11) rfl 25 _ _ rfl (l0.length : Int) rfl rfl Tryz.underlying25 (.int .i64 0) 8 zkf rfl (by decide) (by omega) 0 (ok := fun _ => True) (okp := fun _ => True) rfl (fun _ hk => hk) trivial (zde zq21) (Nat.le_trans (Nat.mul_le_mul_right _ (zde zq21 : (l0.length : Int).toNat ≤ 35184372088832)) (by omega)) (Below.refl _ _) (zlr _) ?_; intro v105 w6 ho7 hb hg_ hnew_; clear hg_ hnew_; (first | rw [← Ny104.out] at ho7 | (simp only [Int.reduceToNat] at ho7; rw [← Ny104.out] at ho7)); replace HO103 := zA (Kd.S_elder' (zq16 HO103) (Kd.R_base ho7) hb); have HO106 := zA (Kd.R_lower ho7 (zah zq1)); replace HB := zA (zac zq1 hb); clear hb ho7))
 go_loopg [14] k (fun kq v14 w' => ∃ (x4_1 : List Int) (x14_1 : Int), v14 = .int .i64 x14_1 ∧ Aside0 (zch kq t101 x4_1 (l0.length : Int) x14_1 = some r) ∧ Aside0 (kq ≤ k) ∧ Aside0 (Kd.S (Kd.slice 3 (Kd.int .i64)) 25 w' w.heap.size (fun k_ => some k_ ≠ (v105 : Value).ownBlock) v102 t101) ∧ Aside0 (Kd.R (Kd.int .i64) 3 w' w.heap.size (fun _ => True) v105 x4_1) ∧ Aside0 (Below w.heap.size w w'))
 case atStart => exact ⟨(y104), (0), zq8, H', ⟨zlr _⟩, ⟨zq34 HO103⟩, ⟨zq2 HO106⟩, ⟨zq1⟩⟩
 clear H'
 obtain ⟨x4_1, x14_1, rfl, HA, HK1, HO_3, HO_4, HB⟩ := hrel
 cases gk with
 | zero => exact absurd HA.out (by simp [zch])
 | succ k1 =>
 have H := HA.out
 clear HA
 simp only [zch] at H
 revert H
 refine zit (fun c8 H => ?_) fun c8 H => ?_
 rotate_left
 · obtain rfl := zsi H
   go_wp2
   go_ret
   exact ⟨_, zq5, zq2 HO_4, zq1⟩
 have H' := zA H
 clear H
 go_wp2
 go_loopg [6] k1 (fun kq v6 w' => ∃ (x4_2 : List Int) (x6_2 : Int), v6 = .int .i64 x6_2 ∧ Aside0 (zci kq t101 x4_2 x14_1 x6_2 (l0.length : Int) x14_1 = some r) ∧ Aside0 (kq ≤ k1) ∧ Aside0 (Kd.S (Kd.slice 3 (Kd.int .i64)) 25 w' w.heap.size (fun k_ => some k_ ≠ (v105 : Value).ownBlock) v102 t101) ∧ Aside0 (Kd.R (Kd.int .i64) 3 w' w.heap.size (fun _ => True) v105 x4_2) ∧ Aside0 (Below w.heap.size w w'))
 case atStart => exact ⟨(x4_1), (0), zq8, H', ⟨zlr _⟩, ⟨zq16 HO_3⟩, ⟨zq2 HO_4⟩, ⟨zq1⟩⟩
 clear H'
 obtain ⟨x4_2, x6_2, rfl, HA, HK2, HO_3, HO_4, HB⟩ := hrel
 cases gk with
 | zero => exact absurd HA.out (by simp [zci])
 | succ k2 =>
 have H := HA.out
 clear HA
 simp only [zci] at H
 revert H
 refine zit (fun c9 H => ?_) fun c9 H => ?_
 rotate_left
 · have H' := zA H
   clear H
   go_wp2
   go_roundg k2
   case measure => have := HK1.out; have := HK2.out; omega
   case rel => exact ⟨(x4_2), (wrap64 (x14_1 + 1)), zq8, H', ⟨zq48 HK1 HK2⟩, ⟨zq16 HO_3⟩, ⟨zq2 HO_4⟩, ⟨zq1⟩⟩
 revert H
 refine zin fun c10 H => ?_
 revert H
 refine zin fun c11 H => ?_
 revert H
 refine zin fun c12 H => ?_
 revert H
 refine zin fun c13 H => ?_
 by_cases c14 : (rd (za1 t101 x6_2) x14_1) ≥ 0
 rotate_left
 · rw [if_neg c14] at H
   have c14b0 := zdf c14
   clear c14
   have H' := zA H
   clear H
   obtain ⟨Ao23, co23, eo23⟩ := Kd.S_slice HO_3.out
   subst eo23
   have p107 : 0 ≤ (x6_2 : Int) := zde zq21
   have q107 : x6_2 < (t101.length : Int) := zde zq21
   obtain ⟨ad107, A107_0, c107_0, e107, hx107_0, hl107_0, hi107_0⟩ := zkm (zSr HO_3.out).2.2 x6_2 p107 q107
   cases e107
   obtain ⟨ce107, hce107, hMe107, hcc107⟩ := Kd.S_get HO_3.out [] x6_2 p107 (by first | exact q107 | exact zde zq21 | (have e_ := (zSr HO_3.out).1; omega))
   obtain ⟨ve107_0, rfl, ge107_0⟩ := hMe107
   have hv107_0 := hcc107 0 _ rfl
   rw [Nat.add_zero, show ((Kd.slice 3 (Kd.int .i64))).sz = 1 from rfl, Nat.mul_one] at hv107_0
   replace hv107_0 := zsi (hv107_0.symm.trans hx107_0)
   rw [hv107_0] at ge107_0
   have HL107_0 := zA (show Kd.R (Kd.int .i64) 3 _ _ _ _ (za1 t101 x6_2) from ge107_0)
   clear hv107_0 ge107_0
   clear hcc107 hce107
   have HR107_0 := zA hi107_0
   have HC107_0 := zA hl107_0
   clear hi107_0 hl107_0
   replace p107 := eq_true p107
   replace q107 := eq_true q107
   have p108 : 0 ≤ (x14_1 : Int) := zde zq21
   have q108 : x14_1 < ((za1 t101 x6_2).length : Int) := zde zq21
   obtain ⟨ad108, e108, hx108_0⟩ := Kd.at_int (zq20 HR107_0) x14_1 p108 q108
   cases e108
   replace p108 := eq_true p108
   replace q108 := eq_true q108
   go_wp2
   go_roundg k2
   case measure => have := HK1.out; have := HK2.out; omega
   case rel => exact ⟨(x4_2), (wrap64 (x6_2 + 1)), zq8, H', ⟨zq48 HK1 HK2⟩, ⟨zq16 HO_3⟩, ⟨zq2 HO_4⟩, ⟨zq1⟩⟩
 rw [if_pos c14] at H
 have c14b0 := zdt c14
 clear c14
 revert H
 refine zin fun c15 H => ?_
 revert H
 refine zin fun c16 H => ?_
 replace H := zob H
 obtain ⟨t113, A170, H⟩ := H
 have A17 := zA A170
 clear A170
 obtain ⟨y114, hy114⟩ : ∃ y_ : List Int, y_ = (x4_2.set (x14_1 : Int).toNat t113) := ⟨_, rfl⟩
 rw [← hy114] at H; try with_reducible replace H := zbs H
 have Ny114 := zA hy114
 clear hy114
 have H' := zA H
 clear H
 obtain ⟨Ao19, co19, eo19⟩ := Kd.S_slice HO_3.out
 subst eo19
 have p107 : 0 ≤ (x6_2 : Int) := zde zq21
 have q107 : x6_2 < (t101.length : Int) := zde zq21
 obtain ⟨ad107, A107_0, c107_0, e107, hx107_0, hl107_0, hi107_0⟩ := zkm (zSr HO_3.out).2.2 x6_2 p107 q107
 cases e107
 obtain ⟨ce107, hce107, hMe107, hcc107⟩ := Kd.S_get HO_3.out [] x6_2 p107 (by first | exact q107 | exact zde zq21 | (have e_ := (zSr HO_3.out).1; omega))
 obtain ⟨ve107_0, rfl, ge107_0⟩ := hMe107
 have hv107_0 := hcc107 0 _ rfl
 rw [Nat.add_zero, show ((Kd.slice 3 (Kd.int .i64))).sz = 1 from rfl, Nat.mul_one] at hv107_0
 replace hv107_0 := zsi (hv107_0.symm.trans hx107_0)
 rw [hv107_0] at ge107_0
 have HL107_0 := zA (show Kd.R (Kd.int .i64) 3 _ _ _ _ (za1 t101 x6_2) from ge107_0)
 clear hv107_0 ge107_0
 clear hcc107 hce107
 have HR107_0 := zA hi107_0
 have HC107_0 := zA hl107_0
 clear hi107_0 hl107_0
 replace p107 := eq_true p107
 replace q107 := eq_true q107
 have p108 : 0 ≤ (x14_1 : Int) := zde zq21
 have q108 : x14_1 < ((za1 t101 x6_2).length : Int) := zde zq21
 obtain ⟨ad108, e108, hx108_0⟩ := Kd.at_int (zq20 HR107_0) x14_1 p108 q108
 cases e108
 replace p108 := eq_true p108
 replace q108 := eq_true q108
 try go_wp2
 replace HO_3 := zA (zSd HO_3.out)
 replace HO_4 := zA (zRd HO_4.out)
 replace HL107_0 := zA (zRd HL107_0.out)
 replace HR107_0 := zA (zCd HR107_0.out)
 replace HB := zA (zbd HB.out)
 obtain ⟨Ao21, co21, eo21⟩ := Kd.R_slice HO_4.out
 (first | subst eo21 | (injection eo21 with f1_ f2_ f3_; have f4_ := f1_.symm; have f5_ := f3_.symm; clear f1_ f2_ f3_; subst f4_; subst f5_))
 obtain ⟨p109, q109⟩ := zpq x14_1 x4_2.length
 obtain ⟨ad109, e109, hx109_0⟩ := Kd.at_int (zRr HO_4.out).2.2 x14_1 (zoe p109) (zoe q109)
 cases e109
 obtain ⟨p110, q110⟩ := zpq x6_2 x4_2.length
 obtain ⟨ad110, e110, hx110_0⟩ := Kd.at_int (zRr HO_4.out).2.2 x6_2 (zoe p110) (zoe q110)
 obtain rfl : ad109 = ad110 := (by injection e110)
 have p111 : 0 ≤ (x6_2 : Int) := zde zq21
 have q111 : x6_2 < (t101.length : Int) := zde zq21
 obtain ⟨ad111, A111_0, c111_0, e111, hx111_0, hl111_0, hi111_0⟩ := zkm (zSr HO_3.out).2.2 x6_2 p111 q111
 obtain rfl : ad107 = ad111 := (by injection e111)
 obtain ⟨ce111, hce111, hMe111, hcc111⟩ := Kd.S_get HO_3.out [] x6_2 p111 (by first | exact q111 | exact zde zq21 | (have e_ := (zSr HO_3.out).1; omega))
 obtain ⟨ve111_0, rfl, ge111_0⟩ := hMe111
 have hv111_0 := hcc111 0 _ rfl
 rw [Nat.add_zero, show ((Kd.slice 3 (Kd.int .i64))).sz = 1 from rfl, Nat.mul_one] at hv111_0
 replace hv111_0 := zsi (hv111_0.symm.trans hx111_0)
 rw [hv111_0] at ge111_0
 have HL111_0 := zA (show Kd.R (Kd.int .i64) 3 _ _ _ _ (za1 t101 x6_2) from ge111_0)
 clear hv111_0 ge111_0
 clear hcc111 hce111
 have HR111_0 := zA hi111_0
 have HC111_0 := zA hl111_0
 clear hi111_0 hl111_0
 replace p111 := eq_true p111
 replace q111 := eq_true q111
 have p112 : 0 ≤ (x14_1 : Int) := zde zq21
 have q112 : x14_1 < ((za1 t101 x6_2).length : Int) := zde zq21
 obtain ⟨ad112, e112, hx112_0⟩ := Kd.at_int (zq20 HR111_0) x14_1 p112 q112
 cases e112
 replace p112 := eq_true p112
 replace q112 := eq_true q112
 refine zk4 (n := 21) (S := fun w' => w'.cell? (ad109.add (x14_1).toNat) = some (.int .i64 (rd x4_2 x14_1)) ∧ w'.cell? (ad109.add (x6_2).toNat) = some (.int .i64 (rd x4_2 x6_2)) ∧ w'.cell? (ad107.add (x6_2).toNat) = some (.slice (some ad112) (za1 t101 x6_2).length c111_0) ∧ w'.cell? (ad112.add (x14_1).toNat) = some (.int .i64 (rd (za1 t101 x6_2) x14_1))) (ds := [20]) #[false, false, false, false, false, false, false, false, false, false, false, false, false, false, false, false, false, false, false, false, false] zq27 rfl rfl ⟨hx109_0, hx110_0, hx111_0, hx112_0⟩ (fun hHeld => ?_); refine zia zom zof (fun HT_ HW_ => ?_)
 generalize wr.drew = w20 at HO_3 HO_4 HL107_0 HR107_0 HB HL111_0 HR111_0 hx109_0 hx110_0 hx111_0 hx112_0 hHeld ⊢
 refine zpu 0 30 HT_ ?_
 refine zpu 1 31 HT_ ?_
 refine zpu 2 32 HT_ ?_
 refine zpu 3 33 HT_ ?_
 refine zpu 4 34 HT_ ?_
 refine zpu 6 36 HT_ ?_
 refine zpu 7 37 HT_ ?_
 refine zpu 8 38 HT_ ?_
 refine zpu 10 40 HT_ ?_
 refine zpu 11 41 HT_ ?_
 refine zpu 12 42 HT_ ?_
 refine zpu 14 44 HT_ ?_
 refine ztu 5 35 HT_ HW_ hHeld ?_
 refine ztu 9 39 HT_ HW_ hHeld ?_
 refine ztu 13 43 HT_ HW_ hHeld ?_
 refine zpu 15 45 HT_ ?_
 refine ztu 16 46 HT_ HW_ hHeld ?_
 refine zpu 17 47 HT_ ?_
 refine one_ (i := 18) (N := some 48) #[true, true, true, true, true, true, true, true, true, true, true, true, true, true, true, true, true, true, true, false, false] rfl rfl (zj2 HT_.out zq27) (by decide) (fun K hK => ?_)
 refine zgo Tryz.func103 (zdz (rd x4_2 x14_1) (wrap64 ((rd x4_2 x6_2) + (rd (za1 t101 x6_2) x14_1))) t113 _ A17.out) ?_
 rintro e w' ⟨rfl, ⟨nd, rfl⟩⟩
 refine ⟨_, rfl, ?_⟩
 have p18 : 0 ≤ (x14_1 : Int) := zde zq21
 have q18 : (x14_1 : Int) < ((x4_2.length : Int) : Int) := zde zq21
 obtain ⟨go18, co18, eo18, gb18, gl18, cl18, HG18⟩ := Kd.R_form HO_4.out (by omega)
 (first | cases eo18 | (injection eo18 with ea_ en_ ec_; (first | subst ea_ | (injection ea_ with ea_; subst ea_)); subst ec_; clear en_))
 have GB18 := zA gb18
 have GG18 := zA HG18
 clear gb18 gl18 HG18
 (first | simp only [ze4] at hx109_0 | skip)
 (first | simp only [ze4] at hx110_0 | skip)
 obtain ⟨hx18_0, hf18_0⟩ := Kd.R_celln 0 HO_4.out (x14_1 : Int) p18 q18
 replace p18 := eq_true p18
 replace q18 := eq_true q18
 have HP22 := Kd.R_putn HO_4.out (x14_1 : Int) t113
 rw [← Ny114.out] at HP22
 have HQ22 := zA HP22
 clear HP22
 refine hK.out _ _ ⟨hHeld.1, hHeld.2.1, hHeld.2.2.1, hHeld.2.2.2⟩ (fun hHeld => ?_)
 clear hK K
 refine znm 48 ?_
 refine zpu 19 49 HT_ ?_
 refine zz1 (i := 20) (N := none) #[true, true, true, true, true, true, true, true, true, true, true, true, true, true, true, true, true, true, true, true, true] rfl rfl (zj2 HT_.out zq27) (by decide) (fun K hK => ?_)
 refine zsm (w1 := ?_) (by rfl) rfl ?_ ?_
 rotate_left
 · go_simp
   rfl
 refine hK.out _ _ ?_
 clear hK K
 refine zou (zlc HT_.out zq27) ?_
 try go_wp2
 go_roundg k2
 case measure => have := HK1.out; have := HK2.out; omega
 case rel => exact ⟨(y114), (wrap64 (x6_2 + 1)), zq8, H', ⟨zq48 HK1 HK2⟩, ⟨by (with_reducible repeat (first | apply zSa | apply zSn | apply zSd)); exact Kd.S_mono (Kd.S_far (p := ⟨go18, (x14_1 : Int).toNat, none⟩) (Kd.S_mono HO_3.out (fun k_ hk => (⟨hk, fun e_ => hk (by rw [e_]; rfl)⟩ : _ ∧ k_ ≠ go18))) (fun _ hk => hk.2) (.int .i64 t113)) (fun _ hk => hk.1)⟩, ⟨zq2 HQ22⟩, ⟨zq10 GB18⟩⟩
mutual
def zdk : Nat → List (S55) → Int → List Int → Int → List Int → Int → Int → Option (Int)
 | 0, _, _, _, _, _, _, _ => none
 | k + 1, x0, x1, x5, x6, x15, x16, x17 => if x17 < x16 then (if 0 ≤ x17 then (if x17 < (x15.length : Int) then (zdl k x0 x1 x5 x6 (rd x15 x17) 0 100 x15 x16 x17 x0 (x0.length : Int) 0) else (none)) else (none)) else (some x6)
def zdl : Nat → List (S55) → Int → List Int → Int → Int → Int → Int → List Int → Int → Int → List (S55) → Int → Int → Option (Int)
 | 0, _, _, _, _, _, _, _, _, _, _, _, _, _ => none
 | k + 1, x0, x1, x5, x6, x8, x9, x10, x15, x16, x17, x21, x22, x23 => if x23 < x22 then (if 0 ≤ x23 then (if x23 < (x21.length : Int) then (if x23 < (x5.length : Int) then (if (rd x5 x23) ≥ x8 then ((zf9 ((zaa x21 x23).f0)).bind fun t109 => ((zg1 x10 t109).bind fun t110 => (zdl k x0 x1 x5 x6 x8 (wrap64 (x9 + 1)) t110 x15 x16 x17 x21 x22 (wrap64 (x23 + 1))))) else (zdl k x0 x1 x5 x6 x8 x9 x10 x15 x16 x17 x21 x22 (wrap64 (x23 + 1)))) else (none)) else (none)) else (none)) else (if x1 = 0 then (none) else ((zdb x6 (wrap64 ((wrap64 ((wrap64 (x8 + (wrap64 (Int.tdiv (wrap64 ((wrap64 (x9 + x1)) - 1)) x1)))) + x10)) - 1))).bind fun t105 => (zdk k x0 x1 x5 t105 x15 x16 (wrap64 (x17 + 1)))))
end
def zg3 (k : Nat) (l0 : List (S55)) (a1 : Int) : Option (Int) := (zet k l0).bind fun t101 => (zdk k l0 a1 t101 0 t101 (t101.length : Int) 0)
theorem zl5 : ∀ k, (∀ y0 y1 y2 y3 y4 y5 y6, LeO (zdk k y0 y1 y2 y3 y4 y5 y6) (zdk (k + 1) y0 y1 y2 y3 y4 y5 y6)) ∧ (∀ y0 y1 y2 y3 y4 y5 y6 y7 y8 y9 y10 y11 y12, LeO (zdl k y0 y1 y2 y3 y4 y5 y6 y7 y8 y9 y10 y11 y12) (zdl (k + 1) y0 y1 y2 y3 y4 y5 y6 y7 y8 y9 y10 y11 y12))
 | 0 => ⟨fun _ _ _ _ _ _ _ r h => by simp [zdk] at h, fun _ _ _ _ _ _ _ _ _ _ _ _ _ r h => by simp [zdl] at h⟩
 | k + 1 => by
   obtain ⟨ih0, ih1⟩ := zl5 k
   refine ⟨?_, ?_⟩
   · intro y0 y1 y2 y3 y4 y5 y6
     unfold zdk
     exact zm3 ih0 ih1 zho
   · intro y0 y1 y2 y3 y4 y5 y6 y7 y8 y9 y10 y11 y12
     unfold zdl
     exact zm3 ih0 ih1 zho
theorem zni : ∀ a0 a1 k, LeO (zg3 k a0 a1) (zg3 (k + 1) a0 a1) := by
 intro a0 a1 k
 obtain ⟨ih0, ih1⟩ := zl5 k
 unfold zg3
 exact zm3 ih0 ih1 zho
theorem zp6 (k : Nat) (A0 : Option Addr) (c0 : Nat) (l0 : List (S55)) (a1 : Int) (r : Int) (w : World) (hr0 : Kd.C k55 w A0 l0.length l0) (hc0 : l0.length ≤ c0) (h : zg3 k l0 a1 = some r) :
   Calls Tryz.prog 87 #[.slice A0 l0.length c0, .int .i64 a1] w fun e w' => e = .returned (.int .i64 r) ∧ Below w.heap.size w w' := by
 have hu55 := Tryz.underlying55
 have HR0 := zA hr0
 have HC0 := zA hc0
 clear hr0 hc0
 have HB := zA (Below.refl w.heap.size w)
 have H := h
 unfold zg3 at H
 clear h
 replace H := zob H
 obtain ⟨t101, A30, H⟩ := H
 have A3 := zA A30
 clear A30
 have H' := zA H
 clear H
 go_enter Tryz.func87, Tryz.ntmps87
 go_wp2_with (first | ((with_reducible refine zgc 102 ?_); refine zca 14 Tryz.func102 #[.slice A0 l0.length c0] (zk0 k _ _ l0 t101 _ (zq17 HR0) HC0.out A3.out) ?_; rintro e w4 ⟨v102, rfl, ho0, hb⟩; refine ⟨_, rfl, ?_⟩; have HO103 := zA (Kd.R_lower ho0 (zah zq1)); replace HB := zA (zac zq1 hb); (try clear hb); (try clear ho0); obtain ⟨Ao5, co5, eo5⟩ := Kd.R_slice HO103.out; subst eo5))
 go_loopg [6, 17] k (fun kq v6 v17 w' => ∃ (x6_1 : Int) (x17_1 : Int), v6 = .int .i64 x6_1 ∧ v17 = .int .i64 x17_1 ∧ Aside0 (zdk kq l0 a1 t101 x6_1 t101 (t101.length : Int) x17_1 = some r) ∧ Aside0 (kq ≤ k) ∧ Aside0 (Kd.R (Kd.int .i64) 3 w' w.heap.size (fun _ => True) (.slice Ao5 t101.length co5) t101) ∧ Aside0 (Kd.R (Kd.int .i64) 3 w' w.heap.size (fun _ => True) (.slice Ao5 t101.length co5) t101) ∧ Aside0 (Below w.heap.size w w'))
 case atStart => exact ⟨(0), (0), zq8, zq8, H', ⟨zlr _⟩, ⟨zq2 HO103⟩, ⟨zq2 HO103⟩, ⟨zq1⟩⟩
 clear H'
 obtain ⟨x6_1, x17_1, rfl, rfl, HA, HK1, HO_5, HO_15, HB⟩ := hrel
 cases gk with
 | zero => exact absurd HA.out (by simp [zdk])
 | succ k1 =>
 have H := HA.out
 clear HA
 simp only [zdk] at H
 revert H
 refine zit (fun c6 H => ?_) fun c6 H => ?_
 rotate_left
 · obtain rfl := zsi H
   go_wp2
   exact zr_3
 revert H
 refine zin fun c7 H => ?_
 revert H
 refine zin fun c8 H => ?_
 have H' := zA H
 clear H
 obtain ⟨p104, q104⟩ := zpq x17_1 t101.length
 obtain ⟨ad104, e104, hx104_0⟩ := Kd.at_int (zRr HO_15.out).2.2 x17_1 (zoe p104) (zoe q104)
 cases e104
 go_wp2
 go_loopg [9, 10, 23] k1 (fun kq v9 v10 v23 w' => ∃ (x9_2 : Int) (x10_2 : Int) (x23_2 : Int), v9 = .int .i64 x9_2 ∧ v10 = .int .i64 x10_2 ∧ v23 = .int .i64 x23_2 ∧ Aside0 (zdl kq l0 a1 t101 x6_1 (rd t101 x17_1) x9_2 x10_2 t101 (t101.length : Int) x17_1 l0 (l0.length : Int) x23_2 = some r) ∧ Aside0 (kq ≤ k1) ∧ Aside0 (Kd.R (Kd.int .i64) 3 w' w.heap.size (fun _ => True) (.slice (some ad104) t101.length co5) t101) ∧ Aside0 (Kd.R (Kd.int .i64) 3 w' w.heap.size (fun _ => True) (.slice (some ad104) t101.length co5) t101) ∧ Aside0 (Below w.heap.size w w'))
 case atStart => exact ⟨(0), (100), (0), zq8, zq8, zq8, H', ⟨zlr _⟩, ⟨zq2 HO_5⟩, ⟨zq2 HO_15⟩, ⟨zq1⟩⟩
 clear H'
 obtain ⟨x9_2, x10_2, x23_2, rfl, rfl, rfl, HA, HK2, HO_5, HO_15, HB⟩ := hrel
 cases gk with
 | zero => exact absurd HA.out (by simp [zdl])
 | succ k2 =>
 have H := HA.out
 clear HA
 simp only [zdl] at H
 revert H
 refine zit (fun c9 H => ?_) fun c9 H => ?_
 rotate_left
 · by_cases c20 : a1 = 0
   · rw [if_pos c20] at H
     exact absurd H (by simp)
   rw [if_neg c20] at H
   obtain ⟨c20b0, c20b1⟩ := zbq c20
   replace H := zob H
   obtain ⟨t105, A210, H⟩ := H
   have A21 := zA A210
   clear A210
   have H' := zA H
   clear H
   go_wp2_with (first | ((with_reducible refine zgc 103 ?_); refine zcl 54 Tryz.func103 (zdz x6_1 (wrap64 ((wrap64 ((wrap64 ((rd t101 x17_1) + (wrap64 (Int.tdiv (wrap64 ((wrap64 (x9_2 + a1)) - 1)) a1)))) + x10_2)) - 1)) t105 _ A21.out) ?_; rintro e w' ⟨rfl, ⟨nd, rfl⟩⟩; refine ⟨_, rfl, ?_⟩))
   go_roundg k2
   case measure => have := HK1.out; have := HK2.out; omega
   case rel => exact ⟨(t105), (wrap64 (x17_1 + 1)), zq8, zq8, H', ⟨zq48 HK1 HK2⟩, ⟨zq2 HO_5⟩, ⟨zq2 HO_15⟩, ⟨zq1⟩⟩
 revert H
 refine zin fun c10 H => ?_
 revert H
 refine zin fun c11 H => ?_
 revert H
 refine zin fun c12 H => ?_
 by_cases c13 : (rd t101 x23_2) ≥ (rd t101 x17_1)
 rotate_left
 · rw [if_neg c13] at H
   have c13b0 := zdf c13
   clear c13
   have H' := zA H
   clear H
   obtain ⟨p106, q106⟩ := zpq x23_2 l0.length
   obtain ⟨ad106, e106, hx106_0, hx106_1, hx106_2, hx106_3, hx106_4⟩ := zi7 HR0.out x23_2 (zoe p106) (zoe q106)
   cases e106
   replace hx106_0 := zkep HB.out hx106_0
   replace hx106_1 := zkep HB.out hx106_1
   replace hx106_2 := zkep HB.out hx106_2
   replace hx106_3 := zkep HB.out hx106_3
   replace hx106_4 := zkep HB.out hx106_4
   go_wp2_with (first | ((with_reducible refine zgd 12 ?_); refine zbx #[.string (⟨#[]⟩ : ByteArray), .int .i64 0, .int .i64 0, .int .i64 0, .int .i64 0] 55 ?_; intro gb107 hg w18 hbox hb; have zs := zpair zq1 hb; replace HO_5 := zA (zRb (zq2 HO_5) hb); replace HO_15 := zA (zRb (zq2 HO_15) hb); replace HB := zA (zs.1); have BK107 := zA (hbox); have GW107 := zA (zge hg zs.2); have GE107 := GW107; clear zs hb hbox hg; obtain ⟨hcz19_0, hcz19_1, hcz19_2, hcz19_3, hcz19_4, hfz19_0, hfz19_1, hfz19_2, hfz19_3, hfz19_4⟩ := zd5 BK107; have p108 : 0 ≤ (x23_2 : Int) := zde zq21; have q108 : x23_2 < (t101.length : Int) := zde zq21; obtain ⟨ad108, e108, hx108_0⟩ := Kd.at_int (zRr HO_5.out).2.2 x23_2 p108 q108; obtain rfl : ad104 = ad108 := (by injection e108); have hn108_0 : ad104.block ≠ gb107 := Kd.own_blk (Kd.R_ne HO_5.out BK107.out (by decide)); have hn108_1 : ad104.block ≠ gb107 := Kd.own_blk (Kd.R_ne HO_5.out BK107.out (by decide)); have hn108_2 : ad104.block ≠ gb107 := Kd.own_blk (Kd.R_ne HO_5.out BK107.out (by decide)); have hn108_3 : ad104.block ≠ gb107 := Kd.own_blk (Kd.R_ne HO_5.out BK107.out (by decide)); have hn108_4 : ad104.block ≠ gb107 := Kd.own_blk (Kd.R_ne HO_5.out BK107.out (by decide)); replace hx108_0 := (zaf (p := ⟨gb107, 0, none⟩) zq82 (.string ((zaa l0 x23_2).f0))).trans hx108_0; replace hx108_0 := (zaf (p := ⟨gb107, 1, none⟩) zq83 (.int .i64 ((zaa l0 x23_2).f1))).trans hx108_0; replace hx108_0 := (zaf (p := ⟨gb107, 2, none⟩) zq84 (.int .i64 ((zaa l0 x23_2).f2))).trans hx108_0; replace hx108_0 := (zaf (p := ⟨gb107, 3, none⟩) zq85 (.int .i64 ((zaa l0 x23_2).f3))).trans hx108_0; replace hx108_0 := (zaf (p := ⟨gb107, 4, none⟩) zq86 (.int .i64 ((zaa l0 x23_2).f4))).trans hx108_0; clear hn108_0; clear hn108_1; clear hn108_2; clear hn108_3; clear hn108_4; replace p108 := eq_true p108; replace q108 := eq_true q108))
   go_roundg k2
   case measure => have := HK1.out; have := HK2.out; omega
   case rel => exact ⟨(x9_2), (x10_2), (wrap64 (x23_2 + 1)), zq8, zq8, zq8, H', ⟨zq48 HK1 HK2⟩, ⟨zq26 HO_5 BK107⟩, ⟨zq26 HO_15 BK107⟩, ⟨zq10 GE107⟩⟩
 rw [if_pos c13] at H
 have c13b0 := zdt c13
 clear c13
 replace H := zob H
 obtain ⟨t109, A140, H⟩ := H
 have A14 := zA A140
 clear A140
 replace H := zob H
 obtain ⟨t110, A150, H⟩ := H
 have A15 := zA A150
 clear A150
 have H' := zA H
 clear H
 obtain ⟨p106, q106⟩ := zpq x23_2 l0.length
 obtain ⟨ad106, e106, hx106_0, hx106_1, hx106_2, hx106_3, hx106_4⟩ := zi7 HR0.out x23_2 (zoe p106) (zoe q106)
 cases e106
 replace hx106_0 := zkep HB.out hx106_0
 replace hx106_1 := zkep HB.out hx106_1
 replace hx106_2 := zkep HB.out hx106_2
 replace hx106_3 := zkep HB.out hx106_3
 replace hx106_4 := zkep HB.out hx106_4
 go_wp2_with (first | ((with_reducible refine zgd 12 ?_); refine zbx #[.string (⟨#[]⟩ : ByteArray), .int .i64 0, .int .i64 0, .int .i64 0, .int .i64 0] 55 ?_; intro gb107 hg w16 hbox hb; have zs := zpair zq1 hb; replace HO_5 := zA (zRb (zq2 HO_5) hb); replace HO_15 := zA (zRb (zq2 HO_15) hb); replace HB := zA (zs.1); have BK107 := zA (hbox); have GW107 := zA (zge hg zs.2); have GE107 := GW107; clear zs hb hbox hg; obtain ⟨hcz17_0, hcz17_1, hcz17_2, hcz17_3, hcz17_4, hfz17_0, hfz17_1, hfz17_2, hfz17_3, hfz17_4⟩ := zd5 BK107; have p108 : 0 ≤ (x23_2 : Int) := zde zq21; have q108 : x23_2 < (t101.length : Int) := zde zq21; obtain ⟨ad108, e108, hx108_0⟩ := Kd.at_int (zRr HO_5.out).2.2 x23_2 p108 q108; obtain rfl : ad104 = ad108 := (by injection e108); have hn108_0 : ad104.block ≠ gb107 := Kd.own_blk (Kd.R_ne HO_5.out BK107.out (by decide)); have hn108_1 : ad104.block ≠ gb107 := Kd.own_blk (Kd.R_ne HO_5.out BK107.out (by decide)); have hn108_2 : ad104.block ≠ gb107 := Kd.own_blk (Kd.R_ne HO_5.out BK107.out (by decide)); have hn108_3 : ad104.block ≠ gb107 := Kd.own_blk (Kd.R_ne HO_5.out BK107.out (by decide)); have hn108_4 : ad104.block ≠ gb107 := Kd.own_blk (Kd.R_ne HO_5.out BK107.out (by decide)); replace hx108_0 := (zaf (p := ⟨gb107, 0, none⟩) zq82 (.string ((zaa l0 x23_2).f0))).trans hx108_0; replace hx108_0 := (zaf (p := ⟨gb107, 1, none⟩) zq83 (.int .i64 ((zaa l0 x23_2).f1))).trans hx108_0; replace hx108_0 := (zaf (p := ⟨gb107, 2, none⟩) zq84 (.int .i64 ((zaa l0 x23_2).f2))).trans hx108_0; replace hx108_0 := (zaf (p := ⟨gb107, 3, none⟩) zq85 (.int .i64 ((zaa l0 x23_2).f3))).trans hx108_0; replace hx108_0 := (zaf (p := ⟨gb107, 4, none⟩) zq86 (.int .i64 ((zaa l0 x23_2).f4))).trans hx108_0; clear hn108_0; clear hn108_1; clear hn108_2; clear hn108_3; clear hn108_4; replace p108 := eq_true p108; replace q108 := eq_true q108) | ((with_reducible refine zgc 100 ?_); refine zcl 39 Tryz.func100 (zfz ((zaa l0 x23_2).f0) t109 _ A14.out) ?_; rintro e w' ⟨rfl, ⟨nd, rfl⟩⟩; refine ⟨_, rfl, ?_⟩) | ((with_reducible refine zgc 101 ?_); refine zcl 40 Tryz.func101 (zml x10_2 t109 t110 _ A15.out) ?_; rintro e w' ⟨rfl, ⟨nd, rfl⟩⟩; refine ⟨_, rfl, ?_⟩))
 go_roundg k2
 case measure => have := HK1.out; have := HK2.out; omega
 case rel => exact ⟨(wrap64 (x9_2 + 1)), (t110), (wrap64 (x23_2 + 1)), zq8, zq8, zq8, H', ⟨zq48 HK1 HK2⟩, ⟨zq26 HO_5 BK107⟩, ⟨zq26 HO_15 BK107⟩, ⟨zq10 GE107⟩⟩
def zjx (l0 : List Int) : Option (List Int) := (some (([] : List Int) : List Int)).bind fun y101 => (if y101.length + l0.length < 17592186044416 then (some (y101 ++ l0)) else (none))
theorem zk7 (A0 : Option Addr) (c0 : Nat) (l0 : List Int) (r : List Int) (w : World) (hr0 : Kd.C (Kd.int .i64) w A0 l0.length l0) (hc0 : l0.length ≤ c0) (h : zjx l0 = some r) :
   Calls Tryz.prog 90 #[.slice A0 l0.length c0] w fun e w' => ∃ v0_ : Value, e = .returned (v0_) ∧ Kd.R (Kd.int .i64) 3 w' w.heap.size (fun _ => True) v0_ r ∧ Below w.heap.size w w' := by
 have HR0 := zA hr0
 have HC0 := zA hc0
 clear hr0 hc0
 have HB := zA (Below.refl w.heap.size w)
 have H := h
 unfold zjx at H
 clear h
 obtain ⟨y101, hy101⟩ : ∃ y_ : List Int, y_ = (([] : List Int)) := ⟨_, rfl⟩
 replace H : (if y101.length + l0.length < 17592186044416 then (some (y101 ++ l0)) else (none)) = some r := by first | (rw [hy101]; with_reducible exact H) | (have H2_ := (Option.bind_some _ _).symm.trans H; rw [hy101]; with_reducible exact H2_) | (have H2_ := (Option.bind_some _ _).symm.trans H; with_reducible exact H2_) | with_reducible exact H | (rw [hy101]; exact H) | exact H
 have Ny101 := zA hy101
 clear hy101
 by_cases c2 : y101.length + l0.length < 17592186044416
 · rw [if_pos c2] at H
   have LMc2 := zA c2
   clear c2
   obtain ⟨y104, hy104⟩ : ∃ y_ : List Int, y_ = (y101 ++ l0) := ⟨_, rfl⟩
   rw [← hy104] at H; try with_reducible replace H := zbs H
   have Ny104 := zA hy104
   clear hy104
   obtain rfl := zsi H
   go_enter Tryz.func90, Tryz.ntmps90
   go_wp2_with (first | ((with_reducible refine zgd 3 ?_); refine Kd.R_lit (Kd.int .i64) _ 3 ?hg (N := 3) ?hd (xs := ([] : List Int)) (inner := []) (ok := fun _ => True) (okp := fun _ => True) ?hr ?hp (fun _ hk => hk) trivial (Below.refl _ _) (zlr _) (by simp) ?_; (case hd => rfl); (case hg => rfl); (case hr => go_simp <;> rfl); (case hp => exact (Reps.none _ _)); intro v102 w3 ho4 hb hg_ hnew_; clear hg_ hnew_; (first | rw [← Ny101.out] at ho4 | (simp only [Int.reduceToNat] at ho4; rw [← Ny101.out] at ho4)); have HO103 := zA (Kd.R_lower ho4 (zah zq1)); replace HB := zA (zac zq1 hb); clear hb ho4) | ((with_reducible refine zc7 (b := .append) (xs := #[.tmp 3, .tmp 4]) rfl ?_); at_builtin; refine Kd.R_append_rows (Kd.int .i64) (w0 := w) w.heap.size rfl (.tmp 3) (.tmp 4) 25 3 (.int .i64 0) 8 rfl Tryz.underlying25 zkf rfl (by decide) (by omega) v102 y101 l0 _ _ _ (fun _ => True) (fun _ => False) rfl rfl ?aO ?aR (fun _ _ h => h) (fun _ h => h.elim) ?aF ?aB ?aS ?aL ?_; (case aR => repeat (first | exact (zCb HR0.out HB.out) | (with_reducible first | refine zCa ?_ _ | refine zCn ?_ _ | refine zCd ?_))); (case aB => exact zq1); (case aF => exact (fun _ _ => trivial)); (case aO => exact (zq2 HO103)); (case aS => exact (zah zq1)); (case aL => have := LMc2.out; omega); intro v105 w5 ho hb hg hat; rw [← Ny104.out] at ho; replace HB := zA (hb); have HO106 := zA (ho); clear HO103; clear ho hb hg hat))
   go_ret
   exact ⟨_, zq5, zq2 HO106, zq1⟩
 · rw [if_neg c2] at H
   exact absurd H (by simp)
end Go.Proofs.YtabnafbgcpchdaaGreat.Q
end
