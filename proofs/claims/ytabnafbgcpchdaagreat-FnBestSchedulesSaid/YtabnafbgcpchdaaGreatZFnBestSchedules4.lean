/- Proved here: contracts of functions that the law FnBestSchedules reaches, and lemmas on what they compute; texts of this session and the printed words of the kit that they lean on, cut down and put together by its program link.py. Conditions: as each states. -/
import Derived.Test.YtabnafbgcpchdaaGreatZFnBestSchedules1
import Derived.Test.YtabnafbgcpchdaaGreatZFnBestSchedules2
import Derived.Test.YtabnafbgcpchdaaGreatZFnBestSchedules3
section
namespace Go.Proofs.YtabnafbgcpchdaaGreat.Q
open Go.RowKit Go.Proofs.YtabnafbgcpchdaaGreatW.PrintWords Go.Proofs.YtabnafbgcpchdaaGreatW.PrintLast Go.Proofs.YtabnafbgcpchdaaGreatW.PrintMore
set_option maxHeartbeats 8000000
set_option maxRecDepth 100000
attribute [local go_sem] zjj zjk zla zlb zh8 zh9 zjl zjm
set_option linter.unusedVariables false
set_option linter.unusedSimpArgs false
mutual
def zd0 : Nat → List (S55) → List (List Int) → List Int → List Int → Int → Int → Int → Int → List Int → Int → Int → Option (List Int × Bool)
 | 0, _, _, _, _, _, _, _, _, _, _, _ => none
 | k + 1, x0, x1, x2, x3, x4, x5, x14, x15, x32, x33, x34 => if x34 < x33 then (if 0 ≤ x34 then (if x34 < (x32.length : Int) then (if x34 < (x1.length : Int) then (if 0 ≤ x14 then (if x14 < ((za1 x1 x34).length : Int) then (if (rd (za1 x1 x34) x14) ≥ 0 then ((zdb x15 (wrap64 ((rd x32 x34) + (rd (za1 x1 x34) x14)))).bind fun t109 => (zd0 k x0 x1 x2 x3 x4 x5 x14 t109 x32 x33 (wrap64 (x34 + 1)))) else (zd0 k x0 x1 x2 x3 x4 x5 x14 x15 x32 x33 (wrap64 (x34 + 1)))) else (none)) else (none)) else (none)) else (none)) else (none)) else (zdo k x0 x1 x2 x3 x4 x5 x14 x15)
def zdo : Nat → List (S55) → List (List Int) → List Int → List Int → Int → Int → Int → Int → Option (List Int × Bool)
 | 0, _, _, _, _, _, _, _, _ => none
 | k + 1, x0, x1, x2, x3, x4, x5, x14, x18 => if 0 ≤ x14 then (if x14 < (x2.length : Int) then (if (wrap64 (x18 + (rd x2 x14))) ≤ x5 then (zd1 k x0 x1 x2 x3 x4 x5 x14 x18 0 x3 (x3.length : Int) 0) else (some (([] : List Int), false))) else (none)) else (none)
def zd1 : Nat → List (S55) → List (List Int) → List Int → List Int → Int → Int → Int → Int → Int → List Int → Int → Int → Option (List Int × Bool)
 | 0, _, _, _, _, _, _, _, _, _, _, _, _ => none
 | k + 1, x0, x1, x2, x3, x4, x5, x14, x18, x19, x70, x71, x72 => if x72 < x71 then (if 0 ≤ x72 then (if x72 < (x70.length : Int) then (if (rd x70 x72) = x18 then (zd1 k x0 x1 x2 x3 x4 x5 x14 x18 (wrap64 (x19 + 1)) x70 x71 (wrap64 (x72 + 1))) else (zd1 k x0 x1 x2 x3 x4 x5 x14 x18 x19 x70 x71 (wrap64 (x72 + 1)))) else (none)) else (none)) else (if x19 = x4 then (zdo k x0 x1 x2 x3 x4 x5 x14 (wrap64 (x18 + 1))) else ((zjx x3).bind fun t112 => (if t112.length < 17592186044416 then ((zdu k x0 x1 x2 (t112 ++ [x18]) x4 x5).bind fun bt118 => (if bt118.2 = true then (some (bt118.1, true)) else (zdo k x0 x1 x2 x3 x4 x5 x14 (wrap64 (x18 + 1))))) else (none))))
def zdu : Nat → List (S55) → List (List Int) → List Int → List Int → Int → Int → Option (List Int × Bool)
 | 0, _, _, _, _, _, _ => none
 | k + 1, l0, l1, l2, l3, a4, a5 => if (l3.length : Int) = (l0.length : Int) then ((zjx l3).bind fun t101 => (some (t101, true))) else (zd0 k l0 l1 l2 l3 a4 a5 (l3.length : Int) 0 l3 (l3.length : Int) 0)
end
theorem zmn : ∀ k, (∀ y0 y1 y2 y3 y4 y5, LeO (zdu k y0 y1 y2 y3 y4 y5) (zdu (k + 1) y0 y1 y2 y3 y4 y5)) ∧ (∀ y0 y1 y2 y3 y4 y5 y6 y7 y8 y9 y10, LeO (zd0 k y0 y1 y2 y3 y4 y5 y6 y7 y8 y9 y10) (zd0 (k + 1) y0 y1 y2 y3 y4 y5 y6 y7 y8 y9 y10)) ∧ (∀ y0 y1 y2 y3 y4 y5 y6 y7, LeO (zdo k y0 y1 y2 y3 y4 y5 y6 y7) (zdo (k + 1) y0 y1 y2 y3 y4 y5 y6 y7)) ∧ (∀ y0 y1 y2 y3 y4 y5 y6 y7 y8 y9 y10 y11, LeO (zd1 k y0 y1 y2 y3 y4 y5 y6 y7 y8 y9 y10 y11) (zd1 (k + 1) y0 y1 y2 y3 y4 y5 y6 y7 y8 y9 y10 y11))
 | 0 => ⟨fun _ _ _ _ _ _ r h => by simp [zdu] at h, fun _ _ _ _ _ _ _ _ _ _ _ r h => by simp [zd0] at h, fun _ _ _ _ _ _ _ _ r h => by simp [zdo] at h, fun _ _ _ _ _ _ _ _ _ _ _ _ r h => by simp [zd1] at h⟩
 | k + 1 => by
   obtain ⟨ih0, ih1, ih2, ih3⟩ := zmn k
   refine ⟨?_, ?_, ?_, ?_⟩
   · intro y0 y1 y2 y3 y4 y5
     unfold zdu
     exact zm4 ih0 ih1 ih2 ih3
   · intro y0 y1 y2 y3 y4 y5 y6 y7 y8 y9 y10
     unfold zd0
     exact zm4 ih0 ih1 ih2 ih3
   · intro y0 y1 y2 y3 y4 y5 y6 y7
     unfold zdo
     exact zm4 ih0 ih1 ih2 ih3
   · intro y0 y1 y2 y3 y4 y5 y6 y7 y8 y9 y10 y11
     unfold zd1
     exact zm4 ih0 ih1 ih2 ih3
theorem zn9 : ∀ a0 a1 a2 a3 a4 a5 k, LeO (zdu k a0 a1 a2 a3 a4 a5) (zdu (k + 1) a0 a1 a2 a3 a4 a5) := by
 intro a0 a1 a2 a3 a4 a5 k
 obtain ⟨ih0, ih1, ih2, ih3⟩ := zmn k
 exact ih0 a0 a1 a2 a3 a4 a5
theorem znj (k : Nat) : ∀ (A0 : Option Addr) (c0 : Nat) (l0 : List (S55)) (A1 : Option Addr) (c1 : Nat) (l1 : List (List Int)) (A2 : Option Addr) (c2 : Nat) (l2 : List Int) (A3 : Option Addr) (c3 : Nat) (l3 : List Int) (a4 : Int) (a5 : Int) (r1 : List Int) (r2 : Bool) (w : World) (hr0 : Kd.C k55 w A0 l0.length l0) (hc0 : l0.length ≤ c0) (hr1 : Kd.C (Kd.slice 3 (Kd.int .i64)) w A1 l1.length l1) (hc1 : l1.length ≤ c1) (hr2 : Kd.C (Kd.int .i64) w A2 l2.length l2) (hc2 : l2.length ≤ c2) (hr3 : Kd.C (Kd.int .i64) w A3 l3.length l3) (hc3 : l3.length ≤ c3) (h : zdu k l0 l1 l2 l3 a4 a5 = some (r1, r2)),
   Calls Tryz.prog 128 #[.slice A0 l0.length c0, .slice A1 l1.length c1, .slice A2 l2.length c2, .slice A3 l3.length c3, .int .i64 a4, .int .i64 a5] w fun e w' => ∃ v0_ : Value, e = .returned (.tuple #[v0_, .bool r2]) ∧ Kd.R (Kd.int .i64) 3 w' w.heap.size (fun _ => True) v0_ r1 ∧ Below w.heap.size w w' := by
 induction k using Nat.strongRecOn with
 | _ k ih =>
 intro A0 c0 l0 A1 c1 l1 A2 c2 l2 A3 c3 l3 a4 a5 r1 r2 w hr0 hc0 hr1 hc1 hr2 hc2 hr3 hc3 h
 cases k with
 | zero => exact absurd h (by simp [zdu])
 | succ k =>
 simp only [zdu] at h
 have HR0 := zA hr0
 have HC0 := zA hc0
 clear hr0 hc0
 have HR1 := zA hr1
 have HC1 := zA hc1
 clear hr1 hc1
 have HR2 := zA hr2
 have HC2 := zA hc2
 clear hr2 hc2
 have HR3 := zA hr3
 have HC3 := zA hc3
 clear hr3 hc3
 have HB := zA (Below.refl w.heap.size w)
 have H := h
 unfold zdu at H
 clear h
 by_cases c7 : (l3.length : Int) = (l0.length : Int)
 · rw [if_pos c7] at H
   obtain ⟨c7b0, c7b1⟩ := zbe c7
   have c7b2 : (l3.length == l0.length) = true := by first | simpa using c7 | (simp at c7 ⊢; omega)
   clear c7
   replace H := zob H
   obtain ⟨t101, A80, H⟩ := H
   have A8 := zA A80
   clear A80
   simp only [Option.some.injEq, Prod.mk.injEq] at H
   obtain ⟨rfl, rfl⟩ := H
   go_enter Tryz.func128, Tryz.ntmps128
   go_wp2_with (first | ((with_reducible refine zgc 90 ?_); refine zca 31 Tryz.func90 #[.slice A3 l3.length c3] (zk7 _ _ l3 t101 _ (zq17 HR3) HC3.out A8.out) ?_; rintro e w9 ⟨v102, rfl, ho0, hb⟩; refine ⟨_, rfl, ?_⟩; have HO103 := zA (Kd.R_lower ho0 (zah zq1)); replace HB := zA (zac zq1 hb); (try clear hb); (try clear ho0)))
   go_ret2
   exact ⟨_, zq5, zq2 HO103, zq1⟩
 rw [if_neg c7] at H
 obtain ⟨c7b0, c7b1⟩ := zbq c7
 have c7b2 : (l3.length == l0.length) = false := by first | simpa using c7 | (simp at c7 ⊢; omega)
 have H' := zA H
 clear H
 go_enter Tryz.func128, Tryz.ntmps128
 go_wp2
 go_loopg [15, 34] k (fun kq v15 v34 w' => ∃ (x15_1 : Int) (x34_1 : Int), v15 = .int .i64 x15_1 ∧ v34 = .int .i64 x34_1 ∧ Aside0 (zd0 kq l0 l1 l2 l3 a4 a5 (l3.length : Int) x15_1 l3 (l3.length : Int) x34_1 = some (r1, r2)) ∧ Aside0 (kq ≤ k) ∧ Aside0 (Below w.heap.size w w'))
 case atStart => exact ⟨(0), (0), zq8, zq8, H', ⟨zlr _⟩, ⟨zq1⟩⟩
 clear H'
 obtain ⟨x15_1, x34_1, rfl, rfl, HA, HK1, HB⟩ := hrel
 cases gk with
 | zero => exact absurd HA.out (by simp [zd0])
 | succ k1 =>
 have H := HA.out
 clear HA
 simp only [zd0] at H
 revert H
 refine zit (fun c10b0 H => ?_) fun c10b0 H => ?_
 · revert H
   refine zin fun c11 H => ?_
   revert H
   refine zin fun c12 H => ?_
   revert H
   refine zin fun c13 H => ?_
   by_cases c14 : 0 ≤ (l3.length : Int)
   rotate_left
   · rw [if_neg c14] at H
     exact absurd H (by simp)
   rw [if_pos c14] at H
   have c14b0 := zdt c14
   have c14b1 : decide (0 ≤ l3.length) = true := zdt (by omega)
   clear c14
   by_cases c15 : (l3.length : Int) < ((za1 l1 x34_1).length : Int)
   rotate_left
   · rw [if_neg c15] at H
     exact absurd H (by simp)
   rw [if_pos c15] at H
   have c15b0 := zdt c15
   have c15b1 : decide (l3.length < (za1 l1 x34_1).length) = true := zdt (Int.ofNat_lt.mp c15)
   clear c15
   by_cases c16 : (rd (za1 l1 x34_1) (l3.length : Int)) ≥ 0
   rotate_left
   · rw [if_neg c16] at H
     have c16b0 := zdf c16
     clear c16
     have H' := zA H
     clear H
     obtain ⟨p104, q104⟩ := zpq x34_1 l3.length
     obtain ⟨ad104, e104, hx104_0⟩ := Kd.at_int HR3.out x34_1 (zoe p104) (zoe q104)
     cases e104
     replace hx104_0 := zkep HB.out hx104_0
     obtain ⟨p105, q105⟩ := zpq x34_1 l1.length
     obtain ⟨ad105, A105_0, c105_0, e105, hx105_0, hl105_0, hi105_0⟩ := zkm HR1.out x34_1 (zoe p105) (zoe q105)
     cases e105
     replace hx105_0 := zkep HB.out hx105_0
     have HR105_0 := zA hi105_0
     have HC105_0 := zA hl105_0
     clear hi105_0 hl105_0
     have p106 : 0 ≤ ((l3.length : Int) : Int) := zde zq21
     have q106 : (l3.length : Int) < ((za1 l1 x34_1).length : Int) := zde zq21
     obtain ⟨ad106, e106, hx106_0⟩ := Kd.at_int HR105_0.out (l3.length : Int) p106 q106
     cases e106
     replace hx106_0 := zkep HB.out hx106_0
     (try simp only [Go.IntWalk.toNatUp] at hx106_0)
     replace p106 := eq_true p106
     replace q106 := eq_true q106
     go_wp2
     go_roundg k1
     case measure => have := HK1.out; omega
     case rel => exact ⟨(x15_1), (wrap64 (x34_1 + 1)), zq8, zq8, H', ⟨zq46 HK1⟩, ⟨zq1⟩⟩
   rw [if_pos c16] at H
   have c16b0 := zdt c16
   clear c16
   replace H := zob H
   obtain ⟨t109, A170, H⟩ := H
   have A17 := zA A170
   clear A170
   have H' := zA H
   clear H
   obtain ⟨p104, q104⟩ := zpq x34_1 l3.length
   obtain ⟨ad104, e104, hx104_0⟩ := Kd.at_int HR3.out x34_1 (zoe p104) (zoe q104)
   cases e104
   replace hx104_0 := zkep HB.out hx104_0
   obtain ⟨p105, q105⟩ := zpq x34_1 l1.length
   obtain ⟨ad105, A105_0, c105_0, e105, hx105_0, hl105_0, hi105_0⟩ := zkm HR1.out x34_1 (zoe p105) (zoe q105)
   cases e105
   replace hx105_0 := zkep HB.out hx105_0
   have HR105_0 := zA hi105_0
   have HC105_0 := zA hl105_0
   clear hi105_0 hl105_0
   have p106 : 0 ≤ ((l3.length : Int) : Int) := zde zq21
   have q106 : (l3.length : Int) < ((za1 l1 x34_1).length : Int) := zde zq21
   obtain ⟨ad106, e106, hx106_0⟩ := Kd.at_int HR105_0.out (l3.length : Int) p106 q106
   cases e106
   replace hx106_0 := zkep HB.out hx106_0
   (try simp only [Go.IntWalk.toNatUp] at hx106_0)
   replace p106 := eq_true p106
   replace q106 := eq_true q106
   obtain ⟨p107, q107⟩ := zpq x34_1 l1.length
   obtain ⟨ad107, A107_0, c107_0, e107, hx107_0, hl107_0, hi107_0⟩ := zkm HR1.out x34_1 (zoe p107) (zoe q107)
   obtain rfl : ad105 = ad107 := (by injection e107)
   replace hx107_0 := zkep HB.out hx107_0
   have HR107_0 := zA hi107_0
   have HC107_0 := zA hl107_0
   clear hi107_0 hl107_0
   have ea_ := zsi (hx105_0.symm.trans hx107_0)
   injection ea_ with ea_ en_ ec_
   subst ea_
   subst ec_
   clear en_
   have p108 : 0 ≤ ((l3.length : Int) : Int) := zde zq21
   have q108 : (l3.length : Int) < ((za1 l1 x34_1).length : Int) := zde zq21
   obtain ⟨ad108, e108, hx108_0⟩ := Kd.at_int HR107_0.out (l3.length : Int) p108 q108
   cases e108
   replace hx108_0 := zkep HB.out hx108_0
   (try simp only [Go.IntWalk.toNatUp] at hx108_0)
   replace p108 := eq_true p108
   replace q108 := eq_true q108
   go_wp2_with (first | ((with_reducible refine zgc 103 ?_); refine zcl 57 Tryz.func103 (zdz x15_1 (wrap64 ((rd l3 x34_1) + (rd (za1 l1 x34_1) (l3.length : Int)))) t109 _ A17.out) ?_; rintro e w' ⟨rfl, ⟨nd, rfl⟩⟩; refine ⟨_, rfl, ?_⟩))
   go_roundg k1
   case measure => have := HK1.out; omega
   case rel => exact ⟨(t109), (wrap64 (x34_1 + 1)), zq8, zq8, H', ⟨zq46 HK1⟩, ⟨zq1⟩⟩
 have H' := zA H
 clear H
 go_wp2
 go_loopg [18] k1 (fun kq v18 w' => ∃ (x18_2 : Int), v18 = .int .i64 x18_2 ∧ Aside0 (zdo kq l0 l1 l2 l3 a4 a5 (l3.length : Int) x18_2 = some (r1, r2)) ∧ Aside0 (kq ≤ k1) ∧ Aside0 (Below w.heap.size w w'))
 case atStart => exact ⟨(x15_1), zq8, H', ⟨zlr _⟩, ⟨zq1⟩⟩
 clear H'
 obtain ⟨x18_2, rfl, HA, HK2, HB⟩ := hrel
 cases gk with
 | zero => exact absurd HA.out (by simp [zdo])
 | succ k2 =>
 have H := HA.out
 clear HA
 simp only [zdo] at H
 by_cases c18 : 0 ≤ (l3.length : Int)
 rotate_left
 · rw [if_neg c18] at H
   exact absurd H (by simp)
 rw [if_pos c18] at H
 have c18b0 := zdt c18
 have c18b1 : decide (0 ≤ l3.length) = true := zdt (by omega)
 clear c18
 by_cases c19 : (l3.length : Int) < (l2.length : Int)
 rotate_left
 · rw [if_neg c19] at H
   exact absurd H (by simp)
 rw [if_pos c19] at H
 have c19b0 := zdt c19
 have c19b1 : decide (l3.length < l2.length) = true := zdt (Int.ofNat_lt.mp c19)
 clear c19
 revert H
 refine zit (fun c20 H => ?_) fun c20 H => ?_
 rotate_left
 · simp only [Option.some.injEq, Prod.mk.injEq] at H
   obtain ⟨rfl, rfl⟩ := H
   have p110 : 0 ≤ ((l3.length : Int) : Int) := zde zq21
   have q110 : (l3.length : Int) < (l2.length : Int) := zde zq21
   obtain ⟨ad110, e110, hx110_0⟩ := Kd.at_int HR2.out (l3.length : Int) p110 q110
   cases e110
   replace hx110_0 := zkep HB.out hx110_0
   (try simp only [Go.IntWalk.toNatUp] at hx110_0)
   replace p110 := eq_true p110
   replace q110 := eq_true q110
   go_wp2
   go_ret2
   exact ⟨_, zq5, zq24, zq1⟩
 have H' := zA H
 clear H
 have p110 : 0 ≤ ((l3.length : Int) : Int) := zde zq21
 have q110 : (l3.length : Int) < (l2.length : Int) := zde zq21
 obtain ⟨ad110, e110, hx110_0⟩ := Kd.at_int HR2.out (l3.length : Int) p110 q110
 cases e110
 replace hx110_0 := zkep HB.out hx110_0
 (try simp only [Go.IntWalk.toNatUp] at hx110_0)
 replace p110 := eq_true p110
 replace q110 := eq_true q110
 go_wp2
 go_loopg [19, 72] k2 (fun kq v19 v72 w' => ∃ (x19_3 : Int) (x72_3 : Int), v19 = .int .i64 x19_3 ∧ v72 = .int .i64 x72_3 ∧ Aside0 (zd1 kq l0 l1 l2 l3 a4 a5 (l3.length : Int) x18_2 x19_3 l3 (l3.length : Int) x72_3 = some (r1, r2)) ∧ Aside0 (kq ≤ k2) ∧ Aside0 (Below w.heap.size w w'))
 case atStart => exact ⟨(0), (0), zq8, zq8, H', ⟨zlr _⟩, ⟨zq1⟩⟩
 clear H'
 obtain ⟨x19_3, x72_3, rfl, rfl, HA, HK3, HB⟩ := hrel
 cases gk with
 | zero => exact absurd HA.out (by simp [zd1])
 | succ k3 =>
 have H := HA.out
 clear HA
 simp only [zd1] at H
 revert H
 refine zit (fun c21b0 H => ?_) fun c21b0 H => ?_
 · revert H
   refine zin fun c22 H => ?_
   revert H
   refine zin fun c23 H => ?_
   by_cases c24 : (rd l3 x72_3) = x18_2
   rotate_left
   · rw [if_neg c24] at H
     obtain ⟨c24b0, c24b1⟩ := zbq c24
     have H' := zA H
     clear H
     obtain ⟨p111, q111⟩ := zpq x72_3 l3.length
     obtain ⟨ad111, e111, hx111_0⟩ := Kd.at_int HR3.out x72_3 (zoe p111) (zoe q111)
     cases e111
     replace hx111_0 := zkep HB.out hx111_0
     go_wp2
     go_roundg k3
     case measure => have := HK1.out; have := HK2.out; have := HK3.out; omega
     case rel => exact ⟨(x19_3), (wrap64 (x72_3 + 1)), zq8, zq8, H', ⟨zq42 HK1 HK2 HK3⟩, ⟨zq1⟩⟩
   rw [if_pos c24] at H
   obtain ⟨c24b0, c24b1⟩ := zbe c24
   clear c24
   have H' := zA H
   clear H
   obtain ⟨p111, q111⟩ := zpq x72_3 l3.length
   obtain ⟨ad111, e111, hx111_0⟩ := Kd.at_int HR3.out x72_3 (zoe p111) (zoe q111)
   cases e111
   replace hx111_0 := zkep HB.out hx111_0
   go_wp2
   go_roundg k3
   case measure => have := HK1.out; have := HK2.out; have := HK3.out; omega
   case rel => exact ⟨(wrap64 (x19_3 + 1)), (wrap64 (x72_3 + 1)), zq8, zq8, H', ⟨zq42 HK1 HK2 HK3⟩, ⟨zq1⟩⟩
 by_cases c25 : x19_3 = a4
 · rw [if_pos c25] at H
   obtain ⟨c25b0, c25b1⟩ := zbe c25
   clear c25
   have H' := zA H
   clear H
   go_wp2
   go_roundg k3
   case measure => have := HK1.out; have := HK2.out; have := HK3.out; omega
   case rel => exact ⟨(wrap64 (x18_2 + 1)), zq8, H', ⟨zq42 HK1 HK2 HK3⟩, ⟨zq1⟩⟩
 rw [if_neg c25] at H
 obtain ⟨c25b0, c25b1⟩ := zbq c25
 replace H := zob H
 obtain ⟨t112, A260, H⟩ := H
 have A26 := zA A260
 clear A260
 by_cases c27 : t112.length < 17592186044416
 rotate_left
 · rw [if_neg c27] at H
   exact absurd H (by simp)
 rw [if_pos c27] at H
 have LMc27 := zA c27
 clear c27
 obtain ⟨y115, hy115⟩ : ∃ y_ : List Int, y_ = (t112 ++ [x18_2]) := ⟨_, rfl⟩
 rw [← hy115] at H; try with_reducible replace H := zbs H
 have Ny115 := zA hy115
 clear hy115
 replace H := zob H
 obtain ⟨⟨t118, t119⟩, A280, H⟩ := H
 have A28 := zA A280
 clear A280
 by_cases c29 : t119 = true
 · subst c29
   replace H := zih H
   simp only [Option.some.injEq, Prod.mk.injEq] at H
   obtain ⟨rfl, rfl⟩ := H
   go_wp2_with (first | ((with_reducible refine zgc 90 ?_); refine zca 90 Tryz.func90 #[.slice A3 l3.length c3] (zk7 _ _ l3 t112 _ (zq15 HR3) HC3.out A26.out) ?_; rintro e w30 ⟨v113, rfl, ho0, hb⟩; refine ⟨_, rfl, ?_⟩; have HO114 := zA (Kd.R_lower ho0 (zah zq1)); replace HB := zA (zac zq1 hb); (try clear hb); (try clear ho0)) | ((with_reducible refine zc7 (b := .append) (xs := #[.tmp 90, .tmp 92]) rfl ?_); at_builtin; refine Kd.R_append (Kd.int .i64) (w0 := w) w.heap.size rfl (.tmp 90) (.tmp 92) 25 3 (.int .i64 0) 8 rfl Tryz.underlying25 zkf rfl (by decide) (by omega) v113 t112 x18_2 [.int .i64 x18_2] (fun _ => True) (fun _ => False) rfl rfl ?aP (fun _ hk => hk.elim) ?aF ?aO ?aB ?aS ?aL ?_; (case aP => exact rfl); (case aB => exact zq1); (case aF => exact (fun _ _ => trivial)); (case aO => exact (zq2 HO114)); (case aS => exact (zah zq1)); (case aL => have := LMc27.out; omega); intro v116 w31 ho hb hg hat; rw [← Ny115.out] at ho; replace HB := zA (hb); have HO117 := zA (ho); clear HO114; clear ho hb hg hat; obtain ⟨Ao32, co32, eo32⟩ := Kd.R_slice HO117.out; subst eo32) | ((with_reducible refine zgc 128 ?_); refine zca 96 Tryz.func128 #[.slice A0 l0.length c0, .slice A1 l1.length c1, .slice (some ad110) l2.length c2, .slice Ao32 y115.length co32, .int .i64 a4, .int .i64 a5] (ih k3 (zq42 HK1 HK2 HK3) _ _ l0 _ _ l1 _ _ l2 _ _ y115 a4 a5 t118 true _ (zq15 HR0) HC0.out (zq15 HR1) HC1.out (zq15 HR2) HC2.out (zq18 HO117) (zq43 HO117) A28.out) ?_; rintro e w33 ⟨v120, rfl, ho0, hb⟩; refine ⟨_, rfl, ?_⟩; have HO121 := zA (Kd.R_lower (Kd.R_new' ho0 (Kd.R_lt (zq2 HO117))) (zah zq1)); replace HO117 := zA (Kd.R_elder' (zq2 HO117) (Kd.R_base ho0) hb); replace HB := zA (zac zq1 hb); (try clear hb); (try clear ho0)))
   go_ret2
   exact ⟨_, zq5, zq53 HO121, zq1⟩
 replace c29 := zbf c29
 subst c29
 replace H := zif H
 have H' := zA H
 clear H
 go_wp2_with (first | ((with_reducible refine zgc 90 ?_); refine zca 90 Tryz.func90 #[.slice A3 l3.length c3] (zk7 _ _ l3 t112 _ (zq15 HR3) HC3.out A26.out) ?_; rintro e w34 ⟨v113, rfl, ho0, hb⟩; refine ⟨_, rfl, ?_⟩; have HO114 := zA (Kd.R_lower ho0 (zah zq1)); replace HB := zA (zac zq1 hb); (try clear hb); (try clear ho0)) | ((with_reducible refine zc7 (b := .append) (xs := #[.tmp 90, .tmp 92]) rfl ?_); at_builtin; refine Kd.R_append (Kd.int .i64) (w0 := w) w.heap.size rfl (.tmp 90) (.tmp 92) 25 3 (.int .i64 0) 8 rfl Tryz.underlying25 zkf rfl (by decide) (by omega) v113 t112 x18_2 [.int .i64 x18_2] (fun _ => True) (fun _ => False) rfl rfl ?aP (fun _ hk => hk.elim) ?aF ?aO ?aB ?aS ?aL ?_; (case aP => exact rfl); (case aB => exact zq1); (case aF => exact (fun _ _ => trivial)); (case aO => exact (zq2 HO114)); (case aS => exact (zah zq1)); (case aL => have := LMc27.out; omega); intro v116 w35 ho hb hg hat; rw [← Ny115.out] at ho; replace HB := zA (hb); have HO117 := zA (ho); clear HO114; clear ho hb hg hat; obtain ⟨Ao36, co36, eo36⟩ := Kd.R_slice HO117.out; subst eo36) | ((with_reducible refine zgc 128 ?_); refine zca 96 Tryz.func128 #[.slice A0 l0.length c0, .slice A1 l1.length c1, .slice (some ad110) l2.length c2, .slice Ao36 y115.length co36, .int .i64 a4, .int .i64 a5] (ih k3 (zq42 HK1 HK2 HK3) _ _ l0 _ _ l1 _ _ l2 _ _ y115 a4 a5 t118 false _ (zq15 HR0) HC0.out (zq15 HR1) HC1.out (zq15 HR2) HC2.out (zq18 HO117) (zq43 HO117) A28.out) ?_; rintro e w37 ⟨v120, rfl, ho0, hb⟩; refine ⟨_, rfl, ?_⟩; have HO121 := zA (Kd.R_lower (Kd.R_new' ho0 (Kd.R_lt (zq2 HO117))) (zah zq1)); replace HO117 := zA (Kd.R_elder' (zq2 HO117) (Kd.R_base ho0) hb); replace HB := zA (zac zq1 hb); (try clear hb); (try clear ho0)))
 go_roundg k3
 case measure => have := HK1.out; have := HK2.out; have := HK3.out; omega
 case rel => exact ⟨(wrap64 (x18_2 + 1)), zq8, H', ⟨zq42 HK1 HK2 HK3⟩, ⟨zq1⟩⟩
mutual
def zcp : Nat → List (S55) → List (List Int) → List Int → Int → Option (List Int)
 | 0, _, _, _, _ => none
 | k + 1, x0, x3, x4, x5 => if x5 ≥ 0 then (if 0 ≤ x5 then (if x5 < (x0.length : Int) then ((zf9 ((zaa x0 x5).f0)).bind fun t108 => (if x5 < (x4.length : Int) then (zcq k x0 x3 (x4.set (x5 : Int).toNat t108) x5 (wrap64 (x5 + 1))) else (none))) else (none)) else (none)) else (some x4)
def zcq : Nat → List (S55) → List (List Int) → List Int → Int → Int → Option (List Int)
 | 0, _, _, _, _, _ => none
 | k + 1, x0, x3, x4, x5, x6 => if x6 < (x0.length : Int) then (if 0 ≤ x5 then (if x5 < (x3.length : Int) then (if 0 ≤ x6 then (if x6 < ((za1 x3 x5).length : Int) then (if (rd (za1 x3 x5) x6) ≥ 0 then (if x5 < (x4.length : Int) then (if x6 < (x4.length : Int) then ((zdb (rd x4 x5) (wrap64 ((rd (za1 x3 x5) x6) + (rd x4 x6)))).bind fun t116 => (zcq k x0 x3 (x4.set (x5 : Int).toNat t116) x5 (wrap64 (x6 + 1)))) else (none)) else (none)) else (zcq k x0 x3 x4 x5 (wrap64 (x6 + 1)))) else (none)) else (none)) else (none)) else (none)) else (zcp k x0 x3 x4 (wrap64 (x5 - 1)))
end
def zfa (k : Nat) (l0 : List (S55)) : Option (List Int) := (ze1 k l0).bind fun t101 => (if 0 ≤ (l0.length : Int) then (if ((l0.length : Int) : Int).toNat ≤ 35184372088832 then (zcp k l0 t101 (List.replicate ((l0.length : Int) : Int).toNat 0) (wrap64 ((l0.length : Int) - 1))) else (none)) else (none))
theorem zk1 : ∀ k, (∀ y0 y1 y2 y3, LeO (zcp k y0 y1 y2 y3) (zcp (k + 1) y0 y1 y2 y3)) ∧ (∀ y0 y1 y2 y3 y4, LeO (zcq k y0 y1 y2 y3 y4) (zcq (k + 1) y0 y1 y2 y3 y4))
 | 0 => ⟨fun _ _ _ _ r h => by simp [zcp] at h, fun _ _ _ _ _ r h => by simp [zcq] at h⟩
 | k + 1 => by
   obtain ⟨ih0, ih1⟩ := zk1 k
   refine ⟨?_, ?_⟩
   · intro y0 y1 y2 y3
     unfold zcp
     exact zm3 ih0 ih1 zct
   · intro y0 y1 y2 y3 y4
     unfold zcq
     exact zm3 ih0 ih1 zct
theorem zh2 : ∀ a0 k, LeO (zfa k a0) (zfa (k + 1) a0) := by
 intro a0 k
 obtain ⟨ih0, ih1⟩ := zk1 k
 unfold zfa
 exact zm3 ih0 ih1 zct
def spec_orHeights.T11 : Bool × List (List Nat × List Nat) := (true, [([], []), ([], []), ([], []), ([], []), ([2, 3], [2, 3]), ([4], [4]), ([], []), ([], []), ([6, 7], [6, 7]), ([8], [8]), ([], []), ([9, 10], [9, 10]), ([11], [11]), ([], []), ([], []), ([13, 14], [13, 14]), ([15], [15]), ([12, 16], [12, 16]), ([5, 17], [5, 17]), ([0, 1, 0, 1, 2, 3, 4, 5, 6, 7, 8, 9, 10, 11, 12, 13, 14, 15, 16, 17, 18], [0, 1]), ([19, 18, 18, 0, 1, 2, 3, 4, 5, 6, 7, 8, 9, 10, 11, 12, 13, 14, 15, 16, 17, 18], [18, 19])])
def zp7 : List Nat := [0, 0, 0, 0, 12, 28, 0, 0, 192, 448, 0, 1984, 4032, 0, 0, 24576, 57344, 131008, 262140, 524287, 1048575]
theorem zo9 : rtab .any (zuf Tryz.f125 11) = spec_orHeights.T11 := by kernel_rfl
theorem zon : zke spec_orHeights.T11.2 zp7 = true := by kernel_rfl
theorem zli (k : Nat) (A0 : Option Addr) (c0 : Nat) (l0 : List (S55)) (r : List Int) (w : World) (hr0 : Kd.C k55 w A0 l0.length l0) (hc0 : l0.length ≤ c0) (h : zfa k l0 = some r) :
   Calls Tryz.prog 125 #[.slice A0 l0.length c0] w fun e w' => ∃ v0_ : Value, e = .returned (v0_) ∧ Kd.R (Kd.int .i64) 3 w' w.heap.size (fun _ => True) v0_ r ∧ Below w.heap.size w w' := by
 have HR0 := zA hr0
 have HC0 := zA hc0
 clear hr0 hc0
 have HB := zA (Below.refl w.heap.size w)
 have H := h
 unfold zfa at H
 clear h
 replace H := zob H
 obtain ⟨t101, A20, H⟩ := H
 have A2 := zA A20
 clear A20
 by_cases c3 : 0 ≤ (l0.length : Int)
 rotate_left
 · rw [if_neg c3] at H
   exact absurd H (by simp)
 rw [if_pos c3] at H
 have c3b0 := eq_true c3
 have c3b1 := zdt c3
 clear c3
 by_cases c4 : ((l0.length : Int) : Int).toNat ≤ 35184372088832
 rotate_left
 · rw [if_neg c4] at H
   exact absurd H (by simp)
 rw [if_pos c4] at H
 have c4b0 := eq_true c4
 have c4b1 := zdt c4
 clear c4
 obtain ⟨y104, hy104⟩ : ∃ y_ : List Int, y_ = (List.replicate ((l0.length : Int) : Int).toNat 0) := ⟨_, rfl⟩
 rw [← hy104] at H; try with_reducible replace H := zbs H
 have Ny104 := zA hy104
 clear hy104
 have H' := zA H
 clear H
 go_enter Tryz.func125, Tryz.ntmps125
 go_wp2_with (first | ((with_reducible refine zgc 62 ?_); refine zca 8 Tryz.func62 #[.slice A0 l0.length c0] (zh1 k _ _ l0 t101 _ (zq17 HR0) HC0.out A2.out) ?_; rintro e w5 ⟨v102, rfl, ho0, hb⟩; refine ⟨_, rfl, ?_⟩; have HO103 := zA (Kd.S_lower ho0 (zah zq1)); replace HB := zA (zac zq1 hb); (try clear hb); (try clear ho0)) | ((with_reducible refine zgd 11 ?_); refine Kd.R_make (Kd.int .i64) _ 3 rfl (N := 11) rfl 25 _ _ rfl (l0.length : Int) rfl rfl Tryz.underlying25 (.int .i64 0) 8 zkf rfl (by decide) (by omega) 0 (ok := fun _ => True) (okp := fun _ => True) rfl (fun _ hk => hk) trivial (zde zq21) (Nat.le_trans (Nat.mul_le_mul_right _ (zde zq21 : (l0.length : Int).toNat ≤ 35184372088832)) (by omega)) (Below.refl _ _) (zlr _) ?_; intro v105 w6 ho7 hb hg_ hnew_; clear hg_ hnew_; (first | rw [← Ny104.out] at ho7 | (simp only [Int.reduceToNat] at ho7; rw [← Ny104.out] at ho7)); replace HO103 := zA (Kd.S_elder' (zq16 HO103) (Kd.R_base ho7) hb); have HO106 := zA (Kd.R_lower ho7 (zah zq1)); replace HB := zA (zac zq1 hb); clear hb ho7))
 go_loopg [5] k (fun kq v5 w' => ∃ (x4_1 : List Int) (x5_1 : Int), v5 = .int .i64 x5_1 ∧ Aside0 (zcp kq l0 t101 x4_1 x5_1 = some r) ∧ Aside0 (kq ≤ k) ∧ Aside0 (Kd.S (Kd.slice 3 (Kd.int .i64)) 25 w' w.heap.size (fun k_ => some k_ ≠ (v105 : Value).ownBlock) v102 t101) ∧ Aside0 (Kd.R (Kd.int .i64) 3 w' w.heap.size (fun _ => True) v105 x4_1) ∧ Aside0 (Below w.heap.size w w'))
 case atStart => exact ⟨(y104), (wrap64 ((l0.length : Int) - 1)), zq8, H', ⟨zlr _⟩, ⟨zq34 HO103⟩, ⟨zq2 HO106⟩, ⟨zq1⟩⟩
 clear H'
 obtain ⟨x4_1, x5_1, rfl, HA, HK1, HO_3, HO_4, HB⟩ := hrel
 cases gk with
 | zero => exact absurd HA.out (by simp [zcp])
 | succ k1 =>
 have H := HA.out
 clear HA
 simp only [zcp] at H
 by_cases c8 : x5_1 ≥ 0
 rotate_left
 · rw [if_neg c8] at H
   have c8b0 := zdf c8
   clear c8
   obtain rfl := zsi H
   go_wp2
   go_ret
   exact ⟨_, zq5, zq2 HO_4, zq1⟩
 rw [if_pos c8] at H
 have c8b0 := zdt c8
 clear c8
 revert H
 refine zin fun c9 H => ?_
 revert H
 refine zin fun c10 H => ?_
 replace H := zob H
 obtain ⟨t108, A110, H⟩ := H
 have A11 := zA A110
 clear A110
 revert H
 refine zin fun c12 H => ?_
 obtain ⟨y109, hy109⟩ : ∃ y_ : List Int, y_ = (x4_1.set (x5_1 : Int).toNat t108) := ⟨_, rfl⟩
 rw [← hy109] at H; try with_reducible replace H := zbs H
 have Ny109 := zA hy109
 clear hy109
 have H' := zA H
 clear H
 obtain ⟨p107, q107⟩ := zpq x5_1 l0.length
 obtain ⟨ad107, e107, hx107_0, hx107_1, hx107_2, hx107_3, hx107_4⟩ := zi7 HR0.out x5_1 (zoe p107) (zoe q107)
 cases e107
 replace hx107_0 := zkep HB.out hx107_0
 replace hx107_1 := zkep HB.out hx107_1
 replace hx107_2 := zkep HB.out hx107_2
 replace hx107_3 := zkep HB.out hx107_3
 replace hx107_4 := zkep HB.out hx107_4
 go_wp2_with (first | ((with_reducible refine zgc 100 ?_); refine zcl 26 Tryz.func100 (zfz ((zaa l0 x5_1).f0) t108 _ A11.out) ?_; rintro e w' ⟨rfl, ⟨nd, rfl⟩⟩; refine ⟨_, rfl, ?_⟩; (try (rw [zgn wr]; generalize hq_ : World.drewN wr _ = wr; have n0_ : Aside0 (Kd.S (Kd.slice 3 (Kd.int .i64)) 25 wr w.heap.size (fun k_ => some k_ ≠ (v105 : Value).ownBlock) v102 t101) := ⟨by rw [← hq_]; exact (zq16 HO_3)⟩; have n1_ : Aside0 (Kd.R (Kd.int .i64) 3 wr w.heap.size (fun _ => True) v105 x4_1) := ⟨by rw [← hq_]; exact (zq2 HO_4)⟩; have n2_ : Aside0 (Below w.heap.size w wr) := ⟨by rw [← hq_]; exact zq1⟩; clear HO_3 HO_4 HB hq_; have HO_3 := n0_; have HO_4 := n1_; have HB := n2_; clear n0_ n1_ n2_)); have p13 : 0 ≤ (x5_1 : Int) := zde zq21; have q13 : (x5_1 : Int) < ((x4_1.length : Int) : Int) := zde zq21; obtain ⟨go13, co13, eo13, gb13, gl13, cl13, HG13⟩ := Kd.R_form HO_4.out (by omega); (first | cases eo13 | (injection eo13 with ea_ en_ ec_; (first | subst ea_ | (injection ea_ with ea_; subst ea_)); subst ec_; clear en_)); have GB13 := zA gb13; have GG13 := zA HG13; clear gb13 gl13 HG13; obtain ⟨hx13_0, hf13_0⟩ := Kd.R_celln 0 HO_4.out (x5_1 : Int) p13 q13; replace p13 := eq_true p13; replace q13 := eq_true q13; obtain ⟨hy14_, hz14_⟩ := Kd.R_celln 0 HO_4.out (x5_1 : Int) (zde zq21) (zde zq21); have HP14 := Kd.R_putg HO_4.out (x5_1 : Int) t108) | ((with_reducible refine zgs 3 27 ?_); refine zse (wr.setCell ⟨go13, (x5_1 : Int).toNat, none⟩ (.int .i64 t108)) ?_; intro w15 hw; have hg : wr.grownBy w15 (some go13) := (by rw [hw]; exact HP14.2); have hp_ : Kd.R (Kd.int .i64) 3 w15 w.heap.size (fun _ => True) (.slice (some ⟨go13, 0, none⟩) x4_1.length co13) y109 := (by rw [hw, Ny109.out]; exact HP14.1); clear HP14; replace HO_3 := zA (Kd.S_after (v := (.slice (some ⟨go13, 0, none⟩) x4_1.length co13)) (v1 := (.slice (some ⟨go13, 0, none⟩) x4_1.length co13)) (ok := (fun _ => True)) (zq50 HO_3) hg (.inl rfl)); replace HO_4 := zA (hp_); replace HB := zA ((zq57 GB13 : Below w.heap.size w w15)); clear hg hw hp_))
 go_loopg [6] k1 (fun kq v6 w' => ∃ (x4_2 : List Int) (x6_2 : Int), v6 = .int .i64 x6_2 ∧ Aside0 (zcq kq l0 t101 x4_2 x5_1 x6_2 = some r) ∧ Aside0 (kq ≤ k1) ∧ Aside0 (Kd.S (Kd.slice 3 (Kd.int .i64)) 25 w' w.heap.size (fun k_ => some k_ ≠ ((.slice (some ⟨go13, 0, none⟩) x4_1.length co13) : Value).ownBlock) v102 t101) ∧ Aside0 (Kd.R (Kd.int .i64) 3 w' w.heap.size (fun _ => True) (.slice (some ⟨go13, 0, none⟩) x4_1.length co13) x4_2) ∧ Aside0 (Below w.heap.size w w'))
 case atStart => exact ⟨(y109), (wrap64 (x5_1 + 1)), zq8, H', ⟨zlr _⟩, ⟨zq34 HO_3⟩, ⟨zq2 HO_4⟩, ⟨zq1⟩⟩
 clear H'
 obtain ⟨x4_2, x6_2, rfl, HA, HK2, HO_3, HO_4, HB⟩ := hrel
 have hl4_2 := (zRr HO_4.out).1
 rw [hl4_2] at HO_4
 (try simp only [hl4_2])
 (try simp only [hl4_2] at HO_3)
 cases gk with
 | zero => exact absurd HA.out (by simp [zcq])
 | succ k2 =>
 have H := HA.out
 clear HA
 simp only [zcq] at H
 revert H
 refine zit (fun c16 H => ?_) fun c16 H => ?_
 rotate_left
 · have H' := zA H
   clear H
   go_wp2
   (try simp only [← hl4_2])
   go_roundg k2
   case measure => have := HK1.out; have := HK2.out; omega
   case rel => exact ⟨(x4_2), (wrap64 (x5_1 - 1)), zq8, H', ⟨zq48 HK1 HK2⟩, ⟨by (try simp only [hl4_2]); (with_reducible repeat (first | apply zSa | apply zSn | apply zSd)); exact HO_3.out⟩, ⟨zq73 HO_4⟩, ⟨zq1⟩⟩
 revert H
 refine zin fun c17 H => ?_
 revert H
 refine zin fun c18 H => ?_
 revert H
 refine zin fun c19 H => ?_
 revert H
 refine zin fun c20 H => ?_
 by_cases c21 : (rd (za1 t101 x5_1) x6_2) ≥ 0
 rotate_left
 · rw [if_neg c21] at H
   have c21b0 := zdf c21
   clear c21
   have H' := zA H
   clear H
   obtain ⟨Ao29, co29, eo29⟩ := Kd.S_slice HO_3.out
   subst eo29
   have p110 : 0 ≤ (x5_1 : Int) := zde zq21
   have q110 : x5_1 < (t101.length : Int) := zde zq21
   obtain ⟨ad110, A110_0, c110_0, e110, hx110_0, hl110_0, hi110_0⟩ := zkm (zSr HO_3.out).2.2 x5_1 p110 q110
   cases e110
   obtain ⟨ce110, hce110, hMe110, hcc110⟩ := Kd.S_get HO_3.out [] x5_1 p110 (by first | exact q110 | exact zde zq21 | (have e_ := (zSr HO_3.out).1; omega))
   obtain ⟨ve110_0, rfl, ge110_0⟩ := hMe110
   have hv110_0 := hcc110 0 _ rfl
   rw [Nat.add_zero, show ((Kd.slice 3 (Kd.int .i64))).sz = 1 from rfl, Nat.mul_one] at hv110_0
   replace hv110_0 := zsi (hv110_0.symm.trans hx110_0)
   rw [hv110_0] at ge110_0
   have HL110_0 := zA (show Kd.R (Kd.int .i64) 3 _ _ _ _ (za1 t101 x5_1) from ge110_0)
   clear hv110_0 ge110_0
   clear hcc110 hce110
   have HR110_0 := zA hi110_0
   have HC110_0 := zA hl110_0
   clear hi110_0 hl110_0
   replace p110 := eq_true p110
   replace q110 := eq_true q110
   have p111 : 0 ≤ (x6_2 : Int) := zde zq21
   have q111 : x6_2 < ((za1 t101 x5_1).length : Int) := zde zq21
   obtain ⟨ad111, e111, hx111_0⟩ := Kd.at_int (zq20 HR110_0) x6_2 p111 q111
   cases e111
   replace p111 := eq_true p111
   replace q111 := eq_true q111
   go_wp2
   (try simp only [← hl4_2])
   go_roundg k2
   case measure => have := HK1.out; have := HK2.out; omega
   case rel => exact ⟨(x4_2), (wrap64 (x6_2 + 1)), zq8, H', ⟨zq48 HK1 HK2⟩, ⟨by (try simp only [hl4_2]); (with_reducible repeat (first | apply zSa | apply zSn | apply zSd)); exact HO_3.out⟩, ⟨zq73 HO_4⟩, ⟨zq1⟩⟩
 rw [if_pos c21] at H
 have c21b0 := zdt c21
 clear c21
 revert H
 refine zin fun c22 H => ?_
 revert H
 refine zin fun c23 H => ?_
 replace H := zob H
 obtain ⟨t116, A240, H⟩ := H
 have A24 := zA A240
 clear A240
 obtain ⟨y117, hy117⟩ : ∃ y_ : List Int, y_ = (x4_2.set (x5_1 : Int).toNat t116) := ⟨_, rfl⟩
 rw [← hy117] at H; try with_reducible replace H := zbs H
 have Ny117 := zA hy117
 clear hy117
 have H' := zA H
 clear H
 obtain ⟨Ao26, co26, eo26⟩ := Kd.S_slice HO_3.out
 subst eo26
 have p110 : 0 ≤ (x5_1 : Int) := zde zq21
 have q110 : x5_1 < (t101.length : Int) := zde zq21
 obtain ⟨ad110, A110_0, c110_0, e110, hx110_0, hl110_0, hi110_0⟩ := zkm (zSr HO_3.out).2.2 x5_1 p110 q110
 cases e110
 obtain ⟨ce110, hce110, hMe110, hcc110⟩ := Kd.S_get HO_3.out [] x5_1 p110 (by first | exact q110 | exact zde zq21 | (have e_ := (zSr HO_3.out).1; omega))
 obtain ⟨ve110_0, rfl, ge110_0⟩ := hMe110
 have hv110_0 := hcc110 0 _ rfl
 rw [Nat.add_zero, show ((Kd.slice 3 (Kd.int .i64))).sz = 1 from rfl, Nat.mul_one] at hv110_0
 replace hv110_0 := zsi (hv110_0.symm.trans hx110_0)
 rw [hv110_0] at ge110_0
 have HL110_0 := zA (show Kd.R (Kd.int .i64) 3 _ _ _ _ (za1 t101 x5_1) from ge110_0)
 clear hv110_0 ge110_0
 clear hcc110 hce110
 have HR110_0 := zA hi110_0
 have HC110_0 := zA hl110_0
 clear hi110_0 hl110_0
 replace p110 := eq_true p110
 replace q110 := eq_true q110
 have p111 : 0 ≤ (x6_2 : Int) := zde zq21
 have q111 : x6_2 < ((za1 t101 x5_1).length : Int) := zde zq21
 obtain ⟨ad111, e111, hx111_0⟩ := Kd.at_int (zq20 HR110_0) x6_2 p111 q111
 cases e111
 replace p111 := eq_true p111
 replace q111 := eq_true q111
 try go_wp2
 replace HO_3 := zA (zSd HO_3.out)
 replace HO_4 := zA (zRd HO_4.out)
 replace HL110_0 := zA (zRd HL110_0.out)
 replace HR110_0 := zA (zCd HR110_0.out)
 replace HB := zA (zbd HB.out)
 obtain ⟨p112, q112⟩ := zpq x5_1 x4_2.length
 obtain ⟨ad112, e112, hx112_0⟩ := Kd.at_int (zRr HO_4.out).2.2 x5_1 (zoe p112) (zoe q112)
 obtain rfl : (⟨go13, 0, none⟩ : Addr) = ad112 := (by injection e112)
 (first | simp only [ze4] at hx112_0 | simp only [zns] at hx112_0 | simp only [Addr.add, Nat.zero_add] at hx112_0 | skip)
 have p113 : 0 ≤ (x5_1 : Int) := zde zq21
 have q113 : x5_1 < (t101.length : Int) := zde zq21
 obtain ⟨ad113, A113_0, c113_0, e113, hx113_0, hl113_0, hi113_0⟩ := zkm (zSr HO_3.out).2.2 x5_1 p113 q113
 obtain rfl : ad110 = ad113 := (by injection e113)
 obtain ⟨ce113, hce113, hMe113, hcc113⟩ := Kd.S_get HO_3.out [] x5_1 p113 (by first | exact q113 | exact zde zq21 | (have e_ := (zSr HO_3.out).1; omega))
 obtain ⟨ve113_0, rfl, ge113_0⟩ := hMe113
 have hv113_0 := hcc113 0 _ rfl
 rw [Nat.add_zero, show ((Kd.slice 3 (Kd.int .i64))).sz = 1 from rfl, Nat.mul_one] at hv113_0
 replace hv113_0 := zsi (hv113_0.symm.trans hx113_0)
 rw [hv113_0] at ge113_0
 have HL113_0 := zA (show Kd.R (Kd.int .i64) 3 _ _ _ _ (za1 t101 x5_1) from ge113_0)
 clear hv113_0 ge113_0
 clear hcc113 hce113
 have HR113_0 := zA hi113_0
 have HC113_0 := zA hl113_0
 clear hi113_0 hl113_0
 replace p113 := eq_true p113
 replace q113 := eq_true q113
 have p114 : 0 ≤ (x6_2 : Int) := zde zq21
 have q114 : x6_2 < ((za1 t101 x5_1).length : Int) := zde zq21
 obtain ⟨ad114, e114, hx114_0⟩ := Kd.at_int (zq20 HR113_0) x6_2 p114 q114
 cases e114
 replace p114 := eq_true p114
 replace q114 := eq_true q114
 obtain ⟨p115, q115⟩ := zpq x6_2 x4_2.length
 obtain ⟨ad115, e115, hx115_0⟩ := Kd.at_int (zRr HO_4.out).2.2 x6_2 (zoe p115) (zoe q115)
 obtain rfl : (⟨go13, 0, none⟩ : Addr) = ad115 := (by injection e115)
 (first | simp only [ze4] at hx115_0 | simp only [zns] at hx115_0 | simp only [Addr.add, Nat.zero_add] at hx115_0 | skip)
 refine zk4 (n := 21) (S := fun w' => w'.cell? ⟨go13, (x5_1).toNat, none⟩ = some (.int .i64 (rd x4_2 x5_1)) ∧ w'.cell? (ad110.add (x5_1).toNat) = some (.slice (some ad114) (za1 t101 x5_1).length c113_0) ∧ w'.cell? (ad114.add (x6_2).toNat) = some (.int .i64 (rd (za1 t101 x5_1) x6_2)) ∧ w'.cell? ⟨go13, (x6_2).toNat, none⟩ = some (.int .i64 (rd x4_2 x6_2))) (ds := [20]) #[false, false, false, false, false, false, false, false, false, false, false, false, false, false, false, false, false, false, false, false, false] zq27 rfl rfl ⟨hx112_0, hx113_0, hx114_0, hx115_0⟩ (fun hHeld => ?_); refine zia zo9 zon (fun HT_ HW_ => ?_)
 generalize wr.drew = w27 at HO_3 HO_4 HL110_0 HR110_0 HB HL113_0 HR113_0 hx112_0 hx113_0 hx114_0 hx115_0 hHeld ⊢
 refine zpu 0 44 HT_ ?_
 refine zpu 1 45 HT_ ?_
 refine zpu 2 46 HT_ ?_
 refine zpu 3 47 HT_ ?_
 refine zpu 4 48 HT_ ?_
 refine zpu 6 50 HT_ ?_
 refine zpu 7 51 HT_ ?_
 refine zpu 8 52 HT_ ?_
 refine zpu 10 54 HT_ ?_
 refine zpu 13 57 HT_ ?_
 refine zpu 14 58 HT_ ?_
 refine zpu 15 59 HT_ ?_
 refine ztu 5 49 HT_ HW_ hHeld ?_
 refine ztu 9 53 HT_ HW_ hHeld ?_
 refine zpu 11 55 HT_ ?_
 refine ztu 12 56 HT_ HW_ hHeld ?_
 refine ztu 16 60 HT_ HW_ hHeld ?_
 refine zpu 17 61 HT_ ?_
 refine one_ (i := 18) (N := some 62) #[true, true, true, true, true, true, true, true, true, true, true, true, true, true, true, true, true, true, true, false, false] rfl rfl (zj2 HT_.out zq27) (by decide) (fun K hK => ?_)
 refine zgo Tryz.func103 (zdz (rd x4_2 x5_1) (wrap64 ((rd (za1 t101 x5_1) x6_2) + (rd x4_2 x6_2))) t116 _ A24.out) ?_
 rintro e w' ⟨rfl, ⟨nd, rfl⟩⟩
 refine ⟨_, rfl, ?_⟩
 have p25 : 0 ≤ (x5_1 : Int) := zde zq21
 have q25 : (x5_1 : Int) < ((x4_2.length : Int) : Int) := zde zq21
 obtain ⟨hx25_0, hf25_0⟩ := Kd.R_celln 0 HO_4.out (x5_1 : Int) p25 q25
 replace p25 := eq_true p25
 replace q25 := eq_true q25
 have HP28 := Kd.R_putn HO_4.out (x5_1 : Int) t116
 rw [← Ny117.out] at HP28
 have HQ28 := zA HP28
 clear HP28
 refine hK.out _ _ ⟨hHeld.1, hHeld.2.1, hHeld.2.2.1, hHeld.2.2.2⟩ (fun hHeld => ?_)
 clear hK K
 refine znm 62 ?_
 refine zpu 19 63 HT_ ?_
 refine zz1 (i := 20) (N := none) #[true, true, true, true, true, true, true, true, true, true, true, true, true, true, true, true, true, true, true, true, true] rfl rfl (zj2 HT_.out zq27) (by decide) (fun K hK => ?_)
 refine zsm (w1 := ?_) (by rfl) rfl ?_ ?_
 rotate_left
 · go_simp
   rfl
 refine hK.out _ _ ?_
 clear hK K
 refine zou (zlc HT_.out zq27) ?_
 try go_wp2
 (try simp only [← hl4_2])
 go_roundg k2
 case measure => have := HK1.out; have := HK2.out; omega
 case rel => exact ⟨(y117), (wrap64 (x6_2 + 1)), zq8, H', ⟨zq48 HK1 HK2⟩, ⟨by (try simp only [hl4_2]); (with_reducible repeat (first | apply zSa | apply zSn | apply zSd)); exact Kd.S_mono (Kd.S_far (p := ⟨go13, (x5_1 : Int).toNat, none⟩) (Kd.S_mono HO_3.out (fun k_ hk => (⟨hk, fun e_ => hk (by rw [e_]; rfl)⟩ : _ ∧ k_ ≠ go13))) (fun _ hk => hk.2) (.int .i64 t116)) (fun _ hk => hk.1)⟩, ⟨zq73 HQ28⟩, ⟨zq10 GB13⟩⟩
def zen : Nat → Int → List Int → Int → Int → Option (Int)
 | 0, _, _, _, _ => none
 | k + 1, x3, x7, x8, x9 => if x9 < x8 then (if 0 ≤ x9 then (if x9 < (x7.length : Int) then ((zdb x3 (rd x7 x9)).bind fun t105 => (zen k t105 x7 x8 (wrap64 (x9 + 1)))) else (none)) else (none)) else (some x3)
def zgy (k : Nat) (l0 : List (S55)) : Option (Int) := (zfa k l0).bind fun t101 => (zen k 0 t101 (t101.length : Int) 0)
theorem zmo : ∀ k, (∀ y0 y1 y2 y3, LeO (zen k y0 y1 y2 y3) (zen (k + 1) y0 y1 y2 y3))
 | 0 => fun _ _ _ _ r h => by simp [zen] at h
 | k + 1 => by
   have ih0 := zmo k
   · intro y0 y1 y2 y3
     unfold zen
     exact zm2 ih0 zh2
theorem zji : ∀ a0 k, LeO (zgy k a0) (zgy (k + 1) a0) := by
 intro a0 k
 have ih0 := zmo k
 unfold zgy
 exact zm2 ih0 zh2
theorem znk (k : Nat) (A0 : Option Addr) (c0 : Nat) (l0 : List (S55)) (r : Int) (w : World) (hr0 : Kd.C k55 w A0 l0.length l0) (hc0 : l0.length ≤ c0) (h : zgy k l0 = some r) :
   Calls Tryz.prog 97 #[.slice A0 l0.length c0] w fun e w' => e = .returned (.int .i64 r) ∧ Below w.heap.size w w' := by
 have HR0 := zA hr0
 have HC0 := zA hc0
 clear hr0 hc0
 have HB := zA (Below.refl w.heap.size w)
 have H := h
 unfold zgy at H
 clear h
 replace H := zob H
 obtain ⟨t101, A20, H⟩ := H
 have A2 := zA A20
 clear A20
 have H' := zA H
 clear H
 go_enter Tryz.func97, Tryz.ntmps97
 go_wp2_with (first | ((with_reducible refine zgc 125 ?_); refine zca 7 Tryz.func125 #[.slice A0 l0.length c0] (zli k _ _ l0 t101 _ (zq17 HR0) HC0.out A2.out) ?_; rintro e w3 ⟨v102, rfl, ho0, hb⟩; refine ⟨_, rfl, ?_⟩; have HO103 := zA (Kd.R_lower ho0 (zah zq1)); replace HB := zA (zac zq1 hb); (try clear hb); (try clear ho0); obtain ⟨Ao4, co4, eo4⟩ := Kd.R_slice HO103.out; subst eo4))
 go_loopg [3, 9] k (fun kq v3 v9 w' => ∃ (x3_1 : Int) (x9_1 : Int), v3 = .int .i64 x3_1 ∧ v9 = .int .i64 x9_1 ∧ Aside0 (zen kq x3_1 t101 (t101.length : Int) x9_1 = some r) ∧ Aside0 (kq ≤ k) ∧ Aside0 (Kd.R (Kd.int .i64) 3 w' w.heap.size (fun _ => True) (.slice Ao4 t101.length co4) t101) ∧ Aside0 (Below w.heap.size w w'))
 case atStart => exact ⟨(0), (0), zq8, zq8, H', ⟨zlr _⟩, ⟨zq2 HO103⟩, ⟨zq1⟩⟩
 clear H'
 obtain ⟨x3_1, x9_1, rfl, rfl, HA, HK1, HO_7, HB⟩ := hrel
 cases gk with
 | zero => exact absurd HA.out (by simp [zen])
 | succ k1 =>
 have H := HA.out
 clear HA
 simp only [zen] at H
 revert H
 refine zit (fun c5 H => ?_) fun c5 H => ?_
 rotate_left
 · obtain rfl := zsi H
   go_wp2
   exact zr_3
 revert H
 refine zin fun c6 H => ?_
 revert H
 refine zin fun c7 H => ?_
 replace H := zob H
 obtain ⟨t105, A80, H⟩ := H
 have A8 := zA A80
 clear A80
 have H' := zA H
 clear H
 obtain ⟨p104, q104⟩ := zpq x9_1 t101.length
 obtain ⟨ad104, e104, hx104_0⟩ := Kd.at_int (zRr HO_7.out).2.2 x9_1 (zoe p104) (zoe q104)
 cases e104
 go_wp2_with (first | ((with_reducible refine zgc 103 ?_); refine zcl 15 Tryz.func103 (zdz x3_1 (rd t101 x9_1) t105 _ A8.out) ?_; rintro e w' ⟨rfl, ⟨nd, rfl⟩⟩; refine ⟨_, rfl, ?_⟩))
 go_roundg k1
 case measure => have := HK1.out; omega
 case rel => exact ⟨(t105), (wrap64 (x9_1 + 1)), zq8, zq8, H', ⟨zq46 HK1⟩, ⟨zq2 HO_7⟩, ⟨zq1⟩⟩
def ze2 : Nat → List (S55) → Int → List (List Int) → List Int → Int → Option (List Int)
 | 0, _, _, _, _, _ => none
 | k + 1, x0, x1, x5, x6, x7 => (zdu k x0 x5 x6 ([] : List Int) x1 x7).bind fun bt110 => (if bt110.2 = true then (some bt110.1) else (ze2 k x0 x1 x5 x6 (wrap64 (x7 + 1))))
def zgz (k : Nat) (l0 : List (S55)) (a1 : Int) : Option (List Int) := (ze1 k l0).bind fun t101 => ((zfa k l0).bind fun t104 => ((zgy k l0).bind fun t107 => ((zg3 k l0 a1).bind fun t108 => ((zdb t107 t108).bind fun t109 => (ze2 k l0 a1 t101 t104 t109)))))
theorem zmp : ∀ k, (∀ y0 y1 y2 y3 y4, LeO (ze2 k y0 y1 y2 y3 y4) (ze2 (k + 1) y0 y1 y2 y3 y4))
 | 0 => fun _ _ _ _ _ r h => by simp [ze2] at h
 | k + 1 => by
   have ih0 := zmp k
   · intro y0 y1 y2 y3 y4
     unfold ze2
     exact zm6 ih0 zni zct zn9 zh2 zji
theorem zk8 : ∀ a0 a1 k, LeO (zgz k a0 a1) (zgz (k + 1) a0 a1) := by
 intro a0 a1 k
 have ih0 := zmp k
 unfold zgz
 exact zm6 ih0 zni zct zn9 zh2 zji
theorem znl (k : Nat) (A0 : Option Addr) (c0 : Nat) (l0 : List (S55)) (a1 : Int) (r : List Int) (w : World) (hr0 : Kd.C k55 w A0 l0.length l0) (hc0 : l0.length ≤ c0) (h : zgz k l0 a1 = some r) :
   Calls Tryz.prog 95 #[.slice A0 l0.length c0, .int .i64 a1] w fun e w' => ∃ v0_ : Value, e = .returned (v0_) ∧ Kd.R (Kd.int .i64) 3 w' w.heap.size (fun _ => True) v0_ r ∧ Below w.heap.size w w' := by
 have HR0 := zA hr0
 have HC0 := zA hc0
 clear hr0 hc0
 have HB := zA (Below.refl w.heap.size w)
 have H := h
 unfold zgz at H
 clear h
 replace H := zob H
 obtain ⟨t101, A30, H⟩ := H
 have A3 := zA A30
 clear A30
 replace H := zob H
 obtain ⟨t104, A40, H⟩ := H
 have A4 := zA A40
 clear A40
 replace H := zob H
 obtain ⟨t107, A50, H⟩ := H
 have A5 := zA A50
 clear A50
 replace H := zob H
 obtain ⟨t108, A60, H⟩ := H
 have A6 := zA A60
 clear A60
 replace H := zob H
 obtain ⟨t109, A70, H⟩ := H
 have A7 := zA A70
 clear A70
 have H' := zA H
 clear H
 go_enter Tryz.func95, Tryz.ntmps95
 go_wp2_with (first | ((with_reducible refine zgc 62 ?_); refine zca 11 Tryz.func62 #[.slice A0 l0.length c0] (zh1 k _ _ l0 t101 _ (zq17 HR0) HC0.out A3.out) ?_; rintro e w8 ⟨v102, rfl, ho0, hb⟩; refine ⟨_, rfl, ?_⟩; have HO103 := zA (Kd.S_lower ho0 (zah zq1)); replace HB := zA (zac zq1 hb); (try clear hb); (try clear ho0)) | ((with_reducible refine zgc 125 ?_); refine zca 13 Tryz.func125 #[.slice A0 l0.length c0] (zli k _ _ l0 t104 _ (zq15 HR0) HC0.out A4.out) ?_; rintro e w9 ⟨v105, rfl, ho0, hb⟩; refine ⟨_, rfl, ?_⟩; replace HO103 := zA (Kd.S_elder' (zq16 HO103) (Kd.R_base ho0) hb); have HO106 := zA (Kd.R_lower ho0 (zah zq1)); replace HB := zA (zac zq1 hb); (try clear hb); (try clear ho0)) | ((with_reducible refine zgc 97 ?_); refine zca 15 Tryz.func97 #[.slice A0 l0.length c0] (znk k _ _ l0 t107 _ (zq15 HR0) HC0.out A5.out) ?_; rintro e w10 ⟨rfl, hb⟩; refine ⟨_, rfl, ?_⟩; replace HO103 := zA (Kd.S_below (zq16 HO103) hb); replace HO106 := zA (zRb (zq2 HO106) hb); replace HB := zA (zac zq1 hb); (try clear hb)) | ((with_reducible refine zgc 87 ?_); refine zca 18 Tryz.func87 #[.slice A0 l0.length c0, .int .i64 a1] (zp6 k _ _ l0 a1 t108 _ (zq15 HR0) HC0.out A6.out) ?_; rintro e w11 ⟨rfl, hb⟩; refine ⟨_, rfl, ?_⟩; replace HO103 := zA (Kd.S_below (zq16 HO103) hb); replace HO106 := zA (zRb (zq2 HO106) hb); replace HB := zA (zac zq1 hb); (try clear hb)) | ((with_reducible refine zgc 103 ?_); refine zcl 19 Tryz.func103 (zdz t107 t108 t109 _ A7.out) ?_; rintro e w' ⟨rfl, ⟨nd, rfl⟩⟩; refine ⟨_, rfl, ?_⟩))
 go_loopg [7] k (fun kq v7 w' => ∃ (x7_1 : Int), v7 = .int .i64 x7_1 ∧ Aside0 (ze2 kq l0 a1 t101 t104 x7_1 = some r) ∧ Aside0 (kq ≤ k) ∧ Aside0 (Kd.S (Kd.slice 3 (Kd.int .i64)) 25 w' w.heap.size (fun k_ => some k_ ≠ (v105 : Value).ownBlock) v102 t101) ∧ Aside0 (Kd.R (Kd.int .i64) 3 w' w.heap.size (fun _ => True) v105 t104) ∧ Aside0 (Below w.heap.size w w'))
 case atStart => exact ⟨(t109), zq8, H', ⟨zlr _⟩, ⟨zq34 HO103⟩, ⟨zq2 HO106⟩, ⟨zq1⟩⟩
 clear H'
 obtain ⟨x7_1, rfl, HA, HK1, HO_5, HO_6, HB⟩ := hrel
 cases gk with
 | zero => exact absurd HA.out (by simp [ze2])
 | succ k1 =>
 have H := HA.out
 clear HA
 simp only [ze2] at H
 replace H := zob H
 obtain ⟨⟨t110, t111⟩, A120, H⟩ := H
 have A12 := zA A120
 clear A120
 by_cases c13 : t111 = true
 · subst c13
   replace H := zih H
   obtain rfl := zsi H
   obtain ⟨Ao14, co14, eo14⟩ := Kd.S_slice HO_5.out
   subst eo14
   obtain ⟨Ao15, co15, eo15⟩ := Kd.R_slice HO_6.out
   subst eo15
   go_wp2_with (first | ((with_reducible refine zmc (f := 128) rfl ?_); refine zsl (some 28) rfl rfl Tryz.func128 zq27 rfl #[.slice A0 l0.length c0, .slice Ao14 t101.length co14, .slice Ao15 t104.length co15, .slice none 0 0, .int .i64 a1, .int .i64 x7_1] rfl zq25 ?_; (refine (znj k1 _ _ l0 _ _ t101 _ _ t104 _ _ ([] : List Int) a1 x7_1 t110 true _ ?side1 ?side2 ?side3 ?side4 ?side5 ?side6 ?side7 ?side8 A12.out).mono ?_); (case side1 => repeat (first | exact (zCb HR0.out HB.out) | (with_reducible first | refine zCa ?_ _ | refine zCn ?_ _ | refine zCd ?_))); (case side2 => exact HC0.out); (case side3 => repeat (first | exact (zSr HO_5.out).2.2 | (with_reducible first | refine zCa ?_ _ | refine zCn ?_ _ | refine zCd ?_))); (case side4 => exact (zSr HO_5.out).2.1); (case side5 => repeat (first | exact (zRr HO_6.out).2.2 | (with_reducible first | refine zCa ?_ _ | refine zCn ?_ _ | refine zCd ?_))); (case side6 => exact (zRr HO_6.out).2.1); (case side7 => exact Kd.C_nil _ _); (case side8 => exact zlr _); rintro e w16 ⟨v112, rfl, ho0, hb⟩; refine ⟨_, rfl, ?_⟩; replace HO_5 := zA (Kd.S_elder' (zq16 HO_5) (Kd.R_base ho0) hb); have HO113 := zA (Kd.R_lower (Kd.R_new' ho0 (Kd.R_lt (zq2 HO_6))) (zah zq1)); replace HO_6 := zA (Kd.R_elder' (zq2 HO_6) (Kd.R_base ho0) hb); replace HB := zA (zac zq1 hb); (try clear hb); (try clear ho0)))
   go_ret
   exact ⟨_, zq5, zq53 HO113, zq1⟩
 replace c13 := zbf c13
 subst c13
 replace H := zif H
 have H' := zA H
 clear H
 obtain ⟨Ao17, co17, eo17⟩ := Kd.S_slice HO_5.out
 subst eo17
 obtain ⟨Ao18, co18, eo18⟩ := Kd.R_slice HO_6.out
 subst eo18
 go_wp2_with (first | ((with_reducible refine zmc (f := 128) rfl ?_); refine zsl (some 28) rfl rfl Tryz.func128 zq27 rfl #[.slice A0 l0.length c0, .slice Ao17 t101.length co17, .slice Ao18 t104.length co18, .slice none 0 0, .int .i64 a1, .int .i64 x7_1] rfl zq25 ?_; (refine (znj k1 _ _ l0 _ _ t101 _ _ t104 _ _ ([] : List Int) a1 x7_1 t110 false _ ?side1 ?side2 ?side3 ?side4 ?side5 ?side6 ?side7 ?side8 A12.out).mono ?_); (case side1 => repeat (first | exact (zCb HR0.out HB.out) | (with_reducible first | refine zCa ?_ _ | refine zCn ?_ _ | refine zCd ?_))); (case side2 => exact HC0.out); (case side3 => repeat (first | exact (zSr HO_5.out).2.2 | (with_reducible first | refine zCa ?_ _ | refine zCn ?_ _ | refine zCd ?_))); (case side4 => exact (zSr HO_5.out).2.1); (case side5 => repeat (first | exact (zRr HO_6.out).2.2 | (with_reducible first | refine zCa ?_ _ | refine zCn ?_ _ | refine zCd ?_))); (case side6 => exact (zRr HO_6.out).2.1); (case side7 => exact Kd.C_nil _ _); (case side8 => exact zlr _); rintro e w19 ⟨v112, rfl, ho0, hb⟩; refine ⟨_, rfl, ?_⟩; replace HO_5 := zA (Kd.S_elder' (zq16 HO_5) (Kd.R_base ho0) hb); have HO113 := zA (Kd.R_lower (Kd.R_new' ho0 (Kd.R_lt (zq2 HO_6))) (zah zq1)); replace HO_6 := zA (Kd.R_elder' (zq2 HO_6) (Kd.R_base ho0) hb); replace HB := zA (zac zq1 hb); (try clear hb); (try clear ho0)))
 go_roundg k1
 case measure => have := HK1.out; omega
 case rel => exact ⟨(wrap64 (x7_1 + 1)), zq8, H', ⟨zq46 HK1⟩, ⟨by (with_reducible repeat (first | apply zSa | apply zSn | apply zSd)); exact Kd.S_mono HO_5.out (fun _ hk => hk.1)⟩, ⟨zq53 HO_6⟩, ⟨zq1⟩⟩
def zir (a0 : Int) (a1 : Int) (a2 : Int) : Option (Bool) := if a0 ≥ a1 then (some (decide (a0 ≤ a2))) else (some false)
theorem zfq (a0 : Int) (a1 : Int) (a2 : Int) (r : Bool) (w : World) (h : zir a0 a1 a2 = some r) :
   Calls Tryz.prog 99 #[.int .i64 a0, .int .i64 a1, .int .i64 a2] w fun e w' => e = .returned (.bool r) ∧ Drawn0 w w' := by
 have H := h
 unfold zir at H
 clear h
 revert H
 refine zit (fun c4b0 H => ?_) fun c4b0 H => ?_
 · obtain rfl := zsi H
   go_enter Tryz.func99, Tryz.ntmps99
   exact zr_5
 · obtain rfl := zsi H
   go_enter Tryz.func99, Tryz.ntmps99
   exact zr_5
def zis (a0 : Int) : Option (Bool) := (zir a0 0 5).bind fun t101 => (some t101)
theorem zax (a0 : Int) (r : Bool) (w : World) (h : zis a0 = some r) :
   Calls Tryz.prog 149 #[.int .i64 a0] w fun e w' => e = .returned (.bool r) ∧ Drawn0 w w' := by
 have H := h
 unfold zis at H
 clear h
 replace H := zob H
 obtain ⟨t101, A20, H⟩ := H
 have A2 := zA A20
 clear A20
 obtain rfl := zsi H
 go_enter Tryz.func149, Tryz.ntmps149
 go_wp2_with (first | ((with_reducible refine zgc 99 ?_); refine zcl 4 Tryz.func99 (zfq a0 0 5 t101 _ A2.out) ?_; rintro e w' ⟨rfl, ⟨nd, rfl⟩⟩; refine ⟨_, rfl, ?_⟩))
 exact zr_1
def zhh (k : Nat) (a0_0 : ByteArray) (a0_1 : Int) (a0_2 : Int) (a0_3 : Int) (a0_4 : Int) : Option (Bool) := (zem k a0_0).bind fun bt102 => (if bt102.1 = true then ((zis a0_1).bind fun t107 => (if t107 = true then ((zis a0_2).bind fun t108 => (if t108 = true then ((zis a0_3).bind fun t109 => (if t109 = true then ((zir a0_4 bt102.2.2.2.1 bt102.2.2.2.2).bind fun t110 => (if t110 = true then (if bt102.2.1 = true then (if bt102.2.2.1 = true then (some true) else (some (a0_3 == 0))) else (if a0_2 = 0 then (if bt102.2.2.1 = true then (some true) else (some (a0_3 == 0))) else (some false))) else (some false))) else (some false))) else (some false))) else (some false))) else (some false))
theorem zoa : ∀ a0 a1 a2 a3 a4 k, LeO (zhh k a0 a1 a2 a3 a4) (zhh (k + 1) a0 a1 a2 a3 a4) := by
 intro a0 a1 a2 a3 a4 k
 unfold zhh
 exact zm1 zf0
theorem znn (k : Nat) (a0_0 : ByteArray) (a0_1 : Int) (a0_2 : Int) (a0_3 : Int) (a0_4 : Int) (r : Bool) (w : World) (h : zhh k a0_0 a0_1 a0_2 a0_3 a0_4 = some r) :
   Calls Tryz.prog 130 #[.agg #[.string a0_0, .int .i64 a0_1, .int .i64 a0_2, .int .i64 a0_3, .int .i64 a0_4]] w fun e w' => e = .returned (.bool r) ∧ Below w.heap.size w w' := by
 have hu55 := Tryz.underlying55
 have HB := zA (Below.refl w.heap.size w)
 have H := h
 unfold zhh at H
 clear h
 replace H := zob H
 obtain ⟨⟨t102, t103, t104, t105, t106⟩, A20, H⟩ := H
 have A2 := zA A20
 clear A20
 by_cases c3 : t102 = true
 rotate_left
 · replace c3 := zbf c3
   subst c3
   replace H := zif H
   obtain rfl := zsi H
   go_enter Tryz.func130, Tryz.ntmps130
   go_wp2_with (first | ((with_reducible refine zgd 1 ?_); refine zbh zq1 #[.string a0_0, .int .i64 a0_1, .int .i64 a0_2, .int .i64 a0_3, .int .i64 a0_4] 55 ?_; clear HB; intro gb101 w34 HB BK101 GW101; have GE101 := GW101; obtain ⟨hcz35_0, hcz35_1, hcz35_2, hcz35_3, hcz35_4, hfz35_0, hfz35_1, hfz35_2, hfz35_3, hfz35_4⟩ := zd5 BK101) | ((with_reducible refine zgc 148 ?_); refine zcl 11 Tryz.func148 (zb1 k a0_0 false t103 t104 t105 t106 _ A2.out) ?_; rintro e w' ⟨rfl, ⟨nd, rfl⟩⟩; refine ⟨_, rfl, ?_⟩))
   go_ret
   exact ⟨zq5, zq10 GE101⟩
 subst c3
 replace H := zih H
 replace H := zob H
 obtain ⟨t107, A40, H⟩ := H
 have A4 := zA A40
 clear A40
 by_cases c5 : t107 = true
 rotate_left
 · replace c5 := zbf c5
   subst c5
   replace H := zif H
   obtain rfl := zsi H
   go_enter Tryz.func130, Tryz.ntmps130
   go_wp2_with (first | ((with_reducible refine zgd 1 ?_); refine zbh zq1 #[.string a0_0, .int .i64 a0_1, .int .i64 a0_2, .int .i64 a0_3, .int .i64 a0_4] 55 ?_; clear HB; intro gb101 w32 HB BK101 GW101; have GE101 := GW101; obtain ⟨hcz33_0, hcz33_1, hcz33_2, hcz33_3, hcz33_4, hfz33_0, hfz33_1, hfz33_2, hfz33_3, hfz33_4⟩ := zd5 BK101) | ((with_reducible refine zgc 148 ?_); refine zcl 11 Tryz.func148 (zb1 k a0_0 true t103 t104 t105 t106 _ A2.out) ?_; rintro e w' ⟨rfl, ⟨nd, rfl⟩⟩; refine ⟨_, rfl, ?_⟩) | (go_at_call 149; (with_reducible refine (zax a0_1 false _ A4.out).mono ?_); rintro e w' ⟨rfl, ⟨nd, rfl⟩⟩))
   go_ret
   exact ⟨zq5, zq10 GE101⟩
 subst c5
 replace H := zih H
 replace H := zob H
 obtain ⟨t108, A60, H⟩ := H
 have A6 := zA A60
 clear A60
 by_cases c7 : t108 = true
 rotate_left
 · replace c7 := zbf c7
   subst c7
   replace H := zif H
   obtain rfl := zsi H
   go_enter Tryz.func130, Tryz.ntmps130
   go_wp2_with (first | ((with_reducible refine zgd 1 ?_); refine zbh zq1 #[.string a0_0, .int .i64 a0_1, .int .i64 a0_2, .int .i64 a0_3, .int .i64 a0_4] 55 ?_; clear HB; intro gb101 w30 HB BK101 GW101; have GE101 := GW101; obtain ⟨hcz31_0, hcz31_1, hcz31_2, hcz31_3, hcz31_4, hfz31_0, hfz31_1, hfz31_2, hfz31_3, hfz31_4⟩ := zd5 BK101) | ((with_reducible refine zgc 148 ?_); refine zcl 11 Tryz.func148 (zb1 k a0_0 true t103 t104 t105 t106 _ A2.out) ?_; rintro e w' ⟨rfl, ⟨nd, rfl⟩⟩; refine ⟨_, rfl, ?_⟩) | (go_at_call 149; (with_reducible refine (zax a0_1 true _ A4.out).mono ?_); rintro e w' ⟨rfl, ⟨nd, rfl⟩⟩) | (go_at_call 149; (with_reducible refine (zax a0_2 false _ A6.out).mono ?_); rintro e w' ⟨rfl, ⟨nd, rfl⟩⟩))
   go_ret
   exact ⟨zq5, zq10 GE101⟩
 subst c7
 replace H := zih H
 replace H := zob H
 obtain ⟨t109, A80, H⟩ := H
 have A8 := zA A80
 clear A80
 by_cases c9 : t109 = true
 rotate_left
 · replace c9 := zbf c9
   subst c9
   replace H := zif H
   obtain rfl := zsi H
   go_enter Tryz.func130, Tryz.ntmps130
   go_wp2_with (first | ((with_reducible refine zgd 1 ?_); refine zbh zq1 #[.string a0_0, .int .i64 a0_1, .int .i64 a0_2, .int .i64 a0_3, .int .i64 a0_4] 55 ?_; clear HB; intro gb101 w28 HB BK101 GW101; have GE101 := GW101; obtain ⟨hcz29_0, hcz29_1, hcz29_2, hcz29_3, hcz29_4, hfz29_0, hfz29_1, hfz29_2, hfz29_3, hfz29_4⟩ := zd5 BK101) | ((with_reducible refine zgc 148 ?_); refine zcl 11 Tryz.func148 (zb1 k a0_0 true t103 t104 t105 t106 _ A2.out) ?_; rintro e w' ⟨rfl, ⟨nd, rfl⟩⟩; refine ⟨_, rfl, ?_⟩) | (go_at_call 149; (with_reducible refine (zax a0_1 true _ A4.out).mono ?_); rintro e w' ⟨rfl, ⟨nd, rfl⟩⟩) | (go_at_call 149; (with_reducible refine (zax a0_2 true _ A6.out).mono ?_); rintro e w' ⟨rfl, ⟨nd, rfl⟩⟩) | (go_at_call 149; (with_reducible refine (zax a0_3 false _ A8.out).mono ?_); rintro e w' ⟨rfl, ⟨nd, rfl⟩⟩))
   go_ret
   exact ⟨zq5, zq10 GE101⟩
 subst c9
 replace H := zih H
 replace H := zob H
 obtain ⟨t110, A100, H⟩ := H
 have A10 := zA A100
 clear A100
 by_cases c11 : t110 = true
 rotate_left
 · replace c11 := zbf c11
   subst c11
   replace H := zif H
   obtain rfl := zsi H
   go_enter Tryz.func130, Tryz.ntmps130
   go_wp2_with (first | ((with_reducible refine zgd 1 ?_); refine zbh zq1 #[.string a0_0, .int .i64 a0_1, .int .i64 a0_2, .int .i64 a0_3, .int .i64 a0_4] 55 ?_; clear HB; intro gb101 w26 HB BK101 GW101; have GE101 := GW101; obtain ⟨hcz27_0, hcz27_1, hcz27_2, hcz27_3, hcz27_4, hfz27_0, hfz27_1, hfz27_2, hfz27_3, hfz27_4⟩ := zd5 BK101) | ((with_reducible refine zgc 148 ?_); refine zcl 11 Tryz.func148 (zb1 k a0_0 true t103 t104 t105 t106 _ A2.out) ?_; rintro e w' ⟨rfl, ⟨nd, rfl⟩⟩; refine ⟨_, rfl, ?_⟩) | (go_at_call 149; (with_reducible refine (zax a0_1 true _ A4.out).mono ?_); rintro e w' ⟨rfl, ⟨nd, rfl⟩⟩) | (go_at_call 149; (with_reducible refine (zax a0_2 true _ A6.out).mono ?_); rintro e w' ⟨rfl, ⟨nd, rfl⟩⟩) | (go_at_call 149; (with_reducible refine (zax a0_3 true _ A8.out).mono ?_); rintro e w' ⟨rfl, ⟨nd, rfl⟩⟩) | (go_at_call 99; (with_reducible refine (zfq a0_4 t105 t106 false _ A10.out).mono ?_); rintro e w' ⟨rfl, ⟨nd, rfl⟩⟩))
   go_ret
   exact ⟨zq5, zq10 GE101⟩
 subst c11
 replace H := zih H
 by_cases c12 : t103 = true
 · subst c12
   replace H := zih H
   by_cases c13 : t104 = true
   · subst c13
     replace H := zih H
     obtain rfl := zsi H
     go_enter Tryz.func130, Tryz.ntmps130
     go_wp2_with (first | ((with_reducible refine zgd 1 ?_); refine zbh zq1 #[.string a0_0, .int .i64 a0_1, .int .i64 a0_2, .int .i64 a0_3, .int .i64 a0_4] 55 ?_; clear HB; intro gb101 w14 HB BK101 GW101; have GE101 := GW101; obtain ⟨hcz15_0, hcz15_1, hcz15_2, hcz15_3, hcz15_4, hfz15_0, hfz15_1, hfz15_2, hfz15_3, hfz15_4⟩ := zd5 BK101) | ((with_reducible refine zgc 148 ?_); refine zcl 11 Tryz.func148 (zb1 k a0_0 true true true t105 t106 _ A2.out) ?_; rintro e w' ⟨rfl, ⟨nd, rfl⟩⟩; refine ⟨_, rfl, ?_⟩) | (go_at_call 149; (with_reducible refine (zax a0_1 true _ A4.out).mono ?_); rintro e w' ⟨rfl, ⟨nd, rfl⟩⟩) | (go_at_call 149; (with_reducible refine (zax a0_2 true _ A6.out).mono ?_); rintro e w' ⟨rfl, ⟨nd, rfl⟩⟩) | (go_at_call 149; (with_reducible refine (zax a0_3 true _ A8.out).mono ?_); rintro e w' ⟨rfl, ⟨nd, rfl⟩⟩) | (go_at_call 99; (with_reducible refine (zfq a0_4 t105 t106 true _ A10.out).mono ?_); rintro e w' ⟨rfl, ⟨nd, rfl⟩⟩))
     go_ret
     exact ⟨zq5, zq10 GE101⟩
   replace c13 := zbf c13
   subst c13
   replace H := zif H
   obtain rfl := zsi H
   go_enter Tryz.func130, Tryz.ntmps130
   go_wp2_with (first | ((with_reducible refine zgd 1 ?_); refine zbh zq1 #[.string a0_0, .int .i64 a0_1, .int .i64 a0_2, .int .i64 a0_3, .int .i64 a0_4] 55 ?_; clear HB; intro gb101 w16 HB BK101 GW101; have GE101 := GW101; obtain ⟨hcz17_0, hcz17_1, hcz17_2, hcz17_3, hcz17_4, hfz17_0, hfz17_1, hfz17_2, hfz17_3, hfz17_4⟩ := zd5 BK101) | ((with_reducible refine zgc 148 ?_); refine zcl 11 Tryz.func148 (zb1 k a0_0 true true false t105 t106 _ A2.out) ?_; rintro e w' ⟨rfl, ⟨nd, rfl⟩⟩; refine ⟨_, rfl, ?_⟩) | (go_at_call 149; (with_reducible refine (zax a0_1 true _ A4.out).mono ?_); rintro e w' ⟨rfl, ⟨nd, rfl⟩⟩) | (go_at_call 149; (with_reducible refine (zax a0_2 true _ A6.out).mono ?_); rintro e w' ⟨rfl, ⟨nd, rfl⟩⟩) | (go_at_call 149; (with_reducible refine (zax a0_3 true _ A8.out).mono ?_); rintro e w' ⟨rfl, ⟨nd, rfl⟩⟩) | (go_at_call 99; (with_reducible refine (zfq a0_4 t105 t106 true _ A10.out).mono ?_); rintro e w' ⟨rfl, ⟨nd, rfl⟩⟩))
   go_ret
   exact ⟨zq5, zq10 GE101⟩
 replace c12 := zbf c12
 subst c12
 replace H := zif H
 by_cases c18 : a0_2 = 0
 rotate_left
 · rw [if_neg c18] at H
   obtain ⟨c18b0, c18b1⟩ := zbq c18
   obtain rfl := zsi H
   go_enter Tryz.func130, Tryz.ntmps130
   go_wp2_with (first | ((with_reducible refine zgd 1 ?_); refine zbh zq1 #[.string a0_0, .int .i64 a0_1, .int .i64 a0_2, .int .i64 a0_3, .int .i64 a0_4] 55 ?_; clear HB; intro gb101 w24 HB BK101 GW101; have GE101 := GW101; obtain ⟨hcz25_0, hcz25_1, hcz25_2, hcz25_3, hcz25_4, hfz25_0, hfz25_1, hfz25_2, hfz25_3, hfz25_4⟩ := zd5 BK101) | ((with_reducible refine zgc 148 ?_); refine zcl 11 Tryz.func148 (zb1 k a0_0 true false t104 t105 t106 _ A2.out) ?_; rintro e w' ⟨rfl, ⟨nd, rfl⟩⟩; refine ⟨_, rfl, ?_⟩) | (go_at_call 149; (with_reducible refine (zax a0_1 true _ A4.out).mono ?_); rintro e w' ⟨rfl, ⟨nd, rfl⟩⟩) | (go_at_call 149; (with_reducible refine (zax a0_2 true _ A6.out).mono ?_); rintro e w' ⟨rfl, ⟨nd, rfl⟩⟩) | (go_at_call 149; (with_reducible refine (zax a0_3 true _ A8.out).mono ?_); rintro e w' ⟨rfl, ⟨nd, rfl⟩⟩) | (go_at_call 99; (with_reducible refine (zfq a0_4 t105 t106 true _ A10.out).mono ?_); rintro e w' ⟨rfl, ⟨nd, rfl⟩⟩))
   go_ret
   exact ⟨zq5, zq10 GE101⟩
 rw [if_pos c18] at H
 obtain ⟨c18b0, c18b1⟩ := zbe c18
 clear c18
 by_cases c19 : t104 = true
 · subst c19
   replace H := zih H
   obtain rfl := zsi H
   go_enter Tryz.func130, Tryz.ntmps130
   go_wp2_with (first | ((with_reducible refine zgd 1 ?_); refine zbh zq1 #[.string a0_0, .int .i64 a0_1, .int .i64 a0_2, .int .i64 a0_3, .int .i64 a0_4] 55 ?_; clear HB; intro gb101 w20 HB BK101 GW101; have GE101 := GW101; obtain ⟨hcz21_0, hcz21_1, hcz21_2, hcz21_3, hcz21_4, hfz21_0, hfz21_1, hfz21_2, hfz21_3, hfz21_4⟩ := zd5 BK101) | ((with_reducible refine zgc 148 ?_); refine zcl 11 Tryz.func148 (zb1 k a0_0 true false true t105 t106 _ A2.out) ?_; rintro e w' ⟨rfl, ⟨nd, rfl⟩⟩; refine ⟨_, rfl, ?_⟩) | (go_at_call 149; (with_reducible refine (zax a0_1 true _ A4.out).mono ?_); rintro e w' ⟨rfl, ⟨nd, rfl⟩⟩) | (go_at_call 149; (with_reducible refine (zax a0_2 true _ A6.out).mono ?_); rintro e w' ⟨rfl, ⟨nd, rfl⟩⟩) | (go_at_call 149; (with_reducible refine (zax a0_3 true _ A8.out).mono ?_); rintro e w' ⟨rfl, ⟨nd, rfl⟩⟩) | (go_at_call 99; (with_reducible refine (zfq a0_4 t105 t106 true _ A10.out).mono ?_); rintro e w' ⟨rfl, ⟨nd, rfl⟩⟩))
   go_ret
   exact ⟨zq5, zq10 GE101⟩
 replace c19 := zbf c19
 subst c19
 replace H := zif H
 obtain rfl := zsi H
 go_enter Tryz.func130, Tryz.ntmps130
 go_wp2_with (first | ((with_reducible refine zgd 1 ?_); refine zbh zq1 #[.string a0_0, .int .i64 a0_1, .int .i64 a0_2, .int .i64 a0_3, .int .i64 a0_4] 55 ?_; clear HB; intro gb101 w22 HB BK101 GW101; have GE101 := GW101; obtain ⟨hcz23_0, hcz23_1, hcz23_2, hcz23_3, hcz23_4, hfz23_0, hfz23_1, hfz23_2, hfz23_3, hfz23_4⟩ := zd5 BK101) | ((with_reducible refine zgc 148 ?_); refine zcl 11 Tryz.func148 (zb1 k a0_0 true false false t105 t106 _ A2.out) ?_; rintro e w' ⟨rfl, ⟨nd, rfl⟩⟩; refine ⟨_, rfl, ?_⟩) | (go_at_call 149; (with_reducible refine (zax a0_1 true _ A4.out).mono ?_); rintro e w' ⟨rfl, ⟨nd, rfl⟩⟩) | (go_at_call 149; (with_reducible refine (zax a0_2 true _ A6.out).mono ?_); rintro e w' ⟨rfl, ⟨nd, rfl⟩⟩) | (go_at_call 149; (with_reducible refine (zax a0_3 true _ A8.out).mono ?_); rintro e w' ⟨rfl, ⟨nd, rfl⟩⟩) | (go_at_call 99; (with_reducible refine (zfq a0_4 t105 t106 true _ A10.out).mono ?_); rintro e w' ⟨rfl, ⟨nd, rfl⟩⟩))
 go_ret
 exact ⟨zq5, zq10 GE101⟩
def zd2 : Nat → List (S55) → Int → Int → Option (Bool)
 | 0, _, _, _ => none
 | k + 1, x8, x9, x10 => if x10 < x9 then (if 0 ≤ x10 then (if x10 < (x8.length : Int) then ((zhh k ((zaa x8 x10).f0) ((zaa x8 x10).f1) ((zaa x8 x10).f2) ((zaa x8 x10).f3) ((zaa x8 x10).f4)).bind fun t103 => (if t103 = true then (zd2 k x8 x9 (wrap64 (x10 + 1))) else (some false))) else (none)) else (none)) else (some true)
def zhi (k : Nat) (l0 : List (S55)) : Option (Bool) := if (l0.length : Int) > 40 then (some false) else (zd2 k l0 (l0.length : Int) 0)
theorem zmq : ∀ k, (∀ y0 y1 y2, LeO (zd2 k y0 y1 y2) (zd2 (k + 1) y0 y1 y2))
 | 0 => fun _ _ _ r h => by simp [zd2] at h
 | k + 1 => by
   have ih0 := zmq k
   · intro y0 y1 y2
     unfold zd2
     exact zm2 ih0 zoa
theorem zrn : ∀ a0 k, LeO (zhi k a0) (zhi (k + 1) a0) := by
 intro a0 k
 have ih0 := zmq k
 unfold zhi
 exact zm2 ih0 zoa
theorem zqs (k : Nat) (A0 : Option Addr) (c0 : Nat) (l0 : List (S55)) (r : Bool) (w : World) (hr0 : Kd.C k55 w A0 l0.length l0) (hc0 : l0.length ≤ c0) (h : zhi k l0 = some r) :
   Calls Tryz.prog 105 #[.slice A0 l0.length c0] w fun e w' => e = .returned (.bool r) ∧ Below w.heap.size w w' := by
 have hu55 := Tryz.underlying55
 have HR0 := zA hr0
 have HC0 := zA hc0
 clear hr0 hc0
 have HB := zA (Below.refl w.heap.size w)
 have H := h
 unfold zhi at H
 clear h
 by_cases c2 : (l0.length : Int) > 40
 · rw [if_pos c2] at H
   have c2b0 := zdt c2
   have c2b1 : decide (40 < l0.length) = true := zdt (by omega)
   clear c2
   obtain rfl := zsi H
   go_enter Tryz.func105, Tryz.ntmps105
   go_wp2
   exact zr_3
 rw [if_neg c2] at H
 have c2b0 := zdf c2
 have c2b1 : decide (40 < l0.length) = false := zdf (by omega)
 clear c2
 have H' := zA H
 clear H
 go_enter Tryz.func105, Tryz.ntmps105
 go_wp2
 go_loopg [10] k (fun kq v10 w' => ∃ (x10_1 : Int), v10 = .int .i64 x10_1 ∧ Aside0 (zd2 kq l0 (l0.length : Int) x10_1 = some r) ∧ Aside0 (kq ≤ k) ∧ Aside0 (Below w.heap.size w w'))
 case atStart => exact ⟨(0), zq8, H', ⟨zlr _⟩, ⟨zq1⟩⟩
 clear H'
 obtain ⟨x10_1, rfl, HA, HK1, HB⟩ := hrel
 cases gk with
 | zero => exact absurd HA.out (by simp [zd2])
 | succ k1 =>
 have H := HA.out
 clear HA
 simp only [zd2] at H
 revert H
 refine zit (fun c3 H => ?_) fun c3 H => ?_
 rotate_left
 · obtain rfl := zsi H
   go_wp2
   exact zr_3
 revert H
 refine zin fun c4 H => ?_
 revert H
 refine zin fun c5 H => ?_
 replace H := zob H
 obtain ⟨t103, A60, H⟩ := H
 have A6 := zA A60
 clear A60
 by_cases c7 : t103 = true
 rotate_left
 · replace c7 := zbf c7
   subst c7
   replace H := zif H
   obtain rfl := zsi H
   obtain ⟨p101, q101⟩ := zpq x10_1 l0.length
   obtain ⟨ad101, e101, hx101_0, hx101_1, hx101_2, hx101_3, hx101_4⟩ := zi7 HR0.out x10_1 (zoe p101) (zoe q101)
   cases e101
   replace hx101_0 := zkep HB.out hx101_0
   replace hx101_1 := zkep HB.out hx101_1
   replace hx101_2 := zkep HB.out hx101_2
   replace hx101_3 := zkep HB.out hx101_3
   replace hx101_4 := zkep HB.out hx101_4
   go_wp2_with (first | ((with_reducible refine zgd 4 ?_); refine zbh zq1 #[.string (⟨#[]⟩ : ByteArray), .int .i64 0, .int .i64 0, .int .i64 0, .int .i64 0] 55 ?_; clear HB; intro gb102 w11 HB BK102 GW102; have GE102 := GW102; obtain ⟨hcz12_0, hcz12_1, hcz12_2, hcz12_3, hcz12_4, hfz12_0, hfz12_1, hfz12_2, hfz12_3, hfz12_4⟩ := zd5 BK102) | ((with_reducible refine zgc 130 ?_); refine zcl 15 Tryz.func130 (znn k1 ((zaa l0 x10_1).f0) ((zaa l0 x10_1).f1) ((zaa l0 x10_1).f2) ((zaa l0 x10_1).f3) ((zaa l0 x10_1).f4) false _ A6.out) ?_; rintro e w13 ⟨rfl, hb⟩; refine ⟨_, rfl, ?_⟩; replace BK102 := zA (zag (g := gb102) (o := .cells #[.string ((zaa l0 x10_1).f0), .int .i64 ((zaa l0 x10_1).f1), .int .i64 ((zaa l0 x10_1).f2), .int .i64 ((zaa l0 x10_1).f3), .int .i64 ((zaa l0 x10_1).f4)] 55 (0, 0)) (zq19 BK102) hb); replace HB := zA (zac (zq10 GE102) hb); (try clear hb)))
   go_ret
   exact ⟨zq5, zq10 GE102⟩
 subst c7
 replace H := zih H
 have H' := zA H
 clear H
 obtain ⟨p101, q101⟩ := zpq x10_1 l0.length
 obtain ⟨ad101, e101, hx101_0, hx101_1, hx101_2, hx101_3, hx101_4⟩ := zi7 HR0.out x10_1 (zoe p101) (zoe q101)
 cases e101
 replace hx101_0 := zkep HB.out hx101_0
 replace hx101_1 := zkep HB.out hx101_1
 replace hx101_2 := zkep HB.out hx101_2
 replace hx101_3 := zkep HB.out hx101_3
 replace hx101_4 := zkep HB.out hx101_4
 go_wp2_with (first | ((with_reducible refine zgd 4 ?_); refine zbh zq1 #[.string (⟨#[]⟩ : ByteArray), .int .i64 0, .int .i64 0, .int .i64 0, .int .i64 0] 55 ?_; clear HB; intro gb102 w8 HB BK102 GW102; have GE102 := GW102; obtain ⟨hcz9_0, hcz9_1, hcz9_2, hcz9_3, hcz9_4, hfz9_0, hfz9_1, hfz9_2, hfz9_3, hfz9_4⟩ := zd5 BK102) | ((with_reducible refine zgc 130 ?_); refine zcl 15 Tryz.func130 (znn k1 ((zaa l0 x10_1).f0) ((zaa l0 x10_1).f1) ((zaa l0 x10_1).f2) ((zaa l0 x10_1).f3) ((zaa l0 x10_1).f4) true _ A6.out) ?_; rintro e w10 ⟨rfl, hb⟩; refine ⟨_, rfl, ?_⟩; replace BK102 := zA (zag (g := gb102) (o := .cells #[.string ((zaa l0 x10_1).f0), .int .i64 ((zaa l0 x10_1).f1), .int .i64 ((zaa l0 x10_1).f2), .int .i64 ((zaa l0 x10_1).f3), .int .i64 ((zaa l0 x10_1).f4)] 55 (0, 0)) (zq19 BK102) hb); replace HB := zA (zac (zq10 GE102) hb); (try clear hb)))
 go_roundg k1
 case measure => have := HK1.out; omega
 case rel => exact ⟨(wrap64 (x10_1 + 1)), zq8, H', ⟨zq46 HK1⟩, ⟨zq10 GE102⟩⟩
def zfb (k : Nat) (l0 : List (S55)) : Option (Bool) := if (l0.length : Int) ≤ 20 then ((zhi k l0).bind fun t101 => (some t101)) else (some false)
theorem zeo : ∀ a0 k, LeO (zfb k a0) (zfb (k + 1) a0) := by
 intro a0 k
 unfold zfb
 exact zm1 zrn
theorem zcr (k : Nat) (A0 : Option Addr) (c0 : Nat) (l0 : List (S55)) (r : Bool) (w : World) (hr0 : Kd.C k55 w A0 l0.length l0) (hc0 : l0.length ≤ c0) (h : zfb k l0 = some r) :
   Calls Tryz.prog 53 #[.slice A0 l0.length c0] w fun e w' => e = .returned (.bool r) ∧ Below w.heap.size w w' := by
 have HR0 := zA hr0
 have HC0 := zA hc0
 clear hr0 hc0
 have HB := zA (Below.refl w.heap.size w)
 have H := h
 unfold zfb at H
 clear h
 by_cases c2 : (l0.length : Int) ≤ 20
 · rw [if_pos c2] at H
   have c2b0 := zdt c2
   have c2b1 : decide (l0.length ≤ 20) = true := zdt (by omega)
   clear c2
   replace H := zob H
   obtain ⟨t101, A30, H⟩ := H
   have A3 := zA A30
   clear A30
   obtain rfl := zsi H
   go_enter Tryz.func53, Tryz.ntmps53
   go_wp2_with (first | (go_at_call 105; (with_reducible refine (zqs k _ _ l0 t101 _ ?side1 ?side2 A3.out).mono ?_); (case side1 => repeat (first | exact HR0.out | (with_reducible first | refine zCa ?_ _ | refine zCn ?_ _ | refine zCd ?_))); (case side2 => exact HC0.out); rintro e w4 ⟨rfl, hb⟩; replace HB := zA (zac zq1 hb); (try clear hb)))
   exact zr_3
 · rw [if_neg c2] at H
   have c2b0 := zdf c2
   have c2b1 : decide (l0.length ≤ 20) = false := zdf (by omega)
   clear c2
   obtain rfl := zsi H
   go_enter Tryz.func53, Tryz.ntmps53
   go_wp2
   exact zr_3
def zhj (a0 : Int) : Option (Bool) := (zir a0 1 3).bind fun t101 => (some t101)
theorem zht (a0 : Int) (r : Bool) (w : World) (h : zhj a0 = some r) :
   Calls Tryz.prog 69 #[.int .i64 a0] w fun e w' => e = .returned (.bool r) ∧ Drawn0 w w' := by
 have H := h
 unfold zhj at H
 clear h
 replace H := zob H
 obtain ⟨t101, A20, H⟩ := H
 have A2 := zA A20
 clear A20
 obtain rfl := zsi H
 go_enter Tryz.func69, Tryz.ntmps69
 go_wp2_with (first | ((with_reducible refine zgc 99 ?_); refine zcl 4 Tryz.func99 (zfq a0 1 3 t101 _ A2.out) ?_; rintro e w' ⟨rfl, ⟨nd, rfl⟩⟩; refine ⟨_, rfl, ?_⟩))
 exact zr_1
def zej (k : Nat) (l0 : List (S55)) (a1 : Int) : Option (List Int × Bool) := (zfb k l0).bind fun t101 => (if t101 = true then ((zhj a1).bind fun t102 => (if t102 = true then (if (l0.length : Int) > 7 then (some (([] : List Int), false)) else ((zgz k l0 a1).bind fun t103 => (some (t103, true)))) else (some (([] : List Int), false)))) else (some (([] : List Int), false)))
theorem zul : ∀ a0 a1 k, LeO (zej k a0 a1) (zej (k + 1) a0 a1) := by
 intro a0 a1 k
 unfold zej
 exact zm2 zk8 zeo
theorem znx (k : Nat) (A0 : Option Addr) (c0 : Nat) (l0 : List (S55)) (a1 : Int) (r1 : List Int) (r2 : Bool) (w : World) (hr0 : Kd.C k55 w A0 l0.length l0) (hc0 : l0.length ≤ c0) (h : zej k l0 a1 = some (r1, r2)) :
   Calls Tryz.prog 44 #[.slice A0 l0.length c0, .int .i64 a1] w fun e w' => ∃ v0_ : Value, e = .returned (.tuple #[v0_, .bool r2]) ∧ Kd.R (Kd.int .i64) 3 w' w.heap.size (fun _ => True) v0_ r1 ∧ Below w.heap.size w w' := by
 have HR0 := zA hr0
 have HC0 := zA hc0
 clear hr0 hc0
 have HB := zA (Below.refl w.heap.size w)
 have H := h
 unfold zej at H
 clear h
 replace H := zob H
 obtain ⟨t101, A30, H⟩ := H
 have A3 := zA A30
 clear A30
 by_cases c4 : t101 = true
 rotate_left
 · replace c4 := zbf c4
   subst c4
   replace H := zif H
   simp only [Option.some.injEq, Prod.mk.injEq] at H
   obtain ⟨rfl, rfl⟩ := H
   go_enter Tryz.func44, Tryz.ntmps44
   go_wp2_with (first | ((with_reducible refine zgc 53 ?_); refine zca 7 Tryz.func53 #[.slice A0 l0.length c0] (zcr k _ _ l0 false _ (zq17 HR0) HC0.out A3.out) ?_; rintro e w13 ⟨rfl, hb⟩; refine ⟨_, rfl, ?_⟩; replace HB := zA (zac zq1 hb); (try clear hb)))
   go_ret2
   exact ⟨_, zq5, zq24, zq1⟩
 subst c4
 replace H := zih H
 replace H := zob H
 obtain ⟨t102, A50, H⟩ := H
 have A5 := zA A50
 clear A50
 by_cases c6 : t102 = true
 rotate_left
 · replace c6 := zbf c6
   subst c6
   replace H := zif H
   simp only [Option.some.injEq, Prod.mk.injEq] at H
   obtain ⟨rfl, rfl⟩ := H
   go_enter Tryz.func44, Tryz.ntmps44
   go_wp2_with (first | ((with_reducible refine zgc 53 ?_); refine zca 7 Tryz.func53 #[.slice A0 l0.length c0] (zcr k _ _ l0 true _ (zq17 HR0) HC0.out A3.out) ?_; rintro e w12 ⟨rfl, hb⟩; refine ⟨_, rfl, ?_⟩; replace HB := zA (zac zq1 hb); (try clear hb)) | (go_at_call 69; (with_reducible refine (zht a1 false _ A5.out).mono ?_); rintro e w' ⟨rfl, ⟨nd, rfl⟩⟩))
   go_ret2
   exact ⟨_, zq5, zq24, zq1⟩
 subst c6
 replace H := zih H
 by_cases c7 : (l0.length : Int) > 7
 · rw [if_pos c7] at H
   have c7b0 := zdt c7
   have c7b1 : decide (7 < l0.length) = true := zdt (by omega)
   clear c7
   simp only [Option.some.injEq, Prod.mk.injEq] at H
   obtain ⟨rfl, rfl⟩ := H
   go_enter Tryz.func44, Tryz.ntmps44
   go_wp2_with (first | ((with_reducible refine zgc 53 ?_); refine zca 7 Tryz.func53 #[.slice A0 l0.length c0] (zcr k _ _ l0 true _ (zq17 HR0) HC0.out A3.out) ?_; rintro e w8 ⟨rfl, hb⟩; refine ⟨_, rfl, ?_⟩; replace HB := zA (zac zq1 hb); (try clear hb)) | (go_at_call 69; (with_reducible refine (zht a1 true _ A5.out).mono ?_); rintro e w' ⟨rfl, ⟨nd, rfl⟩⟩))
   go_ret2
   exact ⟨_, zq5, zq24, zq1⟩
 rw [if_neg c7] at H
 have c7b0 := zdf c7
 have c7b1 : decide (7 < l0.length) = false := zdf (by omega)
 clear c7
 replace H := zob H
 obtain ⟨t103, A90, H⟩ := H
 have A9 := zA A90
 clear A90
 simp only [Option.some.injEq, Prod.mk.injEq] at H
 obtain ⟨rfl, rfl⟩ := H
 go_enter Tryz.func44, Tryz.ntmps44
 go_wp2_with (first | ((with_reducible refine zgc 53 ?_); refine zca 7 Tryz.func53 #[.slice A0 l0.length c0] (zcr k _ _ l0 true _ (zq17 HR0) HC0.out A3.out) ?_; rintro e w10 ⟨rfl, hb⟩; refine ⟨_, rfl, ?_⟩; replace HB := zA (zac zq1 hb); (try clear hb)) | (go_at_call 69; (with_reducible refine (zht a1 true _ A5.out).mono ?_); rintro e w' ⟨rfl, ⟨nd, rfl⟩⟩) | ((with_reducible refine zgc 95 ?_); refine zca 21 Tryz.func95 #[.slice A0 l0.length c0, .int .i64 a1] (znl k _ _ l0 a1 t103 _ (by repeat (first | exact (zCb HR0.out zq1) | (with_reducible first | refine zCa ?_ _ | refine zCn ?_ _ | refine zCd ?_))) HC0.out A9.out) ?_; rintro e w11 ⟨v104, rfl, ho0, hb⟩; refine ⟨_, rfl, ?_⟩; have HO105 := zA (Kd.R_lower ho0 (zah zq1)); replace HB := zA (zac zq1 hb); (try clear hb); (try clear ho0)))
 go_ret2
 exact ⟨_, zq5, zq2 HO105, zq1⟩
def IsS63 (w0 W : World) (g : Nat) (f0 : List Int) (f1 : Int) (f2 : Int) : Prop := ∃ A0 c0, W.heap[g]? = some (.cells #[.slice A0 f0.length c0, .int .i64 f1, .int .u64 f2] 63 (0, 0)) ∧ w0.heap.size ≤ g ∧ Kd.C (Kd.int .u8) w0 A0 f0.length f0
theorem IsS63.grown {w0 W : World} {g : Nat} {f0 : List Int} {f1 : Int} {f2 : Int} {W1 : World} {row : Option Nat} (h : IsS63 w0 W g f0 f1 f2) (hw : W.grownBy W1 row) (hne : some g ≠ row) : IsS63 w0 W1 g f0 f1 f2 := by
 obtain ⟨A0, c0, hb, hg, hr0⟩ := h
 exact ⟨A0, c0, zgv hb hw hne, hg, hr0⟩
theorem IsS63.kept {w0 W : World} {g : Nat} {f0 : List Int} {f1 : Int} {f2 : Int} {W1 : World} {S : Nat → Prop} (h : IsS63 w0 W g f0 f1 f2) (hk : Kept W W1 S) (hne : ¬ S g) : IsS63 w0 W1 g f0 f1 f2 := by
 obtain ⟨A0, c0, hb, hg, hr0⟩ := h
 exact ⟨A0, c0, zi4 hb hk hne, hg, hr0⟩
theorem IsS63.below {w0 W : World} {g : Nat} {f0 : List Int} {f1 : Int} {f2 : Int} {W1 : World} (h : IsS63 w0 W g f0 f1 f2) (hw : Below W.heap.size W W1) : IsS63 w0 W1 g f0 f1 f2 := h.grown (zna hw none) (by simp)
theorem IsS63.alloc {w0 W : World} {g : Nat} {f0 : List Int} {f1 : Int} {f2 : Int} (h : IsS63 w0 W g f0 f1 f2) (o : Obj) : IsS63 w0 (W.alloc o) g f0 f1 f2 := h.below (zba (Below.refl _ _) o)
theorem IsS63.drewN {w0 W : World} {g : Nat} {f0 : List Int} {f1 : Int} {f2 : Int} (h : IsS63 w0 W g f0 f1 f2) (m : Nat) : IsS63 w0 (W.drewN m) g f0 f1 f2 := h
theorem IsS63.drew {w0 W : World} {g : Nat} {f0 : List Int} {f1 : Int} {f2 : Int} (h : IsS63 w0 W g f0 f1 f2) : IsS63 w0 W.drew g f0 f1 f2 := h
theorem IsS63.at_ {w0 W : World} {g : Nat} {f0 : List Int} {f1 : Int} {f2 : Int} {w' : World} {m : Nat} (hq : W.drewN m = w') (h : IsS63 w0 W g f0 f1 f2) : IsS63 w0 w' g f0 f1 f2 := by subst hq; exact IsS63.drewN h m
theorem IsS63.apart {w0 W : World} {g : Nat} {f0 : List Int} {f1 : Int} {f2 : Int} {α : Type} {d : Kd α} {e : Nat} {base : Nat} {ok : Nat → Prop} {v : Value} {xs : List α} (h : IsS63 w0 W g f0 f1 f2) (ho : d.R e W base ok v xs) (ht : ∀ q, q ∈ e :: d.E → q ≠ 63) : d.R e W base (fun k => ok k ∧ k ≠ g) v xs := by
 obtain ⟨A0, c0, hb, hg, hr0⟩ := h
 exact Kd.R_types ho hb ht
theorem zmr {w0 W : World} {g : Nat} {f0 : List Int} {f1 : Int} {f2 : Int} {α : Type} {d : Kd α} {e : Nat} {base : Nat} {ok : Nat → Prop} {v : Value} {xs : List α} (h : IsS63 w0 W g f0 f1 f2) (ho : d.R e W base ok v xs) (ht : e ≠ 63) : some g ≠ v.ownBlock := by
 obtain ⟨A0, c0, hb, hg, hr0⟩ := h
 exact Kd.R_ne ho hb ht
theorem zo1 {w0 W : World} {g : Nat} {f0 : List Int} {f1 : Int} {f2 : Int} (h : IsS63 w0 W g f0 f1 f2) : g < W.heap.size := by
 obtain ⟨A0, c0, hb, hg, hr0⟩ := h
 exact zgu hb
theorem zrs {w0 W : World} {g : Nat} {f0 : List Int} {f1 : Int} {f2 : Int} (h : IsS63 w0 W g f0 f1 f2) : w0.heap.size ≤ g := by
 obtain ⟨A0, c0, hb, hg, hr0⟩ := h
 exact hg
theorem ze3 {w0 W : World} {g : Nat} {f0 : List Int} {f1 : Int} {f2 : Int} {p : Addr} (h : IsS63 w0 W g f0 f1 f2) (hne : g ≠ p.block) (u : Value) : IsS63 w0 (W.setCell p u) g f0 f1 f2 := by
 obtain ⟨A0, c0, hb, hg, hr0⟩ := h
 exact ⟨A0, c0, zav hb hne u, hg, hr0⟩
theorem zp8 {W : World} {g : Nat} {A0 : Option Addr} {c0 : Nat} {f0 : List Int} {f1 : Int} {f2 : Int} (h : W.heap[g]? = some (.cells #[.slice A0 f0.length c0, .int .i64 f1, .int .u64 f2] 63 (0, 0))) : W.cell? ⟨g, 0, none⟩ = some (.slice A0 f0.length c0) := (zab h 0).trans rfl
theorem zp9 {W : World} {g : Nat} {A0 : Option Addr} {c0 : Nat} {f0 : List Int} {f1 : Int} {f2 : Int} (h : W.heap[g]? = some (.cells #[.slice A0 f0.length c0, .int .i64 f1, .int .u64 f2] 63 (0, 0))) : W.cell? ⟨g, 1, none⟩ = some (.int .i64 f1) := (zab h 1).trans rfl
theorem zaz {w0 W : World} {g : Nat} {f0 : List Int} {f1 : Int} {f2 : Int} (h : IsS63 w0 W g f0 f1 f2) (x : Int) : IsS63 w0 (W.setCell ⟨g, 1, none⟩ (.int .i64 x)) g f0 x f2 := by
 obtain ⟨A0, c0, hb, hg, hr0⟩ := h
 exact ⟨A0, c0, by simpa using zap hb 1 (.int .i64 x), hg, hr0⟩
theorem zqa {W : World} {g : Nat} {A0 : Option Addr} {c0 : Nat} {f0 : List Int} {f1 : Int} {f2 : Int} (h : W.heap[g]? = some (.cells #[.slice A0 f0.length c0, .int .i64 f1, .int .u64 f2] 63 (0, 0))) : W.cell? ⟨g, 2, none⟩ = some (.int .u64 f2) := (zab h 2).trans rfl
theorem za0 {w0 W : World} {g : Nat} {f0 : List Int} {f1 : Int} {f2 : Int} (h : IsS63 w0 W g f0 f1 f2) (x : Int) : IsS63 w0 (W.setCell ⟨g, 2, none⟩ (.int .u64 x)) g f0 f1 x := by
 obtain ⟨A0, c0, hb, hg, hr0⟩ := h
 exact ⟨A0, c0, by simpa using zap hb 2 (.int .u64 x), hg, hr0⟩
def zg6 (s0_0 : List Int) (s0_1 : Int) (s0_2 : Int) : Option (Int × Int × Int) := if s0_1 < (s0_0.length : Int) then (if 0 ≤ s0_1 then (if (wrap64 (s0_1 + 1)) ≤ (s0_0.length : Int) then (some (wrap64 (rd s0_0 s0_1), wrap64 (s0_1 + 1), IntKind.u64.wrap ((IntKind.u64.wrap ((IntKind.u64.wrap (s0_2 * 6364136223846793005)) + (IntKind.u64.wrap (wrap64 (rd s0_0 s0_1))))) + 1442695040888963407))) else (some (wrap64 (Go.bits .and .u64 ((IntKind.u64.wrap ((IntKind.u64.wrap ((IntKind.u64.wrap (s0_2 * 6364136223846793005)) + (IntKind.u64.wrap (wrap64 (rd s0_0 s0_1))))) + 1442695040888963407)) / 1099511627776) 255), wrap64 (s0_1 + 1), IntKind.u64.wrap ((IntKind.u64.wrap ((IntKind.u64.wrap (s0_2 * 6364136223846793005)) + (IntKind.u64.wrap (wrap64 (rd s0_0 s0_1))))) + 1442695040888963407)))) else (none)) else (if (wrap64 (s0_1 + 1)) ≤ (s0_0.length : Int) then (some (0, wrap64 (s0_1 + 1), IntKind.u64.wrap ((IntKind.u64.wrap ((IntKind.u64.wrap (s0_2 * 6364136223846793005)))) + 1442695040888963407))) else (some (wrap64 (Go.bits .and .u64 ((IntKind.u64.wrap ((IntKind.u64.wrap ((IntKind.u64.wrap (s0_2 * 6364136223846793005)))) + 1442695040888963407)) / 1099511627776) 255), wrap64 (s0_1 + 1), IntKind.u64.wrap ((IntKind.u64.wrap ((IntKind.u64.wrap (s0_2 * 6364136223846793005)))) + 1442695040888963407))))
theorem ziu (g : Nat) (s0_0 : List Int) (s0_1 : Int) (s0_2 : Int) (r1 : Int) (r2 : Int) (r3 : Int) (w0 w : World) (hI : IsS63 w0 w g s0_0 s0_1 s0_2) (hB : Below w0.heap.size w0 w) (h : zg6 s0_0 s0_1 s0_2 = some (r1, r2, r3)) :
   Calls Tryz.prog 129 #[.pointer (some ⟨g, 0, none⟩)] w fun e w' => e = .returned (.int .i64 r1) ∧ IsS63 w0 w' g s0_0 r2 r3 ∧ Below w0.heap.size w0 w' ∧ KeepBut w w' g none := by
 have HI0 := zA hI
 have HK := zA (KeepBut.refl w g none)
 have HL := zA hB.size
 clear hI
 have HW0 := zA hB.size
 have HB := zA hB
 clear hB
 have H := h
 unfold zg6 at H
 clear h
 revert H
 refine zit (fun c2 H => ?_) fun c2 H => ?_
 rotate_left
 · by_cases c7 : (wrap64 (s0_1 + 1)) ≤ (s0_0.length : Int)
   · rw [if_pos c7] at H
     have c7b0 := zdt c7
     clear c7
     simp only [Option.some.injEq, Prod.mk.injEq] at H
     obtain ⟨rfl, rfl, rfl⟩ := H
     obtain ⟨ASz8_0, cSz8_0, HGz8, hgz8, HSz8_0⟩ := HI0.out
     have hcz8_0 := zp8 HGz8
     have hcz8_1 := zp9 HGz8
     have hcz8_2 := zqa HGz8
     have hfz8_1 := zat HGz8 1
     have hfz8_2 := zat HGz8 2
     clear HGz8 hgz8
     go_enter Tryz.func129, Tryz.ntmps129
     go_wp2
     repeat (go_quiet (fail); try go_wp2)
     exact zr_2
   rw [if_neg c7] at H
   have c7b0 := zdf c7
   clear c7
   simp only [Option.some.injEq, Prod.mk.injEq] at H
   obtain ⟨rfl, rfl, rfl⟩ := H
   obtain ⟨ASz9_0, cSz9_0, HGz9, hgz9, HSz9_0⟩ := HI0.out
   have hcz9_0 := zp8 HGz9
   have hcz9_1 := zp9 HGz9
   have hcz9_2 := zqa HGz9
   have hfz9_1 := zat HGz9 1
   have hfz9_2 := zat HGz9 2
   clear HGz9 hgz9
   go_enter Tryz.func129, Tryz.ntmps129
   go_wp2
   repeat (go_quiet (fail); try go_wp2)
   exact zr_2
 revert H
 refine zin fun c3 H => ?_
 revert H
 refine zit (fun c4b0 H => ?_) fun c4b0 H => ?_
 · simp only [Option.some.injEq, Prod.mk.injEq] at H
   obtain ⟨rfl, rfl, rfl⟩ := H
   obtain ⟨ASz5_0, cSz5_0, HGz5, hgz5, HSz5_0⟩ := HI0.out
   have hcz5_0 := zp8 HGz5
   have hcz5_1 := zp9 HGz5
   have hcz5_2 := zqa HGz5
   have hfz5_1 := zat HGz5 1
   have hfz5_2 := zat HGz5 2
   clear HGz5 hgz5
   obtain ⟨p101, q101⟩ := zpq s0_1 s0_0.length
   obtain ⟨ad101, e101, hx101_0⟩ := Kd.at_int HSz5_0 s0_1 (zoe p101) (zoe q101)
   cases e101
   replace hx101_0 := zh5 HB.out hx101_0
   go_enter Tryz.func129, Tryz.ntmps129
   go_wp2
   repeat (go_quiet (fail); try go_wp2)
   exact zr_2
 simp only [Option.some.injEq, Prod.mk.injEq] at H
 obtain ⟨rfl, rfl, rfl⟩ := H
 obtain ⟨ASz6_0, cSz6_0, HGz6, hgz6, HSz6_0⟩ := HI0.out
 have hcz6_0 := zp8 HGz6
 have hcz6_1 := zp9 HGz6
 have hcz6_2 := zqa HGz6
 have hfz6_1 := zat HGz6 1
 have hfz6_2 := zat HGz6 2
 clear HGz6 hgz6
 obtain ⟨p101, q101⟩ := zpq s0_1 s0_0.length
 obtain ⟨ad101, e101, hx101_0⟩ := Kd.at_int HSz6_0 s0_1 (zoe p101) (zoe q101)
 cases e101
 replace hx101_0 := zh5 HB.out hx101_0
 go_enter Tryz.func129, Tryz.ntmps129
 go_wp2
 repeat (go_quiet (fail); try go_wp2)
 exact zr_2
def zbk (s0_0 : List Int) (s0_1 : Int) (s0_2 : Int) (a1 : Int) : Option (Int × Int × Int) := if a1 ≤ 1 then (some (0, s0_1, s0_2)) else ((zg6 s0_0 s0_1 s0_2).bind fun bt101 => (if a1 > 200 then ((zg6 s0_0 bt101.2.1 bt101.2.2).bind fun bt104 => (if a1 = 0 then (none) else (some (Int.tmod (wrap64 ((wrap64 (bt101.1 * 256)) + bt104.1)) a1, bt104.2.1, bt104.2.2)))) else (if a1 = 0 then (none) else (some (Int.tmod bt101.1 a1, bt101.2.1, bt101.2.2)))))
theorem zau (g : Nat) (s0_0 : List Int) (s0_1 : Int) (s0_2 : Int) (a1 : Int) (r1 : Int) (r2 : Int) (r3 : Int) (w0 w : World) (hI : IsS63 w0 w g s0_0 s0_1 s0_2) (hB : Below w0.heap.size w0 w) (h : zbk s0_0 s0_1 s0_2 a1 = some (r1, r2, r3)) :
   Calls Tryz.prog 98 #[.pointer (some ⟨g, 0, none⟩), .int .i64 a1] w fun e w' => e = .returned (.int .i64 r1) ∧ IsS63 w0 w' g s0_0 r2 r3 ∧ Below w0.heap.size w0 w' ∧ KeepBut w w' g none := by
 have HI0 := zA hI
 have HK := zA (KeepBut.refl w g none)
 have HL := zA hB.size
 clear hI
 have HW0 := zA hB.size
 have HB := zA hB
 clear hB
 have H := h
 unfold zbk at H
 clear h
 revert H
 refine zit (fun c3b0 H => ?_) fun c3b0 H => ?_
 · simp only [Option.some.injEq, Prod.mk.injEq] at H
   obtain ⟨rfl, rfl, rfl⟩ := H
   go_enter Tryz.func98, Tryz.ntmps98
   go_wp2
   exact zr_2
 replace H := zob H
 obtain ⟨⟨t101, t102, t103⟩, A40, H⟩ := H
 have A4 := zA A40
 clear A40
 by_cases c5 : a1 > 200
 rotate_left
 · rw [if_neg c5] at H
   have c5b0 := zdf c5
   clear c5
   by_cases c10 : a1 = 0
   · rw [if_pos c10] at H
     exact absurd H (by simp)
   rw [if_neg c10] at H
   obtain ⟨c10b0, c10b1⟩ := zbq c10
   simp only [Option.some.injEq, Prod.mk.injEq] at H
   obtain ⟨rfl, rfl, rfl⟩ := H
   go_enter Tryz.func98, Tryz.ntmps98
   go_wp2_with (first | ((with_reducible refine zgc 129 ?_); refine zca 9 Tryz.func129 #[.pointer (some ⟨g, 0, none⟩)] (ziu g s0_0 s0_1 s0_2 t101 t102 t103 w0 _ (zq3 HI0) (zq6 HI0) A4.out) ?_; rintro e w11 ⟨rfl, hi, hb, hk⟩; refine ⟨_, rfl, ?_⟩; replace HK := zA (KeepBut.trans zq7 hk (.inl rfl)); replace HB := zA (hb); replace HI0 := zA (hi); (try clear hb); (try clear hk); (try clear hi)))
   exact zr_2
 rw [if_pos c5] at H
 have c5b0 := zdt c5
 clear c5
 replace H := zob H
 obtain ⟨⟨t104, t105, t106⟩, A60, H⟩ := H
 have A6 := zA A60
 clear A60
 by_cases c7 : a1 = 0
 · rw [if_pos c7] at H
   exact absurd H (by simp)
 rw [if_neg c7] at H
 obtain ⟨c7b0, c7b1⟩ := zbq c7
 simp only [Option.some.injEq, Prod.mk.injEq] at H
 obtain ⟨rfl, rfl, rfl⟩ := H
 go_enter Tryz.func98, Tryz.ntmps98
 go_wp2_with (first | ((with_reducible refine zgc 129 ?_); refine zca 9 Tryz.func129 #[.pointer (some ⟨g, 0, none⟩)] (ziu g s0_0 s0_1 s0_2 t101 t102 t103 w0 _ (zq3 HI0) (zq6 HI0) A4.out) ?_; rintro e w8 ⟨rfl, hi, hb, hk⟩; refine ⟨_, rfl, ?_⟩; replace HK := zA (KeepBut.trans zq7 hk (.inl rfl)); replace HB := zA (hb); replace HI0 := zA (hi); (try clear hb); (try clear hk); (try clear hi)) | ((with_reducible refine zgc 129 ?_); refine zca 15 Tryz.func129 #[.pointer (some ⟨g, 0, none⟩)] (ziu g s0_0 t102 t103 t104 t105 t106 w0 _ (zq3 HI0) (zq6 HI0) A6.out) ?_; rintro e w9 ⟨rfl, hi, hb, hk⟩; refine ⟨_, rfl, ?_⟩; replace HK := zA (KeepBut.trans zq7 hk (.inl rfl)); replace HB := zA (hb); replace HI0 := zA (hi); (try clear hb); (try clear hk); (try clear hi)))
 exact zr_2
def zcj (s0_0 : List Int) (s0_1 : Int) (s0_2 : Int) (l1 : List Int) : Option (Int × Int × Int) := (zbk s0_0 s0_1 s0_2 (l1.length : Int)).bind fun bt101 => (if 0 ≤ bt101.1 then (if bt101.1 < (l1.length : Int) then (some (rd l1 bt101.1, bt101.2.1, bt101.2.2)) else (none)) else (none))
theorem zcu (g : Nat) (s0_0 : List Int) (s0_1 : Int) (s0_2 : Int) (A1 : Option Addr) (c1 : Nat) (l1 : List Int) (r1 : Int) (r2 : Int) (r3 : Int) (w0 w : World) (hI : IsS63 w0 w g s0_0 s0_1 s0_2) (hB : Below w0.heap.size w0 w) (hr1 : Kd.C (Kd.int .i64) w A1 l1.length l1) (hc1 : l1.length ≤ c1) (hf1 : ∀ ad, A1 = some ad → 0 < l1.length → ad.block ≠ g) (h : zcj s0_0 s0_1 s0_2 l1 = some (r1, r2, r3)) :
   Calls Tryz.prog 61 #[.pointer (some ⟨g, 0, none⟩), .slice A1 l1.length c1] w fun e w' => e = .returned (.int .i64 r1) ∧ IsS63 w0 w' g s0_0 r2 r3 ∧ Below w0.heap.size w0 w' ∧ KeepBut w w' g none := by
 have HR1 := zA hr1
 have HC1 := zA hc1
 clear hr1 hc1
 have HI0 := zA hI
 have HK := zA (KeepBut.refl w g none)
 have HL := zA hB.size
 clear hI
 have HW0 := zA hB.size
 have HB := zA hB
 clear hB
 have H := h
 unfold zcj at H
 clear h
 replace H := zob H
 obtain ⟨⟨t101, t102, t103⟩, A30, H⟩ := H
 have A3 := zA A30
 clear A30
 revert H
 refine zin fun c4 H => ?_
 revert H
 refine zin fun c5 H => ?_
 simp only [Option.some.injEq, Prod.mk.injEq] at H
 obtain ⟨rfl, rfl, rfl⟩ := H
 go_enter Tryz.func61, Tryz.ntmps61
 go_wp2_with (first | ((with_reducible refine zgc 98 ?_); refine zca 9 Tryz.func98 #[.pointer (some ⟨g, 0, none⟩), .int .i64 (l1.length : Int)] (zau g s0_0 s0_1 s0_2 (l1.length : Int) t101 t102 t103 w0 _ (zq3 HI0) (zq6 HI0) A3.out) ?_; rintro e w6 ⟨rfl, hi, hb, hk⟩; refine ⟨_, rfl, ?_⟩; replace HK := zA (KeepBut.trans zq7 hk (.inl rfl)); replace HB := zA (hb); replace HI0 := zA (hi); (try clear hb); (try clear hk); (try clear hi); have p104 : 0 ≤ (t101 : Int) := zde zq21; have q104 : t101 < (l1.length : Int) := zde zq21; obtain ⟨ad104, e104, hx104_0⟩ := Kd.at_int HR1.out t101 p104 q104; cases e104; replace hx104_0 := zv2 HK.out hx104_0 (by first | (rw [za5]; exact hf1 _ rfl (by omega)) | exact hf1 _ rfl (by omega) | exact hf1 ad104 rfl (by omega)); replace p104 := eq_true p104; replace q104 := eq_true q104))
 exact zr_2
def zep : Nat → ByteArray → List ByteArray → Int → Int → Option (Bool)
 | 0, _, _, _, _ => none
 | k + 1, x1, x7, x8, x9 => if x9 < x8 then (if 0 ≤ x9 then (if x9 < (x7.length : Int) then (if (rdOf ByteArray.empty x7 x9).toList = x1.toList then (some true) else (zep k x1 x7 x8 (wrap64 (x9 + 1)))) else (none)) else (none)) else (some false)
def zhk (k : Nat) (l0 : List ByteArray) (a1 : ByteArray) : Option (Bool) := zep k a1 l0 (l0.length : Int) 0
theorem zms : ∀ k, (∀ y0 y1 y2 y3, LeO (zep k y0 y1 y2 y3) (zep (k + 1) y0 y1 y2 y3))
 | 0 => fun _ _ _ _ r h => by simp [zep] at h
 | k + 1 => by
   have ih0 := zms k
   · intro y0 y1 y2 y3
     unfold zep
     exact zm1 ih0
theorem zro : ∀ a0 a1 k, LeO (zhk k a0 a1) (zhk (k + 1) a0 a1) := by
 intro a0 a1 k
 have ih0 := zms k
 unfold zhk
 exact zm1 ih0
theorem zqt (k : Nat) (A0 : Option Addr) (c0 : Nat) (l0 : List ByteArray) (a1 : ByteArray) (r : Bool) (w : World) (hr0 : Kd.C Kd.string w A0 l0.length l0) (hc0 : l0.length ≤ c0) (h : zhk k l0 a1 = some r) :
   Calls Tryz.prog 170 #[.slice A0 l0.length c0, .string a1] w fun e w' => e = .returned (.bool r) ∧ Drawn0 w w' := by
 have HR0 := zA hr0
 have HC0 := zA hc0
 clear hr0 hc0
 have H := h
 unfold zhk at H
 clear h
 have H' := zA H
 clear H
 go_enter Tryz.func170, Tryz.ntmps170
 go_wp2
 go_loopg [9] k (fun kq v9 w' => ∃ (x9_1 : Int), v9 = .int .i64 x9_1 ∧ Aside0 (zep kq a1 l0 (l0.length : Int) x9_1 = some r) ∧ Aside0 (kq ≤ k) ∧ Drawn0 w w')
 case atStart => exact ⟨(0), zq8, H', ⟨zlr _⟩, zq14⟩
 clear H'
 obtain ⟨x9_1, rfl, HA, HK1, ⟨m1, rfl⟩⟩ := hrel
 cases gk with
 | zero => exact absurd HA.out (by simp [zep])
 | succ k1 =>
 have H := HA.out
 clear HA
 simp only [zep] at H
 revert H
 refine zit (fun c3 H => ?_) fun c3 H => ?_
 rotate_left
 · obtain rfl := zsi H
   exact zr_5
 revert H
 refine zin fun c4 H => ?_
 revert H
 refine zin fun c5 H => ?_
 by_cases c6 : (rdOf ByteArray.empty l0 x9_1).toList = a1.toList
 · rw [if_pos c6] at H
   obtain ⟨c6b0, c6b1⟩ := zbe c6
   clear c6
   obtain rfl := zsi H
   obtain ⟨p101, q101⟩ := zpq x9_1 l0.length
   obtain ⟨ad101, e101, hx101_0⟩ := Kd.at_string HR0.out x9_1 (zoe p101) (zoe q101)
   cases e101
   exact zr_5
 rw [if_neg c6] at H
 obtain ⟨c6b0, c6b1⟩ := zbq c6
 have H' := zA H
 clear H
 obtain ⟨p101, q101⟩ := zpq x9_1 l0.length
 obtain ⟨ad101, e101, hx101_0⟩ := Kd.at_string HR0.out x9_1 (zoe p101) (zoe q101)
 cases e101
 go_wp2
 go_roundg k1
 case measure => have := HK1.out; omega
 case rel => exact ⟨(wrap64 (x9_1 + 1)), zq8, H', ⟨zq46 HK1⟩, zq14⟩
def zhy (k : Nat) (a0 : ByteArray) : Option (Bool) := (zhk k (([(⟨#[115, 101, 116]⟩ : ByteArray), (⟨#[97, 100, 100, 105]⟩ : ByteArray), (⟨#[97, 110, 100, 105]⟩ : ByteArray), (⟨#[120, 111, 114, 105]⟩ : ByteArray), (⟨#[115, 104, 108, 105]⟩ : ByteArray), (⟨#[115, 104, 114, 105]⟩ : ByteArray), (⟨#[108, 101, 97]⟩ : ByteArray)] : List ByteArray)) a0).bind fun t104 => (some t104)
theorem zl6 : ∀ a0 k, LeO (zhy k a0) (zhy (k + 1) a0) := by
 intro a0 k
 unfold zhy
 exact zm1 zro
theorem zk9 (k : Nat) (a0 : ByteArray) (r : Bool) (w : World) (h : zhy k a0 = some r) :
   Calls Tryz.prog 154 #[.string a0] w fun e w' => e = .returned (.bool r) ∧ Below w.heap.size w w' := by
 have HB := zA (Below.refl w.heap.size w)
 have H := h
 unfold zhy at H
 clear h
 obtain ⟨y101, hy101⟩ : ∃ y_ : List ByteArray, y_ = (([(⟨#[115, 101, 116]⟩ : ByteArray), (⟨#[97, 100, 100, 105]⟩ : ByteArray), (⟨#[97, 110, 100, 105]⟩ : ByteArray), (⟨#[120, 111, 114, 105]⟩ : ByteArray), (⟨#[115, 104, 108, 105]⟩ : ByteArray), (⟨#[115, 104, 114, 105]⟩ : ByteArray), (⟨#[108, 101, 97]⟩ : ByteArray)] : List ByteArray)) := ⟨_, rfl⟩
 rw [← hy101] at H; try with_reducible replace H := zbs H
 have Ny101 := zA hy101
 clear hy101
 replace H := zob H
 obtain ⟨t104, A20, H⟩ := H
 have A2 := zA A20
 clear A20
 obtain rfl := zsi H
 go_enter Tryz.func154, Tryz.ntmps154
 go_wp2_with (first | ((with_reducible refine zgd 3 ?_); refine Kd.R_lit Kd.string _ 9 ?hg (N := 3) ?hd (xs := ([(⟨#[115, 101, 116]⟩ : ByteArray), (⟨#[97, 100, 100, 105]⟩ : ByteArray), (⟨#[97, 110, 100, 105]⟩ : ByteArray), (⟨#[120, 111, 114, 105]⟩ : ByteArray), (⟨#[115, 104, 108, 105]⟩ : ByteArray), (⟨#[115, 104, 114, 105]⟩ : ByteArray), (⟨#[108, 101, 97]⟩ : ByteArray)] : List ByteArray)) (inner := [.string (⟨#[115, 101, 116]⟩ : ByteArray), .string (⟨#[97, 100, 100, 105]⟩ : ByteArray), .string (⟨#[97, 110, 100, 105]⟩ : ByteArray), .string (⟨#[120, 111, 114, 105]⟩ : ByteArray), .string (⟨#[115, 104, 108, 105]⟩ : ByteArray), .string (⟨#[115, 104, 114, 105]⟩ : ByteArray), .string (⟨#[108, 101, 97]⟩ : ByteArray)]) (ok := fun _ => True) (okp := fun _ => True) ?hr ?hp (fun _ hk => hk) trivial (Below.refl _ _) (zlr _) (by simp) ?_; (case hd => rfl); (case hg => rfl); (case hr => go_simp <;> rfl); (case hp => exact (zak (show Kd.M Kd.string _ _ _ (⟨#[115, 101, 116]⟩ : ByteArray) [.string (⟨#[115, 101, 116]⟩ : ByteArray)] from rfl) (zak (show Kd.M Kd.string _ _ _ (⟨#[97, 100, 100, 105]⟩ : ByteArray) [.string (⟨#[97, 100, 100, 105]⟩ : ByteArray)] from rfl) (zak (show Kd.M Kd.string _ _ _ (⟨#[97, 110, 100, 105]⟩ : ByteArray) [.string (⟨#[97, 110, 100, 105]⟩ : ByteArray)] from rfl) (zak (show Kd.M Kd.string _ _ _ (⟨#[120, 111, 114, 105]⟩ : ByteArray) [.string (⟨#[120, 111, 114, 105]⟩ : ByteArray)] from rfl) (zak (show Kd.M Kd.string _ _ _ (⟨#[115, 104, 108, 105]⟩ : ByteArray) [.string (⟨#[115, 104, 108, 105]⟩ : ByteArray)] from rfl) (zak (show Kd.M Kd.string _ _ _ (⟨#[115, 104, 114, 105]⟩ : ByteArray) [.string (⟨#[115, 104, 114, 105]⟩ : ByteArray)] from rfl) (zak (show Kd.M Kd.string _ _ _ (⟨#[108, 101, 97]⟩ : ByteArray) [.string (⟨#[108, 101, 97]⟩ : ByteArray)] from rfl) (Reps.none _ _))))))))); intro v102 w3 ho4 hb hg_ hnew_; clear hg_ hnew_; (first | rw [← Ny101.out] at ho4 | (simp only [Int.reduceToNat] at ho4; rw [← Ny101.out] at ho4)); have HO103 := zA (Kd.R_lower ho4 (zah zq1)); replace HB := zA (zac zq1 hb); clear hb ho4; obtain ⟨Ao5, co5, eo5⟩ := Kd.R_slice HO103.out; subst eo5) | ((with_reducible refine zgc 170 ?_); refine zca 5 Tryz.func170 #[.slice Ao5 y101.length co5, .string a0] (zqt k _ _ y101 a0 t104 _ (zq18 HO103) (zq43 HO103) A2.out) ?_; rintro e w' ⟨rfl, ⟨nd, rfl⟩⟩; refine ⟨_, rfl, ?_⟩))
 exact zr_3
def zhu (s0_0 : List Int) (s0_1 : Int) (s0_2 : Int) (l1 : List ByteArray) : Option (ByteArray × Int × Int) := (zbk s0_0 s0_1 s0_2 (l1.length : Int)).bind fun bt101 => (if 0 ≤ bt101.1 then (if bt101.1 < (l1.length : Int) then (some (rdOf ByteArray.empty l1 bt101.1, bt101.2.1, bt101.2.2)) else (none)) else (none))
theorem zl7 (g : Nat) (s0_0 : List Int) (s0_1 : Int) (s0_2 : Int) (A1 : Option Addr) (c1 : Nat) (l1 : List ByteArray) (r1 : ByteArray) (r2 : Int) (r3 : Int) (w0 w : World) (hI : IsS63 w0 w g s0_0 s0_1 s0_2) (hB : Below w0.heap.size w0 w) (hr1 : Kd.C Kd.string w A1 l1.length l1) (hc1 : l1.length ≤ c1) (hf1 : ∀ ad, A1 = some ad → 0 < l1.length → ad.block ≠ g) (h : zhu s0_0 s0_1 s0_2 l1 = some (r1, r2, r3)) :
   Calls Tryz.prog 153 #[.pointer (some ⟨g, 0, none⟩), .slice A1 l1.length c1] w fun e w' => e = .returned (.string r1) ∧ IsS63 w0 w' g s0_0 r2 r3 ∧ Below w0.heap.size w0 w' ∧ KeepBut w w' g none := by
 have HR1 := zA hr1
 have HC1 := zA hc1
 clear hr1 hc1
 have HI0 := zA hI
 have HK := zA (KeepBut.refl w g none)
 have HL := zA hB.size
 clear hI
 have HW0 := zA hB.size
 have HB := zA hB
 clear hB
 have H := h
 unfold zhu at H
 clear h
 replace H := zob H
 obtain ⟨⟨t101, t102, t103⟩, A30, H⟩ := H
 have A3 := zA A30
 clear A30
 revert H
 refine zin fun c4 H => ?_
 revert H
 refine zin fun c5 H => ?_
 simp only [Option.some.injEq, Prod.mk.injEq] at H
 obtain ⟨rfl, rfl, rfl⟩ := H
 go_enter Tryz.func153, Tryz.ntmps153
 go_wp2_with (first | ((with_reducible refine zgc 98 ?_); refine zca 9 Tryz.func98 #[.pointer (some ⟨g, 0, none⟩), .int .i64 (l1.length : Int)] (zau g s0_0 s0_1 s0_2 (l1.length : Int) t101 t102 t103 w0 _ (zq3 HI0) (zq6 HI0) A3.out) ?_; rintro e w6 ⟨rfl, hi, hb, hk⟩; refine ⟨_, rfl, ?_⟩; replace HK := zA (KeepBut.trans zq7 hk (.inl rfl)); replace HB := zA (hb); replace HI0 := zA (hi); (try clear hb); (try clear hk); (try clear hi); have p104 : 0 ≤ (t101 : Int) := zde zq21; have q104 : t101 < (l1.length : Int) := zde zq21; obtain ⟨ad104, e104, hx104_0⟩ := Kd.at_string HR1.out t101 p104 q104; cases e104; replace hx104_0 := zv2 HK.out hx104_0 (by first | (rw [za5]; exact hf1 _ rfl (by omega)) | exact hf1 _ rfl (by omega) | exact hf1 ad104 rfl (by omega)); replace p104 := eq_true p104; replace q104 := eq_true q104))
 exact zr_2
def zgp (s0_0 : List Int) (s0_1 : Int) (s0_2 : Int) (a1 : Int) : Option (Bool × Int × Int) := (zbk s0_0 s0_1 s0_2 a1).bind fun bt101 => (some ((bt101.1 == 0), bt101.2.1, bt101.2.2))
theorem zgt (g : Nat) (s0_0 : List Int) (s0_1 : Int) (s0_2 : Int) (a1 : Int) (r1 : Bool) (r2 : Int) (r3 : Int) (w0 w : World) (hI : IsS63 w0 w g s0_0 s0_1 s0_2) (hB : Below w0.heap.size w0 w) (h : zgp s0_0 s0_1 s0_2 a1 = some (r1, r2, r3)) :
   Calls Tryz.prog 96 #[.pointer (some ⟨g, 0, none⟩), .int .i64 a1] w fun e w' => e = .returned (.bool r1) ∧ IsS63 w0 w' g s0_0 r2 r3 ∧ Below w0.heap.size w0 w' ∧ KeepBut w w' g none := by
 have HI0 := zA hI
 have HK := zA (KeepBut.refl w g none)
 have HL := zA hB.size
 clear hI
 have HW0 := zA hB.size
 have HB := zA hB
 clear hB
 have H := h
 unfold zgp at H
 clear h
 replace H := zob H
 obtain ⟨⟨t101, t102, t103⟩, A30, H⟩ := H
 have A3 := zA A30
 clear A30
 simp only [Option.some.injEq, Prod.mk.injEq] at H
 obtain ⟨rfl, rfl, rfl⟩ := H
 go_enter Tryz.func96, Tryz.ntmps96
 go_wp2_with (first | ((with_reducible refine zgc 98 ?_); refine zca 7 Tryz.func98 #[.pointer (some ⟨g, 0, none⟩), .int .i64 a1] (zau g s0_0 s0_1 s0_2 a1 t101 t102 t103 w0 _ (zq3 HI0) (zq6 HI0) A3.out) ?_; rintro e w4 ⟨rfl, hi, hb, hk⟩; refine ⟨_, rfl, ?_⟩; replace HK := zA (KeepBut.trans zq7 hk (.inl rfl)); replace HB := zA (hb); replace HI0 := zA (hi); (try clear hb); (try clear hk); (try clear hi)))
 exact zr_2
def zhv (s0_0 : List Int) (s0_1 : Int) (s0_2 : Int) : Option (Int × Int × Int) := (zgp s0_0 s0_1 s0_2 2).bind fun bt101 => (if bt101.1 = true then ((zcj s0_0 bt101.2.1 bt101.2.2 (([0, 1, 2, 3, 4, 5, 6, 7, 8, 16, 31, 32, 33, 62, 63] : List Int))).bind fun bt107 => (some (bt107.1, bt107.2.1, bt107.2.2))) else ((zbk s0_0 bt101.2.1 bt101.2.2 64).bind fun bt110 => (some (bt110.1, bt110.2.1, bt110.2.2))))
theorem zoo (g : Nat) (s0_0 : List Int) (s0_1 : Int) (s0_2 : Int) (r1 : Int) (r2 : Int) (r3 : Int) (w0 w : World) (hI : IsS63 w0 w g s0_0 s0_1 s0_2) (hB : Below w0.heap.size w0 w) (h : zhv s0_0 s0_1 s0_2 = some (r1, r2, r3)) :
   Calls Tryz.prog 155 #[.pointer (some ⟨g, 0, none⟩)] w fun e w' => e = .returned (.int .i64 r1) ∧ IsS63 w0 w' g s0_0 r2 r3 ∧ Below w0.heap.size w0 w' ∧ KeepBut w w' g none := by
 have HI0 := zA hI
 have HK := zA (KeepBut.refl w g none)
 have HL := zA hB.size
 clear hI
 have HW0 := zA hB.size
 have HB := zA hB
 clear hB
 have H := h
 unfold zhv at H
 clear h
 replace H := zob H
 obtain ⟨⟨t101, t102, t103⟩, A20, H⟩ := H
 have A2 := zA A20
 clear A20
 by_cases c3 : t101 = true
 rotate_left
 · replace c3 := zbf c3
   subst c3
   replace H := zif H
   replace H := zob H
   obtain ⟨⟨t110, t111, t112⟩, A100, H⟩ := H
   have A10 := zA A100
   clear A100
   simp only [Option.some.injEq, Prod.mk.injEq] at H
   obtain ⟨rfl, rfl, rfl⟩ := H
   go_enter Tryz.func155, Tryz.ntmps155
   go_wp2_with (first | ((with_reducible refine zgc 96 ?_); refine zca 4 Tryz.func96 #[.pointer (some ⟨g, 0, none⟩), .int .i64 2] (zgt g s0_0 s0_1 s0_2 2 false t102 t103 w0 _ (zq3 HI0) (zq6 HI0) A2.out) ?_; rintro e w11 ⟨rfl, hi, hb, hk⟩; refine ⟨_, rfl, ?_⟩; replace HK := zA (KeepBut.trans zq7 hk (.inl rfl)); replace HB := zA (hb); replace HI0 := zA (hi); (try clear hb); (try clear hk); (try clear hi)) | ((with_reducible refine zgc 98 ?_); refine zca 9 Tryz.func98 #[.pointer (some ⟨g, 0, none⟩), .int .i64 64] (zau g s0_0 t102 t103 64 t110 t111 t112 w0 _ (zq3 HI0) (zq6 HI0) A10.out) ?_; rintro e w12 ⟨rfl, hi, hb, hk⟩; refine ⟨_, rfl, ?_⟩; replace HK := zA (KeepBut.trans zq7 hk (.inl rfl)); replace HB := zA (hb); replace HI0 := zA (hi); (try clear hb); (try clear hk); (try clear hi)))
   exact zr_2
 subst c3
 replace H := zih H
 obtain ⟨y104, hy104⟩ : ∃ y_ : List Int, y_ = (([0, 1, 2, 3, 4, 5, 6, 7, 8, 16, 31, 32, 33, 62, 63] : List Int)) := ⟨_, rfl⟩
 rw [← hy104] at H; try with_reducible replace H := zbs H
 have Ny104 := zA hy104
 clear hy104
 replace H := zob H
 obtain ⟨⟨t107, t108, t109⟩, A40, H⟩ := H
 have A4 := zA A40
 clear A40
 simp only [Option.some.injEq, Prod.mk.injEq] at H
 obtain ⟨rfl, rfl, rfl⟩ := H
 go_enter Tryz.func155, Tryz.ntmps155
 go_wp2_with (first | ((with_reducible refine zgc 96 ?_); refine zca 4 Tryz.func96 #[.pointer (some ⟨g, 0, none⟩), .int .i64 2] (zgt g s0_0 s0_1 s0_2 2 true t102 t103 w0 _ (zq3 HI0) (zq6 HI0) A2.out) ?_; rintro e w5 ⟨rfl, hi, hb, hk⟩; refine ⟨_, rfl, ?_⟩; replace HK := zA (KeepBut.trans zq7 hk (.inl rfl)); replace HB := zA (hb); replace HI0 := zA (hi); (try clear hb); (try clear hk); (try clear hi)) | ((with_reducible refine zgd 6 ?_); refine Kd.R_lit (Kd.int .i64) _ 3 ?hg (N := 6) ?hd (xs := ([0, 1, 2, 3, 4, 5, 6, 7, 8, 16, 31, 32, 33, 62, 63] : List Int)) (inner := [.int .i64 0, .int .i64 1, .int .i64 2, .int .i64 3, .int .i64 4, .int .i64 5, .int .i64 6, .int .i64 7, .int .i64 8, .int .i64 16, .int .i64 31, .int .i64 32, .int .i64 33, .int .i64 62, .int .i64 63]) (ok := fun _ => True) (okp := fun _ => True) ?hr ?hp (fun _ hk => hk) trivial (Below.refl _ _) (zlr _) (by simp) ?_; (case hd => rfl); (case hg => rfl); (case hr => go_simp <;> rfl); (case hp => exact (zak (show Kd.M (Kd.int .i64) _ _ _ 0 [.int .i64 0] from rfl) (zak (show Kd.M (Kd.int .i64) _ _ _ 1 [.int .i64 1] from rfl) (zak (show Kd.M (Kd.int .i64) _ _ _ 2 [.int .i64 2] from rfl) (zak (show Kd.M (Kd.int .i64) _ _ _ 3 [.int .i64 3] from rfl) (zak (show Kd.M (Kd.int .i64) _ _ _ 4 [.int .i64 4] from rfl) (zak (show Kd.M (Kd.int .i64) _ _ _ 5 [.int .i64 5] from rfl) (zak (show Kd.M (Kd.int .i64) _ _ _ 6 [.int .i64 6] from rfl) (zak (show Kd.M (Kd.int .i64) _ _ _ 7 [.int .i64 7] from rfl) (zak (show Kd.M (Kd.int .i64) _ _ _ 8 [.int .i64 8] from rfl) (zak (show Kd.M (Kd.int .i64) _ _ _ 16 [.int .i64 16] from rfl) (zak (show Kd.M (Kd.int .i64) _ _ _ 31 [.int .i64 31] from rfl) (zak (show Kd.M (Kd.int .i64) _ _ _ 32 [.int .i64 32] from rfl) (zak (show Kd.M (Kd.int .i64) _ _ _ 33 [.int .i64 33] from rfl) (zak (show Kd.M (Kd.int .i64) _ _ _ 62 [.int .i64 62] from rfl) (zak (show Kd.M (Kd.int .i64) _ _ _ 63 [.int .i64 63] from rfl) (Reps.none _ _))))))))))))))))); intro v105 w6 ho7 hb hg_ hnew_; clear hg_ hnew_; (first | rw [← Ny104.out] at ho7 | (simp only [Int.reduceToNat] at ho7; rw [← Ny104.out] at ho7)); have HO106 := zA (Kd.R_lower ho7 (zfw (w := w) (g := g) (row := none) zq7)); replace HK := zA (KeepBut.trans zq7 (zcn hb g none) (.inl rfl)); replace HB := zA (zac (zq6 HI0) hb); replace HI0 := zA (IsS63.below (zq3 HI0) hb); clear hb ho7; obtain ⟨Ao8, co8, eo8⟩ := Kd.R_slice HO106.out; subst eo8) | ((with_reducible refine zgc 61 ?_); refine zca 7 Tryz.func61 #[.pointer (some ⟨g, 0, none⟩), .slice Ao8 y104.length co8] (zcu g s0_0 t102 t103 _ _ y104 t107 t108 t109 w0 _ (zq3 HI0) (zq6 HI0) (zq18 HO106) (zq43 HO106) (zq45 HI0 HO106) A4.out) ?_; rintro e w9 ⟨rfl, hi, hb, hk⟩; refine ⟨_, rfl, ?_⟩; replace HO106 := zA (Kd.R_mono (Kd.R_keep (IsS63.apart (show IsS63 w0 _ g s0_0 t102 t103 from by repeat (first | (with_reducible first | exact HI0.out | apply IsS63.alloc | apply IsS63.drewN | apply IsS63.drew | apply zaz | apply za0) | exact HI0.out)) (zq2 HO106) (by decide)) hk (fun _ h => h.2)) (fun _ h => h.1)); replace HK := zA (KeepBut.trans zq7 hk (.inl rfl)); replace HB := zA (hb); replace HI0 := zA (hi); (try clear hb); (try clear hk); (try clear hi)))
 exact zr_2
mutual
def zck : Nat → Int → ByteArray → Bool → Int → Int → List Int → Int → Int → ByteArray → Int → Int → Int → Int → Option (ByteArray × Int × Int × Int × Int × Int × Int)
 | 0, _, _, _, _, _, _, _, _, _, _, _, _, _ => none
 | k + 1, x1, x5, x8, x9, x10, x1000, x1001, x1002, x117000, x117001, x117002, x117003, x117004 => if x8 = true then ((zbk x1000 x1001 x1002 x1).bind fun bt120 => (zb8 k x5 x9 x10 x1000 bt120.2.1 bt120.2.2 x117000 x117001 x117002 bt120.1 x117004)) else (zb8 k x5 x9 x10 x1000 x1001 x1002 x117000 x117001 x117002 x117003 x117004)
def zb8 : Nat → ByteArray → Int → Int → List Int → Int → Int → ByteArray → Int → Int → Int → Int → Option (ByteArray × Int × Int × Int × Int × Int × Int)
 | 0, _, _, _, _, _, _, _, _, _, _, _ => none
 | k + 1, x5, x9, x10, x1000, x1001, x1002, x117000, x117001, x117002, x117003, x117004 => (zhy k x5).bind fun t123 => (if t123 = true then ((zbk x1000 x1001 x1002 (wrap64 ((wrap64 (x10 - x9)) + 1))).bind fun bt124 => (if x10 = 63 then ((zhv x1000 bt124.2.1 bt124.2.2).bind fun bt127 => (some (x117000, x117001, x117002, x117003, bt127.1, bt127.2.1, bt127.2.2))) else (some (x117000, x117001, x117002, x117003, wrap64 (x9 + bt124.1), bt124.2.1, bt124.2.2)))) else (some (x117000, x117001, x117002, x117003, x117004, x1001, x1002)))
end
def zdp (k : Nat) (s0_0 : List Int) (s0_1 : Int) (s0_2 : Int) (a1 : Int) : Option (ByteArray × Int × Int × Int × Int × Int × Int) := (zhu s0_0 s0_1 s0_2 (([(⟨#[115, 101, 116]⟩ : ByteArray), (⟨#[109, 111, 118]⟩ : ByteArray), (⟨#[110, 111, 116]⟩ : ByteArray), (⟨#[110, 101, 103]⟩ : ByteArray), (⟨#[97, 100, 100]⟩ : ByteArray), (⟨#[97, 100, 100]⟩ : ByteArray), (⟨#[115, 117, 98]⟩ : ByteArray), (⟨#[97, 110, 100]⟩ : ByteArray), (⟨#[111, 114]⟩ : ByteArray), (⟨#[120, 111, 114]⟩ : ByteArray), (⟨#[115, 104, 108]⟩ : ByteArray), (⟨#[115, 104, 114]⟩ : ByteArray), (⟨#[108, 101, 115, 115]⟩ : ByteArray), (⟨#[101, 113]⟩ : ByteArray), (⟨#[109, 117, 108]⟩ : ByteArray), (⟨#[97, 100, 100, 105]⟩ : ByteArray), (⟨#[97, 110, 100, 105]⟩ : ByteArray), (⟨#[120, 111, 114, 105]⟩ : ByteArray), (⟨#[115, 104, 108, 105]⟩ : ByteArray), (⟨#[115, 104, 114, 105]⟩ : ByteArray), (⟨#[108, 101, 97]⟩ : ByteArray)] : List ByteArray))).bind fun bt105 => ((zem k bt105.1).bind fun bt108 => ((zbk s0_0 bt105.2.1 bt105.2.2 a1).bind fun bt113 => (if bt108.2.1 = true then ((zbk s0_0 bt113.2.1 bt113.2.2 a1).bind fun bt117 => (zck k a1 bt105.1 bt108.2.2.1 bt108.2.2.2.1 bt108.2.2.2.2 s0_0 bt117.2.1 bt117.2.2 bt105.1 bt113.1 bt117.1 0 0)) else (zck k a1 bt105.1 bt108.2.2.1 bt108.2.2.2.1 bt108.2.2.2.2 s0_0 bt113.2.1 bt113.2.2 bt105.1 bt113.1 0 0 0))))
theorem zj7 : ∀ k, (∀ y0 y1 y2 y3 y4 y5 y6 y7 y8 y9 y10 y11 y12, LeO (zck k y0 y1 y2 y3 y4 y5 y6 y7 y8 y9 y10 y11 y12) (zck (k + 1) y0 y1 y2 y3 y4 y5 y6 y7 y8 y9 y10 y11 y12)) ∧ (∀ y0 y1 y2 y3 y4 y5 y6 y7 y8 y9 y10, LeO (zb8 k y0 y1 y2 y3 y4 y5 y6 y7 y8 y9 y10) (zb8 (k + 1) y0 y1 y2 y3 y4 y5 y6 y7 y8 y9 y10))
 | 0 => ⟨fun _ _ _ _ _ _ _ _ _ _ _ _ _ r h => by simp [zck] at h, fun _ _ _ _ _ _ _ _ _ _ _ r h => by simp [zb8] at h⟩
 | k + 1 => by
   obtain ⟨ih0, ih1⟩ := zj7 k
   refine ⟨?_, ?_⟩
   · intro y0 y1 y2 y3 y4 y5 y6 y7 y8 y9 y10 y11 y12
     unfold zck
     exact zm4 ih0 ih1 zl6 zf0
   · intro y0 y1 y2 y3 y4 y5 y6 y7 y8 y9 y10
     unfold zb8
     exact zm4 ih0 ih1 zl6 zf0
theorem zgi : ∀ a0 a1 a2 a3 k, LeO (zdp k a0 a1 a2 a3) (zdp (k + 1) a0 a1 a2 a3) := by
 intro a0 a1 a2 a3 k
 obtain ⟨ih0, ih1⟩ := zj7 k
 unfold zdp
 exact zm4 ih0 ih1 zl6 zf0
theorem zid (k : Nat) (g : Nat) (s0_0 : List Int) (s0_1 : Int) (s0_2 : Int) (a1 : Int) (r1 : ByteArray) (r2 : Int) (r3 : Int) (r4 : Int) (r5 : Int) (r6 : Int) (r7 : Int) (w0 w : World) (hI : IsS63 w0 w g s0_0 s0_1 s0_2) (hB : Below w0.heap.size w0 w) (h : zdp k s0_0 s0_1 s0_2 a1 = some (r1, r2, r3, r4, r5, r6, r7)) :
   Calls Tryz.prog 139 #[.pointer (some ⟨g, 0, none⟩), .int .i64 a1] w fun e w' => e = .returned (.agg #[.string r1, .int .i64 r2, .int .i64 r3, .int .i64 r4, .int .i64 r5]) ∧ IsS63 w0 w' g s0_0 r6 r7 ∧ Below w0.heap.size w0 w' ∧ KeepBut w w' g none := by
 have hu55 := Tryz.underlying55
 have HI0 := zA hI
 have HK := zA (KeepBut.refl w g none)
 have HL := zA hB.size
 clear hI
 have HW0 := zA hB.size
 have HB := zA hB
 clear hB
 have H := h
 unfold zdp at H
 clear h
 obtain ⟨y102, hy102⟩ : ∃ y_ : List ByteArray, y_ = (([(⟨#[115, 101, 116]⟩ : ByteArray), (⟨#[109, 111, 118]⟩ : ByteArray), (⟨#[110, 111, 116]⟩ : ByteArray), (⟨#[110, 101, 103]⟩ : ByteArray), (⟨#[97, 100, 100]⟩ : ByteArray), (⟨#[97, 100, 100]⟩ : ByteArray), (⟨#[115, 117, 98]⟩ : ByteArray), (⟨#[97, 110, 100]⟩ : ByteArray), (⟨#[111, 114]⟩ : ByteArray), (⟨#[120, 111, 114]⟩ : ByteArray), (⟨#[115, 104, 108]⟩ : ByteArray), (⟨#[115, 104, 114]⟩ : ByteArray), (⟨#[108, 101, 115, 115]⟩ : ByteArray), (⟨#[101, 113]⟩ : ByteArray), (⟨#[109, 117, 108]⟩ : ByteArray), (⟨#[97, 100, 100, 105]⟩ : ByteArray), (⟨#[97, 110, 100, 105]⟩ : ByteArray), (⟨#[120, 111, 114, 105]⟩ : ByteArray), (⟨#[115, 104, 108, 105]⟩ : ByteArray), (⟨#[115, 104, 114, 105]⟩ : ByteArray), (⟨#[108, 101, 97]⟩ : ByteArray)] : List ByteArray)) := ⟨_, rfl⟩
 rw [← hy102] at H; try with_reducible replace H := zbs H
 have Ny102 := zA hy102
 clear hy102
 replace H := zob H
 obtain ⟨⟨t105, t106, t107⟩, A30, H⟩ := H
 have A3 := zA A30
 clear A30
 replace H := zob H
 obtain ⟨⟨t108, t109, t110, t111, t112⟩, A40, H⟩ := H
 have A4 := zA A40
 clear A40
 replace H := zob H
 obtain ⟨⟨t113, t114, t115⟩, A50, H⟩ := H
 have A5 := zA A50
 clear A50
 have HC6 := zA H
 clear H
 go_enter Tryz.func139, Tryz.ntmps139
 go_upto_if 28 with (first | ((with_reducible refine zgd 4 ?_); refine zbx #[.string (⟨#[]⟩ : ByteArray), .int .i64 0, .int .i64 0, .int .i64 0, .int .i64 0] 55 ?_; intro gb101 hg w7 hbox hb; replace HB := zA (zac (zq6 HI0) hb); have BK101 := zA (hbox); have GW101 := zA ((zq71 : w.heap.size ≤ gb101)); have GE101 := zA ((Nat.le_trans HW0.out (zq71 : w.heap.size ≤ gb101) : w0.heap.size ≤ gb101)); replace HK := zA (KeepBut.trans zq7 (zcn hb g none) (.inl rfl)); have NB0_101 := zA ((zq66 HI0 : g ≠ gb101)); have NB101_0 := zA ((zq67 HI0 : gb101 ≠ g)); replace HI0 := zA (IsS63.below (zq3 HI0) hb); clear hb hbox hg) | ((with_reducible refine zgd 13 ?_); refine Kd.R_lit Kd.string _ 9 ?hg (N := 13) ?hd (xs := ([(⟨#[115, 101, 116]⟩ : ByteArray), (⟨#[109, 111, 118]⟩ : ByteArray), (⟨#[110, 111, 116]⟩ : ByteArray), (⟨#[110, 101, 103]⟩ : ByteArray), (⟨#[97, 100, 100]⟩ : ByteArray), (⟨#[97, 100, 100]⟩ : ByteArray), (⟨#[115, 117, 98]⟩ : ByteArray), (⟨#[97, 110, 100]⟩ : ByteArray), (⟨#[111, 114]⟩ : ByteArray), (⟨#[120, 111, 114]⟩ : ByteArray), (⟨#[115, 104, 108]⟩ : ByteArray), (⟨#[115, 104, 114]⟩ : ByteArray), (⟨#[108, 101, 115, 115]⟩ : ByteArray), (⟨#[101, 113]⟩ : ByteArray), (⟨#[109, 117, 108]⟩ : ByteArray), (⟨#[97, 100, 100, 105]⟩ : ByteArray), (⟨#[97, 110, 100, 105]⟩ : ByteArray), (⟨#[120, 111, 114, 105]⟩ : ByteArray), (⟨#[115, 104, 108, 105]⟩ : ByteArray), (⟨#[115, 104, 114, 105]⟩ : ByteArray), (⟨#[108, 101, 97]⟩ : ByteArray)] : List ByteArray)) (inner := [.string (⟨#[115, 101, 116]⟩ : ByteArray), .string (⟨#[109, 111, 118]⟩ : ByteArray), .string (⟨#[110, 111, 116]⟩ : ByteArray), .string (⟨#[110, 101, 103]⟩ : ByteArray), .string (⟨#[97, 100, 100]⟩ : ByteArray), .string (⟨#[97, 100, 100]⟩ : ByteArray), .string (⟨#[115, 117, 98]⟩ : ByteArray), .string (⟨#[97, 110, 100]⟩ : ByteArray), .string (⟨#[111, 114]⟩ : ByteArray), .string (⟨#[120, 111, 114]⟩ : ByteArray), .string (⟨#[115, 104, 108]⟩ : ByteArray), .string (⟨#[115, 104, 114]⟩ : ByteArray), .string (⟨#[108, 101, 115, 115]⟩ : ByteArray), .string (⟨#[101, 113]⟩ : ByteArray), .string (⟨#[109, 117, 108]⟩ : ByteArray), .string (⟨#[97, 100, 100, 105]⟩ : ByteArray), .string (⟨#[97, 110, 100, 105]⟩ : ByteArray), .string (⟨#[120, 111, 114, 105]⟩ : ByteArray), .string (⟨#[115, 104, 108, 105]⟩ : ByteArray), .string (⟨#[115, 104, 114, 105]⟩ : ByteArray), .string (⟨#[108, 101, 97]⟩ : ByteArray)]) (ok := fun _ => True) (okp := fun _ => True) ?hr ?hp (fun _ hk => hk) trivial (Below.refl _ _) (zlr _) (by simp) ?_; (case hd => rfl); (case hg => rfl); (case hr => go_simp <;> rfl); (case hp => exact (zak (show Kd.M Kd.string _ _ _ (⟨#[115, 101, 116]⟩ : ByteArray) [.string (⟨#[115, 101, 116]⟩ : ByteArray)] from rfl) (zak (show Kd.M Kd.string _ _ _ (⟨#[109, 111, 118]⟩ : ByteArray) [.string (⟨#[109, 111, 118]⟩ : ByteArray)] from rfl) (zak (show Kd.M Kd.string _ _ _ (⟨#[110, 111, 116]⟩ : ByteArray) [.string (⟨#[110, 111, 116]⟩ : ByteArray)] from rfl) (zak (show Kd.M Kd.string _ _ _ (⟨#[110, 101, 103]⟩ : ByteArray) [.string (⟨#[110, 101, 103]⟩ : ByteArray)] from rfl) (zak (show Kd.M Kd.string _ _ _ (⟨#[97, 100, 100]⟩ : ByteArray) [.string (⟨#[97, 100, 100]⟩ : ByteArray)] from rfl) (zak (show Kd.M Kd.string _ _ _ (⟨#[97, 100, 100]⟩ : ByteArray) [.string (⟨#[97, 100, 100]⟩ : ByteArray)] from rfl) (zak (show Kd.M Kd.string _ _ _ (⟨#[115, 117, 98]⟩ : ByteArray) [.string (⟨#[115, 117, 98]⟩ : ByteArray)] from rfl) (zak (show Kd.M Kd.string _ _ _ (⟨#[97, 110, 100]⟩ : ByteArray) [.string (⟨#[97, 110, 100]⟩ : ByteArray)] from rfl) (zak (show Kd.M Kd.string _ _ _ (⟨#[111, 114]⟩ : ByteArray) [.string (⟨#[111, 114]⟩ : ByteArray)] from rfl) (zak (show Kd.M Kd.string _ _ _ (⟨#[120, 111, 114]⟩ : ByteArray) [.string (⟨#[120, 111, 114]⟩ : ByteArray)] from rfl) (zak (show Kd.M Kd.string _ _ _ (⟨#[115, 104, 108]⟩ : ByteArray) [.string (⟨#[115, 104, 108]⟩ : ByteArray)] from rfl) (zak (show Kd.M Kd.string _ _ _ (⟨#[115, 104, 114]⟩ : ByteArray) [.string (⟨#[115, 104, 114]⟩ : ByteArray)] from rfl) (zak (show Kd.M Kd.string _ _ _ (⟨#[108, 101, 115, 115]⟩ : ByteArray) [.string (⟨#[108, 101, 115, 115]⟩ : ByteArray)] from rfl) (zak (show Kd.M Kd.string _ _ _ (⟨#[101, 113]⟩ : ByteArray) [.string (⟨#[101, 113]⟩ : ByteArray)] from rfl) (zak (show Kd.M Kd.string _ _ _ (⟨#[109, 117, 108]⟩ : ByteArray) [.string (⟨#[109, 117, 108]⟩ : ByteArray)] from rfl) (zak (show Kd.M Kd.string _ _ _ (⟨#[97, 100, 100, 105]⟩ : ByteArray) [.string (⟨#[97, 100, 100, 105]⟩ : ByteArray)] from rfl) (zak (show Kd.M Kd.string _ _ _ (⟨#[97, 110, 100, 105]⟩ : ByteArray) [.string (⟨#[97, 110, 100, 105]⟩ : ByteArray)] from rfl) (zak (show Kd.M Kd.string _ _ _ (⟨#[120, 111, 114, 105]⟩ : ByteArray) [.string (⟨#[120, 111, 114, 105]⟩ : ByteArray)] from rfl) (zak (show Kd.M Kd.string _ _ _ (⟨#[115, 104, 108, 105]⟩ : ByteArray) [.string (⟨#[115, 104, 108, 105]⟩ : ByteArray)] from rfl) (zak (show Kd.M Kd.string _ _ _ (⟨#[115, 104, 114, 105]⟩ : ByteArray) [.string (⟨#[115, 104, 114, 105]⟩ : ByteArray)] from rfl) (zak (show Kd.M Kd.string _ _ _ (⟨#[108, 101, 97]⟩ : ByteArray) [.string (⟨#[108, 101, 97]⟩ : ByteArray)] from rfl) (Reps.none _ _))))))))))))))))))))))); intro v103 w8 ho9 hb hg_ hnew_; clear hg_ hnew_; (first | rw [← Ny102.out] at ho9 | (simp only [Int.reduceToNat] at ho9; rw [← Ny102.out] at ho9)); have HO104 := zA (Kd.R_lower ho9 (zfw (w := w) (g := g) (row := none) (zq23 GW101))); replace BK101 := zbb BK101 hb; replace HK := zA (KeepBut.trans (zq23 GW101) (zcn hb g none) (.inl rfl)); replace HB := zA (zac (zq36 HI0 GE101) hb); replace HI0 := zA (IsS63.below (zq31 HI0 NB0_101) hb); clear hb ho9; obtain ⟨Ao10, co10, eo10⟩ := Kd.R_slice HO104.out; subst eo10) | ((with_reducible refine zgc 153 ?_); refine zca 14 Tryz.func153 #[.pointer (some ⟨g, 0, none⟩), .slice Ao10 y102.length co10] (zl7 g s0_0 s0_1 s0_2 _ _ y102 t105 t106 t107 w0 _ (zq31 HI0 NB0_101) (zq36 HI0 GE101) (zq18 HO104) (zq43 HO104) (zq45 HI0 HO104) A3.out) ?_; rintro e w11 ⟨rfl, hi, hb, hk⟩; refine ⟨_, rfl, ?_⟩; replace BK101 := zA (KeepBut.blk hk (g' := gb101) (o := .cells #[.string (⟨#[]⟩ : ByteArray), .int .i64 0, .int .i64 0, .int .i64 0, .int .i64 0] 55 (0, 0)) (zq4 BK101) NB101_0.out (by simp)); replace HO104 := zA (Kd.R_mono (Kd.R_keep (IsS63.apart (show IsS63 w0 _ g s0_0 s0_1 s0_2 from by repeat (first | (with_reducible first | exact HI0.out | apply IsS63.alloc | apply IsS63.drewN | apply IsS63.drew | apply zaz | apply za0 | refine ze3 ?_ NB0_101.out _) | exact HI0.out)) (zq2 HO104) (by decide)) hk (fun _ h => h.2)) (fun _ h => h.1)); replace HK := zA (KeepBut.trans (zq23 GW101) hk (.inl rfl)); replace HB := zA (hb); replace HI0 := zA (hi); (try clear hb); (try clear hk); (try clear hi)) | ((with_reducible refine zgc 148 ?_); refine zcl 17 Tryz.func148 (zb1 k t105 t108 t109 t110 t111 t112 _ A4.out) ?_; rintro e w' ⟨rfl, ⟨nd, rfl⟩⟩; refine ⟨_, rfl, ?_⟩; (try (rw [zgn w11]; generalize hq_ : World.drewN w11 _ = w11; have n0_ : Aside0 (Kd.R Kd.string 9 w11 w.heap.size (fun _ => True) (.slice Ao10 y102.length co10) y102) := ⟨by rw [← hq_]; exact (zq2 HO104)⟩; have n1_ : Aside0 (w11.heap[gb101]? = some (.cells #[.string (⟨#[]⟩ : ByteArray), .int .i64 0, .int .i64 0, .int .i64 0, .int .i64 0] 55 (0, 0))) := ⟨by rw [← hq_]; exact (zq4 BK101)⟩; have n2_ : Aside0 (IsS63 w0 w11 g s0_0 t106 t107) := ⟨by rw [← hq_]; exact (zq31 HI0 NB0_101)⟩; have n3_ : Aside0 (KeepBut w w11 g none) := ⟨by rw [← hq_]; exact (zq23 GW101)⟩; have n4_ : Aside0 (Below w0.heap.size w0 w11) := ⟨by rw [← hq_]; exact (zq36 HI0 GE101)⟩; clear HO104 BK101 HI0 HK HB hq_; have HO104 := n0_; have BK101 := n1_; have HI0 := n2_; have HK := n3_; have HB := n4_; clear n0_ n1_ n2_ n3_ n4_))) | ((with_reducible refine zgc 98 ?_); refine zca 26 Tryz.func98 #[.pointer (some ⟨g, 0, none⟩), .int .i64 a1] (zau g s0_0 t106 t107 a1 t113 t114 t115 w0 _ (zq31 HI0 NB0_101) (zq36 HI0 GE101) A5.out) ?_; rintro e w12 ⟨rfl, hi, hb, hk⟩; refine ⟨_, rfl, ?_⟩; replace BK101 := zA (KeepBut.blk hk (g' := gb101) (o := .cells #[.string (⟨#[]⟩ : ByteArray), .int .i64 0, .int .i64 0, .int .i64 0, .int .i64 0] 55 (0, 0)) (zq4 BK101) NB101_0.out (by simp)); replace HO104 := zA (Kd.R_mono (Kd.R_keep (IsS63.apart (show IsS63 w0 _ g s0_0 t106 t107 from by repeat (first | (with_reducible first | exact HI0.out | apply IsS63.alloc | apply IsS63.drewN | apply IsS63.drew | apply zaz | apply za0 | refine ze3 ?_ NB0_101.out _) | exact HI0.out)) (zq2 HO104) (by decide)) hk (fun _ h => h.2)) (fun _ h => h.1)); replace HK := zA (KeepBut.trans (zq23 GW101) hk (.inl rfl)); replace HB := zA (hb); replace HI0 := zA (hi); (try clear hb); (try clear hk); (try clear hi)) | ((with_reducible refine zgd 11 ?_); refine zbx #[.string (⟨#[]⟩ : ByteArray), .int .i64 0, .int .i64 0, .int .i64 0, .int .i64 0] 55 ?_; intro gb116 hg w13 hbox hb; replace HO104 := zA (zRb (zq2 HO104) hb); replace HB := zA (zac (zq36 HI0 GE101) hb); have BK116 := zA (hbox); have GW116 := zA ((zq64 : w.heap.size ≤ gb116)); have GE116 := zA ((Nat.le_trans HW0.out (zq64 : w.heap.size ≤ gb116) : w0.heap.size ≤ gb116)); replace HK := zA (KeepBut.trans (zq23 GW101) (zcn hb g none) (.inl rfl)); have NB101_116 := zA ((zq35 BK101 : gb101 ≠ gb116)); replace BK101 := zbb BK101 hb; have NB116_101 := zA (Ne.symm NB101_116.out); have NB0_116 := zA ((by rw [hg]; exact Nat.ne_of_lt (zo1 (show IsS63 w0 _ g s0_0 t114 t115 from by repeat (first | (with_reducible first | exact HI0.out | apply IsS63.alloc | apply IsS63.drewN | apply IsS63.drew | apply zaz | apply za0 | refine ze3 ?_ NB0_101.out _) | exact HI0.out))) : g ≠ gb116)); have NB116_0 := zA ((by rw [hg]; exact Nat.ne_of_gt (zo1 (show IsS63 w0 _ g s0_0 t114 t115 from by repeat (first | (with_reducible first | exact HI0.out | apply IsS63.alloc | apply IsS63.drewN | apply IsS63.drew | apply zaz | apply za0 | refine ze3 ?_ NB0_101.out _) | exact HI0.out))) : gb116 ≠ g)); replace HI0 := zA (IsS63.below (zq31 HI0 NB0_101) hb); clear hb hbox hg; have hnb14 := NB116_101.out; have hnc14 := NB101_116.out; have hnb15 := NB116_0.out; have hnc15 := NB0_116.out; obtain ⟨hcz16_0, hcz16_1, hcz16_2, hcz16_3, hcz16_4, hfz16_0, hfz16_1, hfz16_2, hfz16_3, hfz16_4⟩ := zd5 BK116))
 (try simp only [Act.put, List.setIfInBounds_toArray, List.set_cons_zero, List.set_cons_succ])
 go_cut [] (fun wc => ∃ (kq : Nat) (x1001_5 : Int) (x1002_5 : Int) (x117002_5 : Int), Aside0 (zck kq a1 t105 t110 t111 t112 s0_0 x1001_5 x1002_5 t105 t113 x117002_5 0 0 = some (r1, r2, r3, r4, r5, r6, r7)) ∧ Aside0 (kq ≤ k) ∧ Aside0 (wc.heap[gb101]? = some (.cells #[.string (⟨#[]⟩ : ByteArray), .int .i64 0, .int .i64 0, .int .i64 0, .int .i64 0] 55 (0, 0))) ∧ Aside0 (wc.heap[gb116]? = some (.cells #[.string t105, .int .i64 t113, .int .i64 x117002_5, .int .i64 0, .int .i64 0] 55 (0, 0))) ∧ Aside0 (IsS63 w0 wc g s0_0 x1001_5 x1002_5) ∧ Aside0 (KeepBut w wc g none) ∧ Aside0 (Below w0.heap.size w0 wc))
 case first =>
   have H := HC6.out
   clear HC6
   by_cases c17 : t109 = true
   rotate_left
   · replace c17 := zbf c17
     subst c17
     replace H := zif H
     have H' := zA H
     clear H
     go_wp2
     go_meet
     case rel => exact ⟨_, (t114), (t115), (0), H', ⟨zq38⟩, ⟨zq22 NB101_116 BK101⟩, ⟨zq33 BK116⟩, ⟨zq12 HI0 NB0_101 NB0_116⟩, ⟨zq11 GW101 GW116⟩, ⟨zq13 HI0 GE101 GE116⟩⟩
   subst c17
   replace H := zih H
   replace H := zob H
   obtain ⟨⟨t117, t118, t119⟩, A180, H⟩ := H
   have A18 := zA A180
   clear A180
   have H' := zA H
   clear H
   go_wp2_with (first | ((with_reducible refine zgc 98 ?_); refine zca 31 Tryz.func98 #[.pointer (some ⟨g, 0, none⟩), .int .i64 a1] (zau g s0_0 t114 t115 a1 t117 t118 t119 w0 _ (zq12 HI0 NB0_101 NB0_116) (zq13 HI0 GE101 GE116) A18.out) ?_; rintro e w19 ⟨rfl, hi, hb, hk⟩; refine ⟨_, rfl, ?_⟩; replace BK101 := zA (KeepBut.blk hk (g' := gb101) (o := .cells #[.string (⟨#[]⟩ : ByteArray), .int .i64 0, .int .i64 0, .int .i64 0, .int .i64 0] 55 (0, 0)) (zq22 NB101_116 BK101) NB101_0.out (by simp)); replace HO104 := zA (Kd.R_mono (Kd.R_keep (IsS63.apart (show IsS63 w0 _ g s0_0 t114 t115 from by repeat (first | (with_reducible first | exact HI0.out | apply IsS63.alloc | apply IsS63.drewN | apply IsS63.drew | apply zaz | apply za0 | refine ze3 ?_ NB0_101.out _ | refine ze3 ?_ NB0_116.out _) | exact HI0.out)) (by (with_reducible repeat (first | apply zRa | apply zRn | apply zRd)); exact (Kd.R_mono (Kd.R_far (p := ⟨gb116, 4, none⟩) (Kd.R_far (p := ⟨gb116, 3, none⟩) (Kd.R_far (p := ⟨gb116, 2, none⟩) (Kd.R_far (p := ⟨gb116, 1, none⟩) (Kd.R_far (p := ⟨gb116, 0, none⟩) (Kd.R_types HO104.out BK116.out (by decide)) (fun _ hk => hk.2) (.string t105)) (fun _ hk => hk.2) (.int .i64 t113)) (fun _ hk => hk.2) (.int .i64 0)) (fun _ hk => hk.2) (.int .i64 0)) (fun _ hk => hk.2) (.int .i64 0)) (fun _ h_ => h_.1))) (by decide)) hk (fun _ h => h.2)) (fun _ h => h.1)); replace BK116 := zA (KeepBut.blk hk (g' := gb116) (o := .cells #[.string t105, .int .i64 t113, .int .i64 0, .int .i64 0, .int .i64 0] 55 (0, 0)) (zq33 BK116) NB116_0.out (by simp)); replace HK := zA (KeepBut.trans (zq11 GW101 GW116) hk (.inl rfl)); replace HB := zA (hb); replace HI0 := zA (hi); (try clear hb); (try clear hk); (try clear hi); have hnb20 := NB116_101.out; have hnc20 := NB101_116.out; have hnb21 := NB116_0.out; have hnc21 := NB0_116.out; obtain ⟨hcz22_0, hcz22_1, hcz22_2, hcz22_3, hcz22_4⟩ := zc5 w19 (.string t105) (.int .i64 t113) (.int .i64 0) (.int .i64 0) (.int .i64 0) BK116.out; obtain ⟨hfz22_0, hfz22_1, hfz22_2, hfz22_3, hfz22_4⟩ := zf5 BK116.out))
   go_meet
   case rel => exact ⟨_, (t118), (t119), (t117), H', ⟨zq38⟩, ⟨zq49 NB101_116 BK101⟩, ⟨by (with_reducible repeat (first | refine zkn ?_ _ | refine zkd ?_ | refine zka ?_ _)); refine zaw (cs := #[.string t105, .int .i64 t113, .int .i64 0, .int .i64 0, .int .i64 0]) ?_ 2 _ rfl; (with_reducible repeat (first | refine zkn ?_ _ | refine zkd ?_ | refine zka ?_ _)); exact BK116.out⟩, ⟨zq12 HI0 NB0_101 NB0_116⟩, ⟨zq11 GW101 GW116⟩, ⟨zq13 HI0 GE101 GE116⟩⟩
 clear HC6
 obtain ⟨kq, x1001_5, x1002_5, x117002_5, HA, HJ5, BK101, BK116, HI0, HK, HB⟩ := hcut
 cases kq with
 | zero => exact absurd HA.out (by simp [zck])
 | succ kj5 =>
 have H := HA.out
 clear HA
 simp only [zck] at H
 have HC23 := zA H
 clear H
 go_upto_if 33 with (fail)
 go_cut [] (fun wc => ∃ (kq : Nat) (x1001_22 : Int) (x1002_22 : Int) (x117003_22 : Int), Aside0 (zb8 kq t105 t111 t112 s0_0 x1001_22 x1002_22 t105 t113 x117002_5 x117003_22 0 = some (r1, r2, r3, r4, r5, r6, r7)) ∧ Aside0 (kq ≤ kj5) ∧ Aside0 (wc.heap[gb101]? = some (.cells #[.string (⟨#[]⟩ : ByteArray), .int .i64 0, .int .i64 0, .int .i64 0, .int .i64 0] 55 (0, 0))) ∧ Aside0 (wc.heap[gb116]? = some (.cells #[.string t105, .int .i64 t113, .int .i64 x117002_5, .int .i64 x117003_22, .int .i64 0] 55 (0, 0))) ∧ Aside0 (IsS63 w0 wc g s0_0 x1001_22 x1002_22) ∧ Aside0 (KeepBut w wc g none) ∧ Aside0 (Below w0.heap.size w0 wc))
 case first =>
   have H := HC23.out
   clear HC23
   by_cases c24 : t110 = true
   rotate_left
   · replace c24 := zbf c24
     subst c24
     replace H := zif H
     have H' := zA H
     clear H
     go_wp2
     go_meet
     case rel => exact ⟨_, (x1001_5), (x1002_5), (0), H', ⟨zq41 HJ5⟩, ⟨zq4 BK101⟩, ⟨zq4 BK116⟩, ⟨zq12 HI0 NB0_101 NB0_116⟩, ⟨zq11 GW101 GW116⟩, ⟨zq13 HI0 GE101 GE116⟩⟩
   subst c24
   replace H := zih H
   replace H := zob H
   obtain ⟨⟨t120, t121, t122⟩, A250, H⟩ := H
   have A25 := zA A250
   clear A250
   have H' := zA H
   clear H
   go_wp2_with (first | ((with_reducible refine zgc 98 ?_); refine zca 36 Tryz.func98 #[.pointer (some ⟨g, 0, none⟩), .int .i64 a1] (zau g s0_0 x1001_5 x1002_5 a1 t120 t121 t122 w0 _ (zq12 HI0 NB0_101 NB0_116) (zq13 HI0 GE101 GE116) A25.out) ?_; rintro e w26 ⟨rfl, hi, hb, hk⟩; refine ⟨_, rfl, ?_⟩; replace BK101 := zA (KeepBut.blk hk (g' := gb101) (o := .cells #[.string (⟨#[]⟩ : ByteArray), .int .i64 0, .int .i64 0, .int .i64 0, .int .i64 0] 55 (0, 0)) (zq4 BK101) NB101_0.out (by simp)); replace BK116 := zA (KeepBut.blk hk (g' := gb116) (o := .cells #[.string t105, .int .i64 t113, .int .i64 x117002_5, .int .i64 0, .int .i64 0] 55 (0, 0)) (zq4 BK116) NB116_0.out (by simp)); replace HK := zA (KeepBut.trans (zq11 GW101 GW116) hk (.inl rfl)); replace HB := zA (hb); replace HI0 := zA (hi); (try clear hb); (try clear hk); (try clear hi); have hnb27 := NB116_101.out; have hnc27 := NB101_116.out; have hnb28 := NB116_0.out; have hnc28 := NB0_116.out; obtain ⟨hcz29_0, hcz29_1, hcz29_2, hcz29_3, hcz29_4⟩ := zc5 w26 (.string t105) (.int .i64 t113) (.int .i64 x117002_5) (.int .i64 0) (.int .i64 0) BK116.out; obtain ⟨hfz29_0, hfz29_1, hfz29_2, hfz29_3, hfz29_4⟩ := zf5 BK116.out))
   go_meet
   case rel => exact ⟨_, (t121), (t122), (t120), H', ⟨zq41 HJ5⟩, ⟨zq49 NB101_116 BK101⟩, ⟨by (with_reducible repeat (first | refine zkn ?_ _ | refine zkd ?_ | refine zka ?_ _)); refine zaw (cs := #[.string t105, .int .i64 t113, .int .i64 x117002_5, .int .i64 0, .int .i64 0]) ?_ 3 _ rfl; (with_reducible repeat (first | refine zkn ?_ _ | refine zkd ?_ | refine zka ?_ _)); exact BK116.out⟩, ⟨zq12 HI0 NB0_101 NB0_116⟩, ⟨zq11 GW101 GW116⟩, ⟨zq13 HI0 GE101 GE116⟩⟩
 clear HC23
 obtain ⟨kq, x1001_22, x1002_22, x117003_22, HA, HJ22, BK101, BK116, HI0, HK, HB⟩ := hcut
 cases kq with
 | zero => exact absurd HA.out (by simp [zb8])
 | succ kj22 =>
 have H := HA.out
 clear HA
 simp only [zb8] at H
 replace H := zob H
 obtain ⟨t123, A300, H⟩ := H
 have A30 := zA A300
 clear A300
 by_cases c31 : t123 = true
 rotate_left
 · replace c31 := zbf c31
   subst c31
   replace H := zif H
   simp only [Option.some.injEq, Prod.mk.injEq] at H
   obtain ⟨rfl, rfl, rfl, rfl, rfl, rfl, rfl⟩ := H
   go_wp2_with (first | ((with_reducible refine zgc 154 ?_); refine zcl 39 Tryz.func154 (zk9 kj22 t105 false _ A30.out) ?_; rintro e w51 ⟨rfl, hb⟩; refine ⟨_, rfl, ?_⟩; replace BK101 := zbb BK101 hb; replace BK116 := zbb BK116 hb; replace HK := zA (KeepBut.trans (zq11 GW101 GW116) (zcn hb g none) (.inl rfl)); replace HB := zA (zac (zq13 HI0 GE101 GE116) hb); replace HI0 := zA (IsS63.below (zq12 HI0 NB0_101 NB0_116) hb); (try clear hb); have hnb52 := NB116_101.out; have hnc52 := NB101_116.out; have hnb53 := NB116_0.out; have hnc53 := NB0_116.out; obtain ⟨hcz54_0, hcz54_1, hcz54_2, hcz54_3, hcz54_4⟩ := zc5 w51 (.string t105) (.int .i64 t113) (.int .i64 x117002_5) (.int .i64 x117003_22) (.int .i64 0) BK116.out; obtain ⟨hfz54_0, hfz54_1, hfz54_2, hfz54_3, hfz54_4⟩ := zf5 BK116.out; have hnb55 := NB101_0.out; have hnc55 := NB0_101.out; obtain ⟨hcz56_0, hcz56_1, hcz56_2, hcz56_3, hcz56_4⟩ := zc5 w51 (.string (⟨#[]⟩ : ByteArray)) (.int .i64 0) (.int .i64 0) (.int .i64 0) (.int .i64 0) BK101.out; obtain ⟨hfz56_0, hfz56_1, hfz56_2, hfz56_3, hfz56_4⟩ := zf5 BK101.out))
   refine bodyPost_ret (results_cell_row rfl _ _ gb101 55 #[.string t105, .int .i64 t113, .int .i64 x117002_5, .int .i64 x117003_22, .int .i64 0] (0, 0) _ rfl (by (with_reducible repeat (first | refine zkn ?_ _ | refine zkd ?_ | refine zka ?_ _)); refine zaw (cs := #[.string t105, .int .i64 t113, .int .i64 x117002_5, .int .i64 x117003_22, .int .i64 0]) ?_ 4 _ rfl; (with_reducible repeat (first | refine zkn ?_ _ | refine zkd ?_ | refine zka ?_ _)); refine zaw (cs := #[.string t105, .int .i64 t113, .int .i64 x117002_5, .int .i64 0, .int .i64 0]) ?_ 3 _ rfl; (with_reducible repeat (first | refine zkn ?_ _ | refine zkd ?_ | refine zka ?_ _)); refine zaw (cs := #[.string t105, .int .i64 t113, .int .i64 0, .int .i64 0, .int .i64 0]) ?_ 2 _ rfl; (with_reducible repeat (first | refine zkn ?_ _ | refine zkd ?_ | refine zka ?_ _)); refine zaw (cs := #[.string t105, .int .i64 0, .int .i64 0, .int .i64 0, .int .i64 0]) ?_ 1 _ rfl; (with_reducible repeat (first | refine zkn ?_ _ | refine zkd ?_ | refine zka ?_ _)); refine zaw (cs := #[.string (⟨#[]⟩ : ByteArray), .int .i64 0, .int .i64 0, .int .i64 0, .int .i64 0]) ?_ 0 _ rfl; (with_reducible repeat (first | refine zkn ?_ _ | refine zkd ?_ | refine zka ?_ _)); exact BK101.out) Tryz.underlying55 rfl zq27) rfl ?_
   exact ⟨zq5, zq12 HI0 NB0_101 NB0_116, zq13 HI0 GE101 GE116, zq11 GW101 GW116⟩
 subst c31
 replace H := zih H
 replace H := zob H
 obtain ⟨⟨t124, t125, t126⟩, A320, H⟩ := H
 have A32 := zA A320
 clear A320
 by_cases c33 : t112 = 63
 rotate_left
 · rw [if_neg c33] at H
   obtain ⟨c33b0, c33b1⟩ := zbq c33
   simp only [Option.some.injEq, Prod.mk.injEq] at H
   obtain ⟨rfl, rfl, rfl, rfl, rfl, rfl, rfl⟩ := H
   go_wp2_with (first | ((with_reducible refine zgc 154 ?_); refine zcl 39 Tryz.func154 (zk9 kj22 t105 true _ A30.out) ?_; rintro e w44 ⟨rfl, hb⟩; refine ⟨_, rfl, ?_⟩; replace BK101 := zbb BK101 hb; replace BK116 := zbb BK116 hb; replace HK := zA (KeepBut.trans (zq11 GW101 GW116) (zcn hb g none) (.inl rfl)); replace HB := zA (zac (zq13 HI0 GE101 GE116) hb); replace HI0 := zA (IsS63.below (zq12 HI0 NB0_101 NB0_116) hb); (try clear hb)) | ((with_reducible refine zgc 98 ?_); refine zca 46 Tryz.func98 #[.pointer (some ⟨g, 0, none⟩), .int .i64 (wrap64 ((wrap64 (t112 - t111)) + 1))] (zau g s0_0 x1001_22 x1002_22 (wrap64 ((wrap64 (t112 - t111)) + 1)) t124 t125 t126 w0 _ (zq12 HI0 NB0_101 NB0_116) (zq13 HI0 GE101 GE116) A32.out) ?_; rintro e w45 ⟨rfl, hi, hb, hk⟩; refine ⟨_, rfl, ?_⟩; replace BK101 := zA (KeepBut.blk hk (g' := gb101) (o := .cells #[.string (⟨#[]⟩ : ByteArray), .int .i64 0, .int .i64 0, .int .i64 0, .int .i64 0] 55 (0, 0)) (zq4 BK101) NB101_0.out (by simp)); replace BK116 := zA (KeepBut.blk hk (g' := gb116) (o := .cells #[.string t105, .int .i64 t113, .int .i64 x117002_5, .int .i64 x117003_22, .int .i64 0] 55 (0, 0)) (zq4 BK116) NB116_0.out (by simp)); replace HK := zA (KeepBut.trans (zq11 GW101 GW116) hk (.inl rfl)); replace HB := zA (hb); replace HI0 := zA (hi); (try clear hb); (try clear hk); (try clear hi); have hnb46 := NB116_101.out; have hnc46 := NB101_116.out; have hnb47 := NB116_0.out; have hnc47 := NB0_116.out; obtain ⟨hcz48_0, hcz48_1, hcz48_2, hcz48_3, hcz48_4⟩ := zc5 w45 (.string t105) (.int .i64 t113) (.int .i64 x117002_5) (.int .i64 x117003_22) (.int .i64 0) BK116.out; obtain ⟨hfz48_0, hfz48_1, hfz48_2, hfz48_3, hfz48_4⟩ := zf5 BK116.out; have hnb49 := NB101_0.out; have hnc49 := NB0_101.out; obtain ⟨hcz50_0, hcz50_1, hcz50_2, hcz50_3, hcz50_4⟩ := zc5 w45 (.string (⟨#[]⟩ : ByteArray)) (.int .i64 0) (.int .i64 0) (.int .i64 0) (.int .i64 0) BK101.out; obtain ⟨hfz50_0, hfz50_1, hfz50_2, hfz50_3, hfz50_4⟩ := zf5 BK101.out))
   refine bodyPost_ret (results_cell_row rfl _ _ gb101 55 #[.string t105, .int .i64 t113, .int .i64 x117002_5, .int .i64 x117003_22, .int .i64 (wrap64 (t111 + t124))] (0, 0) _ rfl (zq30 NB101_116 BK101) Tryz.underlying55 rfl zq27) rfl ?_
   exact ⟨zq5, zq12 HI0 NB0_101 NB0_116, zq13 HI0 GE101 GE116, zq11 GW101 GW116⟩
 rw [if_pos c33] at H
 obtain ⟨c33b0, c33b1⟩ := zbe c33
 clear c33
 replace H := zob H
 obtain ⟨⟨t127, t128, t129⟩, A340, H⟩ := H
 have A34 := zA A340
 clear A340
 simp only [Option.some.injEq, Prod.mk.injEq] at H
 obtain ⟨rfl, rfl, rfl, rfl, rfl, rfl, rfl⟩ := H
 go_wp2_with (first | ((with_reducible refine zgc 154 ?_); refine zcl 39 Tryz.func154 (zk9 kj22 t105 true _ A30.out) ?_; rintro e w35 ⟨rfl, hb⟩; refine ⟨_, rfl, ?_⟩; replace BK101 := zbb BK101 hb; replace BK116 := zbb BK116 hb; replace HK := zA (KeepBut.trans (zq11 GW101 GW116) (zcn hb g none) (.inl rfl)); replace HB := zA (zac (zq13 HI0 GE101 GE116) hb); replace HI0 := zA (IsS63.below (zq12 HI0 NB0_101 NB0_116) hb); (try clear hb)) | ((with_reducible refine zgc 98 ?_); refine zca 46 Tryz.func98 #[.pointer (some ⟨g, 0, none⟩), .int .i64 (wrap64 ((wrap64 (t112 - t111)) + 1))] (zau g s0_0 x1001_22 x1002_22 (wrap64 ((wrap64 (t112 - t111)) + 1)) t124 t125 t126 w0 _ (zq12 HI0 NB0_101 NB0_116) (zq13 HI0 GE101 GE116) A32.out) ?_; rintro e w36 ⟨rfl, hi, hb, hk⟩; refine ⟨_, rfl, ?_⟩; replace BK101 := zA (KeepBut.blk hk (g' := gb101) (o := .cells #[.string (⟨#[]⟩ : ByteArray), .int .i64 0, .int .i64 0, .int .i64 0, .int .i64 0] 55 (0, 0)) (zq4 BK101) NB101_0.out (by simp)); replace BK116 := zA (KeepBut.blk hk (g' := gb116) (o := .cells #[.string t105, .int .i64 t113, .int .i64 x117002_5, .int .i64 x117003_22, .int .i64 0] 55 (0, 0)) (zq4 BK116) NB116_0.out (by simp)); replace HK := zA (KeepBut.trans (zq11 GW101 GW116) hk (.inl rfl)); replace HB := zA (hb); replace HI0 := zA (hi); (try clear hb); (try clear hk); (try clear hi); have hnb37 := NB116_101.out; have hnc37 := NB101_116.out; have hnb38 := NB116_0.out; have hnc38 := NB0_116.out; obtain ⟨hcz39_0, hcz39_1, hcz39_2, hcz39_3, hcz39_4⟩ := zc5 w36 (.string t105) (.int .i64 t113) (.int .i64 x117002_5) (.int .i64 x117003_22) (.int .i64 0) BK116.out; obtain ⟨hfz39_0, hfz39_1, hfz39_2, hfz39_3, hfz39_4⟩ := zf5 BK116.out) | ((with_reducible refine zgc 155 ?_); refine zca 52 Tryz.func155 #[.pointer (some ⟨g, 0, none⟩)] (zoo g s0_0 t125 t126 t127 t128 t129 w0 _ (zq12 HI0 NB0_101 NB0_116) (zq13 HI0 GE101 GE116) A34.out) ?_; rintro e w40 ⟨rfl, hi, hb, hk⟩; refine ⟨_, rfl, ?_⟩; replace BK101 := zA (KeepBut.blk hk (g' := gb101) (o := .cells #[.string (⟨#[]⟩ : ByteArray), .int .i64 0, .int .i64 0, .int .i64 0, .int .i64 0] 55 (0, 0)) (zq49 NB101_116 BK101) NB101_0.out (by simp)); replace BK116 := zA (KeepBut.blk hk (g' := gb116) (o := .cells #[.string t105, .int .i64 t113, .int .i64 x117002_5, .int .i64 x117003_22, .int .i64 (wrap64 (t111 + t124))] 55 (0, 0)) (by (with_reducible repeat (first | refine zkn ?_ _ | refine zkd ?_ | refine zka ?_ _)); refine zaw (cs := #[.string t105, .int .i64 t113, .int .i64 x117002_5, .int .i64 x117003_22, .int .i64 0]) ?_ 4 _ rfl; (with_reducible repeat (first | refine zkn ?_ _ | refine zkd ?_ | refine zka ?_ _)); exact BK116.out) NB116_0.out (by simp)); replace HK := zA (KeepBut.trans (zq11 GW101 GW116) hk (.inl rfl)); replace HB := zA (hb); replace HI0 := zA (hi); (try clear hb); (try clear hk); (try clear hi); obtain ⟨hcz41_0, hcz41_1, hcz41_2, hcz41_3, hcz41_4⟩ := zc5 w40 (.string t105) (.int .i64 t113) (.int .i64 x117002_5) (.int .i64 x117003_22) (.int .i64 (wrap64 (t111 + t124))) BK116.out; obtain ⟨hfz41_0, hfz41_1, hfz41_2, hfz41_3, hfz41_4⟩ := zf5 BK116.out; have hnb42 := NB101_0.out; have hnc42 := NB0_101.out; obtain ⟨hcz43_0, hcz43_1, hcz43_2, hcz43_3, hcz43_4⟩ := zc5 w40 (.string (⟨#[]⟩ : ByteArray)) (.int .i64 0) (.int .i64 0) (.int .i64 0) (.int .i64 0) BK101.out; obtain ⟨hfz43_0, hfz43_1, hfz43_2, hfz43_3, hfz43_4⟩ := zf5 BK101.out))
 refine bodyPost_ret (results_cell_row rfl _ _ gb101 55 #[.string t105, .int .i64 t113, .int .i64 x117002_5, .int .i64 x117003_22, .int .i64 t127] (0, 0) _ rfl (zq30 NB101_116 BK101) Tryz.underlying55 rfl zq27) rfl ?_
 exact ⟨zq5, zq12 HI0 NB0_101 NB0_116, zq13 HI0 GE101 GE116, zq11 GW101 GW116⟩
def zdr (k : Nat) (s0_0 : List Int) (s0_1 : Int) (s0_2 : Int) : Option (ByteArray × Int × Int × Int × Int × Int × Int) := (zdp k s0_0 s0_1 s0_2 6).bind fun bt102 => ((zbk s0_0 bt102.2.2.2.2.2.1 bt102.2.2.2.2.2.2 14).bind fun bt110 => (if bt110.1 = 0 then ((zcj s0_0 bt110.2.1 bt110.2.2 (([(-1), 6] : List Int))).bind fun bt116 => (some (bt102.1, bt116.1, bt102.2.2.1, bt102.2.2.2.1, bt102.2.2.2.2.1, bt116.2.1, bt116.2.2))) else (if bt110.1 = 1 then ((zcj s0_0 bt110.2.1 bt110.2.2 (([(-1), 0, 6, 4611686018427387904] : List Int))).bind fun bt122 => (some (bt102.1, bt102.2.1, bt122.1, bt102.2.2.2.1, bt102.2.2.2.2.1, bt122.2.1, bt122.2.2))) else (if bt110.1 = 2 then ((zcj s0_0 bt110.2.1 bt110.2.2 (([(-1), 0, 1, 6] : List Int))).bind fun bt128 => (some (bt102.1, bt102.2.1, bt102.2.2.1, bt128.1, bt102.2.2.2.2.1, bt128.2.1, bt128.2.2))) else (if bt110.1 = 3 then ((zcj s0_0 bt110.2.1 bt110.2.2 (([(-1), 0, 1, 3, 4, 5, 6, 63, 64] : List Int))).bind fun bt134 => (some (bt102.1, bt102.2.1, bt102.2.2.1, bt102.2.2.2.1, bt134.1, bt134.2.1, bt134.2.2))) else (if bt110.1 = 4 then ((zhu s0_0 bt110.2.1 bt110.2.2 (([(⟨#[]⟩ : ByteArray), (⟨#[99, 111, 110, 115, 116]⟩ : ByteArray), (⟨#[110, 111, 112]⟩ : ByteArray), (⟨#[115, 101, 116]⟩ : ByteArray), (⟨#[108, 101, 97]⟩ : ByteArray)] : List ByteArray))).bind fun bt140 => (some (bt140.1, bt102.2.1, bt102.2.2.1, bt102.2.2.2.1, bt102.2.2.2.2.1, bt140.2.1, bt140.2.2))) else (some (bt102.1, bt102.2.1, bt102.2.2.1, bt102.2.2.2.1, bt102.2.2.2.2.1, bt110.2.1, bt110.2.2))))))))
theorem zjy : ∀ a0 a1 a2 k, LeO (zdr k a0 a1 a2) (zdr (k + 1) a0 a1 a2) := by
 intro a0 a1 a2 k
 unfold zdr
 exact zm1 zgi
theorem zm0 (k : Nat) (g : Nat) (s0_0 : List Int) (s0_1 : Int) (s0_2 : Int) (r1 : ByteArray) (r2 : Int) (r3 : Int) (r4 : Int) (r5 : Int) (r6 : Int) (r7 : Int) (w0 w : World) (hI : IsS63 w0 w g s0_0 s0_1 s0_2) (hB : Below w0.heap.size w0 w) (h : zdr k s0_0 s0_1 s0_2 = some (r1, r2, r3, r4, r5, r6, r7)) :
   Calls Tryz.prog 138 #[.pointer (some ⟨g, 0, none⟩)] w fun e w' => e = .returned (.agg #[.string r1, .int .i64 r2, .int .i64 r3, .int .i64 r4, .int .i64 r5]) ∧ IsS63 w0 w' g s0_0 r6 r7 ∧ Below w0.heap.size w0 w' ∧ KeepBut w w' g none := by
 have hu55 := Tryz.underlying55
 have HI0 := zA hI
 have HK := zA (KeepBut.refl w g none)
 have HL := zA hB.size
 clear hI
 have HW0 := zA hB.size
 have HB := zA hB
 clear hB
 have H := h
 unfold zdr at H
 clear h
 replace H := zob H
 obtain ⟨⟨t102, t103, t104, t105, t106, t107, t108⟩, A20, H⟩ := H
 have A2 := zA A20
 clear A20
 replace H := zob H
 obtain ⟨⟨t110, t111, t112⟩, A30, H⟩ := H
 have A3 := zA A30
 clear A30
 have HCC := zA H
 clear H
 go_enter Tryz.func138, Tryz.ntmps138
 go_upto_if 8 with (first | ((with_reducible refine zgd 2 ?_); refine zbx #[.string (⟨#[]⟩ : ByteArray), .int .i64 0, .int .i64 0, .int .i64 0, .int .i64 0] 55 ?_; intro gb101 hg w84 hbox hb; replace HB := zA (zac (zq6 HI0) hb); have BK101 := zA (hbox); have GW101 := zA ((zq71 : w.heap.size ≤ gb101)); have GE101 := zA ((Nat.le_trans HW0.out (zq71 : w.heap.size ≤ gb101) : w0.heap.size ≤ gb101)); replace HK := zA (KeepBut.trans zq7 (zcn hb g none) (.inl rfl)); have NB0_101 := zA ((zq66 HI0 : g ≠ gb101)); have NB101_0 := zA ((zq67 HI0 : gb101 ≠ g)); replace HI0 := zA (IsS63.below (zq3 HI0) hb); clear hb hbox hg) | ((with_reducible refine zgc 139 ?_); refine zca 5 Tryz.func139 #[.pointer (some ⟨g, 0, none⟩), .int .i64 6] (zid k g s0_0 s0_1 s0_2 6 t102 t103 t104 t105 t106 t107 t108 w0 _ (zq31 HI0 NB0_101) (zq36 HI0 GE101) A2.out) ?_; rintro e w85 ⟨rfl, hi, hb, hk⟩; refine ⟨_, rfl, ?_⟩; replace BK101 := zA (KeepBut.blk hk (g' := gb101) (o := .cells #[.string (⟨#[]⟩ : ByteArray), .int .i64 0, .int .i64 0, .int .i64 0, .int .i64 0] 55 (0, 0)) (zq4 BK101) NB101_0.out (by simp)); replace HK := zA (KeepBut.trans (zq23 GW101) hk (.inl rfl)); replace HB := zA (hb); replace HI0 := zA (hi); (try clear hb); (try clear hk); (try clear hi)) | ((with_reducible refine zgd 3 ?_); refine zbx #[.string (⟨#[]⟩ : ByteArray), .int .i64 0, .int .i64 0, .int .i64 0, .int .i64 0] 55 ?_; intro gb109 hg w86 hbox hb; replace HB := zA (zac (zq36 HI0 GE101) hb); have BK109 := zA (hbox); have GW109 := zA ((zq64 : w.heap.size ≤ gb109)); have GE109 := zA ((Nat.le_trans HW0.out (zq64 : w.heap.size ≤ gb109) : w0.heap.size ≤ gb109)); replace HK := zA (KeepBut.trans (zq23 GW101) (zcn hb g none) (.inl rfl)); have NB101_109 := zA ((zq35 BK101 : gb101 ≠ gb109)); replace BK101 := zbb BK101 hb; have NB109_101 := zA (Ne.symm NB101_109.out); have NB0_109 := zA ((by rw [hg]; exact Nat.ne_of_lt (zo1 (show IsS63 w0 _ g s0_0 t107 t108 from by repeat (first | (with_reducible first | exact HI0.out | apply IsS63.alloc | apply IsS63.drewN | apply IsS63.drew | apply zaz | apply za0 | refine ze3 ?_ NB0_101.out _) | exact HI0.out))) : g ≠ gb109)); have NB109_0 := zA ((by rw [hg]; exact Nat.ne_of_gt (zo1 (show IsS63 w0 _ g s0_0 t107 t108 from by repeat (first | (with_reducible first | exact HI0.out | apply IsS63.alloc | apply IsS63.drewN | apply IsS63.drew | apply zaz | apply za0 | refine ze3 ?_ NB0_101.out _) | exact HI0.out))) : gb109 ≠ g)); replace HI0 := zA (IsS63.below (zq31 HI0 NB0_101) hb); clear hb hbox hg; have hnb87 := NB109_101.out; have hnc87 := NB101_109.out; have hnb88 := NB109_0.out; have hnc88 := NB0_109.out; obtain ⟨hcz89_0, hcz89_1, hcz89_2, hcz89_3, hcz89_4, hfz89_0, hfz89_1, hfz89_2, hfz89_3, hfz89_4⟩ := zd5 BK109) | ((with_reducible refine zgc 98 ?_); refine zca 7 Tryz.func98 #[.pointer (some ⟨g, 0, none⟩), .int .i64 14] (zau g s0_0 t107 t108 14 t110 t111 t112 w0 _ (zq12 HI0 NB0_101 NB0_109) (zq13 HI0 GE101 GE109) A3.out) ?_; rintro e w90 ⟨rfl, hi, hb, hk⟩; refine ⟨_, rfl, ?_⟩; replace BK101 := zA (KeepBut.blk hk (g' := gb101) (o := .cells #[.string (⟨#[]⟩ : ByteArray), .int .i64 0, .int .i64 0, .int .i64 0, .int .i64 0] 55 (0, 0)) (zq22 NB101_109 BK101) NB101_0.out (by simp)); replace BK109 := zA (KeepBut.blk hk (g' := gb109) (o := .cells #[.string t102, .int .i64 t103, .int .i64 t104, .int .i64 t105, .int .i64 t106] 55 (0, 0)) (zq32 BK109) NB109_0.out (by simp)); replace HK := zA (KeepBut.trans (zq11 GW101 GW109) hk (.inl rfl)); replace HB := zA (hb); replace HI0 := zA (hi); (try clear hb); (try clear hk); (try clear hi); obtain ⟨hcz91_0, hcz91_1, hcz91_2, hcz91_3, hcz91_4⟩ := zc5 w90 (.string t102) (.int .i64 t103) (.int .i64 t104) (.int .i64 t105) (.int .i64 t106) BK109.out; obtain ⟨hfz91_0, hfz91_1, hfz91_2, hfz91_3, hfz91_4⟩ := zf5 BK109.out; have hnb92 := NB101_0.out; have hnc92 := NB0_101.out; obtain ⟨hcz93_0, hcz93_1, hcz93_2, hcz93_3, hcz93_4⟩ := zc5 w90 (.string (⟨#[]⟩ : ByteArray)) (.int .i64 0) (.int .i64 0) (.int .i64 0) (.int .i64 0) BK101.out; obtain ⟨hfz93_0, hfz93_1, hfz93_2, hfz93_3, hfz93_4⟩ := zf5 BK101.out))
 have H := HCC.out
 clear HCC
 by_cases c4 : t110 = 0
 · rw [if_pos c4] at H
   obtain ⟨c4b0, c4b1⟩ := zbe c4
   clear c4
   obtain ⟨y113, hy113⟩ : ∃ y_ : List Int, y_ = (([(-1), 6] : List Int)) := ⟨_, rfl⟩
   rw [← hy113] at H; try with_reducible replace H := zbs H
   have Ny113 := zA hy113
   clear hy113
   replace H := zob H
   obtain ⟨⟨t116, t117, t118⟩, A50, H⟩ := H
   have A5 := zA A50
   clear A50
   simp only [Option.some.injEq, Prod.mk.injEq] at H
   obtain ⟨rfl, rfl, rfl, rfl, rfl, rfl, rfl⟩ := H
   go_wp2_with (first | ((with_reducible refine zgd 11 ?_); refine Kd.R_lit (Kd.int .i64) _ 3 ?hg (N := 11) ?hd (xs := ([(-1), 6] : List Int)) (inner := [.int .i64 (-1), .int .i64 6]) (ok := fun _ => True) (okp := fun _ => True) ?hr ?hp (fun _ hk => hk) trivial (Below.refl _ _) (zlr _) (by simp) ?_; (case hd => rfl); (case hg => rfl); (case hr => go_simp <;> rfl); (case hp => exact (zak (show Kd.M (Kd.int .i64) _ _ _ (-1) [.int .i64 (-1)] from rfl) (zak (show Kd.M (Kd.int .i64) _ _ _ 6 [.int .i64 6] from rfl) (Reps.none _ _)))); intro v114 w13 ho14 hb hg_ hnew_; clear hg_ hnew_; (first | rw [← Ny113.out] at ho14 | (simp only [Int.reduceToNat] at ho14; rw [← Ny113.out] at ho14)); have HO115 := zA (Kd.R_lower ho14 (zfw (w := w) (g := g) (row := none) (zq11 GW101 GW109))); replace BK101 := zbb BK101 hb; replace BK109 := zbb BK109 hb; replace HK := zA (KeepBut.trans (zq11 GW101 GW109) (zcn hb g none) (.inl rfl)); replace HB := zA (zac (zq13 HI0 GE101 GE109) hb); replace HI0 := zA (IsS63.below (zq12 HI0 NB0_101 NB0_109) hb); clear hb ho14; obtain ⟨Ao15, co15, eo15⟩ := Kd.R_slice HO115.out; subst eo15) | ((with_reducible refine zgc 61 ?_); refine zca 12 Tryz.func61 #[.pointer (some ⟨g, 0, none⟩), .slice Ao15 y113.length co15] (zcu g s0_0 t111 t112 _ _ y113 t116 t117 t118 w0 _ (zq12 HI0 NB0_101 NB0_109) (zq13 HI0 GE101 GE109) (zq18 HO115) (zq43 HO115) (zq45 HI0 HO115) A5.out) ?_; rintro e w16 ⟨rfl, hi, hb, hk⟩; refine ⟨_, rfl, ?_⟩; replace BK101 := zA (KeepBut.blk hk (g' := gb101) (o := .cells #[.string (⟨#[]⟩ : ByteArray), .int .i64 0, .int .i64 0, .int .i64 0, .int .i64 0] 55 (0, 0)) (zq4 BK101) NB101_0.out (by simp)); replace BK109 := zA (KeepBut.blk hk (g' := gb109) (o := .cells #[.string t102, .int .i64 t103, .int .i64 t104, .int .i64 t105, .int .i64 t106] 55 (0, 0)) (zq4 BK109) NB109_0.out (by simp)); replace HO115 := zA (Kd.R_mono (Kd.R_keep (IsS63.apart (show IsS63 w0 _ g s0_0 t111 t112 from by repeat (first | (with_reducible first | exact HI0.out | apply IsS63.alloc | apply IsS63.drewN | apply IsS63.drew | apply zaz | apply za0 | refine ze3 ?_ NB0_101.out _ | refine ze3 ?_ NB0_109.out _) | exact HI0.out)) (zq2 HO115) (by decide)) hk (fun _ h => h.2)) (fun _ h => h.1)); replace HK := zA (KeepBut.trans (zq11 GW101 GW109) hk (.inl rfl)); replace HB := zA (hb); replace HI0 := zA (hi); (try clear hb); (try clear hk); (try clear hi); obtain ⟨hcz17_0, hcz17_1, hcz17_2, hcz17_3, hcz17_4⟩ := zc5 w16 (.string t102) (.int .i64 t103) (.int .i64 t104) (.int .i64 t105) (.int .i64 t106) BK109.out; obtain ⟨hfz17_0, hfz17_1, hfz17_2, hfz17_3, hfz17_4⟩ := zf5 BK109.out; have hnb18 := NB101_0.out; have hnc18 := NB0_101.out; obtain ⟨hcz19_0, hcz19_1, hcz19_2, hcz19_3, hcz19_4⟩ := zc5 w16 (.string (⟨#[]⟩ : ByteArray)) (.int .i64 0) (.int .i64 0) (.int .i64 0) (.int .i64 0) BK101.out; obtain ⟨hfz19_0, hfz19_1, hfz19_2, hfz19_3, hfz19_4⟩ := zf5 BK101.out))
   refine bodyPost_ret (results_cell_row rfl _ _ gb101 55 #[.string t102, .int .i64 t116, .int .i64 t104, .int .i64 t105, .int .i64 t106] (0, 0) _ rfl (by (with_reducible repeat (first | refine zkn ?_ _ | refine zkd ?_ | refine zka ?_ _)); refine zaw (cs := #[.string t102, .int .i64 t116, .int .i64 t104, .int .i64 t105, .int .i64 0]) ?_ 4 _ rfl; (with_reducible repeat (first | refine zkn ?_ _ | refine zkd ?_ | refine zka ?_ _)); refine zaw (cs := #[.string t102, .int .i64 t116, .int .i64 t104, .int .i64 0, .int .i64 0]) ?_ 3 _ rfl; (with_reducible repeat (first | refine zkn ?_ _ | refine zkd ?_ | refine zka ?_ _)); refine zaw (cs := #[.string t102, .int .i64 t116, .int .i64 0, .int .i64 0, .int .i64 0]) ?_ 2 _ rfl; (with_reducible repeat (first | refine zkn ?_ _ | refine zkd ?_ | refine zka ?_ _)); refine zaw (cs := #[.string t102, .int .i64 0, .int .i64 0, .int .i64 0, .int .i64 0]) ?_ 1 _ rfl; (with_reducible repeat (first | refine zkn ?_ _ | refine zkd ?_ | refine zka ?_ _)); refine zaw (cs := #[.string (⟨#[]⟩ : ByteArray), .int .i64 0, .int .i64 0, .int .i64 0, .int .i64 0]) ?_ 0 _ rfl; (with_reducible repeat (first | refine zkn ?_ _ | refine zkd ?_ | refine zka ?_ _)); refine zav ?_ NB101_109.out _; (with_reducible repeat (first | refine zkn ?_ _ | refine zkd ?_ | refine zka ?_ _)); exact BK101.out) Tryz.underlying55 rfl zq27) rfl ?_
   exact ⟨zq5, zq12 HI0 NB0_101 NB0_109, zq13 HI0 GE101 GE109, zq11 GW101 GW109⟩
 rw [if_neg c4] at H
 obtain ⟨c4b0, c4b1⟩ := zbq c4
 by_cases c20 : t110 = 1
 · rw [if_pos c20] at H
   obtain ⟨c20b0, c20b1⟩ := zbe c20
   clear c20
   obtain ⟨y119, hy119⟩ : ∃ y_ : List Int, y_ = (([(-1), 0, 6, 4611686018427387904] : List Int)) := ⟨_, rfl⟩
   rw [← hy119] at H; try with_reducible replace H := zbs H
   have Ny119 := zA hy119
   clear hy119
   replace H := zob H
   obtain ⟨⟨t122, t123, t124⟩, A210, H⟩ := H
   have A21 := zA A210
   clear A210
   simp only [Option.some.injEq, Prod.mk.injEq] at H
   obtain ⟨rfl, rfl, rfl, rfl, rfl, rfl, rfl⟩ := H
   go_wp2_with (first | ((with_reducible refine zgd 17 ?_); refine Kd.R_lit (Kd.int .i64) _ 3 ?hg (N := 17) ?hd (xs := ([(-1), 0, 6, 4611686018427387904] : List Int)) (inner := [.int .i64 (-1), .int .i64 0, .int .i64 6, .int .i64 4611686018427387904]) (ok := fun _ => True) (okp := fun _ => True) ?hr ?hp (fun _ hk => hk) trivial (Below.refl _ _) (zlr _) (by simp) ?_; (case hd => rfl); (case hg => rfl); (case hr => go_simp <;> rfl); (case hp => exact (zak (show Kd.M (Kd.int .i64) _ _ _ (-1) [.int .i64 (-1)] from rfl) (zak (show Kd.M (Kd.int .i64) _ _ _ 0 [.int .i64 0] from rfl) (zak (show Kd.M (Kd.int .i64) _ _ _ 6 [.int .i64 6] from rfl) (zak (show Kd.M (Kd.int .i64) _ _ _ 4611686018427387904 [.int .i64 4611686018427387904] from rfl) (Reps.none _ _)))))); intro v120 w29 ho30 hb hg_ hnew_; clear hg_ hnew_; (first | rw [← Ny119.out] at ho30 | (simp only [Int.reduceToNat] at ho30; rw [← Ny119.out] at ho30)); have HO121 := zA (Kd.R_lower ho30 (zfw (w := w) (g := g) (row := none) (zq11 GW101 GW109))); replace BK101 := zbb BK101 hb; replace BK109 := zbb BK109 hb; replace HK := zA (KeepBut.trans (zq11 GW101 GW109) (zcn hb g none) (.inl rfl)); replace HB := zA (zac (zq13 HI0 GE101 GE109) hb); replace HI0 := zA (IsS63.below (zq12 HI0 NB0_101 NB0_109) hb); clear hb ho30; obtain ⟨Ao31, co31, eo31⟩ := Kd.R_slice HO121.out; subst eo31) | ((with_reducible refine zgc 61 ?_); refine zca 18 Tryz.func61 #[.pointer (some ⟨g, 0, none⟩), .slice Ao31 y119.length co31] (zcu g s0_0 t111 t112 _ _ y119 t122 t123 t124 w0 _ (zq12 HI0 NB0_101 NB0_109) (zq13 HI0 GE101 GE109) (zq18 HO121) (zq43 HO121) (zq45 HI0 HO121) A21.out) ?_; rintro e w32 ⟨rfl, hi, hb, hk⟩; refine ⟨_, rfl, ?_⟩; replace BK101 := zA (KeepBut.blk hk (g' := gb101) (o := .cells #[.string (⟨#[]⟩ : ByteArray), .int .i64 0, .int .i64 0, .int .i64 0, .int .i64 0] 55 (0, 0)) (zq4 BK101) NB101_0.out (by simp)); replace BK109 := zA (KeepBut.blk hk (g' := gb109) (o := .cells #[.string t102, .int .i64 t103, .int .i64 t104, .int .i64 t105, .int .i64 t106] 55 (0, 0)) (zq4 BK109) NB109_0.out (by simp)); replace HO121 := zA (Kd.R_mono (Kd.R_keep (IsS63.apart (show IsS63 w0 _ g s0_0 t111 t112 from by repeat (first | (with_reducible first | exact HI0.out | apply IsS63.alloc | apply IsS63.drewN | apply IsS63.drew | apply zaz | apply za0 | refine ze3 ?_ NB0_101.out _ | refine ze3 ?_ NB0_109.out _) | exact HI0.out)) (zq2 HO121) (by decide)) hk (fun _ h => h.2)) (fun _ h => h.1)); replace HK := zA (KeepBut.trans (zq11 GW101 GW109) hk (.inl rfl)); replace HB := zA (hb); replace HI0 := zA (hi); (try clear hb); (try clear hk); (try clear hi); obtain ⟨hcz33_0, hcz33_1, hcz33_2, hcz33_3, hcz33_4⟩ := zc5 w32 (.string t102) (.int .i64 t103) (.int .i64 t104) (.int .i64 t105) (.int .i64 t106) BK109.out; obtain ⟨hfz33_0, hfz33_1, hfz33_2, hfz33_3, hfz33_4⟩ := zf5 BK109.out; have hnb34 := NB101_0.out; have hnc34 := NB0_101.out; obtain ⟨hcz35_0, hcz35_1, hcz35_2, hcz35_3, hcz35_4⟩ := zc5 w32 (.string (⟨#[]⟩ : ByteArray)) (.int .i64 0) (.int .i64 0) (.int .i64 0) (.int .i64 0) BK101.out; obtain ⟨hfz35_0, hfz35_1, hfz35_2, hfz35_3, hfz35_4⟩ := zf5 BK101.out))
   refine bodyPost_ret (results_cell_row rfl _ _ gb101 55 #[.string t102, .int .i64 t103, .int .i64 t122, .int .i64 t105, .int .i64 t106] (0, 0) _ rfl (by (with_reducible repeat (first | refine zkn ?_ _ | refine zkd ?_ | refine zka ?_ _)); refine zaw (cs := #[.string t102, .int .i64 t103, .int .i64 t122, .int .i64 t105, .int .i64 0]) ?_ 4 _ rfl; (with_reducible repeat (first | refine zkn ?_ _ | refine zkd ?_ | refine zka ?_ _)); refine zaw (cs := #[.string t102, .int .i64 t103, .int .i64 t122, .int .i64 0, .int .i64 0]) ?_ 3 _ rfl; (with_reducible repeat (first | refine zkn ?_ _ | refine zkd ?_ | refine zka ?_ _)); refine zaw (cs := #[.string t102, .int .i64 t103, .int .i64 0, .int .i64 0, .int .i64 0]) ?_ 2 _ rfl; (with_reducible repeat (first | refine zkn ?_ _ | refine zkd ?_ | refine zka ?_ _)); refine zaw (cs := #[.string t102, .int .i64 0, .int .i64 0, .int .i64 0, .int .i64 0]) ?_ 1 _ rfl; (with_reducible repeat (first | refine zkn ?_ _ | refine zkd ?_ | refine zka ?_ _)); refine zaw (cs := #[.string (⟨#[]⟩ : ByteArray), .int .i64 0, .int .i64 0, .int .i64 0, .int .i64 0]) ?_ 0 _ rfl; (with_reducible repeat (first | refine zkn ?_ _ | refine zkd ?_ | refine zka ?_ _)); refine zav ?_ NB101_109.out _; (with_reducible repeat (first | refine zkn ?_ _ | refine zkd ?_ | refine zka ?_ _)); exact BK101.out) Tryz.underlying55 rfl zq27) rfl ?_
   exact ⟨zq5, zq12 HI0 NB0_101 NB0_109, zq13 HI0 GE101 GE109, zq11 GW101 GW109⟩
 rw [if_neg c20] at H
 obtain ⟨c20b0, c20b1⟩ := zbq c20
 by_cases c36 : t110 = 2
 · rw [if_pos c36] at H
   obtain ⟨c36b0, c36b1⟩ := zbe c36
   clear c36
   obtain ⟨y125, hy125⟩ : ∃ y_ : List Int, y_ = (([(-1), 0, 1, 6] : List Int)) := ⟨_, rfl⟩
   rw [← hy125] at H; try with_reducible replace H := zbs H
   have Ny125 := zA hy125
   clear hy125
   replace H := zob H
   obtain ⟨⟨t128, t129, t130⟩, A370, H⟩ := H
   have A37 := zA A370
   clear A370
   simp only [Option.some.injEq, Prod.mk.injEq] at H
   obtain ⟨rfl, rfl, rfl, rfl, rfl, rfl, rfl⟩ := H
   go_wp2_with (first | ((with_reducible refine zgd 23 ?_); refine Kd.R_lit (Kd.int .i64) _ 3 ?hg (N := 23) ?hd (xs := ([(-1), 0, 1, 6] : List Int)) (inner := [.int .i64 (-1), .int .i64 0, .int .i64 1, .int .i64 6]) (ok := fun _ => True) (okp := fun _ => True) ?hr ?hp (fun _ hk => hk) trivial (Below.refl _ _) (zlr _) (by simp) ?_; (case hd => rfl); (case hg => rfl); (case hr => go_simp <;> rfl); (case hp => exact (zak (show Kd.M (Kd.int .i64) _ _ _ (-1) [.int .i64 (-1)] from rfl) (zak (show Kd.M (Kd.int .i64) _ _ _ 0 [.int .i64 0] from rfl) (zak (show Kd.M (Kd.int .i64) _ _ _ 1 [.int .i64 1] from rfl) (zak (show Kd.M (Kd.int .i64) _ _ _ 6 [.int .i64 6] from rfl) (Reps.none _ _)))))); intro v126 w45 ho46 hb hg_ hnew_; clear hg_ hnew_; (first | rw [← Ny125.out] at ho46 | (simp only [Int.reduceToNat] at ho46; rw [← Ny125.out] at ho46)); have HO127 := zA (Kd.R_lower ho46 (zfw (w := w) (g := g) (row := none) (zq11 GW101 GW109))); replace BK101 := zbb BK101 hb; replace BK109 := zbb BK109 hb; replace HK := zA (KeepBut.trans (zq11 GW101 GW109) (zcn hb g none) (.inl rfl)); replace HB := zA (zac (zq13 HI0 GE101 GE109) hb); replace HI0 := zA (IsS63.below (zq12 HI0 NB0_101 NB0_109) hb); clear hb ho46; obtain ⟨Ao47, co47, eo47⟩ := Kd.R_slice HO127.out; subst eo47) | ((with_reducible refine zgc 61 ?_); refine zca 24 Tryz.func61 #[.pointer (some ⟨g, 0, none⟩), .slice Ao47 y125.length co47] (zcu g s0_0 t111 t112 _ _ y125 t128 t129 t130 w0 _ (zq12 HI0 NB0_101 NB0_109) (zq13 HI0 GE101 GE109) (zq18 HO127) (zq43 HO127) (zq45 HI0 HO127) A37.out) ?_; rintro e w48 ⟨rfl, hi, hb, hk⟩; refine ⟨_, rfl, ?_⟩; replace BK101 := zA (KeepBut.blk hk (g' := gb101) (o := .cells #[.string (⟨#[]⟩ : ByteArray), .int .i64 0, .int .i64 0, .int .i64 0, .int .i64 0] 55 (0, 0)) (zq4 BK101) NB101_0.out (by simp)); replace BK109 := zA (KeepBut.blk hk (g' := gb109) (o := .cells #[.string t102, .int .i64 t103, .int .i64 t104, .int .i64 t105, .int .i64 t106] 55 (0, 0)) (zq4 BK109) NB109_0.out (by simp)); replace HO127 := zA (Kd.R_mono (Kd.R_keep (IsS63.apart (show IsS63 w0 _ g s0_0 t111 t112 from by repeat (first | (with_reducible first | exact HI0.out | apply IsS63.alloc | apply IsS63.drewN | apply IsS63.drew | apply zaz | apply za0 | refine ze3 ?_ NB0_101.out _ | refine ze3 ?_ NB0_109.out _) | exact HI0.out)) (zq2 HO127) (by decide)) hk (fun _ h => h.2)) (fun _ h => h.1)); replace HK := zA (KeepBut.trans (zq11 GW101 GW109) hk (.inl rfl)); replace HB := zA (hb); replace HI0 := zA (hi); (try clear hb); (try clear hk); (try clear hi); obtain ⟨hcz49_0, hcz49_1, hcz49_2, hcz49_3, hcz49_4⟩ := zc5 w48 (.string t102) (.int .i64 t103) (.int .i64 t104) (.int .i64 t105) (.int .i64 t106) BK109.out; obtain ⟨hfz49_0, hfz49_1, hfz49_2, hfz49_3, hfz49_4⟩ := zf5 BK109.out; have hnb50 := NB101_0.out; have hnc50 := NB0_101.out; obtain ⟨hcz51_0, hcz51_1, hcz51_2, hcz51_3, hcz51_4⟩ := zc5 w48 (.string (⟨#[]⟩ : ByteArray)) (.int .i64 0) (.int .i64 0) (.int .i64 0) (.int .i64 0) BK101.out; obtain ⟨hfz51_0, hfz51_1, hfz51_2, hfz51_3, hfz51_4⟩ := zf5 BK101.out))
   refine bodyPost_ret (results_cell_row rfl _ _ gb101 55 #[.string t102, .int .i64 t103, .int .i64 t104, .int .i64 t128, .int .i64 t106] (0, 0) _ rfl (by (with_reducible repeat (first | refine zkn ?_ _ | refine zkd ?_ | refine zka ?_ _)); refine zaw (cs := #[.string t102, .int .i64 t103, .int .i64 t104, .int .i64 t128, .int .i64 0]) ?_ 4 _ rfl; (with_reducible repeat (first | refine zkn ?_ _ | refine zkd ?_ | refine zka ?_ _)); refine zaw (cs := #[.string t102, .int .i64 t103, .int .i64 t104, .int .i64 0, .int .i64 0]) ?_ 3 _ rfl; (with_reducible repeat (first | refine zkn ?_ _ | refine zkd ?_ | refine zka ?_ _)); refine zaw (cs := #[.string t102, .int .i64 t103, .int .i64 0, .int .i64 0, .int .i64 0]) ?_ 2 _ rfl; (with_reducible repeat (first | refine zkn ?_ _ | refine zkd ?_ | refine zka ?_ _)); refine zaw (cs := #[.string t102, .int .i64 0, .int .i64 0, .int .i64 0, .int .i64 0]) ?_ 1 _ rfl; (with_reducible repeat (first | refine zkn ?_ _ | refine zkd ?_ | refine zka ?_ _)); refine zaw (cs := #[.string (⟨#[]⟩ : ByteArray), .int .i64 0, .int .i64 0, .int .i64 0, .int .i64 0]) ?_ 0 _ rfl; (with_reducible repeat (first | refine zkn ?_ _ | refine zkd ?_ | refine zka ?_ _)); refine zav ?_ NB101_109.out _; (with_reducible repeat (first | refine zkn ?_ _ | refine zkd ?_ | refine zka ?_ _)); exact BK101.out) Tryz.underlying55 rfl zq27) rfl ?_
   exact ⟨zq5, zq12 HI0 NB0_101 NB0_109, zq13 HI0 GE101 GE109, zq11 GW101 GW109⟩
 rw [if_neg c36] at H
 obtain ⟨c36b0, c36b1⟩ := zbq c36
 by_cases c52 : t110 = 3
 · rw [if_pos c52] at H
   obtain ⟨c52b0, c52b1⟩ := zbe c52
   clear c52
   obtain ⟨y131, hy131⟩ : ∃ y_ : List Int, y_ = (([(-1), 0, 1, 3, 4, 5, 6, 63, 64] : List Int)) := ⟨_, rfl⟩
   rw [← hy131] at H; try with_reducible replace H := zbs H
   have Ny131 := zA hy131
   clear hy131
   replace H := zob H
   obtain ⟨⟨t134, t135, t136⟩, A530, H⟩ := H
   have A53 := zA A530
   clear A530
   simp only [Option.some.injEq, Prod.mk.injEq] at H
   obtain ⟨rfl, rfl, rfl, rfl, rfl, rfl, rfl⟩ := H
   go_wp2_with (first | ((with_reducible refine zgd 29 ?_); refine Kd.R_lit (Kd.int .i64) _ 3 ?hg (N := 29) ?hd (xs := ([(-1), 0, 1, 3, 4, 5, 6, 63, 64] : List Int)) (inner := [.int .i64 (-1), .int .i64 0, .int .i64 1, .int .i64 3, .int .i64 4, .int .i64 5, .int .i64 6, .int .i64 63, .int .i64 64]) (ok := fun _ => True) (okp := fun _ => True) ?hr ?hp (fun _ hk => hk) trivial (Below.refl _ _) (zlr _) (by simp) ?_; (case hd => rfl); (case hg => rfl); (case hr => go_simp <;> rfl); (case hp => exact (zak (show Kd.M (Kd.int .i64) _ _ _ (-1) [.int .i64 (-1)] from rfl) (zak (show Kd.M (Kd.int .i64) _ _ _ 0 [.int .i64 0] from rfl) (zak (show Kd.M (Kd.int .i64) _ _ _ 1 [.int .i64 1] from rfl) (zak (show Kd.M (Kd.int .i64) _ _ _ 3 [.int .i64 3] from rfl) (zak (show Kd.M (Kd.int .i64) _ _ _ 4 [.int .i64 4] from rfl) (zak (show Kd.M (Kd.int .i64) _ _ _ 5 [.int .i64 5] from rfl) (zak (show Kd.M (Kd.int .i64) _ _ _ 6 [.int .i64 6] from rfl) (zak (show Kd.M (Kd.int .i64) _ _ _ 63 [.int .i64 63] from rfl) (zak (show Kd.M (Kd.int .i64) _ _ _ 64 [.int .i64 64] from rfl) (Reps.none _ _))))))))))); intro v132 w61 ho62 hb hg_ hnew_; clear hg_ hnew_; (first | rw [← Ny131.out] at ho62 | (simp only [Int.reduceToNat] at ho62; rw [← Ny131.out] at ho62)); have HO133 := zA (Kd.R_lower ho62 (zfw (w := w) (g := g) (row := none) (zq11 GW101 GW109))); replace BK101 := zbb BK101 hb; replace BK109 := zbb BK109 hb; replace HK := zA (KeepBut.trans (zq11 GW101 GW109) (zcn hb g none) (.inl rfl)); replace HB := zA (zac (zq13 HI0 GE101 GE109) hb); replace HI0 := zA (IsS63.below (zq12 HI0 NB0_101 NB0_109) hb); clear hb ho62; obtain ⟨Ao63, co63, eo63⟩ := Kd.R_slice HO133.out; subst eo63) | ((with_reducible refine zgc 61 ?_); refine zca 30 Tryz.func61 #[.pointer (some ⟨g, 0, none⟩), .slice Ao63 y131.length co63] (zcu g s0_0 t111 t112 _ _ y131 t134 t135 t136 w0 _ (zq12 HI0 NB0_101 NB0_109) (zq13 HI0 GE101 GE109) (zq18 HO133) (zq43 HO133) (zq45 HI0 HO133) A53.out) ?_; rintro e w64 ⟨rfl, hi, hb, hk⟩; refine ⟨_, rfl, ?_⟩; replace BK101 := zA (KeepBut.blk hk (g' := gb101) (o := .cells #[.string (⟨#[]⟩ : ByteArray), .int .i64 0, .int .i64 0, .int .i64 0, .int .i64 0] 55 (0, 0)) (zq4 BK101) NB101_0.out (by simp)); replace BK109 := zA (KeepBut.blk hk (g' := gb109) (o := .cells #[.string t102, .int .i64 t103, .int .i64 t104, .int .i64 t105, .int .i64 t106] 55 (0, 0)) (zq4 BK109) NB109_0.out (by simp)); replace HO133 := zA (Kd.R_mono (Kd.R_keep (IsS63.apart (show IsS63 w0 _ g s0_0 t111 t112 from by repeat (first | (with_reducible first | exact HI0.out | apply IsS63.alloc | apply IsS63.drewN | apply IsS63.drew | apply zaz | apply za0 | refine ze3 ?_ NB0_101.out _ | refine ze3 ?_ NB0_109.out _) | exact HI0.out)) (zq2 HO133) (by decide)) hk (fun _ h => h.2)) (fun _ h => h.1)); replace HK := zA (KeepBut.trans (zq11 GW101 GW109) hk (.inl rfl)); replace HB := zA (hb); replace HI0 := zA (hi); (try clear hb); (try clear hk); (try clear hi); obtain ⟨hcz65_0, hcz65_1, hcz65_2, hcz65_3, hcz65_4⟩ := zc5 w64 (.string t102) (.int .i64 t103) (.int .i64 t104) (.int .i64 t105) (.int .i64 t106) BK109.out; obtain ⟨hfz65_0, hfz65_1, hfz65_2, hfz65_3, hfz65_4⟩ := zf5 BK109.out; have hnb66 := NB101_0.out; have hnc66 := NB0_101.out; obtain ⟨hcz67_0, hcz67_1, hcz67_2, hcz67_3, hcz67_4⟩ := zc5 w64 (.string (⟨#[]⟩ : ByteArray)) (.int .i64 0) (.int .i64 0) (.int .i64 0) (.int .i64 0) BK101.out; obtain ⟨hfz67_0, hfz67_1, hfz67_2, hfz67_3, hfz67_4⟩ := zf5 BK101.out))
   refine bodyPost_ret (results_cell_row rfl _ _ gb101 55 #[.string t102, .int .i64 t103, .int .i64 t104, .int .i64 t105, .int .i64 t134] (0, 0) _ rfl (by (with_reducible repeat (first | refine zkn ?_ _ | refine zkd ?_ | refine zka ?_ _)); refine zaw (cs := #[.string t102, .int .i64 t103, .int .i64 t104, .int .i64 t105, .int .i64 0]) ?_ 4 _ rfl; (with_reducible repeat (first | refine zkn ?_ _ | refine zkd ?_ | refine zka ?_ _)); refine zaw (cs := #[.string t102, .int .i64 t103, .int .i64 t104, .int .i64 0, .int .i64 0]) ?_ 3 _ rfl; (with_reducible repeat (first | refine zkn ?_ _ | refine zkd ?_ | refine zka ?_ _)); refine zaw (cs := #[.string t102, .int .i64 t103, .int .i64 0, .int .i64 0, .int .i64 0]) ?_ 2 _ rfl; (with_reducible repeat (first | refine zkn ?_ _ | refine zkd ?_ | refine zka ?_ _)); refine zaw (cs := #[.string t102, .int .i64 0, .int .i64 0, .int .i64 0, .int .i64 0]) ?_ 1 _ rfl; (with_reducible repeat (first | refine zkn ?_ _ | refine zkd ?_ | refine zka ?_ _)); refine zaw (cs := #[.string (⟨#[]⟩ : ByteArray), .int .i64 0, .int .i64 0, .int .i64 0, .int .i64 0]) ?_ 0 _ rfl; (with_reducible repeat (first | refine zkn ?_ _ | refine zkd ?_ | refine zka ?_ _)); refine zav ?_ NB101_109.out _; (with_reducible repeat (first | refine zkn ?_ _ | refine zkd ?_ | refine zka ?_ _)); exact BK101.out) Tryz.underlying55 rfl zq27) rfl ?_
   exact ⟨zq5, zq12 HI0 NB0_101 NB0_109, zq13 HI0 GE101 GE109, zq11 GW101 GW109⟩
 rw [if_neg c52] at H
 obtain ⟨c52b0, c52b1⟩ := zbq c52
 by_cases c68 : t110 = 4
 rotate_left
 · rw [if_neg c68] at H
   obtain ⟨c68b0, c68b1⟩ := zbq c68
   simp only [Option.some.injEq, Prod.mk.injEq] at H
   obtain ⟨rfl, rfl, rfl, rfl, rfl, rfl, rfl⟩ := H
   go_wp2_with fail
   refine bodyPost_ret (results_cell_row rfl _ _ gb101 55 #[.string t102, .int .i64 t103, .int .i64 t104, .int .i64 t105, .int .i64 t106] (0, 0) _ rfl (zq32 BK101) Tryz.underlying55 rfl zq27) rfl ?_
   exact ⟨zq5, zq12 HI0 NB0_101 NB0_109, zq13 HI0 GE101 GE109, zq11 GW101 GW109⟩
 rw [if_pos c68] at H
 obtain ⟨c68b0, c68b1⟩ := zbe c68
 clear c68
 obtain ⟨y137, hy137⟩ : ∃ y_ : List ByteArray, y_ = (([(⟨#[]⟩ : ByteArray), (⟨#[99, 111, 110, 115, 116]⟩ : ByteArray), (⟨#[110, 111, 112]⟩ : ByteArray), (⟨#[115, 101, 116]⟩ : ByteArray), (⟨#[108, 101, 97]⟩ : ByteArray)] : List ByteArray)) := ⟨_, rfl⟩
 rw [← hy137] at H; try with_reducible replace H := zbs H
 have Ny137 := zA hy137
 clear hy137
 replace H := zob H
 obtain ⟨⟨t140, t141, t142⟩, A690, H⟩ := H
 have A69 := zA A690
 clear A690
 simp only [Option.some.injEq, Prod.mk.injEq] at H
 obtain ⟨rfl, rfl, rfl, rfl, rfl, rfl, rfl⟩ := H
 go_wp2_with (first | ((with_reducible refine zgd 35 ?_); refine Kd.R_lit Kd.string _ 9 ?hg (N := 35) ?hd (xs := ([(⟨#[]⟩ : ByteArray), (⟨#[99, 111, 110, 115, 116]⟩ : ByteArray), (⟨#[110, 111, 112]⟩ : ByteArray), (⟨#[115, 101, 116]⟩ : ByteArray), (⟨#[108, 101, 97]⟩ : ByteArray)] : List ByteArray)) (inner := [.string (⟨#[]⟩ : ByteArray), .string (⟨#[99, 111, 110, 115, 116]⟩ : ByteArray), .string (⟨#[110, 111, 112]⟩ : ByteArray), .string (⟨#[115, 101, 116]⟩ : ByteArray), .string (⟨#[108, 101, 97]⟩ : ByteArray)]) (ok := fun _ => True) (okp := fun _ => True) ?hr ?hp (fun _ hk => hk) trivial (Below.refl _ _) (zlr _) (by simp) ?_; (case hd => rfl); (case hg => rfl); (case hr => go_simp <;> rfl); (case hp => exact (zak (show Kd.M Kd.string _ _ _ (⟨#[]⟩ : ByteArray) [.string (⟨#[]⟩ : ByteArray)] from rfl) (zak (show Kd.M Kd.string _ _ _ (⟨#[99, 111, 110, 115, 116]⟩ : ByteArray) [.string (⟨#[99, 111, 110, 115, 116]⟩ : ByteArray)] from rfl) (zak (show Kd.M Kd.string _ _ _ (⟨#[110, 111, 112]⟩ : ByteArray) [.string (⟨#[110, 111, 112]⟩ : ByteArray)] from rfl) (zak (show Kd.M Kd.string _ _ _ (⟨#[115, 101, 116]⟩ : ByteArray) [.string (⟨#[115, 101, 116]⟩ : ByteArray)] from rfl) (zak (show Kd.M Kd.string _ _ _ (⟨#[108, 101, 97]⟩ : ByteArray) [.string (⟨#[108, 101, 97]⟩ : ByteArray)] from rfl) (Reps.none _ _))))))); intro v138 w77 ho78 hb hg_ hnew_; clear hg_ hnew_; (first | rw [← Ny137.out] at ho78 | (simp only [Int.reduceToNat] at ho78; rw [← Ny137.out] at ho78)); have HO139 := zA (Kd.R_lower ho78 (zfw (w := w) (g := g) (row := none) (zq11 GW101 GW109))); replace BK101 := zbb BK101 hb; replace BK109 := zbb BK109 hb; replace HK := zA (KeepBut.trans (zq11 GW101 GW109) (zcn hb g none) (.inl rfl)); replace HB := zA (zac (zq13 HI0 GE101 GE109) hb); replace HI0 := zA (IsS63.below (zq12 HI0 NB0_101 NB0_109) hb); clear hb ho78; obtain ⟨Ao79, co79, eo79⟩ := Kd.R_slice HO139.out; subst eo79) | ((with_reducible refine zgc 153 ?_); refine zca 36 Tryz.func153 #[.pointer (some ⟨g, 0, none⟩), .slice Ao79 y137.length co79] (zl7 g s0_0 t111 t112 _ _ y137 t140 t141 t142 w0 _ (zq12 HI0 NB0_101 NB0_109) (zq13 HI0 GE101 GE109) (zq18 HO139) (zq43 HO139) (zq45 HI0 HO139) A69.out) ?_; rintro e w80 ⟨rfl, hi, hb, hk⟩; refine ⟨_, rfl, ?_⟩; replace BK101 := zA (KeepBut.blk hk (g' := gb101) (o := .cells #[.string (⟨#[]⟩ : ByteArray), .int .i64 0, .int .i64 0, .int .i64 0, .int .i64 0] 55 (0, 0)) (zq4 BK101) NB101_0.out (by simp)); replace BK109 := zA (KeepBut.blk hk (g' := gb109) (o := .cells #[.string t102, .int .i64 t103, .int .i64 t104, .int .i64 t105, .int .i64 t106] 55 (0, 0)) (zq4 BK109) NB109_0.out (by simp)); replace HO139 := zA (Kd.R_mono (Kd.R_keep (IsS63.apart (show IsS63 w0 _ g s0_0 t111 t112 from by repeat (first | (with_reducible first | exact HI0.out | apply IsS63.alloc | apply IsS63.drewN | apply IsS63.drew | apply zaz | apply za0 | refine ze3 ?_ NB0_101.out _ | refine ze3 ?_ NB0_109.out _) | exact HI0.out)) (zq2 HO139) (by decide)) hk (fun _ h => h.2)) (fun _ h => h.1)); replace HK := zA (KeepBut.trans (zq11 GW101 GW109) hk (.inl rfl)); replace HB := zA (hb); replace HI0 := zA (hi); (try clear hb); (try clear hk); (try clear hi); obtain ⟨hcz81_0, hcz81_1, hcz81_2, hcz81_3, hcz81_4⟩ := zc5 w80 (.string t102) (.int .i64 t103) (.int .i64 t104) (.int .i64 t105) (.int .i64 t106) BK109.out; obtain ⟨hfz81_0, hfz81_1, hfz81_2, hfz81_3, hfz81_4⟩ := zf5 BK109.out; have hnb82 := NB101_0.out; have hnc82 := NB0_101.out; obtain ⟨hcz83_0, hcz83_1, hcz83_2, hcz83_3, hcz83_4⟩ := zc5 w80 (.string (⟨#[]⟩ : ByteArray)) (.int .i64 0) (.int .i64 0) (.int .i64 0) (.int .i64 0) BK101.out; obtain ⟨hfz83_0, hfz83_1, hfz83_2, hfz83_3, hfz83_4⟩ := zf5 BK101.out))
 refine bodyPost_ret (results_cell_row rfl _ _ gb101 55 #[.string t140, .int .i64 t103, .int .i64 t104, .int .i64 t105, .int .i64 t106] (0, 0) _ rfl (by (with_reducible repeat (first | refine zkn ?_ _ | refine zkd ?_ | refine zka ?_ _)); refine zaw (cs := #[.string t140, .int .i64 t103, .int .i64 t104, .int .i64 t105, .int .i64 0]) ?_ 4 _ rfl; (with_reducible repeat (first | refine zkn ?_ _ | refine zkd ?_ | refine zka ?_ _)); refine zaw (cs := #[.string t140, .int .i64 t103, .int .i64 t104, .int .i64 0, .int .i64 0]) ?_ 3 _ rfl; (with_reducible repeat (first | refine zkn ?_ _ | refine zkd ?_ | refine zka ?_ _)); refine zaw (cs := #[.string t140, .int .i64 t103, .int .i64 0, .int .i64 0, .int .i64 0]) ?_ 2 _ rfl; (with_reducible repeat (first | refine zkn ?_ _ | refine zkd ?_ | refine zka ?_ _)); refine zaw (cs := #[.string t140, .int .i64 0, .int .i64 0, .int .i64 0, .int .i64 0]) ?_ 1 _ rfl; (with_reducible repeat (first | refine zkn ?_ _ | refine zkd ?_ | refine zka ?_ _)); refine zaw (cs := #[.string (⟨#[]⟩ : ByteArray), .int .i64 0, .int .i64 0, .int .i64 0, .int .i64 0]) ?_ 0 _ rfl; (with_reducible repeat (first | refine zkn ?_ _ | refine zkd ?_ | refine zka ?_ _)); refine zav ?_ NB101_109.out _; (with_reducible repeat (first | refine zkn ?_ _ | refine zkd ?_ | refine zka ?_ _)); exact BK101.out) Tryz.underlying55 rfl zq27) rfl ?_
 exact ⟨zq5, zq12 HI0 NB0_101 NB0_109, zq13 HI0 GE101 GE109, zq11 GW101 GW109⟩
def zcm : Nat → Int → List (S55) → Int → List Int → Int → Int → Option ((List (S55)) × Int × Int)
 | 0, _, _, _, _, _, _ => none
 | k + 1, x2, x7, x8, x1000, x1001, x1002 => if x8 > 0 then ((zdp k x1000 x1001 x1002 x2).bind fun bt104 => (if x7.length < 2932031007402 then (zcm k x2 (x7 ++ [(⟨bt104.1, bt104.2.1, bt104.2.2.1, bt104.2.2.2.1, bt104.2.2.2.2.1⟩ : S55)]) (wrap64 (x8 - 1)) x1000 bt104.2.2.2.2.2.1 bt104.2.2.2.2.2.2) else (none))) else (some (x7, x1001, x1002))
def zec (k : Nat) (s0_0 : List Int) (s0_1 : Int) (s0_2 : Int) (a1 : Int) (a2 : Int) : Option ((List (S55)) × Int × Int) := (zbk s0_0 s0_1 s0_2 (wrap64 (a1 + 1))).bind fun bt101 => (zcm k a2 ([] : List (S55)) bt101.1 s0_0 bt101.2.1 bt101.2.2)
theorem zj8 : ∀ k, (∀ y0 y1 y2 y3 y4 y5, LeO (zcm k y0 y1 y2 y3 y4 y5) (zcm (k + 1) y0 y1 y2 y3 y4 y5))
 | 0 => fun _ _ _ _ _ _ r h => by simp [zcm] at h
 | k + 1 => by
   have ih0 := zj8 k
   · intro y0 y1 y2 y3 y4 y5
     unfold zcm
     exact zm2 ih0 zgi
theorem ziv : ∀ a0 a1 a2 a3 a4 k, LeO (zec k a0 a1 a2 a3 a4) (zec (k + 1) a0 a1 a2 a3 a4) := by
 intro a0 a1 a2 a3 a4 k
 have ih0 := zj8 k
 unfold zec
 exact zm2 ih0 zgi
theorem zha (k : Nat) (g : Nat) (s0_0 : List Int) (s0_1 : Int) (s0_2 : Int) (a1 : Int) (a2 : Int) (r1 : List (S55)) (r2 : Int) (r3 : Int) (w0 w : World) (hI : IsS63 w0 w g s0_0 s0_1 s0_2) (hB : Below w0.heap.size w0 w) (h : zec k s0_0 s0_1 s0_2 a1 a2 = some (r1, r2, r3)) :
   Calls Tryz.prog 116 #[.pointer (some ⟨g, 0, none⟩), .int .i64 a1, .int .i64 a2] w fun e w' => ∃ v0_ : Value, e = .returned (v0_) ∧ Kd.R k55 55 w' w.heap.size (fun _ => True) v0_ r1 ∧ IsS63 w0 w' g s0_0 r2 r3 ∧ Below w0.heap.size w0 w' ∧ KeepBut w w' g none := by
 have HI0 := zA hI
 have HK := zA (KeepBut.refl w g none)
 have HL := zA hB.size
 clear hI
 have HW0 := zA hB.size
 have HB := zA hB
 clear hB
 have H := h
 unfold zec at H
 clear h
 replace H := zob H
 obtain ⟨⟨t101, t102, t103⟩, A40, H⟩ := H
 have A4 := zA A40
 clear A40
 have H' := zA H
 clear H
 go_enter Tryz.func116, Tryz.ntmps116
 go_wp2_with (first | ((with_reducible refine zgc 98 ?_); refine zca 12 Tryz.func98 #[.pointer (some ⟨g, 0, none⟩), .int .i64 (wrap64 (a1 + 1))] (zau g s0_0 s0_1 s0_2 (wrap64 (a1 + 1)) t101 t102 t103 w0 _ (zq3 HI0) (zq6 HI0) A4.out) ?_; rintro e w5 ⟨rfl, hi, hb, hk⟩; refine ⟨_, rfl, ?_⟩; replace HK := zA (KeepBut.trans zq7 hk (.inl rfl)); replace HB := zA (hb); replace HI0 := zA (hi); (try clear hb); (try clear hk); (try clear hi)))
 try go_simp
 go_loopg [7, 8] k (fun kq v7 v8 w' => ∃ (x7_1 : List (S55)) (x8_1 : Int) (x1001_1 : Int) (x1002_1 : Int), v8 = .int .i64 x8_1 ∧ Aside0 (zcm kq a2 x7_1 x8_1 s0_0 x1001_1 x1002_1 = some (r1, r2, r3)) ∧ Aside0 (kq ≤ k) ∧ Aside0 (Kd.R k55 55 w' w.heap.size (fun _ => True) v7 x7_1) ∧ Aside0 (IsS63 w0 w' g s0_0 x1001_1 x1002_1) ∧ Aside0 (KeepBut w w' g none) ∧ Aside0 (Below w0.heap.size w0 w'))
 case atStart => exact ⟨(([] : List (S55))), (t101), (t102), (t103), zq8, H', ⟨zlr _⟩, ⟨zq24⟩, ⟨zq3 HI0⟩, ⟨zq7⟩, ⟨zq6 HI0⟩⟩
 clear H'
 obtain ⟨x7_1, x8_1, x1001_1, x1002_1, rfl, HA, HK1, HO_7, HI0, HK, HB⟩ := hrel
 cases gk with
 | zero => exact absurd HA.out (by simp [zcm])
 | succ k1 =>
 have H := HA.out
 clear HA
 simp only [zcm] at H
 by_cases c6 : x8_1 > 0
 rotate_left
 · rw [if_neg c6] at H
   have c6b0 := zdf c6
   clear c6
   simp only [Option.some.injEq, Prod.mk.injEq] at H
   obtain ⟨rfl, rfl, rfl⟩ := H
   go_wp2
   go_ret
   exact ⟨_, zq5, zq2 HO_7, zq3 HI0, zq6 HI0, zq7⟩
 rw [if_pos c6] at H
 have c6b0 := zdt c6
 clear c6
 replace H := zob H
 obtain ⟨⟨t104, t105, t106, t107, t108, t109, t110⟩, A70, H⟩ := H
 have A7 := zA A70
 clear A70
 by_cases c8 : x7_1.length < 2932031007402
 rotate_left
 · rw [if_neg c8] at H
   exact absurd H (by simp)
 rw [if_pos c8] at H
 have LMc8 := zA c8
 clear c8
 obtain ⟨y111, hy111⟩ : ∃ y_ : List (S55), y_ = (x7_1 ++ [(⟨t104, t105, t106, t107, t108⟩ : S55)]) := ⟨_, rfl⟩
 rw [← hy111] at H; try with_reducible replace H := zbs H
 have Ny111 := zA hy111
 clear hy111
 have H' := zA H
 clear H
 go_wp2_with (first | ((with_reducible refine zgc 139 ?_); refine zca 20 Tryz.func139 #[.pointer (some ⟨g, 0, none⟩), .int .i64 a2] (zid k1 g s0_0 x1001_1 x1002_1 a2 t104 t105 t106 t107 t108 t109 t110 w0 _ (zq3 HI0) (zq6 HI0) A7.out) ?_; rintro e w9 ⟨rfl, hi, hb, hk⟩; refine ⟨_, rfl, ?_⟩; replace HO_7 := zA (Kd.R_mono (Kd.R_keep (IsS63.apart (show IsS63 w0 _ g s0_0 x1001_1 x1002_1 from by repeat (first | (with_reducible first | exact HI0.out | apply IsS63.alloc | apply IsS63.drewN | apply IsS63.drew | apply zaz | apply za0) | exact HI0.out)) (zq2 HO_7) (by decide)) hk (fun _ h => h.2)) (fun _ h => h.1)); replace HK := zA (KeepBut.trans zq7 hk (.inl rfl)); replace HB := zA (hb); replace HI0 := zA (hi); (try clear hb); (try clear hk); (try clear hi)) | ((with_reducible refine zc7 (b := .append) (xs := #[.tmp 17, .tmp 21]) rfl ?_); at_builtin; refine Kd.R_append k55 w.heap.size rfl (.tmp 17) (.tmp 21) 24 55 (.agg #[(.string ⟨#[]⟩), (.int .i64 0), (.int .i64 0), (.int .i64 0), (.int .i64 0)]) 48 rfl Tryz.underlying24 zrw rfl (by decide) (by omega) u7 x7_1 (⟨t104, t105, t106, t107, t108⟩ : S55) [.string t104, .int .i64 t105, .int .i64 t106, .int .i64 t107, .int .i64 t108] (fun _ => True) (fun _ => False) rfl rfl ?aP (fun _ hk => hk.elim) ?aF ?aO (Below.refl _ _) ?aS ?aL ?_; (case aP => exact ztn _ _ _ (⟨t104, t105, t106, t107, t108⟩ : S55)); (case aF => exact (fun _ _ => trivial)); (case aO => exact (zq2 HO_7)); (case aS => exact (zfw (w := w) (g := g) (row := none) zq7)); (case aL => have := LMc8.out; omega); intro v112 w10 ho hb hg hat; rw [← Ny111.out] at ho; replace HB := zA (zhz (zq6 HI0) HL.out hb); replace HI0 := zA (IsS63.grown (zq3 HI0) hg (zmr HI0.out HO_7.out (by decide))); replace HK := zA (KeepBut.trans zq7 (zjn hg g) (Kd.R_base2 HO_7.out)); have HO113 := zA (ho); clear HO_7; clear ho hb hg hat))
 go_roundg k1
 case measure => have := HK1.out; omega
 case rel => exact ⟨(y111), (wrap64 (x8_1 - 1)), (t109), (t110), zq8, H', ⟨zq46 HK1⟩, ⟨zq2 HO113⟩, ⟨zq3 HI0⟩, ⟨zq7⟩, ⟨zq6 HI0⟩⟩
def zb0 : Nat → List (S55) → List Int → Int → Int → Option ((List (S55)) × Int × Int)
 | 0, _, _, _, _ => none
 | k + 1, x5, x1000, x1001, x1002 => (zbk x1000 x1001 x1002 2).bind fun bt122 => (if (x5.length : Int) < (wrap64 (40 + bt122.1)) then ((zdp k x1000 bt122.2.1 bt122.2.2 3).bind fun bt125 => (if x5.length < 2932031007402 then (zb0 k (x5 ++ [(⟨bt125.1, bt125.2.1, bt125.2.2.1, bt125.2.2.2.1, bt125.2.2.2.2.1⟩ : S55)]) x1000 bt125.2.2.2.2.2.1 bt125.2.2.2.2.2.2) else (none))) else (some (x5, bt122.2.1, bt122.2.2)))
def zd7 (k : Nat) (s0_0 : List Int) (s0_1 : Int) (s0_2 : Int) (a1 : Int) : Option ((List (S55)) × Int × Int) := (zbk s0_0 s0_1 s0_2 5).bind fun bt101 => ((zec k s0_0 bt101.2.1 bt101.2.2 a1 (wrap64 (2 + bt101.1))).bind fun bt104 => ((zbk s0_0 bt104.2.1 bt104.2.2 14).bind fun bt109 => (if bt109.1 = 0 then ((zdr k s0_0 bt109.2.1 bt109.2.2).bind fun bt112 => (if bt104.1.length < 2932031007402 then (some ((bt104.1 ++ [(⟨bt112.1, bt112.2.1, bt112.2.2.1, bt112.2.2.2.1, bt112.2.2.2.2.1⟩ : S55)]), bt112.2.2.2.2.2.1, bt112.2.2.2.2.2.2)) else (none))) else (if bt109.1 = 1 then (zb0 k bt104.1 s0_0 bt109.2.1 bt109.2.2) else (some (bt104.1, bt109.2.1, bt109.2.2))))))
theorem zjf : ∀ k, (∀ y0 y1 y2 y3, LeO (zb0 k y0 y1 y2 y3) (zb0 (k + 1) y0 y1 y2 y3))
 | 0 => fun _ _ _ _ r h => by simp [zb0] at h
 | k + 1 => by
   have ih0 := zjf k
   · intro y0 y1 y2 y3
     unfold zb0
     exact zm4 ih0 zjy ziv zgi
theorem zny : ∀ a0 a1 a2 a3 k, LeO (zd7 k a0 a1 a2 a3) (zd7 (k + 1) a0 a1 a2 a3) := by
 intro a0 a1 a2 a3 k
 have ih0 := zjf k
 unfold zd7
 exact zm4 ih0 zjy ziv zgi
theorem zno (k : Nat) (g : Nat) (s0_0 : List Int) (s0_1 : Int) (s0_2 : Int) (a1 : Int) (r1 : List (S55)) (r2 : Int) (r3 : Int) (w0 w : World) (hI : IsS63 w0 w g s0_0 s0_1 s0_2) (hB : Below w0.heap.size w0 w) (h : zd7 k s0_0 s0_1 s0_2 a1 = some (r1, r2, r3)) :
   Calls Tryz.prog 115 #[.pointer (some ⟨g, 0, none⟩), .int .i64 a1] w fun e w' => ∃ v0_ : Value, e = .returned (v0_) ∧ Kd.R k55 55 w' w.heap.size (fun _ => True) v0_ r1 ∧ IsS63 w0 w' g s0_0 r2 r3 ∧ Below w0.heap.size w0 w' ∧ KeepBut w w' g none := by
 have HI0 := zA hI
 have HK := zA (KeepBut.refl w g none)
 have HL := zA hB.size
 clear hI
 have HW0 := zA hB.size
 have HB := zA hB
 clear hB
 have H := h
 unfold zd7 at H
 clear h
 replace H := zob H
 obtain ⟨⟨t101, t102, t103⟩, A30, H⟩ := H
 have A3 := zA A30
 clear A30
 replace H := zob H
 obtain ⟨⟨t104, t107, t108⟩, A40, H⟩ := H
 have A4 := zA A40
 clear A40
 replace H := zob H
 obtain ⟨⟨t109, t110, t111⟩, A50, H⟩ := H
 have A5 := zA A50
 clear A50
 by_cases c6 : t109 = 0
 · rw [if_pos c6] at H
   obtain ⟨c6b0, c6b1⟩ := zbe c6
   clear c6
   replace H := zob H
   obtain ⟨⟨t112, t113, t114, t115, t116, t117, t118⟩, A70, H⟩ := H
   have A7 := zA A70
   clear A70
   by_cases c8 : t104.length < 2932031007402
   rotate_left
   · rw [if_neg c8] at H
     exact absurd H (by simp)
   rw [if_pos c8] at H
   have LMc8 := zA c8
   clear c8
   obtain ⟨y119, hy119⟩ : ∃ y_ : List (S55), y_ = (t104 ++ [(⟨t112, t113, t114, t115, t116⟩ : S55)]) := ⟨_, rfl⟩
   rw [← hy119] at H; try with_reducible replace H := zbs H
   have Ny119 := zA hy119
   clear hy119
   simp only [Option.some.injEq, Prod.mk.injEq] at H
   obtain ⟨rfl, rfl, rfl⟩ := H
   go_enter Tryz.func115, Tryz.ntmps115
   go_wp2_with (first | ((with_reducible refine zgc 98 ?_); refine zca 9 Tryz.func98 #[.pointer (some ⟨g, 0, none⟩), .int .i64 5] (zau g s0_0 s0_1 s0_2 5 t101 t102 t103 w0 _ (zq3 HI0) (zq6 HI0) A3.out) ?_; rintro e w9 ⟨rfl, hi, hb, hk⟩; refine ⟨_, rfl, ?_⟩; replace HK := zA (KeepBut.trans zq7 hk (.inl rfl)); replace HB := zA (hb); replace HI0 := zA (hi); (try clear hb); (try clear hk); (try clear hi)) | ((with_reducible refine zgc 116 ?_); refine zca 11 Tryz.func116 #[.pointer (some ⟨g, 0, none⟩), .int .i64 a1, .int .i64 (wrap64 (2 + t101))] (zha k g s0_0 t102 t103 a1 (wrap64 (2 + t101)) t104 t107 t108 w0 _ (zq3 HI0) (zq6 HI0) A4.out) ?_; rintro e w10 ⟨v105, rfl, ho0, hi, hb, hk⟩; refine ⟨_, rfl, ?_⟩; have HO106 := zA (Kd.R_lower ho0 (zfw (w := w) (g := g) (row := none) zq7)); replace HK := zA (KeepBut.trans zq7 hk (.inl rfl)); replace HB := zA (hb); replace HI0 := zA (hi); (try clear hb); (try clear hk); (try clear hi); (try clear ho0)) | ((with_reducible refine zgc 98 ?_); refine zca 13 Tryz.func98 #[.pointer (some ⟨g, 0, none⟩), .int .i64 14] (zau g s0_0 t107 t108 14 t109 t110 t111 w0 _ (zq3 HI0) (zq6 HI0) A5.out) ?_; rintro e w11 ⟨rfl, hi, hb, hk⟩; refine ⟨_, rfl, ?_⟩; replace HO106 := zA (Kd.R_mono (Kd.R_keep (IsS63.apart (show IsS63 w0 _ g s0_0 t107 t108 from by repeat (first | (with_reducible first | exact HI0.out | apply IsS63.alloc | apply IsS63.drewN | apply IsS63.drew | apply zaz | apply za0) | exact HI0.out)) (zq2 HO106) (by decide)) hk (fun _ h => h.2)) (fun _ h => h.1)); replace HK := zA (KeepBut.trans zq7 hk (.inl rfl)); replace HB := zA (hb); replace HI0 := zA (hi); (try clear hb); (try clear hk); (try clear hi)) | ((with_reducible refine zgc 138 ?_); refine zca 18 Tryz.func138 #[.pointer (some ⟨g, 0, none⟩)] (zm0 k g s0_0 t110 t111 t112 t113 t114 t115 t116 t117 t118 w0 _ (zq3 HI0) (zq6 HI0) A7.out) ?_; rintro e w12 ⟨rfl, hi, hb, hk⟩; refine ⟨_, rfl, ?_⟩; replace HO106 := zA (Kd.R_mono (Kd.R_keep (IsS63.apart (show IsS63 w0 _ g s0_0 t110 t111 from by repeat (first | (with_reducible first | exact HI0.out | apply IsS63.alloc | apply IsS63.drewN | apply IsS63.drew | apply zaz | apply za0) | exact HI0.out)) (zq2 HO106) (by decide)) hk (fun _ h => h.2)) (fun _ h => h.1)); replace HK := zA (KeepBut.trans zq7 hk (.inl rfl)); replace HB := zA (hb); replace HI0 := zA (hi); (try clear hb); (try clear hk); (try clear hi)) | ((with_reducible refine zc7 (b := .append) (xs := #[.tmp 16, .tmp 19]) rfl ?_); at_builtin; refine Kd.R_append k55 w.heap.size rfl (.tmp 16) (.tmp 19) 24 55 (.agg #[(.string ⟨#[]⟩), (.int .i64 0), (.int .i64 0), (.int .i64 0), (.int .i64 0)]) 48 rfl Tryz.underlying24 zrw rfl (by decide) (by omega) v105 t104 (⟨t112, t113, t114, t115, t116⟩ : S55) [.string t112, .int .i64 t113, .int .i64 t114, .int .i64 t115, .int .i64 t116] (fun _ => True) (fun _ => False) rfl rfl ?aP (fun _ hk => hk.elim) ?aF ?aO (Below.refl _ _) ?aS ?aL ?_; (case aP => exact ztn _ _ _ (⟨t112, t113, t114, t115, t116⟩ : S55)); (case aF => exact (fun _ _ => trivial)); (case aO => exact (zq2 HO106)); (case aS => exact (zfw (w := w) (g := g) (row := none) zq7)); (case aL => have := LMc8.out; omega); intro v120 w13 ho hb hg hat; rw [← Ny119.out] at ho; replace HB := zA (zhz (zq6 HI0) HL.out hb); replace HI0 := zA (IsS63.grown (zq3 HI0) hg (zmr HI0.out HO106.out (by decide))); replace HK := zA (KeepBut.trans zq7 (zjn hg g) (Kd.R_base2 HO106.out)); have HO121 := zA (ho); clear HO106; clear ho hb hg hat))
   go_ret
   exact ⟨_, zq5, zq2 HO121, zq3 HI0, zq6 HI0, zq7⟩
 rw [if_neg c6] at H
 obtain ⟨c6b0, c6b1⟩ := zbq c6
 by_cases c14 : t109 = 1
 rotate_left
 · rw [if_neg c14] at H
   obtain ⟨c14b0, c14b1⟩ := zbq c14
   simp only [Option.some.injEq, Prod.mk.injEq] at H
   obtain ⟨rfl, rfl, rfl⟩ := H
   go_enter Tryz.func115, Tryz.ntmps115
   go_wp2_with (first | ((with_reducible refine zgc 98 ?_); refine zca 9 Tryz.func98 #[.pointer (some ⟨g, 0, none⟩), .int .i64 5] (zau g s0_0 s0_1 s0_2 5 t101 t102 t103 w0 _ (zq3 HI0) (zq6 HI0) A3.out) ?_; rintro e w28 ⟨rfl, hi, hb, hk⟩; refine ⟨_, rfl, ?_⟩; replace HK := zA (KeepBut.trans zq7 hk (.inl rfl)); replace HB := zA (hb); replace HI0 := zA (hi); (try clear hb); (try clear hk); (try clear hi)) | ((with_reducible refine zgc 116 ?_); refine zca 11 Tryz.func116 #[.pointer (some ⟨g, 0, none⟩), .int .i64 a1, .int .i64 (wrap64 (2 + t101))] (zha k g s0_0 t102 t103 a1 (wrap64 (2 + t101)) t104 t107 t108 w0 _ (zq3 HI0) (zq6 HI0) A4.out) ?_; rintro e w29 ⟨v105, rfl, ho0, hi, hb, hk⟩; refine ⟨_, rfl, ?_⟩; have HO106 := zA (Kd.R_lower ho0 (zfw (w := w) (g := g) (row := none) zq7)); replace HK := zA (KeepBut.trans zq7 hk (.inl rfl)); replace HB := zA (hb); replace HI0 := zA (hi); (try clear hb); (try clear hk); (try clear hi); (try clear ho0)) | ((with_reducible refine zgc 98 ?_); refine zca 13 Tryz.func98 #[.pointer (some ⟨g, 0, none⟩), .int .i64 14] (zau g s0_0 t107 t108 14 t109 t110 t111 w0 _ (zq3 HI0) (zq6 HI0) A5.out) ?_; rintro e w30 ⟨rfl, hi, hb, hk⟩; refine ⟨_, rfl, ?_⟩; replace HO106 := zA (Kd.R_mono (Kd.R_keep (IsS63.apart (show IsS63 w0 _ g s0_0 t107 t108 from by repeat (first | (with_reducible first | exact HI0.out | apply IsS63.alloc | apply IsS63.drewN | apply IsS63.drew | apply zaz | apply za0) | exact HI0.out)) (zq2 HO106) (by decide)) hk (fun _ h => h.2)) (fun _ h => h.1)); replace HK := zA (KeepBut.trans zq7 hk (.inl rfl)); replace HB := zA (hb); replace HI0 := zA (hi); (try clear hb); (try clear hk); (try clear hi)))
   go_ret
   exact ⟨_, zq5, zq2 HO106, zq3 HI0, zq6 HI0, zq7⟩
 rw [if_pos c14] at H
 obtain ⟨c14b0, c14b1⟩ := zbe c14
 clear c14
 have H' := zA H
 clear H
 go_enter Tryz.func115, Tryz.ntmps115
 go_wp2_with (first | ((with_reducible refine zgc 98 ?_); refine zca 9 Tryz.func98 #[.pointer (some ⟨g, 0, none⟩), .int .i64 5] (zau g s0_0 s0_1 s0_2 5 t101 t102 t103 w0 _ (zq3 HI0) (zq6 HI0) A3.out) ?_; rintro e w15 ⟨rfl, hi, hb, hk⟩; refine ⟨_, rfl, ?_⟩; replace HK := zA (KeepBut.trans zq7 hk (.inl rfl)); replace HB := zA (hb); replace HI0 := zA (hi); (try clear hb); (try clear hk); (try clear hi)) | ((with_reducible refine zgc 116 ?_); refine zca 11 Tryz.func116 #[.pointer (some ⟨g, 0, none⟩), .int .i64 a1, .int .i64 (wrap64 (2 + t101))] (zha k g s0_0 t102 t103 a1 (wrap64 (2 + t101)) t104 t107 t108 w0 _ (zq3 HI0) (zq6 HI0) A4.out) ?_; rintro e w16 ⟨v105, rfl, ho0, hi, hb, hk⟩; refine ⟨_, rfl, ?_⟩; have HO106 := zA (Kd.R_lower ho0 (zfw (w := w) (g := g) (row := none) zq7)); replace HK := zA (KeepBut.trans zq7 hk (.inl rfl)); replace HB := zA (hb); replace HI0 := zA (hi); (try clear hb); (try clear hk); (try clear hi); (try clear ho0)) | ((with_reducible refine zgc 98 ?_); refine zca 13 Tryz.func98 #[.pointer (some ⟨g, 0, none⟩), .int .i64 14] (zau g s0_0 t107 t108 14 t109 t110 t111 w0 _ (zq3 HI0) (zq6 HI0) A5.out) ?_; rintro e w17 ⟨rfl, hi, hb, hk⟩; refine ⟨_, rfl, ?_⟩; replace HO106 := zA (Kd.R_mono (Kd.R_keep (IsS63.apart (show IsS63 w0 _ g s0_0 t107 t108 from by repeat (first | (with_reducible first | exact HI0.out | apply IsS63.alloc | apply IsS63.drewN | apply IsS63.drew | apply zaz | apply za0) | exact HI0.out)) (zq2 HO106) (by decide)) hk (fun _ h => h.2)) (fun _ h => h.1)); replace HK := zA (KeepBut.trans zq7 hk (.inl rfl)); replace HB := zA (hb); replace HI0 := zA (hi); (try clear hb); (try clear hk); (try clear hi)))
 try go_simp
 go_loopg [5] k (fun kq v5 w' => ∃ (x5_1 : List (S55)) (x1001_1 : Int) (x1002_1 : Int), Aside0 (zb0 kq x5_1 s0_0 x1001_1 x1002_1 = some (r1, r2, r3)) ∧ Aside0 (kq ≤ k) ∧ Aside0 (Kd.R k55 55 w' w.heap.size (fun _ => True) v5 x5_1) ∧ Aside0 (IsS63 w0 w' g s0_0 x1001_1 x1002_1) ∧ Aside0 (KeepBut w w' g none) ∧ Aside0 (Below w0.heap.size w0 w'))
 case atStart => exact ⟨(t104), (t110), (t111), H', ⟨zlr _⟩, ⟨zq2 HO106⟩, ⟨zq3 HI0⟩, ⟨zq7⟩, ⟨zq6 HI0⟩⟩
 clear H'
 obtain ⟨x5_1, x1001_1, x1002_1, HA, HK1, HO_5, HI0, HK, HB⟩ := hrel
 cases gk with
 | zero => exact absurd HA.out (by simp [zb0])
 | succ k1 =>
 have H := HA.out
 clear HA
 simp only [zb0] at H
 replace H := zob H
 obtain ⟨⟨t122, t123, t124⟩, A180, H⟩ := H
 have A18 := zA A180
 clear A180
 revert H
 refine zit (fun c19 H => ?_) fun c19 H => ?_
 rotate_left
 · simp only [Option.some.injEq, Prod.mk.injEq] at H
   obtain ⟨rfl, rfl, rfl⟩ := H
   obtain ⟨Ao26, co26, eo26⟩ := Kd.R_slice HO_5.out
   subst eo26
   go_wp2_with (first | ((with_reducible refine zgc 98 ?_); refine zca 26 Tryz.func98 #[.pointer (some ⟨g, 0, none⟩), .int .i64 2] (zau g s0_0 x1001_1 x1002_1 2 t122 t123 t124 w0 _ (zq3 HI0) (zq6 HI0) A18.out) ?_; rintro e w27 ⟨rfl, hi, hb, hk⟩; refine ⟨_, rfl, ?_⟩; replace HO_5 := zA (Kd.R_mono (Kd.R_keep (IsS63.apart (show IsS63 w0 _ g s0_0 x1001_1 x1002_1 from by repeat (first | (with_reducible first | exact HI0.out | apply IsS63.alloc | apply IsS63.drewN | apply IsS63.drew | apply zaz | apply za0) | exact HI0.out)) (zq2 HO_5) (by decide)) hk (fun _ h => h.2)) (fun _ h => h.1)); replace HK := zA (KeepBut.trans zq7 hk (.inl rfl)); replace HB := zA (hb); replace HI0 := zA (hi); (try clear hb); (try clear hk); (try clear hi)))
   go_ret
   exact ⟨_, zq5, zq2 HO_5, zq3 HI0, zq6 HI0, zq7⟩
 replace H := zob H
 obtain ⟨⟨t125, t126, t127, t128, t129, t130, t131⟩, A200, H⟩ := H
 have A20 := zA A200
 clear A200
 by_cases c21 : x5_1.length < 2932031007402
 rotate_left
 · rw [if_neg c21] at H
   exact absurd H (by simp)
 rw [if_pos c21] at H
 have LMc21 := zA c21
 clear c21
 obtain ⟨y132, hy132⟩ : ∃ y_ : List (S55), y_ = (x5_1 ++ [(⟨t125, t126, t127, t128, t129⟩ : S55)]) := ⟨_, rfl⟩
 rw [← hy132] at H; try with_reducible replace H := zbs H
 have Ny132 := zA hy132
 clear hy132
 have H' := zA H
 clear H
 obtain ⟨Ao22, co22, eo22⟩ := Kd.R_slice HO_5.out
 subst eo22
 go_wp2_with (first | ((with_reducible refine zgc 98 ?_); refine zca 26 Tryz.func98 #[.pointer (some ⟨g, 0, none⟩), .int .i64 2] (zau g s0_0 x1001_1 x1002_1 2 t122 t123 t124 w0 _ (zq3 HI0) (zq6 HI0) A18.out) ?_; rintro e w23 ⟨rfl, hi, hb, hk⟩; refine ⟨_, rfl, ?_⟩; replace HO_5 := zA (Kd.R_mono (Kd.R_keep (IsS63.apart (show IsS63 w0 _ g s0_0 x1001_1 x1002_1 from by repeat (first | (with_reducible first | exact HI0.out | apply IsS63.alloc | apply IsS63.drewN | apply IsS63.drew | apply zaz | apply za0) | exact HI0.out)) (zq2 HO_5) (by decide)) hk (fun _ h => h.2)) (fun _ h => h.1)); replace HK := zA (KeepBut.trans zq7 hk (.inl rfl)); replace HB := zA (hb); replace HI0 := zA (hi); (try clear hb); (try clear hk); (try clear hi)) | ((with_reducible refine zgc 139 ?_); refine zca 31 Tryz.func139 #[.pointer (some ⟨g, 0, none⟩), .int .i64 3] (zid k1 g s0_0 t123 t124 3 t125 t126 t127 t128 t129 t130 t131 w0 _ (zq3 HI0) (zq6 HI0) A20.out) ?_; rintro e w24 ⟨rfl, hi, hb, hk⟩; refine ⟨_, rfl, ?_⟩; replace HO_5 := zA (Kd.R_mono (Kd.R_keep (IsS63.apart (show IsS63 w0 _ g s0_0 t123 t124 from by repeat (first | (with_reducible first | exact HI0.out | apply IsS63.alloc | apply IsS63.drewN | apply IsS63.drew | apply zaz | apply za0) | exact HI0.out)) (zq2 HO_5) (by decide)) hk (fun _ h => h.2)) (fun _ h => h.1)); replace HK := zA (KeepBut.trans zq7 hk (.inl rfl)); replace HB := zA (hb); replace HI0 := zA (hi); (try clear hb); (try clear hk); (try clear hi)) | ((with_reducible refine zc7 (b := .append) (xs := #[.tmp 29, .tmp 32]) rfl ?_); at_builtin; refine Kd.R_append k55 w.heap.size rfl (.tmp 29) (.tmp 32) 24 55 (.agg #[(.string ⟨#[]⟩), (.int .i64 0), (.int .i64 0), (.int .i64 0), (.int .i64 0)]) 48 rfl Tryz.underlying24 zrw rfl (by decide) (by omega) (.slice Ao22 x5_1.length co22) x5_1 (⟨t125, t126, t127, t128, t129⟩ : S55) [.string t125, .int .i64 t126, .int .i64 t127, .int .i64 t128, .int .i64 t129] (fun _ => True) (fun _ => False) rfl rfl ?aP (fun _ hk => hk.elim) ?aF ?aO (Below.refl _ _) ?aS ?aL ?_; (case aP => exact ztn _ _ _ (⟨t125, t126, t127, t128, t129⟩ : S55)); (case aF => exact (fun _ _ => trivial)); (case aO => exact (zq2 HO_5)); (case aS => exact (zfw (w := w) (g := g) (row := none) zq7)); (case aL => have := LMc21.out; omega); intro v133 w25 ho hb hg hat; rw [← Ny132.out] at ho; replace HB := zA (zhz (zq6 HI0) HL.out hb); replace HI0 := zA (IsS63.grown (zq3 HI0) hg (zmr HI0.out HO_5.out (by decide))); replace HK := zA (KeepBut.trans zq7 (zjn hg g) (Kd.R_base2 HO_5.out)); have HO134 := zA (ho); clear HO_5; clear ho hb hg hat))
 go_roundg k1
 case measure => have := HK1.out; omega
 case rel => exact ⟨(y132), (t130), (t131), H', ⟨zq46 HK1⟩, ⟨zq2 HO134⟩, ⟨zq3 HI0⟩, ⟨zq7⟩, ⟨zq6 HI0⟩⟩
def zdc (k : Nat) (s0_0 : List Int) (s0_1 : Int) (s0_2 : Int) (a1 : Int) : Option ((List (S55)) × Int × Int) := (zgp s0_0 s0_1 s0_2 15).bind fun bt101 => (if bt101.1 = true then ((zd7 k s0_0 bt101.2.1 bt101.2.2 a1).bind fun bt104 => (some (bt104.1, bt104.2.1, bt104.2.2))) else ((zcj s0_0 bt101.2.1 bt101.2.2 (([3, 4, 6] : List Int))).bind fun bt112 => ((zec k s0_0 bt112.2.1 bt112.2.2 a1 bt112.1).bind fun bt115 => (some (bt115.1, bt115.2.1, bt115.2.2)))))
theorem zh3 : ∀ a0 a1 a2 a3 k, LeO (zdc k a0 a1 a2 a3) (zdc (k + 1) a0 a1 a2 a3) := by
 intro a0 a1 a2 a3 k
 unfold zdc
 exact zm2 zny ziv
theorem zjz (k : Nat) (g : Nat) (s0_0 : List Int) (s0_1 : Int) (s0_2 : Int) (a1 : Int) (r1 : List (S55)) (r2 : Int) (r3 : Int) (w0 w : World) (hI : IsS63 w0 w g s0_0 s0_1 s0_2) (hB : Below w0.heap.size w0 w) (h : zdc k s0_0 s0_1 s0_2 a1 = some (r1, r2, r3)) :
   Calls Tryz.prog 60 #[.pointer (some ⟨g, 0, none⟩), .int .i64 a1] w fun e w' => ∃ v0_ : Value, e = .returned (v0_) ∧ Kd.R k55 55 w' w.heap.size (fun _ => True) v0_ r1 ∧ IsS63 w0 w' g s0_0 r2 r3 ∧ Below w0.heap.size w0 w' ∧ KeepBut w w' g none := by
 have HI0 := zA hI
 have HK := zA (KeepBut.refl w g none)
 have HL := zA hB.size
 clear hI
 have HW0 := zA hB.size
 have HB := zA hB
 clear hB
 have H := h
 unfold zdc at H
 clear h
 replace H := zob H
 obtain ⟨⟨t101, t102, t103⟩, A30, H⟩ := H
 have A3 := zA A30
 clear A30
 by_cases c4 : t101 = true
 · subst c4
   replace H := zih H
   replace H := zob H
   obtain ⟨⟨t104, t107, t108⟩, A50, H⟩ := H
   have A5 := zA A50
   clear A50
   simp only [Option.some.injEq, Prod.mk.injEq] at H
   obtain ⟨rfl, rfl, rfl⟩ := H
   go_enter Tryz.func60, Tryz.ntmps60
   go_wp2_with (first | ((with_reducible refine zgc 96 ?_); refine zca 6 Tryz.func96 #[.pointer (some ⟨g, 0, none⟩), .int .i64 15] (zgt g s0_0 s0_1 s0_2 15 true t102 t103 w0 _ (zq3 HI0) (zq6 HI0) A3.out) ?_; rintro e w6 ⟨rfl, hi, hb, hk⟩; refine ⟨_, rfl, ?_⟩; replace HK := zA (KeepBut.trans zq7 hk (.inl rfl)); replace HB := zA (hb); replace HI0 := zA (hi); (try clear hb); (try clear hk); (try clear hi)) | ((with_reducible refine zgc 115 ?_); refine zca 9 Tryz.func115 #[.pointer (some ⟨g, 0, none⟩), .int .i64 a1] (zno k g s0_0 t102 t103 a1 t104 t107 t108 w0 _ (zq3 HI0) (zq6 HI0) A5.out) ?_; rintro e w7 ⟨v105, rfl, ho0, hi, hb, hk⟩; refine ⟨_, rfl, ?_⟩; have HO106 := zA (Kd.R_lower ho0 (zfw (w := w) (g := g) (row := none) zq7)); replace HK := zA (KeepBut.trans zq7 hk (.inl rfl)); replace HB := zA (hb); replace HI0 := zA (hi); (try clear hb); (try clear hk); (try clear hi); (try clear ho0)))
   go_ret
   exact ⟨_, zq5, zq2 HO106, zq3 HI0, zq6 HI0, zq7⟩
 replace c4 := zbf c4
 subst c4
 replace H := zif H
 obtain ⟨y109, hy109⟩ : ∃ y_ : List Int, y_ = (([3, 4, 6] : List Int)) := ⟨_, rfl⟩
 rw [← hy109] at H; try with_reducible replace H := zbs H
 have Ny109 := zA hy109
 clear hy109
 replace H := zob H
 obtain ⟨⟨t112, t113, t114⟩, A80, H⟩ := H
 have A8 := zA A80
 clear A80
 replace H := zob H
 obtain ⟨⟨t115, t118, t119⟩, A90, H⟩ := H
 have A9 := zA A90
 clear A90
 simp only [Option.some.injEq, Prod.mk.injEq] at H
 obtain ⟨rfl, rfl, rfl⟩ := H
 go_enter Tryz.func60, Tryz.ntmps60
 go_wp2_with (first | ((with_reducible refine zgc 96 ?_); refine zca 6 Tryz.func96 #[.pointer (some ⟨g, 0, none⟩), .int .i64 15] (zgt g s0_0 s0_1 s0_2 15 false t102 t103 w0 _ (zq3 HI0) (zq6 HI0) A3.out) ?_; rintro e w10 ⟨rfl, hi, hb, hk⟩; refine ⟨_, rfl, ?_⟩; replace HK := zA (KeepBut.trans zq7 hk (.inl rfl)); replace HB := zA (hb); replace HI0 := zA (hi); (try clear hb); (try clear hk); (try clear hi)) | ((with_reducible refine zgd 13 ?_); refine Kd.R_lit (Kd.int .i64) _ 3 ?hg (N := 13) ?hd (xs := ([3, 4, 6] : List Int)) (inner := [.int .i64 3, .int .i64 4, .int .i64 6]) (ok := fun _ => True) (okp := fun _ => True) ?hr ?hp (fun _ hk => hk) trivial (Below.refl _ _) (zlr _) (by simp) ?_; (case hd => rfl); (case hg => rfl); (case hr => go_simp <;> rfl); (case hp => exact (zak (show Kd.M (Kd.int .i64) _ _ _ 3 [.int .i64 3] from rfl) (zak (show Kd.M (Kd.int .i64) _ _ _ 4 [.int .i64 4] from rfl) (zak (show Kd.M (Kd.int .i64) _ _ _ 6 [.int .i64 6] from rfl) (Reps.none _ _))))); intro v110 w11 ho12 hb hg_ hnew_; clear hg_ hnew_; (first | rw [← Ny109.out] at ho12 | (simp only [Int.reduceToNat] at ho12; rw [← Ny109.out] at ho12)); have HO111 := zA (Kd.R_lower ho12 (zfw (w := w) (g := g) (row := none) zq7)); replace HK := zA (KeepBut.trans zq7 (zcn hb g none) (.inl rfl)); replace HB := zA (zac (zq6 HI0) hb); replace HI0 := zA (IsS63.below (zq3 HI0) hb); clear hb ho12; obtain ⟨Ao13, co13, eo13⟩ := Kd.R_slice HO111.out; subst eo13) | ((with_reducible refine zgc 61 ?_); refine zca 14 Tryz.func61 #[.pointer (some ⟨g, 0, none⟩), .slice Ao13 y109.length co13] (zcu g s0_0 t102 t103 _ _ y109 t112 t113 t114 w0 _ (zq3 HI0) (zq6 HI0) (zq18 HO111) (zq43 HO111) (zq45 HI0 HO111) A8.out) ?_; rintro e w14 ⟨rfl, hi, hb, hk⟩; refine ⟨_, rfl, ?_⟩; replace HO111 := zA (Kd.R_mono (Kd.R_keep (IsS63.apart (show IsS63 w0 _ g s0_0 t102 t103 from by repeat (first | (with_reducible first | exact HI0.out | apply IsS63.alloc | apply IsS63.drewN | apply IsS63.drew | apply zaz | apply za0) | exact HI0.out)) (zq2 HO111) (by decide)) hk (fun _ h => h.2)) (fun _ h => h.1)); replace HK := zA (KeepBut.trans zq7 hk (.inl rfl)); replace HB := zA (hb); replace HI0 := zA (hi); (try clear hb); (try clear hk); (try clear hi)) | ((with_reducible refine zgc 116 ?_); refine zca 15 Tryz.func116 #[.pointer (some ⟨g, 0, none⟩), .int .i64 a1, .int .i64 t112] (zha k g s0_0 t113 t114 a1 t112 t115 t118 t119 w0 _ (zq3 HI0) (zq6 HI0) A9.out) ?_; rintro e w15 ⟨v116, rfl, ho0, hi, hb, hk⟩; refine ⟨_, rfl, ?_⟩; replace HO111 := zA (Kd.R_mono (Kd.R_keep (IsS63.apart (show IsS63 w0 _ g s0_0 t113 t114 from by repeat (first | (with_reducible first | exact HI0.out | apply IsS63.alloc | apply IsS63.drewN | apply IsS63.drew | apply zaz | apply za0) | exact HI0.out)) (zq2 HO111) (by decide)) hk (fun _ h => h.2)) (fun _ h => h.1)); have HO117 := zA (Kd.R_lower ho0 (zfw (w := w) (g := g) (row := none) zq7)); replace HK := zA (KeepBut.trans zq7 hk (.inl rfl)); replace HB := zA (hb); replace HI0 := zA (hi); (try clear hb); (try clear hk); (try clear hi); (try clear ho0)))
 go_ret
 exact ⟨_, zq5, zq2 HO117, zq3 HI0, zq6 HI0, zq7⟩
def zc4 (k : Nat) (l0 : List Int) : Option ((List (S55)) × Int) := (zcj l0 0 0 (([3, 5, 6, 7, 8] : List Int))).bind fun bt105 => ((zdc k l0 bt105.2.1 bt105.2.2 bt105.1).bind fun bt108 => ((zcj l0 bt108.2.1 bt108.2.2 (([1, 1, 2, 2, 3, 4, 0] : List Int))).bind fun bt116 => (some (bt108.1, bt116.1))))
theorem zsw : ∀ a0 k, LeO (zc4 k a0) (zc4 (k + 1) a0) := by
 intro a0 k
 unfold zc4
 exact zm1 zh3
theorem zl8 (k : Nat) (A0 : Option Addr) (c0 : Nat) (l0 : List Int) (r1 : List (S55)) (r2 : Int) (w : World) (hr0 : Kd.C (Kd.int .u8) w A0 l0.length l0) (hc0 : l0.length ≤ c0) (h : zc4 k l0 = some (r1, r2)) :
   Calls Tryz.prog 42 #[.slice A0 l0.length c0] w fun e w' => ∃ v0_ : Value, e = .returned (.tuple #[v0_, .int .i64 r2]) ∧ Kd.R k55 55 w' w.heap.size (fun _ => True) v0_ r1 ∧ Below w.heap.size w w' := by
 have hu63 := Tryz.underlying63
 have HR0 := zA hr0
 have HC0 := zA hc0
 clear hr0 hc0
 have HB := zA (Below.refl w.heap.size w)
 have H := h
 unfold zc4 at H
 clear h
 obtain ⟨y102, hy102⟩ : ∃ y_ : List Int, y_ = (([3, 5, 6, 7, 8] : List Int)) := ⟨_, rfl⟩
 rw [← hy102] at H; try with_reducible replace H := zbs H
 have Ny102 := zA hy102
 clear hy102
 replace H := zob H
 obtain ⟨⟨t105, t106, t107⟩, A20, H⟩ := H
 have A2 := zA A20
 clear A20
 replace H := zob H
 obtain ⟨⟨t108, t111, t112⟩, A30, H⟩ := H
 have A3 := zA A30
 clear A30
 obtain ⟨y113, hy113⟩ : ∃ y_ : List Int, y_ = (([1, 1, 2, 2, 3, 4, 0] : List Int)) := ⟨_, rfl⟩
 rw [← hy113] at H; try with_reducible replace H := zbs H
 have Ny113 := zA hy113
 clear hy113
 replace H := zob H
 obtain ⟨⟨t116, t117, t118⟩, A40, H⟩ := H
 have A4 := zA A40
 clear A40
 simp only [Option.some.injEq, Prod.mk.injEq] at H
 obtain ⟨rfl, rfl⟩ := H
 go_enter Tryz.func42, Tryz.ntmps42
 go_wp2_with (first | ((with_reducible refine zgd 7 ?_); refine zbx #[.slice A0 l0.length c0, .int .i64 0, .int .u64 0] 63 ?_; intro gb101 hg w5 hbox hb; have zs := zpair zq1 hb; replace HB := zA (zs.1); have BK101 := zA (hbox); have GW101 := zA (zge hg zs.2); have GE101 := GW101; clear zs hb hbox hg) | ((with_reducible refine zgd 10 ?_); refine Kd.R_lit (Kd.int .i64) _ 3 ?hg (N := 10) ?hd (xs := ([3, 5, 6, 7, 8] : List Int)) (inner := [.int .i64 3, .int .i64 5, .int .i64 6, .int .i64 7, .int .i64 8]) (ok := fun _ => True) (okp := fun _ => True) ?hr ?hp (fun _ hk => hk) trivial (Below.refl _ _) (zlr _) (by simp) ?_; (case hd => rfl); (case hg => rfl); (case hr => go_simp <;> rfl); (case hp => exact (zak (show Kd.M (Kd.int .i64) _ _ _ 3 [.int .i64 3] from rfl) (zak (show Kd.M (Kd.int .i64) _ _ _ 5 [.int .i64 5] from rfl) (zak (show Kd.M (Kd.int .i64) _ _ _ 6 [.int .i64 6] from rfl) (zak (show Kd.M (Kd.int .i64) _ _ _ 7 [.int .i64 7] from rfl) (zak (show Kd.M (Kd.int .i64) _ _ _ 8 [.int .i64 8] from rfl) (Reps.none _ _))))))); intro v103 w6 ho7 hb hg_ hnew_; clear hg_ hnew_; (first | rw [← Ny102.out] at ho7 | (simp only [Int.reduceToNat] at ho7; rw [← Ny102.out] at ho7)); have HO104 := zA (Kd.R_lower ho7 (zah (zq10 GE101))); replace BK101 := zbb BK101 hb; replace HB := zA (zac (zq10 GE101) hb); clear hb ho7; have HI101 := zA (show IsS63 w _ gb101 l0 0 0 from ⟨_, _, zq4 BK101, GE101.out, HR0.out⟩); obtain ⟨Ao8, co8, eo8⟩ := Kd.R_slice HO104.out; subst eo8) | ((with_reducible refine zgc 61 ?_); refine zca 11 Tryz.func61 #[.pointer (some ⟨gb101, 0, none⟩), .slice Ao8 y102.length co8] (zcu gb101 l0 0 0 _ _ y102 t105 t106 t107 w _ (zq3 HI101) (zq6 HI101) (zq18 HO104) (zq43 HO104) (zq45 HI101 HO104) A2.out) ?_; rintro e w9 ⟨rfl, hi, hb, hk⟩; refine ⟨_, rfl, ?_⟩; replace HO104 := zA (Kd.R_mono (Kd.R_keep (IsS63.apart (show IsS63 w _ gb101 l0 0 0 from by repeat (first | (with_reducible first | exact HI101.out | apply IsS63.alloc | apply IsS63.drewN | apply IsS63.drew | apply zaz | apply za0) | exact HI101.out)) (zq2 HO104) (by decide)) hk (fun _ h => h.2)) (fun _ h => h.1)); replace HB := zA (hb); replace HI101 := zA (hi); (try clear hb); (try clear hk); (try clear hi)) | ((with_reducible refine zgc 60 ?_); refine zca 12 Tryz.func60 #[.pointer (some ⟨gb101, 0, none⟩), .int .i64 t105] (zjz k gb101 l0 t106 t107 t105 t108 t111 t112 w _ (zq3 HI101) (zq6 HI101) A3.out) ?_; rintro e w10 ⟨v109, rfl, ho0, hi, hb, hk⟩; refine ⟨_, rfl, ?_⟩; replace HO104 := zA (Kd.R_mono (Kd.R_keep (IsS63.apart (show IsS63 w _ gb101 l0 t106 t107 from by repeat (first | (with_reducible first | exact HI101.out | apply IsS63.alloc | apply IsS63.drewN | apply IsS63.drew | apply zaz | apply za0) | exact HI101.out)) (zq2 HO104) (by decide)) hk (fun _ h => h.2)) (fun _ h => h.1)); have HO110 := zA (Kd.R_lower ho0 (zah (zq6 HI101))); replace HB := zA (hb); replace HI101 := zA (hi); (try clear hb); (try clear hk); (try clear hi); (try clear ho0)) | ((with_reducible refine zgd 14 ?_); refine Kd.R_lit (Kd.int .i64) _ 3 ?hg (N := 14) ?hd (xs := ([1, 1, 2, 2, 3, 4, 0] : List Int)) (inner := [.int .i64 1, .int .i64 1, .int .i64 2, .int .i64 2, .int .i64 3, .int .i64 4, .int .i64 0]) (ok := fun _ => True) (okp := fun _ => True) ?hr ?hp (fun _ hk => hk) trivial (Below.refl _ _) (zlr _) (by simp) ?_; (case hd => rfl); (case hg => rfl); (case hr => go_simp <;> rfl); (case hp => exact (zak (show Kd.M (Kd.int .i64) _ _ _ 1 [.int .i64 1] from rfl) (zak (show Kd.M (Kd.int .i64) _ _ _ 1 [.int .i64 1] from rfl) (zak (show Kd.M (Kd.int .i64) _ _ _ 2 [.int .i64 2] from rfl) (zak (show Kd.M (Kd.int .i64) _ _ _ 2 [.int .i64 2] from rfl) (zak (show Kd.M (Kd.int .i64) _ _ _ 3 [.int .i64 3] from rfl) (zak (show Kd.M (Kd.int .i64) _ _ _ 4 [.int .i64 4] from rfl) (zak (show Kd.M (Kd.int .i64) _ _ _ 0 [.int .i64 0] from rfl) (Reps.none _ _))))))))); intro v114 w11 ho12 hb hg_ hnew_; clear hg_ hnew_; (first | rw [← Ny113.out] at ho12 | (simp only [Int.reduceToNat] at ho12; rw [← Ny113.out] at ho12)); replace HO110 := zA (zRb (zq2 HO110) hb); have HO115 := zA (Kd.R_lower (Kd.R_new' ho12 (Kd.R_lt (zq2 HO104))) (zah (zq6 HI101))); replace HO104 := zA (Kd.R_elder' (zq2 HO104) (Kd.R_base ho12) hb); replace HB := zA (zac (zq6 HI101) hb); replace HI101 := zA (IsS63.below (zq3 HI101) hb); clear hb ho12; obtain ⟨Ao13, co13, eo13⟩ := Kd.R_slice HO115.out; subst eo13) | ((with_reducible refine zgc 61 ?_); refine zca 15 Tryz.func61 #[.pointer (some ⟨gb101, 0, none⟩), .slice Ao13 y113.length co13] (zcu gb101 l0 t111 t112 _ _ y113 t116 t117 t118 w _ (zq3 HI101) (zq6 HI101) (zq18 HO115) (zq43 HO115) (zq45 HI101 HO115) A4.out) ?_; rintro e w14 ⟨rfl, hi, hb, hk⟩; refine ⟨_, rfl, ?_⟩; replace HO104 := zA (Kd.R_mono (Kd.R_keep (IsS63.apart (show IsS63 w _ gb101 l0 t111 t112 from by repeat (first | (with_reducible first | exact HI101.out | apply IsS63.alloc | apply IsS63.drewN | apply IsS63.drew | apply zaz | apply za0) | exact HI101.out)) (zq2 HO104) (by decide)) hk (fun _ h => h.2)) (fun _ h => h.1)); replace HO110 := zA (Kd.R_mono (Kd.R_keep (IsS63.apart (show IsS63 w _ gb101 l0 t111 t112 from by repeat (first | (with_reducible first | exact HI101.out | apply IsS63.alloc | apply IsS63.drewN | apply IsS63.drew | apply zaz | apply za0) | exact HI101.out)) (zq2 HO110) (by decide)) hk (fun _ h => h.2)) (fun _ h => h.1)); replace HO115 := zA (Kd.R_mono (Kd.R_keep (IsS63.apart (show IsS63 w _ gb101 l0 t111 t112 from by repeat (first | (with_reducible first | exact HI101.out | apply IsS63.alloc | apply IsS63.drewN | apply IsS63.drew | apply zaz | apply za0) | exact HI101.out)) (zq2 HO115) (by decide)) hk (fun _ h => h.2)) (fun _ h => h.1)); replace HB := zA (hb); replace HI101 := zA (hi); (try clear hb); (try clear hk); (try clear hi)))
 go_ret2
 exact ⟨_, zq5, zq2 HO110, zq6 HI101⟩
def zcd : Nat → List (S55) → Int → Bool → List Int → Int → Int → Option ((List (S55)) × Int)
 | 0, _, _, _, _, _, _ => none
 | k + 1, x5, x6, x20, x102000, x102001, x102002 => if x20 = true then ((zgy k x5).bind fun t117 => ((zbk x102000 x102001 x102002 3).bind fun bt118 => (some (x5, wrap64 ((wrap64 (t117 + bt118.1)) - 1))))) else (some (x5, x6))
def zek (k : Nat) (l0 : List Int) : Option ((List (S55)) × Int) := (zdc k l0 0 0 8).bind fun bt102 => ((zcj l0 bt102.2.1 bt102.2.2 (([0, 1, 5, 12, 40, 100, 101, (-1)] : List Int))).bind fun bt110 => ((zfb k bt102.1).bind fun t113 => (if t113 = true then ((zgp l0 bt110.2.1 bt110.2.2 2).bind fun bt114 => (zcd k bt102.1 bt110.1 bt114.1 l0 bt114.2.1 bt114.2.2)) else (zcd k bt102.1 bt110.1 false l0 bt110.2.1 bt110.2.2))))
theorem zj0 : ∀ k, (∀ y0 y1 y2 y3 y4 y5, LeO (zcd k y0 y1 y2 y3 y4 y5) (zcd (k + 1) y0 y1 y2 y3 y4 y5))
 | 0 => fun _ _ _ _ _ _ r h => by simp [zcd] at h
 | k + 1 => by
   have ih0 := zj0 k
   · intro y0 y1 y2 y3 y4 y5
     unfold zcd
     exact zm4 ih0 zh3 zeo zji
theorem zum : ∀ a0 k, LeO (zek k a0) (zek (k + 1) a0) := by
 intro a0 k
 have ih0 := zj0 k
 unfold zek
 exact zm4 ih0 zh3 zeo zji
theorem znz (k : Nat) (A0 : Option Addr) (c0 : Nat) (l0 : List Int) (r1 : List (S55)) (r2 : Int) (w : World) (hr0 : Kd.C (Kd.int .u8) w A0 l0.length l0) (hc0 : l0.length ≤ c0) (h : zek k l0 = some (r1, r2)) :
   Calls Tryz.prog 47 #[.slice A0 l0.length c0] w fun e w' => ∃ v0_ : Value, e = .returned (.tuple #[v0_, .int .i64 r2]) ∧ Kd.R k55 55 w' w.heap.size (fun _ => True) v0_ r1 ∧ Below w.heap.size w w' := by
 have hu63 := Tryz.underlying63
 have HR0 := zA hr0
 have HC0 := zA hc0
 clear hr0 hc0
 have HB := zA (Below.refl w.heap.size w)
 have H := h
 unfold zek at H
 clear h
 replace H := zob H
 obtain ⟨⟨t102, t105, t106⟩, A20, H⟩ := H
 have A2 := zA A20
 clear A20
 obtain ⟨y107, hy107⟩ : ∃ y_ : List Int, y_ = (([0, 1, 5, 12, 40, 100, 101, (-1)] : List Int)) := ⟨_, rfl⟩
 rw [← hy107] at H; try with_reducible replace H := zbs H
 have Ny107 := zA hy107
 clear hy107
 replace H := zob H
 obtain ⟨⟨t110, t111, t112⟩, A30, H⟩ := H
 have A3 := zA A30
 clear A30
 have HC4 := zA H
 clear H
 go_enter Tryz.func47, Tryz.ntmps47
 go_upto_region 4 with (first | ((with_reducible refine zgd 9 ?_); refine zbh zq1 #[.slice A0 l0.length c0, .int .i64 0, .int .u64 0] 63 ?_; clear HB; intro gb101 w5 HB BK101 GW101; have GE101 := GW101; have HI101 := zA (show IsS63 w _ gb101 l0 0 0 from ⟨_, _, zq4 BK101, GE101.out, HR0.out⟩)) | ((with_reducible refine zgc 60 ?_); refine zca 11 Tryz.func60 #[.pointer (some ⟨gb101, 0, none⟩), .int .i64 8] (zjz k gb101 l0 0 0 8 t102 t105 t106 w _ (zq3 HI101) (zq6 HI101) A2.out) ?_; rintro e w6 ⟨v103, rfl, ho0, hi, hb, hk⟩; refine ⟨_, rfl, ?_⟩; have HO104 := zA (Kd.R_lower ho0 (zah (zq6 HI101))); replace HB := zA (hb); replace HI101 := zA (hi); (try clear hb); (try clear hk); (try clear hi); (try clear ho0)) | ((with_reducible refine zgd 13 ?_); refine Kd.R_lit (Kd.int .i64) _ 3 ?hg (N := 13) ?hd (xs := ([0, 1, 5, 12, 40, 100, 101, (-1)] : List Int)) (inner := [.int .i64 0, .int .i64 1, .int .i64 5, .int .i64 12, .int .i64 40, .int .i64 100, .int .i64 101, .int .i64 (-1)]) (ok := fun _ => True) (okp := fun _ => True) ?hr ?hp (fun _ hk => hk) trivial (Below.refl _ _) (zlr _) (by simp) ?_; (case hd => rfl); (case hg => rfl); (case hr => go_simp <;> rfl); (case hp => exact (zak (show Kd.M (Kd.int .i64) _ _ _ 0 [.int .i64 0] from rfl) (zak (show Kd.M (Kd.int .i64) _ _ _ 1 [.int .i64 1] from rfl) (zak (show Kd.M (Kd.int .i64) _ _ _ 5 [.int .i64 5] from rfl) (zak (show Kd.M (Kd.int .i64) _ _ _ 12 [.int .i64 12] from rfl) (zak (show Kd.M (Kd.int .i64) _ _ _ 40 [.int .i64 40] from rfl) (zak (show Kd.M (Kd.int .i64) _ _ _ 100 [.int .i64 100] from rfl) (zak (show Kd.M (Kd.int .i64) _ _ _ 101 [.int .i64 101] from rfl) (zak (show Kd.M (Kd.int .i64) _ _ _ (-1) [.int .i64 (-1)] from rfl) (Reps.none _ _)))))))))); intro v108 w7 ho8 hb hg_ hnew_; clear hg_ hnew_; (first | rw [← Ny107.out] at ho8 | (simp only [Int.reduceToNat] at ho8; rw [← Ny107.out] at ho8)); replace HO104 := zA (zRb (zq2 HO104) hb); have HO109 := zA (Kd.R_lower ho8 (zah (zq6 HI101))); replace HB := zA (zac (zq6 HI101) hb); replace HI101 := zA (IsS63.below (zq3 HI101) hb); clear hb ho8; obtain ⟨Ao9, co9, eo9⟩ := Kd.R_slice HO109.out; subst eo9) | ((with_reducible refine zgc 61 ?_); refine zca 14 Tryz.func61 #[.pointer (some ⟨gb101, 0, none⟩), .slice Ao9 y107.length co9] (zcu gb101 l0 t105 t106 _ _ y107 t110 t111 t112 w _ (zq3 HI101) (zq6 HI101) (zq18 HO109) (zq43 HO109) (zq45 HI101 HO109) A3.out) ?_; rintro e w10 ⟨rfl, hi, hb, hk⟩; refine ⟨_, rfl, ?_⟩; replace HO104 := zA (Kd.R_mono (Kd.R_keep (IsS63.apart (show IsS63 w _ gb101 l0 t105 t106 from by repeat (first | (with_reducible first | exact HI101.out | apply IsS63.alloc | apply IsS63.drewN | apply IsS63.drew | apply zaz | apply za0) | exact HI101.out)) (zq2 HO104) (by decide)) hk (fun _ h => h.2)) (fun _ h => h.1)); replace HO109 := zA (Kd.R_mono (Kd.R_keep (IsS63.apart (show IsS63 w _ gb101 l0 t105 t106 from by repeat (first | (with_reducible first | exact HI101.out | apply IsS63.alloc | apply IsS63.drewN | apply IsS63.drew | apply zaz | apply za0) | exact HI101.out)) (zq2 HO109) (by decide)) hk (fun _ h => h.2)) (fun _ h => h.1)); replace HB := zA (hb); replace HI101 := zA (hi); (try clear hb); (try clear hk); (try clear hi)))
 (try simp only [Act.put, List.setIfInBounds_toArray, List.set_cons_zero, List.set_cons_succ])
 go_cut [20] (fun v20 wc => ∃ (kq : Nat) (x20_3 : Bool) (x102001_3 : Int) (x102002_3 : Int), v20 = .bool x20_3 ∧ Aside0 (zcd kq t102 t110 x20_3 l0 x102001_3 x102002_3 = some (r1, r2)) ∧ Aside0 (kq ≤ k) ∧ Aside0 (Kd.R k55 55 wc w.heap.size (fun _ => True) v103 t102) ∧ Aside0 (IsS63 w wc gb101 l0 x102001_3 x102002_3) ∧ Aside0 (Below w.heap.size w wc))
 case first =>
   have H := HC4.out
   clear HC4
   replace H := zob H
   obtain ⟨t113, A110, H⟩ := H
   have A11 := zA A110
   clear A110
   by_cases c12 : t113 = true
   rotate_left
   · replace c12 := zbf c12
     subst c12
     replace H := zif H
     have H' := zA H
     clear H
     obtain ⟨Ao17, co17, eo17⟩ := Kd.R_slice HO104.out
     subst eo17
     go_wp2_with (first | ((with_reducible refine zgc 53 ?_); refine zca 16 Tryz.func53 #[.slice Ao17 t102.length co17] (zcr k _ _ t102 false _ (zq18 HO104) (zq43 HO104) A11.out) ?_; rintro e w18 ⟨rfl, hb⟩; refine ⟨_, rfl, ?_⟩; replace HO104 := zA (zRb (zq2 HO104) hb); replace HO109 := zA (zRb (zq2 HO109) hb); replace HB := zA (zac (zq6 HI101) hb); replace HI101 := zA (IsS63.below (zq3 HI101) hb); (try clear hb)))
     go_meet
     case rel => exact ⟨_, (false), (t111), (t112), zq8, H', ⟨zq38⟩, ⟨zq2 HO104⟩, ⟨zq3 HI101⟩, ⟨zq6 HI101⟩⟩
   subst c12
   replace H := zih H
   replace H := zob H
   obtain ⟨⟨t114, t115, t116⟩, A130, H⟩ := H
   have A13 := zA A130
   clear A130
   have H' := zA H
   clear H
   obtain ⟨Ao14, co14, eo14⟩ := Kd.R_slice HO104.out
   subst eo14
   go_wp2_with (first | ((with_reducible refine zgc 53 ?_); refine zca 16 Tryz.func53 #[.slice Ao14 t102.length co14] (zcr k _ _ t102 true _ (zq18 HO104) (zq43 HO104) A11.out) ?_; rintro e w15 ⟨rfl, hb⟩; refine ⟨_, rfl, ?_⟩; replace HO104 := zA (zRb (zq2 HO104) hb); replace HO109 := zA (zRb (zq2 HO109) hb); replace HB := zA (zac (zq6 HI101) hb); replace HI101 := zA (IsS63.below (zq3 HI101) hb); (try clear hb)) | (go_at_call 96; (with_reducible refine (zgt gb101 l0 t111 t112 2 t114 t115 t116 w _ ?side1 ?side2 A13.out).mono ?_); (case side1 => repeat (first | (with_reducible first | exact HI101.out | apply IsS63.alloc | apply IsS63.drewN | apply IsS63.drew | apply zaz | apply za0) | exact HI101.out)); (case side2 => repeat (first | (with_reducible first | exact HB.out | apply zba | apply zbn | apply zbd | refine zad ?_ (zrs HI101.out)) | exact HB.out)); rintro e w16 ⟨rfl, hi, hb, hk⟩; replace HO104 := zA (Kd.R_mono (Kd.R_keep (IsS63.apart (show IsS63 w _ gb101 l0 t111 t112 from by repeat (first | (with_reducible first | exact HI101.out | apply IsS63.alloc | apply IsS63.drewN | apply IsS63.drew | apply zaz | apply za0) | exact HI101.out)) (zq2 HO104) (by decide)) hk (fun _ h => h.2)) (fun _ h => h.1)); replace HO109 := zA (Kd.R_mono (Kd.R_keep (IsS63.apart (show IsS63 w _ gb101 l0 t111 t112 from by repeat (first | (with_reducible first | exact HI101.out | apply IsS63.alloc | apply IsS63.drewN | apply IsS63.drew | apply zaz | apply za0) | exact HI101.out)) (zq2 HO109) (by decide)) hk (fun _ h => h.2)) (fun _ h => h.1)); replace HB := zA (hb); replace HI101 := zA (hi); (try clear hb); (try clear hk); (try clear hi)))
   go_meet
   case rel => exact ⟨_, (t114), (t115), (t116), zq8, H', ⟨zq38⟩, ⟨zq2 HO104⟩, ⟨zq3 HI101⟩, ⟨zq6 HI101⟩⟩
 clear HC4
 obtain ⟨kq, x20_3, x102001_3, x102002_3, rfl, HA, HJ3, HO_5, HI101, HB⟩ := hcut
 cases kq with
 | zero => exact absurd HA.out (by simp [zcd])
 | succ kj3 =>
 have H := HA.out
 clear HA
 simp only [zcd] at H
 by_cases c19 : x20_3 = true
 rotate_left
 · replace c19 := zbf c19
   subst c19
   replace H := zif H
   simp only [Option.some.injEq, Prod.mk.injEq] at H
   obtain ⟨rfl, rfl⟩ := H
   go_wp2
   go_ret2
   exact ⟨_, zq5, zq2 HO_5, zq6 HI101⟩
 subst c19
 replace H := zih H
 replace H := zob H
 obtain ⟨t117, A200, H⟩ := H
 have A20 := zA A200
 clear A200
 replace H := zob H
 obtain ⟨⟨t118, t119, t120⟩, A210, H⟩ := H
 have A21 := zA A210
 clear A210
 simp only [Option.some.injEq, Prod.mk.injEq] at H
 obtain ⟨rfl, rfl⟩ := H
 obtain ⟨Ao22, co22, eo22⟩ := Kd.R_slice HO_5.out
 subst eo22
 go_wp2_with (first | ((with_reducible refine zgc 97 ?_); refine zca 22 Tryz.func97 #[.slice Ao22 t102.length co22] (znk kj3 _ _ t102 t117 _ (zq18 HO_5) (zq43 HO_5) A20.out) ?_; rintro e w23 ⟨rfl, hb⟩; refine ⟨_, rfl, ?_⟩; replace HO_5 := zA (zRb (zq2 HO_5) hb); replace HB := zA (zac (zq6 HI101) hb); replace HI101 := zA (IsS63.below (zq3 HI101) hb); (try clear hb)) | ((with_reducible refine zgc 98 ?_); refine zca 24 Tryz.func98 #[.pointer (some ⟨gb101, 0, none⟩), .int .i64 3] (zau gb101 l0 x102001_3 x102002_3 3 t118 t119 t120 w _ (zq3 HI101) (zq6 HI101) A21.out) ?_; rintro e w24 ⟨rfl, hi, hb, hk⟩; refine ⟨_, rfl, ?_⟩; replace HO_5 := zA (Kd.R_mono (Kd.R_keep (IsS63.apart (show IsS63 w _ gb101 l0 x102001_3 x102002_3 from by repeat (first | (with_reducible first | exact HI101.out | apply IsS63.alloc | apply IsS63.drewN | apply IsS63.drew | apply zaz | apply za0) | exact HI101.out)) (zq2 HO_5) (by decide)) hk (fun _ h => h.2)) (fun _ h => h.1)); replace HB := zA (hb); replace HI101 := zA (hi); (try clear hb); (try clear hk); (try clear hi)))
 go_ret2
 exact ⟨_, zq5, zq2 HO_5, zq6 HI101⟩
def zfi (k : Nat) (l0 : List (S55)) : Option (List Int × Bool) := (zfb k l0).bind fun t101 => (if t101 = true then ((zet k l0).bind fun t102 => (some (t102, true))) else (some (([] : List Int), false)))
theorem zv6 : ∀ a0 k, LeO (zfi k a0) (zfi (k + 1) a0) := by
 intro a0 k
 unfold zfi
 exact zm2 zho zeo
theorem zop (k : Nat) (A0 : Option Addr) (c0 : Nat) (l0 : List (S55)) (r1 : List Int) (r2 : Bool) (w : World) (hr0 : Kd.C k55 w A0 l0.length l0) (hc0 : l0.length ≤ c0) (h : zfi k l0 = some (r1, r2)) :
   Calls Tryz.prog 49 #[.slice A0 l0.length c0] w fun e w' => ∃ v0_ : Value, e = .returned (.tuple #[v0_, .bool r2]) ∧ Kd.R (Kd.int .i64) 3 w' w.heap.size (fun _ => True) v0_ r1 ∧ Below w.heap.size w w' := by
 have HR0 := zA hr0
 have HC0 := zA hc0
 clear hr0 hc0
 have HB := zA (Below.refl w.heap.size w)
 have H := h
 unfold zfi at H
 clear h
 replace H := zob H
 obtain ⟨t101, A20, H⟩ := H
 have A2 := zA A20
 clear A20
 by_cases c3 : t101 = true
 rotate_left
 · replace c3 := zbf c3
   subst c3
   replace H := zif H
   simp only [Option.some.injEq, Prod.mk.injEq] at H
   obtain ⟨rfl, rfl⟩ := H
   go_enter Tryz.func49, Tryz.ntmps49
   go_wp2_with (first | ((with_reducible refine zgc 53 ?_); refine zca 5 Tryz.func53 #[.slice A0 l0.length c0] (zcr k _ _ l0 false _ (zq17 HR0) HC0.out A2.out) ?_; rintro e w7 ⟨rfl, hb⟩; refine ⟨_, rfl, ?_⟩; replace HB := zA (zac zq1 hb); (try clear hb)))
   go_ret2
   exact ⟨_, zq5, zq24, zq1⟩
 subst c3
 replace H := zih H
 replace H := zob H
 obtain ⟨t102, A40, H⟩ := H
 have A4 := zA A40
 clear A40
 simp only [Option.some.injEq, Prod.mk.injEq] at H
 obtain ⟨rfl, rfl⟩ := H
 go_enter Tryz.func49, Tryz.ntmps49
 go_wp2_with (first | ((with_reducible refine zgc 53 ?_); refine zca 5 Tryz.func53 #[.slice A0 l0.length c0] (zcr k _ _ l0 true _ (zq17 HR0) HC0.out A2.out) ?_; rintro e w5 ⟨rfl, hb⟩; refine ⟨_, rfl, ?_⟩; replace HB := zA (zac zq1 hb); (try clear hb)) | ((with_reducible refine zgc 102 ?_); refine zca 8 Tryz.func102 #[.slice A0 l0.length c0] (zk0 k _ _ l0 t102 _ (zq15 HR0) HC0.out A4.out) ?_; rintro e w6 ⟨v103, rfl, ho0, hb⟩; refine ⟨_, rfl, ?_⟩; have HO104 := zA (Kd.R_lower ho0 (zah zq1)); replace HB := zA (zac zq1 hb); (try clear hb); (try clear ho0)))
 go_ret2
 exact ⟨_, zq5, zq2 HO104, zq1⟩
mutual
def zdg : Nat → List (S55) → Int → Bool → Option (List Int × Bool)
 | 0, _, _, _ => none
 | k + 1, x0, x1, x17 => if x17 = true then (some (([] : List Int), false)) else ((ze1 k x0).bind fun t103 => (if 0 ≤ (x0.length : Int) then (if ((x0.length : Int) : Int).toNat ≤ 35184372088832 then (zc1 k x0 x1 t103 (List.replicate ((x0.length : Int) : Int).toNat 0) (wrap64 ((x0.length : Int) - 1))) else (none)) else (none)))
def zc1 : Nat → List (S55) → Int → List (List Int) → List Int → Int → Option (List Int × Bool)
 | 0, _, _, _, _, _ => none
 | k + 1, x0, x1, x6, x7, x8 => if x8 ≥ 0 then (if 0 ≤ x8 then (if x8 < (x0.length : Int) then ((zf9 ((zaa x0 x8).f0)).bind fun t110 => (if x8 < (x7.length : Int) then (zc2 k x0 x1 x6 (x7.set (x8 : Int).toNat (wrap64 (x1 - t110))) x8 (wrap64 (x8 + 1))) else (none))) else (none)) else (none)) else (some (x7, true))
def zc2 : Nat → List (S55) → Int → List (List Int) → List Int → Int → Int → Option (List Int × Bool)
 | 0, _, _, _, _, _, _ => none
 | k + 1, x0, x1, x6, x7, x8, x9 => if x9 < (x0.length : Int) then (if 0 ≤ x8 then (if x8 < (x6.length : Int) then (if 0 ≤ x9 then (if x9 < ((za1 x6 x8).length : Int) then (if (rd (za1 x6 x8) x9) ≥ 0 then (if x8 < (x7.length : Int) then (if x9 < (x7.length : Int) then ((zg1 (rd x7 x8) (wrap64 ((rd x7 x9) - (rd (za1 x6 x8) x9)))).bind fun t118 => (zc2 k x0 x1 x6 (x7.set (x8 : Int).toNat t118) x8 (wrap64 (x9 + 1)))) else (none)) else (none)) else (zc2 k x0 x1 x6 x7 x8 (wrap64 (x9 + 1)))) else (none)) else (none)) else (none)) else (none)) else (if 0 ≤ x8 then (if x8 < (x7.length : Int) then (if (rd x7 x8) < 0 then (some (([] : List Int), false)) else (zc1 k x0 x1 x6 x7 (wrap64 (x8 - 1)))) else (none)) else (none))
end
def zgj (k : Nat) (l0 : List (S55)) (a1 : Int) : Option (List Int × Bool) := (zfb k l0).bind fun t101 => (if t101 = true then ((zir a1 0 100).bind fun t102 => (zdg k l0 a1 (!t102))) else (zdg k l0 a1 true))
theorem zlj : ∀ k, (∀ y0 y1 y2, LeO (zdg k y0 y1 y2) (zdg (k + 1) y0 y1 y2)) ∧ (∀ y0 y1 y2 y3 y4, LeO (zc1 k y0 y1 y2 y3 y4) (zc1 (k + 1) y0 y1 y2 y3 y4)) ∧ (∀ y0 y1 y2 y3 y4 y5, LeO (zc2 k y0 y1 y2 y3 y4 y5) (zc2 (k + 1) y0 y1 y2 y3 y4 y5))
 | 0 => ⟨fun _ _ _ r h => by simp [zdg] at h, fun _ _ _ _ _ r h => by simp [zc1] at h, fun _ _ _ _ _ _ r h => by simp [zc2] at h⟩
 | k + 1 => by
   obtain ⟨ih0, ih1, ih2⟩ := zlj k
   refine ⟨?_, ?_, ?_⟩
   · intro y0 y1 y2
     unfold zdg
     exact zm5 ih0 ih1 ih2 zct zeo
   · intro y0 y1 y2 y3 y4
     unfold zc1
     exact zm5 ih0 ih1 ih2 zct zeo
   · intro y0 y1 y2 y3 y4 y5
     unfold zc2
     exact zm5 ih0 ih1 ih2 zct zeo
theorem zw7 : ∀ a0 a1 k, LeO (zgj k a0 a1) (zgj (k + 1) a0 a1) := by
 intro a0 a1 k
 obtain ⟨ih0, ih1, ih2⟩ := zlj k
 unfold zgj
 exact zm5 ih0 ih1 ih2 zct zeo
def spec_LatestOf.T13 : Bool × List (List Nat × List Nat) := (true, [([], []), ([], []), ([], []), ([], []), ([2, 3], [2, 3]), ([4], [4]), ([], []), ([], []), ([6, 7], [6, 7]), ([8], [8]), ([], []), ([], []), ([10, 11], [10, 11]), ([12], [12]), ([], []), ([13, 14], [13, 14]), ([15], [15]), ([9, 16], [9, 16]), ([5, 17], [5, 17]), ([0, 1, 0, 1, 2, 3, 4, 5, 6, 7, 8, 9, 10, 11, 12, 13, 14, 15, 16, 17, 18], [0, 1]), ([19, 18, 18, 0, 1, 2, 3, 4, 5, 6, 7, 8, 9, 10, 11, 12, 13, 14, 15, 16, 17, 18], [18, 19])])
def zqu : List Nat := [0, 0, 0, 0, 12, 28, 0, 0, 192, 448, 0, 0, 3072, 7168, 0, 31744, 64512, 131008, 262140, 524287, 1048575]
theorem zpn : rtab .any (zuf Tryz.f48 13) = spec_LatestOf.T13 := by kernel_rfl
theorem zpa : zke spec_LatestOf.T13.2 zqu = true := by kernel_rfl
theorem zpo (k : Nat) (A0 : Option Addr) (c0 : Nat) (l0 : List (S55)) (a1 : Int) (r1 : List Int) (r2 : Bool) (w : World) (hr0 : Kd.C k55 w A0 l0.length l0) (hc0 : l0.length ≤ c0) (h : zgj k l0 a1 = some (r1, r2)) :
   Calls Tryz.prog 48 #[.slice A0 l0.length c0, .int .i64 a1] w fun e w' => ∃ v0_ : Value, e = .returned (.tuple #[v0_, .bool r2]) ∧ Kd.R (Kd.int .i64) 3 w' w.heap.size (fun _ => True) v0_ r1 ∧ Below w.heap.size w w' := by
 have HR0 := zA hr0
 have HC0 := zA hc0
 clear hr0 hc0
 have HB := zA (Below.refl w.heap.size w)
 have H := h
 unfold zgj at H
 clear h
 have HC3 := zA H
 clear H
 go_enter Tryz.func48, Tryz.ntmps48
 go_upto_region 1 with (fail)
 go_cut [17] (fun v17 wc => ∃ (kq : Nat) (x17_2 : Bool), v17 = .bool x17_2 ∧ Aside0 (zdg kq l0 a1 x17_2 = some (r1, r2)) ∧ Aside0 (kq ≤ k) ∧ Aside0 (Below w.heap.size w wc))
 case first =>
   have H := HC3.out
   clear HC3
   replace H := zob H
   obtain ⟨t101, A40, H⟩ := H
   have A4 := zA A40
   clear A40
   by_cases c5 : t101 = true
   rotate_left
   · replace c5 := zbf c5
     subst c5
     replace H := zif H
     have H' := zA H
     clear H
     go_wp2_with (first | ((with_reducible refine zgc 53 ?_); refine zca 11 Tryz.func53 #[.slice A0 l0.length c0] (zcr k _ _ l0 false _ (zq15 HR0) HC0.out A4.out) ?_; rintro e w8 ⟨rfl, hb⟩; refine ⟨_, rfl, ?_⟩; replace HB := zA (zac zq1 hb); (try clear hb)))
     go_meet
     case rel => exact ⟨_, (true), zq8, H', ⟨zq38⟩, ⟨zq1⟩⟩
   subst c5
   replace H := zih H
   replace H := zob H
   obtain ⟨t102, A60, H⟩ := H
   have A6 := zA A60
   clear A60
   have H' := zA H
   clear H
   go_wp2_with (first | ((with_reducible refine zgc 53 ?_); refine zca 11 Tryz.func53 #[.slice A0 l0.length c0] (zcr k _ _ l0 true _ (zq15 HR0) HC0.out A4.out) ?_; rintro e w7 ⟨rfl, hb⟩; refine ⟨_, rfl, ?_⟩; replace HB := zA (zac zq1 hb); (try clear hb)) | (go_at_call 99; (with_reducible refine (zfq a1 0 100 t102 _ A6.out).mono ?_); rintro e w' ⟨rfl, ⟨nd, rfl⟩⟩))
   go_meet
   case rel => exact ⟨_, (!t102), zq8, H', ⟨zq38⟩, ⟨zq1⟩⟩
 clear HC3
 obtain ⟨kq, x17_2, rfl, HA, HJ2, HB⟩ := hcut
 cases kq with
 | zero => exact absurd HA.out (by simp [zdg])
 | succ kj2 =>
 have H := HA.out
 clear HA
 simp only [zdg] at H
 by_cases c9 : x17_2 = true
 · subst c9
   replace H := zih H
   simp only [Option.some.injEq, Prod.mk.injEq] at H
   obtain ⟨rfl, rfl⟩ := H
   go_wp2
   go_ret2
   exact ⟨_, zq5, zq24, zq1⟩
 replace c9 := zbf c9
 subst c9
 replace H := zif H
 replace H := zob H
 obtain ⟨t103, A100, H⟩ := H
 have A10 := zA A100
 clear A100
 by_cases c11 : 0 ≤ (l0.length : Int)
 rotate_left
 · rw [if_neg c11] at H
   exact absurd H (by simp)
 rw [if_pos c11] at H
 have c11b0 := eq_true c11
 have c11b1 := zdt c11
 clear c11
 by_cases c12 : ((l0.length : Int) : Int).toNat ≤ 35184372088832
 rotate_left
 · rw [if_neg c12] at H
   exact absurd H (by simp)
 rw [if_pos c12] at H
 have c12b0 := eq_true c12
 have c12b1 := zdt c12
 clear c12
 obtain ⟨y106, hy106⟩ : ∃ y_ : List Int, y_ = (List.replicate ((l0.length : Int) : Int).toNat 0) := ⟨_, rfl⟩
 rw [← hy106] at H; try with_reducible replace H := zbs H
 have Ny106 := zA hy106
 clear hy106
 have H' := zA H
 clear H
 go_wp2_with (first | ((with_reducible refine zgc 62 ?_); refine zca 19 Tryz.func62 #[.slice A0 l0.length c0] (zh1 kj2 _ _ l0 t103 _ (zq15 HR0) HC0.out A10.out) ?_; rintro e w13 ⟨v104, rfl, ho0, hb⟩; refine ⟨_, rfl, ?_⟩; have HO105 := zA (Kd.S_lower ho0 (zah zq1)); replace HB := zA (zac zq1 hb); (try clear hb); (try clear ho0)) | ((with_reducible refine zgd 22 ?_); refine Kd.R_make (Kd.int .i64) _ 3 rfl (N := 22) rfl 25 _ _ rfl (l0.length : Int) rfl rfl Tryz.underlying25 (.int .i64 0) 8 zkf rfl (by decide) (by omega) 0 (ok := fun _ => True) (okp := fun _ => True) rfl (fun _ hk => hk) trivial (zde zq21) (Nat.le_trans (Nat.mul_le_mul_right _ (zde zq21 : (l0.length : Int).toNat ≤ 35184372088832)) (by omega)) (Below.refl _ _) (zlr _) ?_; intro v107 w14 ho15 hb hg_ hnew_; clear hg_ hnew_; (first | rw [← Ny106.out] at ho15 | (simp only [Int.reduceToNat] at ho15; rw [← Ny106.out] at ho15)); replace HO105 := zA (Kd.S_elder' (zq16 HO105) (Kd.R_base ho15) hb); have HO108 := zA (Kd.R_lower ho15 (zah zq1)); replace HB := zA (zac zq1 hb); clear hb ho15))
 go_loopg [8] kj2 (fun kq v8 w' => ∃ (x7_2 : List Int) (x8_2 : Int), v8 = .int .i64 x8_2 ∧ Aside0 (zc1 kq l0 a1 t103 x7_2 x8_2 = some (r1, r2)) ∧ Aside0 (kq ≤ kj2) ∧ Aside0 (Kd.S (Kd.slice 3 (Kd.int .i64)) 25 w' w.heap.size (fun k_ => some k_ ≠ (v107 : Value).ownBlock) v104 t103) ∧ Aside0 (Kd.R (Kd.int .i64) 3 w' w.heap.size (fun _ => True) v107 x7_2) ∧ Aside0 (Below w.heap.size w w'))
 case atStart => exact ⟨(y106), (wrap64 ((l0.length : Int) - 1)), zq8, H', ⟨zlr _⟩, ⟨zq34 HO105⟩, ⟨zq2 HO108⟩, ⟨zq1⟩⟩
 clear H'
 obtain ⟨x7_2, x8_2, rfl, HA, HK2, HO_6, HO_7, HB⟩ := hrel
 cases gk with
 | zero => exact absurd HA.out (by simp [zc1])
 | succ k2 =>
 have H := HA.out
 clear HA
 simp only [zc1] at H
 by_cases c16 : x8_2 ≥ 0
 rotate_left
 · rw [if_neg c16] at H
   have c16b0 := zdf c16
   clear c16
   simp only [Option.some.injEq, Prod.mk.injEq] at H
   obtain ⟨rfl, rfl⟩ := H
   go_wp2
   go_ret2
   exact ⟨_, zq5, zq2 HO_7, zq1⟩
 rw [if_pos c16] at H
 have c16b0 := zdt c16
 clear c16
 revert H
 refine zin fun c17 H => ?_
 revert H
 refine zin fun c18 H => ?_
 replace H := zob H
 obtain ⟨t110, A190, H⟩ := H
 have A19 := zA A190
 clear A190
 revert H
 refine zin fun c20 H => ?_
 obtain ⟨y111, hy111⟩ : ∃ y_ : List Int, y_ = (x7_2.set (x8_2 : Int).toNat (wrap64 (a1 - t110))) := ⟨_, rfl⟩
 rw [← hy111] at H; try with_reducible replace H := zbs H
 have Ny111 := zA hy111
 clear hy111
 have H' := zA H
 clear H
 obtain ⟨p109, q109⟩ := zpq x8_2 l0.length
 obtain ⟨ad109, e109, hx109_0, hx109_1, hx109_2, hx109_3, hx109_4⟩ := zi7 HR0.out x8_2 (zoe p109) (zoe q109)
 cases e109
 replace hx109_0 := zkep HB.out hx109_0
 replace hx109_1 := zkep HB.out hx109_1
 replace hx109_2 := zkep HB.out hx109_2
 replace hx109_3 := zkep HB.out hx109_3
 replace hx109_4 := zkep HB.out hx109_4
 go_wp2_with (first | ((with_reducible refine zgc 100 ?_); refine zcl 38 Tryz.func100 (zfz ((zaa l0 x8_2).f0) t110 _ A19.out) ?_; rintro e w' ⟨rfl, ⟨nd, rfl⟩⟩; refine ⟨_, rfl, ?_⟩; (try (rw [zgn wr]; generalize hq_ : World.drewN wr _ = wr; have n0_ : Aside0 (Kd.S (Kd.slice 3 (Kd.int .i64)) 25 wr w.heap.size (fun k_ => some k_ ≠ (v107 : Value).ownBlock) v104 t103) := ⟨by rw [← hq_]; exact (zq16 HO_6)⟩; have n1_ : Aside0 (Kd.R (Kd.int .i64) 3 wr w.heap.size (fun _ => True) v107 x7_2) := ⟨by rw [← hq_]; exact (zq2 HO_7)⟩; have n2_ : Aside0 (Below w.heap.size w wr) := ⟨by rw [← hq_]; exact zq1⟩; clear HO_6 HO_7 HB hq_; have HO_6 := n0_; have HO_7 := n1_; have HB := n2_; clear n0_ n1_ n2_)); have p21 : 0 ≤ (x8_2 : Int) := zde zq21; have q21 : (x8_2 : Int) < ((x7_2.length : Int) : Int) := zde zq21; obtain ⟨go21, co21, eo21, gb21, gl21, cl21, HG21⟩ := Kd.R_form HO_7.out (by omega); (first | cases eo21 | (injection eo21 with ea_ en_ ec_; (first | subst ea_ | (injection ea_ with ea_; subst ea_)); subst ec_; clear en_)); have GB21 := zA gb21; have GG21 := zA HG21; clear gb21 gl21 HG21; obtain ⟨hx21_0, hf21_0⟩ := Kd.R_celln 0 HO_7.out (x8_2 : Int) p21 q21; replace p21 := eq_true p21; replace q21 := eq_true q21; obtain ⟨hy22_, hz22_⟩ := Kd.R_celln 0 HO_7.out (x8_2 : Int) (zde zq21) (zde zq21); have HP22 := Kd.R_putg HO_7.out (x8_2 : Int) (wrap64 (a1 - t110))) | ((with_reducible refine zgs 3 40 ?_); refine zse (wr.setCell ⟨go21, (x8_2 : Int).toNat, none⟩ (.int .i64 (wrap64 (a1 - t110)))) ?_; intro w23 hw; have hg : wr.grownBy w23 (some go21) := (by rw [hw]; exact HP22.2); have hp_ : Kd.R (Kd.int .i64) 3 w23 w.heap.size (fun _ => True) (.slice (some ⟨go21, 0, none⟩) x7_2.length co21) y111 := (by rw [hw, Ny111.out]; exact HP22.1); clear HP22; replace HO_6 := zA (Kd.S_after (v := (.slice (some ⟨go21, 0, none⟩) x7_2.length co21)) (v1 := (.slice (some ⟨go21, 0, none⟩) x7_2.length co21)) (ok := (fun _ => True)) (zq50 HO_6) hg (.inl rfl)); replace HO_7 := zA (hp_); replace HB := zA ((zq57 GB21 : Below w.heap.size w w23)); clear hg hw hp_))
 go_loopg [9] k2 (fun kq v9 w' => ∃ (x7_3 : List Int) (x9_3 : Int), v9 = .int .i64 x9_3 ∧ Aside0 (zc2 kq l0 a1 t103 x7_3 x8_2 x9_3 = some (r1, r2)) ∧ Aside0 (kq ≤ k2) ∧ Aside0 (Kd.S (Kd.slice 3 (Kd.int .i64)) 25 w' w.heap.size (fun k_ => some k_ ≠ ((.slice (some ⟨go21, 0, none⟩) x7_2.length co21) : Value).ownBlock) v104 t103) ∧ Aside0 (Kd.R (Kd.int .i64) 3 w' w.heap.size (fun _ => True) (.slice (some ⟨go21, 0, none⟩) x7_2.length co21) x7_3) ∧ Aside0 (Below w.heap.size w w'))
 case atStart => exact ⟨(y111), (wrap64 (x8_2 + 1)), zq8, H', ⟨zlr _⟩, ⟨zq34 HO_6⟩, ⟨zq2 HO_7⟩, ⟨zq1⟩⟩
 clear H'
 obtain ⟨x7_3, x9_3, rfl, HA, HK3, HO_6, HO_7, HB⟩ := hrel
 have hl7_3 := (zRr HO_7.out).1
 rw [hl7_3] at HO_7
 (try simp only [hl7_3])
 (try simp only [hl7_3] at HO_6)
 cases gk with
 | zero => exact absurd HA.out (by simp [zc2])
 | succ k3 =>
 have H := HA.out
 clear HA
 simp only [zc2] at H
 revert H
 refine zit (fun c24 H => ?_) fun c24 H => ?_
 rotate_left
 · revert H
   refine zin fun c38 H => ?_
   revert H
   refine zin fun c39 H => ?_
   revert H
   refine zit (fun c40b0 H => ?_) fun c40b0 H => ?_
   · simp only [Option.some.injEq, Prod.mk.injEq] at H
     obtain ⟨rfl, rfl⟩ := H
     obtain ⟨p120, q120⟩ := zpq x8_2 x7_3.length
     obtain ⟨ad120, e120, hx120_0⟩ := Kd.at_int (zRr HO_7.out).2.2 x8_2 (zoe p120) (zoe q120)
     obtain rfl : (⟨go21, 0, none⟩ : Addr) = ad120 := (by injection e120)
     (first | simp only [ze4] at hx120_0 | simp only [zns] at hx120_0 | simp only [Addr.add, Nat.zero_add] at hx120_0 | skip)
     go_wp2
     go_ret2
     exact ⟨_, zq5, zq24, zq1⟩
   have H' := zA H
   clear H
   obtain ⟨p120, q120⟩ := zpq x8_2 x7_3.length
   obtain ⟨ad120, e120, hx120_0⟩ := Kd.at_int (zRr HO_7.out).2.2 x8_2 (zoe p120) (zoe q120)
   obtain rfl : (⟨go21, 0, none⟩ : Addr) = ad120 := (by injection e120)
   (first | simp only [ze4] at hx120_0 | simp only [zns] at hx120_0 | simp only [Addr.add, Nat.zero_add] at hx120_0 | skip)
   go_wp2
   (try simp only [← hl7_3])
   go_roundg k3
   case measure => have := HJ2.out; have := HK2.out; have := HK3.out; omega
   case rel => exact ⟨(x7_3), (wrap64 (x8_2 - 1)), zq8, H', ⟨zq42 HJ2 HK2 HK3⟩, ⟨by (try simp only [hl7_3]); (with_reducible repeat (first | apply zSa | apply zSn | apply zSd)); exact HO_6.out⟩, ⟨zq74 HO_7⟩, ⟨zq1⟩⟩
 revert H
 refine zin fun c25 H => ?_
 revert H
 refine zin fun c26 H => ?_
 revert H
 refine zin fun c27 H => ?_
 revert H
 refine zin fun c28 H => ?_
 by_cases c29 : (rd (za1 t103 x8_2) x9_3) ≥ 0
 rotate_left
 · rw [if_neg c29] at H
   have c29b0 := zdf c29
   clear c29
   have H' := zA H
   clear H
   obtain ⟨Ao37, co37, eo37⟩ := Kd.S_slice HO_6.out
   subst eo37
   have p112 : 0 ≤ (x8_2 : Int) := zde zq21
   have q112 : x8_2 < (t103.length : Int) := zde zq21
   obtain ⟨ad112, A112_0, c112_0, e112, hx112_0, hl112_0, hi112_0⟩ := zkm (zSr HO_6.out).2.2 x8_2 p112 q112
   cases e112
   obtain ⟨ce112, hce112, hMe112, hcc112⟩ := Kd.S_get HO_6.out [] x8_2 p112 (by first | exact q112 | exact zde zq21 | (have e_ := (zSr HO_6.out).1; omega))
   obtain ⟨ve112_0, rfl, ge112_0⟩ := hMe112
   have hv112_0 := hcc112 0 _ rfl
   rw [Nat.add_zero, show ((Kd.slice 3 (Kd.int .i64))).sz = 1 from rfl, Nat.mul_one] at hv112_0
   replace hv112_0 := zsi (hv112_0.symm.trans hx112_0)
   rw [hv112_0] at ge112_0
   have HL112_0 := zA (show Kd.R (Kd.int .i64) 3 _ _ _ _ (za1 t103 x8_2) from ge112_0)
   clear hv112_0 ge112_0
   clear hcc112 hce112
   have HR112_0 := zA hi112_0
   have HC112_0 := zA hl112_0
   clear hi112_0 hl112_0
   replace p112 := eq_true p112
   replace q112 := eq_true q112
   have p113 : 0 ≤ (x9_3 : Int) := zde zq21
   have q113 : x9_3 < ((za1 t103 x8_2).length : Int) := zde zq21
   obtain ⟨ad113, e113, hx113_0⟩ := Kd.at_int (zq20 HR112_0) x9_3 p113 q113
   cases e113
   replace p113 := eq_true p113
   replace q113 := eq_true q113
   go_wp2
   (try simp only [← hl7_3])
   go_roundg k3
   case measure => have := HJ2.out; have := HK2.out; have := HK3.out; omega
   case rel => exact ⟨(x7_3), (wrap64 (x9_3 + 1)), zq8, H', ⟨zq42 HJ2 HK2 HK3⟩, ⟨by (try simp only [hl7_3]); (with_reducible repeat (first | apply zSa | apply zSn | apply zSd)); exact HO_6.out⟩, ⟨zq74 HO_7⟩, ⟨zq1⟩⟩
 rw [if_pos c29] at H
 have c29b0 := zdt c29
 clear c29
 revert H
 refine zin fun c30 H => ?_
 revert H
 refine zin fun c31 H => ?_
 replace H := zob H
 obtain ⟨t118, A320, H⟩ := H
 have A32 := zA A320
 clear A320
 obtain ⟨y119, hy119⟩ : ∃ y_ : List Int, y_ = (x7_3.set (x8_2 : Int).toNat t118) := ⟨_, rfl⟩
 rw [← hy119] at H; try with_reducible replace H := zbs H
 have Ny119 := zA hy119
 clear hy119
 have H' := zA H
 clear H
 obtain ⟨Ao34, co34, eo34⟩ := Kd.S_slice HO_6.out
 subst eo34
 have p112 : 0 ≤ (x8_2 : Int) := zde zq21
 have q112 : x8_2 < (t103.length : Int) := zde zq21
 obtain ⟨ad112, A112_0, c112_0, e112, hx112_0, hl112_0, hi112_0⟩ := zkm (zSr HO_6.out).2.2 x8_2 p112 q112
 cases e112
 obtain ⟨ce112, hce112, hMe112, hcc112⟩ := Kd.S_get HO_6.out [] x8_2 p112 (by first | exact q112 | exact zde zq21 | (have e_ := (zSr HO_6.out).1; omega))
 obtain ⟨ve112_0, rfl, ge112_0⟩ := hMe112
 have hv112_0 := hcc112 0 _ rfl
 rw [Nat.add_zero, show ((Kd.slice 3 (Kd.int .i64))).sz = 1 from rfl, Nat.mul_one] at hv112_0
 replace hv112_0 := zsi (hv112_0.symm.trans hx112_0)
 rw [hv112_0] at ge112_0
 have HL112_0 := zA (show Kd.R (Kd.int .i64) 3 _ _ _ _ (za1 t103 x8_2) from ge112_0)
 clear hv112_0 ge112_0
 clear hcc112 hce112
 have HR112_0 := zA hi112_0
 have HC112_0 := zA hl112_0
 clear hi112_0 hl112_0
 replace p112 := eq_true p112
 replace q112 := eq_true q112
 have p113 : 0 ≤ (x9_3 : Int) := zde zq21
 have q113 : x9_3 < ((za1 t103 x8_2).length : Int) := zde zq21
 obtain ⟨ad113, e113, hx113_0⟩ := Kd.at_int (zq20 HR112_0) x9_3 p113 q113
 cases e113
 replace p113 := eq_true p113
 replace q113 := eq_true q113
 try go_wp2
 replace HO_6 := zA (zSd HO_6.out)
 replace HO_7 := zA (zRd HO_7.out)
 replace HL112_0 := zA (zRd HL112_0.out)
 replace HR112_0 := zA (zCd HR112_0.out)
 replace HB := zA (zbd HB.out)
 obtain ⟨p114, q114⟩ := zpq x8_2 x7_3.length
 obtain ⟨ad114, e114, hx114_0⟩ := Kd.at_int (zRr HO_7.out).2.2 x8_2 (zoe p114) (zoe q114)
 obtain rfl : (⟨go21, 0, none⟩ : Addr) = ad114 := (by injection e114)
 (first | simp only [ze4] at hx114_0 | simp only [zns] at hx114_0 | simp only [Addr.add, Nat.zero_add] at hx114_0 | skip)
 obtain ⟨p115, q115⟩ := zpq x9_3 x7_3.length
 obtain ⟨ad115, e115, hx115_0⟩ := Kd.at_int (zRr HO_7.out).2.2 x9_3 (zoe p115) (zoe q115)
 obtain rfl : (⟨go21, 0, none⟩ : Addr) = ad115 := (by injection e115)
 (first | simp only [ze4] at hx115_0 | simp only [zns] at hx115_0 | simp only [Addr.add, Nat.zero_add] at hx115_0 | skip)
 have p116 : 0 ≤ (x8_2 : Int) := zde zq21
 have q116 : x8_2 < (t103.length : Int) := zde zq21
 obtain ⟨ad116, A116_0, c116_0, e116, hx116_0, hl116_0, hi116_0⟩ := zkm (zSr HO_6.out).2.2 x8_2 p116 q116
 obtain rfl : ad112 = ad116 := (by injection e116)
 obtain ⟨ce116, hce116, hMe116, hcc116⟩ := Kd.S_get HO_6.out [] x8_2 p116 (by first | exact q116 | exact zde zq21 | (have e_ := (zSr HO_6.out).1; omega))
 obtain ⟨ve116_0, rfl, ge116_0⟩ := hMe116
 have hv116_0 := hcc116 0 _ rfl
 rw [Nat.add_zero, show ((Kd.slice 3 (Kd.int .i64))).sz = 1 from rfl, Nat.mul_one] at hv116_0
 replace hv116_0 := zsi (hv116_0.symm.trans hx116_0)
 rw [hv116_0] at ge116_0
 have HL116_0 := zA (show Kd.R (Kd.int .i64) 3 _ _ _ _ (za1 t103 x8_2) from ge116_0)
 clear hv116_0 ge116_0
 clear hcc116 hce116
 have HR116_0 := zA hi116_0
 have HC116_0 := zA hl116_0
 clear hi116_0 hl116_0
 replace p116 := eq_true p116
 replace q116 := eq_true q116
 have p117 : 0 ≤ (x9_3 : Int) := zde zq21
 have q117 : x9_3 < ((za1 t103 x8_2).length : Int) := zde zq21
 obtain ⟨ad117, e117, hx117_0⟩ := Kd.at_int (zq20 HR116_0) x9_3 p117 q117
 cases e117
 replace p117 := eq_true p117
 replace q117 := eq_true q117
 refine zk4 (n := 21) (S := fun w' => w'.cell? ⟨go21, (x8_2).toNat, none⟩ = some (.int .i64 (rd x7_3 x8_2)) ∧ w'.cell? ⟨go21, (x9_3).toNat, none⟩ = some (.int .i64 (rd x7_3 x9_3)) ∧ w'.cell? (ad112.add (x8_2).toNat) = some (.slice (some ad117) (za1 t103 x8_2).length c116_0) ∧ w'.cell? (ad117.add (x9_3).toNat) = some (.int .i64 (rd (za1 t103 x8_2) x9_3))) (ds := [20]) #[false, false, false, false, false, false, false, false, false, false, false, false, false, false, false, false, false, false, false, false, false] zq27 rfl rfl ⟨hx114_0, hx115_0, hx116_0, hx117_0⟩ (fun hHeld => ?_); refine zia zpn zpa (fun HT_ HW_ => ?_)
 generalize wr.drew = w35 at HO_6 HO_7 HL112_0 HR112_0 HB HL116_0 HR116_0 hx114_0 hx115_0 hx116_0 hx117_0 hHeld ⊢
 refine zpu 0 57 HT_ ?_
 refine zpu 1 58 HT_ ?_
 refine zpu 2 59 HT_ ?_
 refine zpu 3 60 HT_ ?_
 refine zpu 4 61 HT_ ?_
 refine zpu 6 63 HT_ ?_
 refine zpu 7 64 HT_ ?_
 refine zpu 8 65 HT_ ?_
 refine zpu 10 67 HT_ ?_
 refine zpu 11 68 HT_ ?_
 refine zpu 12 69 HT_ ?_
 refine zpu 14 71 HT_ ?_
 refine ztu 5 62 HT_ HW_ hHeld ?_
 refine ztu 9 66 HT_ HW_ hHeld ?_
 refine ztu 13 70 HT_ HW_ hHeld ?_
 refine zpu 15 72 HT_ ?_
 refine ztu 16 73 HT_ HW_ hHeld ?_
 refine zpu 17 74 HT_ ?_
 refine one_ (i := 18) (N := some 75) #[true, true, true, true, true, true, true, true, true, true, true, true, true, true, true, true, true, true, true, false, false] rfl rfl (zj2 HT_.out zq27) (by decide) (fun K hK => ?_)
 refine zgo Tryz.func101 (zml (rd x7_3 x8_2) (wrap64 ((rd x7_3 x9_3) - (rd (za1 t103 x8_2) x9_3))) t118 _ A32.out) ?_
 rintro e w' ⟨rfl, ⟨nd, rfl⟩⟩
 refine ⟨_, rfl, ?_⟩
 have p33 : 0 ≤ (x8_2 : Int) := zde zq21
 have q33 : (x8_2 : Int) < ((x7_3.length : Int) : Int) := zde zq21
 obtain ⟨hx33_0, hf33_0⟩ := Kd.R_celln 0 HO_7.out (x8_2 : Int) p33 q33
 replace p33 := eq_true p33
 replace q33 := eq_true q33
 have HP36 := Kd.R_putn HO_7.out (x8_2 : Int) t118
 rw [← Ny119.out] at HP36
 have HQ36 := zA HP36
 clear HP36
 refine hK.out _ _ ⟨hHeld.1, hHeld.2.1, hHeld.2.2.1, hHeld.2.2.2⟩ (fun hHeld => ?_)
 clear hK K
 refine znm 75 ?_
 refine zpu 19 76 HT_ ?_
 refine zz1 (i := 20) (N := none) #[true, true, true, true, true, true, true, true, true, true, true, true, true, true, true, true, true, true, true, true, true] rfl rfl (zj2 HT_.out zq27) (by decide) (fun K hK => ?_)
 refine zsm (w1 := ?_) (by rfl) rfl ?_ ?_
 rotate_left
 · go_simp
   rfl
 refine hK.out _ _ ?_
 clear hK K
 refine zou (zlc HT_.out zq27) ?_
 try go_wp2
 (try simp only [← hl7_3])
 go_roundg k3
 case measure => have := HJ2.out; have := HK2.out; have := HK3.out; omega
 case rel => exact ⟨(y119), (wrap64 (x9_3 + 1)), zq8, H', ⟨zq42 HJ2 HK2 HK3⟩, ⟨by (try simp only [hl7_3]); (with_reducible repeat (first | apply zSa | apply zSn | apply zSd)); exact Kd.S_mono (Kd.S_far (p := ⟨go21, (x8_2 : Int).toNat, none⟩) (Kd.S_mono HO_6.out (fun k_ hk => (⟨hk, fun e_ => hk (by rw [e_]; rfl)⟩ : _ ∧ k_ ≠ go21))) (fun _ hk => hk.2) (.int .i64 t118)) (fun _ hk => hk.1)⟩, ⟨zq74 HQ36⟩, ⟨zq10 GB21⟩⟩
end Go.Proofs.YtabnafbgcpchdaaGreat.Q
end
