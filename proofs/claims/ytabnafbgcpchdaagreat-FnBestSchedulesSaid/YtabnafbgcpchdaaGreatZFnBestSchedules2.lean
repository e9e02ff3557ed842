/- Proved here: contracts of functions that the law FnBestSchedules reaches, and lemmas on what they compute; texts of this session and the printed words of the kit that they lean on, cut down and put together by its program link.py. Conditions: as each states. -/
import Derived.Laws.EntriesVeiled
import Derived.Lib.SliceRun
import Derived.LoopIn
import Derived.LoopNIn
import Derived.Maps.OwnOps
import Derived.Maps.Views
import Derived.OwnWalkIn
import Derived.RangeFuncBound
import Derived.RangeFuncCalls
import Derived.RangeFuncLeaves
import Derived.RangeFuncNested
import Derived.Shelf.Abstract
import Derived.Shelf.RegionOpen
import Derived.TacticsInMore
import Derived.WalkKit
import Derived.WalkSpells
import Derived.Test.YtabnafbgcpchdaaGreatZFnBestSchedules1
section
namespace Go.Proofs.YtabnafbgcpchdaaGreat.Q
open Go.RowKit Go.Proofs.YtabnafbgcpchdaaGreatW.PrintWords Go.Proofs.YtabnafbgcpchdaaGreatW.PrintLast Go.Proofs.YtabnafbgcpchdaaGreatW.PrintMore
set_option maxHeartbeats 8000000
set_option maxRecDepth 100000
attribute [local go_sem] zjj zjk zla zlb zh8 zh9 zjl zjm
set_option linter.unusedVariables false
set_option linter.unusedSimpArgs false
mutual
def zdy : Nat → List (S55) → List (List Int) → List (S55) → Int → Int → Option ((List (List Int)))
 | 0, _, _, _, _, _ => none
 | k + 1, x0, x3, x12, x13, x14 => if x14 < x13 then (if 0 ≤ x14 then (if x14 < (x12.length : Int) then ((zer (([(-1)] : List Int)) x14).bind fun t109 => (if x14 < (x3.length : Int) then (if x14 ≤ (x0.length : Int) then ((some (x0.take (x14 : Int).toNat : List (S55))).bind fun y113 => (zbv k x0 (x3.set (x14 : Int).toNat t109) x14 x12 x13 x14 y113 (y113.length : Int) 0 ((zaa x12 x14).f0) ((zaa x12 x14).f1) ((zaa x12 x14).f2) ((zaa x12 x14).f3) ((zaa x12 x14).f4))) else (none)) else (none))) else (none)) else (none)) else (some x3)
def zbv : Nat → List (S55) → List (List Int) → Int → List (S55) → Int → Int → List (S55) → Int → Int → ByteArray → Int → Int → Int → Int → Option ((List (List Int)))
 | 0, _, _, _, _, _, _, _, _, _, _, _, _, _, _ => none
 | k + 1, x0, x3, x4, x12, x13, x14, x27, x28, x29, x106000, x106001, x106002, x106003, x106004 => if x29 < x28 then (if 0 ≤ x29 then (if x29 < (x27.length : Int) then ((zdm k ((zaa x27 x29).f0) ((zaa x27 x29).f1) ((zaa x27 x29).f2) ((zaa x27 x29).f3) ((zaa x27 x29).f4)).bind fun t119 => ((zbm k t119 x106001).bind fun t122 => (if t122 = true then (if 0 ≤ x4 then (if x4 < (x3.length : Int) then (if x29 < ((za1 x3 x4).length : Int) then (zey k x0 (x3.set (x4 : Int).toNat ((za1 x3 x4).set (x29 : Int).toNat 0)) x4 x29 x12 x13 x14 x27 x28 x29 x106000 x106001 x106002 x106003 x106004 ((zaa x27 x29).f0) ((zaa x27 x29).f1) ((zaa x27 x29).f2) ((zaa x27 x29).f3) ((zaa x27 x29).f4)) else (none)) else (none)) else (none)) else (zey k x0 x3 x4 x29 x12 x13 x14 x27 x28 x29 x106000 x106001 x106002 x106003 x106004 ((zaa x27 x29).f0) ((zaa x27 x29).f1) ((zaa x27 x29).f2) ((zaa x27 x29).f3) ((zaa x27 x29).f4))))) else (none)) else (none)) else (zdy k x0 x3 x12 x13 (wrap64 (x14 + 1)))
def zey : Nat → List (S55) → List (List Int) → Int → Int → List (S55) → Int → Int → List (S55) → Int → Int → ByteArray → Int → Int → Int → Int → ByteArray → Int → Int → Int → Int → Option ((List (List Int)))
 | 0, _, _, _, _, _, _, _, _, _, _, _, _, _, _, _, _, _, _, _, _ => none
 | k + 1, x0, x3, x4, x6, x12, x13, x14, x27, x28, x29, x106000, x106001, x106002, x106003, x106004, x119000, x119001, x119002, x119003, x119004 => if x119001 = x106001 then (if 0 ≤ x4 then (if x4 < (x3.length : Int) then (if 0 ≤ x6 then (if x6 < ((za1 x3 x4).length : Int) then (zez k x0 (x3.set (x4 : Int).toNat ((za1 x3 x4).set (x6 : Int).toNat 1)) x4 x6 x12 x13 x14 x27 x28 x29 x106000 x106001 x106002 x106003 x106004 x119000 x119001 x119002 x119003 x119004) else (none)) else (none)) else (none)) else (none)) else (zez k x0 x3 x4 x6 x12 x13 x14 x27 x28 x29 x106000 x106001 x106002 x106003 x106004 x119000 x119001 x119002 x119003 x119004)
def zez : Nat → List (S55) → List (List Int) → Int → Int → List (S55) → Int → Int → List (S55) → Int → Int → ByteArray → Int → Int → Int → Int → ByteArray → Int → Int → Int → Int → Option ((List (List Int)))
 | 0, _, _, _, _, _, _, _, _, _, _, _, _, _, _, _, _, _, _, _, _ => none
 | k + 1, x0, x3, x4, x6, x12, x13, x14, x27, x28, x29, x106000, x106001, x106002, x106003, x106004, x119000, x119001, x119002, x119003, x119004 => if 0 ≤ (wrap64 (x6 + 1)) then (if (wrap64 (x6 + 1)) ≤ x4 then (if x4 ≤ (x0.length : Int) then ((zay k ((x0.take (x4 : Int).toNat).drop ((wrap64 (x6 + 1)) : Int).toNat) [(⟨x119000, x119001, x119002, x119003, x119004⟩ : S55)]).bind fun t135 => ((zdm k x106000 x106001 x106002 x106003 x106004).bind fun t136 => ((zbm k t136 x119001).bind fun t139 => (if t139 = true then (if t135 = true then (zbv k x0 x3 x4 x12 x13 x14 x27 x28 (wrap64 (x29 + 1)) x106000 x106001 x106002 x106003 x106004) else (if 0 ≤ x4 then (if x4 < (x3.length : Int) then (if 0 ≤ x6 then (if x6 < ((za1 x3 x4).length : Int) then ((zdx x119000 x119001 x119002 x119003 x119004).bind fun t143 => (zbv k x0 (x3.set (x4 : Int).toNat ((za1 x3 x4).set (x6 : Int).toNat (mx (rd (za1 x3 x4) x6) t143))) x4 x12 x13 x14 x27 x28 (wrap64 (x29 + 1)) x106000 x106001 x106002 x106003 x106004)) else (none)) else (none)) else (none)) else (none))) else (zbv k x0 x3 x4 x12 x13 x14 x27 x28 (wrap64 (x29 + 1)) x106000 x106001 x106002 x106003 x106004))))) else (none)) else (none)) else (none)
end
def zes (k : Nat) (l0 : List (S55)) : Option ((List (List Int))) := if 0 ≤ (l0.length : Int) then (if ((l0.length : Int) : Int).toNat ≤ 11728124029610 then (zdy k l0 (List.replicate ((l0.length : Int) : Int).toNat []) l0 (l0.length : Int) 0) else (none)) else (none)
theorem zmi : ∀ k, (∀ y0 y1 y2 y3 y4, LeO (zdy k y0 y1 y2 y3 y4) (zdy (k + 1) y0 y1 y2 y3 y4)) ∧ (∀ y0 y1 y2 y3 y4 y5 y6 y7 y8 y9 y10 y11 y12 y13, LeO (zbv k y0 y1 y2 y3 y4 y5 y6 y7 y8 y9 y10 y11 y12 y13) (zbv (k + 1) y0 y1 y2 y3 y4 y5 y6 y7 y8 y9 y10 y11 y12 y13)) ∧ (∀ y0 y1 y2 y3 y4 y5 y6 y7 y8 y9 y10 y11 y12 y13 y14 y15 y16 y17 y18 y19, LeO (zey k y0 y1 y2 y3 y4 y5 y6 y7 y8 y9 y10 y11 y12 y13 y14 y15 y16 y17 y18 y19) (zey (k + 1) y0 y1 y2 y3 y4 y5 y6 y7 y8 y9 y10 y11 y12 y13 y14 y15 y16 y17 y18 y19)) ∧ (∀ y0 y1 y2 y3 y4 y5 y6 y7 y8 y9 y10 y11 y12 y13 y14 y15 y16 y17 y18 y19, LeO (zez k y0 y1 y2 y3 y4 y5 y6 y7 y8 y9 y10 y11 y12 y13 y14 y15 y16 y17 y18 y19) (zez (k + 1) y0 y1 y2 y3 y4 y5 y6 y7 y8 y9 y10 y11 y12 y13 y14 y15 y16 y17 y18 y19))
 | 0 => ⟨fun _ _ _ _ _ r h => by simp [zdy] at h, fun _ _ _ _ _ _ _ _ _ _ _ _ _ _ r h => by simp [zbv] at h, fun _ _ _ _ _ _ _ _ _ _ _ _ _ _ _ _ _ _ _ _ r h => by simp [zey] at h, fun _ _ _ _ _ _ _ _ _ _ _ _ _ _ _ _ _ _ _ _ r h => by simp [zez] at h⟩
 | k + 1 => by
   obtain ⟨ih0, ih1, ih2, ih3⟩ := zmi k
   refine ⟨?_, ?_, ?_, ?_⟩
   · intro y0 y1 y2 y3 y4
     unfold zdy
     exact zm7 ih0 ih1 ih2 ih3 zgb zce zbg
   · intro y0 y1 y2 y3 y4 y5 y6 y7 y8 y9 y10 y11 y12 y13
     unfold zbv
     exact zm7 ih0 ih1 ih2 ih3 zgb zce zbg
   · intro y0 y1 y2 y3 y4 y5 y6 y7 y8 y9 y10 y11 y12 y13 y14 y15 y16 y17 y18 y19
     unfold zey
     exact zm7 ih0 ih1 ih2 ih3 zgb zce zbg
   · intro y0 y1 y2 y3 y4 y5 y6 y7 y8 y9 y10 y11 y12 y13 y14 y15 y16 y17 y18 y19
     unfold zez
     exact zm7 ih0 ih1 ih2 ih3 zgb zce zbg
theorem zdv : ∀ a0 k, LeO (zes k a0) (zes (k + 1) a0) := by
 intro a0 k
 obtain ⟨ih0, ih1, ih2, ih3⟩ := zmi k
 unfold zes
 exact zm7 ih0 ih1 ih2 ih3 zgb zce zbg
def impl_delays.T14 : Bool × List (List Nat × List Nat) := (true, [([], []), ([0], [0]), ([], []), ([2], [2]), ([1, 3, 1], [1, 3]), ([4, 4], [4]), ([5], [5]), ([6, 5], [5, 6]), ([5, 7], [5, 7])])
def zr0 : List Nat := [0, 1, 0, 4, 15, 31, 63, 127, 255]
theorem zkq : rtab .any (zuf Tryz.f59 14) = impl_delays.T14 := by kernel_rfl
theorem zj4 : zke impl_delays.T14.2 zr0 = true := by kernel_rfl
def impl_delays.T15 : Bool × List (List Nat × List Nat) := (true, [([], []), ([], []), ([0, 1], [0, 1]), ([2], [2]), ([], []), ([], []), ([], []), ([5, 6], [5, 6]), ([7], [7]), ([], []), ([8, 9], [8, 9]), ([10], [10]), ([], []), ([12], [12]), ([11, 13], [11, 13]), ([3, 4, 0, 1, 2, 3, 4, 5, 6, 7, 8, 9, 10, 11, 12, 13, 14], [3, 4]), ([15, 14, 13, 0, 1, 2, 3, 4, 5, 6, 7, 8, 9, 10, 11, 12, 13, 14], [14, 15])])
def zr1 : List Nat := [0, 0, 3, 7, 0, 0, 0, 96, 224, 0, 992, 2016, 0, 4096, 16352, 32767, 65535]
theorem zqp : rtab .any (zuf Tryz.f59 15) = impl_delays.T15 := by kernel_rfl
theorem zp1 : zke impl_delays.T15.2 zr1 = true := by kernel_rfl
theorem zg4 (k : Nat) (A0 : Option Addr) (c0 : Nat) (l0 : List (S55)) (r : List (List Int)) (w : World) (hr0 : Kd.C k55 w A0 l0.length l0) (hc0 : l0.length ≤ c0) (h : zes k l0 = some r) :
   Calls Tryz.prog 59 #[.slice A0 l0.length c0] w fun e w' => ∃ v0_ : Value, e = .returned (v0_) ∧ Kd.S (Kd.slice 3 (Kd.int .i64)) 25 w' w.heap.size (fun _ => True) v0_ r ∧ Below w.heap.size w w' := by
 have hu55 := Tryz.underlying55
 have HR0 := zA hr0
 have HC0 := zA hc0
 clear hr0 hc0
 have HB := zA (Below.refl w.heap.size w)
 have H := h
 unfold zes at H
 clear h
 by_cases c2 : 0 ≤ (l0.length : Int)
 rotate_left
 · rw [if_neg c2] at H
   exact absurd H (by simp)
 rw [if_pos c2] at H
 have c2b0 := eq_true c2
 have c2b1 := zdt c2
 clear c2
 by_cases c3 : ((l0.length : Int) : Int).toNat ≤ 11728124029610
 rotate_left
 · rw [if_neg c3] at H
   exact absurd H (by simp)
 rw [if_pos c3] at H
 have c3b0 := eq_true c3
 have c3b1 := zdt c3
 clear c3
 obtain ⟨y101, hy101⟩ : ∃ y_ : List (List Int), y_ = (List.replicate ((l0.length : Int) : Int).toNat []) := ⟨_, rfl⟩
 rw [← hy101] at H; try with_reducible replace H := zbs H
 have Ny101 := zA hy101
 clear hy101
 have H' := zA H
 clear H
 go_enter Tryz.func59, Tryz.ntmps59
 go_wp2_with (first | ((with_reducible refine zgd 11 ?_); refine Kd.S_make (Kd.slice 3 (Kd.int .i64)) _ 25 rfl (N := 11) rfl 36 _ _ rfl (l0.length : Int) rfl rfl Tryz.underlying36 (.slice none 0 0) 24 ybb rfl (by decide) (by omega) [] (ok := fun _ => True) (okp := fun _ => True) ⟨_, rfl, Kd.R_nil _ _ _ _ _⟩ (fun _ hk => hk) trivial (zde zq21) (Nat.le_trans (Nat.mul_le_mul_right _ (zde zq21 : (l0.length : Int).toNat ≤ 11728124029610)) (by omega)) (Below.refl _ _) (zlr _) ?_; intro v102 w4 ho5 hb hg_ hnew_; clear hg_ hnew_; (first | rw [← Ny101.out] at ho5 | (simp only [Int.reduceToNat] at ho5; rw [← Ny101.out] at ho5)); have HO103 := zA (Kd.S_lower ho5 (zah zq1)); replace HB := zA (zac zq1 hb); clear hb ho5))
 go_loopg [14] k (fun kq v14 w' => ∃ (x3_1 : List (List Int)) (x14_1 : Int), v14 = .int .i64 x14_1 ∧ Aside0 (zdy kq l0 x3_1 l0 (l0.length : Int) x14_1 = some r) ∧ Aside0 (kq ≤ k) ∧ Aside0 (Kd.S (Kd.slice 3 (Kd.int .i64)) 25 w' w.heap.size (fun _ => True) v102 x3_1) ∧ Aside0 (Below w.heap.size w w'))
 case atStart => exact ⟨(y101), (0), zq8, H', ⟨zlr _⟩, ⟨zq16 HO103⟩, ⟨zq1⟩⟩
 clear H'
 obtain ⟨x3_1, x14_1, rfl, HA, HK1, HO_3, HB⟩ := hrel
 cases gk with
 | zero => exact absurd HA.out (by simp [zdy])
 | succ k1 =>
 have H := HA.out
 clear HA
 simp only [zdy] at H
 revert H
 refine zit (fun c6 H => ?_) fun c6 H => ?_
 rotate_left
 · obtain rfl := zsi H
   go_wp2
   go_ret
   exact ⟨_, zq5, zq16 HO_3, zq1⟩
 revert H
 refine zin fun c7 H => ?_
 revert H
 refine zin fun c8 H => ?_
 obtain ⟨y106, hy106⟩ : ∃ y_ : List Int, y_ = (([(-1)] : List Int)) := ⟨_, rfl⟩
 rw [← hy106] at H; try with_reducible replace H := zbs H
 have Ny106 := zA hy106
 clear hy106
 replace H := zob H
 obtain ⟨t109, A90, H⟩ := H
 have A9 := zA A90
 clear A90
 revert H
 refine zin fun c10 H => ?_
 obtain ⟨y112, hy112⟩ : ∃ y_ : List (List Int), y_ = (x3_1.set (x14_1 : Int).toNat t109) := ⟨_, rfl⟩
 rw [← hy112] at H; try with_reducible replace H := zbs H
 have Ny112 := zA hy112
 clear hy112
 have c12b0 := eq_true (zde zq21 : 0 ≤ x14_1)
 by_cases c13 : x14_1 ≤ (l0.length : Int)
 rotate_left
 · rw [if_neg c13] at H
   exact absurd H (by simp)
 rw [if_pos c13] at H
 have c13b0 := eq_true c13
 have c13b1 := zdt c13
 clear c13
 obtain ⟨y113, hy113⟩ : ∃ y_ : List (S55), y_ = (l0.take (x14_1 : Int).toNat) := ⟨_, rfl⟩
 rw [← hy113] at H; try with_reducible replace H := zbs H
 have Ny113 := zA hy113
 clear hy113
 have H' := zA H
 clear H
 obtain ⟨p104, q104⟩ := zpq x14_1 l0.length
 obtain ⟨ad104, e104, hx104_0, hx104_1, hx104_2, hx104_3, hx104_4⟩ := zi7 HR0.out x14_1 (zoe p104) (zoe q104)
 cases e104
 replace hx104_0 := zkep HB.out hx104_0
 replace hx104_1 := zkep HB.out hx104_1
 replace hx104_2 := zkep HB.out hx104_2
 replace hx104_3 := zkep HB.out hx104_3
 replace hx104_4 := zkep HB.out hx104_4
 go_wp2_with (first | ((with_reducible refine zgd 5 ?_); refine zbx #[.string (⟨#[]⟩ : ByteArray), .int .i64 0, .int .i64 0, .int .i64 0, .int .i64 0] 55 ?_; intro gb105 hg w14 hbox hb; have zs := zpair zq1 hb; replace HO_3 := zA (Kd.S_below (zq16 HO_3) hb); replace HB := zA (zs.1); have BK105 := zA (hbox); have GW105 := zA (zge hg zs.2); have GE105 := GW105; clear zs hb hbox hg; obtain ⟨hcz15_0, hcz15_1, hcz15_2, hcz15_3, hcz15_4, hfz15_0, hfz15_1, hfz15_2, hfz15_3, hfz15_4⟩ := zd5 BK105) | ((with_reducible refine zgd 21 ?_); refine Kd.R_lit (Kd.int .i64) _ 3 ?hg (N := 21) ?hd (xs := ([(-1)] : List Int)) (inner := [.int .i64 (-1)]) (ok := fun _ => True) (okp := fun _ => True) ?hr ?hp (fun _ hk => hk) trivial (Below.refl _ _) (zlr _) (by simp) ?_; (case hd => rfl); (case hg => rfl); (case hr => go_simp <;> rfl); (case hp => exact (zak (show Kd.M (Kd.int .i64) _ _ _ (-1) [.int .i64 (-1)] from rfl) (Reps.none _ _))); intro v107 w16 ho17 hb hg_ hnew_; clear hg_ hnew_; (first | rw [← Ny106.out] at ho17 | (simp only [Int.reduceToNat] at ho17; rw [← Ny106.out] at ho17)); replace HO_3 := zA (Kd.S_elder' (by (with_reducible repeat (first | apply zSa | apply zSn | apply zSd)); exact (Kd.S_mono (Kd.S_far (p := ⟨gb105, 4, none⟩) (Kd.S_far (p := ⟨gb105, 3, none⟩) (Kd.S_far (p := ⟨gb105, 2, none⟩) (Kd.S_far (p := ⟨gb105, 1, none⟩) (Kd.S_far (p := ⟨gb105, 0, none⟩) (Kd.S_types HO_3.out BK105.out (by decide)) (fun _ hk => hk.2) (.string ((zaa l0 x14_1).f0))) (fun _ hk => hk.2) (.int .i64 ((zaa l0 x14_1).f1))) (fun _ hk => hk.2) (.int .i64 ((zaa l0 x14_1).f2))) (fun _ hk => hk.2) (.int .i64 ((zaa l0 x14_1).f3))) (fun _ hk => hk.2) (.int .i64 ((zaa l0 x14_1).f4))) (fun _ h_ => h_.1))) (Kd.R_base ho17) hb); have HO108 := zA (Kd.R_lower ho17 (zah (zq10 GE105))); replace BK105 := zA (zag (g := gb105) (o := .cells #[.string ((zaa l0 x14_1).f0), .int .i64 ((zaa l0 x14_1).f1), .int .i64 ((zaa l0 x14_1).f2), .int .i64 ((zaa l0 x14_1).f3), .int .i64 ((zaa l0 x14_1).f4)] 55 (0, 0)) (by (with_reducible repeat (first | refine zkn ?_ _ | refine zkd ?_ | refine zka ?_ _)); refine zaw (cs := #[.string ((zaa l0 x14_1).f0), .int .i64 ((zaa l0 x14_1).f1), .int .i64 ((zaa l0 x14_1).f2), .int .i64 ((zaa l0 x14_1).f3), .int .i64 0]) ?_ 4 _ rfl; (with_reducible repeat (first | refine zkn ?_ _ | refine zkd ?_ | refine zka ?_ _)); refine zaw (cs := #[.string ((zaa l0 x14_1).f0), .int .i64 ((zaa l0 x14_1).f1), .int .i64 ((zaa l0 x14_1).f2), .int .i64 0, .int .i64 0]) ?_ 3 _ rfl; (with_reducible repeat (first | refine zkn ?_ _ | refine zkd ?_ | refine zka ?_ _)); refine zaw (cs := #[.string ((zaa l0 x14_1).f0), .int .i64 ((zaa l0 x14_1).f1), .int .i64 0, .int .i64 0, .int .i64 0]) ?_ 2 _ rfl; (with_reducible repeat (first | refine zkn ?_ _ | refine zkd ?_ | refine zka ?_ _)); refine zaw (cs := #[.string ((zaa l0 x14_1).f0), .int .i64 0, .int .i64 0, .int .i64 0, .int .i64 0]) ?_ 1 _ rfl; (with_reducible repeat (first | refine zkn ?_ _ | refine zkd ?_ | refine zka ?_ _)); refine zaw (cs := #[.string (⟨#[]⟩ : ByteArray), .int .i64 0, .int .i64 0, .int .i64 0, .int .i64 0]) ?_ 0 _ rfl; (with_reducible repeat (first | refine zkn ?_ _ | refine zkd ?_ | refine zka ?_ _)); exact BK105.out) hb); replace HB := zA (zac (zq10 GE105) hb); clear hb ho17; obtain ⟨Ao18, co18, eo18⟩ := Kd.R_slice HO108.out; subst eo18) | ((with_reducible refine zgc 83 ?_); refine zca 23 Tryz.func83 #[.slice Ao18 y106.length co18, .int .i64 x14_1] (zip _ _ y106 x14_1 t109 _ (zq18 HO108) (zq43 HO108) A9.out) ?_; rintro e w19 ⟨v110, rfl, ho0, hb⟩; refine ⟨_, rfl, ?_⟩; replace HO_3 := zA (Kd.S_elder' (zq16 HO_3) (Kd.R_base ho0) hb); have HO111 := zA (Kd.R_lower (Kd.R_new' ho0 (Kd.R_lt (zq2 HO108))) (zah (zq10 GE105))); replace HO108 := zA (Kd.R_elder' (zq2 HO108) (Kd.R_base ho0) hb); replace BK105 := zbb BK105 hb; replace HB := zA (zac (zq10 GE105) hb); (try clear hb); (try clear ho0); have p11 : 0 ≤ (x14_1 : Int) := zde zq21; have q11 : (x14_1 : Int) < ((x3_1.length : Int) : Int) := zde zq21; obtain ⟨go11, co11, eo11, gb11, gl11, cl11, HG11⟩ := Kd.S_form HO_3.out (by omega); (first | cases eo11 | (injection eo11 with ea_ en_ ec_; (first | subst ea_ | (injection ea_ with ea_; subst ea_)); subst ec_; clear en_)); have GB11 := zA gb11; have GG11 := zA HG11; clear gb11 gl11 HG11; obtain ⟨_, ce11, hcl11, hM11, hcc11, hfr11, _, _⟩ := Kd.S_elem HO_3.out [] (x14_1 : Int) p11 q11; obtain ⟨ve11_0, rfl, ge11_0⟩ := (id hM11); have hx11_0 := hcc11 0 _ rfl; have hf11_0 := hfr11 0; (try simp only [show ((Kd.slice 3 (Kd.int .i64))).sz = 1 from rfl, Nat.mul_one, Nat.add_zero] at hx11_0); (try simp only [show ((Kd.slice 3 (Kd.int .i64))).sz = 1 from rfl, Nat.mul_one, Nat.add_zero] at hf11_0); clear hcl11 hcc11 hfr11 hM11; replace p11 := eq_true p11; replace q11 := eq_true q11; obtain ⟨Ao20, co20, eo20⟩ := Kd.R_slice HO111.out; subst eo20; have n_ := zA (Kd.S_mono (ok' := (fun k_ => some k_ ≠ (.slice Ao18 y106.length co18 : Value).ownBlock ∧ some k_ ≠ (.slice Ao20 t109.length co20 : Value).ownBlock)) HO_3.out (fun k_ hk => ⟨hk.1.2, hk.2⟩)); clear HO_3; have HO_3 := n_; clear n_; have HX21 := zA (show Kd.S (Kd.slice 3 (Kd.int .i64)) 25 w19 w.heap.size (fun k_ => ((fun k_ => some k_ ≠ (.slice Ao18 y106.length co18 : Value).ownBlock)) k_ ∧ ¬ ((fun k_ => some k_ = (.slice Ao20 t109.length co20 : Value).ownBlock)) k_) (.slice (some ⟨go11, 0, none⟩) x3_1.length co11) x3_1 from (by (with_reducible repeat (first | apply zSa | apply zSn | apply zSd)); exact Kd.S_mono HO_3.out (fun k_ hk => ⟨hk.1, fun e_ => hk.2 e_⟩))); obtain ⟨oki21, ce21, hcl21, hM21, hcc21, hfr21, hoki21, hH21⟩ := Kd.S_elem HX21.out [] (x14_1 : Int) (zde zq21) (by have h_ : (x14_1 : Int) < ((x3_1.length : Int) : Int) := zde zq21; first | exact h_ | (have e_ := (zSr HO_3.out).1; omega) | simpa using h_); obtain ⟨ve21_0, rfl, ge21_0⟩ := (id hM21); have HP21 := Kd.S_seg hH21 (zde zq21) (by have h_ : (x14_1 : Int) < ((x3_1.length : Int) : Int) := zde zq21; first | exact h_ | (have e_ := (zSr HO_3.out).1; omega) | simpa using h_) (seg := [.slice Ao20 t109.length co20]) (j := 0) (show 1 ≤ 1 from by decide) (x' := t109) (Kd.M_row (Kd.R_mono (Kd.R_tight rfl (Kd.R_mono (ok' := fun k_ => ((fun k_ => some k_ ≠ (.slice Ao18 y106.length co18 : Value).ownBlock)) k_ ∧ k_ ≠ go11) (Kd.R_apart' (HO111.out) (Kd.S_typed HO_3.out) (by decide)) (fun k_ hk => ⟨hk.1.2, fun e_ => (hk.2) (by rw [e_]; rfl)⟩))) (fun _ h_ => Or.inr (h_)))) (fun _ hk => hk) (fun k_ hk_ => ((Kd.R_mono (ok' := fun k_ => ((fun k_ => some k_ ≠ (.slice Ao18 y106.length co18 : Value).ownBlock)) k_ ∧ k_ ≠ go11) (Kd.R_apart' (HO111.out) (Kd.S_typed HO_3.out) (by decide)) (fun k_ hk => ⟨hk.1.2, fun e_ => (hk.2) (by rw [e_]; rfl)⟩))).1 k_ hk_.symm); have hx21_0 := hcc21 0 _ rfl; (try simp only [show ((Kd.slice 3 (Kd.int .i64))).sz = 1 from rfl, Nat.mul_one, Nat.add_zero] at hx21_0); have hf21_0 := hfr21 0; (try simp only [show ((Kd.slice 3 (Kd.int .i64))).sz = 1 from rfl, Nat.mul_one, Nat.add_zero] at hf21_0); clear hcl21 hcc21 hfr21 hM21 hoki21 hH21; (try simp only [show ((Kd.slice 3 (Kd.int .i64))).sz = 1 from rfl, Nat.mul_one, Nat.add_zero] at HP21)) | ((with_reducible refine zgs 25 24 ?_); refine zse (w19.setCell ⟨go11, (x14_1 : Int).toNat, none⟩ (.slice Ao20 t109.length co20)) ?_; intro w22 hw; have hg : w19.grownBy w22 (some go11) := (by rw [hw]; exact HP21.2); have hp_ : Kd.S (Kd.slice 3 (Kd.int .i64)) 25 w22 w.heap.size (fun k_ => some k_ ≠ (.slice Ao18 y106.length co18 : Value).ownBlock) (.slice (some ⟨go11, 0, none⟩) x3_1.length co11) y112 := (by rw [hw, Ny112.out]; exact HP21.1); clear HP21; replace BK105 := zA (zgv (g := gb105) (o := .cells #[.string ((zaa l0 x14_1).f0), .int .i64 ((zaa l0 x14_1).f1), .int .i64 ((zaa l0 x14_1).f2), .int .i64 ((zaa l0 x14_1).f3), .int .i64 ((zaa l0 x14_1).f4)] 55 (0, 0)) (zq4 BK105) hg (Kd.S_ne HO_3.out BK105.out (by decide))); replace HO108 := zA (Kd.R_over' (v := (.slice (some ⟨go11, 0, none⟩) x3_1.length co11)) (zq2 HO108) (Kd.S_typed HO_3.out) (by decide) hg); replace HO_3 := zA (hp_); replace HB := zA ((zq57 GB11 : Below w.heap.size w w22)); clear HO111; clear hg hw hp_; have q23 : (x14_1 : Int) ≤ ((l0.length : Int) : Int) := zde zq21; obtain ⟨i023, hi023, _, hsz23, _⟩ := info_parts zrw; have hroom23 : l0.length ≤ c0 := HC0.out; have hC23 : Kd.C k55 _ (some ad104) l0.length l0 := HR0.out; have hcut23 := zxw (P := Tryz.prog) 24 55 .i64 Tryz.underlying24 hi023 (some ad104) l0.length c0 x14_1 (zde zq21) q23 hroom23; have hr23 := Kd.C_take (m := (x14_1 : Int).toNat) hC23 (by omega); have hy23 : y113.length = (x14_1 : Int).toNat := (by rw [Ny113.out, List.length_take]; omega); rw [← Ny113.out] at hr23; rw [← hy23] at hcut23; have HR116 := zA hr23; have HC116 := zA (show y113.length ≤ c0 from by omega); clear hr23 hC23 hroom23 hi023 hsz23; have KY23 := zA hy23; clear hy23; replace q23 := eq_true q23))
 go_loopg [29] k1 (fun kq v29 w' => ∃ (x3_2 : List (List Int)) (x29_2 : Int), v29 = .int .i64 x29_2 ∧ Aside0 (zbv kq l0 x3_2 x14_1 l0 (l0.length : Int) x14_1 y113 (y113.length : Int) x29_2 ((zaa l0 x14_1).f0) ((zaa l0 x14_1).f1) ((zaa l0 x14_1).f2) ((zaa l0 x14_1).f3) ((zaa l0 x14_1).f4) = some r) ∧ Aside0 (kq ≤ k1) ∧ Aside0 (Kd.S (Kd.slice 3 (Kd.int .i64)) 25 w' w.heap.size (fun _ => True) (.slice (some ⟨go11, 0, none⟩) x3_1.length co11) x3_2) ∧ Aside0 (w'.heap[gb105]? = some (.cells #[.string ((zaa l0 x14_1).f0), .int .i64 ((zaa l0 x14_1).f1), .int .i64 ((zaa l0 x14_1).f2), .int .i64 ((zaa l0 x14_1).f3), .int .i64 ((zaa l0 x14_1).f4)] 55 (0, 0))) ∧ Aside0 (Below w.heap.size w w'))
 case atStart => exact ⟨(y112), (0), zq8, H', ⟨zlr _⟩, ⟨by (with_reducible repeat (first | apply zSa | apply zSn | apply zSd)); exact Kd.S_mono HO_3.out (fun _ hk => trivial)⟩, ⟨zq4 BK105⟩, ⟨zq10 GE105⟩⟩
 clear H'
 obtain ⟨x3_2, x29_2, rfl, HA, HK2, HO_3, BK105, HB⟩ := hrel
 have hl3_2 := (zSr HO_3.out).1
 rw [hl3_2] at HO_3
 (try simp only [hl3_2])
 (try simp only [hl3_2] at BK105)
 cases gk with
 | zero => exact absurd HA.out (by simp [zbv])
 | succ k2 =>
 have H := HA.out
 clear HA
 simp only [zbv] at H
 by_cases c24 : x29_2 < (y113.length : Int)
 rotate_left
 · rw [if_neg c24] at H
   have c24b0 := zdf c24
   have c24b0h := c24b0
   try simp only [hl3_2] at c24b0h
   clear c24
   have H' := zA H
   clear H
   go_wp2
   (try simp only [← hl3_2])
   go_roundg k2
   case measure => have := HK1.out; have := HK2.out; omega
   case rel => exact ⟨(x3_2), (wrap64 (x14_1 + 1)), zq8, H', ⟨zq48 HK1 HK2⟩, ⟨by (try simp only [hl3_2]); (with_reducible repeat (first | apply zSa | apply zSn | apply zSd)); exact HO_3.out⟩, ⟨zq10 GE105⟩⟩
 rw [if_pos c24] at H
 have c24b0 := zdt c24
 have c24b0h := c24b0
 try simp only [hl3_2] at c24b0h
 clear c24
 revert H
 refine zin fun c25 H => ?_
 by_cases c26 : x29_2 < (y113.length : Int)
 rotate_left
 · rw [if_neg c26] at H
   exact absurd H (by simp)
 rw [if_pos c26] at H
 have c26b0 := zdt c26
 have c26b0h := c26b0
 try simp only [hl3_2] at c26b0h
 clear c26
 replace H := zob H
 obtain ⟨t119, A270, H⟩ := H
 have A27 := zA A270
 clear A270
 replace H := zob H
 obtain ⟨t122, A280, H⟩ := H
 have A28 := zA A280
 clear A280
 have HC29 := zA H
 clear H
 obtain ⟨p117, q117⟩ := zpq x29_2 y113.length
 obtain ⟨ad117, e117, hx117_0, hx117_1, hx117_2, hx117_3, hx117_4⟩ := zi7 HR116.out x29_2 (zoe p117) (zoe q117)
 obtain rfl : ad104 = ad117 := (by injection e117)
 replace hx117_0 := zkep HB.out hx117_0
 replace hx117_1 := zkep HB.out hx117_1
 replace hx117_2 := zkep HB.out hx117_2
 replace hx117_3 := zkep HB.out hx117_3
 replace hx117_4 := zkep HB.out hx117_4
 try go_wp2_with (first | ((with_reducible refine zgd 7 ?_); refine zbx #[.string (⟨#[]⟩ : ByteArray), .int .i64 0, .int .i64 0, .int .i64 0, .int .i64 0] 55 ?_; intro gb118 hg w30 hbox hb; have zs := zpair (zq10 GE105) hb; replace HO_3 := zA (Kd.S_below (zq16 HO_3) hb); replace HB := zA (zs.1); have BK118 := zA (hbox); have GW118 := zA (zge hg zs.2); have GE118 := GW118; have NB105_118 := zA ((zq35 BK105 : gb105 ≠ gb118)); replace BK105 := zbb BK105 hb; have NB118_105 := zA (Ne.symm NB105_118.out); clear zs hb hbox hg; have hnb31 := NB118_105.out; have hnc31 := NB105_118.out; obtain ⟨hcz32_0, hcz32_1, hcz32_2, hcz32_3, hcz32_4, hfz32_0, hfz32_1, hfz32_2, hfz32_3, hfz32_4⟩ := zd5 BK118))
 have n0_ : Aside0 (Kd.S (Kd.slice 3 (Kd.int .i64)) 25 (((((w30.setCell ⟨gb118, 0, none⟩ (.string ((zaa y113 x29_2).f0))).setCell ⟨gb118, 1, none⟩ (.int .i64 ((zaa y113 x29_2).f1))).setCell ⟨gb118, 2, none⟩ (.int .i64 ((zaa y113 x29_2).f2))).setCell ⟨gb118, 3, none⟩ (.int .i64 ((zaa y113 x29_2).f3))).setCell ⟨gb118, 4, none⟩ (.int .i64 ((zaa y113 x29_2).f4))) w.heap.size (fun _ => True) (.slice (some ⟨go11, 0, none⟩) x3_2.length co11) x3_2) := ⟨by (with_reducible repeat (first | apply zSa | apply zSn | apply zSd)); exact Kd.S_mono (Kd.S_far (p := ⟨gb118, 4, none⟩) (Kd.S_far (p := ⟨gb118, 3, none⟩) (Kd.S_far (p := ⟨gb118, 2, none⟩) (Kd.S_far (p := ⟨gb118, 1, none⟩) (Kd.S_far (p := ⟨gb118, 0, none⟩) (Kd.S_types HO_3.out BK118.out (by decide)) (fun _ hk => hk.2) (.string ((zaa y113 x29_2).f0))) (fun _ hk => hk.2) (.int .i64 ((zaa y113 x29_2).f1))) (fun _ hk => hk.2) (.int .i64 ((zaa y113 x29_2).f2))) (fun _ hk => hk.2) (.int .i64 ((zaa y113 x29_2).f3))) (fun _ hk => hk.2) (.int .i64 ((zaa y113 x29_2).f4))) (fun _ hk => trivial)⟩
 have n1_ : Aside0 ((((((w30.setCell ⟨gb118, 0, none⟩ (.string ((zaa y113 x29_2).f0))).setCell ⟨gb118, 1, none⟩ (.int .i64 ((zaa y113 x29_2).f1))).setCell ⟨gb118, 2, none⟩ (.int .i64 ((zaa y113 x29_2).f2))).setCell ⟨gb118, 3, none⟩ (.int .i64 ((zaa y113 x29_2).f3))).setCell ⟨gb118, 4, none⟩ (.int .i64 ((zaa y113 x29_2).f4))).heap[gb105]? = some (.cells #[.string ((zaa l0 x14_1).f0), .int .i64 ((zaa l0 x14_1).f1), .int .i64 ((zaa l0 x14_1).f2), .int .i64 ((zaa l0 x14_1).f3), .int .i64 ((zaa l0 x14_1).f4)] 55 (0, 0))) := ⟨zq22 NB105_118 BK105⟩
 have n2_ : Aside0 ((((((w30.setCell ⟨gb118, 0, none⟩ (.string ((zaa y113 x29_2).f0))).setCell ⟨gb118, 1, none⟩ (.int .i64 ((zaa y113 x29_2).f1))).setCell ⟨gb118, 2, none⟩ (.int .i64 ((zaa y113 x29_2).f2))).setCell ⟨gb118, 3, none⟩ (.int .i64 ((zaa y113 x29_2).f3))).setCell ⟨gb118, 4, none⟩ (.int .i64 ((zaa y113 x29_2).f4))).heap[gb118]? = some (.cells #[.string ((zaa y113 x29_2).f0), .int .i64 ((zaa y113 x29_2).f1), .int .i64 ((zaa y113 x29_2).f2), .int .i64 ((zaa y113 x29_2).f3), .int .i64 ((zaa y113 x29_2).f4)] 55 (0, 0))) := ⟨by (with_reducible repeat (first | refine zkn ?_ _ | refine zkd ?_ | refine zka ?_ _)); refine zaw (cs := #[.string ((zaa y113 x29_2).f0), .int .i64 ((zaa y113 x29_2).f1), .int .i64 ((zaa y113 x29_2).f2), .int .i64 ((zaa y113 x29_2).f3), .int .i64 0]) ?_ 4 _ rfl; (with_reducible repeat (first | refine zkn ?_ _ | refine zkd ?_ | refine zka ?_ _)); refine zaw (cs := #[.string ((zaa y113 x29_2).f0), .int .i64 ((zaa y113 x29_2).f1), .int .i64 ((zaa y113 x29_2).f2), .int .i64 0, .int .i64 0]) ?_ 3 _ rfl; (with_reducible repeat (first | refine zkn ?_ _ | refine zkd ?_ | refine zka ?_ _)); refine zaw (cs := #[.string ((zaa y113 x29_2).f0), .int .i64 ((zaa y113 x29_2).f1), .int .i64 0, .int .i64 0, .int .i64 0]) ?_ 2 _ rfl; (with_reducible repeat (first | refine zkn ?_ _ | refine zkd ?_ | refine zka ?_ _)); refine zaw (cs := #[.string ((zaa y113 x29_2).f0), .int .i64 0, .int .i64 0, .int .i64 0, .int .i64 0]) ?_ 1 _ rfl; (with_reducible repeat (first | refine zkn ?_ _ | refine zkd ?_ | refine zka ?_ _)); refine zaw (cs := #[.string (⟨#[]⟩ : ByteArray), .int .i64 0, .int .i64 0, .int .i64 0, .int .i64 0]) ?_ 0 _ rfl; (with_reducible repeat (first | refine zkn ?_ _ | refine zkd ?_ | refine zka ?_ _)); exact BK118.out⟩
 have n3_ : Aside0 (Below w.heap.size w (((((w30.setCell ⟨gb118, 0, none⟩ (.string ((zaa y113 x29_2).f0))).setCell ⟨gb118, 1, none⟩ (.int .i64 ((zaa y113 x29_2).f1))).setCell ⟨gb118, 2, none⟩ (.int .i64 ((zaa y113 x29_2).f2))).setCell ⟨gb118, 3, none⟩ (.int .i64 ((zaa y113 x29_2).f3))).setCell ⟨gb118, 4, none⟩ (.int .i64 ((zaa y113 x29_2).f4)))) := ⟨zq9 GE105 GE118⟩
 (try clear HO_3)
 (try clear BK105)
 (try clear BK118)
 (try clear HB)
 generalize (((((w30.setCell ⟨gb118, 0, none⟩ (.string ((zaa y113 x29_2).f0))).setCell ⟨gb118, 1, none⟩ (.int .i64 ((zaa y113 x29_2).f1))).setCell ⟨gb118, 2, none⟩ (.int .i64 ((zaa y113 x29_2).f2))).setCell ⟨gb118, 3, none⟩ (.int .i64 ((zaa y113 x29_2).f3))).setCell ⟨gb118, 4, none⟩ (.int .i64 ((zaa y113 x29_2).f4))) = w33 at n0_ n1_ n2_ n3_ ⊢
 have HO_3 := n0_
 have BK105 := n1_
 have BK118 := n2_
 have HB := n3_
 clear n0_ n1_ n2_ n3_
 replace HO_3 := zA (zSd HO_3.out)
 replace BK105 := zA (zkd BK105.out)
 replace BK118 := zA (zkd BK118.out)
 replace HB := zA (zbd HB.out)
 refine zk4 (n := 5) (S := fun w' => w'.cell? ⟨gb118, 0, none⟩ = some (.string ((zaa y113 x29_2).f0)) ∧ w'.cell? ⟨gb118, 1, none⟩ = some (.int .i64 ((zaa y113 x29_2).f1)) ∧ w'.cell? ⟨gb118, 2, none⟩ = some (.int .i64 ((zaa y113 x29_2).f2)) ∧ w'.cell? ⟨gb118, 3, none⟩ = some (.int .i64 ((zaa y113 x29_2).f3)) ∧ w'.cell? ⟨gb118, 4, none⟩ = some (.int .i64 ((zaa y113 x29_2).f4)) ∧ w'.cell? ⟨gb105, 0, none⟩ = some (.string ((zaa l0 x14_1).f0)) ∧ w'.cell? ⟨gb105, 1, none⟩ = some (.int .i64 ((zaa l0 x14_1).f1)) ∧ w'.cell? ⟨gb105, 2, none⟩ = some (.int .i64 ((zaa l0 x14_1).f2)) ∧ w'.cell? ⟨gb105, 3, none⟩ = some (.int .i64 ((zaa l0 x14_1).f3)) ∧ w'.cell? ⟨gb105, 4, none⟩ = some (.int .i64 ((zaa l0 x14_1).f4))) (ds := []) #[false, false, false, false, false] zq27 rfl rfl ⟨(zab BK118.out 0).trans rfl, (zab BK118.out 1).trans rfl, (zab BK118.out 2).trans rfl, (zab BK118.out 3).trans rfl, (zab BK118.out 4).trans rfl, (zab BK105.out 0).trans rfl, (zab BK105.out 1).trans rfl, (zab BK105.out 2).trans rfl, (zab BK105.out 3).trans rfl, (zab BK105.out 4).trans rfl⟩ (fun hHeld => ?_)
 generalize w33.drew = w34 at HO_3 BK105 BK118 HB hHeld ⊢
 refine zpk 2 36 ?_
 refine ztk 0 34 hHeld ?_
 refine ztk 3 37 hHeld ?_
 refine one_ (i := 1) (N := some 35) #[true, true, true, true, false] rfl rfl zq27 (by decide) (fun K hK => ?_)
 refine zgo Tryz.func113 (zg9 k2 ((zaa y113 x29_2).f0) ((zaa y113 x29_2).f1) ((zaa y113 x29_2).f2) ((zaa y113 x29_2).f3) ((zaa y113 x29_2).f4) t119 _ A27.out) ?_
 rintro e w35 ⟨v120, rfl, ho0, hb⟩
 refine ⟨_, rfl, ?_⟩
 replace HO_3 := zA (Kd.S_elder' (zq16 HO_3) (Kd.R_base ho0) hb)
 have HO121 := zA (Kd.R_lower ho0 (zah (zq9 GE105 GE118)))
 replace BK105 := zA (zag (g := gb105) (o := .cells #[.string ((zaa l0 x14_1).f0), .int .i64 ((zaa l0 x14_1).f1), .int .i64 ((zaa l0 x14_1).f2), .int .i64 ((zaa l0 x14_1).f3), .int .i64 ((zaa l0 x14_1).f4)] 55 (0, 0)) (zq4 BK105) hb)
 replace BK118 := zA (zag (g := gb118) (o := .cells #[.string ((zaa y113 x29_2).f0), .int .i64 ((zaa y113 x29_2).f1), .int .i64 ((zaa y113 x29_2).f2), .int .i64 ((zaa y113 x29_2).f3), .int .i64 ((zaa y113 x29_2).f4)] 55 (0, 0)) (zq4 BK118) hb)
 replace HB := zA (zac (zq9 GE105 GE118) hb)
 (try clear hb)
 (try clear hb2)
 (try clear hk)
 (try clear hi)
 (try clear ho0)
 obtain ⟨Ao36, co36, eo36⟩ := Kd.R_slice HO121.out
 (first | subst eo36 | (injection eo36 with f1_ f2_ f3_; have f4_ := f1_.symm; have f5_ := f3_.symm; clear f1_ f2_ f3_; subst f4_; subst f5_))
 refine hK.out _ _ ⟨(zab BK118.out 0).trans rfl, (zab BK118.out 1).trans rfl, (zab BK118.out 2).trans rfl, (zab BK118.out 3).trans rfl, (zab BK118.out 4).trans rfl, (zab BK105.out 0).trans rfl, (zab BK105.out 1).trans rfl, (zab BK105.out 2).trans rfl, (zab BK105.out 3).trans rfl, (zab BK105.out 4).trans rfl⟩ (fun hHeld => ?_)
 clear hK K
 refine znm 35 ?_
 refine one_ (i := 4) (N := some 38) #[true, true, true, true, true] rfl rfl zq27 (by decide) (fun K hK => ?_)
 refine zqz Tryz.func85 zq27 rfl #[.slice Ao36 t119.length co36, .int .i64 ((zaa l0 x14_1).f1)] (by rfl) rfl rfl zq25 ?_
 with_reducible refine (zcw k2 _ _ t119 ((zaa l0 x14_1).f1) t122 _ ?side1 ?side2 A28.out).mono ?_
 (case side1 => repeat (first | exact (zRr HO121.out).2.2 | (with_reducible first | refine zCa ?_ _ | refine zCn ?_ _ | refine zCd ?_)))
 (case side2 => exact (zRr HO121.out).2.1)
 rintro e w' ⟨rfl, ⟨nd, rfl⟩⟩
 refine ⟨_, rfl, ?_⟩
 refine hK.out _ _ ⟨(zab BK118.out 0).trans rfl, (zab BK118.out 1).trans rfl, (zab BK118.out 2).trans rfl, (zab BK118.out 3).trans rfl, (zab BK118.out 4).trans rfl, (zab BK105.out 0).trans rfl, (zab BK105.out 1).trans rfl, (zab BK105.out 2).trans rfl, (zab BK105.out 3).trans rfl, (zab BK105.out 4).trans rfl⟩ (fun hHeld => ?_)
 clear hK K
 refine znm 38 ?_
 refine zou zq27 ?_
 (try (rw [zgn w35]; generalize hq_ : World.drewN w35 _ = w35; have n0_ := zA (Kd.S_at hq_ HO_3.out); have n1_ := zA (Kd.R_at hq_ HO121.out); have n2_ := zA (zj1 hq_ BK105.out); have n3_ := zA (zj1 hq_ BK118.out); have n4_ := zA (zkw hq_ HB.out); clear hq_ HO_3 HO121 BK105 BK118 HB; have HO_3 := n0_; have HO121 := n1_; have BK105 := n2_; have BK118 := n3_; have HB := n4_; clear n0_ n1_ n2_ n3_ n4_))
 go_upto_if 38 with (fail)
 go_cut [] (fun wc => ∃ (kq : Nat) (x3_28 : List (List Int)), Aside0 (zey kq l0 x3_28 x14_1 x29_2 l0 (l0.length : Int) x14_1 y113 (y113.length : Int) x29_2 ((zaa l0 x14_1).f0) ((zaa l0 x14_1).f1) ((zaa l0 x14_1).f2) ((zaa l0 x14_1).f3) ((zaa l0 x14_1).f4) ((zaa y113 x29_2).f0) ((zaa y113 x29_2).f1) ((zaa y113 x29_2).f2) ((zaa y113 x29_2).f3) ((zaa y113 x29_2).f4) = some r) ∧ Aside0 (kq ≤ k2) ∧ Aside0 (Kd.S (Kd.slice 3 (Kd.int .i64)) 25 wc w.heap.size (fun _ => True) (.slice (some ⟨go11, 0, none⟩) x3_2.length co11) x3_28) ∧ Aside0 (wc.heap[gb105]? = some (.cells #[.string ((zaa l0 x14_1).f0), .int .i64 ((zaa l0 x14_1).f1), .int .i64 ((zaa l0 x14_1).f2), .int .i64 ((zaa l0 x14_1).f3), .int .i64 ((zaa l0 x14_1).f4)] 55 (0, 0))) ∧ Aside0 (wc.heap[gb118]? = some (.cells #[.string ((zaa y113 x29_2).f0), .int .i64 ((zaa y113 x29_2).f1), .int .i64 ((zaa y113 x29_2).f2), .int .i64 ((zaa y113 x29_2).f3), .int .i64 ((zaa y113 x29_2).f4)] 55 (0, 0))) ∧ Aside0 (Below w.heap.size w wc))
 case first =>
   have H := HC29.out
   clear HC29
   by_cases c37 : t122 = true
   rotate_left
   · replace c37 := zbf c37
     subst c37
     replace H := zif H
     have H' := zA H
     clear H
     go_wp2
     go_meet
     case rel => exact ⟨_, (x3_2), H', ⟨zq76 HK1 HK2⟩, ⟨by (try simp only [hl3_2]); (with_reducible repeat (first | apply zSa | apply zSn | apply zSd)); exact Kd.S_mono HO_3.out (fun _ hk => trivial)⟩, ⟨zq51 BK105⟩, ⟨zq51 BK118⟩, ⟨zq9 GE105 GE118⟩⟩
   subst c37
   replace H := zih H
   revert H
   refine zin fun c38 H => ?_
   (first | rw [c38b0] | (simp only [zlo, zm9]; rw [c38b0]) | skip)
   revert H
   refine zin fun c39 H => ?_
   revert H
   refine zin fun c40 H => ?_
   obtain ⟨y124, hy124⟩ : ∃ y_ : List Int, y_ = ((za1 x3_2 x14_1).set (x29_2 : Int).toNat 0) := ⟨_, rfl⟩
   rw [← hy124] at H; try with_reducible replace H := zbs H
   have Ny124 := zA hy124
   clear hy124
   obtain ⟨y126, hy126⟩ : ∃ y_ : List (List Int), y_ = (x3_2.set (x14_1 : Int).toNat y124) := ⟨_, rfl⟩
   rw [← hy126] at H; try with_reducible replace H := zbs H
   have Ny126 := zA hy126
   clear hy126
   have H' := zA H
   clear H
   have p123 : 0 ≤ (x14_1 : Int) := zde zq21
   have q123 : x14_1 < (x3_2.length : Int) := zde zq21
   obtain ⟨ad123, A123_0, c123_0, e123, hx123_0, hl123_0, hi123_0⟩ := zkm (zSr HO_3.out).2.2 x14_1 p123 q123
   obtain rfl : (⟨go11, 0, none⟩ : Addr) = ad123 := (by injection e123)
   obtain ⟨ce123, hce123, hMe123, hcc123⟩ := Kd.S_get HO_3.out [] x14_1 p123 (by first | exact q123 | exact zde zq21 | (have e_ := (zSr HO_3.out).1; omega))
   obtain ⟨ve123_0, rfl, ge123_0⟩ := hMe123
   have hv123_0 := hcc123 0 _ rfl
   rw [Nat.add_zero, show ((Kd.slice 3 (Kd.int .i64))).sz = 1 from rfl, Nat.mul_one] at hv123_0
   replace hv123_0 := zsi (hv123_0.symm.trans hx123_0)
   rw [hv123_0] at ge123_0
   have HL123_0 := zA (show Kd.R (Kd.int .i64) 3 _ _ _ _ (za1 x3_2 x14_1) from ge123_0)
   clear hv123_0 ge123_0
   have HX123_0 := zA hx123_0
   clear hcc123 hce123
   (first | simp only [ze4] at hx123_0 | simp only [zns] at hx123_0 | simp only [Addr.add, Nat.zero_add] at hx123_0 | skip)
   have HR123_0 := zA hi123_0
   have HC123_0 := zA hl123_0
   clear hi123_0 hl123_0
   replace p123 := eq_true p123
   replace q123 := eq_true q123
   have p41 : 0 ≤ (x29_2 : Int) := zde zq21
   have q41 : (x29_2 : Int) < (((za1 x3_2 x14_1).length : Int) : Int) := zde zq21
   obtain ⟨go41, co41, eo41, gb41, gl41, cl41, HG41⟩ := Kd.R_form HL123_0.out (by omega)
   (first | cases eo41 | (injection eo41 with ea_ en_ ec_; (first | subst ea_ | (injection ea_ with ea_; subst ea_)); subst ec_; clear en_))
   have GB41 := zA gb41
   have GG41 := zA HG41
   clear gb41 gl41 HG41
   obtain ⟨hx41_0, hf41_0⟩ := Kd.R_celln 0 HL123_0.out (x29_2 : Int) p41 q41
   replace p41 := eq_true p41
   replace q41 := eq_true q41
   have n_ := zA (Kd.S_mono (ok' := (fun k_ => some k_ ≠ (.slice Ao36 t119.length co36 : Value).ownBlock)) HO_3.out (fun k_ hk => hk.2))
   clear HO_3
   have HO_3 := n_
   clear n_
   have hq42 : (x14_1 : Int) < (x3_2.length : Int) := (by have h_ : (x14_1 : Int) < ((x3_2.length : Int) : Int) := zde zq21; first | exact h_ | (have e_ := (zSr HO_3.out).1; omega) | simpa only [List.length_set, List.length_set] using h_)
   obtain ⟨oki42, ce42, hcl42, hM42, hcc42, hok42, hbk42⟩ := Kd.S_borrow HO_3.out [] (x14_1 : Int) (zde zq21) hq42
   obtain ⟨ve42_0, rfl, ge42_0⟩ := (id hM42)
   have hv42 := hcc42 0 _ rfl
   rw [Nat.add_zero, show ((Kd.slice 3 (Kd.int .i64))).sz = 1 from rfl, Nat.mul_one] at hv42
   replace hv42 := zsi (hv42.symm.trans HX123_0.out)
   subst hv42
   clear hcc42 hcl42
   replace ge42_0 := (show Kd.R (Kd.int .i64) 3 _ _ _ _ (za1 x3_2 x14_1) from ge42_0)
   have HP42 := Kd.R_putg ge42_0 (x29_2 : Int) 0
   go_wp2_with (first | ((with_reducible refine zgs 3 44 ?_); refine zse (w35.setCell ⟨go41, (x29_2 : Int).toNat, none⟩ (.int .i64 0)) ?_; intro w43 hw; have hg : w35.grownBy w43 (some go41) := (by rw [hw]; exact HP42.2); have hz_ : Kd.R (Kd.int .i64) 3 w43 w.heap.size oki42 (.slice (some ⟨go41, 0, none⟩) (za1 x3_2 x14_1).length c123_0) y124 := (by rw [hw, Ny124.out]; exact HP42.1); have hp_ : Kd.S (Kd.slice 3 (Kd.int .i64)) 25 w43 w.heap.size (fun k_ => some k_ ≠ (.slice Ao36 t119.length co36 : Value).ownBlock) (.slice (some ⟨go11, 0, none⟩) x3_2.length co11) y126 := (by rw [Ny126.out]; exact hbk42 hg (fun k_ e_ => by injection e_ with e_; subst e_; exact ge42_0.1 _ rfl) (Kd.M_row hz_)); have hm_ := Kd.R_mono hz_ hok42; clear HP42 hbk42; replace HO_3 := zA (hp_); replace BK105 := zA (zgv (g := gb105) (o := .cells #[.string ((zaa l0 x14_1).f0), .int .i64 ((zaa l0 x14_1).f1), .int .i64 ((zaa l0 x14_1).f2), .int .i64 ((zaa l0 x14_1).f3), .int .i64 ((zaa l0 x14_1).f4)] 55 (0, 0)) (zq4 BK105) hg (Kd.R_ne HL123_0.out BK105.out (by decide))); replace BK118 := zA (zgv (g := gb118) (o := .cells #[.string ((zaa y113 x29_2).f0), .int .i64 ((zaa y113 x29_2).f1), .int .i64 ((zaa y113 x29_2).f2), .int .i64 ((zaa y113 x29_2).f3), .int .i64 ((zaa y113 x29_2).f4)] 55 (0, 0)) (zq4 BK118) hg (Kd.R_ne HL123_0.out BK118.out (by decide))); replace HO121 := zA (Kd.R_grown1 (zq2 HO121) rfl hg ((HL123_0.out.1 _ rfl).1.2)); replace HB := zA ((zq57 GB41 : Below w.heap.size w w43)); have HL147 := zA (hm_); have HC125 := zA ((zRr hm_).2.1); clear HL123_0; clear hg hw hp_ hz_ hm_ hok42))
   go_meet
   case rel => exact ⟨_, (y126), H', ⟨zq76 HK1 HK2⟩, ⟨by (try simp only [hl3_2]); (with_reducible repeat (first | apply zSa | apply zSn | apply zSd)); exact Kd.S_mono HO_3.out (fun _ hk => trivial)⟩, ⟨zq51 BK105⟩, ⟨zq51 BK118⟩, ⟨zq9 GE105 GE118⟩⟩
 clear HC29
 obtain ⟨kq, x3_28, HA, HJ28, HO_3, BK105, BK118, HB⟩ := hcut
 have hl3_28 := (zSr HO_3.out).1
 rw [hl3_28] at HO_3
 (try simp only [hl3_28])
 (try simp only [hl3_28] at BK105)
 (try simp only [hl3_28] at BK118)
 cases kq with
 | zero => exact absurd HA.out (by simp [zey])
 | succ kj28 =>
 have H := HA.out
 clear HA
 simp only [zey] at H
 have HC44 := zA H
 clear H
 have hnb45 := NB118_105.out
 have hnc45 := NB105_118.out
 obtain ⟨hcz46_0, hcz46_1, hcz46_2, hcz46_3, hcz46_4⟩ := zc5 wc (.string ((zaa y113 x29_2).f0)) (.int .i64 ((zaa y113 x29_2).f1)) (.int .i64 ((zaa y113 x29_2).f2)) (.int .i64 ((zaa y113 x29_2).f3)) (.int .i64 ((zaa y113 x29_2).f4)) BK118.out
 obtain ⟨hfz46_0, hfz46_1, hfz46_2, hfz46_3, hfz46_4⟩ := zf5 BK118.out
 obtain ⟨hcz47_0, hcz47_1, hcz47_2, hcz47_3, hcz47_4⟩ := zc5 wc (.string ((zaa l0 x14_1).f0)) (.int .i64 ((zaa l0 x14_1).f1)) (.int .i64 ((zaa l0 x14_1).f2)) (.int .i64 ((zaa l0 x14_1).f3)) (.int .i64 ((zaa l0 x14_1).f4)) BK105.out
 obtain ⟨hfz47_0, hfz47_1, hfz47_2, hfz47_3, hfz47_4⟩ := zf5 BK105.out
 go_upto_if 49 with (fail)
 go_cut [] (fun wc => ∃ (kq : Nat) (x3_43 : List (List Int)), Aside0 (zez kq l0 x3_43 x14_1 x29_2 l0 (l0.length : Int) x14_1 y113 (y113.length : Int) x29_2 ((zaa l0 x14_1).f0) ((zaa l0 x14_1).f1) ((zaa l0 x14_1).f2) ((zaa l0 x14_1).f3) ((zaa l0 x14_1).f4) ((zaa y113 x29_2).f0) ((zaa y113 x29_2).f1) ((zaa y113 x29_2).f2) ((zaa y113 x29_2).f3) ((zaa y113 x29_2).f4) = some r) ∧ Aside0 (kq ≤ kj28) ∧ Aside0 (Kd.S (Kd.slice 3 (Kd.int .i64)) 25 wc w.heap.size (fun _ => True) (.slice (some ⟨go11, 0, none⟩) x3_28.length co11) x3_43) ∧ Aside0 (wc.heap[gb105]? = some (.cells #[.string ((zaa l0 x14_1).f0), .int .i64 ((zaa l0 x14_1).f1), .int .i64 ((zaa l0 x14_1).f2), .int .i64 ((zaa l0 x14_1).f3), .int .i64 ((zaa l0 x14_1).f4)] 55 (0, 0))) ∧ Aside0 (wc.heap[gb118]? = some (.cells #[.string ((zaa y113 x29_2).f0), .int .i64 ((zaa y113 x29_2).f1), .int .i64 ((zaa y113 x29_2).f2), .int .i64 ((zaa y113 x29_2).f3), .int .i64 ((zaa y113 x29_2).f4)] 55 (0, 0))) ∧ Aside0 (Below w.heap.size w wc))
 case first =>
   have H := HC44.out
   clear HC44
   by_cases c48 : ((zaa y113 x29_2).f1) = ((zaa l0 x14_1).f1)
   rotate_left
   · rw [if_neg c48] at H
     obtain ⟨c48b0, c48b1⟩ := zbq c48
     (first | rw [c48b0] | (simp only [zlo, zm9]; rw [c48b0]) | skip)
     have H' := zA H
     clear H
     go_wp2
     go_meet
     case rel => exact ⟨_, (x3_28), H', ⟨by have := HK1.out; have := HK2.out; have := HJ28.out; first | omega | exact zlr _⟩, ⟨by (try simp only [hl3_2]); (try simp only [hl3_28]); (with_reducible repeat (first | apply zSa | apply zSn | apply zSd)); exact HO_3.out⟩, ⟨zq44 BK105⟩, ⟨zq44 BK118⟩, ⟨zq9 GE105 GE118⟩⟩
   rw [if_pos c48] at H
   obtain ⟨c48b0, c48b1⟩ := zbe c48
   clear c48
   (first | rw [c48b0] | (simp only [zlo, zm9]; rw [c48b0]) | skip)
   revert H
   refine zin fun c49 H => ?_
   revert H
   refine zin fun c50 H => ?_
   revert H
   refine zin fun c51 H => ?_
   revert H
   refine zin fun c52 H => ?_
   obtain ⟨y128, hy128⟩ : ∃ y_ : List Int, y_ = ((za1 x3_28 x14_1).set (x29_2 : Int).toNat 1) := ⟨_, rfl⟩
   rw [← hy128] at H; try with_reducible replace H := zbs H
   have Ny128 := zA hy128
   clear hy128
   obtain ⟨y130, hy130⟩ : ∃ y_ : List (List Int), y_ = (x3_28.set (x14_1 : Int).toNat y128) := ⟨_, rfl⟩
   rw [← hy130] at H; try with_reducible replace H := zbs H
   have Ny130 := zA hy130
   clear hy130
   have H' := zA H
   clear H
   have p127 : 0 ≤ (x14_1 : Int) := zde zq21
   have q127 : x14_1 < (x3_28.length : Int) := zde zq21
   obtain ⟨ad127, A127_0, c127_0, e127, hx127_0, hl127_0, hi127_0⟩ := zkm (zSr HO_3.out).2.2 x14_1 p127 q127
   obtain rfl : (⟨go11, 0, none⟩ : Addr) = ad127 := (by injection e127)
   obtain ⟨ce127, hce127, hMe127, hcc127⟩ := Kd.S_get HO_3.out [] x14_1 p127 (by first | exact q127 | exact zde zq21 | (have e_ := (zSr HO_3.out).1; omega))
   obtain ⟨ve127_0, rfl, ge127_0⟩ := hMe127
   have hv127_0 := hcc127 0 _ rfl
   rw [Nat.add_zero, show ((Kd.slice 3 (Kd.int .i64))).sz = 1 from rfl, Nat.mul_one] at hv127_0
   replace hv127_0 := zsi (hv127_0.symm.trans hx127_0)
   rw [hv127_0] at ge127_0
   have HL127_0 := zA (show Kd.R (Kd.int .i64) 3 _ _ _ _ (za1 x3_28 x14_1) from ge127_0)
   clear hv127_0 ge127_0
   have HX127_0 := zA hx127_0
   clear hcc127 hce127
   (first | simp only [ze4] at hx127_0 | simp only [zns] at hx127_0 | simp only [Addr.add, Nat.zero_add] at hx127_0 | skip)
   have HR127_0 := zA hi127_0
   have HC127_0 := zA hl127_0
   clear hi127_0 hl127_0
   replace p127 := eq_true p127
   replace q127 := eq_true q127
   have p53 : 0 ≤ (x29_2 : Int) := zde zq21
   have q53 : (x29_2 : Int) < (((za1 x3_28 x14_1).length : Int) : Int) := zde zq21
   obtain ⟨go53, co53, eo53, gb53, gl53, cl53, HG53⟩ := Kd.R_form HL127_0.out (by omega)
   (first | cases eo53 | (injection eo53 with ea_ en_ ec_; (first | subst ea_ | (injection ea_ with ea_; subst ea_)); subst ec_; clear en_))
   have GB53 := zA gb53
   have GG53 := zA HG53
   clear gb53 gl53 HG53
   obtain ⟨hx53_0, hf53_0⟩ := Kd.R_celln 0 HL127_0.out (x29_2 : Int) p53 q53
   replace p53 := eq_true p53
   replace q53 := eq_true q53
   have hq54 : (x14_1 : Int) < (x3_28.length : Int) := (by have h_ : (x14_1 : Int) < ((x3_28.length : Int) : Int) := zde zq21; first | exact h_ | (have e_ := (zSr HO_3.out).1; omega) | simpa only [List.length_set, List.length_set] using h_)
   obtain ⟨oki54, ce54, hcl54, hM54, hcc54, hok54, hbk54⟩ := Kd.S_borrow HO_3.out [] (x14_1 : Int) (zde zq21) hq54
   obtain ⟨ve54_0, rfl, ge54_0⟩ := (id hM54)
   have hv54 := hcc54 0 _ rfl
   rw [Nat.add_zero, show ((Kd.slice 3 (Kd.int .i64))).sz = 1 from rfl, Nat.mul_one] at hv54
   replace hv54 := zsi (hv54.symm.trans HX127_0.out)
   subst hv54
   clear hcc54 hcl54
   replace ge54_0 := (show Kd.R (Kd.int .i64) 3 _ _ _ _ (za1 x3_28 x14_1) from ge54_0)
   have HP54 := Kd.R_putg ge54_0 (x29_2 : Int) 1
   go_wp2_with (first | ((with_reducible refine zgs 3 55 ?_); refine zse (wc.setCell ⟨go53, (x29_2 : Int).toNat, none⟩ (.int .i64 1)) ?_; intro w55 hw; have hg : wc.grownBy w55 (some go53) := (by rw [hw]; exact HP54.2); have hz_ : Kd.R (Kd.int .i64) 3 w55 w.heap.size oki54 (.slice (some ⟨go53, 0, none⟩) (za1 x3_28 x14_1).length c127_0) y128 := (by rw [hw, Ny128.out]; exact HP54.1); have hp_ : Kd.S (Kd.slice 3 (Kd.int .i64)) 25 w55 w.heap.size (fun _ => True) (.slice (some ⟨go11, 0, none⟩) x3_28.length co11) y130 := (by rw [Ny130.out]; exact hbk54 hg (fun k_ e_ => by injection e_ with e_; subst e_; exact ge54_0.1 _ rfl) (Kd.M_row hz_)); have hm_ := Kd.R_mono hz_ hok54; clear HP54 hbk54; replace HO_3 := zA (hp_); replace BK105 := zA (zgv (g := gb105) (o := .cells #[.string ((zaa l0 x14_1).f0), .int .i64 ((zaa l0 x14_1).f1), .int .i64 ((zaa l0 x14_1).f2), .int .i64 ((zaa l0 x14_1).f3), .int .i64 ((zaa l0 x14_1).f4)] 55 (0, 0)) (zq4 BK105) hg (Kd.R_ne HL127_0.out BK105.out (by decide))); replace BK118 := zA (zgv (g := gb118) (o := .cells #[.string ((zaa y113 x29_2).f0), .int .i64 ((zaa y113 x29_2).f1), .int .i64 ((zaa y113 x29_2).f2), .int .i64 ((zaa y113 x29_2).f3), .int .i64 ((zaa y113 x29_2).f4)] 55 (0, 0)) (zq4 BK118) hg (Kd.R_ne HL127_0.out BK118.out (by decide))); replace HB := zA ((zq57 GB53 : Below w.heap.size w w55)); have HL148 := zA (hm_); have HC129 := zA ((zRr hm_).2.1); clear HL127_0; clear hg hw hp_ hz_ hm_ hok54))
   go_meet
   case rel => exact ⟨_, (y130), H', ⟨by have := HK1.out; have := HK2.out; have := HJ28.out; first | omega | exact zlr _⟩, ⟨by (try simp only [hl3_2]); (try simp only [hl3_28]); (with_reducible repeat (first | apply zSa | apply zSn | apply zSd)); exact HO_3.out⟩, ⟨zq44 BK105⟩, ⟨zq44 BK118⟩, ⟨zq9 GE105 GE118⟩⟩
 clear HC44
 obtain ⟨kq, x3_43, HA, HJ43, HO_3, BK105, BK118, HB⟩ := hcut
 have hl3_43 := (zSr HO_3.out).1
 rw [hl3_43] at HO_3
 (try simp only [hl3_43])
 (try simp only [hl3_43] at BK105)
 (try simp only [hl3_43] at BK118)
 cases kq with
 | zero => exact absurd HA.out (by simp [zez])
 | succ kj43 =>
 have H := HA.out
 clear HA
 simp only [zez] at H
 obtain ⟨ji56, hji56⟩ : ∃ j_ : Int, (wrap64 (x29_2 + 1)) = j_ := ⟨_, rfl⟩
 replace H : (if 0 ≤ (ji56) then (if (ji56) ≤ x14_1 then (if x14_1 ≤ (l0.length : Int) then ((zay kj43 ((l0.take (x14_1 : Int).toNat).drop ((ji56) : Int).toNat) [(⟨((zaa y113 x29_2).f0), ((zaa y113 x29_2).f1), ((zaa y113 x29_2).f2), ((zaa y113 x29_2).f3), ((zaa y113 x29_2).f4)⟩ : S55)]).bind fun t135 => ((zdm kj43 ((zaa l0 x14_1).f0) ((zaa l0 x14_1).f1) ((zaa l0 x14_1).f2) ((zaa l0 x14_1).f3) ((zaa l0 x14_1).f4)).bind fun t136 => ((zbm kj43 t136 ((zaa y113 x29_2).f1)).bind fun t139 => (if t139 = true then (if t135 = true then (zbv kj43 l0 x3_43 x14_1 l0 (l0.length : Int) x14_1 y113 (y113.length : Int) ji56 ((zaa l0 x14_1).f0) ((zaa l0 x14_1).f1) ((zaa l0 x14_1).f2) ((zaa l0 x14_1).f3) ((zaa l0 x14_1).f4)) else (if 0 ≤ x14_1 then (if x14_1 < (x3_43.length : Int) then (if 0 ≤ x29_2 then (if x29_2 < ((za1 x3_43 x14_1).length : Int) then ((zdx ((zaa y113 x29_2).f0) ((zaa y113 x29_2).f1) ((zaa y113 x29_2).f2) ((zaa y113 x29_2).f3) ((zaa y113 x29_2).f4)).bind fun t143 => (zbv kj43 l0 (x3_43.set (x14_1 : Int).toNat ((za1 x3_43 x14_1).set (x29_2 : Int).toNat (mx (rd (za1 x3_43 x14_1) x29_2) t143))) x14_1 l0 (l0.length : Int) x14_1 y113 (y113.length : Int) ji56 ((zaa l0 x14_1).f0) ((zaa l0 x14_1).f1) ((zaa l0 x14_1).f2) ((zaa l0 x14_1).f3) ((zaa l0 x14_1).f4))) else (none)) else (none)) else (none)) else (none))) else (zbv kj43 l0 x3_43 x14_1 l0 (l0.length : Int) x14_1 y113 (y113.length : Int) ji56 ((zaa l0 x14_1).f0) ((zaa l0 x14_1).f1) ((zaa l0 x14_1).f2) ((zaa l0 x14_1).f3) ((zaa l0 x14_1).f4)))))) else (none)) else (none)) else (none)) = some r := by first | (rw [hji56] at H; exact H) | (simp only [hji56] at H ⊢; exact H)
 have hji56w : (IntKind.i64.wrap (x29_2 + 1)) = ji56 := (zlo _).trans hji56
 by_cases c57 : 0 ≤ (ji56)
 rotate_left
 · rw [if_neg c57] at H
   exact absurd H (by simp)
 rw [if_pos c57] at H
 have c57b0 := eq_true c57
 have c57b1 := zdt c57
 clear c57
 by_cases c58 : (ji56) ≤ x14_1
 rotate_left
 · rw [if_neg c58] at H
   exact absurd H (by simp)
 rw [if_pos c58] at H
 have c58b0 := eq_true c58
 have c58b1 := zdt c58
 clear c58
 by_cases c59 : x14_1 ≤ (l0.length : Int)
 rotate_left
 · rw [if_neg c59] at H
   exact absurd H (by simp)
 rw [if_pos c59] at H
 have c59b0 := eq_true c59
 have c59b1 := zdt c59
 clear c59
 obtain ⟨y131, hy131⟩ : ∃ y_ : List (S55), y_ = ((l0.take (x14_1 : Int).toNat).drop ((ji56) : Int).toNat) := ⟨_, rfl⟩
 rw [← hy131] at H; try with_reducible replace H := zbs H
 have Ny131 := zA hy131
 clear hy131
 replace H := zob H
 obtain ⟨t135, A600, H⟩ := H
 have A60 := zA A600
 clear A600
 replace H := zob H
 obtain ⟨t136, A610, H⟩ := H
 have A61 := zA A610
 clear A610
 replace H := zob H
 obtain ⟨t139, A620, H⟩ := H
 have A62 := zA A620
 clear A620
 by_cases c63 : t139 = true
 rotate_left
 · replace c63 := zbf c63
   subst c63
   replace H := zif H
   have H' := zA H
   clear H
   have q86 : (x14_1 : Int) ≤ ((l0.length : Int) : Int) := zde zq21
   obtain ⟨i086, hi086, _, hsz86, _⟩ := info_parts zrw
   have hroom86 : l0.length ≤ c0 := HC0.out
   have hC86 : Kd.C k55 _ (some ad104) l0.length l0 := HR0.out
   have ql86 : ((ji56) : Int) ≤ (x14_1 : Int) := zde zq21
   have q086 : (0 : Int) ≤ ((ji56) : Int) := zde zq21
   have hcut86 := zww (P := Tryz.prog) 24 55 .i64 .i64 Tryz.underlying24 hi086 5 hsz86 (some ad104) l0.length c0 (ji56) x14_1 q086 ql86 q86 hroom86
   have hr86 := Kd.C_mid (lo := ((ji56) : Int).toNat) (hi := (x14_1 : Int).toNat) (c := c0) hC86 (by omega) (by omega) hroom86
   obtain ⟨A86, hA86⟩ : ∃ A1, A1 = (if c0 = ((ji56) : Int).toNat then (some ad104) else ((some ad104) : Option Addr).map (·.add (((ji56) : Int).toNat * 5))) := ⟨_, rfl⟩
   obtain ⟨c86, hc86⟩ : ∃ c1, c1 = c0 - ((ji56) : Int).toNat := ⟨_, rfl⟩
   have hy86 : y131.length = (x14_1 : Int).toNat - ((ji56) : Int).toNat := (by rw [Ny131.out, List.length_drop, List.length_take] <;> omega)
   rw [show ((l0).take (x14_1 : Int).toNat).drop ((ji56) : Int).toNat = y131 from Ny131.out.symm] at hr86
   replace hr86 : Kd.C k55 _ A86 y131.length y131 := (by rw [hA86]; exact hr86)
   rw [← hy86, ← hA86, ← hc86] at hcut86
   have HR134 := zA hr86
   have HC134 := zA (show y131.length ≤ c86 from by rw [hy86, hc86]; exact Nat.sub_le_sub_right (Nat.le_trans (by omega) hroom86) _)
   clear hr86 hC86 hroom86 hi086 hsz86 hc86
   have KY86 := zA hy86
   have KA86 := zA hA86
   clear hy86 hA86
   replace q86 := eq_true q86
   try go_wp2_with (first | ((with_reducible refine zgc 107 ?_); refine zca 62 Tryz.func107 #[.slice A86 y131.length c86, .func (Fn.func 114) #[] #[.pointer (some ⟨gb118, 0, none⟩)]] (zed kj43 _ _ y131 _ 1 [(⟨((zaa y113 x29_2).f0), ((zaa y113 x29_2).f1), ((zaa y113 x29_2).f2), ((zaa y113 x29_2).f3), ((zaa y113 x29_2).f4)⟩ : S55)] t135 _ (zq15 HR134) HC134.out zq37 (by exact zlr _) A60.out) ?_; rintro e w87 ⟨rfl, hb⟩; refine ⟨_, rfl, ?_⟩; replace HO_3 := zA (Kd.S_below (zq16 HO_3) hb); replace BK105 := zbb BK105 hb; replace BK118 := zbb BK118 hb; replace HB := zA (zac (zq9 GE105 GE118) hb); (try clear hb)))
   replace HO_3 := zA (zSd HO_3.out)
   replace BK105 := zA (zkd BK105.out)
   replace BK118 := zA (zkd BK118.out)
   replace HB := zA (zbd HB.out)
   refine zk4 (n := 9) (S := fun w' => w'.cell? ⟨gb105, 0, none⟩ = some (.string ((zaa l0 x14_1).f0)) ∧ w'.cell? ⟨gb105, 1, none⟩ = some (.int .i64 ((zaa l0 x14_1).f1)) ∧ w'.cell? ⟨gb105, 2, none⟩ = some (.int .i64 ((zaa l0 x14_1).f2)) ∧ w'.cell? ⟨gb105, 3, none⟩ = some (.int .i64 ((zaa l0 x14_1).f3)) ∧ w'.cell? ⟨gb105, 4, none⟩ = some (.int .i64 ((zaa l0 x14_1).f4)) ∧ w'.cell? ⟨gb118, 0, none⟩ = some (.string ((zaa y113 x29_2).f0)) ∧ w'.cell? ⟨gb118, 1, none⟩ = some (.int .i64 ((zaa y113 x29_2).f1)) ∧ w'.cell? ⟨gb118, 2, none⟩ = some (.int .i64 ((zaa y113 x29_2).f2)) ∧ w'.cell? ⟨gb118, 3, none⟩ = some (.int .i64 ((zaa y113 x29_2).f3)) ∧ w'.cell? ⟨gb118, 4, none⟩ = some (.int .i64 ((zaa y113 x29_2).f4))) (ds := []) #[false, false, false, false, false, false, false, false, false] zq27 rfl rfl ⟨(zab BK105.out 0).trans rfl, (zab BK105.out 1).trans rfl, (zab BK105.out 2).trans rfl, (zab BK105.out 3).trans rfl, (zab BK105.out 4).trans rfl, (zab BK118.out 0).trans rfl, (zab BK118.out 1).trans rfl, (zab BK118.out 2).trans rfl, (zab BK118.out 3).trans rfl, (zab BK118.out 4).trans rfl⟩ (fun hHeld => ?_); refine zia zkq zj4 (fun HT_ HW_ => ?_)
   generalize w87.drew = w88 at HO_3 BK105 BK118 HB hHeld ⊢
   refine zpu 2 65 HT_ ?_
   refine ztu 0 63 HT_ HW_ hHeld ?_
   refine ztu 3 66 HT_ HW_ hHeld ?_
   refine one_ (i := 1) (N := some 64) #[true, true, true, true, false, false, false, false, false] rfl rfl (zj2 HT_.out zq27) (by decide) (fun K hK => ?_)
   refine zgo Tryz.func113 (zg9 kj43 ((zaa l0 x14_1).f0) ((zaa l0 x14_1).f1) ((zaa l0 x14_1).f2) ((zaa l0 x14_1).f3) ((zaa l0 x14_1).f4) t136 _ A61.out) ?_
   rintro e w89 ⟨v137, rfl, ho0, hb⟩
   refine ⟨_, rfl, ?_⟩
   replace HO_3 := zA (Kd.S_elder' (zq16 HO_3) (Kd.R_base ho0) hb)
   have HO138 := zA (Kd.R_lower ho0 (zah (zq9 GE105 GE118)))
   replace BK105 := zA (zag (g := gb105) (o := .cells #[.string ((zaa l0 x14_1).f0), .int .i64 ((zaa l0 x14_1).f1), .int .i64 ((zaa l0 x14_1).f2), .int .i64 ((zaa l0 x14_1).f3), .int .i64 ((zaa l0 x14_1).f4)] 55 (0, 0)) (zq4 BK105) hb)
   replace BK118 := zA (zag (g := gb118) (o := .cells #[.string ((zaa y113 x29_2).f0), .int .i64 ((zaa y113 x29_2).f1), .int .i64 ((zaa y113 x29_2).f2), .int .i64 ((zaa y113 x29_2).f3), .int .i64 ((zaa y113 x29_2).f4)] 55 (0, 0)) (zq4 BK118) hb)
   replace HB := zA (zac (zq9 GE105 GE118) hb)
   (try clear hb)
   (try clear hb2)
   (try clear hk)
   (try clear hi)
   (try clear ho0)
   obtain ⟨Ao90, co90, eo90⟩ := Kd.R_slice HO138.out
   (first | subst eo90 | (injection eo90 with f1_ f2_ f3_; have f4_ := f1_.symm; have f5_ := f3_.symm; clear f1_ f2_ f3_; subst f4_; subst f5_))
   refine hK.out _ _ ⟨(zab BK105.out 0).trans rfl, (zab BK105.out 1).trans rfl, (zab BK105.out 2).trans rfl, (zab BK105.out 3).trans rfl, (zab BK105.out 4).trans rfl, (zab BK118.out 0).trans rfl, (zab BK118.out 1).trans rfl, (zab BK118.out 2).trans rfl, (zab BK118.out 3).trans rfl, (zab BK118.out 4).trans rfl⟩ (fun hHeld => ?_)
   clear hK K
   refine znm 64 ?_
   refine one_ (i := 4) (N := some 67) #[true, true, true, true, true, false, false, false, false] rfl rfl (zj2 HT_.out zq27) (by decide) (fun K hK => ?_)
   refine zqz Tryz.func85 zq27 rfl #[.slice Ao90 t136.length co90, .int .i64 ((zaa y113 x29_2).f1)] (by rfl) rfl rfl zq25 ?_
   with_reducible refine (zcw kj43 _ _ t136 ((zaa y113 x29_2).f1) false _ ?side1 ?side2 A62.out).mono ?_
   (case side1 => repeat (first | exact (zRr HO138.out).2.2 | (with_reducible first | refine zCa ?_ _ | refine zCn ?_ _ | refine zCd ?_)))
   (case side2 => exact (zRr HO138.out).2.1)
   rintro e w' ⟨rfl, ⟨nd, rfl⟩⟩
   refine ⟨_, rfl, ?_⟩
   refine hK.out _ _ ⟨(zab BK105.out 0).trans rfl, (zab BK105.out 1).trans rfl, (zab BK105.out 2).trans rfl, (zab BK105.out 3).trans rfl, (zab BK105.out 4).trans rfl, (zab BK118.out 0).trans rfl, (zab BK118.out 1).trans rfl, (zab BK118.out 2).trans rfl, (zab BK118.out 3).trans rfl, (zab BK118.out 4).trans rfl⟩ (fun hHeld => ?_)
   clear hK K
   refine znm 67 ?_
   refine zpu 5 68 HT_ ?_
   refine zz0 (i := 6) (N := some 69) (v := undef) (a' := ?_) #[true, true, true, true, true, true, true, false, false] rfl rfl (zz7 HT_.out zq27) (fun _ _ _ h => h) (Or.inr ⟨by rfl, rfl⟩) ?_ ?_
   rotate_left
   · simp only [Act.put, List.setIfInBounds_toArray, List.set_cons_zero, List.set_cons_succ, zlo, zm9]
     rfl
   refine zz0 (i := 7) (N := some 70) (v := undef) (a' := ?_) #[true, true, true, true, true, true, true, true, false] rfl rfl (zz7 HT_.out zq27) (fun _ _ _ h => h) (Or.inr ⟨by rfl, rfl⟩) ?_ ?_
   rotate_left
   · simp only [Act.put, List.setIfInBounds_toArray, List.set_cons_zero, List.set_cons_succ, zlo, zm9]
     rfl
   refine zpu 8 71 HT_ ?_
   refine zou (zlc HT_.out zq27) ?_
   (try (rw [zgn w89]; generalize hq_ : World.drewN w89 _ = w89; have n0_ := zA (Kd.S_at hq_ HO_3.out); have n1_ := zA (Kd.R_at hq_ HO138.out); have n2_ := zA (zj1 hq_ BK105.out); have n3_ := zA (zj1 hq_ BK118.out); have n4_ := zA (zkw hq_ HB.out); clear hq_ HO_3 HO138 BK105 BK118 HB; have HO_3 := n0_; have HO138 := n1_; have BK105 := n2_; have BK118 := n3_; have HB := n4_; clear n0_ n1_ n2_ n3_ n4_))
   try go_wp2
   (try simp only [← hl3_2, ← hl3_28, ← hl3_43])
   go_roundg kj43
   case measure => have := HK1.out; have := HK2.out; have := HJ28.out; have := HJ43.out; omega
   case rel => exact ⟨(x3_43), (ji56), zq70, H', ⟨zq56 HK1 HK2 HJ28 HJ43⟩, ⟨zq47 HO_3⟩, ⟨zq75 BK105⟩, ⟨zq9 GE105 GE118⟩⟩
 subst c63
 replace H := zih H
 by_cases c64 : t135 = true
 · subst c64
   replace H := zih H
   have H' := zA H
   clear H
   have q65 : (x14_1 : Int) ≤ ((l0.length : Int) : Int) := zde zq21
   obtain ⟨i065, hi065, _, hsz65, _⟩ := info_parts zrw
   have hroom65 : l0.length ≤ c0 := HC0.out
   have hC65 : Kd.C k55 _ (some ad104) l0.length l0 := HR0.out
   have ql65 : ((ji56) : Int) ≤ (x14_1 : Int) := zde zq21
   have q065 : (0 : Int) ≤ ((ji56) : Int) := zde zq21
   have hcut65 := zww (P := Tryz.prog) 24 55 .i64 .i64 Tryz.underlying24 hi065 5 hsz65 (some ad104) l0.length c0 (ji56) x14_1 q065 ql65 q65 hroom65
   have hr65 := Kd.C_mid (lo := ((ji56) : Int).toNat) (hi := (x14_1 : Int).toNat) (c := c0) hC65 (by omega) (by omega) hroom65
   obtain ⟨A65, hA65⟩ : ∃ A1, A1 = (if c0 = ((ji56) : Int).toNat then (some ad104) else ((some ad104) : Option Addr).map (·.add (((ji56) : Int).toNat * 5))) := ⟨_, rfl⟩
   obtain ⟨c65, hc65⟩ : ∃ c1, c1 = c0 - ((ji56) : Int).toNat := ⟨_, rfl⟩
   have hy65 : y131.length = (x14_1 : Int).toNat - ((ji56) : Int).toNat := (by rw [Ny131.out, List.length_drop, List.length_take] <;> omega)
   rw [show ((l0).take (x14_1 : Int).toNat).drop ((ji56) : Int).toNat = y131 from Ny131.out.symm] at hr65
   replace hr65 : Kd.C k55 _ A65 y131.length y131 := (by rw [hA65]; exact hr65)
   rw [← hy65, ← hA65, ← hc65] at hcut65
   have HR134 := zA hr65
   have HC134 := zA (show y131.length ≤ c65 from by rw [hy65, hc65]; exact Nat.sub_le_sub_right (Nat.le_trans (by omega) hroom65) _)
   clear hr65 hC65 hroom65 hi065 hsz65 hc65
   have KY65 := zA hy65
   have KA65 := zA hA65
   clear hy65 hA65
   replace q65 := eq_true q65
   try go_wp2_with (first | ((with_reducible refine zgc 107 ?_); refine zca 62 Tryz.func107 #[.slice A65 y131.length c65, .func (Fn.func 114) #[] #[.pointer (some ⟨gb118, 0, none⟩)]] (zed kj43 _ _ y131 _ 1 [(⟨((zaa y113 x29_2).f0), ((zaa y113 x29_2).f1), ((zaa y113 x29_2).f2), ((zaa y113 x29_2).f3), ((zaa y113 x29_2).f4)⟩ : S55)] true _ (zq15 HR134) HC134.out zq37 (by exact zlr _) A60.out) ?_; rintro e w66 ⟨rfl, hb⟩; refine ⟨_, rfl, ?_⟩; replace HO_3 := zA (Kd.S_below (zq16 HO_3) hb); replace BK105 := zbb BK105 hb; replace BK118 := zbb BK118 hb; replace HB := zA (zac (zq9 GE105 GE118) hb); (try clear hb)))
   replace HO_3 := zA (zSd HO_3.out)
   replace BK105 := zA (zkd BK105.out)
   replace BK118 := zA (zkd BK118.out)
   replace HB := zA (zbd HB.out)
   refine zk4 (n := 9) (S := fun w' => w'.cell? ⟨gb105, 0, none⟩ = some (.string ((zaa l0 x14_1).f0)) ∧ w'.cell? ⟨gb105, 1, none⟩ = some (.int .i64 ((zaa l0 x14_1).f1)) ∧ w'.cell? ⟨gb105, 2, none⟩ = some (.int .i64 ((zaa l0 x14_1).f2)) ∧ w'.cell? ⟨gb105, 3, none⟩ = some (.int .i64 ((zaa l0 x14_1).f3)) ∧ w'.cell? ⟨gb105, 4, none⟩ = some (.int .i64 ((zaa l0 x14_1).f4)) ∧ w'.cell? ⟨gb118, 0, none⟩ = some (.string ((zaa y113 x29_2).f0)) ∧ w'.cell? ⟨gb118, 1, none⟩ = some (.int .i64 ((zaa y113 x29_2).f1)) ∧ w'.cell? ⟨gb118, 2, none⟩ = some (.int .i64 ((zaa y113 x29_2).f2)) ∧ w'.cell? ⟨gb118, 3, none⟩ = some (.int .i64 ((zaa y113 x29_2).f3)) ∧ w'.cell? ⟨gb118, 4, none⟩ = some (.int .i64 ((zaa y113 x29_2).f4))) (ds := []) #[false, false, false, false, false, false, false, false, false] zq27 rfl rfl ⟨(zab BK105.out 0).trans rfl, (zab BK105.out 1).trans rfl, (zab BK105.out 2).trans rfl, (zab BK105.out 3).trans rfl, (zab BK105.out 4).trans rfl, (zab BK118.out 0).trans rfl, (zab BK118.out 1).trans rfl, (zab BK118.out 2).trans rfl, (zab BK118.out 3).trans rfl, (zab BK118.out 4).trans rfl⟩ (fun hHeld => ?_); refine zia zkq zj4 (fun HT_ HW_ => ?_)
   generalize w66.drew = w67 at HO_3 BK105 BK118 HB hHeld ⊢
   refine zpu 2 65 HT_ ?_
   refine ztu 0 63 HT_ HW_ hHeld ?_
   refine ztu 3 66 HT_ HW_ hHeld ?_
   refine one_ (i := 1) (N := some 64) #[true, true, true, true, false, false, false, false, false] rfl rfl (zj2 HT_.out zq27) (by decide) (fun K hK => ?_)
   refine zgo Tryz.func113 (zg9 kj43 ((zaa l0 x14_1).f0) ((zaa l0 x14_1).f1) ((zaa l0 x14_1).f2) ((zaa l0 x14_1).f3) ((zaa l0 x14_1).f4) t136 _ A61.out) ?_
   rintro e w68 ⟨v137, rfl, ho0, hb⟩
   refine ⟨_, rfl, ?_⟩
   replace HO_3 := zA (Kd.S_elder' (zq16 HO_3) (Kd.R_base ho0) hb)
   have HO138 := zA (Kd.R_lower ho0 (zah (zq9 GE105 GE118)))
   replace BK105 := zA (zag (g := gb105) (o := .cells #[.string ((zaa l0 x14_1).f0), .int .i64 ((zaa l0 x14_1).f1), .int .i64 ((zaa l0 x14_1).f2), .int .i64 ((zaa l0 x14_1).f3), .int .i64 ((zaa l0 x14_1).f4)] 55 (0, 0)) (zq4 BK105) hb)
   replace BK118 := zA (zag (g := gb118) (o := .cells #[.string ((zaa y113 x29_2).f0), .int .i64 ((zaa y113 x29_2).f1), .int .i64 ((zaa y113 x29_2).f2), .int .i64 ((zaa y113 x29_2).f3), .int .i64 ((zaa y113 x29_2).f4)] 55 (0, 0)) (zq4 BK118) hb)
   replace HB := zA (zac (zq9 GE105 GE118) hb)
   (try clear hb)
   (try clear hb2)
   (try clear hk)
   (try clear hi)
   (try clear ho0)
   obtain ⟨Ao69, co69, eo69⟩ := Kd.R_slice HO138.out
   (first | subst eo69 | (injection eo69 with f1_ f2_ f3_; have f4_ := f1_.symm; have f5_ := f3_.symm; clear f1_ f2_ f3_; subst f4_; subst f5_))
   refine hK.out _ _ ⟨(zab BK105.out 0).trans rfl, (zab BK105.out 1).trans rfl, (zab BK105.out 2).trans rfl, (zab BK105.out 3).trans rfl, (zab BK105.out 4).trans rfl, (zab BK118.out 0).trans rfl, (zab BK118.out 1).trans rfl, (zab BK118.out 2).trans rfl, (zab BK118.out 3).trans rfl, (zab BK118.out 4).trans rfl⟩ (fun hHeld => ?_)
   clear hK K
   refine znm 64 ?_
   refine one_ (i := 4) (N := some 67) #[true, true, true, true, true, false, false, false, false] rfl rfl (zj2 HT_.out zq27) (by decide) (fun K hK => ?_)
   refine zqz Tryz.func85 zq27 rfl #[.slice Ao69 t136.length co69, .int .i64 ((zaa y113 x29_2).f1)] (by rfl) rfl rfl zq25 ?_
   with_reducible refine (zcw kj43 _ _ t136 ((zaa y113 x29_2).f1) true _ ?side1 ?side2 A62.out).mono ?_
   (case side1 => repeat (first | exact (zRr HO138.out).2.2 | (with_reducible first | refine zCa ?_ _ | refine zCn ?_ _ | refine zCd ?_)))
   (case side2 => exact (zRr HO138.out).2.1)
   rintro e w' ⟨rfl, ⟨nd, rfl⟩⟩
   refine ⟨_, rfl, ?_⟩
   refine hK.out _ _ ⟨(zab BK105.out 0).trans rfl, (zab BK105.out 1).trans rfl, (zab BK105.out 2).trans rfl, (zab BK105.out 3).trans rfl, (zab BK105.out 4).trans rfl, (zab BK118.out 0).trans rfl, (zab BK118.out 1).trans rfl, (zab BK118.out 2).trans rfl, (zab BK118.out 3).trans rfl, (zab BK118.out 4).trans rfl⟩ (fun hHeld => ?_)
   clear hK K
   refine znm 67 ?_
   refine zpu 5 68 HT_ ?_
   refine zpu 6 69 HT_ ?_
   refine zpu 7 70 HT_ ?_
   refine zpu 8 71 HT_ ?_
   refine zou (zlc HT_.out zq27) ?_
   (try (rw [zgn w68]; generalize hq_ : World.drewN w68 _ = w68; have n0_ := zA (Kd.S_at hq_ HO_3.out); have n1_ := zA (Kd.R_at hq_ HO138.out); have n2_ := zA (zj1 hq_ BK105.out); have n3_ := zA (zj1 hq_ BK118.out); have n4_ := zA (zkw hq_ HB.out); clear hq_ HO_3 HO138 BK105 BK118 HB; have HO_3 := n0_; have HO138 := n1_; have BK105 := n2_; have BK118 := n3_; have HB := n4_; clear n0_ n1_ n2_ n3_ n4_))
   try go_wp2
   (try simp only [← hl3_2, ← hl3_28, ← hl3_43])
   go_roundg kj43
   case measure => have := HK1.out; have := HK2.out; have := HJ28.out; have := HJ43.out; omega
   case rel => exact ⟨(x3_43), (ji56), zq70, H', ⟨zq56 HK1 HK2 HJ28 HJ43⟩, ⟨zq47 HO_3⟩, ⟨zq75 BK105⟩, ⟨zq9 GE105 GE118⟩⟩
 replace c64 := zbf c64
 subst c64
 replace H := zif H
 revert H
 refine zin fun c70 H => ?_
 revert H
 refine zin fun c71 H => ?_
 revert H
 refine zin fun c72 H => ?_
 revert H
 refine zin fun c73 H => ?_
 replace H := zob H
 obtain ⟨t143, A740, H⟩ := H
 have A74 := zA A740
 clear A740
 obtain ⟨ji75, hji75⟩ : ∃ j_ : Int, (mx (rd (za1 x3_43 x14_1) x29_2) t143) = j_ := ⟨_, rfl⟩
 replace H : (zbv kj43 l0 (x3_43.set (x14_1 : Int).toNat ((za1 x3_43 x14_1).set (x29_2 : Int).toNat (ji75))) x14_1 l0 (l0.length : Int) x14_1 y113 (y113.length : Int) ji56 ((zaa l0 x14_1).f0) ((zaa l0 x14_1).f1) ((zaa l0 x14_1).f2) ((zaa l0 x14_1).f3) ((zaa l0 x14_1).f4)) = some r := by first | (rw [hji75] at H; exact H) | (simp only [hji75] at H ⊢; exact H)
 (try rw [hji75] at A60)
 (try rw [hji75] at A61)
 (try rw [hji75] at A62)
 (try rw [hji75] at A74)
 have hji75_ : (if (rd (za1 x3_43 x14_1) x29_2) < t143 then t143 else (rd (za1 x3_43 x14_1) x29_2)) = ji75 := hji75
 obtain ⟨y144, hy144⟩ : ∃ y_ : List Int, y_ = ((za1 x3_43 x14_1).set (x29_2 : Int).toNat (ji75)) := ⟨_, rfl⟩
 rw [← hy144] at H; try with_reducible replace H := zbs H
 have Ny144 := zA hy144
 clear hy144
 obtain ⟨y146, hy146⟩ : ∃ y_ : List (List Int), y_ = (x3_43.set (x14_1 : Int).toNat y144) := ⟨_, rfl⟩
 rw [← hy146] at H; try with_reducible replace H := zbs H
 have Ny146 := zA hy146
 clear hy146
 have H' := zA H
 clear H
 have q77 : (x14_1 : Int) ≤ ((l0.length : Int) : Int) := zde zq21
 obtain ⟨i077, hi077, _, hsz77, _⟩ := info_parts zrw
 have hroom77 : l0.length ≤ c0 := HC0.out
 have hC77 : Kd.C k55 _ (some ad104) l0.length l0 := HR0.out
 have ql77 : ((ji56) : Int) ≤ (x14_1 : Int) := zde zq21
 have q077 : (0 : Int) ≤ ((ji56) : Int) := zde zq21
 have hcut77 := zww (P := Tryz.prog) 24 55 .i64 .i64 Tryz.underlying24 hi077 5 hsz77 (some ad104) l0.length c0 (ji56) x14_1 q077 ql77 q77 hroom77
 have hr77 := Kd.C_mid (lo := ((ji56) : Int).toNat) (hi := (x14_1 : Int).toNat) (c := c0) hC77 (by omega) (by omega) hroom77
 obtain ⟨A77, hA77⟩ : ∃ A1, A1 = (if c0 = ((ji56) : Int).toNat then (some ad104) else ((some ad104) : Option Addr).map (·.add (((ji56) : Int).toNat * 5))) := ⟨_, rfl⟩
 obtain ⟨c77, hc77⟩ : ∃ c1, c1 = c0 - ((ji56) : Int).toNat := ⟨_, rfl⟩
 have hy77 : y131.length = (x14_1 : Int).toNat - ((ji56) : Int).toNat := (by rw [Ny131.out, List.length_drop, List.length_take] <;> omega)
 rw [show ((l0).take (x14_1 : Int).toNat).drop ((ji56) : Int).toNat = y131 from Ny131.out.symm] at hr77
 replace hr77 : Kd.C k55 _ A77 y131.length y131 := (by rw [hA77]; exact hr77)
 rw [← hy77, ← hA77, ← hc77] at hcut77
 have HR134 := zA hr77
 have HC134 := zA (show y131.length ≤ c77 from by rw [hy77, hc77]; exact Nat.sub_le_sub_right (Nat.le_trans (by omega) hroom77) _)
 clear hr77 hC77 hroom77 hi077 hsz77 hc77
 have KY77 := zA hy77
 have KA77 := zA hA77
 clear hy77 hA77
 replace q77 := eq_true q77
 try go_wp2_with (first | ((with_reducible refine zgc 107 ?_); refine zca 62 Tryz.func107 #[.slice A77 y131.length c77, .func (Fn.func 114) #[] #[.pointer (some ⟨gb118, 0, none⟩)]] (zed kj43 _ _ y131 _ 1 [(⟨((zaa y113 x29_2).f0), ((zaa y113 x29_2).f1), ((zaa y113 x29_2).f2), ((zaa y113 x29_2).f3), ((zaa y113 x29_2).f4)⟩ : S55)] false _ (zq15 HR134) HC134.out zq37 (by exact zlr _) A60.out) ?_; rintro e w78 ⟨rfl, hb⟩; refine ⟨_, rfl, ?_⟩; replace HO_3 := zA (Kd.S_below (zq16 HO_3) hb); replace BK105 := zbb BK105 hb; replace BK118 := zbb BK118 hb; replace HB := zA (zac (zq9 GE105 GE118) hb); (try clear hb)))
 replace HO_3 := zA (zSd HO_3.out)
 replace BK105 := zA (zkd BK105.out)
 replace BK118 := zA (zkd BK118.out)
 replace HB := zA (zbd HB.out)
 refine zk4 (n := 9) (S := fun w' => w'.cell? ⟨gb105, 0, none⟩ = some (.string ((zaa l0 x14_1).f0)) ∧ w'.cell? ⟨gb105, 1, none⟩ = some (.int .i64 ((zaa l0 x14_1).f1)) ∧ w'.cell? ⟨gb105, 2, none⟩ = some (.int .i64 ((zaa l0 x14_1).f2)) ∧ w'.cell? ⟨gb105, 3, none⟩ = some (.int .i64 ((zaa l0 x14_1).f3)) ∧ w'.cell? ⟨gb105, 4, none⟩ = some (.int .i64 ((zaa l0 x14_1).f4)) ∧ w'.cell? ⟨gb118, 0, none⟩ = some (.string ((zaa y113 x29_2).f0)) ∧ w'.cell? ⟨gb118, 1, none⟩ = some (.int .i64 ((zaa y113 x29_2).f1)) ∧ w'.cell? ⟨gb118, 2, none⟩ = some (.int .i64 ((zaa y113 x29_2).f2)) ∧ w'.cell? ⟨gb118, 3, none⟩ = some (.int .i64 ((zaa y113 x29_2).f3)) ∧ w'.cell? ⟨gb118, 4, none⟩ = some (.int .i64 ((zaa y113 x29_2).f4))) (ds := []) #[false, false, false, false, false, false, false, false, false] zq27 rfl rfl ⟨(zab BK105.out 0).trans rfl, (zab BK105.out 1).trans rfl, (zab BK105.out 2).trans rfl, (zab BK105.out 3).trans rfl, (zab BK105.out 4).trans rfl, (zab BK118.out 0).trans rfl, (zab BK118.out 1).trans rfl, (zab BK118.out 2).trans rfl, (zab BK118.out 3).trans rfl, (zab BK118.out 4).trans rfl⟩ (fun hHeld => ?_); refine zia zkq zj4 (fun HT_ HW_ => ?_)
 generalize w78.drew = w79 at HO_3 BK105 BK118 HB hHeld ⊢
 refine zpu 2 65 HT_ ?_
 refine ztu 0 63 HT_ HW_ hHeld ?_
 refine ztu 3 66 HT_ HW_ hHeld ?_
 refine one_ (i := 1) (N := some 64) #[true, true, true, true, false, false, false, false, false] rfl rfl (zj2 HT_.out zq27) (by decide) (fun K hK => ?_)
 refine zgo Tryz.func113 (zg9 kj43 ((zaa l0 x14_1).f0) ((zaa l0 x14_1).f1) ((zaa l0 x14_1).f2) ((zaa l0 x14_1).f3) ((zaa l0 x14_1).f4) t136 _ A61.out) ?_
 rintro e w80 ⟨v137, rfl, ho0, hb⟩
 refine ⟨_, rfl, ?_⟩
 replace HO_3 := zA (Kd.S_elder' (zq16 HO_3) (Kd.R_base ho0) hb)
 have HO138 := zA (Kd.R_lower ho0 (zah (zq9 GE105 GE118)))
 replace BK105 := zA (zag (g := gb105) (o := .cells #[.string ((zaa l0 x14_1).f0), .int .i64 ((zaa l0 x14_1).f1), .int .i64 ((zaa l0 x14_1).f2), .int .i64 ((zaa l0 x14_1).f3), .int .i64 ((zaa l0 x14_1).f4)] 55 (0, 0)) (zq4 BK105) hb)
 replace BK118 := zA (zag (g := gb118) (o := .cells #[.string ((zaa y113 x29_2).f0), .int .i64 ((zaa y113 x29_2).f1), .int .i64 ((zaa y113 x29_2).f2), .int .i64 ((zaa y113 x29_2).f3), .int .i64 ((zaa y113 x29_2).f4)] 55 (0, 0)) (zq4 BK118) hb)
 replace HB := zA (zac (zq9 GE105 GE118) hb)
 (try clear hb)
 (try clear hb2)
 (try clear hk)
 (try clear hi)
 (try clear ho0)
 obtain ⟨Ao81, co81, eo81⟩ := Kd.R_slice HO138.out
 (first | subst eo81 | (injection eo81 with f1_ f2_ f3_; have f4_ := f1_.symm; have f5_ := f3_.symm; clear f1_ f2_ f3_; subst f4_; subst f5_))
 refine hK.out _ _ ⟨(zab BK105.out 0).trans rfl, (zab BK105.out 1).trans rfl, (zab BK105.out 2).trans rfl, (zab BK105.out 3).trans rfl, (zab BK105.out 4).trans rfl, (zab BK118.out 0).trans rfl, (zab BK118.out 1).trans rfl, (zab BK118.out 2).trans rfl, (zab BK118.out 3).trans rfl, (zab BK118.out 4).trans rfl⟩ (fun hHeld => ?_)
 clear hK K
 refine znm 64 ?_
 refine one_ (i := 4) (N := some 67) #[true, true, true, true, true, false, false, false, false] rfl rfl (zj2 HT_.out zq27) (by decide) (fun K hK => ?_)
 refine zqz Tryz.func85 zq27 rfl #[.slice Ao81 t136.length co81, .int .i64 ((zaa y113 x29_2).f1)] (by rfl) rfl rfl zq25 ?_
 with_reducible refine (zcw kj43 _ _ t136 ((zaa y113 x29_2).f1) true _ ?side1 ?side2 A62.out).mono ?_
 (case side1 => repeat (first | exact (zRr HO138.out).2.2 | (with_reducible first | refine zCa ?_ _ | refine zCn ?_ _ | refine zCd ?_)))
 (case side2 => exact (zRr HO138.out).2.1)
 rintro e w' ⟨rfl, ⟨nd, rfl⟩⟩
 refine ⟨_, rfl, ?_⟩
 refine hK.out _ _ ⟨(zab BK105.out 0).trans rfl, (zab BK105.out 1).trans rfl, (zab BK105.out 2).trans rfl, (zab BK105.out 3).trans rfl, (zab BK105.out 4).trans rfl, (zab BK118.out 0).trans rfl, (zab BK118.out 1).trans rfl, (zab BK118.out 2).trans rfl, (zab BK118.out 3).trans rfl, (zab BK118.out 4).trans rfl⟩ (fun hHeld => ?_)
 clear hK K
 refine znm 67 ?_
 refine zpu 5 68 HT_ ?_
 refine zpu 6 69 HT_ ?_
 refine zpu 7 70 HT_ ?_
 refine zpu 8 71 HT_ ?_
 refine zou (zlc HT_.out zq27) ?_
 (try (rw [zgn w80]; generalize hq_ : World.drewN w80 _ = w80; have n0_ := zA (Kd.S_at hq_ HO_3.out); have n1_ := zA (Kd.R_at hq_ HO138.out); have n2_ := zA (zj1 hq_ BK105.out); have n3_ := zA (zj1 hq_ BK118.out); have n4_ := zA (zkw hq_ HB.out); clear hq_ HO_3 HO138 BK105 BK118 HB; have HO_3 := n0_; have HO138 := n1_; have BK105 := n2_; have BK118 := n3_; have HB := n4_; clear n0_ n1_ n2_ n3_ n4_))
 try go_wp2
 (try (rw [zgn w80]; generalize hq_ : World.drewN w80 _ = w80; have n0_ : Aside0 (Kd.R (Kd.int .i64) 3 w80 w.heap.size (fun _ => True) (.slice Ao81 t136.length co81) t136) := ⟨by rw [← hq_]; exact (zq2 HO138)⟩; have n1_ : Aside0 (Kd.S (Kd.slice 3 (Kd.int .i64)) 25 w80 w.heap.size (fun k_ => some k_ ≠ (.slice Ao81 t136.length co81 : Value).ownBlock) (.slice (some ⟨go11, 0, none⟩) x3_43.length co11) x3_43) := ⟨by rw [← hq_]; exact (zq34 HO_3)⟩; have n2_ : Aside0 (w80.heap[gb105]? = some (.cells #[.string ((zaa l0 x14_1).f0), .int .i64 ((zaa l0 x14_1).f1), .int .i64 ((zaa l0 x14_1).f2), .int .i64 ((zaa l0 x14_1).f3), .int .i64 ((zaa l0 x14_1).f4)] 55 (0, 0))) := ⟨by rw [← hq_]; exact (zq4 BK105)⟩; have n3_ : Aside0 (w80.heap[gb118]? = some (.cells #[.string ((zaa y113 x29_2).f0), .int .i64 ((zaa y113 x29_2).f1), .int .i64 ((zaa y113 x29_2).f2), .int .i64 ((zaa y113 x29_2).f3), .int .i64 ((zaa y113 x29_2).f4)] 55 (0, 0))) := ⟨by rw [← hq_]; exact (zq4 BK118)⟩; have n4_ : Aside0 (Below w.heap.size w w80) := ⟨by rw [← hq_]; exact (zq9 GE105 GE118)⟩; clear HO138 HO_3 BK105 BK118 HB hq_; have HO138 := n0_; have HO_3 := n1_; have BK105 := n2_; have BK118 := n3_; have HB := n4_; clear n0_ n1_ n2_ n3_ n4_))
 replace HO_3 := zA (zSd HO_3.out)
 replace HO138 := zA (zRd HO138.out)
 replace BK105 := zA (zkd BK105.out)
 replace BK118 := zA (zkd BK118.out)
 replace HB := zA (zbd HB.out)
 have p140 : 0 ≤ (x14_1 : Int) := zde zq21
 have q140 : x14_1 < (x3_43.length : Int) := zde zq21
 obtain ⟨ad140, A140_0, c140_0, e140, hx140_0, hl140_0, hi140_0⟩ := zkm (zSr HO_3.out).2.2 x14_1 p140 q140
 obtain rfl : (⟨go11, 0, none⟩ : Addr) = ad140 := (by injection e140)
 obtain ⟨ce140, hce140, hMe140, hcc140⟩ := Kd.S_get HO_3.out [] x14_1 p140 (by first | exact q140 | exact zde zq21 | (have e_ := (zSr HO_3.out).1; omega))
 obtain ⟨ve140_0, rfl, ge140_0⟩ := hMe140
 have hv140_0 := hcc140 0 _ rfl
 rw [Nat.add_zero, show ((Kd.slice 3 (Kd.int .i64))).sz = 1 from rfl, Nat.mul_one] at hv140_0
 replace hv140_0 := zsi (hv140_0.symm.trans hx140_0)
 rw [hv140_0] at ge140_0
 have HL140_0 := zA (show Kd.R (Kd.int .i64) 3 _ _ _ _ (za1 x3_43 x14_1) from ge140_0)
 clear hv140_0 ge140_0
 have HX140_0 := zA hx140_0
 clear hcc140 hce140
 (first | simp only [ze4] at hx140_0 | simp only [zns] at hx140_0 | simp only [Addr.add, Nat.zero_add] at hx140_0 | skip)
 have HR140_0 := zA hi140_0
 have HC140_0 := zA hl140_0
 clear hi140_0 hl140_0
 replace p140 := eq_true p140
 replace q140 := eq_true q140
 have p141 : 0 ≤ (x14_1 : Int) := zde zq21
 have q141 : x14_1 < (x3_43.length : Int) := zde zq21
 obtain ⟨ad141, A141_0, c141_0, e141, hx141_0, hl141_0, hi141_0⟩ := zkm (zSr HO_3.out).2.2 x14_1 p141 q141
 obtain rfl : (⟨go11, 0, none⟩ : Addr) = ad141 := (by injection e141)
 obtain ⟨ce141, hce141, hMe141, hcc141⟩ := Kd.S_get HO_3.out [] x14_1 p141 (by first | exact q141 | exact zde zq21 | (have e_ := (zSr HO_3.out).1; omega))
 obtain ⟨ve141_0, rfl, ge141_0⟩ := hMe141
 have hv141_0 := hcc141 0 _ rfl
 rw [Nat.add_zero, show ((Kd.slice 3 (Kd.int .i64))).sz = 1 from rfl, Nat.mul_one] at hv141_0
 replace hv141_0 := zsi (hv141_0.symm.trans hx141_0)
 rw [hv141_0] at ge141_0
 have HL141_0 := zA (show Kd.R (Kd.int .i64) 3 _ _ _ _ (za1 x3_43 x14_1) from ge141_0)
 clear hv141_0 ge141_0
 have HX141_0 := zA hx141_0
 clear hcc141 hce141
 (first | simp only [ze4] at hx141_0 | simp only [zns] at hx141_0 | simp only [Addr.add, Nat.zero_add] at hx141_0 | skip)
 have HR141_0 := zA hi141_0
 have HC141_0 := zA hl141_0
 clear hi141_0 hl141_0
 replace p141 := eq_true p141
 replace q141 := eq_true q141
 have ea_ := zsi (hx140_0.symm.trans hx141_0)
 injection ea_ with ea_ en_ ec_
 subst ea_
 subst ec_
 clear en_
 have p142 : 0 ≤ (x29_2 : Int) := zde zq21
 have q142 : x29_2 < ((za1 x3_43 x14_1).length : Int) := zde zq21
 obtain ⟨ad142, e142, hx142_0⟩ := Kd.at_int (zq20 HR141_0) x29_2 p142 q142
 cases e142
 replace p142 := eq_true p142
 replace q142 := eq_true q142
 refine zk4 (n := 17) (S := fun w' => w'.cell? ⟨gb118, 0, none⟩ = some (.string ((zaa y113 x29_2).f0)) ∧ w'.cell? ⟨gb118, 1, none⟩ = some (.int .i64 ((zaa y113 x29_2).f1)) ∧ w'.cell? ⟨gb118, 2, none⟩ = some (.int .i64 ((zaa y113 x29_2).f2)) ∧ w'.cell? ⟨gb118, 3, none⟩ = some (.int .i64 ((zaa y113 x29_2).f3)) ∧ w'.cell? ⟨gb118, 4, none⟩ = some (.int .i64 ((zaa y113 x29_2).f4)) ∧ w'.cell? ⟨go11, (x14_1).toNat, none⟩ = some (.slice (some ad142) (za1 x3_43 x14_1).length c140_0) ∧ w'.cell? ⟨go11, (x14_1).toNat, none⟩ = some (.slice (some ad142) (za1 x3_43 x14_1).length c140_0) ∧ w'.cell? (ad142.add (x29_2).toNat) = some (.int .i64 (rd (za1 x3_43 x14_1) x29_2))) (ds := [16]) #[false, false, false, false, false, false, false, false, false, false, false, false, false, false, false, false, false] zq27 rfl rfl ⟨(zab BK118.out 0).trans rfl, (zab BK118.out 1).trans rfl, (zab BK118.out 2).trans rfl, (zab BK118.out 3).trans rfl, (zab BK118.out 4).trans rfl, hx140_0, hx141_0, hx142_0⟩ (fun hHeld => ?_); refine zia zqp zp1 (fun HT_ HW_ => ?_)
 generalize w80.drew = w82 at HO_3 HO138 BK105 BK118 HB HL140_0 HL141_0 HR140_0 HR141_0 HX140_0 HX141_0 hx140_0 hx141_0 hx142_0 hHeld ⊢
 refine zpu 0 72 HT_ ?_
 refine zpu 1 73 HT_ ?_
 refine zpu 2 74 HT_ ?_
 refine zpu 4 76 HT_ ?_
 refine zpu 5 77 HT_ ?_
 refine zpu 6 78 HT_ ?_
 refine zpu 7 79 HT_ ?_
 refine zpu 9 81 HT_ ?_
 refine ztu 3 75 HT_ HW_ hHeld ?_
 refine ztu 8 80 HT_ HW_ hHeld ?_
 refine zpu 10 82 HT_ ?_
 refine ztu 11 83 HT_ HW_ hHeld ?_
 refine ztu 12 84 HT_ HW_ hHeld ?_
 refine one_ (i := 13) (N := some 85) #[true, true, true, true, true, true, true, true, true, true, true, true, true, true, false, false, false] rfl rfl (zj2 HT_.out zq27) (by decide) (fun K hK => ?_)
 refine zgo Tryz.func77 (zhd ((zaa y113 x29_2).f0) ((zaa y113 x29_2).f1) ((zaa y113 x29_2).f2) ((zaa y113 x29_2).f3) ((zaa y113 x29_2).f4) t143 _ A74.out) ?_
 rintro e w83 ⟨rfl, hb⟩
 have HS5_ := (hb.cell (World.block_lt_of_cell? _ _ (hHeld.2.2.2.2.2.1))).trans (hHeld.2.2.2.2.2.1)
 have HS6_ := (hb.cell (World.block_lt_of_cell? _ _ (hHeld.2.2.2.2.2.2.1))).trans (hHeld.2.2.2.2.2.2.1)
 have HS7_ := (hb.cell (World.block_lt_of_cell? _ _ (hHeld.2.2.2.2.2.2.2))).trans (hHeld.2.2.2.2.2.2.2)
 refine ⟨_, rfl, ?_⟩
 replace HO_3 := zA (Kd.S_below (zq16 HO_3) hb)
 replace HO138 := zA (zRb (zq2 HO138) hb)
 replace HL140_0 := zA (zRb (zq2 HL140_0) hb)
 replace HL141_0 := zA (zRb (zq2 HL141_0) hb)
 replace BK105 := zA (zag (g := gb105) (o := .cells #[.string ((zaa l0 x14_1).f0), .int .i64 ((zaa l0 x14_1).f1), .int .i64 ((zaa l0 x14_1).f2), .int .i64 ((zaa l0 x14_1).f3), .int .i64 ((zaa l0 x14_1).f4)] 55 (0, 0)) (zq4 BK105) hb)
 replace BK118 := zA (zag (g := gb118) (o := .cells #[.string ((zaa y113 x29_2).f0), .int .i64 ((zaa y113 x29_2).f1), .int .i64 ((zaa y113 x29_2).f2), .int .i64 ((zaa y113 x29_2).f3), .int .i64 ((zaa y113 x29_2).f4)] 55 (0, 0)) (zq4 BK118) hb)
 replace HR140_0 := zA (zCb (zq20 HR140_0) hb)
 replace HX140_0 := zA (zh5 hb HX140_0.out)
 replace HR141_0 := zA (zCb (zq20 HR141_0) hb)
 replace HX141_0 := zA (zh5 hb HX141_0.out)
 replace HB := zA (zac (zq9 GE105 GE118) hb)
 (try clear hb)
 (try clear hb2)
 (try clear hk)
 (try clear hi)
 have p76 : 0 ≤ (x29_2 : Int) := zde zq21
 have q76 : (x29_2 : Int) < (((za1 x3_43 x14_1).length : Int) : Int) := zde zq21
 obtain ⟨go76, co76, eo76, gb76, gl76, cl76, HG76⟩ := Kd.R_form HL140_0.out (by omega)
 (first | cases eo76 | (injection eo76 with ea_ en_ ec_; (first | subst ea_ | (injection ea_ with ea_; subst ea_)); subst ec_; clear en_))
 have GB76 := zA gb76
 have GG76 := zA HG76
 clear gb76 gl76 HG76
 (first | simp only [ze4] at hx142_0 | skip)
 obtain ⟨hx76_0, hf76_0⟩ := Kd.R_celln 0 HL140_0.out (x29_2 : Int) p76 q76
 replace p76 := eq_true p76
 replace q76 := eq_true q76
 have n_ := zA (Kd.S_mono (ok' := (fun k_ => some k_ ≠ (.slice Ao81 t136.length co81 : Value).ownBlock)) HO_3.out (fun k_ hk => hk.2))
 clear HO_3
 have HO_3 := n_
 clear n_
 have hq84 : (x14_1 : Int) < (x3_43.length : Int) := (by have h_ : (x14_1 : Int) < ((x3_43.length : Int) : Int) := zde zq21; first | exact h_ | (have e_ := (zSr HO_3.out).1; omega) | simpa only [List.length_set, List.length_set] using h_)
 obtain ⟨oki84, ce84, hcl84, hM84, hcc84, hok84, hbk84⟩ := Kd.S_borrow HO_3.out [] (x14_1 : Int) (zde zq21) hq84
 obtain ⟨ve84_0, rfl, ge84_0⟩ := (id hM84)
 have hv84 := hcc84 0 _ rfl
 rw [Nat.add_zero, show ((Kd.slice 3 (Kd.int .i64))).sz = 1 from rfl, Nat.mul_one] at hv84
 replace hv84 := zsi (hv84.symm.trans HX140_0.out)
 subst hv84
 clear hcc84 hcl84
 replace ge84_0 := (show Kd.R (Kd.int .i64) 3 _ _ _ _ (za1 x3_43 x14_1) from ge84_0)
 have HP84 := Kd.R_putg ge84_0 (x29_2 : Int) ji75
 rw [← Ny144.out] at HP84
 have HS84 := hbk84 HP84.2 (fun k_ e_ => by injection e_ with e_; subst e_; exact ge84_0.1 _ rfl) (x' := y144) (Kd.M_row HP84.1)
 rw [← Ny146.out] at HS84
 have HQ84 := zA HS84
 clear HP84 HS84 hbk84 hok84
 refine hK.out _ _ ⟨(zab BK118.out 0).trans rfl, (zab BK118.out 1).trans rfl, (zab BK118.out 2).trans rfl, (zab BK118.out 3).trans rfl, (zab BK118.out 4).trans rfl, HS5_, HS6_, HS7_⟩ (fun hHeld => ?_)
 clear hK K
 refine znm 85 ?_
 refine zpu 14 86 HT_ ?_
 refine zpu 15 87 HT_ ?_
 refine zz1 (i := 16) (N := none) #[true, true, true, true, true, true, true, true, true, true, true, true, true, true, true, true, true] rfl rfl (zj2 HT_.out zq27) (by decide) (fun K hK => ?_)
 refine zsm (w1 := ?_) (by rfl) rfl ?_ ?_
 rotate_left
 · go_simp
   rfl
 refine hK.out _ _ ?_
 clear hK K
 refine zou (zlc HT_.out zq27) ?_
 try go_wp2
 (try simp only [← hl3_2, ← hl3_28, ← hl3_43])
 go_roundg kj43
 case measure => have := HK1.out; have := HK2.out; have := HJ28.out; have := HJ43.out; omega
 case rel => exact ⟨(y146), (ji56), zq70, H', ⟨zq56 HK1 HK2 HJ28 HJ43⟩, ⟨zq47 HQ84⟩, ⟨by (try simp only [hl3_2]); (try simp only [hl3_28]); (try simp only [hl3_43]); (with_reducible repeat (first | refine zkn ?_ _ | refine zkd ?_ | refine zka ?_ _)); refine zav ?_ (by have h_ := Kd.R_ne HL140_0.out BK105.out (by decide); intro e_; exact h_ (by rw [e_]; rfl)) _; (with_reducible repeat (first | refine zkn ?_ _ | refine zkd ?_ | refine zka ?_ _)); exact BK105.out⟩, ⟨by repeat (first | (with_reducible first | exact HB.out | apply zba | apply zbn | apply zbd | refine zad ?_ GB76.out | refine zad ?_ GE105.out | refine zad ?_ GE118.out) | exact HB.out)⟩⟩
def zea (a0 : Int) : Option (Bool) := (zf4 a0 1 3).bind fun t101 => (some t101)
theorem zfe (a0 : Int) (r : Bool) (w : World) (h : zea a0 = some r) :
   Calls Tryz.prog 67 #[.int .i64 a0] w fun e w' => e = .returned (.bool r) ∧ Drawn0 w w' := by
 have H := h
 unfold zea at H
 clear h
 replace H := zob H
 obtain ⟨t101, A20, H⟩ := H
 have A2 := zA A20
 clear A20
 obtain rfl := zsi H
 go_enter Tryz.func67, Tryz.ntmps67
 go_wp2_with (first | ((with_reducible refine zgc 78 ?_); refine zcl 4 Tryz.func78 (zhp a0 1 3 t101 _ A2.out) ?_; rintro e w' ⟨rfl, ⟨nd, rfl⟩⟩; refine ⟨_, rfl, ?_⟩))
 exact zr_1
end Go.Proofs.YtabnafbgcpchdaaGreat.Q
end
section
namespace Go.Proofs.YtabnafbgcpchdaaGreat.Q
open Go.RowKit Go.Shelf Go.Proofs.YtabnafbgcpchdaaGreatW.PrintWords Go.Proofs.YtabnafbgcpchdaaGreatW.PrintLast Go.Proofs.YtabnafbgcpchdaaGreatW.PrintMore
set_option linter.unusedVariables false
attribute [local go_sem] Oper.semAt_some
def zr2 (n₀ Bs : Nat) (W W' : World) : Prop := Below n₀ W W' ∧ ∀ v, W.cell? ⟨Bs, 0, none⟩ = some v → W'.cell? ⟨Bs, 0, none⟩ = some v
theorem zqq {n₀ Bs : Nat} {A B C : World} (h : zr2 n₀ Bs A B) (k : zr2 n₀ Bs B C) : zr2 n₀ Bs A C := ⟨h.1.trans k.1, fun v e => k.2 v (h.2 v e)⟩
def zrr (xs : List S55) (i : Int) : Array Value := #[.int .i64 i, .agg #[.string (zaa xs i).f0, .int .i64 (zaa xs i).f1, .int .i64 (zaa xs i).f2, .int .i64 (zaa xs i).f3, .int .i64 (zaa xs i).f4]]
def zkt (n d : Nat) : List { i : Nat // i < n } := (List.range d).filterMap fun j => if h : n - 1 - j < n then some ⟨n - 1 - j, h⟩ else none
theorem zlm (n d : Nat) (h : n - 1 - d < n) : zkt n (d + 1) = zkt n d ++ [⟨n - 1 - d, h⟩] := by
  unfold zkt
  rw [List.range_succ, List.filterMap_append]
  congr 1
  simp [h]
theorem zuv (n d : Nat) (h : d ≤ n) : (zkt n d).length = d := by
  induction d with
  | zero => rfl
  | succ d ih => rw [zlm n d (by omega), List.length_append, ih (by omega)]; rfl
set_option maxRecDepth 100000 in
set_option maxHeartbeats 4000000 in
theorem yan (F : Fence) (n : Nat) (h112 : F.fn 145) (hro : F.round = none) (hn : 1 ≤ n) (l Bs n₀ : Nat) (A : Option Addr) (c : Nat) (xs : List S55) (hxs : xs.length ≤ 1048576) (J Jx : List { i : Nat // i < xs.length } → World → Prop)
    (W : World) (hW : n₀ ≤ W.heap.size) (hR : ∀ W', Below n₀ W W' → Kd.C k55 W' A xs.length xs)
    (hY : ∀ pre x W1, J pre W1 → pre.length < xs.length → YieldAt F (n - 1) Tryz.prog l (zrr xs (x.1 : Nat)) W1 fun e W' =>
      (e = .returned (.bool true) ∧ J (pre ++ [x]) W' ∧ zr2 n₀ Bs W1 W') ∨ (e = .returned (.bool false) ∧ Jx (pre ++ [x]) W'))
    (hBs : W.cell? ⟨Bs, 0, none⟩ = some (.slice A xs.length c)) (h0 : J [] W) :
    CallsIn F n Tryz.prog 145 #[.func (.yield l) #[] #[], .pointer (some ⟨Bs, 0, none⟩)] W fun e W' => (∃ v, e = .returned v) ∧
      ((∃ ys, ys = zkt xs.length xs.length ∧ J ys W') ∨ (∃ pre, (∃ d, d ≤ xs.length ∧ pre = zkt xs.length d) ∧ Jx pre W')) := by
  have hu57 := Tryz.underlying55
  refine callsIn_of_wp Tryz.func145 rfl h112 ?_ hro
  simp only [Tryz.ntmps145, List.size_toArray, List.length_cons, List.length_nil, Nat.reduceAdd, Nat.reduceSub, Array.replicate_succ, Array.replicate_zero, List.push_toArray, List.append_toArray, List.nil_append, List.cons_append]
  gi_wp2
  gi_loopw [3] (fun i wr => ∃ d : Nat, d ≤ xs.length ∧ i = .int .i64 ((xs.length : Int) - 1 - d) ∧ J (zkt xs.length d) wr ∧ zr2 n₀ Bs W wr)
    (fun i _ => (intOf i + 1).toNat)
  case atStart => exact ⟨0, Nat.zero_le _, by simp, h0, Below.refl _ _, fun _ h => h⟩
  case round =>
    obtain ⟨d, hd, rfl, hJs, hnx⟩ := hrel
    have hBs' : wr.cell? ⟨Bs, 0, none⟩ = some (.slice A xs.length c) := hnx.2 _ hBs
    by_cases hlt : d < xs.length
    · have hx : xs.length - 1 - d < xs.length := by omega
      have e : (xs.length : Int) - 1 - d = ((xs.length - 1 - d : Nat) : Int) := by omega
      obtain ⟨fn, tmps, assign, body, hy, hRd⟩ := hY _ ⟨xs.length - 1 - d, hx⟩ wr hJs (by rw [zuv _ _ hd]; exact hlt)
      unfold zrr at hy
      dsimp only at hy
      rw [e]
      generalize hi : xs.length - 1 - d = i at *
      obtain ⟨ad, rfl, g0, g1, g2, g3, g4⟩ := zi7 (hR wr hnx.1) (i : Int) (by omega) (by omega)
      rw [Int.toNat_natCast] at g0 g1 g2 g3 g4
      gi_wp2
      refine hRd.mono ?_
      rintro e W3 (⟨rfl, hJ3, hk3⟩ | ⟨rfl, hJx3⟩)
      · gi_wp2
        go_roundw
        case rel => exact ⟨d + 1, by omega, by rw [show (xs.length : Int) - 1 - ((d + 1 : Nat) : Int) = (i : Int) - 1 by omega], by rw [zlm _ _ (by omega)]; simpa [hi] using hJ3, zqq hnx hk3⟩
        case measure => simp [intOf]
      · gi_wp2
        refine bodyPost_ret (results_none rfl _ _ _) rfl ?_
        exact ⟨⟨_, rfl⟩, .inr ⟨_, ⟨d + 1, by omega, rfl⟩, by rw [zlm _ _ (by omega)]; simpa [hi] using hJx3⟩⟩
    · obtain rfl : d = xs.length := by omega
      gi_wp2
      go_end0
      exact ⟨⟨_, rfl⟩, .inl ⟨_, rfl, hJs⟩⟩
theorem ycd {n₀ Bs : Nat} {w : World} (hn : n₀ ≤ w.heap.size) (W : World) (l : Nat) (o o' : Obj) (hl : w.heap.size ≤ l) (h : W.heap[l]? = some o) (hc : o.isCells = false) (hw : o.isWalk = false) : zr2 n₀ Bs W (W.putObj l o') :=
  ⟨belowK_b hn W l o o' hl h hc hw, fun v e => Go.cell_kept e (grownBy_putObj' W l o') (fun r e' => by cases e'; exact ⟨o, h, hc⟩)⟩
set_option maxHeartbeats 1000000 in
theorem yce (F : Fence) (n : Nat) (h95 : F.fn 121) (hro : F.round = none) (a : Option Addr) (len cap : Nat) (w : World) :
    CallsIn F n Tryz.prog 121 #[.slice a len cap] w fun e w' => e = .returned (.func (.func 145) #[] #[.pointer (some ⟨w.heap.size, 0, none⟩)]) ∧ w' = w.alloc (.cells #[.slice a len cap] 24) := by
  refine callsIn_of_wp Tryz.func121 rfl h95 ?_ hro
  simp only [Tryz.ntmps121, List.size_toArray, List.length_cons, List.length_nil, Nat.reduceAdd, Nat.reduceSub, Array.replicate_succ, Array.replicate_zero, List.push_toArray, List.append_toArray, List.nil_append, List.cons_append]
  gi_wp2
  go_ret
  exact ⟨rfl, rfl⟩
theorem zxy (F : Fence) (n : Nat) (h112 : F.fn 145) (hro : F.round = none) (hn : 1 ≤ n) (Bs n₀ : Nat) (A : Option Addr) (c : Nat) (xs : List S55) (hxs : xs.length ≤ 1048576) (w : World) (hlt : Bs < w.heap.size) (hn₀ : n₀ ≤ w.heap.size)
    (hBs : w.cell? ⟨Bs, 0, none⟩ = some (.slice A xs.length c)) (hR : ∀ W', Below n₀ w W' → Kd.C k55 W' A xs.length xs) :
    SeqStopsK F n Tryz.prog 145 #[.pointer (some ⟨Bs, 0, none⟩)] (fun x : { i : Nat // i < xs.length } => zrr xs (x.1 : Nat)) (zr2 n₀ Bs) (fun ys => ys = zkt xs.length xs.length) (fun _ => True) xs.length w := fun l J Jx W hW _ _ hY h0 => by
  refine (yan F n h112 hro hn l Bs n₀ A c xs hxs J Jx W (Nat.le_trans hn₀ hW.size) (fun W' hb => hR W' ((hW.mono hn₀).trans hb)) hY ((hW.cell (p := ⟨Bs, 0, none⟩) hlt).trans hBs) h0).mono ?_
  rintro e W' ⟨he, ⟨ys, hy, hj⟩ | ⟨pre, _, hj⟩⟩
  · exact ⟨he, .inl ⟨_, hy, hj⟩⟩
  · exact ⟨he, .inr ⟨pre, trivial, hj⟩⟩
end Go.Proofs.YtabnafbgcpchdaaGreat.Q
end
section
namespace Go.Proofs.YtabnafbgcpchdaaGreat.Q
open Go.RowKit Go.Proofs.YtabnafbgcpchdaaGreatW.PrintWords Go.Proofs.YtabnafbgcpchdaaGreatW.PrintLast Go.Proofs.YtabnafbgcpchdaaGreatW.PrintMore
set_option linter.unusedVariables false
theorem zyn {l n : Nat} {P : Program} {o : Oper} {a : Act} {w : World} {K : Act → World → Prop} {Q : Exit → Act → World → Prop} (hd : ∀ c, o.op ≠ .defer c) (h : o.wp P a w K Q) :
    o.wpIn (Fence.wide.inRound l) n P a w K Q := by
  refine ⟨fun _ _ => trivial, ?_⟩
  rw [show o.semAt (Fence.wide.inRound l).round a.eval = execOp a.eval o from Oper.semAt_some l a.eval o hd]
  unfold Oper.wp at h
  generalize (execOp a.eval o).run P w = r at h ⊢
  cases r with
  | ok x w' =>
    cases x with
    | value v => exact h
    | skip => exact h
    | defer d => exact h
    | enter f args => exact ⟨(fun h' => by cases h'), CallsIn.inRound l (callsIn_wide.2 h)⟩
    | row row args => exact ⟨(fun h' => by cases h'), fun c cs _ => let ⟨v, w'', r, s⟩ := h c cs; ⟨v, w'', r, stepsIn_wide.2 s⟩⟩
    | _ => exact h.elim
  | halt x w' => cases x <;> exact h
def ztt (ops : Array Oper) : Bool := ops.toList.all fun o => match o.op with | .defer _ => false | _ => true
theorem zxz {ops : Array Oper} (h : ztt ops = true) (i : Nat) (o : Oper) (ho : ops[i]? = some o) : ∀ c, o.op ≠ .defer c := by
  intro c e
  have := List.all_eq_true.1 h o (by rw [← Array.getElem?_toList] at ho; exact List.mem_of_getElem? ho)
  rw [e] at this
  cases this
theorem znc {l n : Nat} {P : Program} {md : Region.Mode} {ops : Array Oper} {Q : Exit → Act → World → Prop} (hd : ztt ops = true) (hL : ¬ LetsOut Q) :
    ∀ (fuel : Nat) (listed : Array Bool) (a : Act) (w : World), wpAny P md ops Q fuel listed a w → wpAnyIn (Fence.wide.inRound l) n P md ops Q fuel listed a w
  | 0, _, _, _, h => h
  | fuel + 1, listed, a, w, h => by
    refine ⟨h.1, fun i hi => ?_⟩
    have h2 := h.2 i hi
    unfold wpOp at h2
    unfold wpOpIn
    split
    · rename_i ho
      rw [ho] at h2
      exact znc hd hL fuel _ _ _ h2
    · rename_i o ho
      rw [ho] at h2
      simp only at h2
      split
      · rename_i hw
        rw [if_pos hw] at h2
        rcases h2 with h2 | h2
        · exact Oper.wpIn_mono (fun a w h' => znc hd hL fuel _ a w h') (zyn (zxz hd i o ho) h2)
        · exact absurd h2.2 hL
      · rename_i hw
        rw [if_neg hw] at h2
        exact ⟨fun _ _ => trivial, znc hd hL fuel _ _ _ h2⟩
theorem zwb {l q : Nat} {P : Program} {Q : Exit → Act → World → Prop} {ops : Array Oper} {id : Nat} {a : Act} {w : World} (deps nots : List (List Nat)) (I : (Nat → Bool) → (Nat → Value) → World → Prop) (hm : P.follows .mixedOrders = true) (hd : ztt ops = true) (hL : ¬ LetsOut Q) (hQ : ∀ c t t' d w, Q (.panic c) ⟨t, d⟩ w → Q (.panic c) ⟨t', d⟩ w)
    (hok : riOk .any ops a.tmps.size deps nots = true) (h0 : I (fun _ => false) (fun _ => undef) w.drew) (hs : zqm P Q ops a I ops.toList deps nots 0)
    (hend : ∀ L s w', (∀ i, Nat.blt i ops.size = true → L i = true) → I L s w' → Q .normal (zd9 ops (fun _ => true) s a) w') : (Code.region id ops true).wpIn (Fence.wide.inRound l) q P Q a w :=
  wpIn_region_any hm (znc hd hL _ _ _ _ (zw0 deps nots I hQ hok h0 hs hend))
theorem zx0 {l q : Nat} {P : Program} {Q : Exit → Act → World → Prop} {ops : Array Oper} {id : Nat} {a : Act} {w : World} (deps : List (List Nat)) (n : Nat) (V : Nat → Value) (last : Oper) (hm : P.follows .mixedOrders = true) (hd : ztt ops = true) (hL : ¬ LetsOut Q) (hQ : ∀ c t t' d w, Q (.panic c) ⟨t, d⟩ w → Q (.panic c) ⟨t', d⟩ w)
    (hok : riOk .any ops a.tmps.size deps (List.replicate n [n]) = true) (hn : ops.size = n + 1) (hlast : ops.toList[n]? = some last) (hdst : last.dst = none) (hv : zw1 P ops V a w.drew ops.toList deps 0)
    (hl : zpb P Q ops last (zd9 ops (zjo (deps.getD n [])) V a) (fun _ w' => Q .normal (zd9 ops (fun _ => true) V a) w') w.drew) : (Code.region id ops true).wpIn (Fence.wide.inRound l) q P Q a w :=
  wpIn_region_any hm (znc hd hL _ _ _ _ (zv7 deps n V last hQ hok hn hlast hdst hv hl))
end Go.Proofs.YtabnafbgcpchdaaGreat.Q
end
section
namespace Go.Proofs.YtabnafbgcpchdaaGreat.Q
open Go.RowKit Go.Proofs.YtabnafbgcpchdaaGreatW.PrintWords Go.Proofs.YtabnafbgcpchdaaGreatW.PrintLast Go.Proofs.YtabnafbgcpchdaaGreatW.PrintMore
set_option maxHeartbeats 8000000
set_option maxRecDepth 100000
attribute [local go_sem] zjj zjk zla zlb zh8 zh9 zjl zjm
set_option linter.unusedVariables false
set_option linter.unusedSimpArgs false
def zfx : List S55 → Option (List Int)
 | [] => some []
 | x :: xs => (zdx x.f0 x.f1 x.f2 x.f3 x.f4).bind fun c => (zfx xs).bind fun cs => some (c :: cs)
def zfl (all : List (List Int)) (i : Nat) : Nat → Nat → List Int → List Int
 | 0, _, o => o
 | d + 1, j, o => zfl all i d (j + 1) (if rd (za1 all (j : Int)) (i : Int) ≥ 0 then o.set i (mn (rd o (i : Int)) (wrap64 (rd o (j : Int) - rd (za1 all (j : Int)) (i : Int)))) else o)
def zcb (all : List (List Int)) (cs : List Int) (a : Int) (n : Nat) (o : List Int) (i : Nat) : List Int := zfl all i (n - 1 - i) (i + 1) (o.set i (wrap64 (a - rd cs (i : Int))))
def zhr (all : List (List Int)) (n : Nat) : Bool := decide (all.length = n ∧ n ≤ 1048576) && (List.range n).all fun j : Nat => decide (j ≤ (za1 all j).length)
def zfm (k : Nat) (l0 : List (S55)) (a1 : Int) : Option (List Int) :=
 (zes k l0).bind fun all => (zfx l0).bind fun cs => if zhr all l0.length = true then some (((List.range l0.length).map fun j => l0.length - 1 - j).foldl (zcb all cs a1 l0.length) (List.replicate l0.length 0)) else none
theorem zh6 : ∀ a0 a1 k, LeO (zfm k a0 a1) (zfm (k + 1) a0 a1) := by
 intro a0 a1 k
 unfold zfm
 exact LeO.bind (zdv _ _) (fun _ => LeO.refl _)
open Go.Shelf
attribute [local go_sem] Oper.semAt_some
def zyo (Q : Exit → Act → World → Prop) : Exit → Act → World → Prop
 | .panic _, _, _ => False
 | e, a, w => Q e a w
theorem zx1 {Q : Exit → Act → World → Prop} : ∀ e a w, zyo Q e a w → Q e a w := fun e a w h => by cases e <;> first | exact h.elim | exact h
def latI (w : World) (A0 : Option Addr) (c0 n : Nat) (a1 : Int) (all : List (List Int)) (q5 q6 : Nat) (vA vO : Value) (o : List Int) (W : World) : Prop :=
 Below w.heap.size w W ∧ w.heap.size + 2 ≤ W.heap.size ∧ W.heap[w.heap.size]? = some (.cells #[.slice A0 n c0] 24 (0, 0)) ∧ W.heap[w.heap.size + 1]? = some (.cells #[.int .i64 a1] 3 (0, 0)) ∧
 W.heap[q5]? = some (.cells #[vA] 36 (0, 0)) ∧ W.heap[q6]? = some (.cells #[vO] 25 (0, 0)) ∧ Kd.S (Kd.slice 3 (Kd.int .i64)) 25 W (w.heap.size + 2) (fun k => some k ≠ vO.ownBlock) vA all ∧ Kd.R (Kd.int .i64) 3 W (w.heap.size + 2) (fun _ => True) vO o
theorem znu {n₀ Bs : Nat} {A B : World} (hn : n₀ ≤ A.heap.size) (h : Below A.heap.size A B) : zr2 n₀ Bs A B := ⟨h.mono hn, fun v e => (h.cell (World.block_lt_of_cell? A _ e)).trans e⟩
theorem zuw {n₀ Bs : Nat} {A : World} {p : Addr} (hn : n₀ ≤ p.block) (hne : Bs ≠ p.block) (v : Value) : zr2 n₀ Bs A (A.setCell p v) := ⟨(Below.refl _ A).setCell hn _, fun u e => by rw [← e]; exact zaf hne v⟩
theorem zux (n : Nat) : (zkt n n).map Subtype.val = (List.range n).map fun j => n - 1 - j := by
 have : ∀ d, d ≤ n → (zkt n d).map Subtype.val = (List.range d).map fun j => n - 1 - j := by
   intro d
   induction d with
   | zero => intro _; rfl
   | succ d ih =>
     intro hd
     rw [zlm n d (by omega), List.map_append, ih (by omega), List.range_succ, List.map_append]
     rfl
 exact this n (zlr _)
theorem zw3 : ∀ (l : List S55) (cs : List Int), zfx l = some cs → ∀ i, i < l.length → zdx (zaa l i).f0 (zaa l i).f1 (zaa l i).f2 (zaa l i).f3 (zaa l i).f4 = some (rd cs i)
 | [], _, _, i, hi => absurd hi (Nat.not_lt_zero _)
 | x :: xs, cs, h, i, hi => by
   unfold zfx at h
   obtain ⟨c, hc, h⟩ := Option.bind_eq_some_iff.1 h
   obtain ⟨cs', hcs, h⟩ := Option.bind_eq_some_iff.1 h
   obtain rfl := zsi h
   cases i with
   | zero => simpa [zaa, rd] using hc
   | succ i => simpa [zaa, rd] using zw3 xs cs' hcs i (by simpa using hi)
theorem zs3 (all : List (List Int)) (i : Nat) : ∀ d j o, (zfl all i d j o).length = o.length
 | 0, _, _ => rfl
 | d + 1, j, o => by
   unfold zfl
   rw [zs3]
   split <;> simp
theorem zwc (all : List (List Int)) (cs : List Int) (a : Int) (n : Nat) (o : List Int) (i : Nat) : (zcb all cs a n o i).length = o.length := by
 unfold zcb
 rw [zs3]
 simp
theorem zwd (all : List (List Int)) (cs : List Int) (a : Int) (n : Nat) (ps : List Nat) : (ps.foldl (zcb all cs a n) (List.replicate n 0)).length = n := by
 have : ∀ (ps : List Nat) (o : List Int), (ps.foldl (zcb all cs a n) o).length = o.length := fun ps => by
   induction ps with
   | nil => intro o; rfl
   | cons p ps ih => intro o; rw [List.foldl_cons, ih, zwc]
 rw [this]
 simp
section
variable {w W W1 : World} {A0 : Option Addr} {c0 n : Nat} {a1 : Int} {all : List (List Int)} {q5 q6 : Nat} {vA vO : Value} {o : List Int}
theorem znd (h : latI w A0 c0 n a1 all q5 q6 vA vO o W) (hb : Below W.heap.size W W1) : latI w A0 c0 n a1 all q5 q6 vA vO o W1 := by
 obtain ⟨h0, hz, h1, h2, h3, h4, h5, h6⟩ := h
 exact ⟨zac h0 hb, Nat.le_trans hz hb.size, zag h1 hb, zag h2 hb, zag h3 hb, zag h4 hb, Kd.S_below h5 hb, zRb h6 hb⟩
theorem zs4 {row : Option Nat} (h : latI w A0 c0 n a1 all q5 q6 vA vO o W) (hg : W.grownBy W1 row) (hr : ∀ r, row = some r → w.heap.size ≤ r ∧ ∃ o : Obj, W.heap[r]? = some o ∧ o.isCells = false) : latI w A0 c0 n a1 all q5 q6 vA vO o W1 := by
 obtain ⟨h0, hz, h1, h2, h3, h4, h5, h6⟩ := h
 have hb : ∀ (g : Nat) (cs : Array Value) (t : Nat), W.heap[g]? = some (.cells cs t (0, 0)) → W1.heap[g]? = some (.cells cs t (0, 0)) := fun g cs t hc => (hg.block g (zgu hc) (fun e => by
   obtain ⟨_, o, ho, hi⟩ := hr g e.symm
   rw [hc] at ho
   cases ho
   cases hi)).trans hc
 refine ⟨h0.grown hg h0.size (fun r e => (hr r e).1), Nat.le_trans hz hg.size, hb _ _ _ h1, hb _ _ _ h2, hb _ _ _ h3, hb _ _ _ h4, Kd.S_mono (Kd.S_move (Kd.S_bound h5) (fun k hk => ?_)) (fun k hk => hk.1), Kd.R_mono (Kd.R_move (Kd.R_bound h6) (fun k hk => ?_)) (fun _ _ => trivial)⟩
 · obtain ⟨_, _, _, q, _, cs, hc⟩ := hk
   exact (hb _ _ _ hc).trans hc.symm
 · obtain ⟨_, _, _, q, _, cs, hc⟩ := hk
   exact (hb _ _ _ hc).trans hc.symm
theorem zw4 {g co : Nat} (h : latI w A0 c0 n a1 all q5 q6 vA (.slice (some ⟨g, 0, none⟩) o.length co) o W) (i : Int) (h0 : 0 ≤ i) (hi : i < o.length) (x : Int) : latI w A0 c0 n a1 all q5 q6 vA (.slice (some ⟨g, 0, none⟩) o.length co) (o.set i.toNat x) (W.setCell ⟨g, i.toNat, none⟩ (.int .i64 x)) := by
 obtain ⟨h0, hz, h1, h2, h3, h4, h5, h6⟩ := h
 have hg := Kd.R_base h6 g rfl
 obtain ⟨cs, hc⟩ := Kd.R_typed h6 g rfl
 exact ⟨zad h0 (by omega), by simpa using hz, zav h1 zq54 _, zav h2 zq54 _, zav h3 (fun e => by simp at e; rw [e, hc] at h3; cases h3) _, zav h4 (fun e => by simp at e; rw [e, hc] at h4; cases h4) _,
   Kd.S_far h5 (fun k hk e => hk (by rw [e]; rfl)) _, (Kd.R_put h6 i x).1⟩
end
theorem zri (k : Nat) (A0 : Option Addr) (c0 : Nat) (l0 : List S55) (a1 : Int) (all : List (List Int)) (cs : List Int) (w : World) (hcs : zfx l0 = some cs) (hr0 : Kd.C k55 w A0 l0.length l0) (hc0 : l0.length ≤ c0) (hA : zes k l0 = some all) (hT : zhr all l0.length = true) (R : Ending → World → Prop)
   (hR : ∀ v W, Kd.R (Kd.int .i64) 3 W w.heap.size (fun _ => True) v (((List.range l0.length).map fun j => l0.length - 1 - j).foldl (zcb all cs a1 l0.length) (List.replicate l0.length 0)) → Below w.heap.size w W → R (.returned v) W) :
   Calls Tryz.prog 79 #[.slice A0 l0.length c0, .int .i64 a1] w R := by
 have hu57 := Tryz.underlying55
 unfold zhr at hT
 simp only [Bool.and_eq_true, decide_eq_true_eq, List.all_eq_true, List.mem_range] at hT
 have hl := hT.1.2
 have HT := zA hT
 clear hT
 have HC := zA hcs
 clear hcs
 have HR0 := zA hr0
 have HC0 := zA hc0
 have HA := zA hA
 clear hr0 hc0 hA
 refine (callsIn_wide (n := 8)).1 ?_
 refine callsIn_of_wp_marks Tryz.func79 rfl trivial ?_ rfl
 simp only [Tryz.ntmps79, List.size_toArray, List.length_cons, List.length_nil, Nat.reduceAdd, Nat.reduceSub, Array.replicate_succ, Array.replicate_zero, List.push_toArray, List.append_toArray, List.nil_append, List.cons_append]
 refine wpIn_wide.2 ?_
 refine wp_mono (Q := zyo (bodyPostM Fence.wide 8 Tryz.prog Tryz.f79 R)) ?_ zx1
 go_wp2
 obtain ⟨W0, hW0⟩ : ∃ W0, (w.alloc (.cells #[.slice A0 l0.length c0] 24)).alloc (.cells #[.int .i64 a1] 3) = W0 := ⟨_, rfl⟩
 have HB := zA (show Below w.heap.size w W0 from hW0 ▸ zba (zba (Below.refl _ _) _) _)
 have HZ := zA (show W0.heap.size = w.heap.size + 2 by rw [← hW0]; simp)
 have B1 := zA (show W0.heap[w.heap.size]? = some (.cells #[.slice A0 l0.length c0] 24 (0, 0)) from hW0 ▸ zka (zie w _) _)
 have B2 := zA (show W0.heap[w.heap.size + 1]? = some (.cells #[.int .i64 a1] 3 (0, 0)) by rw [← hW0]; simpa using zie (w.alloc (.cells #[.slice A0 l0.length c0] 24)) (.cells #[.int .i64 a1] 3))
 rw [hW0]
 clear hW0
 refine zup [[], [0], [], [2], [2, 3], [], [], [0, 1, 5, 6], [0, 1, 2, 3, 4, 5, 6, 7]] [[1, 7, 8], [7, 8], [3, 4, 8], [4, 8], [8], [7, 8], [7, 8], [8], []]
   (fun L s W => (Below w.heap.size w W ∧ w.heap.size + 2 ≤ W.heap.size ∧ W.heap[w.heap.size]? = some (.cells #[.slice A0 l0.length c0] 24 (0, 0)) ∧ W.heap[w.heap.size + 1]? = some (.cells #[.int .i64 a1] 3 (0, 0))) ∧
     (L 0 = true → s 0 = .slice A0 l0.length c0) ∧ (L 2 = true → s 2 = .slice A0 l0.length c0) ∧ (L 3 = true → s 3 = .int .i64 l0.length) ∧
     (L 1 = true → Kd.S (Kd.slice 3 (Kd.int .i64)) 25 W (w.heap.size + 2) (fun k => (L 6 = true → s 6 ≠ .pointer (some ⟨k, 0, none⟩)) ∧ (L 4 = true → some k ≠ (s 4).ownBlock)) (s 1) all) ∧
     (L 4 = true → Kd.R (Kd.int .i64) 3 W (w.heap.size + 2) (fun _ => True) (s 4) (List.replicate l0.length 0)) ∧
     (L 5 = true → ∃ g c, s 5 = .pointer (some ⟨g, 0, none⟩) ∧ w.heap.size + 2 ≤ g ∧ W.heap[g]? = some (.cells #[c] 36 (0, 0)) ∧ (L 7 = true → c = s 1)) ∧
     (L 6 = true → ∃ g c, s 6 = .pointer (some ⟨g, 0, none⟩) ∧ w.heap.size + 2 ≤ g ∧ W.heap[g]? = some (.cells #[c] 25 (0, 0)) ∧ (L 8 = true → c = s 4)))
   zq27 (fun _ _ _ _ _ h => h) zq27 ?_ ⟨?_, ?_, ?_, ?_, ?_, ?_, ?_, ?_, ?_, trivial⟩ ?_
 · exact ⟨⟨zi6 HB.out, Nat.le_of_eq HZ.out.symm, zkd B1.out, zkd B2.out⟩, zq68, zq68, zq68, zq68, zq68, zq68, zq68⟩
 · rintro L s W hi hd hn ⟨⟨hB, hz, b1, b2⟩, g0, g2, g3, g1, g4, g5, g6⟩ K hK
   have hc := zab b1 0
   refine zkb (N := some 11) (v := .slice A0 l0.length c0) (w1 := W) (by rfl) rfl ?_ (hK _ _ ⟨⟨hB, hz, b1, b2⟩, fun _ => rfl, g2, g3, g1, g4, g5, g6⟩)
   refine zsr ?_
   go_simp
 · rintro L s W hi hd hn ⟨⟨hB, hz, b1, b2⟩, g0, g2, g3, g1, g4, g5, g6⟩ K hK
   refine zqz Tryz.func59 zq27 rfl #[.slice A0 l0.length c0] (by rfl) rfl rfl (by simp only [List.map_toArray, List.map_cons, List.map_nil]; exact congrArg (fun x => #[x]) (g0 hd)) ?_
   refine (zg4 k _ _ l0 all _ (zCb HR0.out hB) HC0.out HA.out).mono ?_
   rintro e w1 ⟨v, rfl, ho, hb⟩
   refine ⟨_, rfl, hK _ _ ⟨⟨zac hB hb, Nat.le_trans hz hb.size, zag b1 hb, zag b2 hb⟩, g0, g2, g3, fun _ => ?_, fun h => zRb (g4 h) hb, fun h => ?_, fun h => ?_⟩⟩
   · refine Kd.S_mono (Kd.S_lower (Kd.S_bound ho) hz) (fun k hk => ⟨fun h e => ?_, fun h e => ?_⟩)
     · obtain ⟨g, c, e6, _, hb6, _⟩ := g6 h
       cases (e6.symm.trans e)
       exact absurd (zgu hb6) (Nat.not_lt.2 hk.2.1)
     · exact absurd (Kd.R_lt (g4 h) k e.symm) (Nat.not_lt.2 hk.2.1)
   · obtain ⟨g, c, e5, hg, hb5, h7⟩ := g5 h
     exact ⟨g, c, e5, hg, zag hb5 hb, fun h7 => absurd (h7.symm.trans hn.1) (by simp)⟩
   · obtain ⟨g, c, e6, hg, hb6, h8⟩ := g6 h
     exact ⟨g, c, e6, hg, zag hb6 hb, fun h8 => absurd (h8.symm.trans hn.2) (by simp)⟩
 · rintro L s W hi hd hn ⟨⟨hB, hz, b1, b2⟩, g0, g2, g3, g1, g4, g5, g6⟩ K hK
   have hc := zab b1 0
   refine zkb (N := some 13) (v := .slice A0 l0.length c0) (w1 := W) (by rfl) rfl ?_ (hK _ _ ⟨⟨hB, hz, b1, b2⟩, g0, fun _ => rfl, g3, g1, g4, g5, g6⟩)
   refine zsr ?_
   go_simp
 · rintro L s W hi hd hn ⟨⟨hB, hz, b1, b2⟩, g0, g2, g3, g1, g4, g5, g6⟩ K hK
   refine zkb (N := some 14) (v := .int .i64 l0.length) (w1 := W) (by rfl) rfl ?_ (hK _ _ ⟨⟨hB, hz, b1, b2⟩, g0, g2, fun _ => rfl, g1, g4, g5, g6⟩)
   have e2 := g2 hd
   refine zsr ?_
   go_simp
 · rintro L s W hi hd hn ⟨⟨hB, hz, b1, b2⟩, g0, g2, g3, g1, g4, g5, g6⟩ K hK
   have e3 := g3 hd.2
   refine Kd.R_make_step (Kd.int .i64) _ 3 (by rfl) (N := 15) rfl 25 _ _ rfl (l0.length : Int) e3 e3 Tryz.underlying25 (.int .i64 0) 8 zkf rfl (by decide) (by omega) 0 (ok := fun _ => True) (okp := fun _ => True) rfl (fun _ h => h) trivial (by omega) (by rw [Int.toNat_natCast]; omega) (Below.refl _ _) (zlr _) ?_
   intro v1 w1 ho hb hg hnew
   rw [Int.toNat_natCast] at ho
   refine hK _ _ ⟨⟨zac hB hb, Nat.le_trans hz hb.size, zag b1 hb, zag b2 hb⟩, g0, g2, g3, fun h => ?_, fun _ => Kd.R_lower ho hz, fun h => ?_, fun h => ?_⟩
   · refine Kd.S_mono (Kd.S_bound (Kd.S_below (Kd.S_bound (g1 h)) hb)) (fun k hk => ⟨hk.1.1.1, fun _ e => ?_⟩)
     obtain ⟨b, e', hbl⟩ := hnew
     rw [show (riUp s 4 v1 4).ownBlock = _ from e'] at e
     cases e
     exact absurd hk.1.2.2.1 (Nat.not_lt.2 hbl)
   · obtain ⟨g, c, e5, hg, hb5, h7⟩ := g5 h
     exact ⟨g, c, e5, hg, zag hb5 hb, h7⟩
   · obtain ⟨g, c, e6, hg, hb6, h8⟩ := g6 h
     exact ⟨g, c, e6, hg, zag hb6 hb, fun h8 => absurd (h8.symm.trans hn) (by simp)⟩
 · rintro L s W hi hd hn ⟨⟨hB, hz, b1, b2⟩, g0, g2, g3, g1, g4, g5, g6⟩ K hK
   refine zo6 ?hg (N := 5) ?hd (cs := #[.slice none 0 0]) (t := 36) ?hr ?_; (case hd => rfl); (case hg => rfl); (case hr => go_simp <;> rfl)
   intro g hg w1 hbox hb
   refine hK _ _ ⟨⟨zac hB hb, Nat.le_trans hz hb.size, zag b1 hb, zag b2 hb⟩, g0, g2, g3, fun h => Kd.S_below (g1 h) hb, fun h => zRb (g4 h) hb, fun _ => ?_, fun h => ?_⟩
   · exact ⟨g, _, rfl, hg ▸ hz, hbox, fun h7 => absurd (h7.symm.trans hn.1) (by simp)⟩
   · obtain ⟨g, c, e6, hg, hb6, h8⟩ := g6 h
     exact ⟨g, c, e6, hg, zag hb6 hb, fun h8 => absurd (h8.symm.trans hn.2) (by simp)⟩
 · rintro L s W hi hd hn ⟨⟨hB, hz, b1, b2⟩, g0, g2, g3, g1, g4, g5, g6⟩ K hK
   refine zo6 ?hg (N := 6) ?hd (cs := #[.slice none 0 0]) (t := 25) ?hr ?_; (case hd => rfl); (case hg => rfl); (case hr => go_simp <;> rfl)
   intro g hg w1 hbox hb
   refine hK _ _ ⟨⟨zac hB hb, Nat.le_trans hz hb.size, zag b1 hb, zag b2 hb⟩, g0, g2, g3, fun h => ?_, fun h => zRb (g4 h) hb, fun h => ?_, fun _ => ?_⟩
   · refine Kd.S_mono (Kd.S_below (Kd.S_bound (g1 h)) hb) (fun k hk => ⟨fun _ e => ?_, hk.1.2⟩)
     have e' : g = k := by cases e; rfl
     exact absurd hk.2.2.1 (by omega)
   · obtain ⟨g, c, e5, hg, hb5, h7⟩ := g5 h
     exact ⟨g, c, e5, hg, zag hb5 hb, fun h7 => absurd (h7.symm.trans hn.1) (by simp)⟩
   · exact ⟨g, _, rfl, hg ▸ hz, hbox, fun h8 => absurd (h8.symm.trans hn.2) (by simp)⟩
 · rintro L s W hi hd hn ⟨⟨hB, hz, b1, b2⟩, g0, g2, g3, g1, g4, g5, g6⟩ K hK
   obtain ⟨h0, h1, h5, h6⟩ := hd
   obtain ⟨q5, c5, e5, l5, hb5, _⟩ := g5 h5
   obtain ⟨q6, c6, e6, l6, hb6, h8⟩ := g6 h6
   have ne : q6 ≠ q5 := fun e => by subst e; rw [hb5] at hb6; cases hb6
   refine zsm (w1 := W.setCell ⟨q5, 0, none⟩ (s 1)) (by rfl) rfl ?_ (hK undef _ ⟨⟨zad hB (by omega), by simpa using hz, zav b1 zq54 _, zav b2 zq54 _⟩, g0, g2, g3, fun h => Kd.S_set (g1 h) hb5 (by decide) _ _, fun h => Kd.R_set (g4 h) hb5 (by decide) _ _, fun _ => ⟨q5, s 1, e5, l5, zap hb5 0 _, fun _ => rfl⟩, fun _ => ⟨q6, c6, e6, l6, zav hb6 ne _, h8⟩⟩)
   have hc := zab hb5 0
   have hf := zat hb5 0
   obtain ⟨A1, c1, e1⟩ := Kd.S_slice (g1 h1)
   refine zsr ?_
   go_simp
 · rintro L s W hi hd hn ⟨⟨hB, hz, b1, b2⟩, g0, g2, g3, g1, g4, g5, g6⟩ K hK
   obtain ⟨h0, h1, h2, h3, h4, h5, h6, h7⟩ := hd
   obtain ⟨q5, c5, e5, l5, hb5, h7'⟩ := g5 h5
   obtain ⟨q6, c6, e6, l6, hb6, _⟩ := g6 h6
   have ne : q5 ≠ q6 := fun e => by subst e; rw [hb5] at hb6; cases hb6
   refine zsm (w1 := W.setCell ⟨q6, 0, none⟩ (s 4)) (by rfl) rfl ?_ (hK undef _ ⟨⟨zad hB (by omega), by simpa using hz, zav b1 zq54 _, zav b2 zq54 _⟩, g0, g2, g3, fun h => Kd.S_far (g1 h) (fun k hk e => hk.1 h6 (by rw [e6, e])) _, fun h => Kd.R_set (g4 h) hb6 (by decide) _ _, fun _ => ⟨q5, c5, e5, l5, zav hb5 ne _, h7'⟩, fun _ => ⟨q6, s 4, e6, l6, zap hb6 0 _, fun _ => rfl⟩⟩)
   have hc := zab hb6 0
   have hf := zat hb6 0
   obtain ⟨A1, c1, e1⟩ := Kd.R_slice (g4 h4)
   refine zsr ?_
   go_simp
 intro L s W hL ⟨⟨hB, hz, b1, b2⟩, g0, g2, g3, g1, g4, g5, g6⟩
 obtain ⟨q5, c5, e5, l5, hb5, h7⟩ := g5 (hL 5 rfl)
 obtain ⟨q6, c6, e6, l6, hb6, h8⟩ := g6 (hL 6 rfl)
 obtain rfl := h7 (hL 7 rfl)
 obtain rfl := h8 (hL 8 rfl)
 have hS := g1 (hL 1 rfl)
 have hR4 := g4 (hL 4 rfl)
 have hW : latI w A0 c0 l0.length a1 all q5 q6 (s 1) (s 4) (List.replicate l0.length 0) W := ⟨hB, hz, b1, b2, hb5, hb6, Kd.S_mono hS (fun k hk => hk.2 (hL 4 rfl)), hR4⟩
 obtain ⟨Al, cl, eA⟩ := Kd.S_slice hW.2.2.2.2.2.2.1
 rw [eA] at hW
 clear eA
 generalize s 4 = vO at hW
 clear hS hR4 g0 g1 g2 g3 g4 g5 g6 h7 h8 hB hz hL
 refine zsr ?_
 have hc1 := zab b1 0
 go_wp2_with (go_at_call 121; refine ((callsIn_wide (n := 3)).1 (yce Fence.wide 3 trivial rfl _ _ _ _)).mono ?_; rintro e w' ⟨rfl, rfl⟩)
 clear hc1 b1 b2 hb5 hb6 e5 e6
 have hI5 := znd hW (zba (Below.refl _ W) (.cells #[.slice A0 l0.length c0] 24))
 have hBs := (zab (zie W (.cells #[.slice A0 l0.length c0] 24)) 0).trans rfl
 have hlt : W.heap.size < (W.alloc (.cells #[.slice A0 l0.length c0] 24)).heap.size := by simp
 have HN := zA (Kd.R_lt hW.2.2.2.2.2.2.2)
 clear hW
 generalize W.alloc (.cells #[.slice A0 l0.length c0] 24) = W5 at hI5 hBs hlt ⊢
 refine (wpIn_wide (n := 8)).1 ?_
 refine wpIn_rangeFunc_ownH rfl (by decide) (gf := 145) (lb := #[.pointer (some ⟨W.heap.size, 0, none⟩)]) rfl trivial (enters_of Tryz.func145 zq27 rfl)
   (zxy Fence.wide 7 trivial rfl (by decide) W.heap.size w.heap.size A0 c0 l0 hl W5 hlt hI5.1.size hBs (fun W' hb => zCb HR0.out (hI5.1.trans hb)))
   zqq (ycd hI5.1.size) (Below.refl _ _) (fun _ => rfl)
   (fun pre W' => latI w A0 c0 l0.length a1 all q5 q6 (.slice Al all.length cl) vO ((pre.map Subtype.val).foldl (zcb all cs a1 l0.length) (List.replicate l0.length 0)) W')
   (fun _ _ _ => False) (fun _ _ _ _ hs hg hr => zs4 hs hg (fun r e => ⟨Nat.le_trans hI5.1.size (hr r e).1, (hr r e).2⟩)) (fun _ _ _ _ _ hs _ _ => hs) hI5
   (fun x a' W' => ∃ Bx, some Bx ≠ vO.ownBlock ∧ W'.heap[Bx]? = some (.cells #[.string (zaa l0 x.1).f0, .int .i64 (zaa l0 x.1).f1, .int .i64 (zaa l0 x.1).f2, .int .i64 (zaa l0 x.1).f3, .int .i64 (zaa l0 x.1).f4] 55 (0, 0)) ∧ a' = { tmps := #[.slice A0 l0.length c0, .int .i64 a1, .pointer (some ⟨w.heap.size, 0, none⟩), .pointer (some ⟨w.heap.size + 1, 0, none⟩), .slice none 0 0, .pointer (some ⟨q5, 0, none⟩), .pointer (some ⟨q6, 0, none⟩), .int .i64 (x.1 : Nat), .pointer (some ⟨Bx, 0, none⟩), undef, undef, s 0, s 1, s 2, s 3, s 4, .slice A0 l0.length c0, .func (.func 145) #[] #[.pointer (some ⟨W.heap.size, 0, none⟩)], .int .i64 (x.1 : Nat), .agg #[.string (zaa l0 x.1).f0, .int .i64 (zaa l0 x.1).f1, .int .i64 (zaa l0 x.1).f2, .int .i64 (zaa l0 x.1).f3, .int .i64 (zaa l0 x.1).f4], undef, undef, undef, undef, undef, undef, undef, undef, undef, undef, undef, undef, undef, undef, undef, undef, undef, undef, undef, undef, undef, undef, undef, undef, undef, undef, undef, undef, undef, undef, undef, undef, undef, undef, undef, undef, undef, undef, undef], defers := [] })
   ?hAx ?assign ?body ?done ?stop
 case hAx =>
   rintro x a' _ X Y row ⟨Bx, h1, h2, h3⟩ hg hr
   refine ⟨Bx, h1, (hg.block Bx (zgu h2) (fun e => ?_)).trans h2, h3⟩
   obtain ⟨_, o, ho, hi⟩ := hr Bx e.symm
   rw [h2] at ho
   cases ho
   cases hi
 case assign =>
   rintro l pre ⟨i, hi⟩ W' K hI hK
   simp only [zrr]
   gi_wp2
   have hb := zba (Below.refl _ W') (.cells #[.string (zaa l0 i).f0, .int .i64 (zaa l0 i).f1, .int .i64 (zaa l0 i).f2, .int .i64 (zaa l0 i).f3, .int .i64 (zaa l0 i).f4] 55)
   exact hK _ _ ((KeepsOthers.alloc _ _).from _) (znu hI.1.size hb) (znd hI hb) ⟨W'.heap.size, fun e => absurd (Kd.R_lt hI.2.2.2.2.2.2.2 _ e.symm) (Nat.lt_irrefl _), zie _ _, rfl⟩
 case body =>
   rintro l pre ⟨i, hi⟩ a' W' hl' _ hI ⟨Bx, hBx, bX, rfl⟩ _
   obtain ⟨o, ho⟩ : ∃ o, o = (pre.map Subtype.val).foldl (zcb all cs a1 l0.length) (List.replicate l0.length 0) := ⟨_, rfl⟩
   have hlen : o.length = l0.length := by rw [ho]; exact zwd _ _ _ _ _
   have HE := zA (show ((pre ++ [(⟨i, hi⟩ : { i // i < l0.length })]).map Subtype.val).foldl (zcb all cs a1 l0.length) (List.replicate l0.length 0) = zcb all cs a1 l0.length o i by rw [List.map_append, List.foldl_append, ← ho]; rfl)
   rw [← ho] at hI
   clear ho
   obtain ⟨g, co, rfl, _⟩ := Kd.R_form hI.2.2.2.2.2.2.2 (by omega)
   have hcost := zA (zw3 _ _ HC.out i hi)
   gi_wp2
   refine zwb [[], [], [], [], [3], [2, 3, 4], [0, 1, 2, 3, 4, 5], [0, 1, 2, 3, 4, 5, 6]] [[6, 7], [6, 7], [5, 6, 7], [4, 5, 6, 7], [5, 6, 7], [6, 7], [7], []]
     (fun L s W2 => latI w A0 c0 l0.length a1 all q5 q6 (.slice Al all.length cl) (.slice (some ⟨g, 0, none⟩) o.length co) (bif L 7 then o.set i (wrap64 (a1 - rd cs i)) else o) W2 ∧
       W2.heap[Bx]? = some (.cells #[.string (zaa l0 i).f0, .int .i64 (zaa l0 i).f1, .int .i64 (zaa l0 i).f2, .int .i64 (zaa l0 i).f3, .int .i64 (zaa l0 i).f4] 55 (0, 0)) ∧ (KeepsFrom W5.heap.size W' W2 ∧ zr2 w.heap.size W.heap.size W' W2) ∧
       (L 0 = true → s 0 = .slice (some ⟨g, 0, none⟩) o.length co) ∧ (L 1 = true → s 1 = .int .i64 i) ∧ (L 2 = true → s 2 = .int .i64 a1) ∧ (L 3 = true → s 3 = .agg #[.string (zaa l0 i).f0, .int .i64 (zaa l0 i).f1, .int .i64 (zaa l0 i).f2, .int .i64 (zaa l0 i).f3, .int .i64 (zaa l0 i).f4]) ∧
       (L 4 = true → s 4 = .int .i64 (rd cs i)) ∧ (L 5 = true → s 5 = .int .i64 (wrap64 (a1 - rd cs i))) ∧ (L 6 = true → s 6 = .pointer (some ⟨g, i, none⟩)))
     zq27 zq27 (fun ⟨_, _, h⟩ => h) (fun _ _ _ _ _ h => h) zq27 ?_ ⟨?_, ?_, ?_, ?_, ?_, ?_, ?_, ?_, trivial⟩ ?_
   · exact ⟨znd hI (zi6 (Below.refl _ _)), bX, ⟨(KeepsOthers.drew _).from _, znu hI.1.size (zi6 (Below.refl _ _))⟩, zq68, zq68, zq68, zq68, zq68, zq68, zq68⟩
   · rintro L s W2 hu hd hn ⟨hJ, bX2, hk, g0, g1, g2, g3, g4, g5, g6⟩ K hK
     have hc := zab hJ.2.2.2.2.2.1 0
     refine zkb (N := some 20) (v := .slice (some ⟨g, 0, none⟩) o.length co) (w1 := W2) (by rfl) rfl ?_ (hK _ _ ⟨hJ, bX2, hk, fun _ => rfl, g1, g2, g3, g4, g5, g6⟩)
     refine zsr ?_
     go_simp
   · rintro L s W2 hu hd hn ⟨hJ, bX2, hk, g0, g1, g2, g3, g4, g5, g6⟩ K hK
     refine zkb (N := some 21) (v := .int .i64 i) (w1 := W2) (by rfl) rfl ?_ (hK _ _ ⟨hJ, bX2, hk, g0, fun _ => rfl, g2, g3, g4, g5, g6⟩)
     refine zsr ?_
     go_simp
   · rintro L s W2 hu hd hn ⟨hJ, bX2, hk, g0, g1, g2, g3, g4, g5, g6⟩ K hK
     have hc := zab hJ.2.2.2.1 0
     refine zkb (N := some 22) (v := .int .i64 a1) (w1 := W2) (by rfl) rfl ?_ (hK _ _ ⟨hJ, bX2, hk, g0, g1, fun _ => rfl, g3, g4, g5, g6⟩)
     refine zsr ?_
     go_simp
   · rintro L s W2 hu hd hn ⟨hJ, bX2, hk, g0, g1, g2, g3, g4, g5, g6⟩ K hK
     have x0 := zab bX2 0
     have x1 := zab bX2 1
     have x2 := zab bX2 2
     have x3 := zab bX2 3
     have x4 := zab bX2 4
     refine zkb (N := some 23) (v := .agg #[.string (zaa l0 i).f0, .int .i64 (zaa l0 i).f1, .int .i64 (zaa l0 i).f2, .int .i64 (zaa l0 i).f3, .int .i64 (zaa l0 i).f4]) (w1 := W2) (by rfl) rfl ?_ (hK _ _ ⟨hJ, bX2, hk, g0, g1, g2, fun _ => rfl, g4, g5, g6⟩)
     refine zsr ?_
     go_simp
   · rintro L s W2 hu hd hn ⟨hJ, bX2, hk, g0, g1, g2, g3, g4, g5, g6⟩ K hK
     refine zqz Tryz.func77 zq27 rfl #[.agg #[.string (zaa l0 i).f0, .int .i64 (zaa l0 i).f1, .int .i64 (zaa l0 i).f2, .int .i64 (zaa l0 i).f3, .int .i64 (zaa l0 i).f4]] (by rfl) rfl rfl (by simp only [List.map_toArray, List.map_cons, List.map_nil]; exact congrArg (fun x => #[x]) (g3 hd)) ?_
     refine (zhd _ _ _ _ _ _ _ hcost.out).mono ?_
     rintro e w3 ⟨rfl, hb⟩
     exact ⟨_, rfl, hK _ _ ⟨znd hJ hb, zag bX2 hb, ⟨hk.1.trans (KeepsFrom.of_grownBy (zna hb none) (fun _ e => by cases e)), zqq hk.2 (znu hJ.1.size hb)⟩, g0, g1, g2, g3, fun _ => rfl, g5, g6⟩⟩
   · rintro L s W2 hu hd hn ⟨hJ, bX2, hk, g0, g1, g2, g3, g4, g5, g6⟩ K hK
     refine zkb (N := some 25) (v := .int .i64 (wrap64 (a1 - rd cs i))) (w1 := W2) (by rfl) rfl ?_ (hK _ _ ⟨hJ, bX2, hk, g0, g1, g2, g3, g4, fun _ => rfl, g6⟩)
     have e2 := g2 hd.1
     have e4 := g4 hd.2.2
     refine zsr ?_
     go_simp
     exact zlo _
   · rintro L s W2 hu hd hn ⟨hJ, bX2, hk, g0, g1, g2, g3, g4, g5, g6⟩ K hK
     refine zkb (N := some 26) (v := .pointer (some ⟨g, i, none⟩)) (w1 := W2) (by rfl) rfl ?_ (hK _ _ ⟨hJ, bX2, hk, g0, g1, g2, g3, g4, g5, fun _ => rfl⟩)
     have e0 := g0 hd.1
     have e1 := g1 hd.2.1
     have c1 : (0 : Int) ≤ (i : Int) := by omega
     have c2 : (i : Int) < o.length := by omega
     refine zsr ?_
     go_simp
   · rintro L s W2 hu hd hn ⟨hJ, bX2, hk, g0, g1, g2, g3, g4, g5, g6⟩ K hK
     have h7 : L 7 = false := hu
     rw [h7] at hJ
     obtain ⟨e0, e1, e2, e3, e4, e5, e6⟩ := hd
     have e6 := g6 e6
     have e5 := g5 e5
     have hJ' := zw4 hJ i (by omega) (by omega) (wrap64 (a1 - rd cs i))
     rw [Int.toNat_natCast] at hJ'
     have hc := Kd.R_cell 0 hJ.2.2.2.2.2.2.2 i (by omega) (by omega)
     rw [Int.toNat_natCast] at hc
     obtain ⟨hc, hf⟩ := hc
     refine zsm (w1 := W2.setCell ⟨g, i, none⟩ (.int .i64 (wrap64 (a1 - rd cs i)))) (by rfl) rfl ?_ (hK undef _ ⟨hJ', zav bX2 (fun e => hBx (by rw [e]; rfl)) _, ⟨hk.1.trans ((KeepsOthers.setCell _ _ _).from _), zqq hk.2 (zuw (by have := Kd.R_base hJ.2.2.2.2.2.2.2 g rfl; show w.heap.size ≤ g; omega) (Nat.ne_of_gt (HN.out g rfl)) _)⟩, g0, g1, g2, g3, g4, g5, g6⟩)
     refine zsr ?_
     go_simp
   · rintro L s2 W2 hL ⟨hJ, bX2, hk, g0, g1, g2, g3, g4, g5, g6⟩
     have h7 := hL 7 rfl
     rw [h7] at hJ
     have HJ := zA (show latI w A0 c0 l0.length a1 all q5 q6 (.slice Al all.length cl) (.slice (some ⟨g, 0, none⟩) l0.length co) (o.set i (wrap64 (a1 - rd cs i))) W2 by simpa only [hlen, cond_true] using hJ)
     have HK := zA hk
     clear g0 g1 g2 g3 g4 g5 g6 hJ hk bX2 h7 hL
     refine zsr ?_
     gi_wp2
     gi_loopw [9] (fun v9 wr => ∃ (j : Nat) (p : List Int), v9 = .int .i64 (j : Int) ∧ i < j ∧ j ≤ l0.length ∧ Aside0 (p.length = l0.length) ∧ Aside0 (latI w A0 c0 l0.length a1 all q5 q6 (.slice Al all.length cl) (.slice (some ⟨g, 0, none⟩) l0.length co) p wr) ∧
       Aside0 (KeepsFrom W5.heap.size W' wr ∧ zr2 w.heap.size W.heap.size W' wr) ∧ Aside0 (zfl all i (l0.length - j) j p = zcb all cs a1 l0.length o i)) (fun v9 _ => l0.length - (intOf v9).toNat)
     case atStart => exact ⟨i + 1, _, rfl, by omega, by omega, ⟨by simp [hlen]⟩, HJ, HK, ⟨by unfold zcb; rw [show l0.length - (i + 1) = l0.length - 1 - i by omega]⟩⟩
     clear HJ HK
     obtain ⟨j, p, rfl, hij, hjn, HP, HJ, HK, HI⟩ := hrel
     have hc1 := zab HJ.out.2.2.1 0
     have hc5 := zab HJ.out.2.2.2.2.1 0
     have hc6 := zab HJ.out.2.2.2.2.2.1 0
     by_cases hlt : j < l0.length
     rotate_left
     · obtain rfl : j = l0.length := by omega
       have c5 : decide ((l0.length : Int) < l0.length) = false := zdf (by omega)
       gi_wp2
       refine ⟨HK.out.1, HK.out.2, ?_⟩
       show latI _ _ _ _ _ _ _ _ _ _ (((pre ++ [(⟨i, hi⟩ : { i // i < l0.length })]).map Subtype.val).foldl (zcb all cs a1 l0.length) (List.replicate l0.length 0)) _
       rw [HE.out, ← HI.out, Nat.sub_self]
       simp only [hlen]
       exact HJ.out
     have hcA := (zSr HJ.out.2.2.2.2.2.2.1).2.2
     obtain ⟨ad, A1, c1, eAl, hcell, _, hC1⟩ := zkm hcA (j : Int) (by omega) (by have := HT.out.1.1; omega)
     obtain ⟨ad1, eA1, hcell1⟩ := Kd.at_int hC1 (i : Int) (by omega) (by have := HT.out.2 j hlt; omega)
     rw [Int.toNat_natCast] at hcell hcell1
     subst eAl
     subst eA1
     obtain ⟨d, hdd⟩ : ∃ d, Aside0 (rd (za1 all (j : Int)) (i : Int) = d) := ⟨_, ⟨rfl⟩⟩
     rw [hdd.out] at hcell1
     have c1 : (0 : Int) ≤ (i : Int) := by omega
     have c2 : (i : Int) < l0.length := by omega
     have c3 : (0 : Int) ≤ (j : Int) := by omega
     have c4 : (j : Int) < l0.length := by omega
     have c5 : decide ((j : Int) < l0.length) = true := zdt c4
     have c6 : (j : Int) < all.length := by have := HT.out.1.1; omega
     have c7 : (i : Int) < (za1 all (j : Int)).length := by have := HT.out.2 j hlt; omega
     by_cases hd : 0 ≤ d
     rotate_left
     · have d1 : decide (0 ≤ d) = false := zdf hd
       gi_wp2
       go_roundw
       case rel =>
         refine ⟨j + 1, p, by go_num, by omega, by omega, HP, HJ, HK, ⟨?_⟩⟩
         rw [← HI.out, show l0.length - j = (l0.length - (j + 1)) + 1 by omega]
         conv => rhs; unfold zfl
         rw [hdd.out, if_neg hd]
       case measure => simp [intOf]; omega
     have d1 : decide (0 ≤ d) = true := zdt hd
     gi_wp2
     obtain ⟨p0, p1⟩ := Kd.R_celln 0 HJ.out.2.2.2.2.2.2.2 (i : Int) (by omega) c2
     obtain ⟨p2, p3⟩ := Kd.R_celln 0 HJ.out.2.2.2.2.2.2.2 (j : Int) (by omega) c4
     rw [Int.toNat_natCast] at p0 p1 p2 p3
     rw [show rdOf 0 p (i : Int) = rd p i from rfl] at p0
     rw [show rdOf 0 p (j : Int) = rd p j from rfl] at p2
     refine zx0 [[], [], [], [], [2, 3], [2, 3, 4], [], [], [6, 7], [6, 7, 8], [], [6, 7, 8, 9, 10], [2, 3, 4, 5, 6, 7, 8, 9, 10, 11], [0, 1, 2, 3, 4, 5, 6, 7, 8, 9, 10, 11, 12], [0, 1, 2, 3, 4, 5, 6, 7, 8, 9, 10, 11, 12, 13]] 14
       (zoi [.slice (some ⟨g, 0, none⟩) l0.length co, .int .i64 i, .slice (some ⟨g, 0, none⟩) l0.length co, .int .i64 i, .pointer (some ⟨g, i, none⟩), .int .i64 (rd p i), .slice (some ⟨g, 0, none⟩) l0.length co, .int .i64 j, .pointer (some ⟨g, j, none⟩), .int .i64 (rd p j), .int .i64 d, .int .i64 (wrap64 (rd p j - d)), .int .i64 (mn (rd p i) (wrap64 (rd p j - d))), .pointer (some ⟨g, i, none⟩)])
       _ zq27 zq27 (fun ⟨_, _, h⟩ => h) (fun _ _ _ _ _ h => h) zq27 (by rfl) (by rfl) (by rfl) ⟨.inl ⟨by rfl, ?_⟩, .inl ⟨by rfl, ?_⟩, .inl ⟨by rfl, ?_⟩, .inl ⟨by rfl, ?_⟩, .inl ⟨by rfl, ?_⟩, .inl ⟨by rfl, ?_⟩, .inl ⟨by rfl, ?_⟩, .inl ⟨by rfl, ?_⟩, .inl ⟨by rfl, ?_⟩, .inl ⟨by rfl, ?_⟩, .inl ⟨by rfl, ?_⟩, .inl ⟨by rfl, ?_⟩, .inl ⟨by rfl, ?_⟩, .inl ⟨by rfl, ?_⟩, trivial⟩ (fun K hK => ?_)
     iterate 11 (· simp only [zd9, riGo, zjt, zig, zjo, zoi, Nat.reduceBEq, Nat.reduceAdd, List.headD, List.tail, List.getD, List.getElem?_cons_zero, List.getElem?_cons_succ, Option.getD_some, cond_true, cond_false]; go_simp)
     · simp only [zd9, riGo, zjt, zig, zjo, zoi, Nat.reduceBEq, Nat.reduceAdd, List.headD, List.tail, List.getD, List.getElem?_cons_zero, List.getElem?_cons_succ, Option.getD_some, cond_true, cond_false]
       go_simp
       exact zlo _
     · simp only [zd9, riGo, zjt, zig, zjo, zoi, Nat.reduceBEq, Nat.reduceAdd, List.headD, List.tail, List.getD, List.getElem?_cons_zero, List.getElem?_cons_succ, Option.getD_some, cond_true, cond_false]
       go_simp
       rfl
     · simp only [zd9, riGo, zjt, zig, zjo, zoi, Nat.reduceBEq, Nat.reduceAdd, List.headD, List.tail, List.getD, List.getElem?_cons_zero, List.getElem?_cons_succ, Option.getD_some, cond_true, cond_false]
       go_simp
     refine zsm (w1 := wr.drew.setCell ⟨g, i, none⟩ (.int .i64 (mn (rd p i) (wrap64 (rd p j - d))))) (by rfl) rfl (by simp only [zd9, riGo, zjt, zig, zjo, zoi, Nat.reduceBEq, Nat.reduceAdd, List.headD, List.tail, List.getD, List.getElem?_cons_zero, List.getElem?_cons_succ, Option.getD_some, cond_true, cond_false]; go_simp) (hK undef _ ?_)
     refine zsr ?_
     gi_wp2
     go_roundw
     case rel =>
       have hb := zi6 (Below.refl wr.heap.size wr)
       have hJ := znd HJ.out hb
       have hJ' : latI w A0 c0 l0.length a1 all q5 q6 (.slice (some ad) all.length cl) (.slice (some ⟨g, 0, none⟩) p.length co) p wr.drew := by simpa only [HP.out] using hJ
       have h1 := zw4 hJ' (i : Int) (by omega) (by rw [HP.out]; exact c2) (mn (rd p i) (wrap64 (rd p j - d)))
       rw [Int.toNat_natCast] at h1
       refine ⟨j + 1, p.set i (mn (rd p i) (wrap64 (rd p j - d))), by go_num, by omega, by omega, ⟨by simpa using HP.out⟩, ⟨by simp only [HP.out] at h1; exact h1⟩, ⟨HK.out.1.trans (((KeepsOthers.drew _).trans (KeepsOthers.setCell _ _ _)).from _), zqq HK.out.2 (zqq (znu HJ.out.1.size hb) (zuw (by have := Kd.R_base HJ.out.2.2.2.2.2.2.2 g rfl; show w.heap.size ≤ g; omega) (Nat.ne_of_gt (HN.out g rfl)) _))⟩, ⟨?_⟩⟩
       rw [← HI.out, show l0.length - j = (l0.length - (j + 1)) + 1 by omega]
       conv => rhs; unfold zfl
       rw [hdd.out, if_pos hd]
     case measure => simp [intOf]; omega
 case done =>
   rintro D ys W' hD rfl hI hDef
   have hc6 := zab hI.2.2.2.2.2.1 0
   go_wp2
   refine ⟨by simp, .inl ⟨_, _, rfl, run_takeDeferred hDef, ?_⟩⟩
   have hF := zs4 hI (grownBy_putObj' W' D (.deferred none)) (fun r e => by cases e; exact ⟨Nat.le_trans hI5.1.size hD, _, hDef, rfl⟩)
   rw [zux] at hF
   exact ⟨_, results_tmp rfl _ _ _, hR _ _ (Kd.R_lower hF.2.2.2.2.2.2.2 (by omega)) hF.1⟩
 rintro D c pre W' _ _ h _
 exact h.elim
theorem zi0 (k : Nat) (A0 : Option Addr) (c0 : Nat) (l0 : List (S55)) (a1 : Int) (r : List Int) (w : World) (hr0 : Kd.C k55 w A0 l0.length l0) (hc0 : l0.length ≤ c0) (h : zfm k l0 a1 = some r) :
   Calls Tryz.prog 79 #[.slice A0 l0.length c0, .int .i64 a1] w fun e w' => ∃ v0_ : Value, e = .returned v0_ ∧ Kd.R (Kd.int .i64) 3 w' w.heap.size (fun _ => True) v0_ r ∧ Below w.heap.size w w' := by
 unfold zfm at h
 obtain ⟨all, hA, h⟩ := Option.bind_eq_some_iff.1 h
 obtain ⟨cs, hC, h⟩ := Option.bind_eq_some_iff.1 h
 by_cases hT : zhr all l0.length = true
 · rw [if_pos hT] at h
   obtain rfl := zsi h
   exact zri k A0 c0 l0 a1 all cs w hC hr0 hc0 hA hT _ (fun v W hv hb => ⟨v, rfl, hv, hb⟩)
 · rw [if_neg hT] at h
   cases h
end Go.Proofs.YtabnafbgcpchdaaGreat.Q
end
section
namespace Go.Proofs.YtabnafbgcpchdaaGreat.Q
open Go.RowKit Go.Proofs.YtabnafbgcpchdaaGreatW.PrintWords Go.Proofs.YtabnafbgcpchdaaGreatW.PrintLast Go.Proofs.YtabnafbgcpchdaaGreatW.PrintMore
set_option maxHeartbeats 8000000
set_option maxRecDepth 100000
attribute [local go_sem] zjj zjk zla zlb zh8 zh9 zjl zjm
set_option linter.unusedVariables false
set_option linter.unusedSimpArgs false
def zex (l0 : List Int) : Option (List Int) := (some (([] : List Int) : List Int)).bind fun y101 => (if y101.length + l0.length < 17592186044416 then (some (y101 ++ l0)) else (none))
theorem zlw (A0 : Option Addr) (c0 : Nat) (l0 : List Int) (r : List Int) (w : World) (hr0 : Kd.C (Kd.int .i64) w A0 l0.length l0) (hc0 : l0.length ≤ c0) (hnil0 : A0.isNone = false) (h : zex l0 = some r) :
   Calls Tryz.prog 57 #[.slice A0 l0.length c0] w fun e w' => ∃ v0_ : Value, e = .returned (v0_) ∧ Kd.R (Kd.int .i64) 3 w' w.heap.size (fun _ => True) v0_ r ∧ Below w.heap.size w w' := by
 have hneql_0 : ∀ (W : World), (binOp .eql 25 (.slice A0 l0.length c0) (.slice none 0 0)).run Tryz.prog W = .ok (.bool false) W := fun W => by rw [Go.Lib.run_eql_slice_nil W _ _ _ _ _ _ _ Tryz.underlying25, hnil0]
 have HR0 := zA hr0
 have HC0 := zA hc0
 clear hr0 hc0
 have HB := zA (Below.refl w.heap.size w)
 have H := h
 unfold zex at H
 clear h
 obtain ⟨y101, hy101⟩ : ∃ y_ : List Int, y_ = (([] : List Int)) := ⟨_, rfl⟩
 replace H : (if y101.length + l0.length < 17592186044416 then (some (y101 ++ l0)) else (none)) = some r := by first | (rw [hy101]; with_reducible exact H) | (have H2_ := (Option.bind_some _ _).symm.trans H; rw [hy101]; with_reducible exact H2_) | (have H2_ := (Option.bind_some _ _).symm.trans H; with_reducible exact H2_) | with_reducible exact H | (rw [hy101]; exact H) | exact H
 have Ny101 := zA hy101
 clear hy101
 by_cases c2 : y101.length + l0.length < 17592186044416
 · rw [if_pos c2] at H
   have LMc2 := zA c2
   clear c2
   obtain ⟨y104, hy104⟩ : ∃ y_ : List Int, y_ = (y101 ++ l0) := ⟨_, rfl⟩
   rw [← hy104] at H; try with_reducible replace H := zbs H
   have Ny104 := zA hy104
   clear hy104
   obtain rfl := zsi H
   go_enter Tryz.func57, Tryz.ntmps57
   go_wp2_with (first | ((with_reducible refine zgd 5 ?_); refine Kd.R_lit (Kd.int .i64) _ 3 ?hg (N := 5) ?hd (xs := ([] : List Int)) (inner := []) (ok := fun _ => True) (okp := fun _ => True) ?hr ?hp (fun _ hk => hk) trivial (Below.refl _ _) (zlr _) (by simp) ?_; (case hd => rfl); (case hg => rfl); (case hr => go_simp <;> rfl); (case hp => exact (Reps.none _ _)); intro v102 w3 ho4 hb hg_ hnew_; clear hg_ hnew_; (first | rw [← Ny101.out] at ho4 | (simp only [Int.reduceToNat] at ho4; rw [← Ny101.out] at ho4)); have HO103 := zA (Kd.R_lower ho4 (zah zq1)); replace HB := zA (zac zq1 hb); clear hb ho4) | ((with_reducible refine zc7 (b := .append) (xs := #[.tmp 5, .tmp 6]) rfl ?_); at_builtin; refine Kd.R_append_rows (Kd.int .i64) (w0 := w) w.heap.size rfl (.tmp 5) (.tmp 6) 25 3 (.int .i64 0) 8 rfl Tryz.underlying25 zkf rfl (by decide) (by omega) v102 y101 l0 _ _ _ (fun _ => True) (fun _ => False) rfl rfl ?aO ?aR (fun _ _ h => h) (fun _ h => h.elim) ?aF ?aB ?aS ?aL ?_; (case aR => repeat (first | exact (zCb HR0.out HB.out) | (with_reducible first | refine zCa ?_ _ | refine zCn ?_ _ | refine zCd ?_))); (case aB => exact zq1); (case aF => exact (fun _ _ => trivial)); (case aO => exact (zq2 HO103)); (case aS => exact (zah zq1)); (case aL => have := LMc2.out; omega); intro v105 w5 ho hb hg hat; rw [← Ny104.out] at ho; replace HB := zA (hb); have HO106 := zA (ho); clear HO103; clear ho hb hg hat))
   go_ret
   exact ⟨_, zq5, zq2 HO106, zq1⟩
 · rw [if_neg c2] at H
   exact absurd H (by simp)
theorem zhb (A0 : Option Addr) (c0 : Nat) (l0 : List Int) (r : List Int) (w : World) (hr0 : Kd.C (Kd.int .i64) w A0 l0.length l0) (hc0 : l0.length ≤ c0) (h : zex l0 = some r) : Calls Tryz.prog 57 #[.slice A0 l0.length c0] w fun e w' => ∃ v0_ : Value, e = .returned (v0_) ∧ Kd.R (Kd.int .i64) 3 w' w.heap.size (fun _ => True) v0_ r ∧ Below w.heap.size w w' := by
 cases hA : A0.isNone with
 | false => exact zlw A0 c0 l0 r w hr0 hc0 hA h
 | true =>
   obtain rfl : A0 = none := by simpa using hA
   have hl : l0 = [] := by
     rcases Nat.eq_zero_or_pos l0.length with h0 | h0
     · exact List.eq_nil_of_length_eq_zero h0
     · obtain ⟨ad, e, _⟩ := hr0.2.2 h0
       cases e
   subst hl
   have hr : r = [] := by
     unfold zex at h
     simpa using h.symm
   subst hr
   clear h hr0
   have hne : ∀ (W : World), (binOp .eql 25 (.slice none 0 c0) (.slice none 0 0)).run Tryz.prog W = .ok (.bool true) W := fun W => by rw [Go.Lib.run_eql_slice_nil W _ _ _ _ _ _ _ Tryz.underlying25]; rfl
   show Calls _ _ #[.slice none 0 c0] _ _
   go_enter Tryz.func57, Tryz.ntmps57
   go_wp2
   go_ret
   exact ⟨_, rfl, Kd.R_nil _ _ _ _ _, Below.refl _ _⟩
def zph (o : List Int) (c : Int) : Nat := o.countP fun x => decide (x = c)
def bsIx (c : Int) : List Int → Int → Int
 | [], _ => -1
 | x :: xs, i => if x = c then bsIx c xs (i + 1) else i
theorem ycf (c : Int) (xs : List Int) (hx : xs.length ≤ 1048576) : ∀ (d i : Nat), i + d = xs.length → zal (d + 1) xs xs.length i [c] = some (bsIx c (xs.drop i) i) := by
 intro d
 induction d with
 | zero =>
   intro i hi
   rw [List.drop_of_length_le (by omega)]
   simp only [zal]
   rw [if_neg (by omega)]
   rfl
 | succ d ih =>
   intro i hi
   have next := ih (i + 1) (by omega)
   have hlt : i < xs.length := by omega
   rw [List.drop_eq_getElem_cons hlt]
   unfold zal
   rw [if_pos (by omega), if_pos (by omega), if_pos (by omega), show rd xs (i : Int) = xs[i] by unfold rd; simp [List.getD, hlt], show wrap64 ((i : Int) + 1) = ((i + 1 : Nat) : Int) by unfold wrap64; omega, next]
   unfold zeq
   rw [if_pos (by simp)]
   simp only [Option.bind_some]
   rw [show bsIx c (xs[i] :: xs.drop (i + 1)) i = if xs[i] = c then bsIx c (xs.drop (i + 1)) ((i : Int) + 1) else i from rfl]
   by_cases q : xs[i] = c
   · rw [if_neg (by simp [q, rd]), if_pos q]
     rfl
   · rw [if_pos (by simp [rd, q]), if_neg q]
theorem zuy (c : Int) : ∀ (xs : List Int) (i : Int), 0 ≤ i → bsIx c xs i = -1 → zph xs c = xs.length
 | [], _, _, _ => rfl
 | x :: xs, i, hi, h => by
   unfold bsIx at h
   by_cases q : x = c
   · rw [if_pos q] at h
     have := zuy c xs (i + 1) (by omega) h
     unfold zph at this ⊢
     rw [List.countP_cons, this, if_pos (zdt q)]
     rfl
   · rw [if_neg q] at h
     omega
theorem zuz (c : Int) : ∀ (xs : List Int) (i : Nat), bsIx c xs i ≠ -1 → ∃ k : Nat, k < xs.length ∧ bsIx c xs i = ((i + k : Nat) : Int) ∧ zph (xs.take (k + 1)) c = k
 | [], _, h => absurd rfl h
 | x :: xs, i, h => by
   unfold bsIx at h ⊢
   by_cases q : x = c
   · rw [if_pos q] at h ⊢
     obtain ⟨k, h1, h2, h3⟩ := zuz c xs (i + 1) (by simpa using h)
     refine ⟨k + 1, by simpa using h1, by simpa [Nat.add_assoc, Nat.add_comm, Nat.add_left_comm] using h2, ?_⟩
     unfold zph at h3 ⊢
     rw [List.take_succ_cons, List.countP_cons, h3, if_pos (zdt q)]
   · rw [if_neg q]
     exact ⟨0, by simp, by simp, by unfold zph; simp [q]⟩
theorem zyp (ys xs : List Int) (j : Nat) (h : ys.drop j = xs.drop j) : ys[j]? = xs[j]? ∧ ys.drop (j + 1) = xs.drop (j + 1) := by
 refine ⟨?_, ?_⟩
 · have h1 : (ys.drop j)[0]? = (xs.drop j)[0]? := by rw [h]
   rw [List.getElem?_drop, List.getElem?_drop] at h1
   exact h1
 · rw [← List.drop_drop, ← List.drop_drop, h]
theorem ydm (A : Option Addr) (cp : Nat) (xs : List Int) (hx : xs.length ≤ 1048576) (c : Int) (gc base : Nat) (w0 w : World) (HB : Below base w0 w) (HR : Kd.R (Kd.int .i64) 3 w base (fun k => k ≠ gc) (.slice A xs.length cp) xs) (hc : w.heap[gc]? = some (.cells #[.int .i64 c] 3 (0, 0))) :
   Calls Tryz.prog 93 #[.slice A xs.length cp, .func (.func 94) #[] #[.pointer (some ⟨gc, 0, none⟩)]] w fun e w' => (∃ A' cp', e = .returned (.slice A' (zph xs c) cp')) ∧ Below base w0 w' := by
 have hC := (zRr HR).2.2
 have hle := (zRr HR).2.1
 have HIX := zA (show zbr (xs.length + 1) xs [c] = some (bsIx c xs 0) from ycf c xs hx xs.length 0 (by omega))
 have hbox : (Kd.int .i64).C w (some ⟨gc, 0, none⟩) [c].length [c] := zrz (d := Kd.int .i64) hc (cs := [.int .i64 c]) rfl rfl
 have HBX := zA hbox
 have HC := zA hC
 have HLE := zA hle
 have HBB := zA HB
 have HRR := zA HR
 have HCC := zA hc
 clear hbox hC hle HB HR hc
 by_cases q : bsIx c xs 0 = -1
 · have hn := zuy c xs 0 (by omega) q
   rw [q] at HIX
   have HN := zA hn
   clear q hn
   go_enter Tryz.func93, Tryz.ntmps93
   go_wp2_with (go_at_call 122; (with_reducible refine (zfj _ A cp xs (some ⟨gc, 0, none⟩) 1 [c] (-1) _ HC.out HLE.out HBX.out (zlr _) HIX.out).mono ?_); rintro e w1 ⟨rfl, hd⟩; obtain ⟨nd, rfl⟩ := hd.out)
   go_ret
   have e : Ending.returned (.slice A xs.length cp) = Ending.returned (.slice A (zph xs c) cp) := by rw [HN.out]
   exact ⟨⟨A, cp, e⟩, zbn HBB.out _⟩
 obtain ⟨k, h1, h2, h3⟩ := zuz c xs 0 q
 simp only [Nat.zero_add] at h2
 have h2' : bsIx c xs 0 = (k : Int) := h2
 rw [h2'] at HIX
 obtain ⟨g, cp', e, hg, _⟩ := Kd.R_form HRR.out (by omega)
 cases e
 have H3 := zA h3
 have d1 : ((k : Int) == -1) = false := by rw [beq_eq_false_iff_ne]; omega
 clear q h2 h2' h3
 go_enter Tryz.func93, Tryz.ntmps93
 go_wp2_with (go_at_call 122; (with_reducible refine (zfj _ (some ⟨g, 0, none⟩) cp xs (some ⟨gc, 0, none⟩) 1 [c] (k : Int) _ HC.out HLE.out HBX.out (zlr _) HIX.out).mono ?_); rintro e w1 ⟨rfl, hd⟩; obtain ⟨nd, rfl⟩ := hd.out)
 go_loopw [5, 6, 7] (fun v5 v6 v7 wr => ∃ (i j : Nat) (ys : List Int), v5 = .int .i64 (i : Int) ∧ v6 = .int .i64 (j : Int) ∧ i < j ∧ j ≤ xs.length ∧ Aside0 (ys.length = xs.length ∧ ys.drop j = xs.drop j ∧ zph (xs.take j) c = i) ∧
   Aside0 (Kd.R (Kd.int .i64) 3 wr base (fun k => k ≠ gc) (.slice (some ⟨g, 0, none⟩) xs.length cp) ys) ∧ Aside0 (wr.heap[gc]? = some (.cells #[.int .i64 c] 3 (0, 0))) ∧ Aside0 (Below base w0 wr)) (fun _ v6 _ _ => xs.length - (intOf v6).toNat)
 case atStart => exact ⟨k, k + 1, xs, rfl, rfl, by omega, by omega, ⟨rfl, rfl, H3.out⟩, ⟨zRn HRR.out _⟩, ⟨HCC.out⟩, ⟨zbn HBB.out _⟩⟩
 clear HRR HCC HBB HC HBX HIX H3
 obtain ⟨i, j, ys, rfl, rfl, hij, hjn, HY, HR, HG, HB⟩ := hrel
 by_cases hlt : j < xs.length
 rotate_left
 · obtain rfl : j = xs.length := by omega
   have c1 : decide ((xs.length : Int) < xs.length) = false := zdf (by omega)
   have hcnt := HY.out.2.2
   rw [List.take_length] at hcnt
   have HN := zA hcnt
   clear hcnt
   have hi64 : i < xs.length := hij
   obtain ⟨ii, hii⟩ : ∃ ii, Tryz.prog.info? 3 = some ii := ⟨_, rfl⟩
   have hcutf := zui (P := Tryz.prog) 25 3 .i64 Tryz.underlying25 hii 1 (by cases hii; rfl) (some ⟨g, 0, none⟩) xs.length cp (i : Int) (by omega) (by omega)
   have hcutt := zxw (P := Tryz.prog) 25 3 .i64 Tryz.underlying25 hii (some ⟨g, 0, none⟩) xs.length cp (i : Int) (by omega) (by omega) HLE.out
   rw [Int.toNat_natCast] at hcutf hcutt
   rw [if_neg (show ¬ cp = i by have := HLE.out; omega)] at hcutf
   simp only [Option.map_some, ze4, Nat.mul_one] at hcutf
   have hclr : ∀ ty, (Builtin.clear_ #[25] ty #[.slice (some ⟨g, i, none⟩) (xs.length - i) (cp - i)]).run Tryz.prog wr = .ok (.tuple #[]) (wr.setCells g i (List.replicate (xs.length - i) (.int .i64 0))) :=
     fun ty => Go.Lib.run_clear_slice wr 25 3 ty (.int .i64 0) Tryz.underlying25 Tryz.zeroValue3 rfl rfl g i _ _ (by omega)
       (fun j hj => by have := (Kd.R_celln 0 HR.out ((i + j : Nat) : Int) (by omega) (by omega)).1; rw [Int.toNat_natCast] at this; rw [this]; rfl)
       (fun j hj => by have := (Kd.R_celln 0 HR.out ((i + j : Nat) : Int) (by omega) (by omega)).2; rwa [Int.toNat_natCast] at this)
   go_wp2_with fail
   go_ret
   have e : Ending.returned (.slice (some ⟨g, 0, none⟩) i cp) = Ending.returned (.slice (some ⟨g, 0, none⟩) (zph xs c) cp) := by rw [HN.out]
   have hs := zn6 g (List.replicate (xs.length - i) (.int .i64 0)) i wr
   exact ⟨⟨_, _, e⟩, HB.out.trans ⟨hs.1, hs.2.1, hs.2.2.1, Nat.le_of_eq hs.2.2.2.symm, fun k hk => zoy _ _ k (by omega)⟩⟩
 have c1 : decide ((j : Int) < xs.length) = true := zdt (by omega)
 have c2 : (0 : Int) ≤ (j : Int) := by omega
 have c3 : (j : Int) < xs.length := by omega
 obtain ⟨p0, p1⟩ := Kd.R_celln 0 HR.out (j : Int) (by omega) c3
 rw [Int.toNat_natCast] at p0 p1
 have hv : rdOf 0 ys (j : Int) = xs[j] := by
   unfold rdOf
   rw [Int.toNat_natCast, List.getD_eq_getElem?_getD, (zyp ys xs j HY.out.2.1).1, List.getElem?_eq_getElem hlt, Option.getD_some]
 rw [hv] at p0
 have hdr := (zyp ys xs j HY.out.2.1).2
 have HD := zA hdr
 have hbox : (Kd.int .i64).C wr (some ⟨gc, 0, none⟩) [c].length [c] := zrz (d := Kd.int .i64) HG.out (cs := [.int .i64 c]) rfl rfl
 have HBX := zA hbox
 obtain ⟨x, hxx⟩ : ∃ x, x = xs[j] := ⟨_, rfl⟩
 have HX := zA hxx
 rw [← hxx] at p0
 have ht : zph (xs.take (j + 1)) c = i + if x = c then 1 else 0 := by
   rw [List.take_succ_eq_append_getElem hlt]
   have := HY.out.2.2
   unfold zph at this ⊢
   rw [List.countP_append, this, List.countP_cons, List.countP_nil, Nat.zero_add, ← hxx]
   by_cases q : x = c <;> simp [q]
 have HT := zA ht
 have hcl : zeq x [c] = some (x != c) := by
   unfold zeq
   rw [if_pos (by simp)]
   rfl
 have HCL := zA hcl
 clear hv hdr hbox hxx ht hcl
 by_cases q : x = c
 rotate_left
 · have hb : (x != c) = true := by simp [q]
   rw [hb] at HCL
   have Hq := zA q
   clear q hb
   go_wp2_with (go_at_call 94; (with_reducible refine (zfk x (some ⟨gc, 0, none⟩) 1 [c] true _ HBX.out (zlr _) HCL.out).mono ?_); rintro e w1 ⟨rfl, hd⟩; obtain ⟨nd, rfl⟩ := hd.out)
   go_roundw
   case rel => exact ⟨i, j + 1, ys, rfl, by go_num, by omega, by omega, ⟨HY.out.1, HD.out, by rw [HT.out, if_neg Hq.out]; rfl⟩, ⟨zRn HR.out nd⟩, ⟨HG.out⟩, ⟨zbn HB.out nd⟩⟩
   case measure => simp [intOf]; omega
 have hb : (x != c) = false := by simp [q]
 rw [hb] at HCL
 obtain ⟨p2, p3⟩ := Kd.R_celln 0 HR.out (i : Int) (by omega) (by omega)
 rw [Int.toNat_natCast] at p2 p3
 have c4 : (0 : Int) ≤ (i : Int) := by omega
 have c5 : (i : Int) < xs.length := by omega
 have Hq := zA q
 clear q hb
 go_wp2_with (go_at_call 94; (with_reducible refine (zfk x (some ⟨gc, 0, none⟩) 1 [c] false _ HBX.out (zlr _) HCL.out).mono ?_); rintro e w1 ⟨rfl, hd⟩; obtain ⟨nd, rfl⟩ := hd.out)
 go_roundw
 case rel =>
   have hp := Kd.R_putn (zRn HR.out nd) (i : Int) x
   rw [Int.toNat_natCast] at hp
   refine ⟨i + 1, j + 1, ys.set i x, by go_num, by go_num, by omega, by omega, ⟨by simpa using HY.out.1, ?_, by rw [HT.out, if_pos Hq.out]⟩, ⟨hp⟩, ⟨zav HG.out (fun e => (HR.out.1 g rfl) (by simpa using e.symm)) _⟩, ⟨(zbn HB.out nd).setCell (p := ⟨g, i, none⟩) hg _⟩⟩
   rw [List.drop_set, if_pos (by omega)]
   exact HD.out
 case measure => simp [intOf]; omega
def bsMu (la : Int) (v : Value) (w : World) : Nat := match v with
 | .pointer (some a) => (match w.cell? a with
   | some (.int _ x) => (la + 1 - x).toNat
   | _ => 0)
 | _ => 0
def bsFi (row o : List Int) : Nat → Int
 | 0 => 0
 | u + 1 => if rd row (u : Int) ≥ 0 then mx (bsFi row o u) (wrap64 (rd o (u : Int) + rd row (u : Int))) else bsFi row o u
theorem zu0 (row o : List Int) (u : Nat) : bsFi row o (u + 1) = if rd row (u : Int) ≥ 0 then mx (bsFi row o u) (wrap64 (rd o (u : Int) + rd row (u : Int))) else bsFi row o u := rfl
def bsSr (p : Int → Option (List Int)) : Nat → Int → Option (List Int)
 | 0, _ => none
 | m + 1, c => match p c with
   | some r => some r
   | none => bsSr p m (c + 1)
def bsTr (w : Nat) (o : List Int) (f : List Int → Option (List Int)) (c : Int) : Option (List Int) := if zph o c = w then none else f (o ++ [c])
def bsF (all : List (List Int)) (last : List Int) (w : Nat) : Nat → List Int → Option (List Int)
 | 0, o => some o
 | d + 1, o => bsSr (bsTr w o (bsF all last w d)) (rd last (o.length : Int) - bsFi (za1 all (o.length : Int)) o o.length + 1).toNat (bsFi (za1 all (o.length : Int)) o o.length)
def bsOk (all : List (List Int)) (last : List Int) (n : Nat) : Bool := decide (n ≤ 7 ∧ all.length = n ∧ last.length = n) && ((List.range n).all fun j : Nat => decide ((za1 all (j : Int)).length = j ∧ -1000 ≤ rd last (j : Int) ∧ rd last (j : Int) ≤ 1000) && (za1 all (j : Int)).all fun x => decide (-1 ≤ x ∧ x ≤ 1000))
theorem zyq (row o : List Int) (hr : ∀ u : Nat, rd row (u : Int) ≤ 1000) (ho : ∀ u : Nat, 0 ≤ rd o (u : Int) ∧ rd o (u : Int) ≤ 1000) : ∀ u, 0 ≤ bsFi row o u ∧ bsFi row o u ≤ 2000
 | 0 => by unfold bsFi; omega
 | u + 1 => by
   have ih := zyq row o hr ho u
   have h1 := hr u
   have h2 := ho u
   unfold bsFi
   split
   · unfold mx wrap64
     split <;> omega
   · exact ih
theorem zu1 (p : Int → Option (List Int)) (m t : Nat) (c : Int) (R : Option (List Int)) (h : bsSr p (m - t) c = R) (ht : t < m) (hp : p c = none) : bsSr p (m - (t + 1)) (c + 1) = R := by
 rw [show m - t = (m - (t + 1)) + 1 by omega] at h
 unfold bsSr at h
 rw [hp] at h
 exact h
theorem yao (p : Int → Option (List Int)) (m t : Nat) (c : Int) (r : List Int) (R : Option (List Int)) (h : bsSr p (m - t) c = R) (ht : t < m) (hp : p c = some r) : R = some r := by
 rw [show m - t = (m - (t + 1)) + 1 by omega] at h
 unfold bsSr at h
 rw [hp] at h
 exact h.symm
def BsU (res : Option (List Int)) (base : Nat) (V : World) (u : Value) : Prop := match res with
 | some r => Kd.R (Kd.int .i64) 3 V base (fun _ => True) u r
 | none => u = .slice none 0 0
def BsX (A0 : Option Addr) (c0 n w : Nat) (all : List (List Int)) (last : List Int) (Al : Option Addr) (cl : Nat) (AL : Option Addr) (cL gc ga gl gw gf : Nat) (W : World) : Prop :=
 W.heap[gc]? = some (.cells #[.slice A0 n c0] 24 (0, 0)) ∧ W.heap[ga]? = some (.cells #[.slice Al all.length cl] 36 (0, 0)) ∧ W.heap[gl]? = some (.cells #[.slice AL last.length cL] 25 (0, 0)) ∧ W.heap[gw]? = some (.cells #[.int .i64 w] 3 (0, 0)) ∧
 W.heap[gf]? = some (.cells #[.func (.func 92) #[] #[.pointer (some ⟨gc, 0, none⟩), .pointer (some ⟨ga, 0, none⟩), .pointer (some ⟨gl, 0, none⟩), .pointer (some ⟨gw, 0, none⟩), .pointer (some ⟨gf, 0, none⟩)]] 84 (0, 0)) ∧
 (Kd.slice 3 (Kd.int .i64)).C W Al all.length all ∧ (Kd.int .i64).C W AL last.length last
theorem BsX.below {A0 : Option Addr} {c0 n w : Nat} {all : List (List Int)} {last : List Int} {Al : Option Addr} {cl : Nat} {AL : Option Addr} {cL gc ga gl gw gf : Nat} {W W1 : World} (h : BsX A0 c0 n w all last Al cl AL cL gc ga gl gw gf W) (hb : Below W.heap.size W W1) : BsX A0 c0 n w all last Al cl AL cL gc ga gl gw gf W1 := by
 obtain ⟨h1, h2, h3, h4, h5, h6, h7⟩ := h
 exact ⟨zag h1 hb, zag h2 hb, zag h3 hb, zag h4 hb, zag h5 hb, zCb h6 hb, zCb h7 hb⟩
def BsR (res : Option (List Int)) (d : Nat) (A : Option Addr) (cp : Nat) (o : List Int) (w : World) (v : Value) (w' : World) : Prop := Below w.heap.size w w' ∧ match res with
 | some r => ∃ u, v = .tuple #[u, .bool true] ∧ ((d = 0 ∧ u = .slice A o.length cp ∧ r = o) ∨ Kd.R (Kd.int .i64) 3 w' w.heap.size (fun _ => True) u r)
 | none => v = .tuple #[.slice none 0 0, .bool false]
section
variable (A0 : Option Addr) (c0 n w : Nat) (all : List (List Int)) (last : List Int) (Al : Option Addr) (cl : Nat) (AL : Option Addr) (cL gc ga gl gw gf : Nat)
theorem ybe (hok : bsOk all last n = true) : ∀ (d : Nat) (A : Option Addr) (cp : Nat) (o : List Int) (W : World), o.length + d = n → (∀ u : Nat, 0 ≤ rd o (u : Int) ∧ rd o (u : Int) ≤ 1000) → BsX A0 c0 n w all last Al cl AL cL gc ga gl gw gf W → (Kd.int .i64).C W A o.length o → o.length ≤ cp →
   Calls Tryz.prog 92 #[.slice A o.length cp, .pointer (some ⟨gc, 0, none⟩), .pointer (some ⟨ga, 0, none⟩), .pointer (some ⟨gl, 0, none⟩), .pointer (some ⟨gw, 0, none⟩), .pointer (some ⟨gf, 0, none⟩)] W fun e W' => ∃ v, e = .returned v ∧ BsR (bsF all last w d o) d A cp o W v W' := by
 unfold bsOk at hok
 simp only [Bool.and_eq_true, decide_eq_true_eq, List.all_eq_true, List.mem_range] at hok
 have HOK := zA hok
 clear hok
 intro d
 induction d with
 | zero =>
   intro A cp o W hn ho hX hC hcp
   obtain rfl : o.length = n := by omega
   have q1 := zab hX.1 0
   have c1 : ((o.length : Int) == (o.length : Int)) = true := beq_self_eq_true _
   have HX := zA hX
   clear hX ho hC hn
   go_enter Tryz.func92, Tryz.ntmps92
   go_wp2_with fail
   go_ret2
   exact ⟨_, rfl, Below.refl _ _, _, rfl, .inl ⟨rfl, rfl, rfl⟩⟩
 | succ d ih =>
 intro A cp o W hn ho hX hC hcp
 have HIH := zA ih
 clear ih
 have hj : o.length < n := by omega
 obtain ⟨⟨hn7, hal, hla⟩, hall⟩ := HOK.out
 obtain ⟨⟨hrow, hl1, hl2⟩, hrb⟩ := hall o.length hj
 have q1 := zab hX.1 0
 have q2 := zab hX.2.1 0
 have c1 : ((o.length : Int) == (n : Int)) = false := by rw [beq_eq_false_iff_ne]; omega
 obtain ⟨ad, A1, k1, e1, hcell, hk1, hC1⟩ := zkm hX.2.2.2.2.2.1 (o.length : Int) (by omega) (by omega)
 rw [Int.toNat_natCast] at hcell
 subst e1
 have hrl : ∀ u : Nat, rd (za1 all (o.length : Int)) (u : Int) ≤ 1000 := fun u => by
   unfold rd
   rw [Int.toNat_natCast, List.getD_eq_getElem?_getD]
   cases hu : (za1 all (o.length : Int))[u]? with
   | none => simp
   | some x => exact (hrb x (List.mem_of_getElem? hu)).2
 have hfi := zyq _ o hrl ho
 have HFI := zA hfi
 have HO := zA ho
 have HX := zA hX
 have HC := zA hC
 have HC1 := zA hC1
 have HROW := zA hrow
 have HRB := zA hrb
 have HRL := zA hrl
 clear hfi ho hX hC hC1 hrb hrl hall
 have c2 : (0 : Int) ≤ (o.length : Int) := by omega
 have c3 : (o.length : Int) < all.length := by omega
 obtain ⟨row, hrw⟩ : ∃ row, row = za1 all (o.length : Int) := ⟨_, rfl⟩
 rw [← hrw] at hcell HC1 HFI HROW HRB HRL hrow
 have HRW := zA hrw
 clear hrw
 have hrow' : row.length = o.length := hrow
 clear hrow HROW
 go_enter Tryz.func92, Tryz.ntmps92
 go_wp2_with fail
 go_loop [10, 29] (fun v10 v29 => ∃ u : Nat, v10 = .int .i64 (bsFi row o u) ∧ v29 = .int .i64 (u : Int) ∧ u ≤ o.length) (fun _ v29 => o.length - (intOf v29).toNat)
 case atStart => exact ⟨0, rfl, rfl, Nat.zero_le _⟩
 obtain ⟨u, rfl, rfl, hu⟩ := hrel
 by_cases hlt : u < o.length
 · obtain ⟨ad1, e2, hc1⟩ := Kd.at_int HC1.out (u : Int) (by omega) (by omega)
   obtain ⟨ad2, e3, hc2⟩ := Kd.at_int HC.out (u : Int) (by omega) (by omega)
   rw [Int.toNat_natCast] at hc1 hc2
   subst e2
   subst e3
   have d1 : decide ((u : Int) < o.length) = true := zdt (by omega)
   have d2 : (0 : Int) ≤ (u : Int) := by omega
   have d3 : (u : Int) < o.length := by omega
   have hb := HFI.out u
   by_cases q : rd row (u : Int) ≥ 0
   rotate_left
   · have d4 : decide (0 ≤ rd row (u : Int)) = false := zdf q
     have Hq := zA q
     clear q
     go_wp2_with fail
     go_round
     case rel => exact ⟨u + 1, by rw [zu0, if_neg Hq.out], by go_num, by omega⟩
     case measure => simp [intOf]; omega
   have d4 : decide (0 ≤ rd row (u : Int)) = true := zdt q
   have Hq := zA q
   clear q
   go_wp2_with fail
   go_round
   case rel => exact ⟨u + 1, by rw [zu0, if_pos Hq.out]; rfl, by go_num, by omega⟩
   case measure => simp [intOf]; omega
 obtain rfl : u = o.length := by omega
 have d1 : decide ((o.length : Int) < o.length) = false := zdf (by omega)
 have hb := HFI.out o.length
 obtain ⟨fi, hfi⟩ : ∃ fi, fi = bsFi row o o.length := ⟨_, rfl⟩
 rw [← hfi] at hb ⊢
 have HF := zA hfi
 clear hfi hlt hu HRL
 go_wp2_with fail
 obtain ⟨adL, eL, hcL⟩ := Kd.at_int HX.out.2.2.2.2.2.2 (o.length : Int) (by omega) (by omega)
 rw [Int.toNat_natCast] at hcL
 subst eL
 have HCL := zA hcL
 clear hcL
 obtain ⟨la, hla'⟩ : ∃ la, la = rd last (o.length : Int) := ⟨_, rfl⟩
 have HLA := zA hla'
 rw [← hla'] at HCL hl1 hl2
 clear hla'
 obtain ⟨m, hm⟩ : ∃ m, m = (la - fi + 1).toNat := ⟨_, rfl⟩
 obtain ⟨RES, hres⟩ : ∃ RES, RES = bsSr (bsTr w o (bsF all last w d)) m fi := ⟨_, rfl⟩
 have HGOAL := zA (show bsF all last w (d + 1) o = RES by rw [hres, hm, HLA.out, HF.out, HRW.out]; rfl)
 have HRES := zA hres.symm
 have HM := zA hm
 clear hres hm
 have HCLN := zA (show zex o = some o by unfold zex; simp; omega)
 have hm1 : (m : Int) ≤ 3001 := by have := HM.out; omega
 go_loopw [13] (fun v13 wr => ∃ t g : Nat, v13 = .pointer (some ⟨g, 0, none⟩) ∧ t ≤ m ∧ Aside0 (wr.heap[g]? = some (.cells #[.int .i64 (fi + t)] 3 (0, 0))) ∧ Aside0 (W.heap.size ≤ g) ∧ Aside0 (Below W.heap.size W wr) ∧ Aside0 (bsSr (bsTr w o (bsF all last w d)) (m - t) (fi + t) = RES))
   (fun v13 wr => bsMu la v13 wr)
 case atStart => exact ⟨0, W.heap.size, rfl, Nat.zero_le _, ⟨by simpa using zie W (.cells #[.int .i64 fi] 3)⟩, ⟨zlr _⟩, ⟨zba (Below.refl _ _) _⟩, ⟨by simpa using HRES.out⟩⟩
 clear HRES
 obtain ⟨t, g, rfl, htm, HG, HGW, HB, HS⟩ := hrel
 have hXr := HX.out.below HB.out
 have r1 := zab hXr.1 0
 have r3 := zab hXr.2.2.1 0
 have r4 := zab hXr.2.2.2.1 0
 have r5 := zab hXr.2.2.2.2.1 0
 have rl := zh5 HB.out HCL.out
 have rg := zab HG.out 0
 have rf := zat HG.out 0
 have HXR := zA hXr
 clear hXr
 have d2 : (0 : Int) ≤ (o.length : Int) := by omega
 have d3 : (o.length : Int) < last.length := by omega
 by_cases hlt : t < m
 rotate_left
 · obtain rfl : t = m := by omega
   have d4 : decide (fi + (t : Int) ≤ la) = false := zdf (by have := HM.out; omega)
   go_wp2_with fail
   refine zoz [[], [], [], [1, 2], [1, 2, 3], [0, 1, 2, 3, 4]] (zoi [.int .i64 (fi + t), .slice (some adL) last.length cL, .int .i64 o.length, .pointer (some (adL.add o.length)), .int .i64 la, .bool false]) rfl (fun _ _ _ _ _ h => h) zq27 ⟨?_, ?_, ?_, ?_, ?_, ?_, trivial⟩ (fun nd => ?_)
   iterate 6 (· rintro w' ⟨n0, rfl⟩; refine zbl zaj (by rfl) ?_; simp only [zd9, riGo, zjt, zig, zjo, zoi, Nat.reduceBEq, Nat.reduceAdd, List.headD, List.tail, List.getD, List.getElem?_cons_zero, List.getElem?_cons_succ, Option.getD_some, cond_true, cond_false]; go_simp)
   refine zsr ?_
   go_wp2_with fail
   go_ret2
   refine ⟨_, rfl, zbn HB.out nd, ?_⟩
   have hS := HS.out
   rw [Nat.sub_self] at hS
   rw [HGOAL.out, ← hS]
   rfl
 have d4 : decide (fi + (t : Int) ≤ la) = true := zdt (by have := HM.out; omega)
 obtain ⟨c, hc⟩ : ∃ c, c = fi + (t : Int) := ⟨_, rfl⟩
 rw [← hc] at HG HS rg d4
 have HCC := zA hc
 have hcb : 0 ≤ c ∧ c ≤ 1000 := by have := zde d4; omega
 clear hc
 go_wp2_with fail
 refine zoz [[], [], [], [1, 2], [1, 2, 3], [0, 1, 2, 3, 4]] (zoi [.int .i64 c, .slice (some adL) last.length cL, .int .i64 o.length, .pointer (some (adL.add o.length)), .int .i64 la, .bool true]) rfl (fun _ _ _ _ _ h => h) zq27 ⟨?_, ?_, ?_, ?_, ?_, ?_, trivial⟩ (fun nd => ?_)
 iterate 6 (· rintro w' ⟨n0, rfl⟩; refine zbl zaj (by rfl) ?_; simp only [zd9, riGo, zjt, zig, zjo, zoi, Nat.reduceBEq, Nat.reduceAdd, List.headD, List.tail, List.getD, List.getElem?_cons_zero, List.getElem?_cons_succ, Option.getD_some, cond_true, cond_false]; go_simp)
 refine zsr ?_
 have HBN := zA (zbn HB.out nd)
 by_cases qw : zph o c = w
 · have d5 : ((zph o c : Int) == (w : Int)) = true := by rw [beq_iff_eq]; omega
   have Hqw := zA qw
   clear qw
   go_wp2_with (first
     | (go_at_call 57; (with_reducible refine (zhb A cp o o _ ?s1 ?s2 HCLN.out).mono ?_); (case s1 => exact zCb HC.out HBN.out); (case s2 => exact hcp); rintro e w2 ⟨v2, rfl, hv2, hb2⟩; obtain ⟨A2, cp2, rfl⟩ := Kd.R_slice hv2; have HV2 := zA (Kd.R_newB hv2 (zkn HG.out nd)); have HB2 := zA hb2; have HG2 := zA (zag (zkn HG.out nd) hb2); clear hv2 hb2)
     | (go_at_call 93; refine (ydm A2 cp2 o (by omega) c g _ _ _ HB2.out (Kd.R_mono HV2.out (fun _ hk => hk.2)) HG2.out).mono ?_; rintro e w3 ⟨⟨A3, cp3, rfl⟩, hb3⟩; have HB3 := zA (zac HBN.out hb3); have HG3 := zA (zag (zkn HG.out nd) hb3); clear hb3 HB2 HG2 HV2; have rg3 := zab HG3.out 0; have r43 := zab (zag (HX.out.2.2.2.1) HB3.out) 0))
   refine ⟨⟨t + 1, w3.heap.size, rfl, by omega, ⟨by rw [show fi + ((t + 1 : Nat) : Int) = c + 1 by have := HCC.out; omega]; exact zie w3 _⟩, ⟨HB3.out.size⟩, ⟨zba HB3.out _⟩, ⟨by rw [show fi + ((t + 1 : Nat) : Int) = c + 1 by have := HCC.out; omega]; exact zu1 _ _ _ _ _ HS.out hlt (if_pos Hqw.out)⟩⟩, ?_⟩
   have e1 : (w3.alloc (.cells #[.int .i64 (c + 1)] 3)).cell? ⟨w3.heap.size, 0, none⟩ = some (.int .i64 (c + 1)) := zab (zie w3 (.cells #[.int .i64 (c + 1)] 3)) 0
   have e2 : wr.cell? ⟨g, 0, none⟩ = some (.int .i64 c) := zab HG.out 0
   have e3 := zde d4
   unfold bsMu
   simp only [e1, e2]
   omega
 have d5 : ((zph o c : Int) == (w : Int)) = false := by rw [beq_eq_false_iff_ne]; omega
 have Hqw := zA qw
 clear qw
 go_wp2_with (first
   | (go_at_call 57; (with_reducible refine (zhb A cp o o _ ?s1 ?s2 HCLN.out).mono ?_); (case s1 => exact zCb HC.out HBN.out); (case s2 => exact hcp); rintro e w2 ⟨v2, rfl, hv2, hb2⟩; obtain ⟨A2, cp2, rfl⟩ := Kd.R_slice hv2; have HV2 := zA (Kd.R_newB hv2 (zkn HG.out nd)); have HB2 := zA hb2; have HG2 := zA (zag (zkn HG.out nd) hb2); clear hv2 hb2)
   | (go_at_call 93; refine (ydm A2 cp2 o (by omega) c g _ _ _ HB2.out (Kd.R_mono HV2.out (fun _ hk => hk.2)) HG2.out).mono ?_; rintro e w3 ⟨⟨A3, cp3, rfl⟩, hb3⟩; have HB3 := zA (zac HBN.out hb3); have HG3 := zA (zag (zkn HG.out nd) hb3); clear hb3 HB2 HG2 HV2; have rg3 := zab HG3.out 0; have r43 := zab (zag (HX.out.2.2.2.1) HB3.out) 0))
 obtain ⟨res, hres⟩ : ∃ res, res = bsF all last w d (o ++ [c]) := ⟨_, rfl⟩
 have HRS := zA hres
 clear hres
 have hx1 : ∀ u : Nat, 0 ≤ rd (o ++ [c]) (u : Int) ∧ rd (o ++ [c]) (u : Int) ≤ 1000 := fun u => by
   have h := HO.out u
   unfold rd at h ⊢
   rw [Int.toNat_natCast, List.getD_eq_getElem?_getD] at h ⊢
   rw [List.getElem?_append]
   split
   · exact h
   · rcases (u - o.length : Nat) with _ | k
     · simp; exact hcb
     · simp
 have HX1 := zA hx1
 clear hx1
 refine zup [[], [], [1], [], [3], [1, 2, 3, 4], [0, 1, 2, 3, 4, 5], [0, 1, 2, 3, 4, 5, 6], [0, 1, 2, 3, 4, 5, 6, 7], [0, 1, 2, 3, 4, 5, 6, 7], [0, 1, 2, 3, 4, 5, 6, 7, 8], [0, 1, 2, 3, 4, 5, 6, 7, 8, 9, 10]] [[6], [5, 6], [5, 6], [4, 5, 6], [5, 6], [6], [7, 8], [8, 9, 10, 11], [10, 11], [11], [11], []]
   (fun L s V => (Below W.heap.size W V ∧ V.heap[g]? = some (.cells #[.int .i64 c] 3 (0, 0))) ∧ (L 0 = true → s 0 = .func (.func 92) #[] #[.pointer (some ⟨gc, 0, none⟩), .pointer (some ⟨ga, 0, none⟩), .pointer (some ⟨gl, 0, none⟩), .pointer (some ⟨gw, 0, none⟩), .pointer (some ⟨gf, 0, none⟩)]) ∧ (L 1 = true → s 1 = .slice A o.length cp) ∧ (L 2 = true → L 5 = false → Kd.R (Kd.int .i64) 3 V W.heap.size (fun k => k ≠ g) (s 2) o) ∧ (L 3 = true → s 3 = .int .i64 c) ∧
     (L 4 = true → L 5 = false → Kd.R (Kd.int .i64) 3 V W.heap.size (fun k => k ≠ g ∧ (L 2 = true → some k ≠ (s 2).ownBlock)) (s 4) [c]) ∧ (L 5 = true → Kd.R (Kd.int .i64) 3 V W.heap.size (fun k => k ≠ g) (s 5) (o ++ [c])) ∧ (L 6 = true → ∃ u, s 6 = .tuple #[u, .bool res.isSome] ∧ BsU res W.heap.size V u) ∧ (L 7 = true → s 7 = s 6) ∧ (L 8 = true → L 6 = true → s 6 = .tuple #[s 8, .bool res.isSome]) ∧ (L 9 = true → s 9 = .bool res.isSome) ∧ (L 10 = true → s 10 = s 8) ∧ (L 11 = true → s 11 = .bool res.isSome))
   rfl (fun _ _ _ _ _ h => h) zq27 ?_ ⟨?_, ?_, ?_, ?_, ?_, ?_, ?_, ?_, ?_, ?_, ?_, ?_, trivial⟩ ?_
 · exact ⟨⟨zi6 HB3.out, HG3.out⟩, (fun h => Bool.noConfusion h), (fun h => Bool.noConfusion h), (fun h => Bool.noConfusion h), (fun h => Bool.noConfusion h), (fun h => Bool.noConfusion h), (fun h => Bool.noConfusion h), (fun h => Bool.noConfusion h), (fun h => Bool.noConfusion h), (fun h => Bool.noConfusion h), (fun h => Bool.noConfusion h), (fun h => Bool.noConfusion h), (fun h => Bool.noConfusion h)⟩
 · rintro L s V hu hd hn ⟨⟨hB, hg⟩, g0, g1, g2, g3, g4, g5, g6, g7, g8, g9, g10, g11⟩ K hK
   have hc := zab (HX.out.below hB).2.2.2.2.1 0
   refine zkb (N := some 63) (v := .func (.func 92) #[] #[.pointer (some ⟨gc, 0, none⟩), .pointer (some ⟨ga, 0, none⟩), .pointer (some ⟨gl, 0, none⟩), .pointer (some ⟨gw, 0, none⟩), .pointer (some ⟨gf, 0, none⟩)]) (w1 := V) (by rfl) rfl ?_ (hK _ _ ⟨⟨hB, hg⟩, fun _ => rfl, g1, g2, g3, g4, g5, g6, g7, g8, g9, g10, g11⟩)
   refine zsr ?_
   go_simp
 · rintro L s V hu hd hn ⟨⟨hB, hg⟩, g0, g1, g2, g3, g4, g5, g6, g7, g8, g9, g10, g11⟩ K hK
   refine zkb (N := some 64) (v := .slice A o.length cp) (w1 := V) (by rfl) rfl ?_ (hK _ _ ⟨⟨hB, hg⟩, g0, fun _ => rfl, g2, g3, g4, g5, g6, g7, g8, g9, g10, g11⟩)
   refine zsr ?_
   go_simp
 · rintro L s V hu hd hn ⟨⟨hB, hg⟩, g0, g1, g2, g3, g4, g5, g6, g7, g8, g9, g10, g11⟩ K hK
   refine zqz Tryz.func57 zq27 rfl #[.slice A o.length cp] (by rfl) rfl rfl (by simp only [List.map_toArray, List.map_cons, List.map_nil]; exact congrArg (fun x => #[x]) (g1 hd)) ?_
   refine (zhb A cp o o _ (zCb HC.out hB) hcp HCLN.out).mono ?_
   rintro e w4 ⟨v4, rfl, hv, hb⟩
   have h5 : L 5 = false := hn.1
   refine ⟨_, rfl, hK _ _ ⟨⟨zac hB hb, zag hg hb⟩, g0, g1, fun _ _ => Kd.R_lower (Kd.R_mono (Kd.R_newB hv hg) (fun _ hk => hk.2)) hB.size, g3, fun h4 h5 => ?_, fun h => absurd (h.symm.trans h5) (by simp), fun h => absurd (h.symm.trans hn.2) (by simp), g7, g8, g9, g10, g11⟩⟩
   refine Kd.R_mono (zRb (Kd.R_bound (g4 h4 h5)) hb) (fun k hk => ⟨hk.1.1, fun _ e => ?_⟩)
   have := Kd.R_base hv k e.symm
   exact absurd hk.2.2.1 (Nat.not_lt.2 this)
 · rintro L s V hu hd hn ⟨⟨hB, hg⟩, g0, g1, g2, g3, g4, g5, g6, g7, g8, g9, g10, g11⟩ K hK
   have hc := zab hg 0
   refine zkb (N := some 66) (v := .int .i64 c) (w1 := V) (by rfl) rfl ?_ (hK _ _ ⟨⟨hB, hg⟩, g0, g1, g2, fun _ => rfl, g4, g5, g6, g7, g8, g9, g10, g11⟩)
   refine zsr ?_
   go_simp
 · rintro L s V hu hd hn ⟨⟨hB, hg⟩, g0, g1, g2, g3, g4, g5, g6, g7, g8, g9, g10, g11⟩ K hK
   have e3 := g3 hd
   have h5 : L 5 = false := hn.1
   refine Kd.R_lit_step (Kd.int .i64) W.heap.size 3 (by rfl) (N := 67) rfl (xs := [c]) (inner := [.int .i64 c]) (ok := fun k => k ≠ g ∧ (L 2 = true → some k ≠ (s 2).ownBlock)) (okp := fun _ => False) ?_ (zak (show Kd.M (Kd.int .i64) _ _ _ c [.int .i64 c] from rfl) (Reps.none _ _)) (fun _ hk => hk.elim) ⟨fun e => absurd (zgu hg) (by omega), fun h2 e => absurd (Kd.R_lt (g2 h2 h5) _ e.symm) (Nat.lt_irrefl _)⟩ hB hB.size (by simp) ?_
   · simp only [zd9, riGo, zjt, zig, zjo, zoi, Nat.reduceBEq, Nat.reduceAdd, List.headD, List.tail, List.getD, List.getElem?_cons_zero, List.getElem?_cons_succ, Option.getD_some, cond_true, cond_false]
     go_simp
   intro v1 w1 ho hb hgr hnew
   have hb' : Below V.heap.size V w1 := ⟨hgr.os, hgr.tape, hgr.output, hgr.size, fun k hk => hgr.block k hk (by simp)⟩
   exact hK _ _ ⟨⟨hb, zag hg hb'⟩, g0, g1, fun h2 h5 => zRb (g2 h2 h5) hb', g3, fun _ _ => ho, fun h => absurd (h.symm.trans h5) (by simp), fun h => absurd (h.symm.trans hn.2) (by simp), g7, g8, g9, g10, g11⟩
 · rintro L s V hu hd hn ⟨⟨hB, hg⟩, g0, g1, g2, g3, g4, g5, g6, g7, g8, g9, g10, g11⟩ K hK
   have h5 : L 5 = false := hu
   obtain ⟨h1, h2, h3, h4⟩ := hd
   have k2 := g2 h2 h5
   have k4 := g4 h4 h5
   obtain ⟨A4, cp4, e4⟩ := Kd.R_slice k4
   rw [e4] at k4
   have k4' := Kd.R_mono k4 (fun k hk => hk.2 h2)
   obtain ⟨A2, cp2, e2⟩ := Kd.R_slice k2
   rw [e2] at k2 k4'
   refine Kd.R_append_rows_step (Kd.int .i64) (Rr := fun x cs => cs = [.int .i64 x]) W.heap.size (by rfl) _ _ 25 3 (.int .i64 0) 8 rfl Tryz.underlying25 zkf rfl (by decide) (by omega) (.slice A2 o.length cp2) o [c] A4 1 cp4 (fun k => k ≠ g) (fun _ => False) e2 e4 k2 (zRr k4).2.2 (fun _ _ h => h) (fun _ hk => hk.elim) (fun k hk e => absurd (zgu hg) (by omega)) hB hB.size (by omega) ?_
   intro v1 w1 ho hb hgr hat
   have hne : ∀ b, (Value.slice A2 o.length cp2).ownBlock = some b → b ≠ g := fun b hb' => k2.1 b hb'
   exact hK _ _ ⟨⟨hb, (hgr.block g (zgu hg) (fun e => hne g e.symm rfl)).trans hg⟩, g0, g1, fun _ h => Bool.noConfusion h, g3, fun _ h => Bool.noConfusion h, fun _ => ho, fun h => absurd (h.symm.trans hn) (by simp), g7, g8, g9, g10, g11⟩
 · rintro L s V hu hd hn ⟨⟨hB, hg⟩, g0, g1, g2, g3, g4, g5, g6, g7, g8, g9, g10, g11⟩ K hK
   have k5 := g5 hd.2.2.2.2.2
   obtain ⟨A5, cp5, e5⟩ := Kd.R_slice k5
   rw [e5] at k5
   have e0 := g0 hd.1
   refine zyf 92 #[.slice A5 (o ++ [c]).length cp5, .pointer (some ⟨gc, 0, none⟩), .pointer (some ⟨ga, 0, none⟩), .pointer (some ⟨gl, 0, none⟩), .pointer (some ⟨gw, 0, none⟩), .pointer (some ⟨gf, 0, none⟩)] (by rfl) rfl ?_ ?_
   · have he := zpv (P := Tryz.prog) Tryz.func92 zq27 rfl #[.slice A5 (o ++ [c]).length cp5, .pointer (some ⟨gc, 0, none⟩), .pointer (some ⟨ga, 0, none⟩), .pointer (some ⟨gl, 0, none⟩), .pointer (some ⟨gw, 0, none⟩), .pointer (some ⟨gf, 0, none⟩)] V
     refine zsr ?_
     rw [e0, e5]
     go_simp
   refine (HIH.out A5 cp5 (o ++ [c]) V (by rw [List.length_append, List.length_singleton]; omega) HX1.out (HX.out.below hB) (zRr k5).2.2 (zRr k5).2.1).mono ?_
   rintro e w5 ⟨v, rfl, hb, hr⟩
   rw [← HRS.out] at hr
   refine ⟨_, rfl, hK _ _ ⟨⟨zac hB hb, zag hg hb⟩, g0, g1, fun _ h => absurd (h.symm.trans hd.2.2.2.2.2) (by simp), g3, fun _ h => absurd (h.symm.trans hd.2.2.2.2.2) (by simp), fun _ => by show Kd.R _ _ _ _ _ (s 5) _; rw [e5]; exact zRb k5 hb, fun _ => ?_, fun h => absurd (h.symm.trans hn.1) (by simp), fun h => absurd (h.symm.trans hn.2) (by simp), g9, g10, g11⟩⟩
   · cases res with
     | none => exact ⟨_, hr, rfl⟩
     | some r =>
     obtain ⟨u, hu', hr'⟩ := hr
     refine ⟨u, hu', ?_⟩
     rcases hr' with ⟨_, rfl, rfl⟩ | hr'
     · exact Kd.R_mono (zRb k5 hb) (fun _ _ => trivial)
     · exact Kd.R_lower hr' hB.size
 · rintro L s V hu hd hn ⟨⟨hB, hg⟩, g0, g1, g2, g3, g4, g5, g6, g7, g8, g9, g10, g11⟩ K hK
   refine zkb (N := some 62) (v := s 6) (w1 := V) (by rfl) rfl ?_ (hK _ _ ⟨⟨hB, hg⟩, g0, g1, g2, g3, g4, g5, g6, fun _ => rfl, g8, g9, g10, g11⟩)
   refine zsr ?_
   go_simp
 · rintro L s V hu hd hn ⟨⟨hB, hg⟩, g0, g1, g2, g3, g4, g5, g6, g7, g8, g9, g10, g11⟩ K hK
   obtain ⟨u, e6, _⟩ := g6 hd.2.2.2.2.2.2.1
   have e7 := (g7 hd.2.2.2.2.2.2.2).trans e6
   refine zkb (N := some 70) (v := u) (w1 := V) (by rfl) rfl ?_ (hK _ _ ⟨⟨hB, hg⟩, g0, g1, g2, g3, g4, g5, g6, g7, fun _ _ => e6, g9, fun h => absurd (h.symm.trans hn.1) (by simp), g11⟩)
   refine zsr ?_
   rw [e7]
   go_simp
 · rintro L s V hu hd hn ⟨⟨hB, hg⟩, g0, g1, g2, g3, g4, g5, g6, g7, g8, g9, g10, g11⟩ K hK
   obtain ⟨u, e6, _⟩ := g6 hd.2.2.2.2.2.2.1
   have e7 := (g7 hd.2.2.2.2.2.2.2).trans e6
   refine zkb (N := some 71) (v := .bool res.isSome) (w1 := V) (by rfl) rfl ?_ (hK _ _ ⟨⟨hB, hg⟩, g0, g1, g2, g3, g4, g5, g6, g7, g8, fun _ => rfl, g10, g11⟩)
   refine zsr ?_
   rw [e7]
   go_simp
 · rintro L s V hu hd hn ⟨⟨hB, hg⟩, g0, g1, g2, g3, g4, g5, g6, g7, g8, g9, g10, g11⟩ K hK
   refine zkb (N := some 15) (v := s 8) (w1 := V) (by rfl) rfl ?_ (hK _ _ ⟨⟨hB, hg⟩, g0, g1, g2, g3, g4, g5, g6, g7, g8, g9, fun _ => rfl, g11⟩)
   refine zsr ?_
   go_simp
 · rintro L s V hu hd hn ⟨⟨hB, hg⟩, g0, g1, g2, g3, g4, g5, g6, g7, g8, g9, g10, g11⟩ K hK
   have e9 := g9 hd.2.2.2.2.2.2.2.2.2.1
   refine zkb (N := some 16) (v := .bool res.isSome) (w1 := V) (by rfl) rfl ?_ (hK _ _ ⟨⟨hB, hg⟩, g0, g1, g2, g3, g4, g5, g6, g7, g8, g9, g10, fun _ => rfl⟩)
   refine zsr ?_
   rw [e9]
   go_simp
 · rintro L s V hL ⟨⟨hB, hg⟩, g0, g1, g2, g3, g4, g5, g6, g7, g8, g9, g10, g11⟩
   obtain ⟨u, e6, hU⟩ := g6 (hL 6 rfl)
   have e8 := (g8 (hL 8 rfl) (hL 6 rfl)).symm.trans e6
   have e10 := g10 (hL 10 rfl)
   have e11 := g11 (hL 11 rfl)
   have e8' : s 8 = u := by injection e8 with h; simpa using h
   rw [e8'] at e10
   have HBV := zA hB
   have HGV := zA hg
   have HU := zA hU
   clear g0 g1 g2 g3 g4 g5 g6 g7 g8 g9 g10 g11 e8 e8' e6 hB hg hU
   refine zsr ?_
   rw [e10, e11]
   clear e10 e11
   have rgV := zab HGV.out 0
   cases hres : res with
   | some r =>
     have HF2 := zA (yao _ _ _ _ r _ HS.out hlt (by unfold bsTr; rw [if_neg Hqw.out, ← HRS.out, hres]))
     rw [hres] at HU
     clear hres
     simp only [Option.isSome]
     go_wp2_with fail
     go_ret2
     refine ⟨_, rfl, HBV.out, ?_⟩
     rw [HGOAL.out, HF2.out]
     exact ⟨u, rfl, .inr HU.out⟩
   | none =>
     have HP2 := zA (show bsTr w o (bsF all last w d) c = none by unfold bsTr; rw [if_neg Hqw.out, ← HRS.out, hres])
     clear hres
     simp only [Option.isSome]
     go_wp2_with fail
     refine ⟨⟨t + 1, V.heap.size, rfl, by omega, ⟨by rw [show fi + ((t + 1 : Nat) : Int) = c + 1 by have := HCC.out; omega]; exact zie V _⟩, ⟨HBV.out.size⟩, ⟨zba HBV.out _⟩, ⟨by rw [show fi + ((t + 1 : Nat) : Int) = c + 1 by have := HCC.out; omega]; exact zu1 _ _ _ _ _ HS.out hlt HP2.out⟩⟩, ?_⟩
     have e1 : (V.alloc (.cells #[.int .i64 (c + 1)] 3)).cell? ⟨V.heap.size, 0, none⟩ = some (.int .i64 (c + 1)) := zab (zie V (.cells #[.int .i64 (c + 1)] 3)) 0
     have e2 : wr.cell? ⟨g, 0, none⟩ = some (.int .i64 c) := zab HG.out 0
     have e3 := zde d4
     unfold bsMu
     simp only [e1, e2]
     omega
end
def zrj (k : Nat) (l0 : List S55) (all : List (List Int)) (w : Nat) : Nat → Int → Option (List Int × Bool)
 | 0, _ => none
 | f + 1, len => (zfm k l0 len).bind fun last => if bsOk all last l0.length = true ∧ len < 1000000 then (match bsF all last w l0.length [] with
   | some r => some (r, true)
   | none => zrj k l0 all w f (len + 1)) else none
def zds (k : Nat) (l0 : List S55) (a1 : Int) : Option (List Int × Bool) := (zgw k l0).bind fun t => if t = true then (if (l0.length : Int) > 7 then some ([], false) else (zea a1).bind fun v => if v = true then (if 0 ≤ a1 then (zes k l0).bind fun all => zrj k l0 all a1.toNat k 0 else none) else some ([], false)) else some ([], false)
theorem zs5 (k : Nat) (l0 : List S55) (all : List (List Int)) (w : Nat) : ∀ f len, LeO (zrj k l0 all w f len) (zrj (k + 1) l0 all w (f + 1) len)
 | 0, _ => LeO.none _
 | f + 1, len => by
   unfold zrj
   refine LeO.bind (zh6 _ _ _) (fun last => zev ?_ (LeO.refl _))
   cases bsF all last w l0.length [] with
   | some r => exact LeO.refl _
   | none => exact zs5 k l0 all w f (len + 1)
theorem zoc : ∀ a0 a1 k, LeO (zds k a0 a1) (zds (k + 1) a0 a1) := by
 intro a0 a1 k
 unfold zds
 exact LeO.bind (zn8 _ _) (fun _ => zev (zev (LeO.refl _) (LeO.bind (LeO.refl _) (fun _ => zev (zev (LeO.bind (zdv _ _) (fun _ => zs5 _ _ _ _ _ _)) (LeO.refl _)) (LeO.refl _)))) (LeO.refl _))
theorem zh0 (k : Nat) (A0 : Option Addr) (c0 : Nat) (l0 : List S55) (a1 : Int) (r1 : List Int) (r2 : Bool) (w : World) (hr0 : Kd.C k55 w A0 l0.length l0) (hc0 : l0.length ≤ c0) (h : zds k l0 a1 = some (r1, r2)) :
   Calls Tryz.prog 43 #[.slice A0 l0.length c0, .int .i64 a1] w fun e w' => ∃ v0_ : Value, e = .returned (.tuple #[v0_, .bool r2]) ∧ Kd.R (Kd.int .i64) 3 w' w.heap.size (fun _ => True) v0_ r1 ∧ Below w.heap.size w w' := by
 have hu55 := Tryz.underlying55
 have HR := zA hr0
 have HC := zA hc0
 unfold zds at h
 obtain ⟨t, ht, h⟩ := Option.bind_eq_some_iff.1 h
 have HT := zA ht
 have HH := zA h
 clear hr0 hc0 ht h
 go_enter Tryz.func43, Tryz.ntmps43
 go_wp2_with fail
 obtain ⟨W0, hW0⟩ : ∃ W0, (w.alloc (.cells #[.slice A0 l0.length c0] 24)).alloc (.cells #[.int .i64 a1] 3) = W0 := ⟨_, rfl⟩
 have HB := zA (show Below w.heap.size w W0 from hW0 ▸ zba (zba (Below.refl _ _) _) _)
 have B1 := zA (show W0.heap[w.heap.size]? = some (.cells #[.slice A0 l0.length c0] 24 (0, 0)) from hW0 ▸ zka (zie w _) _)
 have B2 := zA (show W0.heap[w.heap.size + 1]? = some (.cells #[.int .i64 a1] 3 (0, 0)) by rw [← hW0]; simpa using zie (w.alloc (.cells #[.slice A0 l0.length c0] 24)) (.cells #[.int .i64 a1] 3))
 rw [hW0]
 clear hW0
 cases ht : t with
 | false =>
   rw [ht] at HT HH
   obtain ⟨rfl, rfl⟩ : [] = r1 ∧ false = r2 := by
     have := HH.out
     rw [if_neg (by decide)] at this
     exact Prod.mk.inj (zsi this)
   clear HH ht
   (with_reducible refine (ziz k A0 c0 l0 false _ ?s1 ?s2 HT.out).mono ?_)
   case s1 => exact zCb HR.out HB.out
   case s2 => exact HC.out
   rintro e w2 ⟨rfl, hb⟩
   go_wp2_with fail
   go_ret2
   exact ⟨_, rfl, Kd.R_nil _ _ _ _ _, zac HB.out hb⟩
 | true =>
   rw [ht] at HT HH
   clear ht
   have h := HH.out
   rw [if_pos rfl] at h
   clear HH
   (with_reducible refine (ziz k A0 c0 l0 true _ ?s1 ?s2 HT.out).mono ?_)
   case s1 => exact zCb HR.out HB.out
   case s2 => exact HC.out
   rintro e w2 ⟨rfl, hb⟩
   have HB2 := zA (zac HB.out hb)
   have B12 := zA (zag B1.out hb)
   have B22 := zA (zag B2.out hb)
   clear hb HB B1 B2
   have q1 := zab B12.out 0
   have q2 := zab B22.out 0
   by_cases h7 : (l0.length : Int) > 7
   · rw [if_pos h7] at h
     obtain ⟨rfl, rfl⟩ := Prod.mk.inj (zsi h)
     clear h
     have d1 : decide ((7 : Int) < l0.length) = true := zdt h7
     go_wp2_with fail
     go_ret2
     exact ⟨_, rfl, Kd.R_nil _ _ _ _ _, HB2.out⟩
   rw [if_neg h7] at h
   have d1 : decide ((7 : Int) < l0.length) = false := zdf h7
   obtain ⟨v, hv, h⟩ := Option.bind_eq_some_iff.1 h
   have HV := zA hv
   clear hv
   cases hv : v with
   | false =>
     rw [hv, if_neg (by decide)] at h
     rw [hv] at HV
     obtain ⟨rfl, rfl⟩ := Prod.mk.inj (zsi h)
     clear h hv
     go_wp2_with (go_at_call 67; (with_reducible refine (zfe a1 false _ HV.out).mono ?_); rintro e w3 ⟨rfl, hd⟩; obtain ⟨nd, rfl⟩ := hd.out)
     go_ret2
     exact ⟨_, rfl, Kd.R_nil _ _ _ _ _, zbn HB2.out _⟩
   | true =>
     rw [hv, if_pos rfl] at h
     rw [hv] at HV
     clear hv
     by_cases h0 : 0 ≤ a1
     rotate_left
     · rw [if_neg h0] at h
       cases h
     rw [if_pos h0] at h
     obtain ⟨all, hall, h⟩ := Option.bind_eq_some_iff.1 h
     obtain ⟨wd, rfl⟩ := Int.eq_ofNat_of_zero_le h0
     rw [Int.toNat_natCast] at h
     have HA := zA hall
     have HH := zA h
     clear hall h h0
     go_wp2_with (first
       | (go_at_call 67; (with_reducible refine (zfe _ true _ HV.out).mono ?_); rintro e w3 ⟨rfl, hd⟩; obtain ⟨nd, rfl⟩ := hd.out)
       | (go_at_call 59; (with_reducible refine (zg4 k A0 c0 l0 all _ ?s1 ?s2 HA.out).mono ?_); (case s1 => exact zCb HR.out (zbn HB2.out _)); (case s2 => exact HC.out); rintro e w4 ⟨v4, rfl, hv4, hb4⟩; obtain ⟨Al, cl, rfl⟩ := Kd.S_slice hv4; have HV4 := zA (zSr hv4).2.2; have HB4 := zA (zac (zbn HB2.out _) hb4); have B14 := zA (zag (zkn B12.out _) hb4); have B24 := zA (zag (zkn B22.out _) hb4); clear hv4 hb4))
     go_loopg [7] k (fun kq v7 wr => ∃ len : Int, v7 = .int .i64 len ∧ 0 ≤ len ∧ Aside0 (zrj k l0 all wd kq len = some (r1, r2)) ∧ Aside0 (Below w.heap.size w wr) ∧ Aside0 (wr.heap[w.heap.size]? = some (.cells #[.slice A0 l0.length c0] 24 (0, 0))) ∧ Aside0 (wr.heap[w.heap.size + 1]? = some (.cells #[.int .i64 wd] 3 (0, 0))) ∧
       Aside0 (wr.heap[w4.heap.size]? = some (.cells #[.slice Al all.length cl] 36 (0, 0))) ∧ Aside0 ((Kd.slice 3 (Kd.int .i64)).C wr Al all.length all))
     case atStart => exact ⟨0, rfl, Int.le_refl _, HH, ⟨zba HB4.out _⟩, ⟨zka B14.out _⟩, ⟨zka B24.out _⟩, ⟨zie _ _⟩, ⟨zCa HV4.out _⟩⟩
     clear HH HB4 B14 B24 HV4 HB2 B12 B22
     obtain ⟨len, rfl, hlen, HS, HB, B1, B2, B3, HAL⟩ := hrel
     cases gk with
     | zero => exact absurd HS.out (by simp [zrj])
     | succ f =>
     have h := HS.out
     clear HS
     unfold zrj at h
     obtain ⟨last, hlast, h⟩ := Option.bind_eq_some_iff.1 h
     have HL := zA hlast
     clear hlast
     by_cases hok : bsOk all last l0.length = true ∧ len < 1000000
     rotate_left
     · rw [if_neg hok] at h
       cases h
     rw [if_pos hok] at h
     obtain ⟨hok1, hok2⟩ := hok
     have HOK := zA hok1
     clear hok1
     have q1 := zab B1.out 0
     go_wp2_with (go_at_call 79; (with_reducible refine (zi0 k A0 c0 l0 len last _ ?s1 ?s2 HL.out).mono ?_); (case s1 => exact zCb HR.out HB.out); (case s2 => exact HC.out); rintro e w5 ⟨v5, rfl, hv5, hb5⟩; obtain ⟨AL, cL, rfl⟩ := Kd.R_slice hv5; have HV5 := zA (zRr hv5).2.2; have HB5 := zA hb5; have hb9 : ((w5.alloc (.cells #[.slice AL last.length cL] 25)).alloc (.cells #[Value.nilFunc] 84)).heap[w5.heap.size + 1]? = some (.cells #[Value.nilFunc] 84 (0, 0)) := (by simpa using zie (w5.alloc (.cells #[.slice AL last.length cL] 25)) (.cells #[Value.nilFunc] 84)); have HB9 := zA hb9; have cf := zab hb9 0; have ff := zat hb9 0; clear hv5 hb5 hb9)
     obtain ⟨fv, hfv⟩ : ∃ fv, fv = Value.func (.func 92) #[] #[.pointer (some ⟨w.heap.size, 0, none⟩), .pointer (some ⟨w4.heap.size, 0, none⟩), .pointer (some ⟨w5.heap.size, 0, none⟩), .pointer (some ⟨w.heap.size + 1, 0, none⟩), .pointer (some ⟨w5.heap.size + 1, 0, none⟩)] := ⟨_, rfl⟩
     have hsz : (w5.alloc (.cells #[.slice AL last.length cL] 25)).heap.size = w5.heap.size + 1 := by simp
     have hb9 := zie (w5.alloc (.cells #[.slice AL last.length cL] 25)) (.cells #[fv] 84)
     rw [hsz] at hb9
     have hb8 : ((w5.alloc (.cells #[.slice AL last.length cL] 25)).alloc (.cells #[fv] 84)).heap[w5.heap.size]? = some (.cells #[.slice AL last.length cL] 25 (0, 0)) := zka (zie _ _) _
     have hbl : Below wr.heap.size wr ((w5.alloc (.cells #[.slice AL last.length cL] 25)).alloc (.cells #[fv] 84)) := zba (zba HB5.out _) _
     have hB6 := zac HB.out hbl
     have h16 := zag B1.out hbl
     have h26 := zag B2.out hbl
     have h36 := zag B3.out hbl
     have hA6 := zCb HAL.out hbl
     have hL6 := zCa (zCa HV5.out (.cells #[.slice AL last.length cL] 25)) (.cells #[fv] 84)
     have hX := (show BsX A0 c0 l0.length wd all last Al cl AL cL w.heap.size w4.heap.size w5.heap.size (w.heap.size + 1) (w5.heap.size + 1) ((w5.alloc (.cells #[.slice AL last.length cL] 25)).alloc (.cells #[fv] 84)) from ⟨h16, h36, hb8, h26, by rw [hfv] at hb9 ⊢; exact hb9, hA6, hL6⟩)
     have HX := zA hX
     have HB6 := zA hB6
     have B16 := zA h16
     have B26 := zA h26
     have B36 := zA h36
     have HA6 := zA hA6
     have HSZ := zA HB.out.size
     clear hX hB6 h16 h26 h36 hA6 hL6 hbl hb8 hb9 hsz
     rw [hfv] at HX HB6 B16 B26 B36 HA6
     clear hfv
     cases hres : bsF all last wd l0.length [] with
     | some r =>
       have e := h
       rw [hres] at e
       obtain ⟨rfl, rfl⟩ := Prod.mk.inj (zsi e)
       clear h e
       refine (ybe A0 c0 l0.length wd all last Al cl AL cL w.heap.size w4.heap.size w5.heap.size (w.heap.size + 1) (w5.heap.size + 1) HOK.out l0.length none 0 [] _ (by simp) (fun u => by unfold rd; simp) HX.out (Kd.C_nil _ _) (Nat.zero_le _)).mono ?_
       rintro e w7 ⟨v, rfl, hb, hr⟩
       rw [hres] at hr
       obtain ⟨u, rfl, hr⟩ := hr
       have HR7 := zA hr
       have HB7 := zA hb
       clear hr hb hres
       go_wp2_with fail
       go_ret2
       refine ⟨_, rfl, ?_, zac HB6.out HB7.out⟩
       rcases HR7.out with ⟨hz, rfl, rfl⟩ | hr
       · exact Kd.R_nil _ _ _ _ _
       · exact Kd.R_lower hr (by have := HB6.out.size; omega)
     | none =>
       rw [hres] at h
       have HH := zA h
       clear h
       refine (ybe A0 c0 l0.length wd all last Al cl AL cL w.heap.size w4.heap.size w5.heap.size (w.heap.size + 1) (w5.heap.size + 1) HOK.out l0.length none 0 [] _ (by simp) (fun u => by unfold rd; simp) HX.out (Kd.C_nil _ _) (Nat.zero_le _)).mono ?_
       rintro e w7 ⟨v, rfl, hb, hr⟩
       rw [hres] at hr
       subst hr
       have HB7 := zA hb
       clear hb hres
       go_wp2_with fail
       go_roundg f
       case rel => exact ⟨len + 1, by go_num, by omega, HH, ⟨zac HB6.out HB7.out⟩, ⟨zag B16.out HB7.out⟩, ⟨zag B26.out HB7.out⟩, ⟨zag B36.out HB7.out⟩, ⟨zCb HA6.out HB7.out⟩⟩
       case measure => exact Nat.lt_succ_self _
mutual
def zcx : Nat → List (List Int) → List Int → Int → Int → Option (List Int)
 | 0, _, _, _, _ => none
 | k + 1, x3, x4, x14, x15 => if x15 < x14 then (if 0 ≤ x15 then (if x15 < (x3.length : Int) then (zcs k x3 x4 x15 x14 x15 (za1 x3 x15) ((za1 x3 x15).length : Int) 0) else (none)) else (none)) else (some x4)
def zcs : Nat → List (List Int) → List Int → Int → Int → Int → List Int → Int → Int → Option (List Int)
 | 0, _, _, _, _, _, _, _, _ => none
 | k + 1, x3, x4, x5, x14, x15, x21, x22, x23 => if x23 < x22 then (if 0 ≤ x23 then (if x23 < (x21.length : Int) then (if (rd x21 x23) ≥ 0 then (if 0 ≤ x5 then (if x5 < (x4.length : Int) then (if x23 < (x4.length : Int) then (zcs k x3 (x4.set (x5 : Int).toNat (mx (rd x4 x5) (wrap64 ((rd x4 x23) + (rd x21 x23))))) x5 x14 x15 x21 x22 (wrap64 (x23 + 1))) else (none)) else (none)) else (none)) else (zcs k x3 x4 x5 x14 x15 x21 x22 (wrap64 (x23 + 1)))) else (none)) else (none)) else (zcx k x3 x4 x14 (wrap64 (x15 + 1)))
end
def zfn (k : Nat) (l0 : List (S55)) : Option (List Int) := (zes k l0).bind fun t101 => (if 0 ≤ (l0.length : Int) then (if ((l0.length : Int) : Int).toNat ≤ 35184372088832 then (zcx k t101 (List.replicate ((l0.length : Int) : Int).toNat 0) (l0.length : Int) 0) else (none)) else (none))
theorem zld : ∀ k, (∀ y0 y1 y2 y3, LeO (zcx k y0 y1 y2 y3) (zcx (k + 1) y0 y1 y2 y3)) ∧ (∀ y0 y1 y2 y3 y4 y5 y6 y7, LeO (zcs k y0 y1 y2 y3 y4 y5 y6 y7) (zcs (k + 1) y0 y1 y2 y3 y4 y5 y6 y7))
 | 0 => ⟨fun _ _ _ _ r h => by simp [zcx] at h, fun _ _ _ _ _ _ _ _ r h => by simp [zcs] at h⟩
 | k + 1 => by
   obtain ⟨ih0, ih1⟩ := zld k
   refine ⟨?_, ?_⟩
   · intro y0 y1 y2 y3
     unfold zcx
     exact zm3 ih0 ih1 zdv
   · intro y0 y1 y2 y3 y4 y5 y6 y7
     unfold zcs
     exact zm3 ih0 ih1 zdv
theorem zhe : ∀ a0 k, LeO (zfn k a0) (zfn (k + 1) a0) := by
 intro a0 k
 obtain ⟨ih0, ih1⟩ := zld k
 unfold zfn
 exact zm3 ih0 ih1 zdv
def impl_earliest.T9 : Bool × List (List Nat × List Nat) := (true, [([], []), ([], []), ([], []), ([], []), ([2, 3], [2, 3]), ([4], [4]), ([], []), ([], []), ([6, 7], [6, 7]), ([8], [8]), ([], []), ([9, 10], [9, 10]), ([5, 11], [5, 11]), ([0, 1, 0, 1, 2, 3, 4, 5, 6, 7, 8, 9, 10, 11, 12], [0, 1]), ([13, 12, 0, 1, 2, 3, 4, 5, 6, 7, 8, 9, 10, 11, 12], [12, 13])])
def zrk : List Nat := [0, 0, 0, 0, 12, 28, 0, 0, 192, 448, 0, 1984, 4092, 8191, 16383]
theorem zp2 : rtab .any (zuf Tryz.f76 9) = impl_earliest.T9 := by kernel_rfl
theorem zpi : zke impl_earliest.T9.2 zrk = true := by kernel_rfl
theorem zlx (k : Nat) (A0 : Option Addr) (c0 : Nat) (l0 : List (S55)) (r : List Int) (w : World) (hr0 : Kd.C k55 w A0 l0.length l0) (hc0 : l0.length ≤ c0) (h : zfn k l0 = some r) :
   Calls Tryz.prog 76 #[.slice A0 l0.length c0] w fun e w' => ∃ v0_ : Value, e = .returned (v0_) ∧ Kd.R (Kd.int .i64) 3 w' w.heap.size (fun _ => True) v0_ r ∧ Below w.heap.size w w' := by
 have HR0 := zA hr0
 have HC0 := zA hc0
 clear hr0 hc0
 have HB := zA (Below.refl w.heap.size w)
 have H := h
 unfold zfn at H
 clear h
 replace H := zob H
 obtain ⟨t101, A20, H⟩ := H
 have A2 := zA A20
 clear A20
 by_cases c3 : 0 ≤ (l0.length : Int)
 rotate_left
 · rw [if_neg c3] at H
   exact absurd H (by simp)
 rw [if_pos c3] at H
 have c3b0 := eq_true c3
 have c3b1 := zdt c3
 clear c3
 by_cases c4 : ((l0.length : Int) : Int).toNat ≤ 35184372088832
 rotate_left
 · rw [if_neg c4] at H
   exact absurd H (by simp)
 rw [if_pos c4] at H
 have c4b0 := eq_true c4
 have c4b1 := zdt c4
 clear c4
 obtain ⟨y104, hy104⟩ : ∃ y_ : List Int, y_ = (List.replicate ((l0.length : Int) : Int).toNat 0) := ⟨_, rfl⟩
 rw [← hy104] at H; try with_reducible replace H := zbs H
 have Ny104 := zA hy104
 clear hy104
 have H' := zA H
 clear H
 go_enter Tryz.func76, Tryz.ntmps76
 try go_wp2
 replace HB := zA (zbd HB.out)
 refine zk4 (n := 7) (S := fun w' => True) (ds := []) #[false, false, false, false, false, false, false] zq27 rfl rfl trivial (fun hHeld => ?_)
 generalize w.drew = w5 at HB hHeld ⊢
 refine zpk 0 8 ?_
 refine zpk 2 10 ?_
 refine zpk 3 11 ?_
 refine yd9 (σ := Value × Value) 1 #[true, true, true, true, true, true, false] (fun s_ => [(9, s_.1), (12, s_.2), (3, s_.1)]) (fun s_ w' => (Kd.S (Kd.slice 3 (Kd.int .i64)) 25 w' w.heap.size (fun k_ => some k_ ≠ (s_.2 : Value).ownBlock) s_.1 t101) ∧ (Kd.R (Kd.int .i64) 3 w' w.heap.size (fun _ => True) s_.2 y104) ∧ (Below w.heap.size w w')) ?_ ?_
 rotate_left
 · intro hCont
   refine two_ (i := 1) (j := 4) (Ni := some 9) (Nj := some 12) #[true, true, true, true, false, false, false] #[true, false, true, true, true, false, false] rfl rfl rfl rfl zq27 (by decide) (by decide) (fun K hK => ?_) (fun K hK => ?_)
   · skip
     refine zqz Tryz.func59 zq27 rfl #[.slice A0 l0.length c0] (by rfl) rfl rfl zq25 ?_
     with_reducible refine (zg4 k _ _ l0 t101 _ ?side1 ?side2 A2.out).mono ?_
     (case side1 => repeat (first | exact (zCb HR0.out HB.out) | (with_reducible first | refine zCa ?_ _ | refine zCn ?_ _ | refine zCd ?_)))
     (case side2 => exact HC0.out)
     rintro e w6 ⟨v102, rfl, ho0, hb⟩
     refine ⟨_, rfl, ?_⟩
     have HO103 := zA (Kd.S_lower ho0 (zah zq1))
     replace HB := zA (zac zq1 hb)
     (try clear hb)
     (try clear hb2)
     (try clear hk)
     (try clear hi)
     (try clear ho0)
     refine hK.out _ _ trivial (fun hHeld => ?_)
     clear hK K
     refine znm 9 ?_
     refine zz0 (i := 5) (N := some 3) (v := ?_) (a' := ?_) #[true, true, true, true, false, true, false] rfl rfl zq27 (fun _ _ _ h => h) (Or.inl ⟨by rfl, ?_⟩) ?_ ?_
     rotate_left
     · intro w'
       go_simp
       with_reducible rfl
     rotate_left
     · simp only [Act.put, List.setIfInBounds_toArray, List.set_cons_zero, List.set_cons_succ, zlo, zm9]
       rfl
     refine one_ (i := 4) (N := some 12) #[true, true, true, true, true, true, false] rfl rfl zq27 (by decide) (fun K hK => ?_)
     refine Kd.R_make_step (Kd.int .i64) _ 3 (by rfl) (N := 12) rfl 25 _ _ rfl (l0.length : Int) rfl rfl Tryz.underlying25 (.int .i64 0) 8 zkf rfl (by decide) (by omega) 0 (ok := fun _ => True) (okp := fun _ => True) rfl (fun _ hk => hk) trivial (zde zq21) (Nat.le_trans (Nat.mul_le_mul_right _ (zde zq21 : (l0.length : Int).toNat ≤ 35184372088832)) (by omega)) (Below.refl _ _) (zlr _) ?_
     intro v105 w7 ho8 hb hg_ hnew_
     clear hg_ hnew_
     (first | rw [← Ny104.out] at ho8 | (simp only [Int.reduceToNat] at ho8; rw [← Ny104.out] at ho8))
     replace HO103 := zA (Kd.S_elder' (zq16 HO103) (Kd.R_base ho8) hb)
     have HO106 := zA (Kd.R_lower ho8 (zah zq1))
     replace HB := zA (zac zq1 hb)
     clear hb ho8
     refine hK.out _ _ trivial (fun hHeld => ?_)
     clear hK K
     refine znm 12 ?_
     exact zwr zq55 (hCont (v102, v105) _ ⟨(zq34 HO103), (zq2 HO106), zq1⟩)
   skip
   refine Kd.R_make_step (Kd.int .i64) _ 3 (by rfl) (N := 12) rfl 25 _ _ rfl (l0.length : Int) rfl rfl Tryz.underlying25 (.int .i64 0) 8 zkf rfl (by decide) (by omega) 0 (ok := fun _ => True) (okp := fun _ => True) rfl (fun _ hk => hk) trivial (zde zq21) (Nat.le_trans (Nat.mul_le_mul_right _ (zde zq21 : (l0.length : Int).toNat ≤ 35184372088832)) (by omega)) (Below.refl _ _) (zlr _) ?_
   intro v105 w6 ho7 hb hg_ hnew_
   clear hg_ hnew_
   (first | rw [← Ny104.out] at ho7 | (simp only [Int.reduceToNat] at ho7; rw [← Ny104.out] at ho7))
   have HO106 := zA (Kd.R_lower ho7 (zah zq1))
   replace HB := zA (zac zq1 hb)
   clear hb ho7
   refine hK.out _ _ trivial (fun hHeld => ?_)
   clear hK K
   refine znm 12 ?_
   refine one_ (i := 1) (N := some 9) #[true, true, true, true, true, false, false] rfl rfl zq27 (by decide) (fun K hK => ?_)
   refine zqz Tryz.func59 zq27 rfl #[.slice A0 l0.length c0] (by rfl) rfl rfl zq25 ?_
   with_reducible refine (zg4 k _ _ l0 t101 _ ?side1 ?side2 A2.out).mono ?_
   (case side1 => repeat (first | exact (zCb HR0.out HB.out) | (with_reducible first | refine zCa ?_ _ | refine zCn ?_ _ | refine zCd ?_)))
   (case side2 => exact HC0.out)
   rintro e w8 ⟨v102, rfl, ho0, hb⟩
   refine ⟨_, rfl, ?_⟩
   have HO103 := zA (Kd.S_lower (Kd.S_new' ho0 (Kd.R_lt (zq2 HO106))) (zah zq1))
   replace HO106 := zA (zRb (zq2 HO106) hb)
   replace HB := zA (zac zq1 hb)
   (try clear hb)
   (try clear hb2)
   (try clear hk)
   (try clear hi)
   (try clear ho0)
   refine hK.out _ _ trivial (fun hHeld => ?_)
   clear hK K
   refine znm 9 ?_
   refine zpk 5 3 ?_
   exact zwr zq55 (hCont (v102, v105) _ ⟨(zq34 HO103), (zq2 HO106), zq1⟩)
 rintro ⟨v102, v105⟩ w9 ⟨h0_, h1_, h2_⟩
 have n0_ : Aside0 (Kd.S (Kd.slice 3 (Kd.int .i64)) 25 w9 w.heap.size (fun k_ => some k_ ≠ (v105 : Value).ownBlock) v102 t101) := ⟨h0_⟩
 have n1_ : Aside0 (Kd.R (Kd.int .i64) 3 w9 w.heap.size (fun _ => True) v105 y104) := ⟨h1_⟩
 have n2_ : Aside0 (Below w.heap.size w w9) := ⟨h2_⟩
 clear HB
 clear h0_ h1_ h2_
 have HO103 := n0_
 have HO106 := n1_
 have HB := n2_
 clear n0_ n1_ n2_
 have hHeld := trivial
 refine zwr (a' := ?_) ?_ ?_
 rotate_left
 · simp only [zte, Act.put, List.setIfInBounds_toArray, List.set_cons_zero, List.set_cons_succ]
   rfl
 refine zpk 6 4 ?_
 refine zou zq27 ?_
 try go_wp2
 go_loopg [15] k (fun kq v15 w' => ∃ (x4_1 : List Int) (x15_1 : Int), v15 = .int .i64 x15_1 ∧ Aside0 (zcx kq t101 x4_1 (l0.length : Int) x15_1 = some r) ∧ Aside0 (kq ≤ k) ∧ Aside0 (Kd.S (Kd.slice 3 (Kd.int .i64)) 25 w' w.heap.size (fun k_ => some k_ ≠ (v105 : Value).ownBlock) v102 t101) ∧ Aside0 (Kd.R (Kd.int .i64) 3 w' w.heap.size (fun _ => True) v105 x4_1) ∧ Aside0 (Below w.heap.size w w'))
 case atStart => exact ⟨(y104), (0), zq8, H', ⟨zlr _⟩, ⟨zq16 HO103⟩, ⟨zq2 HO106⟩, ⟨zq1⟩⟩
 clear H'
 obtain ⟨x4_1, x15_1, rfl, HA, HK1, HO_3, HO_4, HB⟩ := hrel
 cases gk with
 | zero => exact absurd HA.out (by simp [zcx])
 | succ k1 =>
 have H := HA.out
 clear HA
 simp only [zcx] at H
 revert H
 refine zit (fun c10 H => ?_) fun c10 H => ?_
 rotate_left
 · obtain rfl := zsi H
   go_wp2
   go_ret
   exact ⟨_, zq5, zq2 HO_4, zq1⟩
 revert H
 refine zin fun c11 H => ?_
 revert H
 refine zin fun c12 H => ?_
 have H' := zA H
 clear H
 obtain ⟨Ao13, co13, eo13⟩ := Kd.S_slice HO_3.out
 subst eo13
 have p107 : 0 ≤ (x15_1 : Int) := zde zq21
 have q107 : x15_1 < (t101.length : Int) := zde zq21
 obtain ⟨ad107, A107_0, c107_0, e107, hx107_0, hl107_0, hi107_0⟩ := zkm (zSr HO_3.out).2.2 x15_1 p107 q107
 cases e107
 obtain ⟨ce107, hce107, hMe107, hcc107⟩ := Kd.S_get HO_3.out [] x15_1 p107 (by first | exact q107 | exact zde zq21 | (have e_ := (zSr HO_3.out).1; omega))
 obtain ⟨ve107_0, rfl, ge107_0⟩ := hMe107
 have hv107_0 := hcc107 0 _ rfl
 rw [Nat.add_zero, show ((Kd.slice 3 (Kd.int .i64))).sz = 1 from rfl, Nat.mul_one] at hv107_0
 replace hv107_0 := zsi (hv107_0.symm.trans hx107_0)
 rw [hv107_0] at ge107_0
 have HL107_0 := zA (show Kd.R (Kd.int .i64) 3 _ _ _ _ (za1 t101 x15_1) from ge107_0)
 clear hv107_0 ge107_0
 clear hcc107 hce107
 have HR107_0 := zA hi107_0
 have HC107_0 := zA hl107_0
 clear hi107_0 hl107_0
 replace p107 := eq_true p107
 replace q107 := eq_true q107
 go_wp2
 go_loopg [23] k1 (fun kq v23 w' => ∃ (x4_2 : List Int) (x23_2 : Int), v23 = .int .i64 x23_2 ∧ Aside0 (zcs kq t101 x4_2 x15_1 (l0.length : Int) x15_1 (za1 t101 x15_1) ((za1 t101 x15_1).length : Int) x23_2 = some r) ∧ Aside0 (kq ≤ k1) ∧ Aside0 (Kd.S (Kd.slice 3 (Kd.int .i64)) 25 w' w.heap.size (fun k_ => some k_ ≠ (v105 : Value).ownBlock) (.slice (some ad107) t101.length co13) t101) ∧ Aside0 (Kd.R (Kd.int .i64) 3 w' w.heap.size (fun _ => True) v105 x4_2) ∧ Aside0 (Kd.C (Kd.int .i64) w' A107_0 (za1 t101 x15_1).length (za1 t101 x15_1)) ∧ Aside0 (Kd.R (Kd.int .i64) 3 w' w.heap.size (fun k_ => some k_ ≠ (v105 : Value).ownBlock) (.slice A107_0 (za1 t101 x15_1).length c107_0) (za1 t101 x15_1)) ∧ Aside0 (Below w.heap.size w w'))
 case atStart => exact ⟨(x4_1), (0), zq8, H', ⟨zlr _⟩, ⟨zq16 HO_3⟩, ⟨zq2 HO_4⟩, ⟨zq20 HR107_0⟩, ⟨zq72 HL107_0⟩, ⟨zq1⟩⟩
 clear H'
 obtain ⟨x4_2, x23_2, rfl, HA, HK2, HO_3, HO_4, HR107_0, HL107_0, HB⟩ := hrel
 cases gk with
 | zero => exact absurd HA.out (by simp [zcs])
 | succ k2 =>
 have H := HA.out
 clear HA
 simp only [zcs] at H
 revert H
 refine zit (fun c14 H => ?_) fun c14 H => ?_
 rotate_left
 · have H' := zA H
   clear H
   go_wp2
   go_roundg k2
   case measure => have := HK1.out; have := HK2.out; omega
   case rel => exact ⟨(x4_2), (wrap64 (x15_1 + 1)), zq8, H', ⟨zq48 HK1 HK2⟩, ⟨zq16 HO_3⟩, ⟨zq2 HO_4⟩, ⟨zq1⟩⟩
 revert H
 refine zin fun c15 H => ?_
 revert H
 refine zin fun c16 H => ?_
 by_cases c17 : (rd (za1 t101 x15_1) x23_2) ≥ 0
 rotate_left
 · rw [if_neg c17] at H
   have c17b0 := zdf c17
   clear c17
   have H' := zA H
   clear H
   have p108 : 0 ≤ (x23_2 : Int) := zde zq21
   have q108 : x23_2 < ((za1 t101 x15_1).length : Int) := zde zq21
   obtain ⟨ad108, e108, hx108_0⟩ := Kd.at_int HR107_0.out x23_2 p108 q108
   cases e108
   replace p108 := eq_true p108
   replace q108 := eq_true q108
   go_wp2
   go_roundg k2
   case measure => have := HK1.out; have := HK2.out; omega
   case rel => exact ⟨(x4_2), (wrap64 (x23_2 + 1)), zq8, H', ⟨zq48 HK1 HK2⟩, ⟨zq16 HO_3⟩, ⟨zq2 HO_4⟩, ⟨zq20 HR107_0⟩, ⟨zq2 HL107_0⟩, ⟨zq1⟩⟩
 rw [if_pos c17] at H
 have c17b0 := zdt c17
 clear c17
 revert H
 refine zin fun c18 H => ?_
 revert H
 refine zin fun c19 H => ?_
 revert H
 refine zin fun c20 H => ?_
 obtain ⟨ji21, hji21⟩ : ∃ j_ : Int, (mx (rd x4_2 x15_1) (wrap64 ((rd x4_2 x23_2) + (rd (za1 t101 x15_1) x23_2)))) = j_ := ⟨_, rfl⟩
 replace H : (zcs k2 t101 (x4_2.set (x15_1 : Int).toNat (ji21)) x15_1 (l0.length : Int) x15_1 (za1 t101 x15_1) ((za1 t101 x15_1).length : Int) (wrap64 (x23_2 + 1))) = some r := by first | (rw [hji21] at H; exact H) | (simp only [hji21] at H ⊢; exact H)
 have hji21_ : (if (rd x4_2 x15_1) < (wrap64 ((rd x4_2 x23_2) + (rd (za1 t101 x15_1) x23_2))) then (wrap64 ((rd x4_2 x23_2) + (rd (za1 t101 x15_1) x23_2))) else (rd x4_2 x15_1)) = ji21 := hji21
 obtain ⟨y111, hy111⟩ : ∃ y_ : List Int, y_ = (x4_2.set (x15_1 : Int).toNat (ji21)) := ⟨_, rfl⟩
 rw [← hy111] at H; try with_reducible replace H := zbs H
 have Ny111 := zA hy111
 clear hy111
 have H' := zA H
 clear H
 have p108 : 0 ≤ (x23_2 : Int) := zde zq21
 have q108 : x23_2 < ((za1 t101 x15_1).length : Int) := zde zq21
 obtain ⟨ad108, e108, hx108_0⟩ := Kd.at_int HR107_0.out x23_2 p108 q108
 cases e108
 replace p108 := eq_true p108
 replace q108 := eq_true q108
 try go_wp2
 replace HO_3 := zA (zSd HO_3.out)
 replace HO_4 := zA (zRd HO_4.out)
 replace HL107_0 := zA (zRd HL107_0.out)
 replace HR107_0 := zA (zCd HR107_0.out)
 replace HB := zA (zbd HB.out)
 obtain ⟨Ao24, co24, eo24⟩ := Kd.R_slice HO_4.out
 (first | subst eo24 | (injection eo24 with f1_ f2_ f3_; have f4_ := f1_.symm; have f5_ := f3_.symm; clear f1_ f2_ f3_; subst f4_; subst f5_))
 obtain ⟨p109, q109⟩ := zpq x15_1 x4_2.length
 obtain ⟨ad109, e109, hx109_0⟩ := Kd.at_int (zRr HO_4.out).2.2 x15_1 (zoe p109) (zoe q109)
 cases e109
 obtain ⟨p110, q110⟩ := zpq x23_2 x4_2.length
 obtain ⟨ad110, e110, hx110_0⟩ := Kd.at_int (zRr HO_4.out).2.2 x23_2 (zoe p110) (zoe q110)
 obtain rfl : ad109 = ad110 := (by injection e110)
 have p22 : 0 ≤ (x15_1 : Int) := zde zq21
 have q22 : (x15_1 : Int) < ((x4_2.length : Int) : Int) := zde zq21
 obtain ⟨go22, co22, eo22, gb22, gl22, cl22, HG22⟩ := Kd.R_form HO_4.out (by omega)
 (first | cases eo22 | (injection eo22 with ea_ en_ ec_; (first | subst ea_ | (injection ea_ with ea_; subst ea_)); subst ec_; clear en_))
 have GB22 := zA gb22
 have GG22 := zA HG22
 clear gb22 gl22 HG22
 (first | simp only [ze4] at hx109_0 | skip)
 (first | simp only [ze4] at hx110_0 | skip)
 obtain ⟨hx22_0, hf22_0⟩ := Kd.R_celln 0 HO_4.out (x15_1 : Int) p22 q22
 replace p22 := eq_true p22
 replace q22 := eq_true q22
 have HP25 := Kd.R_putn HO_4.out (x15_1 : Int) ji21
 rw [← Ny111.out] at HP25
 have HQ25 := zA HP25
 clear HP25
 refine zk4 (n := 15) (S := fun w' => w'.cell? ⟨go22, (x15_1).toNat, none⟩ = some (.int .i64 (rd x4_2 x15_1)) ∧ w'.cell? ⟨go22, (x23_2).toNat, none⟩ = some (.int .i64 (rd x4_2 x23_2))) (ds := [14]) #[false, false, false, false, false, false, false, false, false, false, false, false, false, false, false] zq27 rfl rfl ⟨hx109_0, hx110_0⟩ (fun hHeld => ?_); refine zia zp2 zpi (fun HT_ HW_ => ?_)
 generalize wr.drew = w23 at HO_3 HO_4 HL107_0 HR107_0 HB GG22 HQ25 hf22_0 hx109_0 hx110_0 hx22_0 hHeld ⊢
 refine zpu 0 30 HT_ ?_
 refine zpu 1 31 HT_ ?_
 refine zpu 2 32 HT_ ?_
 refine zpu 3 33 HT_ ?_
 refine zpu 4 34 HT_ ?_
 refine zpu 6 36 HT_ ?_
 refine zpu 7 37 HT_ ?_
 refine zpu 8 38 HT_ ?_
 refine zpu 10 40 HT_ ?_
 refine ztu 5 35 HT_ HW_ hHeld ?_
 refine ztu 9 39 HT_ HW_ hHeld ?_
 refine zpu 11 41 HT_ ?_
 refine zpu 12 42 HT_ ?_
 refine zpu 13 43 HT_ ?_
 refine zz1 (i := 14) (N := none) #[true, true, true, true, true, true, true, true, true, true, true, true, true, true, true] rfl rfl (zj2 HT_.out zq27) (by decide) (fun K hK => ?_)
 refine zsm (w1 := ?_) (by rfl) rfl ?_ ?_
 rotate_left
 · go_simp
   rfl
 refine hK.out _ _ ?_
 clear hK K
 refine zou (zlc HT_.out zq27) ?_
 try go_wp2
 go_roundg k2
 case measure => have := HK1.out; have := HK2.out; omega
 case rel => exact ⟨(y111), (wrap64 (x23_2 + 1)), zq8, H', ⟨zq48 HK1 HK2⟩, ⟨by (with_reducible repeat (first | apply zSa | apply zSn | apply zSd)); exact Kd.S_mono (Kd.S_far (p := ⟨go22, (x15_1 : Int).toNat, none⟩) (Kd.S_mono HO_3.out (fun k_ hk => (⟨hk, fun e_ => hk (by rw [e_]; rfl)⟩ : _ ∧ k_ ≠ go22))) (fun _ hk => hk.2) (.int .i64 ji21)) (fun _ hk => hk.1)⟩, ⟨zq2 HQ25⟩, ⟨(zRr (by (with_reducible repeat (first | apply zRa | apply zRn | apply zRd)); exact (Kd.R_mono (Kd.R_far (p := ⟨go22, (x15_1 : Int).toNat, none⟩) (Kd.R_mono HL107_0.out (fun k_ hk => (⟨hk, fun e_ => hk (by rw [e_]; rfl)⟩ : _ ∧ k_ ≠ go22))) (fun _ hk => hk.2) (.int .i64 ji21)) (fun _ h_ => h_.1)))).2.2⟩, ⟨by (with_reducible repeat (first | apply zRa | apply zRn | apply zRd)); exact Kd.R_mono (Kd.R_far (p := ⟨go22, (x15_1 : Int).toNat, none⟩) (Kd.R_mono HL107_0.out (fun k_ hk => (⟨hk, fun e_ => hk (by rw [e_]; rfl)⟩ : _ ∧ k_ ≠ go22))) (fun _ hk => hk.2) (.int .i64 ji21)) (fun _ hk => hk.1)⟩, ⟨zq10 GB22⟩⟩
def zdn (k : Nat) (l0 : List (S55)) : Option (Bool) := (zgw k l0).bind fun t101 => (if t101 = true then (some (decide ((l0.length : Int) ≤ 20))) else (some false))
theorem zb7 : ∀ a0 k, LeO (zdn k a0) (zdn (k + 1) a0) := by
 intro a0 k
 unfold zdn
 exact zm1 zn8
theorem za7 (k : Nat) (A0 : Option Addr) (c0 : Nat) (l0 : List (S55)) (r : Bool) (w : World) (hr0 : Kd.C k55 w A0 l0.length l0) (hc0 : l0.length ≤ c0) (h : zdn k l0 = some r) :
   Calls Tryz.prog 51 #[.slice A0 l0.length c0] w fun e w' => e = .returned (.bool r) ∧ Below w.heap.size w w' := by
 have HR0 := zA hr0
 have HC0 := zA hc0
 clear hr0 hc0
 have HB := zA (Below.refl w.heap.size w)
 have H := h
 unfold zdn at H
 clear h
 replace H := zob H
 obtain ⟨t101, A20, H⟩ := H
 have A2 := zA A20
 clear A20
 by_cases c3 : t101 = true
 · subst c3
   replace H := zih H
   obtain rfl := zsi H
   go_enter Tryz.func51, Tryz.ntmps51
   go_wp2_with (first | ((with_reducible refine zgc 55 ?_); refine zca 4 Tryz.func55 #[.slice A0 l0.length c0] (ziz k _ _ l0 true _ (zq17 HR0) HC0.out A2.out) ?_; rintro e w4 ⟨rfl, hb⟩; refine ⟨_, rfl, ?_⟩; replace HB := zA (zac zq1 hb); (try clear hb)))
   exact zr_3
 replace c3 := zbf c3
 subst c3
 replace H := zif H
 obtain rfl := zsi H
 go_enter Tryz.func51, Tryz.ntmps51
 go_wp2_with (first | ((with_reducible refine zgc 55 ?_); refine zca 4 Tryz.func55 #[.slice A0 l0.length c0] (ziz k _ _ l0 false _ (zq17 HR0) HC0.out A2.out) ?_; rintro e w5 ⟨rfl, hb⟩; refine ⟨_, rfl, ?_⟩; replace HB := zA (zac zq1 hb); (try clear hb)))
 exact zr_3
def zff (k : Nat) (l0 : List (S55)) : Option (List Int × Bool) := (zdn k l0).bind fun t101 => (if t101 = true then ((zfn k l0).bind fun t102 => (some (t102, true))) else (some (([] : List Int), false)))
theorem zv4 : ∀ a0 k, LeO (zff k a0) (zff (k + 1) a0) := by
 intro a0 k
 unfold zff
 exact zm2 zhe zb7
theorem zok (k : Nat) (A0 : Option Addr) (c0 : Nat) (l0 : List (S55)) (r1 : List Int) (r2 : Bool) (w : World) (hr0 : Kd.C k55 w A0 l0.length l0) (hc0 : l0.length ≤ c0) (h : zff k l0 = some (r1, r2)) :
   Calls Tryz.prog 33 #[.slice A0 l0.length c0] w fun e w' => ∃ v0_ : Value, e = .returned (.tuple #[v0_, .bool r2]) ∧ Kd.R (Kd.int .i64) 3 w' w.heap.size (fun _ => True) v0_ r1 ∧ Below w.heap.size w w' := by
 have HR0 := zA hr0
 have HC0 := zA hc0
 clear hr0 hc0
 have HB := zA (Below.refl w.heap.size w)
 have H := h
 unfold zff at H
 clear h
 replace H := zob H
 obtain ⟨t101, A20, H⟩ := H
 have A2 := zA A20
 clear A20
 by_cases c3 : t101 = true
 rotate_left
 · replace c3 := zbf c3
   subst c3
   replace H := zif H
   simp only [Option.some.injEq, Prod.mk.injEq] at H
   obtain ⟨rfl, rfl⟩ := H
   go_enter Tryz.func33, Tryz.ntmps33
   go_wp2_with (first | ((with_reducible refine zgc 51 ?_); refine zca 5 Tryz.func51 #[.slice A0 l0.length c0] (za7 k _ _ l0 false _ (zq17 HR0) HC0.out A2.out) ?_; rintro e w7 ⟨rfl, hb⟩; refine ⟨_, rfl, ?_⟩; replace HB := zA (zac zq1 hb); (try clear hb)))
   go_ret2
   exact ⟨_, zq5, zq24, zq1⟩
 subst c3
 replace H := zih H
 replace H := zob H
 obtain ⟨t102, A40, H⟩ := H
 have A4 := zA A40
 clear A40
 simp only [Option.some.injEq, Prod.mk.injEq] at H
 obtain ⟨rfl, rfl⟩ := H
 go_enter Tryz.func33, Tryz.ntmps33
 go_wp2_with (first | ((with_reducible refine zgc 51 ?_); refine zca 5 Tryz.func51 #[.slice A0 l0.length c0] (za7 k _ _ l0 true _ (zq17 HR0) HC0.out A2.out) ?_; rintro e w5 ⟨rfl, hb⟩; refine ⟨_, rfl, ?_⟩; replace HB := zA (zac zq1 hb); (try clear hb)) | ((with_reducible refine zgc 76 ?_); refine zca 8 Tryz.func76 #[.slice A0 l0.length c0] (zlx k _ _ l0 t102 _ (zq15 HR0) HC0.out A4.out) ?_; rintro e w6 ⟨v103, rfl, ho0, hb⟩; refine ⟨_, rfl, ?_⟩; have HO104 := zA (Kd.R_lower ho0 (zah zq1)); replace HB := zA (zac zq1 hb); (try clear hb); (try clear ho0)))
 go_ret2
 exact ⟨_, zq5, zq2 HO104, zq1⟩
def zhf (a0 : Int) : Option (Bool) := (zf4 a0 0 100).bind fun t101 => (some (!t101))
theorem zkh (a0 : Int) (r : Bool) (w : World) (h : zhf a0 = some r) :
   Calls Tryz.prog 118 #[.int .i64 a0] w fun e w' => e = .returned (.bool r) ∧ Drawn0 w w' := by
 have H := h
 unfold zhf at H
 clear h
 replace H := zob H
 obtain ⟨t101, A20, H⟩ := H
 have A2 := zA A20
 clear A20
 obtain rfl := zsi H
 go_enter Tryz.func118, Tryz.ntmps118
 go_wp2_with (first | ((with_reducible refine zgc 78 ?_); refine zcl 4 Tryz.func78 (zhp a0 0 100 t101 _ A2.out) ?_; rintro e w' ⟨rfl, ⟨nd, rfl⟩⟩; refine ⟨_, rfl, ?_⟩))
 exact zr_1
def zan : Nat → List Int → Int → Int → Option (Int)
 | 0, _, _, _ => none
 | k + 1, x0, x7, x8 => if x8 < x7 then (if 0 ≤ x8 then (if x8 < (x0.length : Int) then ((zhf (rd x0 x8)).bind fun t102 => (if t102 = true then (some x8) else (zan k x0 x7 (wrap64 (x8 + 1))))) else (none)) else (none)) else (some (-1))
def za3 (k : Nat) (l0 : List Int) : Option (Int) := zan k l0 (l0.length : Int) 0
theorem zf1 : ∀ k, (∀ y0 y1 y2, LeO (zan k y0 y1 y2) (zan (k + 1) y0 y1 y2))
 | 0 => fun _ _ _ r h => by simp [zan] at h
 | k + 1 => by
   have ih0 := zf1 k
   · intro y0 y1 y2
     unfold zan
     exact zm1 ih0
theorem zi1 : ∀ a0 k, LeO (za3 k a0) (za3 (k + 1) a0) := by
 intro a0 k
 have ih0 := zf1 k
 unfold za3
 exact zm1 ih0
theorem ziq (k : Nat) (A0 : Option Addr) (c0 : Nat) (l0 : List Int) (r : Int) (w : World) (hr0 : Kd.C (Kd.int .i64) w A0 l0.length l0) (hc0 : l0.length ≤ c0) (h : za3 k l0 = some r) :
   Calls Tryz.prog 122 #[.slice A0 l0.length c0, .func (Fn.func 118) #[] #[]] w fun e w' => e = .returned (.int .i64 r) ∧ Drawn0 w w' := by
 have HR0 := zA hr0
 have HC0 := zA hc0
 clear hr0 hc0
 have H := h
 unfold za3 at H
 clear h
 have H' := zA H
 clear H
 go_enter Tryz.func122, Tryz.ntmps122
 go_wp2
 go_loopg [8] k (fun kq v8 w' => ∃ (x8_1 : Int), v8 = .int .i64 x8_1 ∧ Aside0 (zan kq l0 (l0.length : Int) x8_1 = some r) ∧ Aside0 (kq ≤ k) ∧ Drawn0 w w')
 case atStart => exact ⟨(0), zq8, H', ⟨zlr _⟩, zq14⟩
 clear H'
 obtain ⟨x8_1, rfl, HA, HK1, ⟨m1, rfl⟩⟩ := hrel
 cases gk with
 | zero => exact absurd HA.out (by simp [zan])
 | succ k1 =>
 have H := HA.out
 clear HA
 simp only [zan] at H
 revert H
 refine zit (fun c2 H => ?_) fun c2 H => ?_
 rotate_left
 · obtain rfl := zsi H
   exact zr_5
 revert H
 refine zin fun c3 H => ?_
 revert H
 refine zin fun c4 H => ?_
 replace H := zob H
 obtain ⟨t102, A50, H⟩ := H
 have A5 := zA A50
 clear A50
 by_cases c6 : t102 = true
 · subst c6
   replace H := zih H
   obtain rfl := zsi H
   obtain ⟨p101, q101⟩ := zpq x8_1 l0.length
   obtain ⟨ad101, e101, hx101_0⟩ := Kd.at_int HR0.out x8_1 (zoe p101) (zoe q101)
   cases e101
   go_wp2_with (first | (go_at_call 118; (with_reducible refine (zkh (rd l0 x8_1) true _ A5.out).mono ?_); rintro e w' ⟨rfl, ⟨nd, rfl⟩⟩))
   exact zr_1
 replace c6 := zbf c6
 subst c6
 replace H := zif H
 have H' := zA H
 clear H
 obtain ⟨p101, q101⟩ := zpq x8_1 l0.length
 obtain ⟨ad101, e101, hx101_0⟩ := Kd.at_int HR0.out x8_1 (zoe p101) (zoe q101)
 cases e101
 go_wp2_with (first | (go_at_call 118; (with_reducible refine (zkh (rd l0 x8_1) false _ A5.out).mono ?_); rintro e w' ⟨rfl, ⟨nd, rfl⟩⟩))
 go_roundg k1
 case measure => have := HK1.out; omega
 case rel => exact ⟨(wrap64 (x8_1 + 1)), zq8, H', ⟨zq46 HK1⟩, zq14⟩
def za9 (k : Nat) (l0 : List Int) : Option (Bool) := (za3 k l0).bind fun t101 => (some (decide (t101 ≥ 0)))
theorem zic : ∀ a0 k, LeO (za9 k a0) (za9 (k + 1) a0) := by
 intro a0 k
 unfold za9
 exact zm1 zi1
theorem zh7 (k : Nat) (A0 : Option Addr) (c0 : Nat) (l0 : List Int) (r : Bool) (w : World) (hr0 : Kd.C (Kd.int .i64) w A0 l0.length l0) (hc0 : l0.length ≤ c0) (h : za9 k l0 = some r) :
   Calls Tryz.prog 80 #[.slice A0 l0.length c0, .func (Fn.func 118) #[] #[]] w fun e w' => e = .returned (.bool r) ∧ Drawn0 w w' := by
 have HR0 := zA hr0
 have HC0 := zA hc0
 clear hr0 hc0
 have H := h
 unfold za9 at H
 clear h
 replace H := zob H
 obtain ⟨t101, A20, H⟩ := H
 have A2 := zA A20
 clear A20
 obtain rfl := zsi H
 go_enter Tryz.func80, Tryz.ntmps80
 go_wp2_with (first | ((with_reducible refine zgc 122 ?_); refine zca 7 Tryz.func122 #[.slice A0 l0.length c0, .func (Fn.func 118) #[] #[]] (ziq k _ _ l0 t101 _ (zq17 HR0) HC0.out A2.out) ?_; rintro e w' ⟨rfl, ⟨nd, rfl⟩⟩; refine ⟨_, rfl, ?_⟩))
 exact zr_1
def ze5 (k : Nat) (l0 : List (S55)) (l1 : List Int) : Option (Bool) := (zdn k l0).bind fun t101 => (if t101 = true then (if (l1.length : Int) = (l0.length : Int) then ((za9 k l1).bind fun t102 => (some (!t102))) else (some false)) else (some false))
theorem zly : ∀ a0 a1 k, LeO (ze5 k a0 a1) (ze5 (k + 1) a0 a1) := by
 intro a0 a1 k
 unfold ze5
 exact zm2 zb7 zic
theorem zhn (k : Nat) (A0 : Option Addr) (c0 : Nat) (l0 : List (S55)) (A1 : Option Addr) (c1 : Nat) (l1 : List Int) (r : Bool) (w : World) (hr0 : Kd.C k55 w A0 l0.length l0) (hc0 : l0.length ≤ c0) (hr1 : Kd.C (Kd.int .i64) w A1 l1.length l1) (hc1 : l1.length ≤ c1) (h : ze5 k l0 l1 = some r) :
   Calls Tryz.prog 68 #[.slice A0 l0.length c0, .slice A1 l1.length c1] w fun e w' => e = .returned (.bool r) ∧ Below w.heap.size w w' := by
 have HR0 := zA hr0
 have HC0 := zA hc0
 clear hr0 hc0
 have HR1 := zA hr1
 have HC1 := zA hc1
 clear hr1 hc1
 have HB := zA (Below.refl w.heap.size w)
 have H := h
 unfold ze5 at H
 clear h
 replace H := zob H
 obtain ⟨t101, A30, H⟩ := H
 have A3 := zA A30
 clear A30
 by_cases c4 : t101 = true
 rotate_left
 · replace c4 := zbf c4
   subst c4
   replace H := zif H
   obtain rfl := zsi H
   go_enter Tryz.func68, Tryz.ntmps68
   go_wp2_with (first | ((with_reducible refine zgc 51 ?_); refine zca 6 Tryz.func51 #[.slice A0 l0.length c0] (za7 k _ _ l0 false _ (zq17 HR0) HC0.out A3.out) ?_; rintro e w9 ⟨rfl, hb⟩; refine ⟨_, rfl, ?_⟩; replace HB := zA (zac zq1 hb); (try clear hb)))
   exact zr_3
 subst c4
 replace H := zih H
 by_cases c5 : (l1.length : Int) = (l0.length : Int)
 rotate_left
 · rw [if_neg c5] at H
   obtain ⟨c5b0, c5b1⟩ := zbq c5
   have c5b2 : (l1.length == l0.length) = false := by first | simpa using c5 | (simp at c5 ⊢; omega)
   obtain rfl := zsi H
   go_enter Tryz.func68, Tryz.ntmps68
   go_wp2_with (first | ((with_reducible refine zgc 51 ?_); refine zca 6 Tryz.func51 #[.slice A0 l0.length c0] (za7 k _ _ l0 true _ (zq17 HR0) HC0.out A3.out) ?_; rintro e w8 ⟨rfl, hb⟩; refine ⟨_, rfl, ?_⟩; replace HB := zA (zac zq1 hb); (try clear hb)))
   exact zr_3
 rw [if_pos c5] at H
 obtain ⟨c5b0, c5b1⟩ := zbe c5
 have c5b2 : (l1.length == l0.length) = true := by first | simpa using c5 | (simp at c5 ⊢; omega)
 clear c5
 replace H := zob H
 obtain ⟨t102, A60, H⟩ := H
 have A6 := zA A60
 clear A60
 obtain rfl := zsi H
 go_enter Tryz.func68, Tryz.ntmps68
 go_wp2_with (first | ((with_reducible refine zgc 51 ?_); refine zca 6 Tryz.func51 #[.slice A0 l0.length c0] (za7 k _ _ l0 true _ (zq17 HR0) HC0.out A3.out) ?_; rintro e w7 ⟨rfl, hb⟩; refine ⟨_, rfl, ?_⟩; replace HB := zA (zac zq1 hb); (try clear hb)) | (go_at_call 80; (with_reducible refine (zh7 k _ _ l1 t102 _ ?side1 ?side2 A6.out).mono ?_); (case side1 => repeat (first | exact (zCb HR1.out HB.out) | (with_reducible first | refine zCa ?_ _ | refine zCn ?_ _ | refine zCd ?_))); (case side2 => exact HC1.out); rintro e w' ⟨rfl, ⟨nd, rfl⟩⟩))
 exact zr_3
def impl_IsSchedule.cnt (C : List Int) (x : Int) : Nat → Nat
 | 0 => 0
 | j + 1 => impl_IsSchedule.cnt C x j + (if rd C j = x then 1 else 0)
def zg8 (T : List (List Int)) (C : List Int) (n : Nat) : Bool :=
 decide (T.length = n ∧ n ≤ 1048576) && ((List.range n).all fun j : Nat => decide ((za1 T j).length = j) && (List.range j).all fun i : Nat => decide (-1000 ≤ rd (za1 T j) i ∧ rd (za1 T j) i ≤ 1000)) && (List.range n).all fun j : Nat => decide (0 ≤ rd C j ∧ rd C j ≤ 1000)
def zfc (T : List (List Int)) (C : List Int) (j i : Nat) : Bool := decide (0 ≤ rd (za1 T j) i) && decide (rd C j < rd C i + rd (za1 T j) i)
def zda (T : List (List Int)) (C : List Int) (wide : Int) (j : Nat) : Bool := decide ((impl_IsSchedule.cnt C (rd C j) j : Int) + 1 ≤ wide) && (List.range j).all fun i => !zfc T C j i
def zfg (k : Nat) (l0 : List (S55)) (a1 : Int) (l2 : List Int) : Option (Bool × Bool) :=
 (zdn k l0).bind fun b => if b = false then some (false, false) else
 (zea a1).bind fun q => if q = false then some (false, false) else
 if l2.length = l0.length then (ze5 k l0 l2).bind fun c => if c = false then some (false, true) else
   (zes k l0).bind fun T => if zg8 T l2 l0.length = true then some ((List.range l0.length).all (zda T l2 a1), true) else none
 else some (false, false)
theorem zv5 : ∀ a0 a1 a2 k, LeO (zfg k a0 a1 a2) (zfg (k + 1) a0 a1 a2) := by
 intro a0 a1 a2 k
 unfold zfg
 refine LeO.bind (zb7 _ _) (fun _ => zev (LeO.refl _) (LeO.bind (LeO.refl _) (fun _ => zev (LeO.refl _) (zev ?_ (LeO.refl _)))))
 exact LeO.bind (zly _ _ _) (fun _ => zev (LeO.refl _) (LeO.bind (zdv _ _) (fun _ => LeO.refl _)))
def impl_IsSchedule.holds (D : DataW Unit) (C : List Int) (j : Nat) : Prop := Maps.IsMap D ∧ ∀ x : Int, D.atKey (.int .i64 x) (.lit (.int .i64 0)) = .lit (.int .i64 (impl_IsSchedule.cnt C x j))
theorem zfy : Maps.Keyed Tryz.prog 3 := Maps.int_keyed Tryz.underlying3
theorem impl_IsSchedule.zero (w : World) : (zeroValue 3).run Tryz.prog w = .ok (.int .i64 0) w := by kernel_rfl
theorem zki (C : List Int) (x : Int) : ∀ j, impl_IsSchedule.cnt C x j ≤ j
 | 0 => zlr _
 | j + 1 => by
   have := zki C x j
   unfold impl_IsSchedule.cnt
   split <;> omega
theorem zjv (C : List Int) (j : Nat) : impl_IsSchedule.cnt C (rd C j) (j + 1) = impl_IsSchedule.cnt C (rd C j) j + 1 := by
 rw [impl_IsSchedule.cnt, if_pos rfl]
theorem zmz {j : Nat} {D : DataW Unit} {C : List Int} (h : impl_IsSchedule.holds D C j) (c : Int) (hc : c = (impl_IsSchedule.cnt C (rd C j) j : Int) + 1) :
   impl_IsSchedule.holds (D.put (.int .i64 (rd C j)) (.lit (.int .i64 c))) C (j + 1) := by
 refine ⟨h.1.put _ _, fun x => ?_⟩
 by_cases e : x = rd C j
 · subst e
   rw [Maps.atKey_put_same h.1 (show WideAt.IsKeyLit (.int .i64 (rd C j)) from trivial), zjv, hc]
   rfl
 · rw [Maps.atKey_put_other (by intro h'; injection h' with _ h''; exact e h''), h.2 x, impl_IsSchedule.cnt, if_neg (fun h' => e h'.symm)]
   rfl
theorem zjr {x : Int} (h0 : 0 ≤ x) (h1 : x ≤ 4611686018427387904) : (Lit.int .i64 x).wf = true := by
 have := wrap64_wf x
 rwa [show wrap64 x = x by unfold wrap64; omega] at this
theorem zgx {a b : Int} (h : (.lit (.int .i64 a) : DataW Unit) = .lit (.int .i64 b)) : a = b := by
 injection h with h
 injection h with _ h
theorem zod {T : List (List Int)} {C : List Int} {n : Nat} (h : zg8 T C n = true) : T.length = n ∧ n ≤ 1048576 ∧ (∀ j : Nat, j < n → (za1 T j).length = j ∧ ∀ i : Nat, i < j → -1000 ≤ rd (za1 T j) i ∧ rd (za1 T j) i ≤ 1000) ∧ ∀ j : Nat, j < n → 0 ≤ rd C j ∧ rd C j ≤ 1000 := by
 unfold zg8 at h
 simp only [Bool.and_eq_true, decide_eq_true_eq, List.all_eq_true, List.mem_range] at h
 obtain ⟨⟨⟨h1, h2⟩, h3⟩, h4⟩ := h
 exact ⟨h1, h2, fun j hj => h3 j hj, h4⟩
theorem zol (k : Nat) (A0 : Option Addr) (c0 : Nat) (l0 : List (S55)) (a1 : Int) (A2 : Option Addr) (c2 : Nat) (l2 : List Int) (r1 r2 : Bool) (w : World) (hr0 : Kd.C k55 w A0 l0.length l0) (hc0 : l0.length ≤ c0) (hr2 : Kd.C (Kd.int .i64) w A2 l2.length l2) (hc2 : l2.length ≤ c2) (h : zfg k l0 a1 l2 = some (r1, r2)) :
   Calls Tryz.prog 27 #[.slice A0 l0.length c0, .int .i64 a1, .slice A2 l2.length c2] w fun e w' => e = .returned (.tuple #[.bool r1, .bool r2]) ∧ Below w.heap.size w w' := by
 have HR0 := zA hr0
 have HC0 := zA hc0
 have HR2 := zA hr2
 have HC2 := zA hc2
 clear hr0 hc0 hr2 hc2
 unfold zfg at h
 replace h := Option.bind_eq_some_iff.1 h
 obtain ⟨b, hb, h⟩ := h
 have Hb := zA hb
 clear hb
 cases b with
 | false =>
   rw [if_pos rfl] at h
   obtain ⟨rfl, rfl⟩ := Prod.mk.inj (zsi h)
   clear h
   go_enter Tryz.func27, Tryz.ntmps27
   go_wp2_with fail
   (with_reducible refine (za7 k _ _ l0 false _ HR0.out HC0.out Hb.out).mono ?_)
   rintro e w1 ⟨rfl, hb⟩
   have HB := zA hb
   clear hb
   go_wp2_with fail
   go_ret2
   exact ⟨rfl, HB.out⟩
 | true =>
   rw [if_neg (by decide)] at h
   replace h := Option.bind_eq_some_iff.1 h
   obtain ⟨q, hq, h⟩ := h
   have Hq := zA hq
   clear hq
   cases q with
   | false =>
     rw [if_pos rfl] at h
     obtain ⟨rfl, rfl⟩ := Prod.mk.inj (zsi h)
     clear h
     go_enter Tryz.func27, Tryz.ntmps27
     go_wp2_with fail
     (with_reducible refine (za7 k _ _ l0 true _ HR0.out HC0.out Hb.out).mono ?_)
     rintro e w1 ⟨rfl, hb⟩
     have HB := zA hb
     clear hb
     go_wp2_with fail
     (with_reducible refine (zfe a1 false _ Hq.out).mono ?_)
     rintro e w2 ⟨rfl, ⟨nd, rfl⟩⟩
     go_wp2_with fail
     go_ret2
     exact ⟨rfl, zbn HB.out _⟩
   | true =>
     rw [if_neg (by decide)] at h
     by_cases hlen : l2.length = l0.length
     rotate_left
     · rw [if_neg hlen] at h
       obtain ⟨rfl, rfl⟩ := Prod.mk.inj (zsi h)
       clear h
       have g0 : ((l2.length : Int) == (l0.length : Int)) = false := beq_eq_false_iff_ne.mpr (by omega)
       have g1 : ((l2.length : Int) != (l0.length : Int)) = true := bne_iff_ne.mpr (by omega)
       have g2 : (l2.length == l0.length) = false := by simpa using hlen
       go_enter Tryz.func27, Tryz.ntmps27
       go_wp2_with fail
       (with_reducible refine (za7 k _ _ l0 true _ HR0.out HC0.out Hb.out).mono ?_)
       rintro e w1 ⟨rfl, hb⟩
       have HB := zA hb
       clear hb
       go_wp2_with fail
       (with_reducible refine (zfe a1 true _ Hq.out).mono ?_)
       rintro e w2 ⟨rfl, ⟨nd, rfl⟩⟩
       go_wp2_with fail
       go_ret2
       exact ⟨rfl, zbn HB.out _⟩
     rw [if_pos hlen] at h
     replace h := Option.bind_eq_some_iff.1 h
     obtain ⟨c, hc, h⟩ := h
     have Hc := zA hc
     clear hc
     have g0 : ((l2.length : Int) == (l0.length : Int)) = true := beq_iff_eq.mpr (by omega)
     have g1 : ((l2.length : Int) != (l0.length : Int)) = false := bne_eq_false_iff_eq.mpr (by omega)
     have g2 : (l2.length == l0.length) = true := by simpa using hlen
     have Hlen := zA hlen
     clear hlen
     cases c with
     | false =>
       rw [if_pos rfl] at h
       obtain ⟨rfl, rfl⟩ := Prod.mk.inj (zsi h)
       clear h
       go_enter Tryz.func27, Tryz.ntmps27
       go_wp2_with fail
       (with_reducible refine (za7 k _ _ l0 true _ HR0.out HC0.out Hb.out).mono ?_)
       rintro e w1 ⟨rfl, hb⟩
       have HB := zA hb
       clear hb
       go_wp2_with fail
       (with_reducible refine (zfe a1 true _ Hq.out).mono ?_)
       rintro e w2 ⟨rfl, ⟨nd, rfl⟩⟩
       go_wp2_with fail
       (with_reducible refine (zhn k _ _ l0 _ _ l2 false _ (zCb HR0.out (zbn HB.out _)) HC0.out (zCb HR2.out (zbn HB.out _)) HC2.out Hc.out).mono ?_)
       rintro e w3 ⟨rfl, hb⟩
       have HB3 := zA (zac (zbn HB.out nd) hb)
       clear hb HB
       go_wp2_with fail
       go_ret2
       exact ⟨rfl, HB3.out⟩
     | true =>
       rw [if_neg (by decide)] at h
       replace h := Option.bind_eq_some_iff.1 h
       obtain ⟨T, hT, h⟩ := h
       have HT := zA hT
       clear hT
       by_cases ok : zg8 T l2 l0.length = true
       rotate_left
       · rw [if_neg ok] at h
         cases h
       rw [if_pos ok] at h
       obtain ⟨hr, rfl⟩ := Prod.mk.inj (zsi h)
       obtain ⟨o1, o2, o3, o4⟩ := zod ok
       rw [← Hlen.out] at o1 o2 o3 o4 hr
       have O1 := zA o1
       have O3 := zA o3
       have O4 := zA o4
       have Hr := zA hr
       clear h ok o1 o3 o4 hr Hlen
       have hmm := @run_makeMap Tryz.prog
       go_enter Tryz.func27, Tryz.ntmps27
       go_wp2_with fail
       (with_reducible refine (za7 k _ _ l0 true _ HR0.out HC0.out Hb.out).mono ?_)
       rintro e w1 ⟨rfl, hb⟩
       have HB := zA hb
       clear hb
       go_wp2_with fail
       (with_reducible refine (zfe a1 true _ Hq.out).mono ?_)
       rintro e w2 ⟨rfl, ⟨nd, rfl⟩⟩
       go_wp2_with fail
       (with_reducible refine (zhn k _ _ l0 _ _ l2 true _ (zCb HR0.out (zbn HB.out _)) HC0.out (zCb HR2.out (zbn HB.out _)) HC2.out Hc.out).mono ?_)
       rintro e w3 ⟨rfl, hb⟩
       have HB3 := zA (zac (zbn HB.out nd) hb)
       clear hb HB
       go_wp2_with fail
       (with_reducible refine (zg4 k _ _ l0 T _ (zCb HR0.out HB3.out) HC0.out HT.out).mono ?_)
       rintro e wD ⟨v, rfl, ho, hb⟩
       obtain ⟨A8, c8, rfl, hl8, hC8⟩ := Kd.S_reads ho
       have HB := zA (zac HB3.out hb)
       have HC8 := zA hC8
       have HL8 := zA hl8
       clear hb ho hC8 hl8 HB3
       go_wp2_with fail
       go_loopw [38] (fun v38 wr => ∃ (j : Nat) (D : DataW Unit), v38 = .int .i64 (j : Int) ∧ j ≤ l2.length ∧ Aside0 (wr.ownsMap Tryz.prog 3 (plainElem Tryz.prog 3) wD.heap.size j D) ∧ Aside0 (impl_IsSchedule.holds D l2 j) ∧ Aside0 ((List.range' j (l2.length - j)).all (zda T l2 a1) = r1) ∧ Aside0 (Below wD.heap.size wD wr)) (fun v38 _ => l2.length - (intOf v38).toNat)
       case atStart =>
         refine ⟨0, .map [], rfl, Nat.zero_le _, ⟨World.ownsMap_made _ _ _ _⟩, ⟨Maps.isMap_empty, fun x => ?_⟩, ⟨by rw [Nat.sub_zero, ← List.range_eq_range']; exact Hr.out⟩, ⟨(Below.refl _ _).alloc (zlr _) _⟩⟩
         rfl
       clear Hr
       obtain ⟨j, D, rfl, hj, HO, HH, Hr, HD⟩ := hrel
       by_cases hlt : j < l2.length
       rotate_left
       · obtain rfl : j = l2.length := by omega
         have d1 : decide ((l2.length : Int) < (l2.length : Int)) = false := zdf (by omega)
         have hr := Hr.out
         rw [Nat.sub_self] at hr
         obtain rfl : true = r1 := hr
         clear Hr
         go_wp2_with fail
         go_ret2
         exact ⟨rfl, zhz HB.out HB.out.size HD.out⟩
       have d1 : decide ((j : Int) < (l2.length : Int)) = true := zdt (by omega)
       have d2 : decide (0 ≤ (j : Int)) = true := zdt (by omega)
       obtain ⟨x0, x1⟩ := O4.out j hlt
       obtain ⟨x, hx⟩ : ∃ x, rd l2 j = x := ⟨_, rfl⟩
       obtain ⟨ad2, e2, hx2⟩ := Kd.at_int (zCb HR2.out (zhz HB.out HB.out.size HD.out)) (j : Int) (by omega) (by omega)
       cases e2
       have hkey := Maps.keyOf_int_mk Tryz.underlying3 (zjr x0 (by omega))
       have hcnt := HH.out.2 (rd l2 j)
       have hcl := zki l2 (rd l2 j) j
       have hput := zmz HH.out _ rfl
       have hself := zjv l2 j
       have hpass : zda T l2 a1 j = (decide ((impl_IsSchedule.cnt l2 (rd l2 j) j : Int) + 1 ≤ a1) && (List.range j).all fun i => !zfc T l2 j i) := rfl
       have hall : (List.range' j (l2.length - j)).all (zda T l2 a1) = (zda T l2 a1 j && (List.range' (j + 1) (l2.length - (j + 1))).all (zda T l2 a1)) := by
         rw [show l2.length - j = (l2.length - (j + 1)) + 1 by omega, List.range'_succ, List.all_cons]
       rw [Hr.out, hpass] at hall
       rw [hx] at hx2 hkey hcnt hcl hput hself hall x0 x1
       obtain ⟨m, hm⟩ : ∃ m : Nat, impl_IsSchedule.cnt l2 x j = m := ⟨_, rfl⟩
       rw [hm] at hcnt hcl hput hself hall
       have HX := zA hx
       have HKEY := zA hkey
       have HCNT := zA hcnt
       have HPUT := zA hput
       have HSELF := zA hself
       have HALL := zA hall
       clear hx hkey hcnt hput hself hall hpass hm Hr
       rw [Int.toNat_natCast] at hx2
       have tok1 : True := trivial
       have hm1 : (m : Int) ≤ 1048576 := by omega
       have hm0 : 0 ≤ (m : Int) := by omega
       by_cases hw : (m : Int) + 1 ≤ a1
       rotate_left
       · have d3 : decide (a1 < (m : Int) + 1) = true := zdt (by omega)
         have hr : r1 = false := by
           have h1 := HALL.out
           rw [zdf hw, Bool.false_and, Bool.false_and] at h1
           exact h1
         clear HALL
         subst hr
         go_wp2_with (first | (at_lookup; have _t := tok1; refine wpList_lookup_own_int _ rfl _ _ 71 rfl 3 3 .i64 zfy Tryz.underlying71 Tryz.underlying3 (impl_IsSchedule.zero _) wD.heap.size j _ rfl HO.out _ _ rfl HKEY.out ?_; intro c hat _; obtain rfl : c = (m : Int) := zgx (hat.symm.trans HCNT.out); clear hat tok1 _t) | (at_mapUpdate; refine wpList_mapUpdate_own _ rfl _ _ _ 71 rfl 3 3 zfy Tryz.underlying71 _ wD.heap.size j _ rfl HO.out (by unfold maxLen; omega) _ _ _ rfl rfl HKEY.out _ [] (plainElem_int Tryz.underlying3 (zjr (x := (m : Int) + 1) (by omega) (by omega))) ?_; intro w1 hown1 hgrow1; have HO1 := zA hown1; have HD1 := zA (HD.out.grown hgrow1 HD.out.size (fun k hk => by cases hk; exact zlr _)); clear hown1 hgrow1 HO HD HH) | (at_lookup; refine wpList_lookup_own_int _ rfl _ _ 71 rfl 3 3 .i64 zfy Tryz.underlying71 Tryz.underlying3 (impl_IsSchedule.zero _) wD.heap.size (j + 1) _ rfl HO1.out _ _ rfl HKEY.out ?_; intro c hat _; obtain rfl : c = (m : Int) + 1 := (by have h_ := zgx (hat.symm.trans (HPUT.out.2 x)); rw [HSELF.out] at h_; omega); clear hat))
         go_ret2
         exact ⟨rfl, zhz HB.out HB.out.size HD1.out⟩
       have d3 : decide (a1 < (m : Int) + 1) = false := zdf (by omega)
       have d4 : decide ((j : Int) < (T.length : Int)) = true := zdt (zq46 O1)
       have hjT : j < T.length := by have := O1.out; omega
       have hRl := (O3.out j hlt).1
       have hRb := (O3.out j hlt).2
       have hbad : ∀ i : Nat, zfc T l2 j i = (decide (0 ≤ rd (za1 T j) i) && decide (rd l2 j < rd l2 i + rd (za1 T j) i)) := fun _ => rfl
       obtain ⟨R, hR0⟩ : ∃ R, za1 T (j : Int) = R := ⟨_, rfl⟩
       rw [hR0] at hRl hRb hbad
       rw [HX.out] at hbad
       have hR := zA hR0
       have HRL := zA hRl
       have HRB := zA hRb
       have HBAD := zA hbad
       clear hRl hRb hbad hR0
       go_wp2_with (first | (at_lookup; have _t := tok1; refine wpList_lookup_own_int _ rfl _ _ 71 rfl 3 3 .i64 zfy Tryz.underlying71 Tryz.underlying3 (impl_IsSchedule.zero _) wD.heap.size j _ rfl HO.out _ _ rfl HKEY.out ?_; intro c hat _; obtain rfl : c = (m : Int) := zgx (hat.symm.trans HCNT.out); clear hat tok1 _t) | (at_mapUpdate; refine wpList_mapUpdate_own _ rfl _ _ _ 71 rfl 3 3 zfy Tryz.underlying71 _ wD.heap.size j _ rfl HO.out (by unfold maxLen; omega) _ _ _ rfl rfl HKEY.out _ [] (plainElem_int Tryz.underlying3 (zjr (x := (m : Int) + 1) (by omega) (by omega))) ?_; intro w1 hown1 hgrow1; have HO1 := zA hown1; have HD1 := zA (HD.out.grown hgrow1 HD.out.size (fun k hk => by cases hk; exact zlr _)); clear hown1 hgrow1 HO HD HH) | (at_lookup; refine wpList_lookup_own_int _ rfl _ _ 71 rfl 3 3 .i64 zfy Tryz.underlying71 Tryz.underlying3 (impl_IsSchedule.zero _) wD.heap.size (j + 1) _ rfl HO1.out _ _ rfl HKEY.out ?_; intro c hat _; obtain rfl : c = (m : Int) + 1 := (by have h_ := zgx (hat.symm.trans (HPUT.out.2 x)); rw [HSELF.out] at h_; omega); clear hat; have HCX := zA (zCb HR2.out (zhz HB.out HB.out.size HD1.out)); obtain ⟨ad8, Aj, cj, e8, hx8, hlj, hCj⟩ := zkm (zCb HC8.out HD1.out) (j : Int) (by omega) (by have h_ := O1.out; omega); cases e8; rw [Int.toNat_natCast] at hx8; rw [hR.out] at hx8 hlj hCj; have HCJ := zA hCj; clear hCj hlj))
       go_loop [57] (fun v57 => ∃ i : Nat, v57 = .int .i64 (i : Int) ∧ i ≤ R.length ∧ Aside0 ((List.range i).all (fun i => !zfc T l2 j i) = true)) (fun v57 => R.length - (intOf v57).toNat)
       case atStart => exact ⟨0, rfl, Nat.zero_le _, ⟨rfl⟩⟩
       obtain ⟨i, rfl, hi, HI⟩ := hrel
       by_cases hil : i < R.length
       rotate_left
       · obtain rfl : i = R.length := by omega
         have d5 : decide ((R.length : Int) < (R.length : Int)) = false := zdf (by omega)
         go_wp2_with fail
         go_roundw
         case rel =>
           refine ⟨j + 1, _, by go_num, by omega, HO1, HPUT, ⟨?_⟩, HD1⟩
           have h1 := HALL.out
           have h2 := HI.out
           rw [HRL.out] at h2
           rw [h2, zdt hw, Bool.true_and, Bool.true_and] at h1
           exact h1.symm
         case measure => simp [intOf]; omega
       have hij : i < j := by have := HRL.out; omega
       have d5 : decide ((i : Int) < (R.length : Int)) = true := zdt (by omega)
       have d6 : decide (0 ≤ (i : Int)) = true := zdt (by omega)
       have d7 : decide ((i : Int) < (l2.length : Int)) = true := zdt (by omega)
       have hil2 : i < l2.length := by omega
       obtain ⟨adj, ej, hxj⟩ := Kd.at_int HCJ.out (i : Int) (by omega) (by omega)
       cases ej
       obtain ⟨ad9, e9, hxi⟩ := Kd.at_int HCX.out (i : Int) (by omega) (by omega)
       cases e9
       rw [Int.toNat_natCast] at hxj hxi
       have hb1 := HRB.out i hij
       have hb2 := O4.out i (by omega)
       have hb3 := HBAD.out i
       obtain ⟨d, hd⟩ : ∃ d, rd R (i : Int) = d := ⟨_, rfl⟩
       obtain ⟨y, hy⟩ : ∃ y, rd l2 (i : Int) = y := ⟨_, rfl⟩
       rw [hd] at hxj hb1 hb3
       rw [hy] at hxi hb2 hb3
       have HB3 := zA hb3
       clear hd hy hb3
       obtain ⟨b1, b2⟩ := hb1
       obtain ⟨b3, b4⟩ := hb2
       by_cases hd0 : 0 ≤ d
       rotate_left
       · have d8 : decide (0 ≤ d) = false := zdf hd0
         go_wp2_with fail
         go_round
         case rel =>
           refine ⟨i + 1, by go_num, by omega, ⟨?_⟩⟩
           rw [List.range_succ, List.all_append, HI.out, List.all_cons, List.all_nil, HB3.out, zdf hd0, Bool.false_and]
           rfl
         case measure => simp [intOf]; omega
       have d8 : decide (0 ≤ d) = true := zdt hd0
       by_cases hlt2 : x < y + d
       rotate_left
       · have d9 : decide (x < y + d) = false := zdf hlt2
         go_wp2_with fail
         go_round
         case rel =>
           refine ⟨i + 1, by go_num, by omega, ⟨?_⟩⟩
           rw [List.range_succ, List.all_append, HI.out, List.all_cons, List.all_nil, HB3.out, zdf hlt2, Bool.and_false]
           rfl
         case measure => simp [intOf]; omega
       have d9 : decide (x < y + d) = true := zdt hlt2
       have hr : r1 = false := by
         have h1 := HALL.out
         have h2 : ((List.range j).all fun i => !zfc T l2 j i) = false := by
           rw [List.all_eq_false]
           refine ⟨i, List.mem_range.2 hij, ?_⟩
           rw [HB3.out, zdt hd0, zdt hlt2]
           decide
         rw [h2] at h1
         simpa using h1
       clear HALL
       subst hr
       go_wp2_with fail
       go_ret2
       exact ⟨rfl, zhz HB.out HB.out.size HD1.out⟩
def zhs (a0 : Int) : Option (Bool) := some (decide (a0 < 0))
theorem zky (a0 : Int) (r : Bool) (w : World) (h : zhs a0 = some r) :
   Calls Tryz.prog 81 #[.int .i64 a0] w fun e w' => e = .returned (.bool r) ∧ Drawn0 w w' := by
 have H := h
 unfold zhs at H
 clear h
 obtain rfl := zsi H
 go_enter Tryz.func81, Tryz.ntmps81
 exact zr_5
def zao : Nat → List Int → Int → Int → Option (Int)
 | 0, _, _, _ => none
 | k + 1, x0, x7, x8 => if x8 < x7 then (if 0 ≤ x8 then (if x8 < (x0.length : Int) then ((zhs (rd x0 x8)).bind fun t102 => (if t102 = true then (some x8) else (zao k x0 x7 (wrap64 (x8 + 1))))) else (none)) else (none)) else (some (-1))
def zbc (k : Nat) (l0 : List Int) : Option (Int) := zao k l0 (l0.length : Int) 0
theorem zgf : ∀ k, (∀ y0 y1 y2, LeO (zao k y0 y1 y2) (zao (k + 1) y0 y1 y2))
 | 0 => fun _ _ _ r h => by simp [zao] at h
 | k + 1 => by
   have ih0 := zgf k
   · intro y0 y1 y2
     unfold zao
     exact zm1 ih0
theorem zi9 : ∀ a0 k, LeO (zbc k a0) (zbc (k + 1) a0) := by
 intro a0 k
 have ih0 := zgf k
 unfold zbc
 exact zm1 ih0
theorem zi2 (k : Nat) (A0 : Option Addr) (c0 : Nat) (l0 : List Int) (r : Int) (w : World) (hr0 : Kd.C (Kd.int .i64) w A0 l0.length l0) (hc0 : l0.length ≤ c0) (h : zbc k l0 = some r) :
   Calls Tryz.prog 122 #[.slice A0 l0.length c0, .func (Fn.func 81) #[] #[]] w fun e w' => e = .returned (.int .i64 r) ∧ Drawn0 w w' := by
 have HR0 := zA hr0
 have HC0 := zA hc0
 clear hr0 hc0
 have H := h
 unfold zbc at H
 clear h
 have H' := zA H
 clear H
 go_enter Tryz.func122, Tryz.ntmps122
 go_wp2
 go_loopg [8] k (fun kq v8 w' => ∃ (x8_1 : Int), v8 = .int .i64 x8_1 ∧ Aside0 (zao kq l0 (l0.length : Int) x8_1 = some r) ∧ Aside0 (kq ≤ k) ∧ Drawn0 w w')
 case atStart => exact ⟨(0), zq8, H', ⟨zlr _⟩, zq14⟩
 clear H'
 obtain ⟨x8_1, rfl, HA, HK1, ⟨m1, rfl⟩⟩ := hrel
 cases gk with
 | zero => exact absurd HA.out (by simp [zao])
 | succ k1 =>
 have H := HA.out
 clear HA
 simp only [zao] at H
 revert H
 refine zit (fun c2 H => ?_) fun c2 H => ?_
 rotate_left
 · obtain rfl := zsi H
   exact zr_5
 revert H
 refine zin fun c3 H => ?_
 revert H
 refine zin fun c4 H => ?_
 replace H := zob H
 obtain ⟨t102, A50, H⟩ := H
 have A5 := zA A50
 clear A50
 by_cases c6 : t102 = true
 · subst c6
   replace H := zih H
   obtain rfl := zsi H
   obtain ⟨p101, q101⟩ := zpq x8_1 l0.length
   obtain ⟨ad101, e101, hx101_0⟩ := Kd.at_int HR0.out x8_1 (zoe p101) (zoe q101)
   cases e101
   go_wp2_with (first | (go_at_call 81; (with_reducible refine (zky (rd l0 x8_1) true _ A5.out).mono ?_); rintro e w' ⟨rfl, ⟨nd, rfl⟩⟩))
   exact zr_1
 replace c6 := zbf c6
 subst c6
 replace H := zif H
 have H' := zA H
 clear H
 obtain ⟨p101, q101⟩ := zpq x8_1 l0.length
 obtain ⟨ad101, e101, hx101_0⟩ := Kd.at_int HR0.out x8_1 (zoe p101) (zoe q101)
 cases e101
 go_wp2_with (first | (go_at_call 81; (with_reducible refine (zky (rd l0 x8_1) false _ A5.out).mono ?_); rintro e w' ⟨rfl, ⟨nd, rfl⟩⟩))
 go_roundg k1
 case measure => have := HK1.out; omega
 case rel => exact ⟨(wrap64 (x8_1 + 1)), zq8, H', ⟨zq46 HK1⟩, zq14⟩
def za2 (k : Nat) (l0 : List Int) : Option (Bool) := (zbc k l0).bind fun t101 => (some (decide (t101 ≥ 0)))
theorem zf2 : ∀ a0 k, LeO (za2 k a0) (za2 (k + 1) a0) := by
 intro a0 k
 unfold za2
 exact zm1 zi9
theorem zfu (k : Nat) (A0 : Option Addr) (c0 : Nat) (l0 : List Int) (r : Bool) (w : World) (hr0 : Kd.C (Kd.int .i64) w A0 l0.length l0) (hc0 : l0.length ≤ c0) (h : za2 k l0 = some r) :
   Calls Tryz.prog 80 #[.slice A0 l0.length c0, .func (Fn.func 81) #[] #[]] w fun e w' => e = .returned (.bool r) ∧ Drawn0 w w' := by
 have HR0 := zA hr0
 have HC0 := zA hc0
 clear hr0 hc0
 have H := h
 unfold za2 at H
 clear h
 replace H := zob H
 obtain ⟨t101, A20, H⟩ := H
 have A2 := zA A20
 clear A20
 obtain rfl := zsi H
 go_enter Tryz.func80, Tryz.ntmps80
 go_wp2_with (first | ((with_reducible refine zgc 122 ?_); refine zca 7 Tryz.func122 #[.slice A0 l0.length c0, .func (Fn.func 81) #[] #[]] (zi2 k _ _ l0 t101 _ (zq17 HR0) HC0.out A2.out) ?_; rintro e w' ⟨rfl, ⟨nd, rfl⟩⟩; refine ⟨_, rfl, ?_⟩))
 exact zr_1
def zdd : Nat → List (S55) → Int → Bool → Option (List Int × Bool)
 | 0, _, _, _ => none
 | k + 1, x0, x1, x14 => if x14 = true then (some (([] : List Int), false)) else ((zfm k x0 x1).bind fun t103 => ((za2 k t103).bind fun t106 => (if t106 = true then (some (([] : List Int), false)) else (some (t103, true)))))
def zgg (k : Nat) (l0 : List (S55)) (a1 : Int) : Option (List Int × Bool) := (zdn k l0).bind fun t101 => (if t101 = true then ((zf4 a1 0 100).bind fun t102 => (zdd k l0 a1 (!t102))) else (zdd k l0 a1 true))
theorem zle : ∀ k, (∀ y0 y1 y2, LeO (zdd k y0 y1 y2) (zdd (k + 1) y0 y1 y2))
 | 0 => fun _ _ _ r h => by simp [zdd] at h
 | k + 1 => by
   have ih0 := zle k
   · intro y0 y1 y2
     unfold zdd
     exact zm4 ih0 zb7 zh6 zf2
theorem zw5 : ∀ a0 a1 k, LeO (zgg k a0 a1) (zgg (k + 1) a0 a1) := by
 intro a0 a1 k
 have ih0 := zle k
 unfold zgg
 exact zm4 ih0 zb7 zh6 zf2
theorem zpj (k : Nat) (A0 : Option Addr) (c0 : Nat) (l0 : List (S55)) (a1 : Int) (r1 : List Int) (r2 : Bool) (w : World) (hr0 : Kd.C k55 w A0 l0.length l0) (hc0 : l0.length ≤ c0) (h : zgg k l0 a1 = some (r1, r2)) :
   Calls Tryz.prog 34 #[.slice A0 l0.length c0, .int .i64 a1] w fun e w' => ∃ v0_ : Value, e = .returned (.tuple #[v0_, .bool r2]) ∧ Kd.R (Kd.int .i64) 3 w' w.heap.size (fun _ => True) v0_ r1 ∧ Below w.heap.size w w' := by
 have HR0 := zA hr0
 have HC0 := zA hc0
 clear hr0 hc0
 have HB := zA (Below.refl w.heap.size w)
 have H := h
 unfold zgg at H
 clear h
 have HC3 := zA H
 clear H
 go_enter Tryz.func34, Tryz.ntmps34
 go_upto_region 1 with (fail)
 go_cut [14] (fun v14 wc => ∃ (kq : Nat) (x14_2 : Bool), v14 = .bool x14_2 ∧ Aside0 (zdd kq l0 a1 x14_2 = some (r1, r2)) ∧ Aside0 (kq ≤ k) ∧ Aside0 (Below w.heap.size w wc))
 case first =>
   have H := HC3.out
   clear HC3
   replace H := zob H
   obtain ⟨t101, A40, H⟩ := H
   have A4 := zA A40
   clear A40
   by_cases c5 : t101 = true
   rotate_left
   · replace c5 := zbf c5
     subst c5
     replace H := zif H
     have H' := zA H
     clear H
     go_wp2_with (first | ((with_reducible refine zgc 51 ?_); refine zca 8 Tryz.func51 #[.slice A0 l0.length c0] (za7 k _ _ l0 false _ (zq15 HR0) HC0.out A4.out) ?_; rintro e w8 ⟨rfl, hb⟩; refine ⟨_, rfl, ?_⟩; replace HB := zA (zac zq1 hb); (try clear hb)))
     go_meet
     case rel => exact ⟨_, (true), zq8, H', ⟨zq38⟩, ⟨zq1⟩⟩
   subst c5
   replace H := zih H
   replace H := zob H
   obtain ⟨t102, A60, H⟩ := H
   have A6 := zA A60
   clear A60
   have H' := zA H
   clear H
   go_wp2_with (first | ((with_reducible refine zgc 51 ?_); refine zca 8 Tryz.func51 #[.slice A0 l0.length c0] (za7 k _ _ l0 true _ (zq15 HR0) HC0.out A4.out) ?_; rintro e w7 ⟨rfl, hb⟩; refine ⟨_, rfl, ?_⟩; replace HB := zA (zac zq1 hb); (try clear hb)) | (go_at_call 78; (with_reducible refine (zhp a1 0 100 t102 _ A6.out).mono ?_); rintro e w' ⟨rfl, ⟨nd, rfl⟩⟩))
   go_meet
   case rel => exact ⟨_, (!t102), zq8, H', ⟨zq38⟩, ⟨zq1⟩⟩
 clear HC3
 obtain ⟨kq, x14_2, rfl, HA, HJ2, HB⟩ := hcut
 cases kq with
 | zero => exact absurd HA.out (by simp [zdd])
 | succ kj2 =>
 have H := HA.out
 clear HA
 simp only [zdd] at H
 by_cases c9 : x14_2 = true
 · subst c9
   replace H := zih H
   simp only [Option.some.injEq, Prod.mk.injEq] at H
   obtain ⟨rfl, rfl⟩ := H
   go_wp2
   go_ret2
   exact ⟨_, zq5, zq24, zq1⟩
 replace c9 := zbf c9
 subst c9
 replace H := zif H
 replace H := zob H
 obtain ⟨t103, A100, H⟩ := H
 have A10 := zA A100
 clear A100
 replace H := zob H
 obtain ⟨t106, A110, H⟩ := H
 have A11 := zA A110
 clear A110
 by_cases c12 : t106 = true
 · subst c12
   replace H := zih H
   simp only [Option.some.injEq, Prod.mk.injEq] at H
   obtain ⟨rfl, rfl⟩ := H
   go_wp2_with (first | ((with_reducible refine zgc 79 ?_); refine zca 17 Tryz.func79 #[.slice A0 l0.length c0, .int .i64 a1] (zi0 kj2 _ _ l0 a1 t103 _ (zq15 HR0) HC0.out A10.out) ?_; rintro e w13 ⟨v104, rfl, ho0, hb⟩; refine ⟨_, rfl, ?_⟩; have HO105 := zA (Kd.R_lower ho0 (zah zq1)); replace HB := zA (zac zq1 hb); (try clear hb); (try clear ho0); obtain ⟨Ao14, co14, eo14⟩ := Kd.R_slice HO105.out; subst eo14) | ((with_reducible refine zgc 80 ?_); refine zca 19 Tryz.func80 #[.slice Ao14 t103.length co14, .func (Fn.func 81) #[] #[]] (zfu kj2 _ _ t103 true _ (zq18 HO105) (zq43 HO105) A11.out) ?_; rintro e w' ⟨rfl, ⟨nd, rfl⟩⟩; refine ⟨_, rfl, ?_⟩))
   go_ret2
   exact ⟨_, zq5, zq24, zq1⟩
 replace c12 := zbf c12
 subst c12
 replace H := zif H
 simp only [Option.some.injEq, Prod.mk.injEq] at H
 obtain ⟨rfl, rfl⟩ := H
 go_wp2_with (first | ((with_reducible refine zgc 79 ?_); refine zca 17 Tryz.func79 #[.slice A0 l0.length c0, .int .i64 a1] (zi0 kj2 _ _ l0 a1 t103 _ (zq15 HR0) HC0.out A10.out) ?_; rintro e w15 ⟨v104, rfl, ho0, hb⟩; refine ⟨_, rfl, ?_⟩; have HO105 := zA (Kd.R_lower ho0 (zah zq1)); replace HB := zA (zac zq1 hb); (try clear hb); (try clear ho0); obtain ⟨Ao16, co16, eo16⟩ := Kd.R_slice HO105.out; subst eo16) | ((with_reducible refine zgc 80 ?_); refine zca 19 Tryz.func80 #[.slice Ao16 t103.length co16, .func (Fn.func 81) #[] #[]] (zfu kj2 _ _ t103 false _ (zq18 HO105) (zq43 HO105) A11.out) ?_; rintro e w' ⟨rfl, ⟨nd, rfl⟩⟩; refine ⟨_, rfl, ?_⟩))
 go_ret2
 exact ⟨_, zq5, zq2 HO105, zq1⟩
def zcy : Nat → List Int → Int → List (S55) → Int → Int → Option (Int)
 | 0, _, _, _, _, _ => none
 | k + 1, x1, x5, x8, x9, x10 => if x10 < x9 then (if 0 ≤ x10 then (if x10 < (x8.length : Int) then (if x10 < (x1.length : Int) then ((zdx ((zaa x8 x10).f0) ((zaa x8 x10).f1) ((zaa x8 x10).f2) ((zaa x8 x10).f3) ((zaa x8 x10).f4)).bind fun t104 => (zcy k x1 (mx x5 (wrap64 ((rd x1 x10) + t104))) x8 x9 (wrap64 (x10 + 1)))) else (none)) else (none)) else (none)) else (some x5)
def zfo (k : Nat) (l0 : List (S55)) (l1 : List Int) : Option (Int) := zcy k l1 0 l0 (l0.length : Int) 0
theorem zlf : ∀ k, (∀ y0 y1 y2 y3 y4, LeO (zcy k y0 y1 y2 y3 y4) (zcy (k + 1) y0 y1 y2 y3 y4))
 | 0 => fun _ _ _ _ _ r h => by simp [zcy] at h
 | k + 1 => by
   have ih0 := zlf k
   · intro y0 y1 y2 y3 y4
     unfold zcy
     exact zm1 ih0
theorem zmj : ∀ a0 a1 k, LeO (zfo k a0 a1) (zfo (k + 1) a0 a1) := by
 intro a0 a1 k
 have ih0 := zlf k
 unfold zfo
 exact zm1 ih0
def impl_lengthOf.T5 : Bool × List (List Nat × List Nat) := (true, [([], []), ([], []), ([], []), ([1, 2], [1, 2]), ([3], [3]), ([], []), ([5], [5]), ([4, 6], [4, 6]), ([0, 7], [0, 7]), ([8, 6, 0, 1, 2, 3, 4, 5, 6, 7, 8], [0, 8])])
def zrl : List Nat := [0, 0, 0, 6, 14, 0, 32, 126, 255, 511]
theorem zp3 : rtab .any (zuf Tryz.f73 5) = impl_lengthOf.T5 := by kernel_rfl
theorem zpl : zke impl_lengthOf.T5.2 zrl = true := by kernel_rfl
theorem zlz (k : Nat) (A0 : Option Addr) (c0 : Nat) (l0 : List (S55)) (A1 : Option Addr) (c1 : Nat) (l1 : List Int) (r : Int) (w : World) (hr0 : Kd.C k55 w A0 l0.length l0) (hc0 : l0.length ≤ c0) (hr1 : Kd.C (Kd.int .i64) w A1 l1.length l1) (hc1 : l1.length ≤ c1) (h : zfo k l0 l1 = some r) :
   Calls Tryz.prog 73 #[.slice A0 l0.length c0, .slice A1 l1.length c1] w fun e w' => e = .returned (.int .i64 r) ∧ Below w.heap.size w w' := by
 have hu55 := Tryz.underlying55
 have HR0 := zA hr0
 have HC0 := zA hc0
 clear hr0 hc0
 have HR1 := zA hr1
 have HC1 := zA hc1
 clear hr1 hc1
 have HB := zA (Below.refl w.heap.size w)
 have H := h
 unfold zfo at H
 clear h
 have H' := zA H
 clear H
 go_enter Tryz.func73, Tryz.ntmps73
 go_wp2
 go_loopg [5, 10] k (fun kq v5 v10 w' => ∃ (x5_1 : Int) (x10_1 : Int), v5 = .int .i64 x5_1 ∧ v10 = .int .i64 x10_1 ∧ Aside0 (zcy kq l1 x5_1 l0 (l0.length : Int) x10_1 = some r) ∧ Aside0 (kq ≤ k) ∧ Aside0 (Below w.heap.size w w'))
 case atStart => exact ⟨(0), (0), zq8, zq8, H', ⟨zlr _⟩, ⟨zq1⟩⟩
 clear H'
 obtain ⟨x5_1, x10_1, rfl, rfl, HA, HK1, HB⟩ := hrel
 cases gk with
 | zero => exact absurd HA.out (by simp [zcy])
 | succ k1 =>
 have H := HA.out
 clear HA
 simp only [zcy] at H
 revert H
 refine zit (fun c3 H => ?_) fun c3 H => ?_
 rotate_left
 · obtain rfl := zsi H
   go_wp2
   exact zr_3
 revert H
 refine zin fun c4 H => ?_
 revert H
 refine zin fun c5 H => ?_
 revert H
 refine zin fun c6 H => ?_
 replace H := zob H
 obtain ⟨t104, A70, H⟩ := H
 have A7 := zA A70
 clear A70
 obtain ⟨ji8, hji8⟩ : ∃ j_ : Int, (mx x5_1 (wrap64 ((rd l1 x10_1) + t104))) = j_ := ⟨_, rfl⟩
 replace H : (zcy k1 l1 ji8 l0 (l0.length : Int) (wrap64 (x10_1 + 1))) = some r := by first | (rw [hji8] at H; exact H) | (simp only [hji8] at H ⊢; exact H)
 (try rw [hji8] at A7)
 have hji8_ : (if x5_1 < (wrap64 ((rd l1 x10_1) + t104)) then (wrap64 ((rd l1 x10_1) + t104)) else x5_1) = ji8 := hji8
 have H' := zA H
 clear H
 obtain ⟨p101, q101⟩ := zpq x10_1 l0.length
 obtain ⟨ad101, e101, hx101_0, hx101_1, hx101_2, hx101_3, hx101_4⟩ := zi7 HR0.out x10_1 (zoe p101) (zoe q101)
 cases e101
 replace hx101_0 := zkep HB.out hx101_0
 replace hx101_1 := zkep HB.out hx101_1
 replace hx101_2 := zkep HB.out hx101_2
 replace hx101_3 := zkep HB.out hx101_3
 replace hx101_4 := zkep HB.out hx101_4
 try go_wp2_with (first | ((with_reducible refine zgd 7 ?_); refine zbh zq1 #[.string (⟨#[]⟩ : ByteArray), .int .i64 0, .int .i64 0, .int .i64 0, .int .i64 0] 55 ?_; clear HB; intro gb102 w9 HB BK102 GW102; have GE102 := GW102; obtain ⟨hcz10_0, hcz10_1, hcz10_2, hcz10_3, hcz10_4, hfz10_0, hfz10_1, hfz10_2, hfz10_3, hfz10_4⟩ := zd5 BK102))
 have n0_ : Aside0 ((((((w9.setCell ⟨gb102, 0, none⟩ (.string ((zaa l0 x10_1).f0))).setCell ⟨gb102, 1, none⟩ (.int .i64 ((zaa l0 x10_1).f1))).setCell ⟨gb102, 2, none⟩ (.int .i64 ((zaa l0 x10_1).f2))).setCell ⟨gb102, 3, none⟩ (.int .i64 ((zaa l0 x10_1).f3))).setCell ⟨gb102, 4, none⟩ (.int .i64 ((zaa l0 x10_1).f4))).heap[gb102]? = some (.cells #[.string ((zaa l0 x10_1).f0), .int .i64 ((zaa l0 x10_1).f1), .int .i64 ((zaa l0 x10_1).f2), .int .i64 ((zaa l0 x10_1).f3), .int .i64 ((zaa l0 x10_1).f4)] 55 (0, 0))) := ⟨zq19 BK102⟩
 have n1_ : Aside0 (Below w.heap.size w (((((w9.setCell ⟨gb102, 0, none⟩ (.string ((zaa l0 x10_1).f0))).setCell ⟨gb102, 1, none⟩ (.int .i64 ((zaa l0 x10_1).f1))).setCell ⟨gb102, 2, none⟩ (.int .i64 ((zaa l0 x10_1).f2))).setCell ⟨gb102, 3, none⟩ (.int .i64 ((zaa l0 x10_1).f3))).setCell ⟨gb102, 4, none⟩ (.int .i64 ((zaa l0 x10_1).f4)))) := ⟨zq10 GE102⟩
 (try clear BK102)
 (try clear HB)
 generalize (((((w9.setCell ⟨gb102, 0, none⟩ (.string ((zaa l0 x10_1).f0))).setCell ⟨gb102, 1, none⟩ (.int .i64 ((zaa l0 x10_1).f1))).setCell ⟨gb102, 2, none⟩ (.int .i64 ((zaa l0 x10_1).f2))).setCell ⟨gb102, 3, none⟩ (.int .i64 ((zaa l0 x10_1).f3))).setCell ⟨gb102, 4, none⟩ (.int .i64 ((zaa l0 x10_1).f4))) = w11 at n0_ n1_ ⊢
 have BK102 := n0_
 have HB := n1_
 clear n0_ n1_
 replace BK102 := zA (zkd BK102.out)
 replace HB := zA (zbd HB.out)
 obtain ⟨p103, q103⟩ := zpq x10_1 l1.length
 obtain ⟨ad103, e103, hx103_0⟩ := Kd.at_int HR1.out x10_1 (zoe p103) (zoe q103)
 have hw103_0 := hx103_0
 cases e103
 replace hx103_0 := zkep HB.out hx103_0
 refine zk4 (n := 10) (S := fun w' => w'.cell? ⟨gb102, 0, none⟩ = some (.string ((zaa l0 x10_1).f0)) ∧ w'.cell? ⟨gb102, 1, none⟩ = some (.int .i64 ((zaa l0 x10_1).f1)) ∧ w'.cell? ⟨gb102, 2, none⟩ = some (.int .i64 ((zaa l0 x10_1).f2)) ∧ w'.cell? ⟨gb102, 3, none⟩ = some (.int .i64 ((zaa l0 x10_1).f3)) ∧ w'.cell? ⟨gb102, 4, none⟩ = some (.int .i64 ((zaa l0 x10_1).f4)) ∧ w'.cell? (ad103.add (x10_1).toNat) = some (.int .i64 (rd l1 x10_1))) (ds := []) #[false, false, false, false, false, false, false, false, false, false] zq27 rfl rfl ⟨(zab BK102.out 0).trans rfl, (zab BK102.out 1).trans rfl, (zab BK102.out 2).trans rfl, (zab BK102.out 3).trans rfl, (zab BK102.out 4).trans rfl, (zkep HB.out hw103_0)⟩ (fun hHeld => ?_); refine zia zp3 zpl (fun HT_ HW_ => ?_)
 generalize w11.drew = w12 at BK102 HB hx103_0 hHeld ⊢
 refine zpu 0 15 HT_ ?_
 refine zpu 1 16 HT_ ?_
 refine zpu 2 17 HT_ ?_
 refine zpu 3 18 HT_ ?_
 refine ztu 4 19 HT_ HW_ hHeld ?_
 refine ztu 5 20 HT_ HW_ hHeld ?_
 refine one_ (i := 6) (N := some 21) #[true, true, true, true, true, true, true, false, false, false] rfl rfl (zj2 HT_.out zq27) (by decide) (fun K hK => ?_)
 refine zgo Tryz.func77 (zhd ((zaa l0 x10_1).f0) ((zaa l0 x10_1).f1) ((zaa l0 x10_1).f2) ((zaa l0 x10_1).f3) ((zaa l0 x10_1).f4) t104 _ A7.out) ?_
 rintro e w13 ⟨rfl, hb⟩
 refine ⟨_, rfl, ?_⟩
 replace BK102 := zA (zag (g := gb102) (o := .cells #[.string ((zaa l0 x10_1).f0), .int .i64 ((zaa l0 x10_1).f1), .int .i64 ((zaa l0 x10_1).f2), .int .i64 ((zaa l0 x10_1).f3), .int .i64 ((zaa l0 x10_1).f4)] 55 (0, 0)) (zq4 BK102) hb)
 replace HB := zA (zac (zq10 GE102) hb)
 (try clear hb)
 (try clear hb2)
 (try clear hk)
 (try clear hi)
 refine hK.out _ _ ⟨(zab BK102.out 0).trans rfl, (zab BK102.out 1).trans rfl, (zab BK102.out 2).trans rfl, (zab BK102.out 3).trans rfl, (zab BK102.out 4).trans rfl, (zkep HB.out hw103_0)⟩ (fun hHeld => ?_)
 clear hK K
 refine znm 21 ?_
 refine zpu 7 22 HT_ ?_
 refine zpu 8 23 HT_ ?_
 refine zpu 9 5 HT_ ?_
 refine zou (zlc HT_.out zq27) ?_
 try go_wp2
 go_roundg k1
 case measure => have := HK1.out; omega
 case rel => exact ⟨(ji8), (wrap64 (x10_1 + 1)), (by first | rfl | (simp; done) | (simp only [← hji8] <;> (first | rfl | simp)) | (simp [*]; done)), zq8, H', ⟨zq46 HK1⟩, ⟨zq10 GE102⟩⟩
def zeb (k : Nat) (l0 : List (S55)) (a1 : Int) : Option (Int × Bool) := (zds k l0 a1).bind fun bt101 => (if bt101.2 = true then ((zfo k l0 bt101.1).bind fun t105 => (some (t105, true))) else (some (0, false)))
theorem zu2 : ∀ a0 a1 k, LeO (zeb k a0 a1) (zeb (k + 1) a0 a1) := by
 intro a0 a1 k
 unfold zeb
 exact zm2 zoc zmj
theorem zkj (k : Nat) (A0 : Option Addr) (c0 : Nat) (l0 : List (S55)) (a1 : Int) (r1 : Int) (r2 : Bool) (w : World) (hr0 : Kd.C k55 w A0 l0.length l0) (hc0 : l0.length ≤ c0) (h : zeb k l0 a1 = some (r1, r2)) :
   Calls Tryz.prog 45 #[.slice A0 l0.length c0, .int .i64 a1] w fun e w' => e = .returned (.tuple #[.int .i64 r1, .bool r2]) ∧ Below w.heap.size w w' := by
 have HR0 := zA hr0
 have HC0 := zA hc0
 clear hr0 hc0
 have HB := zA (Below.refl w.heap.size w)
 have H := h
 unfold zeb at H
 clear h
 replace H := zob H
 obtain ⟨⟨t101, t102⟩, A30, H⟩ := H
 have A3 := zA A30
 clear A30
 by_cases c4 : t102 = true
 rotate_left
 · replace c4 := zbf c4
   subst c4
   replace H := zif H
   simp only [Option.some.injEq, Prod.mk.injEq] at H
   obtain ⟨rfl, rfl⟩ := H
   go_enter Tryz.func45, Tryz.ntmps45
   go_wp2_with (first | ((with_reducible refine zgc 43 ?_); refine zca 11 Tryz.func43 #[.slice A0 l0.length c0, .int .i64 a1] (zh0 k _ _ l0 a1 t101 false _ (zq17 HR0) HC0.out A3.out) ?_; rintro e w9 ⟨v103, rfl, ho0, hb⟩; refine ⟨_, rfl, ?_⟩; have HO104 := zA (Kd.R_lower ho0 (zah zq1)); replace HB := zA (zac zq1 hb); (try clear hb); (try clear ho0)))
   go_ret2
   exact ⟨zq5, zq1⟩
 subst c4
 replace H := zih H
 replace H := zob H
 obtain ⟨t105, A50, H⟩ := H
 have A5 := zA A50
 clear A50
 simp only [Option.some.injEq, Prod.mk.injEq] at H
 obtain ⟨rfl, rfl⟩ := H
 go_enter Tryz.func45, Tryz.ntmps45
 go_wp2_with (first | ((with_reducible refine zgc 43 ?_); refine zca 11 Tryz.func43 #[.slice A0 l0.length c0, .int .i64 a1] (zh0 k _ _ l0 a1 t101 true _ (zq17 HR0) HC0.out A3.out) ?_; rintro e w6 ⟨v103, rfl, ho0, hb⟩; refine ⟨_, rfl, ?_⟩; have HO104 := zA (Kd.R_lower ho0 (zah zq1)); replace HB := zA (zac zq1 hb); (try clear hb); (try clear ho0); obtain ⟨Ao7, co7, eo7⟩ := Kd.R_slice HO104.out; subst eo7) | ((with_reducible refine zgc 73 ?_); refine zca 18 Tryz.func73 #[.slice A0 l0.length c0, .slice Ao7 t101.length co7] (zlz k _ _ l0 _ _ t101 t105 _ (zq15 HR0) HC0.out (zq18 HO104) (zq43 HO104) A5.out) ?_; rintro e w8 ⟨rfl, hb⟩; refine ⟨_, rfl, ?_⟩; replace HO104 := zA (zRb (zq2 HO104) hb); replace HB := zA (zac zq1 hb); (try clear hb)))
 go_ret2
 exact ⟨zq5, zq1⟩
def zfp (k : Nat) (l0 : List (S55)) (l1 : List Int) : Option (Int × Bool) := (ze5 k l0 l1).bind fun t101 => (if t101 = true then ((zfo k l0 l1).bind fun t102 => (some (t102, true))) else (some (0, false)))
theorem zw6 : ∀ a0 a1 k, LeO (zfp k a0 a1) (zfp (k + 1) a0 a1) := by
 intro a0 a1 k
 unfold zfp
 exact zm2 zly zmj
theorem zl0 (k : Nat) (A0 : Option Addr) (c0 : Nat) (l0 : List (S55)) (A1 : Option Addr) (c1 : Nat) (l1 : List Int) (r1 : Int) (r2 : Bool) (w : World) (hr0 : Kd.C k55 w A0 l0.length l0) (hc0 : l0.length ≤ c0) (hr1 : Kd.C (Kd.int .i64) w A1 l1.length l1) (hc1 : l1.length ≤ c1) (h : zfp k l0 l1 = some (r1, r2)) :
   Calls Tryz.prog 30 #[.slice A0 l0.length c0, .slice A1 l1.length c1] w fun e w' => e = .returned (.tuple #[.int .i64 r1, .bool r2]) ∧ Below w.heap.size w w' := by
 have HR0 := zA hr0
 have HC0 := zA hc0
 clear hr0 hc0
 have HR1 := zA hr1
 have HC1 := zA hc1
 clear hr1 hc1
 have HB := zA (Below.refl w.heap.size w)
 have H := h
 unfold zfp at H
 clear h
 replace H := zob H
 obtain ⟨t101, A30, H⟩ := H
 have A3 := zA A30
 clear A30
 by_cases c4 : t101 = true
 rotate_left
 · replace c4 := zbf c4
   subst c4
   replace H := zif H
   simp only [Option.some.injEq, Prod.mk.injEq] at H
   obtain ⟨rfl, rfl⟩ := H
   go_enter Tryz.func30, Tryz.ntmps30
   go_wp2_with (first | ((with_reducible refine zgc 68 ?_); refine zca 8 Tryz.func68 #[.slice A0 l0.length c0, .slice A1 l1.length c1] (zhn k _ _ l0 _ _ l1 false _ (zq17 HR0) HC0.out (zq17 HR1) HC1.out A3.out) ?_; rintro e w8 ⟨rfl, hb⟩; refine ⟨_, rfl, ?_⟩; replace HB := zA (zac zq1 hb); (try clear hb)))
   go_ret2
   exact ⟨zq5, zq1⟩
 subst c4
 replace H := zih H
 replace H := zob H
 obtain ⟨t102, A50, H⟩ := H
 have A5 := zA A50
 clear A50
 simp only [Option.some.injEq, Prod.mk.injEq] at H
 obtain ⟨rfl, rfl⟩ := H
 go_enter Tryz.func30, Tryz.ntmps30
 go_wp2_with (first | ((with_reducible refine zgc 68 ?_); refine zca 8 Tryz.func68 #[.slice A0 l0.length c0, .slice A1 l1.length c1] (zhn k _ _ l0 _ _ l1 true _ (zq17 HR0) HC0.out (zq17 HR1) HC1.out A3.out) ?_; rintro e w6 ⟨rfl, hb⟩; refine ⟨_, rfl, ?_⟩; replace HB := zA (zac zq1 hb); (try clear hb)) | ((with_reducible refine zgc 73 ?_); refine zca 12 Tryz.func73 #[.slice A0 l0.length c0, .slice A1 l1.length c1] (zlz k _ _ l0 _ _ l1 t102 _ (zq15 HR0) HC0.out (zq15 HR1) HC1.out A5.out) ?_; rintro e w7 ⟨rfl, hb⟩; refine ⟨_, rfl, ?_⟩; replace HB := zA (zac zq1 hb); (try clear hb)))
 go_ret2
 exact ⟨zq5, zq1⟩
end Go.Proofs.YtabnafbgcpchdaaGreat.Q
end
