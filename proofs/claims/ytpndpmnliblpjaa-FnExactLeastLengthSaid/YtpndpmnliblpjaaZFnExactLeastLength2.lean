/- Proved here: contracts of functions that the law FnExactLeastLength reaches, and lemmas on what they compute; texts of this session and the printed words of the kit that they lean on, cut down and put together by its program link.py. Conditions: as each states. -/
import Derived.Laws.EntriesVeiled
import Derived.Lib.SliceRun
import Derived.LoopIn
import Derived.LoopNIn
import Derived.OwnWalkIn
import Derived.RangeFuncBound
import Derived.RangeFuncCalls
import Derived.RangeFuncLeaves
import Derived.RangeFuncNested
import Derived.Shelf.Abstract
import Derived.Shelf.RegionOpen
import Derived.TacticsInMore
import Derived.WalkKit
import Derived.WalkSpells
import Derived.Test.YtpndpmnliblpjaaZFnExactLeastLength1
section
namespace Go.Proofs.Ytpndpmnliblpjaa.Q
open Go.RowKit Go.Proofs.YtpndpmnliblpjaaW.PrintWords Go.Proofs.YtpndpmnliblpjaaW.PrintLast Go.Proofs.YtpndpmnliblpjaaW.PrintMore
attribute [local go_sem] max2_int min2_int max_two min_two max_three min_three max_four min_four
set_option linter.unusedVariables false
set_option linter.unusedSimpArgs false
mutual
def impl_delays.l0 : Nat → List (S73) → List (List Int) → List (S73) → Int → Int → Option ((List (List Int)))
 | 0, _, _, _, _, _ => none
 | k + 1, x0, x3, x12, x13, x14 => if x14 < x13 then (if 0 ≤ x14 then (if x14 < (x12.length : Int) then ((slices_Repeat_int_int.f (([(-1)] : List Int)) x14).bind fun t109 => (if x14 < (x3.length : Int) then (if x14 ≤ (x0.length : Int) then ((some (x0.take (x14 : Int).toNat : List (S73))).bind fun y113 => (impl_delays.l1 k x0 (x3.set (x14 : Int).toNat t109) x14 x12 x13 x14 y113 (y113.length : Int) 0 ((rd_T73 x12 x14).f0) ((rd_T73 x12 x14).f1) ((rd_T73 x12 x14).f2) ((rd_T73 x12 x14).f3) ((rd_T73 x12 x14).f4))) else (none)) else (none))) else (none)) else (none)) else (some x3)
def impl_delays.l1 : Nat → List (S73) → List (List Int) → Int → List (S73) → Int → Int → List (S73) → Int → Int → ByteArray → Int → Int → Int → Int → Option ((List (List Int)))
 | 0, _, _, _, _, _, _, _, _, _, _, _, _, _, _ => none
 | k + 1, x0, x3, x4, x12, x13, x14, x27, x28, x29, x106000, x106001, x106002, x106003, x106004 => if x29 < x28 then (if 0 ≤ x29 then (if x29 < (x27.length : Int) then ((impl_Instr_reads.f k ((rd_T73 x27 x29).f0) ((rd_T73 x27 x29).f1) ((rd_T73 x27 x29).f2) ((rd_T73 x27 x29).f3) ((rd_T73 x27 x29).f4)).bind fun t119 => ((slices_Contains_int_int.f k t119 x106001).bind fun t122 => (if t122 = true then (if 0 ≤ x4 then (if x4 < (x3.length : Int) then (if x29 < ((rd_L4 x3 x4).length : Int) then (impl_delays.j2 k x0 (x3.set (x4 : Int).toNat ((rd_L4 x3 x4).set (x29 : Int).toNat 0)) x4 x29 x12 x13 x14 x27 x28 x29 x106000 x106001 x106002 x106003 x106004 ((rd_T73 x27 x29).f0) ((rd_T73 x27 x29).f1) ((rd_T73 x27 x29).f2) ((rd_T73 x27 x29).f3) ((rd_T73 x27 x29).f4)) else (none)) else (none)) else (none)) else (impl_delays.j2 k x0 x3 x4 x29 x12 x13 x14 x27 x28 x29 x106000 x106001 x106002 x106003 x106004 ((rd_T73 x27 x29).f0) ((rd_T73 x27 x29).f1) ((rd_T73 x27 x29).f2) ((rd_T73 x27 x29).f3) ((rd_T73 x27 x29).f4))))) else (none)) else (none)) else (impl_delays.l0 k x0 x3 x12 x13 (wrap64 (x14 + 1)))
def impl_delays.j2 : Nat → List (S73) → List (List Int) → Int → Int → List (S73) → Int → Int → List (S73) → Int → Int → ByteArray → Int → Int → Int → Int → ByteArray → Int → Int → Int → Int → Option ((List (List Int)))
 | 0, _, _, _, _, _, _, _, _, _, _, _, _, _, _, _, _, _, _, _, _ => none
 | k + 1, x0, x3, x4, x6, x12, x13, x14, x27, x28, x29, x106000, x106001, x106002, x106003, x106004, x119000, x119001, x119002, x119003, x119004 => if x119001 = x106001 then (if 0 ≤ x4 then (if x4 < (x3.length : Int) then (if 0 ≤ x6 then (if x6 < ((rd_L4 x3 x4).length : Int) then (impl_delays.j3 k x0 (x3.set (x4 : Int).toNat ((rd_L4 x3 x4).set (x6 : Int).toNat 1)) x4 x6 x12 x13 x14 x27 x28 x29 x106000 x106001 x106002 x106003 x106004 x119000 x119001 x119002 x119003 x119004) else (none)) else (none)) else (none)) else (none)) else (impl_delays.j3 k x0 x3 x4 x6 x12 x13 x14 x27 x28 x29 x106000 x106001 x106002 x106003 x106004 x119000 x119001 x119002 x119003 x119004)
def impl_delays.j3 : Nat → List (S73) → List (List Int) → Int → Int → List (S73) → Int → Int → List (S73) → Int → Int → ByteArray → Int → Int → Int → Int → ByteArray → Int → Int → Int → Int → Option ((List (List Int)))
 | 0, _, _, _, _, _, _, _, _, _, _, _, _, _, _, _, _, _, _, _, _ => none
 | k + 1, x0, x3, x4, x6, x12, x13, x14, x27, x28, x29, x106000, x106001, x106002, x106003, x106004, x119000, x119001, x119002, x119003, x119004 => if 0 ≤ (wrap64 (x6 + 1)) then (if (wrap64 (x6 + 1)) ≤ x4 then (if x4 ≤ (x0.length : Int) then ((slices_ContainsFunc_impl_delays_1.f k ((x0.take (x4 : Int).toNat).drop ((wrap64 (x6 + 1)) : Int).toNat) [(⟨x119000, x119001, x119002, x119003, x119004⟩ : S73)]).bind fun t135 => ((impl_Instr_reads.f k x106000 x106001 x106002 x106003 x106004).bind fun t136 => ((slices_Contains_int_int.f k t136 x119001).bind fun t139 => (if t139 = true then (if t135 = true then (impl_delays.l1 k x0 x3 x4 x12 x13 x14 x27 x28 (wrap64 (x29 + 1)) x106000 x106001 x106002 x106003 x106004) else (if 0 ≤ x4 then (if x4 < (x3.length : Int) then (if 0 ≤ x6 then (if x6 < ((rd_L4 x3 x4).length : Int) then ((impl_Instr_cost.f x119000 x119001 x119002 x119003 x119004).bind fun t143 => (impl_delays.l1 k x0 (x3.set (x4 : Int).toNat ((rd_L4 x3 x4).set (x6 : Int).toNat (mx (rd (rd_L4 x3 x4) x6) t143))) x4 x12 x13 x14 x27 x28 (wrap64 (x29 + 1)) x106000 x106001 x106002 x106003 x106004)) else (none)) else (none)) else (none)) else (none))) else (impl_delays.l1 k x0 x3 x4 x12 x13 x14 x27 x28 (wrap64 (x29 + 1)) x106000 x106001 x106002 x106003 x106004))))) else (none)) else (none)) else (none)
end
def impl_delays.f (k : Nat) (l0 : List (S73)) : Option ((List (List Int))) := if 0 ≤ (l0.length : Int) then (if ((l0.length : Int) : Int).toNat ≤ 11728124029610 then (impl_delays.l0 k l0 (List.replicate ((l0.length : Int) : Int).toNat []) l0 (l0.length : Int) 0) else (none)) else (none)
theorem impl_delays.mono_l : ∀ k, (∀ y0 y1 y2 y3 y4, LeO (impl_delays.l0 k y0 y1 y2 y3 y4) (impl_delays.l0 (k + 1) y0 y1 y2 y3 y4)) ∧ (∀ y0 y1 y2 y3 y4 y5 y6 y7 y8 y9 y10 y11 y12 y13, LeO (impl_delays.l1 k y0 y1 y2 y3 y4 y5 y6 y7 y8 y9 y10 y11 y12 y13) (impl_delays.l1 (k + 1) y0 y1 y2 y3 y4 y5 y6 y7 y8 y9 y10 y11 y12 y13)) ∧ (∀ y0 y1 y2 y3 y4 y5 y6 y7 y8 y9 y10 y11 y12 y13 y14 y15 y16 y17 y18 y19, LeO (impl_delays.j2 k y0 y1 y2 y3 y4 y5 y6 y7 y8 y9 y10 y11 y12 y13 y14 y15 y16 y17 y18 y19) (impl_delays.j2 (k + 1) y0 y1 y2 y3 y4 y5 y6 y7 y8 y9 y10 y11 y12 y13 y14 y15 y16 y17 y18 y19)) ∧ (∀ y0 y1 y2 y3 y4 y5 y6 y7 y8 y9 y10 y11 y12 y13 y14 y15 y16 y17 y18 y19, LeO (impl_delays.j3 k y0 y1 y2 y3 y4 y5 y6 y7 y8 y9 y10 y11 y12 y13 y14 y15 y16 y17 y18 y19) (impl_delays.j3 (k + 1) y0 y1 y2 y3 y4 y5 y6 y7 y8 y9 y10 y11 y12 y13 y14 y15 y16 y17 y18 y19))
 | 0 => ⟨fun _ _ _ _ _ r h => by simp [impl_delays.l0] at h, fun _ _ _ _ _ _ _ _ _ _ _ _ _ _ r h => by simp [impl_delays.l1] at h, fun _ _ _ _ _ _ _ _ _ _ _ _ _ _ _ _ _ _ _ _ r h => by simp [impl_delays.j2] at h, fun _ _ _ _ _ _ _ _ _ _ _ _ _ _ _ _ _ _ _ _ r h => by simp [impl_delays.j3] at h⟩
 | k + 1 => by
   obtain ⟨ih0, ih1, ih2, ih3⟩ := impl_delays.mono_l k
   refine ⟨?_, ?_, ?_, ?_⟩
   · intro y0 y1 y2 y3 y4
     unfold impl_delays.l0
     repeat' first
     | (with_reducible first | exact ih0 _ _ _ _ _ | exact ih1 _ _ _ _ _ _ _ _ _ _ _ _ _ _ | exact ih2 _ _ _ _ _ _ _ _ _ _ _ _ _ _ _ _ _ _ _ _ | exact ih3 _ _ _ _ _ _ _ _ _ _ _ _ _ _ _ _ _ _ _ _ | exact impl_Instr_reads.mono _ _ _ _ _ _ | exact slices_ContainsFunc_impl_delays_1.mono _ _ _ | exact slices_Contains_int_int.mono _ _ _ | exact LeO.refl _ | exact LeO.none _ | refine LeO.ite ?_ ?_ | refine LeO.bind ?_ (fun _ => ?_))
     | exact LeO.none _
     | refine LeO.ite ?_ ?_
     | refine LeO.bind ?_ (fun _ => ?_)
   · intro y0 y1 y2 y3 y4 y5 y6 y7 y8 y9 y10 y11 y12 y13
     unfold impl_delays.l1
     repeat' first
     | (with_reducible first | exact ih0 _ _ _ _ _ | exact ih1 _ _ _ _ _ _ _ _ _ _ _ _ _ _ | exact ih2 _ _ _ _ _ _ _ _ _ _ _ _ _ _ _ _ _ _ _ _ | exact ih3 _ _ _ _ _ _ _ _ _ _ _ _ _ _ _ _ _ _ _ _ | exact impl_Instr_reads.mono _ _ _ _ _ _ | exact slices_ContainsFunc_impl_delays_1.mono _ _ _ | exact slices_Contains_int_int.mono _ _ _ | exact LeO.refl _ | exact LeO.none _ | refine LeO.ite ?_ ?_ | refine LeO.bind ?_ (fun _ => ?_))
     | exact LeO.none _
     | refine LeO.ite ?_ ?_
     | refine LeO.bind ?_ (fun _ => ?_)
   · intro y0 y1 y2 y3 y4 y5 y6 y7 y8 y9 y10 y11 y12 y13 y14 y15 y16 y17 y18 y19
     unfold impl_delays.j2
     repeat' first
     | (with_reducible first | exact ih0 _ _ _ _ _ | exact ih1 _ _ _ _ _ _ _ _ _ _ _ _ _ _ | exact ih2 _ _ _ _ _ _ _ _ _ _ _ _ _ _ _ _ _ _ _ _ | exact ih3 _ _ _ _ _ _ _ _ _ _ _ _ _ _ _ _ _ _ _ _ | exact impl_Instr_reads.mono _ _ _ _ _ _ | exact slices_ContainsFunc_impl_delays_1.mono _ _ _ | exact slices_Contains_int_int.mono _ _ _ | exact LeO.refl _ | exact LeO.none _ | refine LeO.ite ?_ ?_ | refine LeO.bind ?_ (fun _ => ?_))
     | exact LeO.none _
     | refine LeO.ite ?_ ?_
     | refine LeO.bind ?_ (fun _ => ?_)
   · intro y0 y1 y2 y3 y4 y5 y6 y7 y8 y9 y10 y11 y12 y13 y14 y15 y16 y17 y18 y19
     unfold impl_delays.j3
     repeat' first
     | (with_reducible first | exact ih0 _ _ _ _ _ | exact ih1 _ _ _ _ _ _ _ _ _ _ _ _ _ _ | exact ih2 _ _ _ _ _ _ _ _ _ _ _ _ _ _ _ _ _ _ _ _ | exact ih3 _ _ _ _ _ _ _ _ _ _ _ _ _ _ _ _ _ _ _ _ | exact impl_Instr_reads.mono _ _ _ _ _ _ | exact slices_ContainsFunc_impl_delays_1.mono _ _ _ | exact slices_Contains_int_int.mono _ _ _ | exact LeO.refl _ | exact LeO.none _ | refine LeO.ite ?_ ?_ | refine LeO.bind ?_ (fun _ => ?_))
     | exact LeO.none _
     | refine LeO.ite ?_ ?_
     | refine LeO.bind ?_ (fun _ => ?_)
theorem impl_delays.mono : ∀ a0 k, LeO (impl_delays.f k a0) (impl_delays.f (k + 1) a0) := by
 intro a0 k
 obtain ⟨ih0, ih1, ih2, ih3⟩ := impl_delays.mono_l k
 unfold impl_delays.f
 repeat' first
     | (with_reducible first | exact ih0 _ _ _ _ _ | exact ih1 _ _ _ _ _ _ _ _ _ _ _ _ _ _ | exact ih2 _ _ _ _ _ _ _ _ _ _ _ _ _ _ _ _ _ _ _ _ | exact ih3 _ _ _ _ _ _ _ _ _ _ _ _ _ _ _ _ _ _ _ _ | exact impl_Instr_reads.mono _ _ _ _ _ _ | exact slices_ContainsFunc_impl_delays_1.mono _ _ _ | exact slices_Contains_int_int.mono _ _ _ | exact LeO.refl _ | exact LeO.none _ | refine LeO.ite ?_ ?_ | refine LeO.bind ?_ (fun _ => ?_))
     | exact LeO.none _
     | refine LeO.ite ?_ ?_
     | refine LeO.bind ?_ (fun _ => ?_)
def impl_delays.T14 : Bool × List (List Nat × List Nat) := (true, [([], []), ([0], [0]), ([], []), ([2], [2]), ([1, 3, 1], [1, 3]), ([4, 4], [4]), ([5], [5]), ([6, 5], [5, 6]), ([5, 7], [5, 7])])
def impl_delays.B14 : List Nat := [0, 1, 0, 4, 15, 31, 63, 127, 255]
theorem impl_delays.tab14 : rtab .any (opsOf Try.f50 14) = impl_delays.T14 := by kernel_rfl
theorem impl_delays.bits14 : waitsOk impl_delays.T14.2 impl_delays.B14 = true := by kernel_rfl
def impl_delays.T15 : Bool × List (List Nat × List Nat) := (true, [([], []), ([], []), ([0, 1], [0, 1]), ([2], [2]), ([], []), ([], []), ([], []), ([5, 6], [5, 6]), ([7], [7]), ([], []), ([8, 9], [8, 9]), ([10], [10]), ([], []), ([12], [12]), ([11, 13], [11, 13]), ([3, 4, 0, 1, 2, 3, 4, 5, 6, 7, 8, 9, 10, 11, 12, 13, 14], [3, 4]), ([15, 14, 13, 0, 1, 2, 3, 4, 5, 6, 7, 8, 9, 10, 11, 12, 13, 14], [14, 15])])
def impl_delays.B15 : List Nat := [0, 0, 3, 7, 0, 0, 0, 96, 224, 0, 992, 2016, 0, 4096, 16352, 32767, 65535]
theorem impl_delays.tab15 : rtab .any (opsOf Try.f50 15) = impl_delays.T15 := by kernel_rfl
theorem impl_delays.bits15 : waitsOk impl_delays.T15.2 impl_delays.B15 = true := by kernel_rfl
set_option maxHeartbeats 8000000 in
set_option maxRecDepth 100000 in
theorem impl_delays.calls (k : Nat) (A0 : Option Addr) (c0 : Nat) (l0 : List (S73)) (r : List (List Int)) (w : World) (hr0 : Kd.C k73 w A0 l0.length l0) (hc0 : l0.length ≤ c0) (h : impl_delays.f k l0 = some r) :
   Calls Try.prog 50 #[.slice A0 l0.length c0] w fun e w' => ∃ v0_ : Value, e = .returned (v0_) ∧ Kd.S (Kd.slice 3 (Kd.int .i64)) 24 w' w.heap.size (fun _ => True) v0_ r ∧ Below w.heap.size w w' := by
 have hu73 := Try.underlying73
 have HR0 := zA hr0
 have HC0 := zA hc0
 clear hr0 hc0
 have HB := zA (Below.refl w.heap.size w)
 have H : (if 0 ≤ (l0.length : Int) then (if ((l0.length : Int) : Int).toNat ≤ 11728124029610 then (impl_delays.l0 k l0 (List.replicate ((l0.length : Int) : Int).toNat []) l0 (l0.length : Int) 0) else (none)) else (none)) = some r := h
 clear h
 by_cases c2 : 0 ≤ (l0.length : Int)
 rotate_left
 · rw [if_neg c2] at H
   exact absurd H (by simp)
 rw [if_pos c2] at H
 have c2b0 := eq_true c2
 have c2b1 : decide (0 ≤ (l0.length : Int)) = true := zdt c2
 clear c2
 by_cases c3 : ((l0.length : Int) : Int).toNat ≤ 11728124029610
 rotate_left
 · rw [if_neg c3] at H
   exact absurd H (by simp)
 rw [if_pos c3] at H
 have c3b0 := eq_true c3
 have c3b1 : decide (((l0.length : Int) : Int).toNat ≤ 11728124029610) = true := zdt c3
 clear c3
 obtain ⟨y101, hy101⟩ : ∃ y_ : List (List Int), y_ = (List.replicate ((l0.length : Int) : Int).toNat []) := ⟨_, rfl⟩
 replace H : (impl_delays.l0 k l0 y101 l0 (l0.length : Int) 0) = some r := by first | (rw [hy101]; with_reducible exact H) | (have H2_ := (Option.bind_some _ _).symm.trans H; rw [hy101]; with_reducible exact H2_) | (have H2_ := (Option.bind_some _ _).symm.trans H; with_reducible exact H2_) | with_reducible exact H | (rw [hy101]; exact H) | exact H
 have Ny101 := zA hy101
 clear hy101
 have H' := zA H
 clear H
 go_enter Try.func50, Try.ntmps50
 go_wp2_with (first | ((with_reducible refine gate_dst (N := 11) rfl ?_); refine Kd.S_make (Kd.slice 3 (Kd.int .i64)) _ 24 rfl (N := 11) rfl 38 _ _ rfl (l0.length : Int) rfl rfl Try.underlying38 (.slice none 0 0) 24 info24 rfl (by decide) (by omega) [] (ok := fun _ => True) (okp := fun _ => True) ⟨_, rfl, Kd.R_nil _ _ _ _ _⟩ (fun _ hk => hk) trivial (zde (by assumption)) (Nat.le_trans (Nat.mul_le_mul_right _ (zde (by assumption) : (l0.length : Int).toNat ≤ 11728124029610)) (by omega)) (Below.refl _ _) (zlr _) ?_; intro v102 w4 ho5 hb hg_ hnew_; clear hg_ hnew_; (first | rw [← Ny101.out] at ho5 | (simp only [Int.reduceToNat] at ho5; rw [← Ny101.out] at ho5)); have n0_ := zA (Kd.S_lower ho5 (below_size (by repeat (first | (with_reducible first | exact HB.out | apply zba | apply zbn | apply zbd) | exact HB.out)))); have n1_ := zA (below_step (by repeat (first | (with_reducible first | exact HB.out | apply zba | apply zbn | apply zbd) | exact HB.out)) hb); clear HB; have HO103 := n0_; have HB := n1_; clear n0_ n1_; clear hb ho5))
 go_loopg [14] k (fun kq v14 w' => ∃ (x3_1 : List (List Int)) (x14_1 : Int), v14 = .int .i64 x14_1 ∧ Aside0 (impl_delays.l0 kq l0 x3_1 l0 (l0.length : Int) x14_1 = some r) ∧ Aside0 (kq ≤ k) ∧ Aside0 (Kd.S (Kd.slice 3 (Kd.int .i64)) 24 w' w.heap.size (fun _ => True) v102 x3_1) ∧ Aside0 (Below w.heap.size w w'))
 case atStart => exact ⟨(y101), (0), (by first | rfl | (simp; done) | (simp [*]; done)), H', ⟨zlr _⟩, ⟨by (with_reducible repeat (first | apply zSa | apply zSn | apply zSd)); exact HO103.out⟩, ⟨by repeat (first | (with_reducible first | exact HB.out | apply zba | apply zbn | apply zbd) | exact HB.out)⟩⟩
 clear H'
 try clear c2
 try clear c2b0
 try clear c2b1
 try clear p2
 try clear c3
 try clear c3b0
 try clear c3b1
 try clear c5
 obtain ⟨x3_1, x14_1, rfl, HA, HK1, HO_3, HB⟩ := hrel
 cases gk with
 | zero => exact absurd HA.out (by simp [impl_delays.l0])
 | succ k1 =>
 have H := HA.out
 clear HA
 simp only [impl_delays.l0] at H
 by_cases c6 : x14_1 < (l0.length : Int)
 rotate_left
 · rw [if_neg c6] at H
   have c6b0 : decide (x14_1 < (l0.length : Int)) = false := zdf c6
   clear c6
   obtain rfl := zsi H
   go_wp2
   go_ret
   exact ⟨_, by first | rfl | (simp [errW_none, errW_some] <;> rfl) | (simp [*, errW_none, errW_some] <;> rfl), by (with_reducible repeat (first | apply zSa | apply zSn | apply zSd)); exact HO_3.out, by repeat (first | (with_reducible first | exact HB.out | apply zba | apply zbn | apply zbd) | exact HB.out)⟩
 rw [if_pos c6] at H
 have c6b0 : decide (x14_1 < (l0.length : Int)) = true := zdt c6
 clear c6
 by_cases c7 : 0 ≤ x14_1
 rotate_left
 · rw [if_neg c7] at H
   exact absurd H (by simp)
 rw [if_pos c7] at H
 have c7b0 : decide (0 ≤ x14_1) = true := zdt c7
 clear c7
 by_cases c8 : x14_1 < (l0.length : Int)
 rotate_left
 · rw [if_neg c8] at H
   exact absurd H (by simp)
 rw [if_pos c8] at H
 have c8b0 : decide (x14_1 < (l0.length : Int)) = true := zdt c8
 clear c8
 obtain ⟨y106, hy106⟩ : ∃ y_ : List Int, y_ = (([(-1)] : List Int)) := ⟨_, rfl⟩
 replace H : ((slices_Repeat_int_int.f y106 x14_1).bind fun t109 => (if x14_1 < (x3_1.length : Int) then (if x14_1 ≤ (l0.length : Int) then ((some (l0.take (x14_1 : Int).toNat : List (S73))).bind fun y113 => (impl_delays.l1 k1 l0 (x3_1.set (x14_1 : Int).toNat t109) x14_1 l0 (l0.length : Int) x14_1 y113 (y113.length : Int) 0 ((rd_T73 l0 x14_1).f0) ((rd_T73 l0 x14_1).f1) ((rd_T73 l0 x14_1).f2) ((rd_T73 l0 x14_1).f3) ((rd_T73 l0 x14_1).f4))) else (none)) else (none))) = some r := by first | (rw [hy106]; with_reducible exact H) | (have H2_ := (Option.bind_some _ _).symm.trans H; rw [hy106]; with_reducible exact H2_) | (have H2_ := (Option.bind_some _ _).symm.trans H; with_reducible exact H2_) | with_reducible exact H | (rw [hy106]; exact H) | exact H
 have Ny106 := zA hy106
 clear hy106
 replace H := zob H
 obtain ⟨t109, A90, H⟩ := H
 replace H : (if x14_1 < (x3_1.length : Int) then (if x14_1 ≤ (l0.length : Int) then ((some (l0.take (x14_1 : Int).toNat : List (S73))).bind fun y113 => (impl_delays.l1 k1 l0 (x3_1.set (x14_1 : Int).toNat t109) x14_1 l0 (l0.length : Int) x14_1 y113 (y113.length : Int) 0 ((rd_T73 l0 x14_1).f0) ((rd_T73 l0 x14_1).f1) ((rd_T73 l0 x14_1).f2) ((rd_T73 l0 x14_1).f3) ((rd_T73 l0 x14_1).f4))) else (none)) else (none)) = some r := H
 have A9 := zA A90
 clear A90
 by_cases c10 : x14_1 < (x3_1.length : Int)
 rotate_left
 · rw [if_neg c10] at H
   exact absurd H (by simp)
 rw [if_pos c10] at H
 have c10b0 : decide (x14_1 < (x3_1.length : Int)) = true := zdt c10
 clear c10
 obtain ⟨y112, hy112⟩ : ∃ y_ : List (List Int), y_ = (x3_1.set (x14_1 : Int).toNat t109) := ⟨_, rfl⟩
 replace H : (if x14_1 ≤ (l0.length : Int) then ((some (l0.take (x14_1 : Int).toNat : List (S73))).bind fun y113 => (impl_delays.l1 k1 l0 y112 x14_1 l0 (l0.length : Int) x14_1 y113 (y113.length : Int) 0 ((rd_T73 l0 x14_1).f0) ((rd_T73 l0 x14_1).f1) ((rd_T73 l0 x14_1).f2) ((rd_T73 l0 x14_1).f3) ((rd_T73 l0 x14_1).f4))) else (none)) = some r := by first | (rw [hy112]; with_reducible exact H) | (have H2_ := (Option.bind_some _ _).symm.trans H; rw [hy112]; with_reducible exact H2_) | (have H2_ := (Option.bind_some _ _).symm.trans H; with_reducible exact H2_) | with_reducible exact H | (rw [hy112]; exact H) | exact H
 have Ny112 := zA hy112
 clear hy112
 have c12b0 := eq_true (zde (by assumption) : 0 ≤ x14_1)
 by_cases c13 : x14_1 ≤ (l0.length : Int)
 rotate_left
 · rw [if_neg c13] at H
   exact absurd H (by simp)
 rw [if_pos c13] at H
 have c13b0 := eq_true c13
 have c13b1 : decide (x14_1 ≤ (l0.length : Int)) = true := zdt c13
 clear c13
 obtain ⟨y113, hy113⟩ : ∃ y_ : List (S73), y_ = (l0.take (x14_1 : Int).toNat) := ⟨_, rfl⟩
 replace H : (impl_delays.l1 k1 l0 y112 x14_1 l0 (l0.length : Int) x14_1 y113 (y113.length : Int) 0 ((rd_T73 l0 x14_1).f0) ((rd_T73 l0 x14_1).f1) ((rd_T73 l0 x14_1).f2) ((rd_T73 l0 x14_1).f3) ((rd_T73 l0 x14_1).f4)) = some r := by first | (rw [hy113]; with_reducible exact H) | (have H2_ := (Option.bind_some _ _).symm.trans H; rw [hy113]; with_reducible exact H2_) | (have H2_ := (Option.bind_some _ _).symm.trans H; with_reducible exact H2_) | with_reducible exact H | (rw [hy113]; exact H) | exact H
 have Ny113 := zA hy113
 clear hy113
 have H' := zA H
 clear H
 have p104 : 0 ≤ (x14_1 : Int) := zde (by assumption)
 have q104 : x14_1 < (l0.length : Int) := zde (by assumption)
 obtain ⟨ad104, e104, hx104_0, hx104_1, hx104_2, hx104_3, hx104_4⟩ := at_T73 HR0.out x14_1 p104 q104
 cases e104
 replace hx104_0 := zkep HB.out hx104_0
 replace hx104_1 := zkep HB.out hx104_1
 replace hx104_2 := zkep HB.out hx104_2
 replace hx104_3 := zkep HB.out hx104_3
 replace hx104_4 := zkep HB.out hx104_4
 replace p104 := eq_true p104
 replace q104 := eq_true q104
 go_wp2_with (first | ((with_reducible refine gate_dst (N := 5) rfl ?_); refine box_event ?hg (N := 5) ?hd (cs := #[.string (⟨#[]⟩ : ByteArray), .int .i64 0, .int .i64 0, .int .i64 0, .int .i64 0]) (t := 73) ?hr ?_; (case hd => rfl); (case hg => rfl); (case hr => go_simp <;> rfl); intro gb105 hg w14 hbox hb; have n0_ := zA (Kd.S_below (by (with_reducible repeat (first | apply zSa | apply zSn | apply zSd)); exact HO_3.out) hb); have zs := zpair (by repeat (first | (with_reducible first | exact HB.out | apply zba | apply zbn | apply zbd) | exact HB.out)) hb; have n1_ := zA (zs.1); have n2_ := zA (hbox); have n3_ := zA ((by rw [hg]; exact zs.2 : w.heap.size ≤ gb105)); have n4_ := n3_; clear HO_3 HB; have HO_3 := n0_; have HB := n1_; have BK105 := n2_; have GW105 := n3_; have GE105 := n4_; clear n0_ n1_ n2_ n3_ n4_; clear zs hb hbox hg; obtain ⟨hcz15_0, hcz15_1, hcz15_2, hcz15_3, hcz15_4⟩ := zc5 w14 (.string (⟨#[]⟩ : ByteArray)) (.int .i64 0) (.int .i64 0) (.int .i64 0) (.int .i64 0) BK105.out; obtain ⟨hfz15_0, hfz15_1, hfz15_2, hfz15_3, hfz15_4⟩ := zf5 BK105.out) | ((with_reducible refine gate_dst (N := 21) rfl ?_); refine Kd.R_lit (Kd.int .i64) _ 3 ?hg (N := 21) ?hd (xs := ([(-1)] : List Int)) (inner := [.int .i64 (-1)]) (ok := fun _ => True) (okp := fun _ => True) ?hr ?hp (fun _ hk => hk) trivial (Below.refl _ _) (zlr _) (by simp) ?_; (case hd => rfl); (case hg => rfl); (case hr => go_simp <;> rfl); (case hp => exact (Reps.one (show Kd.M (Kd.int .i64) _ _ _ (-1) [.int .i64 (-1)] from rfl) (Reps.none _ _))); intro v107 w16 ho17 hb hg_ hnew_; clear hg_ hnew_; (first | rw [← Ny106.out] at ho17 | (simp only [Int.reduceToNat] at ho17; rw [← Ny106.out] at ho17)); have n0_ := zA (Kd.S_elder' (by (with_reducible repeat (first | apply zSa | apply zSn | apply zSd)); exact (Kd.S_mono (Kd.S_far (p := ⟨gb105, 4, none⟩) (Kd.S_far (p := ⟨gb105, 3, none⟩) (Kd.S_far (p := ⟨gb105, 2, none⟩) (Kd.S_far (p := ⟨gb105, 1, none⟩) (Kd.S_far (p := ⟨gb105, 0, none⟩) (Kd.S_types HO_3.out BK105.out (by decide)) (fun _ hk => hk.2) (.string ((rd_T73 l0 x14_1).f0))) (fun _ hk => hk.2) (.int .i64 ((rd_T73 l0 x14_1).f1))) (fun _ hk => hk.2) (.int .i64 ((rd_T73 l0 x14_1).f2))) (fun _ hk => hk.2) (.int .i64 ((rd_T73 l0 x14_1).f3))) (fun _ hk => hk.2) (.int .i64 ((rd_T73 l0 x14_1).f4))) (fun _ h_ => h_.1))) (Kd.R_base ho17) hb); have n1_ := zA (Kd.R_lower ho17 (below_size (by repeat (first | (with_reducible first | exact HB.out | apply zba | apply zbn | apply zbd | refine below_set ?_ GE105.out) | exact HB.out)))); have n2_ := zA (blk_below (g := gb105) (o := .cells #[.string ((rd_T73 l0 x14_1).f0), .int .i64 ((rd_T73 l0 x14_1).f1), .int .i64 ((rd_T73 l0 x14_1).f2), .int .i64 ((rd_T73 l0 x14_1).f3), .int .i64 ((rd_T73 l0 x14_1).f4)] 73 (0, 0)) (by (with_reducible repeat (first | refine zkn ?_ _ | refine zkd ?_ | refine zka ?_ _)); refine blk_put (cs := #[.string ((rd_T73 l0 x14_1).f0), .int .i64 ((rd_T73 l0 x14_1).f1), .int .i64 ((rd_T73 l0 x14_1).f2), .int .i64 ((rd_T73 l0 x14_1).f3), .int .i64 0]) ?_ 4 _ rfl; (with_reducible repeat (first | refine zkn ?_ _ | refine zkd ?_ | refine zka ?_ _)); refine blk_put (cs := #[.string ((rd_T73 l0 x14_1).f0), .int .i64 ((rd_T73 l0 x14_1).f1), .int .i64 ((rd_T73 l0 x14_1).f2), .int .i64 0, .int .i64 0]) ?_ 3 _ rfl; (with_reducible repeat (first | refine zkn ?_ _ | refine zkd ?_ | refine zka ?_ _)); refine blk_put (cs := #[.string ((rd_T73 l0 x14_1).f0), .int .i64 ((rd_T73 l0 x14_1).f1), .int .i64 0, .int .i64 0, .int .i64 0]) ?_ 2 _ rfl; (with_reducible repeat (first | refine zkn ?_ _ | refine zkd ?_ | refine zka ?_ _)); refine blk_put (cs := #[.string ((rd_T73 l0 x14_1).f0), .int .i64 0, .int .i64 0, .int .i64 0, .int .i64 0]) ?_ 1 _ rfl; (with_reducible repeat (first | refine zkn ?_ _ | refine zkd ?_ | refine zka ?_ _)); refine blk_put (cs := #[.string (⟨#[]⟩ : ByteArray), .int .i64 0, .int .i64 0, .int .i64 0, .int .i64 0]) ?_ 0 _ rfl; (with_reducible repeat (first | refine zkn ?_ _ | refine zkd ?_ | refine zka ?_ _)); exact BK105.out) hb); have n3_ := zA (below_step (by repeat (first | (with_reducible first | exact HB.out | apply zba | apply zbn | apply zbd | refine below_set ?_ GE105.out) | exact HB.out)) hb); clear HO_3 BK105 HB; have HO_3 := n0_; have HO108 := n1_; have BK105 := n2_; have HB := n3_; clear n0_ n1_ n2_ n3_; clear hb ho17; obtain ⟨Ao18, co18, eo18⟩ := Kd.R_slice HO108.out; subst eo18) | ((with_reducible refine gate_callee (f := 109) rfl ?_); refine goesL_ (some 23) rfl rfl Try.func109 (by kernel_rfl) rfl #[.slice Ao18 y106.length co18, .int .i64 x14_1] rfl (by (try simp only [List.map_toArray, List.map_cons, List.map_nil]); first | done | rfl | (simp only [List.length_drop, List.length_take]; rfl)) ?_; (with_reducible refine (slices_Repeat_int_int.calls _ _ y106 x14_1 t109 _ ?side1 ?side2 A9.out).mono ?_); (case side1 => repeat (first | exact (zRr HO108.out).2.2 | (with_reducible first | refine zCa ?_ _ | refine zCn ?_ _ | refine zCd ?_))); (case side2 => exact (zRr HO108.out).2.1); rintro e w19 ⟨v110, rfl, ho0, hb⟩; refine ⟨_, rfl, ?_⟩; have n0_ := zA (Kd.S_elder' (by (with_reducible repeat (first | apply zSa | apply zSn | apply zSd)); exact HO_3.out) (Kd.R_base ho0) hb); have n1_ := zA (Kd.R_elder' (by (with_reducible repeat (first | apply zRa | apply zRn | apply zRd)); exact HO108.out) (Kd.R_base ho0) hb); have n2_ := zA (Kd.R_lower (Kd.R_new' ho0 (Kd.R_lt (by (with_reducible repeat (first | apply zRa | apply zRn | apply zRd)); exact HO108.out))) (below_size (by repeat (first | (with_reducible first | exact HB.out | apply zba | apply zbn | apply zbd | refine below_set ?_ GE105.out) | exact HB.out)))); have n3_ := zA (blk_below (g := gb105) (o := .cells #[.string ((rd_T73 l0 x14_1).f0), .int .i64 ((rd_T73 l0 x14_1).f1), .int .i64 ((rd_T73 l0 x14_1).f2), .int .i64 ((rd_T73 l0 x14_1).f3), .int .i64 ((rd_T73 l0 x14_1).f4)] 73 (0, 0)) (by (with_reducible repeat (first | refine zkn ?_ _ | refine zkd ?_ | refine zka ?_ _)); exact BK105.out) hb); have n4_ := zA (below_step (by repeat (first | (with_reducible first | exact HB.out | apply zba | apply zbn | apply zbd | refine below_set ?_ GE105.out) | exact HB.out)) hb); clear HO_3 HO108; clear BK105 HB; have HO_3 := n0_; have HO108 := n1_; have HO111 := n2_; have BK105 := n3_; have HB := n4_; clear n0_ n1_ n2_ n3_ n4_; (try clear hb); (try clear hk); (try clear ho0); have p11 : 0 ≤ (x14_1 : Int) := zde (by assumption); have q11 : (x14_1 : Int) < ((x3_1.length : Int) : Int) := zde (by assumption); obtain ⟨go11, co11, eo11, gb11, gl11, cl11, HG11⟩ := Kd.S_form HO_3.out (by omega); (first | cases eo11 | (injection eo11 with ea_ en_ ec_; (first | subst ea_ | (injection ea_ with ea_; subst ea_)); subst ec_; clear en_)); have GB11 := zA gb11; have GG11 := zA HG11; clear gb11 gl11 HG11; obtain ⟨_, ce11, hcl11, hM11, hcc11, hfr11, _, _⟩ := Kd.S_elem HO_3.out [] (x14_1 : Int) p11 q11; obtain ⟨ve11_0, rfl, ge11_0⟩ := (id hM11); have hx11_0 := hcc11 0 _ rfl; have hf11_0 := hfr11 0; (try simp only [show ((Kd.slice 3 (Kd.int .i64))).sz = 1 from rfl, Nat.mul_one, Nat.add_zero] at hx11_0); (try simp only [show ((Kd.slice 3 (Kd.int .i64))).sz = 1 from rfl, Nat.mul_one, Nat.add_zero] at hf11_0); clear hcl11 hcc11 hfr11 hM11; replace p11 := eq_true p11; replace q11 := eq_true q11; obtain ⟨Ao20, co20, eo20⟩ := Kd.R_slice HO111.out; subst eo20; have n_ := zA (Kd.S_mono (ok' := (fun k_ => some k_ ≠ (.slice Ao18 y106.length co18 : Value).ownBlock ∧ some k_ ≠ (.slice Ao20 t109.length co20 : Value).ownBlock)) HO_3.out (fun k_ hk => ⟨hk.1.2, hk.2⟩)); clear HO_3; have HO_3 := n_; clear n_; have HX21 := zA (show Kd.S (Kd.slice 3 (Kd.int .i64)) 24 w19 w.heap.size (fun k_ => ((fun k_ => some k_ ≠ (.slice Ao18 y106.length co18 : Value).ownBlock)) k_ ∧ ¬ ((fun k_ => some k_ = (.slice Ao20 t109.length co20 : Value).ownBlock)) k_) (.slice (some ⟨go11, 0, none⟩) x3_1.length co11) x3_1 from (by (with_reducible repeat (first | apply zSa | apply zSn | apply zSd)); exact Kd.S_mono HO_3.out (fun k_ hk => ⟨hk.1, fun e_ => hk.2 e_⟩))); obtain ⟨oki21, ce21, hcl21, hM21, hcc21, hfr21, hoki21, hH21⟩ := Kd.S_elem HX21.out [] (x14_1 : Int) (zde (by assumption)) (by have h_ : (x14_1 : Int) < ((x3_1.length : Int) : Int) := zde (by assumption); first | exact h_ | (have e_ := (zSr HO_3.out).1; omega) | simpa using h_); obtain ⟨ve21_0, rfl, ge21_0⟩ := (id hM21); have HP21 := Kd.S_seg hH21 (zde (by assumption)) (by have h_ : (x14_1 : Int) < ((x3_1.length : Int) : Int) := zde (by assumption); first | exact h_ | (have e_ := (zSr HO_3.out).1; omega) | simpa using h_) (seg := [.slice Ao20 t109.length co20]) (j := 0) (show 1 ≤ 1 from by decide) (x' := t109) (Kd.M_row (Kd.R_mono (Kd.R_tight rfl (Kd.R_mono (ok' := fun k_ => ((fun k_ => some k_ ≠ (.slice Ao18 y106.length co18 : Value).ownBlock)) k_ ∧ k_ ≠ go11) (Kd.R_apart' (HO111.out) (Kd.S_typed HO_3.out) (by decide)) (fun k_ hk => ⟨hk.1.2, fun e_ => (hk.2) (by rw [e_]; rfl)⟩))) (fun _ h_ => Or.inr (h_)))) (fun _ hk => hk) (fun k_ hk_ => ((Kd.R_mono (ok' := fun k_ => ((fun k_ => some k_ ≠ (.slice Ao18 y106.length co18 : Value).ownBlock)) k_ ∧ k_ ≠ go11) (Kd.R_apart' (HO111.out) (Kd.S_typed HO_3.out) (by decide)) (fun k_ hk => ⟨hk.1.2, fun e_ => (hk.2) (by rw [e_]; rfl)⟩))).1 k_ hk_.symm); have hx21_0 := hcc21 0 _ rfl; (try simp only [show ((Kd.slice 3 (Kd.int .i64))).sz = 1 from rfl, Nat.mul_one, Nat.add_zero] at hx21_0); have hf21_0 := hfr21 0; (try simp only [show ((Kd.slice 3 (Kd.int .i64))).sz = 1 from rfl, Nat.mul_one, Nat.add_zero] at hf21_0); clear hcl21 hcc21 hfr21 hM21 hoki21 hH21; (try simp only [show ((Kd.slice 3 (Kd.int .i64))).sz = 1 from rfl, Nat.mul_one, Nat.add_zero] at HP21)) | ((with_reducible refine gate_store (t := 24) (p := 24) rfl ?_); refine store_event (t := 24) (p := 24) (v := ?vo_w22) (w1 := (w19.setCell ⟨go11, (x14_1 : Int).toNat, none⟩ (.slice Ao20 t109.length co20))) ?hg ?ho ?hn ?hr ?_; (case ho => rfl); (case hg => rfl); (case hn => rfl); (case hr => go_simp <;> rfl); intro w22 hw; have hg : w19.grownBy w22 (some go11) := (by rw [hw]; exact HP21.2); have hp_ : Kd.S (Kd.slice 3 (Kd.int .i64)) 24 w22 w.heap.size (fun k_ => some k_ ≠ (.slice Ao18 y106.length co18 : Value).ownBlock) (.slice (some ⟨go11, 0, none⟩) x3_1.length co11) y112 := (by rw [hw, Ny112.out]; exact HP21.1); clear HP21; have n0_ := zA (hp_); have n1_ := zA (blk_grown (g := gb105) (o := .cells #[.string ((rd_T73 l0 x14_1).f0), .int .i64 ((rd_T73 l0 x14_1).f1), .int .i64 ((rd_T73 l0 x14_1).f2), .int .i64 ((rd_T73 l0 x14_1).f3), .int .i64 ((rd_T73 l0 x14_1).f4)] 73 (0, 0)) (by (with_reducible repeat (first | refine zkn ?_ _ | refine zkd ?_ | refine zka ?_ _)); exact BK105.out) hg (Kd.S_ne HO_3.out BK105.out (by decide))); have n2_ := zA (Kd.R_over' (v := (.slice (some ⟨go11, 0, none⟩) x3_1.length co11)) (by (with_reducible repeat (first | apply zRa | apply zRn | apply zRd)); exact HO108.out) (Kd.S_typed HO_3.out) (by decide) hg); have n3_ := zA ((by rw [hw]; exact below_set (HB.out) GB11.out : Below w.heap.size w w22)); clear HO_3 BK105; clear HO108 HB HO111; have HO_3 := n0_; have BK105 := n1_; have HO108 := n2_; have HB := n3_; clear n0_ n1_ n2_ n3_; clear hg hw hp_; have q23 : (x14_1 : Int) ≤ ((l0.length : Int) : Int) := zde (by assumption); obtain ⟨i023, hi023, _, hsz23, _⟩ := info_parts info73; have hroom23 : l0.length ≤ c0 := HC0.out; have hC23 : Kd.C k73 _ (some ad104) l0.length l0 := HR0.out; have hcut23 := cut_to (P := Try.prog) 27 73 .i64 Try.underlying27 hi023 (some ad104) l0.length c0 x14_1 (zde (by assumption)) q23 hroom23; have hr23 := Kd.C_take (m := (x14_1 : Int).toNat) hC23 (by omega); have hy23 : y113.length = (x14_1 : Int).toNat := (by rw [Ny113.out, List.length_take]; omega); rw [← Ny113.out] at hr23; rw [← hy23] at hcut23; have HR116 := zA hr23; have HC116 := zA (show y113.length ≤ c0 from by omega); clear hr23 hC23 hroom23 hi023 hsz23; have KY23 := zA hy23; clear hy23; replace q23 := eq_true q23))
 go_loopg [29] k1 (fun kq v29 w' => ∃ (x3_2 : List (List Int)) (x29_2 : Int), v29 = .int .i64 x29_2 ∧ Aside0 (impl_delays.l1 kq l0 x3_2 x14_1 l0 (l0.length : Int) x14_1 y113 (y113.length : Int) x29_2 ((rd_T73 l0 x14_1).f0) ((rd_T73 l0 x14_1).f1) ((rd_T73 l0 x14_1).f2) ((rd_T73 l0 x14_1).f3) ((rd_T73 l0 x14_1).f4) = some r) ∧ Aside0 (kq ≤ k1) ∧ Aside0 (Kd.S (Kd.slice 3 (Kd.int .i64)) 24 w' w.heap.size (fun _ => True) (.slice (some ⟨go11, 0, none⟩) x3_1.length co11) x3_2) ∧ Aside0 (w'.heap[gb105]? = some (.cells #[.string ((rd_T73 l0 x14_1).f0), .int .i64 ((rd_T73 l0 x14_1).f1), .int .i64 ((rd_T73 l0 x14_1).f2), .int .i64 ((rd_T73 l0 x14_1).f3), .int .i64 ((rd_T73 l0 x14_1).f4)] 73 (0, 0))) ∧ Aside0 (Below w.heap.size w w'))
 case atStart => exact ⟨(y112), (0), (by first | rfl | (simp; done) | (simp [*]; done)), H', ⟨zlr _⟩, ⟨by (with_reducible repeat (first | apply zSa | apply zSn | apply zSd)); exact Kd.S_mono HO_3.out (fun _ hk => trivial)⟩, ⟨by (with_reducible repeat (first | refine zkn ?_ _ | refine zkd ?_ | refine zka ?_ _)); exact BK105.out⟩, ⟨by repeat (first | (with_reducible first | exact HB.out | apply zba | apply zbn | apply zbd | refine below_set ?_ GE105.out) | exact HB.out)⟩⟩
 clear H'
 try clear c1
 try clear p1
 try clear q1
 try clear hx1
 try clear hf1
 try clear c2
 try clear c2b0
 try clear c2b1
 try clear p2
 try clear q2
 try clear hx2
 try clear hf2
 try clear c3
 try clear c3b0
 try clear c3b1
 try clear c5
 try clear c6
 try clear c6b0
 try clear c7
 try clear c7b0
 try clear c8
 try clear c8b0
 try clear c10
 try clear c10b0
 try clear p10
 try clear q10
 try clear hx10
 try clear c11
 try clear p11
 try clear q11
 try clear hx11
 try clear hf11
 try clear c12
 try clear c12b0
 try clear c13
 try clear c13b0
 try clear c13b1
 try clear c21
 try clear hx21
 try clear hf21
 try clear q23
 try clear hcz15_0
 try clear hcz15_1
 try clear hcz15_2
 try clear hcz15_3
 try clear hcz15_4
 try clear hfz15_0
 try clear hfz15_1
 try clear hfz15_2
 try clear hfz15_3
 try clear hfz15_4
 try clear hx104_0
 try clear hx104_1
 try clear hx104_2
 try clear hx104_3
 try clear hx104_4
 try clear hx11_0
 try clear hx21_0
 try clear p104
 try clear p11
 try clear p2
 try clear q104
 try clear q11
 try clear q23
 obtain ⟨x3_2, x29_2, rfl, HA, HK2, HO_3, BK105, HB⟩ := hrel
 have hl3_2 := (zSr HO_3.out).1
 rw [hl3_2] at HO_3
 (try simp only [hl3_2])
 (try simp only [hl3_2] at BK105)
 cases gk with
 | zero => exact absurd HA.out (by simp [impl_delays.l1])
 | succ k2 =>
 have H := HA.out
 clear HA
 simp only [impl_delays.l1] at H
 by_cases c24 : x29_2 < (y113.length : Int)
 rotate_left
 · rw [if_neg c24] at H
   have c24b0 : decide (x29_2 < (y113.length : Int)) = false := zdf c24
   have c24b0h := c24b0
   try simp only [hl3_2] at c24b0h
   clear c24
   have H' := zA H
   clear H
   go_wp2
   (try simp only [← hl3_2])
   go_roundg k2
   case measure => have := HK1.out; have := HK2.out; omega
   case rel => exact ⟨(x3_2), (wrap64 (x14_1 + 1)), (by first | rfl | (simp; done) | (simp [*]; done)), H', ⟨by have := HK1.out; have := HK2.out; omega⟩, ⟨by (try simp only [hl3_2]); (with_reducible repeat (first | apply zSa | apply zSn | apply zSd)); exact HO_3.out⟩, ⟨by repeat (first | (with_reducible first | exact HB.out | apply zba | apply zbn | apply zbd | refine below_set ?_ GE105.out) | exact HB.out)⟩⟩
 rw [if_pos c24] at H
 have c24b0 : decide (x29_2 < (y113.length : Int)) = true := zdt c24
 have c24b0h := c24b0
 try simp only [hl3_2] at c24b0h
 clear c24
 by_cases c25 : 0 ≤ x29_2
 rotate_left
 · rw [if_neg c25] at H
   exact absurd H (by simp)
 rw [if_pos c25] at H
 have c25b0 : decide (0 ≤ x29_2) = true := zdt c25
 clear c25
 by_cases c26 : x29_2 < (y113.length : Int)
 rotate_left
 · rw [if_neg c26] at H
   exact absurd H (by simp)
 rw [if_pos c26] at H
 have c26b0 : decide (x29_2 < (y113.length : Int)) = true := zdt c26
 have c26b0h := c26b0
 try simp only [hl3_2] at c26b0h
 clear c26
 replace H := zob H
 obtain ⟨t119, A270, H⟩ := H
 replace H : ((slices_Contains_int_int.f k2 t119 ((rd_T73 l0 x14_1).f1)).bind fun t122 => (if t122 = true then (if 0 ≤ x14_1 then (if x14_1 < (x3_2.length : Int) then (if x29_2 < ((rd_L4 x3_2 x14_1).length : Int) then (impl_delays.j2 k2 l0 (x3_2.set (x14_1 : Int).toNat ((rd_L4 x3_2 x14_1).set (x29_2 : Int).toNat 0)) x14_1 x29_2 l0 (l0.length : Int) x14_1 y113 (y113.length : Int) x29_2 ((rd_T73 l0 x14_1).f0) ((rd_T73 l0 x14_1).f1) ((rd_T73 l0 x14_1).f2) ((rd_T73 l0 x14_1).f3) ((rd_T73 l0 x14_1).f4) ((rd_T73 y113 x29_2).f0) ((rd_T73 y113 x29_2).f1) ((rd_T73 y113 x29_2).f2) ((rd_T73 y113 x29_2).f3) ((rd_T73 y113 x29_2).f4)) else (none)) else (none)) else (none)) else (impl_delays.j2 k2 l0 x3_2 x14_1 x29_2 l0 (l0.length : Int) x14_1 y113 (y113.length : Int) x29_2 ((rd_T73 l0 x14_1).f0) ((rd_T73 l0 x14_1).f1) ((rd_T73 l0 x14_1).f2) ((rd_T73 l0 x14_1).f3) ((rd_T73 l0 x14_1).f4) ((rd_T73 y113 x29_2).f0) ((rd_T73 y113 x29_2).f1) ((rd_T73 y113 x29_2).f2) ((rd_T73 y113 x29_2).f3) ((rd_T73 y113 x29_2).f4)))) = some r := H
 have A27 := zA A270
 clear A270
 replace H := zob H
 obtain ⟨t122, A280, H⟩ := H
 replace H : (if t122 = true then (if 0 ≤ x14_1 then (if x14_1 < (x3_2.length : Int) then (if x29_2 < ((rd_L4 x3_2 x14_1).length : Int) then (impl_delays.j2 k2 l0 (x3_2.set (x14_1 : Int).toNat ((rd_L4 x3_2 x14_1).set (x29_2 : Int).toNat 0)) x14_1 x29_2 l0 (l0.length : Int) x14_1 y113 (y113.length : Int) x29_2 ((rd_T73 l0 x14_1).f0) ((rd_T73 l0 x14_1).f1) ((rd_T73 l0 x14_1).f2) ((rd_T73 l0 x14_1).f3) ((rd_T73 l0 x14_1).f4) ((rd_T73 y113 x29_2).f0) ((rd_T73 y113 x29_2).f1) ((rd_T73 y113 x29_2).f2) ((rd_T73 y113 x29_2).f3) ((rd_T73 y113 x29_2).f4)) else (none)) else (none)) else (none)) else (impl_delays.j2 k2 l0 x3_2 x14_1 x29_2 l0 (l0.length : Int) x14_1 y113 (y113.length : Int) x29_2 ((rd_T73 l0 x14_1).f0) ((rd_T73 l0 x14_1).f1) ((rd_T73 l0 x14_1).f2) ((rd_T73 l0 x14_1).f3) ((rd_T73 l0 x14_1).f4) ((rd_T73 y113 x29_2).f0) ((rd_T73 y113 x29_2).f1) ((rd_T73 y113 x29_2).f2) ((rd_T73 y113 x29_2).f3) ((rd_T73 y113 x29_2).f4))) = some r := H
 have A28 := zA A280
 clear A280
 have HC29 := zA H
 clear H
 have p117 : 0 ≤ (x29_2 : Int) := zde (by assumption)
 have q117 : x29_2 < (y113.length : Int) := zde (by assumption)
 obtain ⟨ad117, e117, hx117_0, hx117_1, hx117_2, hx117_3, hx117_4⟩ := at_T73 HR116.out x29_2 p117 q117
 obtain rfl : ad104 = ad117 := (by injection e117)
 replace hx117_0 := zkep HB.out hx117_0
 replace hx117_1 := zkep HB.out hx117_1
 replace hx117_2 := zkep HB.out hx117_2
 replace hx117_3 := zkep HB.out hx117_3
 replace hx117_4 := zkep HB.out hx117_4
 replace p117 := eq_true p117
 replace q117 := eq_true q117
 try go_wp2_with (first | ((with_reducible refine gate_dst (N := 7) rfl ?_); refine box_event ?hg (N := 7) ?hd (cs := #[.string (⟨#[]⟩ : ByteArray), .int .i64 0, .int .i64 0, .int .i64 0, .int .i64 0]) (t := 73) ?hr ?_; (case hd => rfl); (case hg => rfl); (case hr => go_simp <;> rfl); intro gb118 hg w30 hbox hb; have n0_ := zA (Kd.S_below (by (with_reducible repeat (first | apply zSa | apply zSn | apply zSd)); exact HO_3.out) hb); have n1_ := zA (blk_below (g := gb105) (o := .cells #[.string ((rd_T73 l0 x14_1).f0), .int .i64 ((rd_T73 l0 x14_1).f1), .int .i64 ((rd_T73 l0 x14_1).f2), .int .i64 ((rd_T73 l0 x14_1).f3), .int .i64 ((rd_T73 l0 x14_1).f4)] 73 (0, 0)) (by (with_reducible repeat (first | refine zkn ?_ _ | refine zkd ?_ | refine zka ?_ _)); exact BK105.out) hb); have zs := zpair (by repeat (first | (with_reducible first | exact HB.out | apply zba | apply zbn | apply zbd | refine below_set ?_ GE105.out) | exact HB.out)) hb; have n2_ := zA (zs.1); have n3_ := zA (hbox); have n4_ := zA ((by rw [hg]; exact zs.2 : w.heap.size ≤ gb118)); have n5_ := n4_; have n6_ := zA ((by rw [hg]; exact Nat.ne_of_lt (zlt BK105.out (fun h => by (with_reducible repeat (first | refine zkn ?_ _ | refine zkd ?_ | refine zka ?_ _)); exact h)) : gb105 ≠ gb118)); have n7_ := zA (Ne.symm n6_.out); clear HO_3 BK105 HB; have HO_3 := n0_; have BK105 := n1_; have HB := n2_; have BK118 := n3_; have GW118 := n4_; have GE118 := n5_; have NB105_118 := n6_; have NB118_105 := n7_; clear n0_ n1_ n2_ n3_ n4_ n5_ n6_ n7_; clear zs hb hbox hg; have hnb31 := NB118_105.out; have hnc31 := NB105_118.out; obtain ⟨hcz32_0, hcz32_1, hcz32_2, hcz32_3, hcz32_4⟩ := zc5 w30 (.string (⟨#[]⟩ : ByteArray)) (.int .i64 0) (.int .i64 0) (.int .i64 0) (.int .i64 0) BK118.out; obtain ⟨hfz32_0, hfz32_1, hfz32_2, hfz32_3, hfz32_4⟩ := zf5 BK118.out))
 have n0_ : Aside0 (Kd.S (Kd.slice 3 (Kd.int .i64)) 24 (((((w30.setCell ⟨gb118, 0, none⟩ (.string ((rd_T73 y113 x29_2).f0))).setCell ⟨gb118, 1, none⟩ (.int .i64 ((rd_T73 y113 x29_2).f1))).setCell ⟨gb118, 2, none⟩ (.int .i64 ((rd_T73 y113 x29_2).f2))).setCell ⟨gb118, 3, none⟩ (.int .i64 ((rd_T73 y113 x29_2).f3))).setCell ⟨gb118, 4, none⟩ (.int .i64 ((rd_T73 y113 x29_2).f4))) w.heap.size (fun _ => True) (.slice (some ⟨go11, 0, none⟩) x3_2.length co11) x3_2) := ⟨by (with_reducible repeat (first | apply zSa | apply zSn | apply zSd)); exact Kd.S_mono (Kd.S_far (p := ⟨gb118, 4, none⟩) (Kd.S_far (p := ⟨gb118, 3, none⟩) (Kd.S_far (p := ⟨gb118, 2, none⟩) (Kd.S_far (p := ⟨gb118, 1, none⟩) (Kd.S_far (p := ⟨gb118, 0, none⟩) (Kd.S_types HO_3.out BK118.out (by decide)) (fun _ hk => hk.2) (.string ((rd_T73 y113 x29_2).f0))) (fun _ hk => hk.2) (.int .i64 ((rd_T73 y113 x29_2).f1))) (fun _ hk => hk.2) (.int .i64 ((rd_T73 y113 x29_2).f2))) (fun _ hk => hk.2) (.int .i64 ((rd_T73 y113 x29_2).f3))) (fun _ hk => hk.2) (.int .i64 ((rd_T73 y113 x29_2).f4))) (fun _ hk => trivial)⟩
 have n1_ : Aside0 ((((((w30.setCell ⟨gb118, 0, none⟩ (.string ((rd_T73 y113 x29_2).f0))).setCell ⟨gb118, 1, none⟩ (.int .i64 ((rd_T73 y113 x29_2).f1))).setCell ⟨gb118, 2, none⟩ (.int .i64 ((rd_T73 y113 x29_2).f2))).setCell ⟨gb118, 3, none⟩ (.int .i64 ((rd_T73 y113 x29_2).f3))).setCell ⟨gb118, 4, none⟩ (.int .i64 ((rd_T73 y113 x29_2).f4))).heap[gb105]? = some (.cells #[.string ((rd_T73 l0 x14_1).f0), .int .i64 ((rd_T73 l0 x14_1).f1), .int .i64 ((rd_T73 l0 x14_1).f2), .int .i64 ((rd_T73 l0 x14_1).f3), .int .i64 ((rd_T73 l0 x14_1).f4)] 73 (0, 0))) := ⟨by (with_reducible repeat (first | refine zkn ?_ _ | refine zkd ?_ | refine zka ?_ _)); refine blk_far ?_ NB105_118.out _; (with_reducible repeat (first | refine zkn ?_ _ | refine zkd ?_ | refine zka ?_ _)); refine blk_far ?_ NB105_118.out _; (with_reducible repeat (first | refine zkn ?_ _ | refine zkd ?_ | refine zka ?_ _)); refine blk_far ?_ NB105_118.out _; (with_reducible repeat (first | refine zkn ?_ _ | refine zkd ?_ | refine zka ?_ _)); refine blk_far ?_ NB105_118.out _; (with_reducible repeat (first | refine zkn ?_ _ | refine zkd ?_ | refine zka ?_ _)); refine blk_far ?_ NB105_118.out _; (with_reducible repeat (first | refine zkn ?_ _ | refine zkd ?_ | refine zka ?_ _)); exact BK105.out⟩
 have n2_ : Aside0 ((((((w30.setCell ⟨gb118, 0, none⟩ (.string ((rd_T73 y113 x29_2).f0))).setCell ⟨gb118, 1, none⟩ (.int .i64 ((rd_T73 y113 x29_2).f1))).setCell ⟨gb118, 2, none⟩ (.int .i64 ((rd_T73 y113 x29_2).f2))).setCell ⟨gb118, 3, none⟩ (.int .i64 ((rd_T73 y113 x29_2).f3))).setCell ⟨gb118, 4, none⟩ (.int .i64 ((rd_T73 y113 x29_2).f4))).heap[gb118]? = some (.cells #[.string ((rd_T73 y113 x29_2).f0), .int .i64 ((rd_T73 y113 x29_2).f1), .int .i64 ((rd_T73 y113 x29_2).f2), .int .i64 ((rd_T73 y113 x29_2).f3), .int .i64 ((rd_T73 y113 x29_2).f4)] 73 (0, 0))) := ⟨by (with_reducible repeat (first | refine zkn ?_ _ | refine zkd ?_ | refine zka ?_ _)); refine blk_put (cs := #[.string ((rd_T73 y113 x29_2).f0), .int .i64 ((rd_T73 y113 x29_2).f1), .int .i64 ((rd_T73 y113 x29_2).f2), .int .i64 ((rd_T73 y113 x29_2).f3), .int .i64 0]) ?_ 4 _ rfl; (with_reducible repeat (first | refine zkn ?_ _ | refine zkd ?_ | refine zka ?_ _)); refine blk_put (cs := #[.string ((rd_T73 y113 x29_2).f0), .int .i64 ((rd_T73 y113 x29_2).f1), .int .i64 ((rd_T73 y113 x29_2).f2), .int .i64 0, .int .i64 0]) ?_ 3 _ rfl; (with_reducible repeat (first | refine zkn ?_ _ | refine zkd ?_ | refine zka ?_ _)); refine blk_put (cs := #[.string ((rd_T73 y113 x29_2).f0), .int .i64 ((rd_T73 y113 x29_2).f1), .int .i64 0, .int .i64 0, .int .i64 0]) ?_ 2 _ rfl; (with_reducible repeat (first | refine zkn ?_ _ | refine zkd ?_ | refine zka ?_ _)); refine blk_put (cs := #[.string ((rd_T73 y113 x29_2).f0), .int .i64 0, .int .i64 0, .int .i64 0, .int .i64 0]) ?_ 1 _ rfl; (with_reducible repeat (first | refine zkn ?_ _ | refine zkd ?_ | refine zka ?_ _)); refine blk_put (cs := #[.string (⟨#[]⟩ : ByteArray), .int .i64 0, .int .i64 0, .int .i64 0, .int .i64 0]) ?_ 0 _ rfl; (with_reducible repeat (first | refine zkn ?_ _ | refine zkd ?_ | refine zka ?_ _)); exact BK118.out⟩
 have n3_ : Aside0 (Below w.heap.size w (((((w30.setCell ⟨gb118, 0, none⟩ (.string ((rd_T73 y113 x29_2).f0))).setCell ⟨gb118, 1, none⟩ (.int .i64 ((rd_T73 y113 x29_2).f1))).setCell ⟨gb118, 2, none⟩ (.int .i64 ((rd_T73 y113 x29_2).f2))).setCell ⟨gb118, 3, none⟩ (.int .i64 ((rd_T73 y113 x29_2).f3))).setCell ⟨gb118, 4, none⟩ (.int .i64 ((rd_T73 y113 x29_2).f4)))) := ⟨by repeat (first | (with_reducible first | exact HB.out | apply zba | apply zbn | apply zbd | refine below_set ?_ GE105.out | refine below_set ?_ GE118.out) | exact HB.out)⟩
 (try clear HO_3)
 (try clear BK105)
 (try clear BK118)
 (try clear HB)
 generalize (((((w30.setCell ⟨gb118, 0, none⟩ (.string ((rd_T73 y113 x29_2).f0))).setCell ⟨gb118, 1, none⟩ (.int .i64 ((rd_T73 y113 x29_2).f1))).setCell ⟨gb118, 2, none⟩ (.int .i64 ((rd_T73 y113 x29_2).f2))).setCell ⟨gb118, 3, none⟩ (.int .i64 ((rd_T73 y113 x29_2).f3))).setCell ⟨gb118, 4, none⟩ (.int .i64 ((rd_T73 y113 x29_2).f4))) = w33 at n0_ n1_ n2_ n3_ ⊢
 have HO_3 := n0_
 have BK105 := n1_
 have BK118 := n2_
 have HB := n3_
 clear n0_ n1_ n2_ n3_
 have n0_ := zA (zSd HO_3.out)
 have n1_ := zA (zkd BK105.out)
 have n2_ := zA (zkd BK118.out)
 have n3_ := zA (zbd HB.out)
 clear HO_3
 clear BK105
 clear BK118
 clear HB
 have HO_3 := n0_
 have BK105 := n1_
 have BK118 := n2_
 have HB := n3_
 clear n0_ n1_ n2_ n3_
 refine start_ (n := 5) (S := fun w' => w'.cell? ⟨gb118, 0, none⟩ = some (.string ((rd_T73 y113 x29_2).f0)) ∧ w'.cell? ⟨gb118, 1, none⟩ = some (.int .i64 ((rd_T73 y113 x29_2).f1)) ∧ w'.cell? ⟨gb118, 2, none⟩ = some (.int .i64 ((rd_T73 y113 x29_2).f2)) ∧ w'.cell? ⟨gb118, 3, none⟩ = some (.int .i64 ((rd_T73 y113 x29_2).f3)) ∧ w'.cell? ⟨gb118, 4, none⟩ = some (.int .i64 ((rd_T73 y113 x29_2).f4)) ∧ w'.cell? ⟨gb105, 0, none⟩ = some (.string ((rd_T73 l0 x14_1).f0)) ∧ w'.cell? ⟨gb105, 1, none⟩ = some (.int .i64 ((rd_T73 l0 x14_1).f1)) ∧ w'.cell? ⟨gb105, 2, none⟩ = some (.int .i64 ((rd_T73 l0 x14_1).f2)) ∧ w'.cell? ⟨gb105, 3, none⟩ = some (.int .i64 ((rd_T73 l0 x14_1).f3)) ∧ w'.cell? ⟨gb105, 4, none⟩ = some (.int .i64 ((rd_T73 l0 x14_1).f4))) (ds := []) #[false, false, false, false, false] (by kernel_rfl) rfl rfl ⟨(blk_cell BK118.out 0).trans rfl, (blk_cell BK118.out 1).trans rfl, (blk_cell BK118.out 2).trans rfl, (blk_cell BK118.out 3).trans rfl, (blk_cell BK118.out 4).trans rfl, (blk_cell BK105.out 0).trans rfl, (blk_cell BK105.out 1).trans rfl, (blk_cell BK105.out 2).trans rfl, (blk_cell BK105.out 3).trans rfl, (blk_cell BK105.out 4).trans rfl⟩ (fun hHeld => ?_)
 generalize w33.drew = w34 at HO_3 BK105 BK118 HB hHeld ⊢
 refine pure_ (i := 2) (N := some 36) (v := ?_) (a' := ?_) #[false, false, true, false, false] rfl rfl (by kernel_rfl) (fun _ _ _ h => h) (Or.inl ⟨by rfl, ?_⟩) ?_ ?_
 rotate_left
 · intro w'
   go_simp
   with_reducible rfl
 rotate_left
 · simp only [Act.put, List.setIfInBounds_toArray, List.set_cons_zero, List.set_cons_succ, i64_w, i32_w]
   rfl
 refine take_ (i := 0) (N := some 34) (v := ?_) (a' := ?_) #[true, false, true, false, false] rfl rfl (by kernel_rfl) (fun _ _ _ h => h) (Or.inl ⟨by rfl, ?_⟩) hHeld ?_ ?_
 rotate_left
 · rintro w' ⟨s0, s1, s2, s3, s4, s5, s6, s7, s8, s9⟩
   go_simp
   with_reducible rfl
 rotate_left
 · simp only [Act.put, List.setIfInBounds_toArray, List.set_cons_zero, List.set_cons_succ, i64_w, i32_w]
   rfl
 refine take_ (i := 3) (N := some 37) (v := ?_) (a' := ?_) #[true, false, true, true, false] rfl rfl (by kernel_rfl) (fun _ _ _ h => h) (Or.inl ⟨by rfl, ?_⟩) hHeld ?_ ?_
 rotate_left
 · rintro w' ⟨s0, s1, s2, s3, s4, s5, s6, s7, s8, s9⟩
   go_simp
   with_reducible rfl
 rotate_left
 · simp only [Act.put, List.setIfInBounds_toArray, List.set_cons_zero, List.set_cons_succ, i64_w, i32_w]
   rfl
 refine one_ (i := 1) (N := some 35) #[true, true, true, true, false] rfl rfl (by kernel_rfl) (by decide) (fun K hK => ?_)
 refine goes_ Try.func111 (by kernel_rfl) rfl #[.agg #[.string ((rd_T73 y113 x29_2).f0), .int .i64 ((rd_T73 y113 x29_2).f1), .int .i64 ((rd_T73 y113 x29_2).f2), .int .i64 ((rd_T73 y113 x29_2).f3), .int .i64 ((rd_T73 y113 x29_2).f4)]] (by rfl) rfl rfl (by (try simp only [List.map_toArray, List.map_cons, List.map_nil]); first | done | rfl | (simp only [List.length_drop, List.length_take]; rfl)) ?_
 with_reducible refine (impl_Instr_reads.calls k2 ((rd_T73 y113 x29_2).f0) ((rd_T73 y113 x29_2).f1) ((rd_T73 y113 x29_2).f2) ((rd_T73 y113 x29_2).f3) ((rd_T73 y113 x29_2).f4) t119 _ A27.out).mono ?_
 rintro e w35 ⟨v120, rfl, ho0, hb⟩
 refine ⟨_, rfl, ?_⟩
 have n0_ := zA (Kd.S_elder' (by (with_reducible repeat (first | apply zSa | apply zSn | apply zSd)); exact HO_3.out) (Kd.R_base ho0) hb)
 have n1_ := zA (Kd.R_lower ho0 (below_size (by repeat (first | (with_reducible first | exact HB.out | apply zba | apply zbn | apply zbd | refine below_set ?_ GE105.out | refine below_set ?_ GE118.out) | exact HB.out))))
 have n2_ := zA (blk_below (g := gb105) (o := .cells #[.string ((rd_T73 l0 x14_1).f0), .int .i64 ((rd_T73 l0 x14_1).f1), .int .i64 ((rd_T73 l0 x14_1).f2), .int .i64 ((rd_T73 l0 x14_1).f3), .int .i64 ((rd_T73 l0 x14_1).f4)] 73 (0, 0)) (by (with_reducible repeat (first | refine zkn ?_ _ | refine zkd ?_ | refine zka ?_ _)); exact BK105.out) hb)
 have n3_ := zA (blk_below (g := gb118) (o := .cells #[.string ((rd_T73 y113 x29_2).f0), .int .i64 ((rd_T73 y113 x29_2).f1), .int .i64 ((rd_T73 y113 x29_2).f2), .int .i64 ((rd_T73 y113 x29_2).f3), .int .i64 ((rd_T73 y113 x29_2).f4)] 73 (0, 0)) (by (with_reducible repeat (first | refine zkn ?_ _ | refine zkd ?_ | refine zka ?_ _)); exact BK118.out) hb)
 have n4_ := zA (below_step (by repeat (first | (with_reducible first | exact HB.out | apply zba | apply zbn | apply zbd | refine below_set ?_ GE105.out | refine below_set ?_ GE118.out) | exact HB.out)) hb)
 clear HO_3
 clear BK105
 clear BK118
 clear HB
 have HO_3 := n0_
 have HO121 := n1_
 have BK105 := n2_
 have BK118 := n3_
 have HB := n4_
 clear n0_ n1_ n2_ n3_ n4_
 (try clear hb)
 (try clear hb2)
 (try clear hk)
 (try clear hi)
 (try clear ho0)
 obtain ⟨Ao36, co36, eo36⟩ := Kd.R_slice HO121.out
 (first | subst eo36 | (injection eo36 with f1_ f2_ f3_; have f4_ := f1_.symm; have f5_ := f3_.symm; clear f1_ f2_ f3_; subst f4_; subst f5_))
 refine hK.out _ _ ⟨(blk_cell BK118.out 0).trans rfl, (blk_cell BK118.out 1).trans rfl, (blk_cell BK118.out 2).trans rfl, (blk_cell BK118.out 3).trans rfl, (blk_cell BK118.out 4).trans rfl, (blk_cell BK105.out 0).trans rfl, (blk_cell BK105.out 1).trans rfl, (blk_cell BK105.out 2).trans rfl, (blk_cell BK105.out 3).trans rfl, (blk_cell BK105.out 4).trans rfl⟩ (fun hHeld => ?_)
 clear hK K
 refine norm_ (a' := ?_) ?_ ?_
 rotate_left
 · show Act.put _ (some 35) _ = _
   simp only [Act.put, List.setIfInBounds_toArray, List.set_cons_zero, List.set_cons_succ, i64_w, i32_w]
   rfl
 refine one_ (i := 4) (N := some 38) #[true, true, true, true, true] rfl rfl (by kernel_rfl) (by decide) (fun K hK => ?_)
 refine goes_ Try.func110 (by kernel_rfl) rfl #[.slice Ao36 t119.length co36, .int .i64 ((rd_T73 l0 x14_1).f1)] (by rfl) rfl rfl (by (try simp only [List.map_toArray, List.map_cons, List.map_nil]); first | done | rfl | (simp only [List.length_drop, List.length_take]; rfl)) ?_
 with_reducible refine (slices_Contains_int_int.calls k2 _ _ t119 ((rd_T73 l0 x14_1).f1) t122 _ ?side1 ?side2 A28.out).mono ?_
 (case side1 => repeat (first | exact (zRr HO121.out).2.2 | (with_reducible first | refine zCa ?_ _ | refine zCn ?_ _ | refine zCd ?_)))
 (case side2 => exact (zRr HO121.out).2.1)
 rintro e w' ⟨rfl, ⟨nd, rfl⟩⟩
 refine ⟨_, rfl, ?_⟩
 refine hK.out _ _ ⟨(blk_cell BK118.out 0).trans rfl, (blk_cell BK118.out 1).trans rfl, (blk_cell BK118.out 2).trans rfl, (blk_cell BK118.out 3).trans rfl, (blk_cell BK118.out 4).trans rfl, (blk_cell BK105.out 0).trans rfl, (blk_cell BK105.out 1).trans rfl, (blk_cell BK105.out 2).trans rfl, (blk_cell BK105.out 3).trans rfl, (blk_cell BK105.out 4).trans rfl⟩ (fun hHeld => ?_)
 clear hK K
 refine norm_ (a' := ?_) ?_ ?_
 rotate_left
 · show Act.put _ (some 38) _ = _
   simp only [Act.put, List.setIfInBounds_toArray, List.set_cons_zero, List.set_cons_succ, i64_w, i32_w]
   rfl
 refine done_ (by kernel_rfl) ?_
 (try (rw [drewN_self w35]; generalize hq_ : World.drewN w35 _ = w35; have n0_ := zA (Kd.S_at hq_ HO_3.out); have n1_ := zA (Kd.R_at hq_ HO121.out); have n2_ := zA (blk_at hq_ BK105.out); have n3_ := zA (blk_at hq_ BK118.out); have n4_ := zA (below_at hq_ HB.out); clear hq_ HO_3 HO121 BK105 BK118 HB; have HO_3 := n0_; have HO121 := n1_; have BK105 := n2_; have BK118 := n3_; have HB := n4_; clear n0_ n1_ n2_ n3_ n4_))
 go_upto_if 38 with (fail)
 go_cut [] (fun wc => ∃ (kq : Nat) (x3_28 : List (List Int)), Aside0 (impl_delays.j2 kq l0 x3_28 x14_1 x29_2 l0 (l0.length : Int) x14_1 y113 (y113.length : Int) x29_2 ((rd_T73 l0 x14_1).f0) ((rd_T73 l0 x14_1).f1) ((rd_T73 l0 x14_1).f2) ((rd_T73 l0 x14_1).f3) ((rd_T73 l0 x14_1).f4) ((rd_T73 y113 x29_2).f0) ((rd_T73 y113 x29_2).f1) ((rd_T73 y113 x29_2).f2) ((rd_T73 y113 x29_2).f3) ((rd_T73 y113 x29_2).f4) = some r) ∧ Aside0 (kq ≤ k2) ∧ Aside0 (Kd.S (Kd.slice 3 (Kd.int .i64)) 24 wc w.heap.size (fun _ => True) (.slice (some ⟨go11, 0, none⟩) x3_2.length co11) x3_28) ∧ Aside0 (wc.heap[gb105]? = some (.cells #[.string ((rd_T73 l0 x14_1).f0), .int .i64 ((rd_T73 l0 x14_1).f1), .int .i64 ((rd_T73 l0 x14_1).f2), .int .i64 ((rd_T73 l0 x14_1).f3), .int .i64 ((rd_T73 l0 x14_1).f4)] 73 (0, 0))) ∧ Aside0 (wc.heap[gb118]? = some (.cells #[.string ((rd_T73 y113 x29_2).f0), .int .i64 ((rd_T73 y113 x29_2).f1), .int .i64 ((rd_T73 y113 x29_2).f2), .int .i64 ((rd_T73 y113 x29_2).f3), .int .i64 ((rd_T73 y113 x29_2).f4)] 73 (0, 0))) ∧ Aside0 (Below w.heap.size w wc))
 case first =>
   have H := HC29.out
   clear HC29
   by_cases c37 : t122 = true
   rotate_left
   · replace c37 := zbf c37
     subst c37
     replace H : (impl_delays.j2 k2 l0 x3_2 x14_1 x29_2 l0 (l0.length : Int) x14_1 y113 (y113.length : Int) x29_2 ((rd_T73 l0 x14_1).f0) ((rd_T73 l0 x14_1).f1) ((rd_T73 l0 x14_1).f2) ((rd_T73 l0 x14_1).f3) ((rd_T73 l0 x14_1).f4) ((rd_T73 y113 x29_2).f0) ((rd_T73 y113 x29_2).f1) ((rd_T73 y113 x29_2).f2) ((rd_T73 y113 x29_2).f3) ((rd_T73 y113 x29_2).f4)) = some r := by rw [if_neg (show ¬ (false = true) by decide)] at H; exact H
     have H' := zA H
     clear H
     go_wp2
     go_meet
     case rel => exact ⟨_, (x3_2), H', ⟨by have := HK1.out; have := HK2.out; first | omega | exact zlr _⟩, ⟨by (try simp only [hl3_2]); (with_reducible repeat (first | apply zSa | apply zSn | apply zSd)); exact Kd.S_mono HO_3.out (fun _ hk => trivial)⟩, ⟨by (try simp only [hl3_2]); (with_reducible repeat (first | refine zkn ?_ _ | refine zkd ?_ | refine zka ?_ _)); exact BK105.out⟩, ⟨by (try simp only [hl3_2]); (with_reducible repeat (first | refine zkn ?_ _ | refine zkd ?_ | refine zka ?_ _)); exact BK118.out⟩, ⟨by repeat (first | (with_reducible first | exact HB.out | apply zba | apply zbn | apply zbd | refine below_set ?_ GE105.out | refine below_set ?_ GE118.out) | exact HB.out)⟩⟩
   subst c37
   replace H : (if 0 ≤ x14_1 then (if x14_1 < (x3_2.length : Int) then (if x29_2 < ((rd_L4 x3_2 x14_1).length : Int) then (impl_delays.j2 k2 l0 (x3_2.set (x14_1 : Int).toNat ((rd_L4 x3_2 x14_1).set (x29_2 : Int).toNat 0)) x14_1 x29_2 l0 (l0.length : Int) x14_1 y113 (y113.length : Int) x29_2 ((rd_T73 l0 x14_1).f0) ((rd_T73 l0 x14_1).f1) ((rd_T73 l0 x14_1).f2) ((rd_T73 l0 x14_1).f3) ((rd_T73 l0 x14_1).f4) ((rd_T73 y113 x29_2).f0) ((rd_T73 y113 x29_2).f1) ((rd_T73 y113 x29_2).f2) ((rd_T73 y113 x29_2).f3) ((rd_T73 y113 x29_2).f4)) else (none)) else (none)) else (none)) = some r := by rw [if_pos rfl] at H; exact H
   by_cases c38 : 0 ≤ x14_1
   rotate_left
   · rw [if_neg c38] at H
     exact absurd H (by simp)
   rw [if_pos c38] at H
   have c38b0 : decide (0 ≤ x14_1) = true := zdt c38
   clear c38
   (first | rw [c38b0] | (simp only [i64_w, i32_w]; rw [c38b0]) | skip)
   by_cases c39 : x14_1 < (x3_2.length : Int)
   rotate_left
   · rw [if_neg c39] at H
     exact absurd H (by simp)
   rw [if_pos c39] at H
   have c39b0 : decide (x14_1 < (x3_2.length : Int)) = true := zdt c39
   clear c39
   by_cases c40 : x29_2 < ((rd_L4 x3_2 x14_1).length : Int)
   rotate_left
   · rw [if_neg c40] at H
     exact absurd H (by simp)
   rw [if_pos c40] at H
   have c40b0 : decide (x29_2 < ((rd_L4 x3_2 x14_1).length : Int)) = true := zdt c40
   clear c40
   obtain ⟨y124, hy124⟩ : ∃ y_ : List Int, y_ = ((rd_L4 x3_2 x14_1).set (x29_2 : Int).toNat 0) := ⟨_, rfl⟩
   replace H : (impl_delays.j2 k2 l0 (x3_2.set (x14_1 : Int).toNat y124) x14_1 x29_2 l0 (l0.length : Int) x14_1 y113 (y113.length : Int) x29_2 ((rd_T73 l0 x14_1).f0) ((rd_T73 l0 x14_1).f1) ((rd_T73 l0 x14_1).f2) ((rd_T73 l0 x14_1).f3) ((rd_T73 l0 x14_1).f4) ((rd_T73 y113 x29_2).f0) ((rd_T73 y113 x29_2).f1) ((rd_T73 y113 x29_2).f2) ((rd_T73 y113 x29_2).f3) ((rd_T73 y113 x29_2).f4)) = some r := by first | (rw [hy124]; with_reducible exact H) | (have H2_ := (Option.bind_some _ _).symm.trans H; rw [hy124]; with_reducible exact H2_) | (have H2_ := (Option.bind_some _ _).symm.trans H; with_reducible exact H2_) | with_reducible exact H | (rw [hy124]; exact H) | exact H
   have Ny124 := zA hy124
   clear hy124
   obtain ⟨y126, hy126⟩ : ∃ y_ : List (List Int), y_ = (x3_2.set (x14_1 : Int).toNat y124) := ⟨_, rfl⟩
   replace H : (impl_delays.j2 k2 l0 y126 x14_1 x29_2 l0 (l0.length : Int) x14_1 y113 (y113.length : Int) x29_2 ((rd_T73 l0 x14_1).f0) ((rd_T73 l0 x14_1).f1) ((rd_T73 l0 x14_1).f2) ((rd_T73 l0 x14_1).f3) ((rd_T73 l0 x14_1).f4) ((rd_T73 y113 x29_2).f0) ((rd_T73 y113 x29_2).f1) ((rd_T73 y113 x29_2).f2) ((rd_T73 y113 x29_2).f3) ((rd_T73 y113 x29_2).f4)) = some r := by first | (rw [hy126]; with_reducible exact H) | (have H2_ := (Option.bind_some _ _).symm.trans H; rw [hy126]; with_reducible exact H2_) | (have H2_ := (Option.bind_some _ _).symm.trans H; with_reducible exact H2_) | with_reducible exact H | (rw [hy126]; exact H) | exact H
   have Ny126 := zA hy126
   clear hy126
   have H' := zA H
   clear H
   have p123 : 0 ≤ (x14_1 : Int) := zde (by assumption)
   have q123 : x14_1 < (x3_2.length : Int) := zde (by assumption)
   obtain ⟨ad123, A123_0, c123_0, e123, hx123_0, hl123_0, hi123_0⟩ := at_L4 (zSr HO_3.out).2.2 x14_1 p123 q123
   obtain rfl : (⟨go11, 0, none⟩ : Addr) = ad123 := (by injection e123)
   obtain ⟨ce123, hce123, hMe123, hcc123⟩ := Kd.S_get HO_3.out [] x14_1 p123 (by first | exact q123 | exact zde (by assumption) | (have e_ := (zSr HO_3.out).1; omega))
   obtain ⟨ve123_0, rfl, ge123_0⟩ := hMe123
   have hv123_0 := hcc123 0 _ rfl
   rw [Nat.add_zero, show ((Kd.slice 3 (Kd.int .i64))).sz = 1 from rfl, Nat.mul_one] at hv123_0
   replace hv123_0 := zsi (hv123_0.symm.trans hx123_0)
   rw [hv123_0] at ge123_0
   have HL123_0 := zA (show Kd.R (Kd.int .i64) 3 _ _ _ _ (rd_L4 x3_2 x14_1) from ge123_0)
   clear hv123_0 ge123_0
   have HX123_0 := zA hx123_0
   clear hcc123 hce123
   (first | simp only [add_plain] at hx123_0 | simp only [add_at] at hx123_0 | simp only [Addr.add, Nat.zero_add] at hx123_0 | skip)
   have HR123_0 := zA hi123_0
   have HC123_0 := zA hl123_0
   clear hi123_0 hl123_0
   replace p123 := eq_true p123
   replace q123 := eq_true q123
   have p41 : 0 ≤ (x29_2 : Int) := zde (by assumption)
   have q41 : (x29_2 : Int) < (((rd_L4 x3_2 x14_1).length : Int) : Int) := zde (by assumption)
   obtain ⟨go41, co41, eo41, gb41, gl41, cl41, HG41⟩ := Kd.R_form HL123_0.out (by omega)
   (first | cases eo41 | (injection eo41 with ea_ en_ ec_; (first | subst ea_ | (injection ea_ with ea_; subst ea_)); subst ec_; clear en_))
   have GB41 := zA gb41
   have GG41 := zA HG41
   clear gb41 gl41 HG41
   obtain ⟨hx41_0, hf41_0⟩ := Kd.R_celln 0 HL123_0.out (x29_2 : Int) p41 q41
   replace p41 := eq_true p41
   replace q41 := eq_true q41
   have n_ := zA (Kd.S_mono (ok' := (fun k_ => some k_ ≠ (.slice Ao36 t119.length co36 : Value).ownBlock)) HO_3.out (fun k_ hk => hk.2))
   clear HO_3
   have HO_3 := n_
   clear n_
   have hq42 : (x14_1 : Int) < (x3_2.length : Int) := (by have h_ : (x14_1 : Int) < ((x3_2.length : Int) : Int) := zde (by assumption); first | exact h_ | (have e_ := (zSr HO_3.out).1; omega) | simpa only [List.length_set, List.length_set] using h_)
   obtain ⟨oki42, ce42, hcl42, hM42, hcc42, hok42, hbk42⟩ := Kd.S_borrow HO_3.out [] (x14_1 : Int) (zde (by assumption)) hq42
   obtain ⟨ve42_0, rfl, ge42_0⟩ := (id hM42)
   have hv42 := hcc42 0 _ rfl
   rw [Nat.add_zero, show ((Kd.slice 3 (Kd.int .i64))).sz = 1 from rfl, Nat.mul_one] at hv42
   replace hv42 := zsi (hv42.symm.trans HX123_0.out)
   subst hv42
   clear hcc42 hcl42
   replace ge42_0 := (show Kd.R (Kd.int .i64) 3 _ _ _ _ (rd_L4 x3_2 x14_1) from ge42_0)
   have HP42 := Kd.R_putg ge42_0 (x29_2 : Int) 0
   go_wp2_with (first | ((with_reducible refine gate_store (t := 3) (p := 44) rfl ?_); refine store_event (t := 3) (p := 44) (v := ?vo_w43) (w1 := (w35.setCell ⟨go41, (x29_2 : Int).toNat, none⟩ (.int .i64 0))) ?hg ?ho ?hn ?hr ?_; (case ho => rfl); (case hg => rfl); (case hn => rfl); (case hr => go_simp <;> rfl); intro w43 hw; have hg : w35.grownBy w43 (some go41) := (by rw [hw]; exact HP42.2); have hz_ : Kd.R (Kd.int .i64) 3 w43 w.heap.size oki42 (.slice (some ⟨go41, 0, none⟩) (rd_L4 x3_2 x14_1).length c123_0) y124 := (by rw [hw, Ny124.out]; exact HP42.1); have hp_ : Kd.S (Kd.slice 3 (Kd.int .i64)) 24 w43 w.heap.size (fun k_ => some k_ ≠ (.slice Ao36 t119.length co36 : Value).ownBlock) (.slice (some ⟨go11, 0, none⟩) x3_2.length co11) y126 := (by rw [Ny126.out]; exact hbk42 hg (fun k_ e_ => by injection e_ with e_; subst e_; exact ge42_0.1 _ rfl) (Kd.M_row hz_)); have hm_ := Kd.R_mono hz_ hok42; clear HP42 hbk42; have n0_ := zA (hp_); have n1_ := zA (blk_grown (g := gb105) (o := .cells #[.string ((rd_T73 l0 x14_1).f0), .int .i64 ((rd_T73 l0 x14_1).f1), .int .i64 ((rd_T73 l0 x14_1).f2), .int .i64 ((rd_T73 l0 x14_1).f3), .int .i64 ((rd_T73 l0 x14_1).f4)] 73 (0, 0)) (by (with_reducible repeat (first | refine zkn ?_ _ | refine zkd ?_ | refine zka ?_ _)); exact BK105.out) hg (Kd.R_ne HL123_0.out BK105.out (by decide))); have n2_ := zA (blk_grown (g := gb118) (o := .cells #[.string ((rd_T73 y113 x29_2).f0), .int .i64 ((rd_T73 y113 x29_2).f1), .int .i64 ((rd_T73 y113 x29_2).f2), .int .i64 ((rd_T73 y113 x29_2).f3), .int .i64 ((rd_T73 y113 x29_2).f4)] 73 (0, 0)) (by (with_reducible repeat (first | refine zkn ?_ _ | refine zkd ?_ | refine zka ?_ _)); exact BK118.out) hg (Kd.R_ne HL123_0.out BK118.out (by decide))); have n3_ := zA (Kd.R_grown1 (by (with_reducible repeat (first | apply zRa | apply zRn | apply zRd)); exact HO121.out) rfl hg ((HL123_0.out.1 _ rfl).1.2)); have n4_ := zA ((by rw [hw]; exact below_set (HB.out) GB41.out : Below w.heap.size w w43)); have n5_ := zA (hm_); have n6_ := zA ((zRr hm_).2.1); clear HO_3 BK105; clear BK118 HO121 HB; clear HL123_0; have HO_3 := n0_; have BK105 := n1_; have BK118 := n2_; have HO121 := n3_; have HB := n4_; have HL147 := n5_; have HC125 := n6_; clear n0_ n1_ n2_ n3_ n4_ n5_ n6_; clear hg hw hp_ hz_ hm_ hok42))
   go_meet
   case rel => exact ⟨_, (y126), H', ⟨by have := HK1.out; have := HK2.out; first | omega | exact zlr _⟩, ⟨by (try simp only [hl3_2]); (with_reducible repeat (first | apply zSa | apply zSn | apply zSd)); exact Kd.S_mono HO_3.out (fun _ hk => trivial)⟩, ⟨by (try simp only [hl3_2]); (with_reducible repeat (first | refine zkn ?_ _ | refine zkd ?_ | refine zka ?_ _)); exact BK105.out⟩, ⟨by (try simp only [hl3_2]); (with_reducible repeat (first | refine zkn ?_ _ | refine zkd ?_ | refine zka ?_ _)); exact BK118.out⟩, ⟨by repeat (first | (with_reducible first | exact HB.out | apply zba | apply zbn | apply zbd | refine below_set ?_ GE105.out | refine below_set ?_ GE118.out) | exact HB.out)⟩⟩
 clear HC29
 try clear c1
 try clear p1
 try clear q1
 try clear hx1
 try clear hf1
 try clear c2
 try clear c2b0
 try clear c2b1
 try clear p2
 try clear q2
 try clear hx2
 try clear hf2
 try clear c3
 try clear c3b0
 try clear c3b1
 try clear c4
 try clear p4
 try clear q4
 try clear hx4
 try clear hf4
 try clear c5
 try clear c6
 try clear c6b0
 try clear c7
 try clear c7b0
 try clear c8
 try clear c8b0
 try clear c10
 try clear c10b0
 try clear p10
 try clear q10
 try clear hx10
 try clear c11
 try clear p11
 try clear q11
 try clear hx11
 try clear hf11
 try clear c12
 try clear c12b0
 try clear p12
 try clear q12
 try clear hx12
 try clear c13
 try clear c13b0
 try clear c13b1
 try clear c21
 try clear hx21
 try clear hf21
 try clear q23
 try clear c24
 try clear c24b0
 try clear c25
 try clear c25b0
 try clear c26
 try clear c26b0
 try clear c31
 try clear c37
 try clear c38
 try clear c38b0
 try clear c39
 try clear c39b0
 try clear c40
 try clear c40b0
 try clear p41
 try clear q41
 try clear hx41
 try clear hf41
 try clear c42
 try clear q42
 try clear hcz15_0
 try clear hcz15_1
 try clear hcz15_2
 try clear hcz15_3
 try clear hcz15_4
 try clear hcz32_0
 try clear hcz32_1
 try clear hcz32_2
 try clear hcz32_3
 try clear hcz32_4
 try clear hfz15_0
 try clear hfz15_1
 try clear hfz15_2
 try clear hfz15_3
 try clear hfz15_4
 try clear hfz32_0
 try clear hfz32_1
 try clear hfz32_2
 try clear hfz32_3
 try clear hfz32_4
 try clear hx104_0
 try clear hx104_1
 try clear hx104_2
 try clear hx104_3
 try clear hx104_4
 try clear hx117_0
 try clear hx117_1
 try clear hx117_2
 try clear hx117_3
 try clear hx117_4
 try clear hx11_0
 try clear hx123_0
 try clear hx21_0
 try clear hx41_0
 try clear p1
 try clear p10
 try clear p104
 try clear p11
 try clear p117
 try clear p123
 try clear p2
 try clear p41
 try clear q1
 try clear q10
 try clear q104
 try clear q11
 try clear q117
 try clear q123
 try clear q2
 try clear q23
 try clear q41
 obtain ⟨kq, x3_28, HA, HJ28, HO_3, BK105, BK118, HB⟩ := hcut
 have hl3_28 := (zSr HO_3.out).1
 rw [hl3_28] at HO_3
 (try simp only [hl3_28])
 (try simp only [hl3_28] at BK105)
 (try simp only [hl3_28] at BK118)
 cases kq with
 | zero => exact absurd HA.out (by simp [impl_delays.j2])
 | succ kj28 =>
 have H := HA.out
 clear HA
 simp only [impl_delays.j2] at H
 have HC44 := zA H
 clear H
 have hnb45 := NB118_105.out
 have hnc45 := NB105_118.out
 obtain ⟨hcz46_0, hcz46_1, hcz46_2, hcz46_3, hcz46_4⟩ := zc5 wc (.string ((rd_T73 y113 x29_2).f0)) (.int .i64 ((rd_T73 y113 x29_2).f1)) (.int .i64 ((rd_T73 y113 x29_2).f2)) (.int .i64 ((rd_T73 y113 x29_2).f3)) (.int .i64 ((rd_T73 y113 x29_2).f4)) BK118.out
 obtain ⟨hfz46_0, hfz46_1, hfz46_2, hfz46_3, hfz46_4⟩ := zf5 BK118.out
 obtain ⟨hcz47_0, hcz47_1, hcz47_2, hcz47_3, hcz47_4⟩ := zc5 wc (.string ((rd_T73 l0 x14_1).f0)) (.int .i64 ((rd_T73 l0 x14_1).f1)) (.int .i64 ((rd_T73 l0 x14_1).f2)) (.int .i64 ((rd_T73 l0 x14_1).f3)) (.int .i64 ((rd_T73 l0 x14_1).f4)) BK105.out
 obtain ⟨hfz47_0, hfz47_1, hfz47_2, hfz47_3, hfz47_4⟩ := zf5 BK105.out
 go_upto_if 49 with (fail)
 go_cut [] (fun wc => ∃ (kq : Nat) (x3_43 : List (List Int)), Aside0 (impl_delays.j3 kq l0 x3_43 x14_1 x29_2 l0 (l0.length : Int) x14_1 y113 (y113.length : Int) x29_2 ((rd_T73 l0 x14_1).f0) ((rd_T73 l0 x14_1).f1) ((rd_T73 l0 x14_1).f2) ((rd_T73 l0 x14_1).f3) ((rd_T73 l0 x14_1).f4) ((rd_T73 y113 x29_2).f0) ((rd_T73 y113 x29_2).f1) ((rd_T73 y113 x29_2).f2) ((rd_T73 y113 x29_2).f3) ((rd_T73 y113 x29_2).f4) = some r) ∧ Aside0 (kq ≤ kj28) ∧ Aside0 (Kd.S (Kd.slice 3 (Kd.int .i64)) 24 wc w.heap.size (fun _ => True) (.slice (some ⟨go11, 0, none⟩) x3_28.length co11) x3_43) ∧ Aside0 (wc.heap[gb105]? = some (.cells #[.string ((rd_T73 l0 x14_1).f0), .int .i64 ((rd_T73 l0 x14_1).f1), .int .i64 ((rd_T73 l0 x14_1).f2), .int .i64 ((rd_T73 l0 x14_1).f3), .int .i64 ((rd_T73 l0 x14_1).f4)] 73 (0, 0))) ∧ Aside0 (wc.heap[gb118]? = some (.cells #[.string ((rd_T73 y113 x29_2).f0), .int .i64 ((rd_T73 y113 x29_2).f1), .int .i64 ((rd_T73 y113 x29_2).f2), .int .i64 ((rd_T73 y113 x29_2).f3), .int .i64 ((rd_T73 y113 x29_2).f4)] 73 (0, 0))) ∧ Aside0 (Below w.heap.size w wc))
 case first =>
   have H := HC44.out
   clear HC44
   by_cases c48 : ((rd_T73 y113 x29_2).f1) = ((rd_T73 l0 x14_1).f1)
   rotate_left
   · rw [if_neg c48] at H
     have c48b0 : (((rd_T73 y113 x29_2).f1) == ((rd_T73 l0 x14_1).f1)) = false := beq_eq_false_iff_ne.mpr c48
     have c48b1 : (((rd_T73 y113 x29_2).f1) != ((rd_T73 l0 x14_1).f1)) = true := bne_iff_ne.mpr c48
     (first | rw [c48b0] | (simp only [i64_w, i32_w]; rw [c48b0]) | skip)
     have H' := zA H
     clear H
     go_wp2
     go_meet
     case rel => exact ⟨_, (x3_28), H', ⟨by have := HK1.out; have := HK2.out; have := HJ28.out; first | omega | exact zlr _⟩, ⟨by (try simp only [hl3_2]); (try simp only [hl3_28]); (with_reducible repeat (first | apply zSa | apply zSn | apply zSd)); exact HO_3.out⟩, ⟨by (try simp only [hl3_2]); (try simp only [hl3_28]); (with_reducible repeat (first | refine zkn ?_ _ | refine zkd ?_ | refine zka ?_ _)); exact BK105.out⟩, ⟨by (try simp only [hl3_2]); (try simp only [hl3_28]); (with_reducible repeat (first | refine zkn ?_ _ | refine zkd ?_ | refine zka ?_ _)); exact BK118.out⟩, ⟨by repeat (first | (with_reducible first | exact HB.out | apply zba | apply zbn | apply zbd | refine below_set ?_ GE105.out | refine below_set ?_ GE118.out) | exact HB.out)⟩⟩
   rw [if_pos c48] at H
   have c48b0 : (((rd_T73 y113 x29_2).f1) == ((rd_T73 l0 x14_1).f1)) = true := beq_iff_eq.mpr c48
   have c48b1 : (((rd_T73 y113 x29_2).f1) != ((rd_T73 l0 x14_1).f1)) = false := bne_eq_false_iff_eq.mpr c48
   clear c48
   (first | rw [c48b0] | (simp only [i64_w, i32_w]; rw [c48b0]) | skip)
   by_cases c49 : 0 ≤ x14_1
   rotate_left
   · rw [if_neg c49] at H
     exact absurd H (by simp)
   rw [if_pos c49] at H
   have c49b0 : decide (0 ≤ x14_1) = true := zdt c49
   clear c49
   by_cases c50 : x14_1 < (x3_28.length : Int)
   rotate_left
   · rw [if_neg c50] at H
     exact absurd H (by simp)
   rw [if_pos c50] at H
   have c50b0 : decide (x14_1 < (x3_28.length : Int)) = true := zdt c50
   clear c50
   by_cases c51 : 0 ≤ x29_2
   rotate_left
   · rw [if_neg c51] at H
     exact absurd H (by simp)
   rw [if_pos c51] at H
   have c51b0 : decide (0 ≤ x29_2) = true := zdt c51
   clear c51
   by_cases c52 : x29_2 < ((rd_L4 x3_28 x14_1).length : Int)
   rotate_left
   · rw [if_neg c52] at H
     exact absurd H (by simp)
   rw [if_pos c52] at H
   have c52b0 : decide (x29_2 < ((rd_L4 x3_28 x14_1).length : Int)) = true := zdt c52
   clear c52
   obtain ⟨y128, hy128⟩ : ∃ y_ : List Int, y_ = ((rd_L4 x3_28 x14_1).set (x29_2 : Int).toNat 1) := ⟨_, rfl⟩
   replace H : (impl_delays.j3 kj28 l0 (x3_28.set (x14_1 : Int).toNat y128) x14_1 x29_2 l0 (l0.length : Int) x14_1 y113 (y113.length : Int) x29_2 ((rd_T73 l0 x14_1).f0) ((rd_T73 l0 x14_1).f1) ((rd_T73 l0 x14_1).f2) ((rd_T73 l0 x14_1).f3) ((rd_T73 l0 x14_1).f4) ((rd_T73 y113 x29_2).f0) ((rd_T73 y113 x29_2).f1) ((rd_T73 y113 x29_2).f2) ((rd_T73 y113 x29_2).f3) ((rd_T73 y113 x29_2).f4)) = some r := by first | (rw [hy128]; with_reducible exact H) | (have H2_ := (Option.bind_some _ _).symm.trans H; rw [hy128]; with_reducible exact H2_) | (have H2_ := (Option.bind_some _ _).symm.trans H; with_reducible exact H2_) | with_reducible exact H | (rw [hy128]; exact H) | exact H
   have Ny128 := zA hy128
   clear hy128
   obtain ⟨y130, hy130⟩ : ∃ y_ : List (List Int), y_ = (x3_28.set (x14_1 : Int).toNat y128) := ⟨_, rfl⟩
   replace H : (impl_delays.j3 kj28 l0 y130 x14_1 x29_2 l0 (l0.length : Int) x14_1 y113 (y113.length : Int) x29_2 ((rd_T73 l0 x14_1).f0) ((rd_T73 l0 x14_1).f1) ((rd_T73 l0 x14_1).f2) ((rd_T73 l0 x14_1).f3) ((rd_T73 l0 x14_1).f4) ((rd_T73 y113 x29_2).f0) ((rd_T73 y113 x29_2).f1) ((rd_T73 y113 x29_2).f2) ((rd_T73 y113 x29_2).f3) ((rd_T73 y113 x29_2).f4)) = some r := by first | (rw [hy130]; with_reducible exact H) | (have H2_ := (Option.bind_some _ _).symm.trans H; rw [hy130]; with_reducible exact H2_) | (have H2_ := (Option.bind_some _ _).symm.trans H; with_reducible exact H2_) | with_reducible exact H | (rw [hy130]; exact H) | exact H
   have Ny130 := zA hy130
   clear hy130
   have H' := zA H
   clear H
   have p127 : 0 ≤ (x14_1 : Int) := zde (by assumption)
   have q127 : x14_1 < (x3_28.length : Int) := zde (by assumption)
   obtain ⟨ad127, A127_0, c127_0, e127, hx127_0, hl127_0, hi127_0⟩ := at_L4 (zSr HO_3.out).2.2 x14_1 p127 q127
   obtain rfl : (⟨go11, 0, none⟩ : Addr) = ad127 := (by injection e127)
   obtain ⟨ce127, hce127, hMe127, hcc127⟩ := Kd.S_get HO_3.out [] x14_1 p127 (by first | exact q127 | exact zde (by assumption) | (have e_ := (zSr HO_3.out).1; omega))
   obtain ⟨ve127_0, rfl, ge127_0⟩ := hMe127
   have hv127_0 := hcc127 0 _ rfl
   rw [Nat.add_zero, show ((Kd.slice 3 (Kd.int .i64))).sz = 1 from rfl, Nat.mul_one] at hv127_0
   replace hv127_0 := zsi (hv127_0.symm.trans hx127_0)
   rw [hv127_0] at ge127_0
   have HL127_0 := zA (show Kd.R (Kd.int .i64) 3 _ _ _ _ (rd_L4 x3_28 x14_1) from ge127_0)
   clear hv127_0 ge127_0
   have HX127_0 := zA hx127_0
   clear hcc127 hce127
   (first | simp only [add_plain] at hx127_0 | simp only [add_at] at hx127_0 | simp only [Addr.add, Nat.zero_add] at hx127_0 | skip)
   have HR127_0 := zA hi127_0
   have HC127_0 := zA hl127_0
   clear hi127_0 hl127_0
   replace p127 := eq_true p127
   replace q127 := eq_true q127
   have p53 : 0 ≤ (x29_2 : Int) := zde (by assumption)
   have q53 : (x29_2 : Int) < (((rd_L4 x3_28 x14_1).length : Int) : Int) := zde (by assumption)
   obtain ⟨go53, co53, eo53, gb53, gl53, cl53, HG53⟩ := Kd.R_form HL127_0.out (by omega)
   (first | cases eo53 | (injection eo53 with ea_ en_ ec_; (first | subst ea_ | (injection ea_ with ea_; subst ea_)); subst ec_; clear en_))
   have GB53 := zA gb53
   have GG53 := zA HG53
   clear gb53 gl53 HG53
   obtain ⟨hx53_0, hf53_0⟩ := Kd.R_celln 0 HL127_0.out (x29_2 : Int) p53 q53
   replace p53 := eq_true p53
   replace q53 := eq_true q53
   have hq54 : (x14_1 : Int) < (x3_28.length : Int) := (by have h_ : (x14_1 : Int) < ((x3_28.length : Int) : Int) := zde (by assumption); first | exact h_ | (have e_ := (zSr HO_3.out).1; omega) | simpa only [List.length_set, List.length_set] using h_)
   obtain ⟨oki54, ce54, hcl54, hM54, hcc54, hok54, hbk54⟩ := Kd.S_borrow HO_3.out [] (x14_1 : Int) (zde (by assumption)) hq54
   obtain ⟨ve54_0, rfl, ge54_0⟩ := (id hM54)
   have hv54 := hcc54 0 _ rfl
   rw [Nat.add_zero, show ((Kd.slice 3 (Kd.int .i64))).sz = 1 from rfl, Nat.mul_one] at hv54
   replace hv54 := zsi (hv54.symm.trans HX127_0.out)
   subst hv54
   clear hcc54 hcl54
   replace ge54_0 := (show Kd.R (Kd.int .i64) 3 _ _ _ _ (rd_L4 x3_28 x14_1) from ge54_0)
   have HP54 := Kd.R_putg ge54_0 (x29_2 : Int) 1
   go_wp2_with (first | ((with_reducible refine gate_store (t := 3) (p := 55) rfl ?_); refine store_event (t := 3) (p := 55) (v := ?vo_w55) (w1 := (wc.setCell ⟨go53, (x29_2 : Int).toNat, none⟩ (.int .i64 1))) ?hg ?ho ?hn ?hr ?_; (case ho => rfl); (case hg => rfl); (case hn => rfl); (case hr => go_simp <;> rfl); intro w55 hw; have hg : wc.grownBy w55 (some go53) := (by rw [hw]; exact HP54.2); have hz_ : Kd.R (Kd.int .i64) 3 w55 w.heap.size oki54 (.slice (some ⟨go53, 0, none⟩) (rd_L4 x3_28 x14_1).length c127_0) y128 := (by rw [hw, Ny128.out]; exact HP54.1); have hp_ : Kd.S (Kd.slice 3 (Kd.int .i64)) 24 w55 w.heap.size (fun _ => True) (.slice (some ⟨go11, 0, none⟩) x3_28.length co11) y130 := (by rw [Ny130.out]; exact hbk54 hg (fun k_ e_ => by injection e_ with e_; subst e_; exact ge54_0.1 _ rfl) (Kd.M_row hz_)); have hm_ := Kd.R_mono hz_ hok54; clear HP54 hbk54; have n0_ := zA (hp_); have n1_ := zA (blk_grown (g := gb105) (o := .cells #[.string ((rd_T73 l0 x14_1).f0), .int .i64 ((rd_T73 l0 x14_1).f1), .int .i64 ((rd_T73 l0 x14_1).f2), .int .i64 ((rd_T73 l0 x14_1).f3), .int .i64 ((rd_T73 l0 x14_1).f4)] 73 (0, 0)) (by (with_reducible repeat (first | refine zkn ?_ _ | refine zkd ?_ | refine zka ?_ _)); exact BK105.out) hg (Kd.R_ne HL127_0.out BK105.out (by decide))); have n2_ := zA (blk_grown (g := gb118) (o := .cells #[.string ((rd_T73 y113 x29_2).f0), .int .i64 ((rd_T73 y113 x29_2).f1), .int .i64 ((rd_T73 y113 x29_2).f2), .int .i64 ((rd_T73 y113 x29_2).f3), .int .i64 ((rd_T73 y113 x29_2).f4)] 73 (0, 0)) (by (with_reducible repeat (first | refine zkn ?_ _ | refine zkd ?_ | refine zka ?_ _)); exact BK118.out) hg (Kd.R_ne HL127_0.out BK118.out (by decide))); have n3_ := zA ((by rw [hw]; exact below_set (HB.out) GB53.out : Below w.heap.size w w55)); have n4_ := zA (hm_); have n5_ := zA ((zRr hm_).2.1); clear HO_3 BK105; clear BK118 HB; clear HL127_0; have HO_3 := n0_; have BK105 := n1_; have BK118 := n2_; have HB := n3_; have HL148 := n4_; have HC129 := n5_; clear n0_ n1_ n2_ n3_ n4_ n5_; clear hg hw hp_ hz_ hm_ hok54))
   go_meet
   case rel => exact ⟨_, (y130), H', ⟨by have := HK1.out; have := HK2.out; have := HJ28.out; first | omega | exact zlr _⟩, ⟨by (try simp only [hl3_2]); (try simp only [hl3_28]); (with_reducible repeat (first | apply zSa | apply zSn | apply zSd)); exact HO_3.out⟩, ⟨by (try simp only [hl3_2]); (try simp only [hl3_28]); (with_reducible repeat (first | refine zkn ?_ _ | refine zkd ?_ | refine zka ?_ _)); exact BK105.out⟩, ⟨by (try simp only [hl3_2]); (try simp only [hl3_28]); (with_reducible repeat (first | refine zkn ?_ _ | refine zkd ?_ | refine zka ?_ _)); exact BK118.out⟩, ⟨by repeat (first | (with_reducible first | exact HB.out | apply zba | apply zbn | apply zbd | refine below_set ?_ GE105.out | refine below_set ?_ GE118.out) | exact HB.out)⟩⟩
 clear HC44
 try clear c1
 try clear p1
 try clear q1
 try clear hx1
 try clear hf1
 try clear c2
 try clear c2b0
 try clear c2b1
 try clear p2
 try clear q2
 try clear hx2
 try clear hf2
 try clear c3
 try clear c3b0
 try clear c3b1
 try clear c4
 try clear p4
 try clear q4
 try clear hx4
 try clear hf4
 try clear c5
 try clear p5
 try clear q5
 try clear hx5
 try clear hf5
 try clear c6
 try clear c6b0
 try clear c7
 try clear c7b0
 try clear c8
 try clear c8b0
 try clear c10
 try clear c10b0
 try clear p10
 try clear q10
 try clear hx10
 try clear c11
 try clear p11
 try clear q11
 try clear hx11
 try clear hf11
 try clear c12
 try clear c12b0
 try clear p12
 try clear q12
 try clear hx12
 try clear c13
 try clear c13b0
 try clear c13b1
 try clear c21
 try clear hx21
 try clear hf21
 try clear q23
 try clear c24
 try clear c24b0
 try clear c25
 try clear c25b0
 try clear c26
 try clear c26b0
 try clear c31
 try clear c37
 try clear c38
 try clear c38b0
 try clear c39
 try clear c39b0
 try clear c40
 try clear c40b0
 try clear p41
 try clear q41
 try clear hx41
 try clear hf41
 try clear c42
 try clear q42
 try clear c45
 try clear c48
 try clear c48b0
 try clear c48b1
 try clear c49
 try clear c49b0
 try clear c50
 try clear c50b0
 try clear c51
 try clear c51b0
 try clear c52
 try clear c52b0
 try clear p53
 try clear q53
 try clear hx53
 try clear hf53
 try clear c54
 try clear q54
 try clear hcz15_0
 try clear hcz15_1
 try clear hcz15_2
 try clear hcz15_3
 try clear hcz15_4
 try clear hcz32_0
 try clear hcz32_1
 try clear hcz32_2
 try clear hcz32_3
 try clear hcz32_4
 try clear hcz46_0
 try clear hcz46_1
 try clear hcz46_2
 try clear hcz46_3
 try clear hcz46_4
 try clear hcz47_0
 try clear hcz47_1
 try clear hcz47_2
 try clear hcz47_3
 try clear hcz47_4
 try clear hfz15_0
 try clear hfz15_1
 try clear hfz15_2
 try clear hfz15_3
 try clear hfz15_4
 try clear hfz32_0
 try clear hfz32_1
 try clear hfz32_2
 try clear hfz32_3
 try clear hfz32_4
 try clear hfz46_0
 try clear hfz46_1
 try clear hfz46_2
 try clear hfz46_3
 try clear hfz46_4
 try clear hfz47_0
 try clear hfz47_1
 try clear hfz47_2
 try clear hfz47_3
 try clear hfz47_4
 try clear hx104_0
 try clear hx104_1
 try clear hx104_2
 try clear hx104_3
 try clear hx104_4
 try clear hx117_0
 try clear hx117_1
 try clear hx117_2
 try clear hx117_3
 try clear hx117_4
 try clear hx11_0
 try clear hx123_0
 try clear hx127_0
 try clear hx21_0
 try clear hx41_0
 try clear hx53_0
 try clear p1
 try clear p10
 try clear p104
 try clear p11
 try clear p117
 try clear p12
 try clear p123
 try clear p127
 try clear p2
 try clear p4
 try clear p41
 try clear p53
 try clear q1
 try clear q10
 try clear q104
 try clear q11
 try clear q117
 try clear q12
 try clear q123
 try clear q127
 try clear q2
 try clear q23
 try clear q4
 try clear q41
 try clear q42
 try clear q53
 obtain ⟨kq, x3_43, HA, HJ43, HO_3, BK105, BK118, HB⟩ := hcut
 have hl3_43 := (zSr HO_3.out).1
 rw [hl3_43] at HO_3
 (try simp only [hl3_43])
 (try simp only [hl3_43] at BK105)
 (try simp only [hl3_43] at BK118)
 cases kq with
 | zero => exact absurd HA.out (by simp [impl_delays.j3])
 | succ kj43 =>
 have H := HA.out
 clear HA
 simp only [impl_delays.j3] at H
 obtain ⟨ji56, hji56⟩ : ∃ j_ : Int, (wrap64 (x29_2 + 1)) = j_ := ⟨_, rfl⟩
 replace H : (if 0 ≤ (ji56) then (if (ji56) ≤ x14_1 then (if x14_1 ≤ (l0.length : Int) then ((slices_ContainsFunc_impl_delays_1.f kj43 ((l0.take (x14_1 : Int).toNat).drop ((ji56) : Int).toNat) [(⟨((rd_T73 y113 x29_2).f0), ((rd_T73 y113 x29_2).f1), ((rd_T73 y113 x29_2).f2), ((rd_T73 y113 x29_2).f3), ((rd_T73 y113 x29_2).f4)⟩ : S73)]).bind fun t135 => ((impl_Instr_reads.f kj43 ((rd_T73 l0 x14_1).f0) ((rd_T73 l0 x14_1).f1) ((rd_T73 l0 x14_1).f2) ((rd_T73 l0 x14_1).f3) ((rd_T73 l0 x14_1).f4)).bind fun t136 => ((slices_Contains_int_int.f kj43 t136 ((rd_T73 y113 x29_2).f1)).bind fun t139 => (if t139 = true then (if t135 = true then (impl_delays.l1 kj43 l0 x3_43 x14_1 l0 (l0.length : Int) x14_1 y113 (y113.length : Int) ji56 ((rd_T73 l0 x14_1).f0) ((rd_T73 l0 x14_1).f1) ((rd_T73 l0 x14_1).f2) ((rd_T73 l0 x14_1).f3) ((rd_T73 l0 x14_1).f4)) else (if 0 ≤ x14_1 then (if x14_1 < (x3_43.length : Int) then (if 0 ≤ x29_2 then (if x29_2 < ((rd_L4 x3_43 x14_1).length : Int) then ((impl_Instr_cost.f ((rd_T73 y113 x29_2).f0) ((rd_T73 y113 x29_2).f1) ((rd_T73 y113 x29_2).f2) ((rd_T73 y113 x29_2).f3) ((rd_T73 y113 x29_2).f4)).bind fun t143 => (impl_delays.l1 kj43 l0 (x3_43.set (x14_1 : Int).toNat ((rd_L4 x3_43 x14_1).set (x29_2 : Int).toNat (mx (rd (rd_L4 x3_43 x14_1) x29_2) t143))) x14_1 l0 (l0.length : Int) x14_1 y113 (y113.length : Int) ji56 ((rd_T73 l0 x14_1).f0) ((rd_T73 l0 x14_1).f1) ((rd_T73 l0 x14_1).f2) ((rd_T73 l0 x14_1).f3) ((rd_T73 l0 x14_1).f4))) else (none)) else (none)) else (none)) else (none))) else (impl_delays.l1 kj43 l0 x3_43 x14_1 l0 (l0.length : Int) x14_1 y113 (y113.length : Int) ji56 ((rd_T73 l0 x14_1).f0) ((rd_T73 l0 x14_1).f1) ((rd_T73 l0 x14_1).f2) ((rd_T73 l0 x14_1).f3) ((rd_T73 l0 x14_1).f4)))))) else (none)) else (none)) else (none)) = some r := by first | (rw [hji56] at H; exact H) | (simp only [hji56] at H ⊢; exact H)
 have hji56w : (IntKind.i64.wrap (x29_2 + 1)) = ji56 := (i64_w _).trans hji56
 by_cases c57 : 0 ≤ (ji56)
 rotate_left
 · rw [if_neg c57] at H
   exact absurd H (by simp)
 rw [if_pos c57] at H
 have c57b0 := eq_true c57
 have c57b1 : decide (0 ≤ (ji56)) = true := zdt c57
 clear c57
 by_cases c58 : (ji56) ≤ x14_1
 rotate_left
 · rw [if_neg c58] at H
   exact absurd H (by simp)
 rw [if_pos c58] at H
 have c58b0 := eq_true c58
 have c58b1 : decide ((ji56) ≤ x14_1) = true := zdt c58
 clear c58
 by_cases c59 : x14_1 ≤ (l0.length : Int)
 rotate_left
 · rw [if_neg c59] at H
   exact absurd H (by simp)
 rw [if_pos c59] at H
 have c59b0 := eq_true c59
 have c59b1 : decide (x14_1 ≤ (l0.length : Int)) = true := zdt c59
 clear c59
 obtain ⟨y131, hy131⟩ : ∃ y_ : List (S73), y_ = ((l0.take (x14_1 : Int).toNat).drop ((ji56) : Int).toNat) := ⟨_, rfl⟩
 replace H : ((slices_ContainsFunc_impl_delays_1.f kj43 y131 [(⟨((rd_T73 y113 x29_2).f0), ((rd_T73 y113 x29_2).f1), ((rd_T73 y113 x29_2).f2), ((rd_T73 y113 x29_2).f3), ((rd_T73 y113 x29_2).f4)⟩ : S73)]).bind fun t135 => ((impl_Instr_reads.f kj43 ((rd_T73 l0 x14_1).f0) ((rd_T73 l0 x14_1).f1) ((rd_T73 l0 x14_1).f2) ((rd_T73 l0 x14_1).f3) ((rd_T73 l0 x14_1).f4)).bind fun t136 => ((slices_Contains_int_int.f kj43 t136 ((rd_T73 y113 x29_2).f1)).bind fun t139 => (if t139 = true then (if t135 = true then (impl_delays.l1 kj43 l0 x3_43 x14_1 l0 (l0.length : Int) x14_1 y113 (y113.length : Int) ji56 ((rd_T73 l0 x14_1).f0) ((rd_T73 l0 x14_1).f1) ((rd_T73 l0 x14_1).f2) ((rd_T73 l0 x14_1).f3) ((rd_T73 l0 x14_1).f4)) else (if 0 ≤ x14_1 then (if x14_1 < (x3_43.length : Int) then (if 0 ≤ x29_2 then (if x29_2 < ((rd_L4 x3_43 x14_1).length : Int) then ((impl_Instr_cost.f ((rd_T73 y113 x29_2).f0) ((rd_T73 y113 x29_2).f1) ((rd_T73 y113 x29_2).f2) ((rd_T73 y113 x29_2).f3) ((rd_T73 y113 x29_2).f4)).bind fun t143 => (impl_delays.l1 kj43 l0 (x3_43.set (x14_1 : Int).toNat ((rd_L4 x3_43 x14_1).set (x29_2 : Int).toNat (mx (rd (rd_L4 x3_43 x14_1) x29_2) t143))) x14_1 l0 (l0.length : Int) x14_1 y113 (y113.length : Int) ji56 ((rd_T73 l0 x14_1).f0) ((rd_T73 l0 x14_1).f1) ((rd_T73 l0 x14_1).f2) ((rd_T73 l0 x14_1).f3) ((rd_T73 l0 x14_1).f4))) else (none)) else (none)) else (none)) else (none))) else (impl_delays.l1 kj43 l0 x3_43 x14_1 l0 (l0.length : Int) x14_1 y113 (y113.length : Int) ji56 ((rd_T73 l0 x14_1).f0) ((rd_T73 l0 x14_1).f1) ((rd_T73 l0 x14_1).f2) ((rd_T73 l0 x14_1).f3) ((rd_T73 l0 x14_1).f4)))))) = some r := by first | (rw [hy131]; with_reducible exact H) | (have H2_ := (Option.bind_some _ _).symm.trans H; rw [hy131]; with_reducible exact H2_) | (have H2_ := (Option.bind_some _ _).symm.trans H; with_reducible exact H2_) | with_reducible exact H | (rw [hy131]; exact H) | exact H
 have Ny131 := zA hy131
 clear hy131
 replace H := zob H
 obtain ⟨t135, A600, H⟩ := H
 replace H : ((impl_Instr_reads.f kj43 ((rd_T73 l0 x14_1).f0) ((rd_T73 l0 x14_1).f1) ((rd_T73 l0 x14_1).f2) ((rd_T73 l0 x14_1).f3) ((rd_T73 l0 x14_1).f4)).bind fun t136 => ((slices_Contains_int_int.f kj43 t136 ((rd_T73 y113 x29_2).f1)).bind fun t139 => (if t139 = true then (if t135 = true then (impl_delays.l1 kj43 l0 x3_43 x14_1 l0 (l0.length : Int) x14_1 y113 (y113.length : Int) ji56 ((rd_T73 l0 x14_1).f0) ((rd_T73 l0 x14_1).f1) ((rd_T73 l0 x14_1).f2) ((rd_T73 l0 x14_1).f3) ((rd_T73 l0 x14_1).f4)) else (if 0 ≤ x14_1 then (if x14_1 < (x3_43.length : Int) then (if 0 ≤ x29_2 then (if x29_2 < ((rd_L4 x3_43 x14_1).length : Int) then ((impl_Instr_cost.f ((rd_T73 y113 x29_2).f0) ((rd_T73 y113 x29_2).f1) ((rd_T73 y113 x29_2).f2) ((rd_T73 y113 x29_2).f3) ((rd_T73 y113 x29_2).f4)).bind fun t143 => (impl_delays.l1 kj43 l0 (x3_43.set (x14_1 : Int).toNat ((rd_L4 x3_43 x14_1).set (x29_2 : Int).toNat (mx (rd (rd_L4 x3_43 x14_1) x29_2) t143))) x14_1 l0 (l0.length : Int) x14_1 y113 (y113.length : Int) ji56 ((rd_T73 l0 x14_1).f0) ((rd_T73 l0 x14_1).f1) ((rd_T73 l0 x14_1).f2) ((rd_T73 l0 x14_1).f3) ((rd_T73 l0 x14_1).f4))) else (none)) else (none)) else (none)) else (none))) else (impl_delays.l1 kj43 l0 x3_43 x14_1 l0 (l0.length : Int) x14_1 y113 (y113.length : Int) ji56 ((rd_T73 l0 x14_1).f0) ((rd_T73 l0 x14_1).f1) ((rd_T73 l0 x14_1).f2) ((rd_T73 l0 x14_1).f3) ((rd_T73 l0 x14_1).f4))))) = some r := H
 have A60 := zA A600
 clear A600
 replace H := zob H
 obtain ⟨t136, A610, H⟩ := H
 replace H : ((slices_Contains_int_int.f kj43 t136 ((rd_T73 y113 x29_2).f1)).bind fun t139 => (if t139 = true then (if t135 = true then (impl_delays.l1 kj43 l0 x3_43 x14_1 l0 (l0.length : Int) x14_1 y113 (y113.length : Int) ji56 ((rd_T73 l0 x14_1).f0) ((rd_T73 l0 x14_1).f1) ((rd_T73 l0 x14_1).f2) ((rd_T73 l0 x14_1).f3) ((rd_T73 l0 x14_1).f4)) else (if 0 ≤ x14_1 then (if x14_1 < (x3_43.length : Int) then (if 0 ≤ x29_2 then (if x29_2 < ((rd_L4 x3_43 x14_1).length : Int) then ((impl_Instr_cost.f ((rd_T73 y113 x29_2).f0) ((rd_T73 y113 x29_2).f1) ((rd_T73 y113 x29_2).f2) ((rd_T73 y113 x29_2).f3) ((rd_T73 y113 x29_2).f4)).bind fun t143 => (impl_delays.l1 kj43 l0 (x3_43.set (x14_1 : Int).toNat ((rd_L4 x3_43 x14_1).set (x29_2 : Int).toNat (mx (rd (rd_L4 x3_43 x14_1) x29_2) t143))) x14_1 l0 (l0.length : Int) x14_1 y113 (y113.length : Int) ji56 ((rd_T73 l0 x14_1).f0) ((rd_T73 l0 x14_1).f1) ((rd_T73 l0 x14_1).f2) ((rd_T73 l0 x14_1).f3) ((rd_T73 l0 x14_1).f4))) else (none)) else (none)) else (none)) else (none))) else (impl_delays.l1 kj43 l0 x3_43 x14_1 l0 (l0.length : Int) x14_1 y113 (y113.length : Int) ji56 ((rd_T73 l0 x14_1).f0) ((rd_T73 l0 x14_1).f1) ((rd_T73 l0 x14_1).f2) ((rd_T73 l0 x14_1).f3) ((rd_T73 l0 x14_1).f4)))) = some r := H
 have A61 := zA A610
 clear A610
 replace H := zob H
 obtain ⟨t139, A620, H⟩ := H
 replace H : (if t139 = true then (if t135 = true then (impl_delays.l1 kj43 l0 x3_43 x14_1 l0 (l0.length : Int) x14_1 y113 (y113.length : Int) ji56 ((rd_T73 l0 x14_1).f0) ((rd_T73 l0 x14_1).f1) ((rd_T73 l0 x14_1).f2) ((rd_T73 l0 x14_1).f3) ((rd_T73 l0 x14_1).f4)) else (if 0 ≤ x14_1 then (if x14_1 < (x3_43.length : Int) then (if 0 ≤ x29_2 then (if x29_2 < ((rd_L4 x3_43 x14_1).length : Int) then ((impl_Instr_cost.f ((rd_T73 y113 x29_2).f0) ((rd_T73 y113 x29_2).f1) ((rd_T73 y113 x29_2).f2) ((rd_T73 y113 x29_2).f3) ((rd_T73 y113 x29_2).f4)).bind fun t143 => (impl_delays.l1 kj43 l0 (x3_43.set (x14_1 : Int).toNat ((rd_L4 x3_43 x14_1).set (x29_2 : Int).toNat (mx (rd (rd_L4 x3_43 x14_1) x29_2) t143))) x14_1 l0 (l0.length : Int) x14_1 y113 (y113.length : Int) ji56 ((rd_T73 l0 x14_1).f0) ((rd_T73 l0 x14_1).f1) ((rd_T73 l0 x14_1).f2) ((rd_T73 l0 x14_1).f3) ((rd_T73 l0 x14_1).f4))) else (none)) else (none)) else (none)) else (none))) else (impl_delays.l1 kj43 l0 x3_43 x14_1 l0 (l0.length : Int) x14_1 y113 (y113.length : Int) ji56 ((rd_T73 l0 x14_1).f0) ((rd_T73 l0 x14_1).f1) ((rd_T73 l0 x14_1).f2) ((rd_T73 l0 x14_1).f3) ((rd_T73 l0 x14_1).f4))) = some r := H
 have A62 := zA A620
 clear A620
 by_cases c63 : t139 = true
 rotate_left
 · replace c63 := zbf c63
   subst c63
   replace H : (impl_delays.l1 kj43 l0 x3_43 x14_1 l0 (l0.length : Int) x14_1 y113 (y113.length : Int) ji56 ((rd_T73 l0 x14_1).f0) ((rd_T73 l0 x14_1).f1) ((rd_T73 l0 x14_1).f2) ((rd_T73 l0 x14_1).f3) ((rd_T73 l0 x14_1).f4)) = some r := by rw [if_neg (show ¬ (false = true) by decide)] at H; exact H
   have H' := zA H
   clear H
   have q86 : (x14_1 : Int) ≤ ((l0.length : Int) : Int) := zde (by assumption)
   obtain ⟨i086, hi086, _, hsz86, _⟩ := info_parts info73
   have hroom86 : l0.length ≤ c0 := HC0.out
   have hC86 : Kd.C k73 _ (some ad104) l0.length l0 := HR0.out
   have ql86 : ((ji56) : Int) ≤ (x14_1 : Int) := zde (by assumption)
   have q086 : (0 : Int) ≤ ((ji56) : Int) := zde (by assumption)
   have hcut86 := cut_mid (P := Try.prog) 27 73 .i64 .i64 Try.underlying27 hi086 5 hsz86 (some ad104) l0.length c0 (ji56) x14_1 q086 ql86 q86 hroom86
   have hr86 := Kd.C_mid (lo := ((ji56) : Int).toNat) (hi := (x14_1 : Int).toNat) (c := c0) hC86 (by omega) (by omega) hroom86
   obtain ⟨A86, hA86⟩ : ∃ A1, A1 = (if c0 = ((ji56) : Int).toNat then (some ad104) else ((some ad104) : Option Addr).map (·.add (((ji56) : Int).toNat * 5))) := ⟨_, rfl⟩
   obtain ⟨c86, hc86⟩ : ∃ c1, c1 = c0 - ((ji56) : Int).toNat := ⟨_, rfl⟩
   have hy86 : y131.length = (x14_1 : Int).toNat - ((ji56) : Int).toNat := (by rw [Ny131.out, List.length_drop, List.length_take] <;> omega)
   rw [show ((l0).take (x14_1 : Int).toNat).drop ((ji56) : Int).toNat = y131 from Ny131.out.symm] at hr86
   replace hr86 : Kd.C k73 _ A86 y131.length y131 := (by rw [hA86]; exact hr86)
   rw [← hy86, ← hA86, ← hc86] at hcut86
   have HR134 := zA hr86
   have HC134 := zA (show y131.length ≤ c86 from by rw [hy86, hc86]; exact Nat.sub_le_sub_right (Nat.le_trans (by omega) hroom86) _)
   clear hr86 hC86 hroom86 hi086 hsz86 hc86
   have KY86 := zA hy86
   have KA86 := zA hA86
   clear hy86 hA86
   replace q86 := eq_true q86
   try go_wp2_with (first | ((with_reducible refine gate_callee (f := 106) rfl ?_); refine goesL_ (some 62) rfl rfl Try.func106 (by kernel_rfl) rfl #[.slice A86 y131.length c86, .func (Fn.func 112) #[] #[.pointer (some ⟨gb118, 0, none⟩)]] rfl (by (try simp only [List.map_toArray, List.map_cons, List.map_nil]); first | done | rfl | (simp only [List.length_drop, List.length_take]; rfl)) ?_; (with_reducible refine (slices_ContainsFunc_impl_delays_1.calls kj43 _ _ y131 _ 1 [(⟨((rd_T73 y113 x29_2).f0), ((rd_T73 y113 x29_2).f1), ((rd_T73 y113 x29_2).f2), ((rd_T73 y113 x29_2).f3), ((rd_T73 y113 x29_2).f4)⟩ : S73)] t135 _ ?side1 ?side2 ?side3 ?side4 A60.out).mono ?_); (case side1 => repeat (first | exact (zCb HR134.out HB.out) | (with_reducible first | refine zCa ?_ _ | refine zCn ?_ _ | refine zCd ?_))); (case side2 => exact HC134.out); (case side3 => exact box_C (g := gb118) (o := .cells #[.string ((rd_T73 y113 x29_2).f0), .int .i64 ((rd_T73 y113 x29_2).f1), .int .i64 ((rd_T73 y113 x29_2).f2), .int .i64 ((rd_T73 y113 x29_2).f3), .int .i64 ((rd_T73 y113 x29_2).f4)] 73 (0, 0)) (by (with_reducible repeat (first | refine zkn ?_ _ | refine zkd ?_ | refine zka ?_ _)); exact BK118.out) rfl (k73.K_of_M (k73_mkM _ 0 (fun _ => True) _))); (case side4 => exact zlr _); rintro e w87 ⟨rfl, hb⟩; refine ⟨_, rfl, ?_⟩; have n0_ := zA (Kd.S_below (by (with_reducible repeat (first | apply zSa | apply zSn | apply zSd)); exact HO_3.out) hb); have n1_ := zA (blk_below (g := gb105) (o := .cells #[.string ((rd_T73 l0 x14_1).f0), .int .i64 ((rd_T73 l0 x14_1).f1), .int .i64 ((rd_T73 l0 x14_1).f2), .int .i64 ((rd_T73 l0 x14_1).f3), .int .i64 ((rd_T73 l0 x14_1).f4)] 73 (0, 0)) (by (with_reducible repeat (first | refine zkn ?_ _ | refine zkd ?_ | refine zka ?_ _)); exact BK105.out) hb); have n2_ := zA (blk_below (g := gb118) (o := .cells #[.string ((rd_T73 y113 x29_2).f0), .int .i64 ((rd_T73 y113 x29_2).f1), .int .i64 ((rd_T73 y113 x29_2).f2), .int .i64 ((rd_T73 y113 x29_2).f3), .int .i64 ((rd_T73 y113 x29_2).f4)] 73 (0, 0)) (by (with_reducible repeat (first | refine zkn ?_ _ | refine zkd ?_ | refine zka ?_ _)); exact BK118.out) hb); have n3_ := zA (below_step (by repeat (first | (with_reducible first | exact HB.out | apply zba | apply zbn | apply zbd | refine below_set ?_ GE105.out | refine below_set ?_ GE118.out) | exact HB.out)) hb); clear HO_3 BK105; clear BK118 HB; have HO_3 := n0_; have BK105 := n1_; have BK118 := n2_; have HB := n3_; clear n0_ n1_ n2_ n3_; (try clear hb)))
   have n0_ := zA (zSd HO_3.out)
   have n1_ := zA (zkd BK105.out)
   have n2_ := zA (zkd BK118.out)
   have n3_ := zA (zbd HB.out)
   clear HO_3
   clear BK105
   clear BK118
   clear HB
   have HO_3 := n0_
   have BK105 := n1_
   have BK118 := n2_
   have HB := n3_
   clear n0_ n1_ n2_ n3_
   refine start_ (n := 9) (S := fun w' => w'.cell? ⟨gb105, 0, none⟩ = some (.string ((rd_T73 l0 x14_1).f0)) ∧ w'.cell? ⟨gb105, 1, none⟩ = some (.int .i64 ((rd_T73 l0 x14_1).f1)) ∧ w'.cell? ⟨gb105, 2, none⟩ = some (.int .i64 ((rd_T73 l0 x14_1).f2)) ∧ w'.cell? ⟨gb105, 3, none⟩ = some (.int .i64 ((rd_T73 l0 x14_1).f3)) ∧ w'.cell? ⟨gb105, 4, none⟩ = some (.int .i64 ((rd_T73 l0 x14_1).f4)) ∧ w'.cell? ⟨gb118, 0, none⟩ = some (.string ((rd_T73 y113 x29_2).f0)) ∧ w'.cell? ⟨gb118, 1, none⟩ = some (.int .i64 ((rd_T73 y113 x29_2).f1)) ∧ w'.cell? ⟨gb118, 2, none⟩ = some (.int .i64 ((rd_T73 y113 x29_2).f2)) ∧ w'.cell? ⟨gb118, 3, none⟩ = some (.int .i64 ((rd_T73 y113 x29_2).f3)) ∧ w'.cell? ⟨gb118, 4, none⟩ = some (.int .i64 ((rd_T73 y113 x29_2).f4))) (ds := []) #[false, false, false, false, false, false, false, false, false] (by kernel_rfl) rfl rfl ⟨(blk_cell BK105.out 0).trans rfl, (blk_cell BK105.out 1).trans rfl, (blk_cell BK105.out 2).trans rfl, (blk_cell BK105.out 3).trans rfl, (blk_cell BK105.out 4).trans rfl, (blk_cell BK118.out 0).trans rfl, (blk_cell BK118.out 1).trans rfl, (blk_cell BK118.out 2).trans rfl, (blk_cell BK118.out 3).trans rfl, (blk_cell BK118.out 4).trans rfl⟩ (fun hHeld => ?_); refine with_tabW impl_delays.tab14 impl_delays.bits14 (fun HT_ HW_ => ?_)
   generalize w87.drew = w88 at HO_3 BK105 BK118 HB hHeld ⊢
   refine pure_ (i := 2) (N := some 65) (v := ?_) (a' := ?_) #[false, false, true, false, false, false, false, false, false] rfl rfl (any_of HT_.out (by kernel_rfl)) (fun _ _ _ h => h) (Or.inl ⟨by rfl, ?_⟩) ?_ ?_
   rotate_left
   · intro w'
     go_simp
     with_reducible rfl
   rotate_left
   · simp only [Act.put, List.setIfInBounds_toArray, List.set_cons_zero, List.set_cons_succ, i64_w, i32_w]
     rfl
   refine take_ (i := 0) (N := some 63) (v := ?_) (a' := ?_) #[true, false, true, false, false, false, false, false, false] rfl rfl (take_ofW HT_.out HW_.out (by kernel_rfl)) (fun _ _ _ h => h) (Or.inl ⟨by rfl, ?_⟩) hHeld ?_ ?_
   rotate_left
   · rintro w' ⟨s0, s1, s2, s3, s4, s5, s6, s7, s8, s9⟩
     go_simp
     with_reducible rfl
   rotate_left
   · simp only [Act.put, List.setIfInBounds_toArray, List.set_cons_zero, List.set_cons_succ, i64_w, i32_w]
     rfl
   refine take_ (i := 3) (N := some 66) (v := ?_) (a' := ?_) #[true, false, true, true, false, false, false, false, false] rfl rfl (take_ofW HT_.out HW_.out (by kernel_rfl)) (fun _ _ _ h => h) (Or.inl ⟨by rfl, ?_⟩) hHeld ?_ ?_
   rotate_left
   · rintro w' ⟨s0, s1, s2, s3, s4, s5, s6, s7, s8, s9⟩
     go_simp
     with_reducible rfl
   rotate_left
   · simp only [Act.put, List.setIfInBounds_toArray, List.set_cons_zero, List.set_cons_succ, i64_w, i32_w]
     rfl
   refine one_ (i := 1) (N := some 64) #[true, true, true, true, false, false, false, false, false] rfl rfl (one_of HT_.out (by kernel_rfl)) (by decide) (fun K hK => ?_)
   refine goes_ Try.func111 (by kernel_rfl) rfl #[.agg #[.string ((rd_T73 l0 x14_1).f0), .int .i64 ((rd_T73 l0 x14_1).f1), .int .i64 ((rd_T73 l0 x14_1).f2), .int .i64 ((rd_T73 l0 x14_1).f3), .int .i64 ((rd_T73 l0 x14_1).f4)]] (by rfl) rfl rfl (by (try simp only [List.map_toArray, List.map_cons, List.map_nil]); first | done | rfl | (simp only [List.length_drop, List.length_take]; rfl)) ?_
   with_reducible refine (impl_Instr_reads.calls kj43 ((rd_T73 l0 x14_1).f0) ((rd_T73 l0 x14_1).f1) ((rd_T73 l0 x14_1).f2) ((rd_T73 l0 x14_1).f3) ((rd_T73 l0 x14_1).f4) t136 _ A61.out).mono ?_
   rintro e w89 ⟨v137, rfl, ho0, hb⟩
   refine ⟨_, rfl, ?_⟩
   have n0_ := zA (Kd.S_elder' (by (with_reducible repeat (first | apply zSa | apply zSn | apply zSd)); exact HO_3.out) (Kd.R_base ho0) hb)
   have n1_ := zA (Kd.R_lower ho0 (below_size (by repeat (first | (with_reducible first | exact HB.out | apply zba | apply zbn | apply zbd | refine below_set ?_ GE105.out | refine below_set ?_ GE118.out) | exact HB.out))))
   have n2_ := zA (blk_below (g := gb105) (o := .cells #[.string ((rd_T73 l0 x14_1).f0), .int .i64 ((rd_T73 l0 x14_1).f1), .int .i64 ((rd_T73 l0 x14_1).f2), .int .i64 ((rd_T73 l0 x14_1).f3), .int .i64 ((rd_T73 l0 x14_1).f4)] 73 (0, 0)) (by (with_reducible repeat (first | refine zkn ?_ _ | refine zkd ?_ | refine zka ?_ _)); exact BK105.out) hb)
   have n3_ := zA (blk_below (g := gb118) (o := .cells #[.string ((rd_T73 y113 x29_2).f0), .int .i64 ((rd_T73 y113 x29_2).f1), .int .i64 ((rd_T73 y113 x29_2).f2), .int .i64 ((rd_T73 y113 x29_2).f3), .int .i64 ((rd_T73 y113 x29_2).f4)] 73 (0, 0)) (by (with_reducible repeat (first | refine zkn ?_ _ | refine zkd ?_ | refine zka ?_ _)); exact BK118.out) hb)
   have n4_ := zA (below_step (by repeat (first | (with_reducible first | exact HB.out | apply zba | apply zbn | apply zbd | refine below_set ?_ GE105.out | refine below_set ?_ GE118.out) | exact HB.out)) hb)
   clear HO_3
   clear BK105
   clear BK118
   clear HB
   have HO_3 := n0_
   have HO138 := n1_
   have BK105 := n2_
   have BK118 := n3_
   have HB := n4_
   clear n0_ n1_ n2_ n3_ n4_
   (try clear hb)
   (try clear hb2)
   (try clear hk)
   (try clear hi)
   (try clear ho0)
   obtain ⟨Ao90, co90, eo90⟩ := Kd.R_slice HO138.out
   (first | subst eo90 | (injection eo90 with f1_ f2_ f3_; have f4_ := f1_.symm; have f5_ := f3_.symm; clear f1_ f2_ f3_; subst f4_; subst f5_))
   refine hK.out _ _ ⟨(blk_cell BK105.out 0).trans rfl, (blk_cell BK105.out 1).trans rfl, (blk_cell BK105.out 2).trans rfl, (blk_cell BK105.out 3).trans rfl, (blk_cell BK105.out 4).trans rfl, (blk_cell BK118.out 0).trans rfl, (blk_cell BK118.out 1).trans rfl, (blk_cell BK118.out 2).trans rfl, (blk_cell BK118.out 3).trans rfl, (blk_cell BK118.out 4).trans rfl⟩ (fun hHeld => ?_)
   clear hK K
   refine norm_ (a' := ?_) ?_ ?_
   rotate_left
   · show Act.put _ (some 64) _ = _
     simp only [Act.put, List.setIfInBounds_toArray, List.set_cons_zero, List.set_cons_succ, i64_w, i32_w]
     rfl
   refine one_ (i := 4) (N := some 67) #[true, true, true, true, true, false, false, false, false] rfl rfl (one_of HT_.out (by kernel_rfl)) (by decide) (fun K hK => ?_)
   refine goes_ Try.func110 (by kernel_rfl) rfl #[.slice Ao90 t136.length co90, .int .i64 ((rd_T73 y113 x29_2).f1)] (by rfl) rfl rfl (by (try simp only [List.map_toArray, List.map_cons, List.map_nil]); first | done | rfl | (simp only [List.length_drop, List.length_take]; rfl)) ?_
   with_reducible refine (slices_Contains_int_int.calls kj43 _ _ t136 ((rd_T73 y113 x29_2).f1) false _ ?side1 ?side2 A62.out).mono ?_
   (case side1 => repeat (first | exact (zRr HO138.out).2.2 | (with_reducible first | refine zCa ?_ _ | refine zCn ?_ _ | refine zCd ?_)))
   (case side2 => exact (zRr HO138.out).2.1)
   rintro e w' ⟨rfl, ⟨nd, rfl⟩⟩
   refine ⟨_, rfl, ?_⟩
   refine hK.out _ _ ⟨(blk_cell BK105.out 0).trans rfl, (blk_cell BK105.out 1).trans rfl, (blk_cell BK105.out 2).trans rfl, (blk_cell BK105.out 3).trans rfl, (blk_cell BK105.out 4).trans rfl, (blk_cell BK118.out 0).trans rfl, (blk_cell BK118.out 1).trans rfl, (blk_cell BK118.out 2).trans rfl, (blk_cell BK118.out 3).trans rfl, (blk_cell BK118.out 4).trans rfl⟩ (fun hHeld => ?_)
   clear hK K
   refine norm_ (a' := ?_) ?_ ?_
   rotate_left
   · show Act.put _ (some 67) _ = _
     simp only [Act.put, List.setIfInBounds_toArray, List.set_cons_zero, List.set_cons_succ, i64_w, i32_w]
     rfl
   refine pure_ (i := 5) (N := some 68) (v := ?_) (a' := ?_) #[true, true, true, true, true, true, false, false, false] rfl rfl (any_of HT_.out (by kernel_rfl)) (fun _ _ _ h => h) (Or.inl ⟨by rfl, ?_⟩) ?_ ?_
   rotate_left
   · intro w'
     go_simp
     with_reducible rfl
   rotate_left
   · simp only [Act.put, List.setIfInBounds_toArray, List.set_cons_zero, List.set_cons_succ, i64_w, i32_w]
     rfl
   refine pure_ (i := 6) (N := some 69) (v := undef) (a' := ?_) #[true, true, true, true, true, true, true, false, false] rfl rfl (any_of HT_.out (by kernel_rfl)) (fun _ _ _ h => h) (Or.inr ⟨by rfl, rfl⟩) ?_ ?_
   rotate_left
   · simp only [Act.put, List.setIfInBounds_toArray, List.set_cons_zero, List.set_cons_succ, i64_w, i32_w]
     rfl
   refine pure_ (i := 7) (N := some 70) (v := undef) (a' := ?_) #[true, true, true, true, true, true, true, true, false] rfl rfl (any_of HT_.out (by kernel_rfl)) (fun _ _ _ h => h) (Or.inr ⟨by rfl, rfl⟩) ?_ ?_
   rotate_left
   · simp only [Act.put, List.setIfInBounds_toArray, List.set_cons_zero, List.set_cons_succ, i64_w, i32_w]
     rfl
   refine pure_ (i := 8) (N := some 71) (v := ?_) (a' := ?_) #[true, true, true, true, true, true, true, true, true] rfl rfl (any_of HT_.out (by kernel_rfl)) (fun _ _ _ h => h) (Or.inl ⟨by rfl, ?_⟩) ?_ ?_
   rotate_left
   · intro w'
     go_simp
     with_reducible rfl
   rotate_left
   · simp only [Act.put, List.setIfInBounds_toArray, List.set_cons_zero, List.set_cons_succ, i64_w, i32_w]
     rfl
   refine done_ (done_of HT_.out (by kernel_rfl)) ?_
   (try (rw [drewN_self w89]; generalize hq_ : World.drewN w89 _ = w89; have n0_ := zA (Kd.S_at hq_ HO_3.out); have n1_ := zA (Kd.R_at hq_ HO138.out); have n2_ := zA (blk_at hq_ BK105.out); have n3_ := zA (blk_at hq_ BK118.out); have n4_ := zA (below_at hq_ HB.out); clear hq_ HO_3 HO138 BK105 BK118 HB; have HO_3 := n0_; have HO138 := n1_; have BK105 := n2_; have BK118 := n3_; have HB := n4_; clear n0_ n1_ n2_ n3_ n4_))
   try go_wp2
   (try simp only [← hl3_2, ← hl3_28, ← hl3_43])
   go_roundg kj43
   case measure => have := HK1.out; have := HK2.out; have := HJ28.out; have := HJ43.out; omega
   case rel => exact ⟨(x3_43), (ji56), (by first | rfl | (simp; done) | (simp only [← hji56] <;> (first | rfl | simp)) | (simp [*]; done)), H', ⟨by have := HK1.out; have := HK2.out; have := HJ28.out; have := HJ43.out; omega⟩, ⟨by (try simp only [hl3_2]); (try simp only [hl3_28]); (try simp only [hl3_43]); (with_reducible repeat (first | apply zSa | apply zSn | apply zSd)); exact Kd.S_mono HO_3.out (fun _ hk => trivial)⟩, ⟨by (try simp only [hl3_2]); (try simp only [hl3_28]); (try simp only [hl3_43]); (with_reducible repeat (first | refine zkn ?_ _ | refine zkd ?_ | refine zka ?_ _)); exact BK105.out⟩, ⟨by repeat (first | (with_reducible first | exact HB.out | apply zba | apply zbn | apply zbd | refine below_set ?_ GE105.out | refine below_set ?_ GE118.out) | exact HB.out)⟩⟩
 subst c63
 replace H : (if t135 = true then (impl_delays.l1 kj43 l0 x3_43 x14_1 l0 (l0.length : Int) x14_1 y113 (y113.length : Int) ji56 ((rd_T73 l0 x14_1).f0) ((rd_T73 l0 x14_1).f1) ((rd_T73 l0 x14_1).f2) ((rd_T73 l0 x14_1).f3) ((rd_T73 l0 x14_1).f4)) else (if 0 ≤ x14_1 then (if x14_1 < (x3_43.length : Int) then (if 0 ≤ x29_2 then (if x29_2 < ((rd_L4 x3_43 x14_1).length : Int) then ((impl_Instr_cost.f ((rd_T73 y113 x29_2).f0) ((rd_T73 y113 x29_2).f1) ((rd_T73 y113 x29_2).f2) ((rd_T73 y113 x29_2).f3) ((rd_T73 y113 x29_2).f4)).bind fun t143 => (impl_delays.l1 kj43 l0 (x3_43.set (x14_1 : Int).toNat ((rd_L4 x3_43 x14_1).set (x29_2 : Int).toNat (mx (rd (rd_L4 x3_43 x14_1) x29_2) t143))) x14_1 l0 (l0.length : Int) x14_1 y113 (y113.length : Int) ji56 ((rd_T73 l0 x14_1).f0) ((rd_T73 l0 x14_1).f1) ((rd_T73 l0 x14_1).f2) ((rd_T73 l0 x14_1).f3) ((rd_T73 l0 x14_1).f4))) else (none)) else (none)) else (none)) else (none))) = some r := by rw [if_pos rfl] at H; exact H
 by_cases c64 : t135 = true
 · subst c64
   replace H : (impl_delays.l1 kj43 l0 x3_43 x14_1 l0 (l0.length : Int) x14_1 y113 (y113.length : Int) ji56 ((rd_T73 l0 x14_1).f0) ((rd_T73 l0 x14_1).f1) ((rd_T73 l0 x14_1).f2) ((rd_T73 l0 x14_1).f3) ((rd_T73 l0 x14_1).f4)) = some r := by rw [if_pos rfl] at H; exact H
   have H' := zA H
   clear H
   have q65 : (x14_1 : Int) ≤ ((l0.length : Int) : Int) := zde (by assumption)
   obtain ⟨i065, hi065, _, hsz65, _⟩ := info_parts info73
   have hroom65 : l0.length ≤ c0 := HC0.out
   have hC65 : Kd.C k73 _ (some ad104) l0.length l0 := HR0.out
   have ql65 : ((ji56) : Int) ≤ (x14_1 : Int) := zde (by assumption)
   have q065 : (0 : Int) ≤ ((ji56) : Int) := zde (by assumption)
   have hcut65 := cut_mid (P := Try.prog) 27 73 .i64 .i64 Try.underlying27 hi065 5 hsz65 (some ad104) l0.length c0 (ji56) x14_1 q065 ql65 q65 hroom65
   have hr65 := Kd.C_mid (lo := ((ji56) : Int).toNat) (hi := (x14_1 : Int).toNat) (c := c0) hC65 (by omega) (by omega) hroom65
   obtain ⟨A65, hA65⟩ : ∃ A1, A1 = (if c0 = ((ji56) : Int).toNat then (some ad104) else ((some ad104) : Option Addr).map (·.add (((ji56) : Int).toNat * 5))) := ⟨_, rfl⟩
   obtain ⟨c65, hc65⟩ : ∃ c1, c1 = c0 - ((ji56) : Int).toNat := ⟨_, rfl⟩
   have hy65 : y131.length = (x14_1 : Int).toNat - ((ji56) : Int).toNat := (by rw [Ny131.out, List.length_drop, List.length_take] <;> omega)
   rw [show ((l0).take (x14_1 : Int).toNat).drop ((ji56) : Int).toNat = y131 from Ny131.out.symm] at hr65
   replace hr65 : Kd.C k73 _ A65 y131.length y131 := (by rw [hA65]; exact hr65)
   rw [← hy65, ← hA65, ← hc65] at hcut65
   have HR134 := zA hr65
   have HC134 := zA (show y131.length ≤ c65 from by rw [hy65, hc65]; exact Nat.sub_le_sub_right (Nat.le_trans (by omega) hroom65) _)
   clear hr65 hC65 hroom65 hi065 hsz65 hc65
   have KY65 := zA hy65
   have KA65 := zA hA65
   clear hy65 hA65
   replace q65 := eq_true q65
   try go_wp2_with (first | ((with_reducible refine gate_callee (f := 106) rfl ?_); refine goesL_ (some 62) rfl rfl Try.func106 (by kernel_rfl) rfl #[.slice A65 y131.length c65, .func (Fn.func 112) #[] #[.pointer (some ⟨gb118, 0, none⟩)]] rfl (by (try simp only [List.map_toArray, List.map_cons, List.map_nil]); first | done | rfl | (simp only [List.length_drop, List.length_take]; rfl)) ?_; (with_reducible refine (slices_ContainsFunc_impl_delays_1.calls kj43 _ _ y131 _ 1 [(⟨((rd_T73 y113 x29_2).f0), ((rd_T73 y113 x29_2).f1), ((rd_T73 y113 x29_2).f2), ((rd_T73 y113 x29_2).f3), ((rd_T73 y113 x29_2).f4)⟩ : S73)] true _ ?side1 ?side2 ?side3 ?side4 A60.out).mono ?_); (case side1 => repeat (first | exact (zCb HR134.out HB.out) | (with_reducible first | refine zCa ?_ _ | refine zCn ?_ _ | refine zCd ?_))); (case side2 => exact HC134.out); (case side3 => exact box_C (g := gb118) (o := .cells #[.string ((rd_T73 y113 x29_2).f0), .int .i64 ((rd_T73 y113 x29_2).f1), .int .i64 ((rd_T73 y113 x29_2).f2), .int .i64 ((rd_T73 y113 x29_2).f3), .int .i64 ((rd_T73 y113 x29_2).f4)] 73 (0, 0)) (by (with_reducible repeat (first | refine zkn ?_ _ | refine zkd ?_ | refine zka ?_ _)); exact BK118.out) rfl (k73.K_of_M (k73_mkM _ 0 (fun _ => True) _))); (case side4 => exact zlr _); rintro e w66 ⟨rfl, hb⟩; refine ⟨_, rfl, ?_⟩; have n0_ := zA (Kd.S_below (by (with_reducible repeat (first | apply zSa | apply zSn | apply zSd)); exact HO_3.out) hb); have n1_ := zA (blk_below (g := gb105) (o := .cells #[.string ((rd_T73 l0 x14_1).f0), .int .i64 ((rd_T73 l0 x14_1).f1), .int .i64 ((rd_T73 l0 x14_1).f2), .int .i64 ((rd_T73 l0 x14_1).f3), .int .i64 ((rd_T73 l0 x14_1).f4)] 73 (0, 0)) (by (with_reducible repeat (first | refine zkn ?_ _ | refine zkd ?_ | refine zka ?_ _)); exact BK105.out) hb); have n2_ := zA (blk_below (g := gb118) (o := .cells #[.string ((rd_T73 y113 x29_2).f0), .int .i64 ((rd_T73 y113 x29_2).f1), .int .i64 ((rd_T73 y113 x29_2).f2), .int .i64 ((rd_T73 y113 x29_2).f3), .int .i64 ((rd_T73 y113 x29_2).f4)] 73 (0, 0)) (by (with_reducible repeat (first | refine zkn ?_ _ | refine zkd ?_ | refine zka ?_ _)); exact BK118.out) hb); have n3_ := zA (below_step (by repeat (first | (with_reducible first | exact HB.out | apply zba | apply zbn | apply zbd | refine below_set ?_ GE105.out | refine below_set ?_ GE118.out) | exact HB.out)) hb); clear HO_3 BK105; clear BK118 HB; have HO_3 := n0_; have BK105 := n1_; have BK118 := n2_; have HB := n3_; clear n0_ n1_ n2_ n3_; (try clear hb)))
   have n0_ := zA (zSd HO_3.out)
   have n1_ := zA (zkd BK105.out)
   have n2_ := zA (zkd BK118.out)
   have n3_ := zA (zbd HB.out)
   clear HO_3
   clear BK105
   clear BK118
   clear HB
   have HO_3 := n0_
   have BK105 := n1_
   have BK118 := n2_
   have HB := n3_
   clear n0_ n1_ n2_ n3_
   refine start_ (n := 9) (S := fun w' => w'.cell? ⟨gb105, 0, none⟩ = some (.string ((rd_T73 l0 x14_1).f0)) ∧ w'.cell? ⟨gb105, 1, none⟩ = some (.int .i64 ((rd_T73 l0 x14_1).f1)) ∧ w'.cell? ⟨gb105, 2, none⟩ = some (.int .i64 ((rd_T73 l0 x14_1).f2)) ∧ w'.cell? ⟨gb105, 3, none⟩ = some (.int .i64 ((rd_T73 l0 x14_1).f3)) ∧ w'.cell? ⟨gb105, 4, none⟩ = some (.int .i64 ((rd_T73 l0 x14_1).f4)) ∧ w'.cell? ⟨gb118, 0, none⟩ = some (.string ((rd_T73 y113 x29_2).f0)) ∧ w'.cell? ⟨gb118, 1, none⟩ = some (.int .i64 ((rd_T73 y113 x29_2).f1)) ∧ w'.cell? ⟨gb118, 2, none⟩ = some (.int .i64 ((rd_T73 y113 x29_2).f2)) ∧ w'.cell? ⟨gb118, 3, none⟩ = some (.int .i64 ((rd_T73 y113 x29_2).f3)) ∧ w'.cell? ⟨gb118, 4, none⟩ = some (.int .i64 ((rd_T73 y113 x29_2).f4))) (ds := []) #[false, false, false, false, false, false, false, false, false] (by kernel_rfl) rfl rfl ⟨(blk_cell BK105.out 0).trans rfl, (blk_cell BK105.out 1).trans rfl, (blk_cell BK105.out 2).trans rfl, (blk_cell BK105.out 3).trans rfl, (blk_cell BK105.out 4).trans rfl, (blk_cell BK118.out 0).trans rfl, (blk_cell BK118.out 1).trans rfl, (blk_cell BK118.out 2).trans rfl, (blk_cell BK118.out 3).trans rfl, (blk_cell BK118.out 4).trans rfl⟩ (fun hHeld => ?_); refine with_tabW impl_delays.tab14 impl_delays.bits14 (fun HT_ HW_ => ?_)
   generalize w66.drew = w67 at HO_3 BK105 BK118 HB hHeld ⊢
   refine pure_ (i := 2) (N := some 65) (v := ?_) (a' := ?_) #[false, false, true, false, false, false, false, false, false] rfl rfl (any_of HT_.out (by kernel_rfl)) (fun _ _ _ h => h) (Or.inl ⟨by rfl, ?_⟩) ?_ ?_
   rotate_left
   · intro w'
     go_simp
     with_reducible rfl
   rotate_left
   · simp only [Act.put, List.setIfInBounds_toArray, List.set_cons_zero, List.set_cons_succ, i64_w, i32_w]
     rfl
   refine take_ (i := 0) (N := some 63) (v := ?_) (a' := ?_) #[true, false, true, false, false, false, false, false, false] rfl rfl (take_ofW HT_.out HW_.out (by kernel_rfl)) (fun _ _ _ h => h) (Or.inl ⟨by rfl, ?_⟩) hHeld ?_ ?_
   rotate_left
   · rintro w' ⟨s0, s1, s2, s3, s4, s5, s6, s7, s8, s9⟩
     go_simp
     with_reducible rfl
   rotate_left
   · simp only [Act.put, List.setIfInBounds_toArray, List.set_cons_zero, List.set_cons_succ, i64_w, i32_w]
     rfl
   refine take_ (i := 3) (N := some 66) (v := ?_) (a' := ?_) #[true, false, true, true, false, false, false, false, false] rfl rfl (take_ofW HT_.out HW_.out (by kernel_rfl)) (fun _ _ _ h => h) (Or.inl ⟨by rfl, ?_⟩) hHeld ?_ ?_
   rotate_left
   · rintro w' ⟨s0, s1, s2, s3, s4, s5, s6, s7, s8, s9⟩
     go_simp
     with_reducible rfl
   rotate_left
   · simp only [Act.put, List.setIfInBounds_toArray, List.set_cons_zero, List.set_cons_succ, i64_w, i32_w]
     rfl
   refine one_ (i := 1) (N := some 64) #[true, true, true, true, false, false, false, false, false] rfl rfl (one_of HT_.out (by kernel_rfl)) (by decide) (fun K hK => ?_)
   refine goes_ Try.func111 (by kernel_rfl) rfl #[.agg #[.string ((rd_T73 l0 x14_1).f0), .int .i64 ((rd_T73 l0 x14_1).f1), .int .i64 ((rd_T73 l0 x14_1).f2), .int .i64 ((rd_T73 l0 x14_1).f3), .int .i64 ((rd_T73 l0 x14_1).f4)]] (by rfl) rfl rfl (by (try simp only [List.map_toArray, List.map_cons, List.map_nil]); first | done | rfl | (simp only [List.length_drop, List.length_take]; rfl)) ?_
   with_reducible refine (impl_Instr_reads.calls kj43 ((rd_T73 l0 x14_1).f0) ((rd_T73 l0 x14_1).f1) ((rd_T73 l0 x14_1).f2) ((rd_T73 l0 x14_1).f3) ((rd_T73 l0 x14_1).f4) t136 _ A61.out).mono ?_
   rintro e w68 ⟨v137, rfl, ho0, hb⟩
   refine ⟨_, rfl, ?_⟩
   have n0_ := zA (Kd.S_elder' (by (with_reducible repeat (first | apply zSa | apply zSn | apply zSd)); exact HO_3.out) (Kd.R_base ho0) hb)
   have n1_ := zA (Kd.R_lower ho0 (below_size (by repeat (first | (with_reducible first | exact HB.out | apply zba | apply zbn | apply zbd | refine below_set ?_ GE105.out | refine below_set ?_ GE118.out) | exact HB.out))))
   have n2_ := zA (blk_below (g := gb105) (o := .cells #[.string ((rd_T73 l0 x14_1).f0), .int .i64 ((rd_T73 l0 x14_1).f1), .int .i64 ((rd_T73 l0 x14_1).f2), .int .i64 ((rd_T73 l0 x14_1).f3), .int .i64 ((rd_T73 l0 x14_1).f4)] 73 (0, 0)) (by (with_reducible repeat (first | refine zkn ?_ _ | refine zkd ?_ | refine zka ?_ _)); exact BK105.out) hb)
   have n3_ := zA (blk_below (g := gb118) (o := .cells #[.string ((rd_T73 y113 x29_2).f0), .int .i64 ((rd_T73 y113 x29_2).f1), .int .i64 ((rd_T73 y113 x29_2).f2), .int .i64 ((rd_T73 y113 x29_2).f3), .int .i64 ((rd_T73 y113 x29_2).f4)] 73 (0, 0)) (by (with_reducible repeat (first | refine zkn ?_ _ | refine zkd ?_ | refine zka ?_ _)); exact BK118.out) hb)
   have n4_ := zA (below_step (by repeat (first | (with_reducible first | exact HB.out | apply zba | apply zbn | apply zbd | refine below_set ?_ GE105.out | refine below_set ?_ GE118.out) | exact HB.out)) hb)
   clear HO_3
   clear BK105
   clear BK118
   clear HB
   have HO_3 := n0_
   have HO138 := n1_
   have BK105 := n2_
   have BK118 := n3_
   have HB := n4_
   clear n0_ n1_ n2_ n3_ n4_
   (try clear hb)
   (try clear hb2)
   (try clear hk)
   (try clear hi)
   (try clear ho0)
   obtain ⟨Ao69, co69, eo69⟩ := Kd.R_slice HO138.out
   (first | subst eo69 | (injection eo69 with f1_ f2_ f3_; have f4_ := f1_.symm; have f5_ := f3_.symm; clear f1_ f2_ f3_; subst f4_; subst f5_))
   refine hK.out _ _ ⟨(blk_cell BK105.out 0).trans rfl, (blk_cell BK105.out 1).trans rfl, (blk_cell BK105.out 2).trans rfl, (blk_cell BK105.out 3).trans rfl, (blk_cell BK105.out 4).trans rfl, (blk_cell BK118.out 0).trans rfl, (blk_cell BK118.out 1).trans rfl, (blk_cell BK118.out 2).trans rfl, (blk_cell BK118.out 3).trans rfl, (blk_cell BK118.out 4).trans rfl⟩ (fun hHeld => ?_)
   clear hK K
   refine norm_ (a' := ?_) ?_ ?_
   rotate_left
   · show Act.put _ (some 64) _ = _
     simp only [Act.put, List.setIfInBounds_toArray, List.set_cons_zero, List.set_cons_succ, i64_w, i32_w]
     rfl
   refine one_ (i := 4) (N := some 67) #[true, true, true, true, true, false, false, false, false] rfl rfl (one_of HT_.out (by kernel_rfl)) (by decide) (fun K hK => ?_)
   refine goes_ Try.func110 (by kernel_rfl) rfl #[.slice Ao69 t136.length co69, .int .i64 ((rd_T73 y113 x29_2).f1)] (by rfl) rfl rfl (by (try simp only [List.map_toArray, List.map_cons, List.map_nil]); first | done | rfl | (simp only [List.length_drop, List.length_take]; rfl)) ?_
   with_reducible refine (slices_Contains_int_int.calls kj43 _ _ t136 ((rd_T73 y113 x29_2).f1) true _ ?side1 ?side2 A62.out).mono ?_
   (case side1 => repeat (first | exact (zRr HO138.out).2.2 | (with_reducible first | refine zCa ?_ _ | refine zCn ?_ _ | refine zCd ?_)))
   (case side2 => exact (zRr HO138.out).2.1)
   rintro e w' ⟨rfl, ⟨nd, rfl⟩⟩
   refine ⟨_, rfl, ?_⟩
   refine hK.out _ _ ⟨(blk_cell BK105.out 0).trans rfl, (blk_cell BK105.out 1).trans rfl, (blk_cell BK105.out 2).trans rfl, (blk_cell BK105.out 3).trans rfl, (blk_cell BK105.out 4).trans rfl, (blk_cell BK118.out 0).trans rfl, (blk_cell BK118.out 1).trans rfl, (blk_cell BK118.out 2).trans rfl, (blk_cell BK118.out 3).trans rfl, (blk_cell BK118.out 4).trans rfl⟩ (fun hHeld => ?_)
   clear hK K
   refine norm_ (a' := ?_) ?_ ?_
   rotate_left
   · show Act.put _ (some 67) _ = _
     simp only [Act.put, List.setIfInBounds_toArray, List.set_cons_zero, List.set_cons_succ, i64_w, i32_w]
     rfl
   refine pure_ (i := 5) (N := some 68) (v := ?_) (a' := ?_) #[true, true, true, true, true, true, false, false, false] rfl rfl (any_of HT_.out (by kernel_rfl)) (fun _ _ _ h => h) (Or.inl ⟨by rfl, ?_⟩) ?_ ?_
   rotate_left
   · intro w'
     go_simp
     with_reducible rfl
   rotate_left
   · simp only [Act.put, List.setIfInBounds_toArray, List.set_cons_zero, List.set_cons_succ, i64_w, i32_w]
     rfl
   refine pure_ (i := 6) (N := some 69) (v := ?_) (a' := ?_) #[true, true, true, true, true, true, true, false, false] rfl rfl (any_of HT_.out (by kernel_rfl)) (fun _ _ _ h => h) (Or.inl ⟨by rfl, ?_⟩) ?_ ?_
   rotate_left
   · intro w'
     go_simp
     with_reducible rfl
   rotate_left
   · simp only [Act.put, List.setIfInBounds_toArray, List.set_cons_zero, List.set_cons_succ, i64_w, i32_w]
     rfl
   refine pure_ (i := 7) (N := some 70) (v := ?_) (a' := ?_) #[true, true, true, true, true, true, true, true, false] rfl rfl (any_of HT_.out (by kernel_rfl)) (fun _ _ _ h => h) (Or.inl ⟨by rfl, ?_⟩) ?_ ?_
   rotate_left
   · intro w'
     go_simp
     with_reducible rfl
   rotate_left
   · simp only [Act.put, List.setIfInBounds_toArray, List.set_cons_zero, List.set_cons_succ, i64_w, i32_w]
     rfl
   refine pure_ (i := 8) (N := some 71) (v := ?_) (a' := ?_) #[true, true, true, true, true, true, true, true, true] rfl rfl (any_of HT_.out (by kernel_rfl)) (fun _ _ _ h => h) (Or.inl ⟨by rfl, ?_⟩) ?_ ?_
   rotate_left
   · intro w'
     go_simp
     with_reducible rfl
   rotate_left
   · simp only [Act.put, List.setIfInBounds_toArray, List.set_cons_zero, List.set_cons_succ, i64_w, i32_w]
     rfl
   refine done_ (done_of HT_.out (by kernel_rfl)) ?_
   (try (rw [drewN_self w68]; generalize hq_ : World.drewN w68 _ = w68; have n0_ := zA (Kd.S_at hq_ HO_3.out); have n1_ := zA (Kd.R_at hq_ HO138.out); have n2_ := zA (blk_at hq_ BK105.out); have n3_ := zA (blk_at hq_ BK118.out); have n4_ := zA (below_at hq_ HB.out); clear hq_ HO_3 HO138 BK105 BK118 HB; have HO_3 := n0_; have HO138 := n1_; have BK105 := n2_; have BK118 := n3_; have HB := n4_; clear n0_ n1_ n2_ n3_ n4_))
   try go_wp2
   (try simp only [← hl3_2, ← hl3_28, ← hl3_43])
   go_roundg kj43
   case measure => have := HK1.out; have := HK2.out; have := HJ28.out; have := HJ43.out; omega
   case rel => exact ⟨(x3_43), (ji56), (by first | rfl | (simp; done) | (simp only [← hji56] <;> (first | rfl | simp)) | (simp [*]; done)), H', ⟨by have := HK1.out; have := HK2.out; have := HJ28.out; have := HJ43.out; omega⟩, ⟨by (try simp only [hl3_2]); (try simp only [hl3_28]); (try simp only [hl3_43]); (with_reducible repeat (first | apply zSa | apply zSn | apply zSd)); exact Kd.S_mono HO_3.out (fun _ hk => trivial)⟩, ⟨by (try simp only [hl3_2]); (try simp only [hl3_28]); (try simp only [hl3_43]); (with_reducible repeat (first | refine zkn ?_ _ | refine zkd ?_ | refine zka ?_ _)); exact BK105.out⟩, ⟨by repeat (first | (with_reducible first | exact HB.out | apply zba | apply zbn | apply zbd | refine below_set ?_ GE105.out | refine below_set ?_ GE118.out) | exact HB.out)⟩⟩
 replace c64 := zbf c64
 subst c64
 replace H : (if 0 ≤ x14_1 then (if x14_1 < (x3_43.length : Int) then (if 0 ≤ x29_2 then (if x29_2 < ((rd_L4 x3_43 x14_1).length : Int) then ((impl_Instr_cost.f ((rd_T73 y113 x29_2).f0) ((rd_T73 y113 x29_2).f1) ((rd_T73 y113 x29_2).f2) ((rd_T73 y113 x29_2).f3) ((rd_T73 y113 x29_2).f4)).bind fun t143 => (impl_delays.l1 kj43 l0 (x3_43.set (x14_1 : Int).toNat ((rd_L4 x3_43 x14_1).set (x29_2 : Int).toNat (mx (rd (rd_L4 x3_43 x14_1) x29_2) t143))) x14_1 l0 (l0.length : Int) x14_1 y113 (y113.length : Int) ji56 ((rd_T73 l0 x14_1).f0) ((rd_T73 l0 x14_1).f1) ((rd_T73 l0 x14_1).f2) ((rd_T73 l0 x14_1).f3) ((rd_T73 l0 x14_1).f4))) else (none)) else (none)) else (none)) else (none)) = some r := by rw [if_neg (show ¬ (false = true) by decide)] at H; exact H
 by_cases c70 : 0 ≤ x14_1
 rotate_left
 · rw [if_neg c70] at H
   exact absurd H (by simp)
 rw [if_pos c70] at H
 have c70b0 : decide (0 ≤ x14_1) = true := zdt c70
 clear c70
 by_cases c71 : x14_1 < (x3_43.length : Int)
 rotate_left
 · rw [if_neg c71] at H
   exact absurd H (by simp)
 rw [if_pos c71] at H
 have c71b0 : decide (x14_1 < (x3_43.length : Int)) = true := zdt c71
 clear c71
 by_cases c72 : 0 ≤ x29_2
 rotate_left
 · rw [if_neg c72] at H
   exact absurd H (by simp)
 rw [if_pos c72] at H
 have c72b0 : decide (0 ≤ x29_2) = true := zdt c72
 clear c72
 by_cases c73 : x29_2 < ((rd_L4 x3_43 x14_1).length : Int)
 rotate_left
 · rw [if_neg c73] at H
   exact absurd H (by simp)
 rw [if_pos c73] at H
 have c73b0 : decide (x29_2 < ((rd_L4 x3_43 x14_1).length : Int)) = true := zdt c73
 clear c73
 replace H := zob H
 obtain ⟨t143, A740, H⟩ := H
 replace H : (impl_delays.l1 kj43 l0 (x3_43.set (x14_1 : Int).toNat ((rd_L4 x3_43 x14_1).set (x29_2 : Int).toNat (mx (rd (rd_L4 x3_43 x14_1) x29_2) t143))) x14_1 l0 (l0.length : Int) x14_1 y113 (y113.length : Int) ji56 ((rd_T73 l0 x14_1).f0) ((rd_T73 l0 x14_1).f1) ((rd_T73 l0 x14_1).f2) ((rd_T73 l0 x14_1).f3) ((rd_T73 l0 x14_1).f4)) = some r := H
 have A74 := zA A740
 clear A740
 obtain ⟨ji75, hji75⟩ : ∃ j_ : Int, (mx (rd (rd_L4 x3_43 x14_1) x29_2) t143) = j_ := ⟨_, rfl⟩
 replace H : (impl_delays.l1 kj43 l0 (x3_43.set (x14_1 : Int).toNat ((rd_L4 x3_43 x14_1).set (x29_2 : Int).toNat (ji75))) x14_1 l0 (l0.length : Int) x14_1 y113 (y113.length : Int) ji56 ((rd_T73 l0 x14_1).f0) ((rd_T73 l0 x14_1).f1) ((rd_T73 l0 x14_1).f2) ((rd_T73 l0 x14_1).f3) ((rd_T73 l0 x14_1).f4)) = some r := by first | (rw [hji75] at H; exact H) | (simp only [hji75] at H ⊢; exact H)
 (try rw [hji75] at A60)
 (try rw [hji75] at A61)
 (try rw [hji75] at A62)
 (try rw [hji75] at A74)
 have hji75_ : (if (rd (rd_L4 x3_43 x14_1) x29_2) < t143 then t143 else (rd (rd_L4 x3_43 x14_1) x29_2)) = ji75 := hji75
 obtain ⟨y144, hy144⟩ : ∃ y_ : List Int, y_ = ((rd_L4 x3_43 x14_1).set (x29_2 : Int).toNat (ji75)) := ⟨_, rfl⟩
 replace H : (impl_delays.l1 kj43 l0 (x3_43.set (x14_1 : Int).toNat y144) x14_1 l0 (l0.length : Int) x14_1 y113 (y113.length : Int) ji56 ((rd_T73 l0 x14_1).f0) ((rd_T73 l0 x14_1).f1) ((rd_T73 l0 x14_1).f2) ((rd_T73 l0 x14_1).f3) ((rd_T73 l0 x14_1).f4)) = some r := by first | (rw [hy144]; with_reducible exact H) | (have H2_ := (Option.bind_some _ _).symm.trans H; rw [hy144]; with_reducible exact H2_) | (have H2_ := (Option.bind_some _ _).symm.trans H; with_reducible exact H2_) | with_reducible exact H | (rw [hy144]; exact H) | exact H
 have Ny144 := zA hy144
 clear hy144
 obtain ⟨y146, hy146⟩ : ∃ y_ : List (List Int), y_ = (x3_43.set (x14_1 : Int).toNat y144) := ⟨_, rfl⟩
 replace H : (impl_delays.l1 kj43 l0 y146 x14_1 l0 (l0.length : Int) x14_1 y113 (y113.length : Int) ji56 ((rd_T73 l0 x14_1).f0) ((rd_T73 l0 x14_1).f1) ((rd_T73 l0 x14_1).f2) ((rd_T73 l0 x14_1).f3) ((rd_T73 l0 x14_1).f4)) = some r := by first | (rw [hy146]; with_reducible exact H) | (have H2_ := (Option.bind_some _ _).symm.trans H; rw [hy146]; with_reducible exact H2_) | (have H2_ := (Option.bind_some _ _).symm.trans H; with_reducible exact H2_) | with_reducible exact H | (rw [hy146]; exact H) | exact H
 have Ny146 := zA hy146
 clear hy146
 have H' := zA H
 clear H
 have q77 : (x14_1 : Int) ≤ ((l0.length : Int) : Int) := zde (by assumption)
 obtain ⟨i077, hi077, _, hsz77, _⟩ := info_parts info73
 have hroom77 : l0.length ≤ c0 := HC0.out
 have hC77 : Kd.C k73 _ (some ad104) l0.length l0 := HR0.out
 have ql77 : ((ji56) : Int) ≤ (x14_1 : Int) := zde (by assumption)
 have q077 : (0 : Int) ≤ ((ji56) : Int) := zde (by assumption)
 have hcut77 := cut_mid (P := Try.prog) 27 73 .i64 .i64 Try.underlying27 hi077 5 hsz77 (some ad104) l0.length c0 (ji56) x14_1 q077 ql77 q77 hroom77
 have hr77 := Kd.C_mid (lo := ((ji56) : Int).toNat) (hi := (x14_1 : Int).toNat) (c := c0) hC77 (by omega) (by omega) hroom77
 obtain ⟨A77, hA77⟩ : ∃ A1, A1 = (if c0 = ((ji56) : Int).toNat then (some ad104) else ((some ad104) : Option Addr).map (·.add (((ji56) : Int).toNat * 5))) := ⟨_, rfl⟩
 obtain ⟨c77, hc77⟩ : ∃ c1, c1 = c0 - ((ji56) : Int).toNat := ⟨_, rfl⟩
 have hy77 : y131.length = (x14_1 : Int).toNat - ((ji56) : Int).toNat := (by rw [Ny131.out, List.length_drop, List.length_take] <;> omega)
 rw [show ((l0).take (x14_1 : Int).toNat).drop ((ji56) : Int).toNat = y131 from Ny131.out.symm] at hr77
 replace hr77 : Kd.C k73 _ A77 y131.length y131 := (by rw [hA77]; exact hr77)
 rw [← hy77, ← hA77, ← hc77] at hcut77
 have HR134 := zA hr77
 have HC134 := zA (show y131.length ≤ c77 from by rw [hy77, hc77]; exact Nat.sub_le_sub_right (Nat.le_trans (by omega) hroom77) _)
 clear hr77 hC77 hroom77 hi077 hsz77 hc77
 have KY77 := zA hy77
 have KA77 := zA hA77
 clear hy77 hA77
 replace q77 := eq_true q77
 try go_wp2_with (first | ((with_reducible refine gate_callee (f := 106) rfl ?_); refine goesL_ (some 62) rfl rfl Try.func106 (by kernel_rfl) rfl #[.slice A77 y131.length c77, .func (Fn.func 112) #[] #[.pointer (some ⟨gb118, 0, none⟩)]] rfl (by (try simp only [List.map_toArray, List.map_cons, List.map_nil]); first | done | rfl | (simp only [List.length_drop, List.length_take]; rfl)) ?_; (with_reducible refine (slices_ContainsFunc_impl_delays_1.calls kj43 _ _ y131 _ 1 [(⟨((rd_T73 y113 x29_2).f0), ((rd_T73 y113 x29_2).f1), ((rd_T73 y113 x29_2).f2), ((rd_T73 y113 x29_2).f3), ((rd_T73 y113 x29_2).f4)⟩ : S73)] false _ ?side1 ?side2 ?side3 ?side4 A60.out).mono ?_); (case side1 => repeat (first | exact (zCb HR134.out HB.out) | (with_reducible first | refine zCa ?_ _ | refine zCn ?_ _ | refine zCd ?_))); (case side2 => exact HC134.out); (case side3 => exact box_C (g := gb118) (o := .cells #[.string ((rd_T73 y113 x29_2).f0), .int .i64 ((rd_T73 y113 x29_2).f1), .int .i64 ((rd_T73 y113 x29_2).f2), .int .i64 ((rd_T73 y113 x29_2).f3), .int .i64 ((rd_T73 y113 x29_2).f4)] 73 (0, 0)) (by (with_reducible repeat (first | refine zkn ?_ _ | refine zkd ?_ | refine zka ?_ _)); exact BK118.out) rfl (k73.K_of_M (k73_mkM _ 0 (fun _ => True) _))); (case side4 => exact zlr _); rintro e w78 ⟨rfl, hb⟩; refine ⟨_, rfl, ?_⟩; have n0_ := zA (Kd.S_below (by (with_reducible repeat (first | apply zSa | apply zSn | apply zSd)); exact HO_3.out) hb); have n1_ := zA (blk_below (g := gb105) (o := .cells #[.string ((rd_T73 l0 x14_1).f0), .int .i64 ((rd_T73 l0 x14_1).f1), .int .i64 ((rd_T73 l0 x14_1).f2), .int .i64 ((rd_T73 l0 x14_1).f3), .int .i64 ((rd_T73 l0 x14_1).f4)] 73 (0, 0)) (by (with_reducible repeat (first | refine zkn ?_ _ | refine zkd ?_ | refine zka ?_ _)); exact BK105.out) hb); have n2_ := zA (blk_below (g := gb118) (o := .cells #[.string ((rd_T73 y113 x29_2).f0), .int .i64 ((rd_T73 y113 x29_2).f1), .int .i64 ((rd_T73 y113 x29_2).f2), .int .i64 ((rd_T73 y113 x29_2).f3), .int .i64 ((rd_T73 y113 x29_2).f4)] 73 (0, 0)) (by (with_reducible repeat (first | refine zkn ?_ _ | refine zkd ?_ | refine zka ?_ _)); exact BK118.out) hb); have n3_ := zA (below_step (by repeat (first | (with_reducible first | exact HB.out | apply zba | apply zbn | apply zbd | refine below_set ?_ GE105.out | refine below_set ?_ GE118.out) | exact HB.out)) hb); clear HO_3 BK105; clear BK118 HB; have HO_3 := n0_; have BK105 := n1_; have BK118 := n2_; have HB := n3_; clear n0_ n1_ n2_ n3_; (try clear hb)))
 have n0_ := zA (zSd HO_3.out)
 have n1_ := zA (zkd BK105.out)
 have n2_ := zA (zkd BK118.out)
 have n3_ := zA (zbd HB.out)
 clear HO_3
 clear BK105
 clear BK118
 clear HB
 have HO_3 := n0_
 have BK105 := n1_
 have BK118 := n2_
 have HB := n3_
 clear n0_ n1_ n2_ n3_
 refine start_ (n := 9) (S := fun w' => w'.cell? ⟨gb105, 0, none⟩ = some (.string ((rd_T73 l0 x14_1).f0)) ∧ w'.cell? ⟨gb105, 1, none⟩ = some (.int .i64 ((rd_T73 l0 x14_1).f1)) ∧ w'.cell? ⟨gb105, 2, none⟩ = some (.int .i64 ((rd_T73 l0 x14_1).f2)) ∧ w'.cell? ⟨gb105, 3, none⟩ = some (.int .i64 ((rd_T73 l0 x14_1).f3)) ∧ w'.cell? ⟨gb105, 4, none⟩ = some (.int .i64 ((rd_T73 l0 x14_1).f4)) ∧ w'.cell? ⟨gb118, 0, none⟩ = some (.string ((rd_T73 y113 x29_2).f0)) ∧ w'.cell? ⟨gb118, 1, none⟩ = some (.int .i64 ((rd_T73 y113 x29_2).f1)) ∧ w'.cell? ⟨gb118, 2, none⟩ = some (.int .i64 ((rd_T73 y113 x29_2).f2)) ∧ w'.cell? ⟨gb118, 3, none⟩ = some (.int .i64 ((rd_T73 y113 x29_2).f3)) ∧ w'.cell? ⟨gb118, 4, none⟩ = some (.int .i64 ((rd_T73 y113 x29_2).f4))) (ds := []) #[false, false, false, false, false, false, false, false, false] (by kernel_rfl) rfl rfl ⟨(blk_cell BK105.out 0).trans rfl, (blk_cell BK105.out 1).trans rfl, (blk_cell BK105.out 2).trans rfl, (blk_cell BK105.out 3).trans rfl, (blk_cell BK105.out 4).trans rfl, (blk_cell BK118.out 0).trans rfl, (blk_cell BK118.out 1).trans rfl, (blk_cell BK118.out 2).trans rfl, (blk_cell BK118.out 3).trans rfl, (blk_cell BK118.out 4).trans rfl⟩ (fun hHeld => ?_); refine with_tabW impl_delays.tab14 impl_delays.bits14 (fun HT_ HW_ => ?_)
 generalize w78.drew = w79 at HO_3 BK105 BK118 HB hHeld ⊢
 refine pure_ (i := 2) (N := some 65) (v := ?_) (a' := ?_) #[false, false, true, false, false, false, false, false, false] rfl rfl (any_of HT_.out (by kernel_rfl)) (fun _ _ _ h => h) (Or.inl ⟨by rfl, ?_⟩) ?_ ?_
 rotate_left
 · intro w'
   go_simp
   with_reducible rfl
 rotate_left
 · simp only [Act.put, List.setIfInBounds_toArray, List.set_cons_zero, List.set_cons_succ, i64_w, i32_w]
   rfl
 refine take_ (i := 0) (N := some 63) (v := ?_) (a' := ?_) #[true, false, true, false, false, false, false, false, false] rfl rfl (take_ofW HT_.out HW_.out (by kernel_rfl)) (fun _ _ _ h => h) (Or.inl ⟨by rfl, ?_⟩) hHeld ?_ ?_
 rotate_left
 · rintro w' ⟨s0, s1, s2, s3, s4, s5, s6, s7, s8, s9⟩
   go_simp
   with_reducible rfl
 rotate_left
 · simp only [Act.put, List.setIfInBounds_toArray, List.set_cons_zero, List.set_cons_succ, i64_w, i32_w]
   rfl
 refine take_ (i := 3) (N := some 66) (v := ?_) (a' := ?_) #[true, false, true, true, false, false, false, false, false] rfl rfl (take_ofW HT_.out HW_.out (by kernel_rfl)) (fun _ _ _ h => h) (Or.inl ⟨by rfl, ?_⟩) hHeld ?_ ?_
 rotate_left
 · rintro w' ⟨s0, s1, s2, s3, s4, s5, s6, s7, s8, s9⟩
   go_simp
   with_reducible rfl
 rotate_left
 · simp only [Act.put, List.setIfInBounds_toArray, List.set_cons_zero, List.set_cons_succ, i64_w, i32_w]
   rfl
 refine one_ (i := 1) (N := some 64) #[true, true, true, true, false, false, false, false, false] rfl rfl (one_of HT_.out (by kernel_rfl)) (by decide) (fun K hK => ?_)
 refine goes_ Try.func111 (by kernel_rfl) rfl #[.agg #[.string ((rd_T73 l0 x14_1).f0), .int .i64 ((rd_T73 l0 x14_1).f1), .int .i64 ((rd_T73 l0 x14_1).f2), .int .i64 ((rd_T73 l0 x14_1).f3), .int .i64 ((rd_T73 l0 x14_1).f4)]] (by rfl) rfl rfl (by (try simp only [List.map_toArray, List.map_cons, List.map_nil]); first | done | rfl | (simp only [List.length_drop, List.length_take]; rfl)) ?_
 with_reducible refine (impl_Instr_reads.calls kj43 ((rd_T73 l0 x14_1).f0) ((rd_T73 l0 x14_1).f1) ((rd_T73 l0 x14_1).f2) ((rd_T73 l0 x14_1).f3) ((rd_T73 l0 x14_1).f4) t136 _ A61.out).mono ?_
 rintro e w80 ⟨v137, rfl, ho0, hb⟩
 refine ⟨_, rfl, ?_⟩
 have n0_ := zA (Kd.S_elder' (by (with_reducible repeat (first | apply zSa | apply zSn | apply zSd)); exact HO_3.out) (Kd.R_base ho0) hb)
 have n1_ := zA (Kd.R_lower ho0 (below_size (by repeat (first | (with_reducible first | exact HB.out | apply zba | apply zbn | apply zbd | refine below_set ?_ GE105.out | refine below_set ?_ GE118.out) | exact HB.out))))
 have n2_ := zA (blk_below (g := gb105) (o := .cells #[.string ((rd_T73 l0 x14_1).f0), .int .i64 ((rd_T73 l0 x14_1).f1), .int .i64 ((rd_T73 l0 x14_1).f2), .int .i64 ((rd_T73 l0 x14_1).f3), .int .i64 ((rd_T73 l0 x14_1).f4)] 73 (0, 0)) (by (with_reducible repeat (first | refine zkn ?_ _ | refine zkd ?_ | refine zka ?_ _)); exact BK105.out) hb)
 have n3_ := zA (blk_below (g := gb118) (o := .cells #[.string ((rd_T73 y113 x29_2).f0), .int .i64 ((rd_T73 y113 x29_2).f1), .int .i64 ((rd_T73 y113 x29_2).f2), .int .i64 ((rd_T73 y113 x29_2).f3), .int .i64 ((rd_T73 y113 x29_2).f4)] 73 (0, 0)) (by (with_reducible repeat (first | refine zkn ?_ _ | refine zkd ?_ | refine zka ?_ _)); exact BK118.out) hb)
 have n4_ := zA (below_step (by repeat (first | (with_reducible first | exact HB.out | apply zba | apply zbn | apply zbd | refine below_set ?_ GE105.out | refine below_set ?_ GE118.out) | exact HB.out)) hb)
 clear HO_3
 clear BK105
 clear BK118
 clear HB
 have HO_3 := n0_
 have HO138 := n1_
 have BK105 := n2_
 have BK118 := n3_
 have HB := n4_
 clear n0_ n1_ n2_ n3_ n4_
 (try clear hb)
 (try clear hb2)
 (try clear hk)
 (try clear hi)
 (try clear ho0)
 obtain ⟨Ao81, co81, eo81⟩ := Kd.R_slice HO138.out
 (first | subst eo81 | (injection eo81 with f1_ f2_ f3_; have f4_ := f1_.symm; have f5_ := f3_.symm; clear f1_ f2_ f3_; subst f4_; subst f5_))
 refine hK.out _ _ ⟨(blk_cell BK105.out 0).trans rfl, (blk_cell BK105.out 1).trans rfl, (blk_cell BK105.out 2).trans rfl, (blk_cell BK105.out 3).trans rfl, (blk_cell BK105.out 4).trans rfl, (blk_cell BK118.out 0).trans rfl, (blk_cell BK118.out 1).trans rfl, (blk_cell BK118.out 2).trans rfl, (blk_cell BK118.out 3).trans rfl, (blk_cell BK118.out 4).trans rfl⟩ (fun hHeld => ?_)
 clear hK K
 refine norm_ (a' := ?_) ?_ ?_
 rotate_left
 · show Act.put _ (some 64) _ = _
   simp only [Act.put, List.setIfInBounds_toArray, List.set_cons_zero, List.set_cons_succ, i64_w, i32_w]
   rfl
 refine one_ (i := 4) (N := some 67) #[true, true, true, true, true, false, false, false, false] rfl rfl (one_of HT_.out (by kernel_rfl)) (by decide) (fun K hK => ?_)
 refine goes_ Try.func110 (by kernel_rfl) rfl #[.slice Ao81 t136.length co81, .int .i64 ((rd_T73 y113 x29_2).f1)] (by rfl) rfl rfl (by (try simp only [List.map_toArray, List.map_cons, List.map_nil]); first | done | rfl | (simp only [List.length_drop, List.length_take]; rfl)) ?_
 with_reducible refine (slices_Contains_int_int.calls kj43 _ _ t136 ((rd_T73 y113 x29_2).f1) true _ ?side1 ?side2 A62.out).mono ?_
 (case side1 => repeat (first | exact (zRr HO138.out).2.2 | (with_reducible first | refine zCa ?_ _ | refine zCn ?_ _ | refine zCd ?_)))
 (case side2 => exact (zRr HO138.out).2.1)
 rintro e w' ⟨rfl, ⟨nd, rfl⟩⟩
 refine ⟨_, rfl, ?_⟩
 refine hK.out _ _ ⟨(blk_cell BK105.out 0).trans rfl, (blk_cell BK105.out 1).trans rfl, (blk_cell BK105.out 2).trans rfl, (blk_cell BK105.out 3).trans rfl, (blk_cell BK105.out 4).trans rfl, (blk_cell BK118.out 0).trans rfl, (blk_cell BK118.out 1).trans rfl, (blk_cell BK118.out 2).trans rfl, (blk_cell BK118.out 3).trans rfl, (blk_cell BK118.out 4).trans rfl⟩ (fun hHeld => ?_)
 clear hK K
 refine norm_ (a' := ?_) ?_ ?_
 rotate_left
 · show Act.put _ (some 67) _ = _
   simp only [Act.put, List.setIfInBounds_toArray, List.set_cons_zero, List.set_cons_succ, i64_w, i32_w]
   rfl
 refine pure_ (i := 5) (N := some 68) (v := ?_) (a' := ?_) #[true, true, true, true, true, true, false, false, false] rfl rfl (any_of HT_.out (by kernel_rfl)) (fun _ _ _ h => h) (Or.inl ⟨by rfl, ?_⟩) ?_ ?_
 rotate_left
 · intro w'
   go_simp
   with_reducible rfl
 rotate_left
 · simp only [Act.put, List.setIfInBounds_toArray, List.set_cons_zero, List.set_cons_succ, i64_w, i32_w]
   rfl
 refine pure_ (i := 6) (N := some 69) (v := ?_) (a' := ?_) #[true, true, true, true, true, true, true, false, false] rfl rfl (any_of HT_.out (by kernel_rfl)) (fun _ _ _ h => h) (Or.inl ⟨by rfl, ?_⟩) ?_ ?_
 rotate_left
 · intro w'
   go_simp
   with_reducible rfl
 rotate_left
 · simp only [Act.put, List.setIfInBounds_toArray, List.set_cons_zero, List.set_cons_succ, i64_w, i32_w]
   rfl
 refine pure_ (i := 7) (N := some 70) (v := ?_) (a' := ?_) #[true, true, true, true, true, true, true, true, false] rfl rfl (any_of HT_.out (by kernel_rfl)) (fun _ _ _ h => h) (Or.inl ⟨by rfl, ?_⟩) ?_ ?_
 rotate_left
 · intro w'
   go_simp
   with_reducible rfl
 rotate_left
 · simp only [Act.put, List.setIfInBounds_toArray, List.set_cons_zero, List.set_cons_succ, i64_w, i32_w]
   rfl
 refine pure_ (i := 8) (N := some 71) (v := ?_) (a' := ?_) #[true, true, true, true, true, true, true, true, true] rfl rfl (any_of HT_.out (by kernel_rfl)) (fun _ _ _ h => h) (Or.inl ⟨by rfl, ?_⟩) ?_ ?_
 rotate_left
 · intro w'
   go_simp
   with_reducible rfl
 rotate_left
 · simp only [Act.put, List.setIfInBounds_toArray, List.set_cons_zero, List.set_cons_succ, i64_w, i32_w]
   rfl
 refine done_ (done_of HT_.out (by kernel_rfl)) ?_
 (try (rw [drewN_self w80]; generalize hq_ : World.drewN w80 _ = w80; have n0_ := zA (Kd.S_at hq_ HO_3.out); have n1_ := zA (Kd.R_at hq_ HO138.out); have n2_ := zA (blk_at hq_ BK105.out); have n3_ := zA (blk_at hq_ BK118.out); have n4_ := zA (below_at hq_ HB.out); clear hq_ HO_3 HO138 BK105 BK118 HB; have HO_3 := n0_; have HO138 := n1_; have BK105 := n2_; have BK118 := n3_; have HB := n4_; clear n0_ n1_ n2_ n3_ n4_))
 try go_wp2
 (try (rw [drewN_self w80]; generalize hq_ : World.drewN w80 _ = w80; have n0_ : Aside0 (Kd.R (Kd.int .i64) 3 w80 w.heap.size (fun _ => True) (.slice Ao81 t136.length co81) t136) := ⟨by rw [← hq_]; exact (by (with_reducible repeat (first | apply zRa | apply zRn | apply zRd)); exact HO138.out)⟩; have n1_ : Aside0 (Kd.S (Kd.slice 3 (Kd.int .i64)) 24 w80 w.heap.size (fun k_ => some k_ ≠ (.slice Ao81 t136.length co81 : Value).ownBlock) (.slice (some ⟨go11, 0, none⟩) x3_43.length co11) x3_43) := ⟨by rw [← hq_]; exact (by (with_reducible repeat (first | apply zSa | apply zSn | apply zSd)); exact Kd.S_mono HO_3.out (fun _ hk => hk.2))⟩; have n2_ : Aside0 (w80.heap[gb105]? = some (.cells #[.string ((rd_T73 l0 x14_1).f0), .int .i64 ((rd_T73 l0 x14_1).f1), .int .i64 ((rd_T73 l0 x14_1).f2), .int .i64 ((rd_T73 l0 x14_1).f3), .int .i64 ((rd_T73 l0 x14_1).f4)] 73 (0, 0))) := ⟨by rw [← hq_]; exact (by (with_reducible repeat (first | refine zkn ?_ _ | refine zkd ?_ | refine zka ?_ _)); exact BK105.out)⟩; have n3_ : Aside0 (w80.heap[gb118]? = some (.cells #[.string ((rd_T73 y113 x29_2).f0), .int .i64 ((rd_T73 y113 x29_2).f1), .int .i64 ((rd_T73 y113 x29_2).f2), .int .i64 ((rd_T73 y113 x29_2).f3), .int .i64 ((rd_T73 y113 x29_2).f4)] 73 (0, 0))) := ⟨by rw [← hq_]; exact (by (with_reducible repeat (first | refine zkn ?_ _ | refine zkd ?_ | refine zka ?_ _)); exact BK118.out)⟩; have n4_ : Aside0 (Below w.heap.size w w80) := ⟨by rw [← hq_]; exact (by repeat (first | (with_reducible first | exact HB.out | apply zba | apply zbn | apply zbd | refine below_set ?_ GE105.out | refine below_set ?_ GE118.out) | exact HB.out))⟩; clear HO138 HO_3 BK105 BK118 HB hq_; have HO138 := n0_; have HO_3 := n1_; have BK105 := n2_; have BK118 := n3_; have HB := n4_; clear n0_ n1_ n2_ n3_ n4_))
 have n0_ := zA (zSd HO_3.out)
 have n1_ := zA (zRd HO138.out)
 have n2_ := zA (zkd BK105.out)
 have n3_ := zA (zkd BK118.out)
 have n4_ := zA (zbd HB.out)
 clear HO_3
 clear HO138
 clear BK105
 clear BK118
 clear HB
 have HO_3 := n0_
 have HO138 := n1_
 have BK105 := n2_
 have BK118 := n3_
 have HB := n4_
 clear n0_ n1_ n2_ n3_ n4_
 have p140 : 0 ≤ (x14_1 : Int) := zde (by assumption)
 have q140 : x14_1 < (x3_43.length : Int) := zde (by assumption)
 obtain ⟨ad140, A140_0, c140_0, e140, hx140_0, hl140_0, hi140_0⟩ := at_L4 (zSr HO_3.out).2.2 x14_1 p140 q140
 obtain rfl : (⟨go11, 0, none⟩ : Addr) = ad140 := (by injection e140)
 obtain ⟨ce140, hce140, hMe140, hcc140⟩ := Kd.S_get HO_3.out [] x14_1 p140 (by first | exact q140 | exact zde (by assumption) | (have e_ := (zSr HO_3.out).1; omega))
 obtain ⟨ve140_0, rfl, ge140_0⟩ := hMe140
 have hv140_0 := hcc140 0 _ rfl
 rw [Nat.add_zero, show ((Kd.slice 3 (Kd.int .i64))).sz = 1 from rfl, Nat.mul_one] at hv140_0
 replace hv140_0 := zsi (hv140_0.symm.trans hx140_0)
 rw [hv140_0] at ge140_0
 have HL140_0 := zA (show Kd.R (Kd.int .i64) 3 _ _ _ _ (rd_L4 x3_43 x14_1) from ge140_0)
 clear hv140_0 ge140_0
 have HX140_0 := zA hx140_0
 clear hcc140 hce140
 (first | simp only [add_plain] at hx140_0 | simp only [add_at] at hx140_0 | simp only [Addr.add, Nat.zero_add] at hx140_0 | skip)
 have HR140_0 := zA hi140_0
 have HC140_0 := zA hl140_0
 clear hi140_0 hl140_0
 replace p140 := eq_true p140
 replace q140 := eq_true q140
 have p141 : 0 ≤ (x14_1 : Int) := zde (by assumption)
 have q141 : x14_1 < (x3_43.length : Int) := zde (by assumption)
 obtain ⟨ad141, A141_0, c141_0, e141, hx141_0, hl141_0, hi141_0⟩ := at_L4 (zSr HO_3.out).2.2 x14_1 p141 q141
 obtain rfl : (⟨go11, 0, none⟩ : Addr) = ad141 := (by injection e141)
 obtain ⟨ce141, hce141, hMe141, hcc141⟩ := Kd.S_get HO_3.out [] x14_1 p141 (by first | exact q141 | exact zde (by assumption) | (have e_ := (zSr HO_3.out).1; omega))
 obtain ⟨ve141_0, rfl, ge141_0⟩ := hMe141
 have hv141_0 := hcc141 0 _ rfl
 rw [Nat.add_zero, show ((Kd.slice 3 (Kd.int .i64))).sz = 1 from rfl, Nat.mul_one] at hv141_0
 replace hv141_0 := zsi (hv141_0.symm.trans hx141_0)
 rw [hv141_0] at ge141_0
 have HL141_0 := zA (show Kd.R (Kd.int .i64) 3 _ _ _ _ (rd_L4 x3_43 x14_1) from ge141_0)
 clear hv141_0 ge141_0
 have HX141_0 := zA hx141_0
 clear hcc141 hce141
 (first | simp only [add_plain] at hx141_0 | simp only [add_at] at hx141_0 | simp only [Addr.add, Nat.zero_add] at hx141_0 | skip)
 have HR141_0 := zA hi141_0
 have HC141_0 := zA hl141_0
 clear hi141_0 hl141_0
 replace p141 := eq_true p141
 replace q141 := eq_true q141
 have ea_ := zsi (hx140_0.symm.trans hx141_0)
 injection ea_ with ea_ en_ ec_
 subst ea_
 subst ec_
 clear en_
 have p142 : 0 ≤ (x29_2 : Int) := zde (by assumption)
 have q142 : x29_2 < ((rd_L4 x3_43 x14_1).length : Int) := zde (by assumption)
 obtain ⟨ad142, e142, hx142_0⟩ := Kd.at_int (by repeat (first | (with_reducible exact HR141_0.out) | (with_reducible first | refine zCa ?_ _ | refine zCn ?_ _ | refine zCd ?_) | exact HR141_0.out)) x29_2 p142 q142
 cases e142
 replace p142 := eq_true p142
 replace q142 := eq_true q142
 refine start_ (n := 17) (S := fun w' => w'.cell? ⟨gb118, 0, none⟩ = some (.string ((rd_T73 y113 x29_2).f0)) ∧ w'.cell? ⟨gb118, 1, none⟩ = some (.int .i64 ((rd_T73 y113 x29_2).f1)) ∧ w'.cell? ⟨gb118, 2, none⟩ = some (.int .i64 ((rd_T73 y113 x29_2).f2)) ∧ w'.cell? ⟨gb118, 3, none⟩ = some (.int .i64 ((rd_T73 y113 x29_2).f3)) ∧ w'.cell? ⟨gb118, 4, none⟩ = some (.int .i64 ((rd_T73 y113 x29_2).f4)) ∧ w'.cell? ⟨go11, (x14_1).toNat, none⟩ = some (.slice (some ad142) (rd_L4 x3_43 x14_1).length c140_0) ∧ w'.cell? ⟨go11, (x14_1).toNat, none⟩ = some (.slice (some ad142) (rd_L4 x3_43 x14_1).length c140_0) ∧ w'.cell? (ad142.add (x29_2).toNat) = some (.int .i64 (rd (rd_L4 x3_43 x14_1) x29_2))) (ds := [16]) #[false, false, false, false, false, false, false, false, false, false, false, false, false, false, false, false, false] (by kernel_rfl) rfl rfl ⟨(blk_cell BK118.out 0).trans rfl, (blk_cell BK118.out 1).trans rfl, (blk_cell BK118.out 2).trans rfl, (blk_cell BK118.out 3).trans rfl, (blk_cell BK118.out 4).trans rfl, hx140_0, hx141_0, hx142_0⟩ (fun hHeld => ?_); refine with_tabW impl_delays.tab15 impl_delays.bits15 (fun HT_ HW_ => ?_)
 generalize w80.drew = w82 at HO_3 HO138 BK105 BK118 HB HL140_0 HL141_0 HR140_0 HR141_0 HX140_0 HX141_0 hx140_0 hx141_0 hx142_0 hHeld ⊢
 refine pure_ (i := 0) (N := some 72) (v := ?_) (a' := ?_) #[true, false, false, false, false, false, false, false, false, false, false, false, false, false, false, false, false] rfl rfl (any_of HT_.out (by kernel_rfl)) (fun _ _ _ h => h) (Or.inl ⟨by rfl, ?_⟩) ?_ ?_
 rotate_left
 · intro w'
   go_simp
   with_reducible rfl
 rotate_left
 · simp only [Act.put, List.setIfInBounds_toArray, List.set_cons_zero, List.set_cons_succ, i64_w, i32_w]
   rfl
 refine pure_ (i := 1) (N := some 73) (v := ?_) (a' := ?_) #[true, true, false, false, false, false, false, false, false, false, false, false, false, false, false, false, false] rfl rfl (any_of HT_.out (by kernel_rfl)) (fun _ _ _ h => h) (Or.inl ⟨by rfl, ?_⟩) ?_ ?_
 rotate_left
 · intro w'
   go_simp
   with_reducible rfl
 rotate_left
 · simp only [Act.put, List.setIfInBounds_toArray, List.set_cons_zero, List.set_cons_succ, i64_w, i32_w]
   rfl
 refine pure_ (i := 2) (N := some 74) (v := ?_) (a' := ?_) #[true, true, true, false, false, false, false, false, false, false, false, false, false, false, false, false, false] rfl rfl (any_of HT_.out (by kernel_rfl)) (fun _ _ _ h => h) (Or.inl ⟨by rfl, ?_⟩) ?_ ?_
 rotate_left
 · intro w'
   go_simp
   with_reducible rfl
 rotate_left
 · simp only [Act.put, List.setIfInBounds_toArray, List.set_cons_zero, List.set_cons_succ, i64_w, i32_w]
   rfl
 refine pure_ (i := 4) (N := some 76) (v := ?_) (a' := ?_) #[true, true, true, false, true, false, false, false, false, false, false, false, false, false, false, false, false] rfl rfl (any_of HT_.out (by kernel_rfl)) (fun _ _ _ h => h) (Or.inl ⟨by rfl, ?_⟩) ?_ ?_
 rotate_left
 · intro w'
   go_simp
   with_reducible rfl
 rotate_left
 · simp only [Act.put, List.setIfInBounds_toArray, List.set_cons_zero, List.set_cons_succ, i64_w, i32_w]
   rfl
 refine pure_ (i := 5) (N := some 77) (v := ?_) (a' := ?_) #[true, true, true, false, true, true, false, false, false, false, false, false, false, false, false, false, false] rfl rfl (any_of HT_.out (by kernel_rfl)) (fun _ _ _ h => h) (Or.inl ⟨by rfl, ?_⟩) ?_ ?_
 rotate_left
 · intro w'
   go_simp
   with_reducible rfl
 rotate_left
 · simp only [Act.put, List.setIfInBounds_toArray, List.set_cons_zero, List.set_cons_succ, i64_w, i32_w]
   rfl
 refine pure_ (i := 6) (N := some 78) (v := ?_) (a' := ?_) #[true, true, true, false, true, true, true, false, false, false, false, false, false, false, false, false, false] rfl rfl (any_of HT_.out (by kernel_rfl)) (fun _ _ _ h => h) (Or.inl ⟨by rfl, ?_⟩) ?_ ?_
 rotate_left
 · intro w'
   go_simp
   with_reducible rfl
 rotate_left
 · simp only [Act.put, List.setIfInBounds_toArray, List.set_cons_zero, List.set_cons_succ, i64_w, i32_w]
   rfl
 refine pure_ (i := 7) (N := some 79) (v := ?_) (a' := ?_) #[true, true, true, false, true, true, true, true, false, false, false, false, false, false, false, false, false] rfl rfl (any_of HT_.out (by kernel_rfl)) (fun _ _ _ h => h) (Or.inl ⟨by rfl, ?_⟩) ?_ ?_
 rotate_left
 · intro w'
   go_simp
   with_reducible rfl
 rotate_left
 · simp only [Act.put, List.setIfInBounds_toArray, List.set_cons_zero, List.set_cons_succ, i64_w, i32_w]
   rfl
 refine pure_ (i := 9) (N := some 81) (v := ?_) (a' := ?_) #[true, true, true, false, true, true, true, true, false, true, false, false, false, false, false, false, false] rfl rfl (any_of HT_.out (by kernel_rfl)) (fun _ _ _ h => h) (Or.inl ⟨by rfl, ?_⟩) ?_ ?_
 rotate_left
 · intro w'
   go_simp
   with_reducible rfl
 rotate_left
 · simp only [Act.put, List.setIfInBounds_toArray, List.set_cons_zero, List.set_cons_succ, i64_w, i32_w]
   rfl
 refine take_ (i := 3) (N := some 75) (v := ?_) (a' := ?_) #[true, true, true, true, true, true, true, true, false, true, false, false, false, false, false, false, false] rfl rfl (take_ofW HT_.out HW_.out (by kernel_rfl)) (fun _ _ _ h => h) (Or.inl ⟨by rfl, ?_⟩) hHeld ?_ ?_
 rotate_left
 · rintro w' ⟨s0, s1, s2, s3, s4, s5, s6, s7⟩
   go_simp
   with_reducible rfl
 rotate_left
 · simp only [Act.put, List.setIfInBounds_toArray, List.set_cons_zero, List.set_cons_succ, i64_w, i32_w]
   rfl
 refine take_ (i := 8) (N := some 80) (v := ?_) (a' := ?_) #[true, true, true, true, true, true, true, true, true, true, false, false, false, false, false, false, false] rfl rfl (take_ofW HT_.out HW_.out (by kernel_rfl)) (fun _ _ _ h => h) (Or.inl ⟨by rfl, ?_⟩) hHeld ?_ ?_
 rotate_left
 · rintro w' ⟨s0, s1, s2, s3, s4, s5, s6, s7⟩
   go_simp
   with_reducible rfl
 rotate_left
 · simp only [Act.put, List.setIfInBounds_toArray, List.set_cons_zero, List.set_cons_succ, i64_w, i32_w]
   rfl
 refine pure_ (i := 10) (N := some 82) (v := ?_) (a' := ?_) #[true, true, true, true, true, true, true, true, true, true, true, false, false, false, false, false, false] rfl rfl (any_of HT_.out (by kernel_rfl)) (fun _ _ _ h => h) (Or.inl ⟨by rfl, ?_⟩) ?_ ?_
 rotate_left
 · intro w'
   go_simp
   with_reducible rfl
 rotate_left
 · simp only [Act.put, List.setIfInBounds_toArray, List.set_cons_zero, List.set_cons_succ, i64_w, i32_w]
   rfl
 refine take_ (i := 11) (N := some 83) (v := ?_) (a' := ?_) #[true, true, true, true, true, true, true, true, true, true, true, true, false, false, false, false, false] rfl rfl (take_ofW HT_.out HW_.out (by kernel_rfl)) (fun _ _ _ h => h) (Or.inl ⟨by rfl, ?_⟩) hHeld ?_ ?_
 rotate_left
 · rintro w' ⟨s0, s1, s2, s3, s4, s5, s6, s7⟩
   go_simp
   with_reducible rfl
 rotate_left
 · simp only [Act.put, List.setIfInBounds_toArray, List.set_cons_zero, List.set_cons_succ, i64_w, i32_w]
   rfl
 refine take_ (i := 12) (N := some 84) (v := ?_) (a' := ?_) #[true, true, true, true, true, true, true, true, true, true, true, true, true, false, false, false, false] rfl rfl (take_ofW HT_.out HW_.out (by kernel_rfl)) (fun _ _ _ h => h) (Or.inl ⟨by rfl, ?_⟩) hHeld ?_ ?_
 rotate_left
 · rintro w' ⟨s0, s1, s2, s3, s4, s5, s6, s7⟩
   go_simp
   with_reducible rfl
 rotate_left
 · simp only [Act.put, List.setIfInBounds_toArray, List.set_cons_zero, List.set_cons_succ, i64_w, i32_w]
   rfl
 refine one_ (i := 13) (N := some 85) #[true, true, true, true, true, true, true, true, true, true, true, true, true, true, false, false, false] rfl rfl (one_of HT_.out (by kernel_rfl)) (by decide) (fun K hK => ?_)
 refine goes_ Try.func113 (by kernel_rfl) rfl #[.agg #[.string ((rd_T73 y113 x29_2).f0), .int .i64 ((rd_T73 y113 x29_2).f1), .int .i64 ((rd_T73 y113 x29_2).f2), .int .i64 ((rd_T73 y113 x29_2).f3), .int .i64 ((rd_T73 y113 x29_2).f4)]] (by rfl) rfl rfl (by (try simp only [List.map_toArray, List.map_cons, List.map_nil]); first | done | rfl | (simp only [List.length_drop, List.length_take]; rfl)) ?_
 with_reducible refine (impl_Instr_cost.calls ((rd_T73 y113 x29_2).f0) ((rd_T73 y113 x29_2).f1) ((rd_T73 y113 x29_2).f2) ((rd_T73 y113 x29_2).f3) ((rd_T73 y113 x29_2).f4) t143 _ A74.out).mono ?_
 rintro e w83 ⟨rfl, hb⟩
 have HS5_ := (hb.cell (World.block_lt_of_cell? _ _ (hHeld.2.2.2.2.2.1))).trans (hHeld.2.2.2.2.2.1)
 have HS6_ := (hb.cell (World.block_lt_of_cell? _ _ (hHeld.2.2.2.2.2.2.1))).trans (hHeld.2.2.2.2.2.2.1)
 have HS7_ := (hb.cell (World.block_lt_of_cell? _ _ (hHeld.2.2.2.2.2.2.2))).trans (hHeld.2.2.2.2.2.2.2)
 refine ⟨_, rfl, ?_⟩
 have n0_ := zA (Kd.S_below (by (with_reducible repeat (first | apply zSa | apply zSn | apply zSd)); exact HO_3.out) hb)
 have n1_ := zA (zRb (by (with_reducible repeat (first | apply zRa | apply zRn | apply zRd)); exact HO138.out) hb)
 have n2_ := zA (zRb (by (with_reducible repeat (first | apply zRa | apply zRn | apply zRd)); exact HL140_0.out) hb)
 have n3_ := zA (zRb (by (with_reducible repeat (first | apply zRa | apply zRn | apply zRd)); exact HL141_0.out) hb)
 have n4_ := zA (blk_below (g := gb105) (o := .cells #[.string ((rd_T73 l0 x14_1).f0), .int .i64 ((rd_T73 l0 x14_1).f1), .int .i64 ((rd_T73 l0 x14_1).f2), .int .i64 ((rd_T73 l0 x14_1).f3), .int .i64 ((rd_T73 l0 x14_1).f4)] 73 (0, 0)) (by (with_reducible repeat (first | refine zkn ?_ _ | refine zkd ?_ | refine zka ?_ _)); exact BK105.out) hb)
 have n5_ := zA (blk_below (g := gb118) (o := .cells #[.string ((rd_T73 y113 x29_2).f0), .int .i64 ((rd_T73 y113 x29_2).f1), .int .i64 ((rd_T73 y113 x29_2).f2), .int .i64 ((rd_T73 y113 x29_2).f3), .int .i64 ((rd_T73 y113 x29_2).f4)] 73 (0, 0)) (by (with_reducible repeat (first | refine zkn ?_ _ | refine zkd ?_ | refine zka ?_ _)); exact BK118.out) hb)
 have n6_ := zA (zCb (by repeat (first | (with_reducible exact HR140_0.out) | (with_reducible first | refine zCa ?_ _ | refine zCn ?_ _ | refine zCd ?_) | exact HR140_0.out)) hb)
 have n7_ := zA (pw_cell_below hb HX140_0.out)
 have n8_ := zA (zCb (by repeat (first | (with_reducible exact HR141_0.out) | (with_reducible first | refine zCa ?_ _ | refine zCn ?_ _ | refine zCd ?_) | exact HR141_0.out)) hb)
 have n9_ := zA (pw_cell_below hb HX141_0.out)
 have n10_ := zA (below_step (by repeat (first | (with_reducible first | exact HB.out | apply zba | apply zbn | apply zbd | refine below_set ?_ GE105.out | refine below_set ?_ GE118.out) | exact HB.out)) hb)
 clear HO_3
 clear HO138
 clear HL140_0
 clear HL141_0
 clear BK105
 clear BK118
 clear HR140_0
 clear HX140_0
 clear HR141_0
 clear HX141_0
 clear HB
 have HO_3 := n0_
 have HO138 := n1_
 have HL140_0 := n2_
 have HL141_0 := n3_
 have BK105 := n4_
 have BK118 := n5_
 have HR140_0 := n6_
 have HX140_0 := n7_
 have HR141_0 := n8_
 have HX141_0 := n9_
 have HB := n10_
 clear n0_ n1_ n2_ n3_ n4_ n5_ n6_ n7_ n8_ n9_ n10_
 (try clear hb)
 (try clear hb2)
 (try clear hk)
 (try clear hi)
 have p76 : 0 ≤ (x29_2 : Int) := zde (by assumption)
 have q76 : (x29_2 : Int) < (((rd_L4 x3_43 x14_1).length : Int) : Int) := zde (by assumption)
 obtain ⟨go76, co76, eo76, gb76, gl76, cl76, HG76⟩ := Kd.R_form HL140_0.out (by omega)
 (first | cases eo76 | (injection eo76 with ea_ en_ ec_; (first | subst ea_ | (injection ea_ with ea_; subst ea_)); subst ec_; clear en_))
 have GB76 := zA gb76
 have GG76 := zA HG76
 clear gb76 gl76 HG76
 (first | simp only [add_plain] at hx142_0 | skip)
 obtain ⟨hx76_0, hf76_0⟩ := Kd.R_celln 0 HL140_0.out (x29_2 : Int) p76 q76
 replace p76 := eq_true p76
 replace q76 := eq_true q76
 have n_ := zA (Kd.S_mono (ok' := (fun k_ => some k_ ≠ (.slice Ao81 t136.length co81 : Value).ownBlock)) HO_3.out (fun k_ hk => hk.2))
 clear HO_3
 have HO_3 := n_
 clear n_
 have hq84 : (x14_1 : Int) < (x3_43.length : Int) := (by have h_ : (x14_1 : Int) < ((x3_43.length : Int) : Int) := zde (by assumption); first | exact h_ | (have e_ := (zSr HO_3.out).1; omega) | simpa only [List.length_set, List.length_set] using h_)
 obtain ⟨oki84, ce84, hcl84, hM84, hcc84, hok84, hbk84⟩ := Kd.S_borrow HO_3.out [] (x14_1 : Int) (zde (by assumption)) hq84
 obtain ⟨ve84_0, rfl, ge84_0⟩ := (id hM84)
 have hv84 := hcc84 0 _ rfl
 rw [Nat.add_zero, show ((Kd.slice 3 (Kd.int .i64))).sz = 1 from rfl, Nat.mul_one] at hv84
 replace hv84 := zsi (hv84.symm.trans HX140_0.out)
 subst hv84
 clear hcc84 hcl84
 replace ge84_0 := (show Kd.R (Kd.int .i64) 3 _ _ _ _ (rd_L4 x3_43 x14_1) from ge84_0)
 have HP84 := Kd.R_putg ge84_0 (x29_2 : Int) ji75
 rw [← Ny144.out] at HP84
 have HS84 := hbk84 HP84.2 (fun k_ e_ => by injection e_ with e_; subst e_; exact ge84_0.1 _ rfl) (x' := y144) (Kd.M_row HP84.1)
 rw [← Ny146.out] at HS84
 have HQ84 := zA HS84
 clear HP84 HS84 hbk84 hok84
 refine hK.out _ _ ⟨(blk_cell BK118.out 0).trans rfl, (blk_cell BK118.out 1).trans rfl, (blk_cell BK118.out 2).trans rfl, (blk_cell BK118.out 3).trans rfl, (blk_cell BK118.out 4).trans rfl, HS5_, HS6_, HS7_⟩ (fun hHeld => ?_)
 clear hK K
 refine norm_ (a' := ?_) ?_ ?_
 rotate_left
 · show Act.put _ (some 85) _ = _
   simp only [Act.put, List.setIfInBounds_toArray, List.set_cons_zero, List.set_cons_succ, i64_w, i32_w]
   rfl
 refine pure_ (i := 14) (N := some 86) (v := ?_) (a' := ?_) #[true, true, true, true, true, true, true, true, true, true, true, true, true, true, true, false, false] rfl rfl (any_of HT_.out (by kernel_rfl)) (fun _ _ _ h => h) (Or.inl ⟨by rfl, ?_⟩) ?_ ?_
 rotate_left
 · intro w'
   go_simp
   with_reducible rfl
 rotate_left
 · simp only [Act.put, List.setIfInBounds_toArray, List.set_cons_zero, List.set_cons_succ, i64_w, i32_w]
   rfl
 refine pure_ (i := 15) (N := some 87) (v := ?_) (a' := ?_) #[true, true, true, true, true, true, true, true, true, true, true, true, true, true, true, true, false] rfl rfl (any_of HT_.out (by kernel_rfl)) (fun _ _ _ h => h) (Or.inl ⟨by rfl, ?_⟩) ?_ ?_
 rotate_left
 · intro w'
   go_simp
   with_reducible rfl
 rotate_left
 · simp only [Act.put, List.setIfInBounds_toArray, List.set_cons_zero, List.set_cons_succ, i64_w, i32_w]
   rfl
 refine last_ (i := 16) (N := none) #[true, true, true, true, true, true, true, true, true, true, true, true, true, true, true, true, true] rfl rfl (one_of HT_.out (by kernel_rfl)) (by decide) (fun K hK => ?_)
 refine skip_ (w1 := ?_) (by rfl) rfl ?_ ?_
 rotate_left
 · go_simp
   rfl
 refine hK.out _ _ ?_
 clear hK K
 refine done_ (done_of HT_.out (by kernel_rfl)) ?_
 try go_wp2
 (try simp only [← hl3_2, ← hl3_28, ← hl3_43])
 go_roundg kj43
 case measure => have := HK1.out; have := HK2.out; have := HJ28.out; have := HJ43.out; omega
 case rel => exact ⟨(y146), (ji56), (by first | rfl | (simp; done) | (simp only [← hji56] <;> (first | rfl | simp)) | (simp [*]; done)), H', ⟨by have := HK1.out; have := HK2.out; have := HJ28.out; have := HJ43.out; omega⟩, ⟨by (try simp only [hl3_2]); (try simp only [hl3_28]); (try simp only [hl3_43]); (with_reducible repeat (first | apply zSa | apply zSn | apply zSd)); exact Kd.S_mono HQ84.out (fun _ hk => trivial)⟩, ⟨by (try simp only [hl3_2]); (try simp only [hl3_28]); (try simp only [hl3_43]); (with_reducible repeat (first | refine zkn ?_ _ | refine zkd ?_ | refine zka ?_ _)); refine blk_far ?_ (by have h_ := Kd.R_ne HL140_0.out BK105.out (by decide); intro e_; exact h_ (by rw [e_]; rfl)) _; (with_reducible repeat (first | refine zkn ?_ _ | refine zkd ?_ | refine zka ?_ _)); exact BK105.out⟩, ⟨by repeat (first | (with_reducible first | exact HB.out | apply zba | apply zbn | apply zbd | refine below_set ?_ GB76.out | refine below_set ?_ GE105.out | refine below_set ?_ GE118.out) | exact HB.out)⟩⟩
end Go.Proofs.Ytpndpmnliblpjaa.Q
end
section
namespace Go.Proofs.Ytpndpmnliblpjaa.Q
open Go.RowKit Go.Proofs.YtpndpmnliblpjaaW.PrintWords Go.Proofs.YtpndpmnliblpjaaW.PrintLast Go.Proofs.YtpndpmnliblpjaaW.PrintMore
attribute [local go_sem] max2_int min2_int max_two min_two max_three min_three max_four min_four
set_option linter.unusedVariables false
set_option linter.unusedSimpArgs false
def impl_isWide.f (a0 : Int) : Option (Bool) := (impl_within.f a0 1 3).bind fun t101 => (some t101)
set_option maxHeartbeats 8000000 in
set_option maxRecDepth 100000 in
theorem impl_isWide.calls (a0 : Int) (r : Bool) (w : World) (h : impl_isWide.f a0 = some r) :
   Calls Try.prog 49 #[.int .i64 a0] w fun e w' => e = .returned (.bool r) ∧ Drawn0 w w' := by
 have H : ((impl_within.f a0 1 3).bind fun t101 => (some t101)) = some r := h
 clear h
 replace H := zob H
 obtain ⟨t101, A20, H⟩ := H
 replace H : (some t101) = some r := H
 have A2 := zA A20
 clear A20
 obtain rfl := zsi H
 go_enter Try.func49, Try.ntmps49
 go_wp2_with (first | ((with_reducible refine gate_callee (f := 65) rfl ?_); refine goesL_ (some 4) rfl rfl Try.func65 (by kernel_rfl) rfl #[.int .i64 a0, .int .i64 1, .int .i64 3] rfl (by (try simp only [List.map_toArray, List.map_cons, List.map_nil]); first | done | rfl | (simp only [List.length_drop, List.length_take]; rfl)) ?_; (with_reducible refine (impl_within.calls a0 1 3 t101 _ A2.out).mono ?_); rintro e w' ⟨rfl, ⟨nd, rfl⟩⟩; refine ⟨_, rfl, ?_⟩))
 go_ret
 exact ⟨by first | rfl | (simp; done) | (simp [*]; done), by repeat (first | exact Drawn0.refl _ | apply Drawn0.step)⟩
end Go.Proofs.Ytpndpmnliblpjaa.Q
end
section
namespace Go.Proofs.Ytpndpmnliblpjaa.Q
open Go.RowKit Go.Shelf Go.Proofs.YtpndpmnliblpjaaW.PrintWords Go.Proofs.YtpndpmnliblpjaaW.PrintLast Go.Proofs.YtpndpmnliblpjaaW.PrintMore
set_option linter.unusedVariables false
attribute [local go_sem] Oper.semAt_some
def KeepB (n₀ Bs : Nat) (W W' : World) : Prop := Below n₀ W W' ∧ ∀ v, W.cell? ⟨Bs, 0, none⟩ = some v → W'.cell? ⟨Bs, 0, none⟩ = some v
theorem keepB_t {n₀ Bs : Nat} {A B C : World} (h : KeepB n₀ Bs A B) (k : KeepB n₀ Bs B C) : KeepB n₀ Bs A C := ⟨h.1.trans k.1, fun v e => k.2 v (h.2 v e)⟩
def backArgs (xs : List S73) (i : Int) : Array Value := #[.int .i64 i, .agg #[.string (rd_T73 xs i).f0, .int .i64 (rd_T73 xs i).f1, .int .i64 (rd_T73 xs i).f2, .int .i64 (rd_T73 xs i).f3, .int .i64 (rd_T73 xs i).f4]]
def backUpto (n d : Nat) : List { i : Nat // i < n } := (List.range d).filterMap fun j => if h : n - 1 - j < n then some ⟨n - 1 - j, h⟩ else none
theorem backUpto_succ (n d : Nat) (h : n - 1 - d < n) : backUpto n (d + 1) = backUpto n d ++ [⟨n - 1 - d, h⟩] := by
  unfold backUpto
  rw [List.range_succ, List.filterMap_append]
  congr 1
  simp [h]
theorem backUpto_len (n d : Nat) (h : d ≤ n) : (backUpto n d).length = d := by
  induction d with
  | zero => rfl
  | succ d ih => rw [backUpto_succ n d (by omega), List.length_append, ih (by omega)]; rfl
set_option maxRecDepth 100000 in
set_option maxHeartbeats 4000000 in
theorem back1_in (F : Fence) (n : Nat) (h112 : F.fn 168) (hro : F.round = none) (hn : 1 ≤ n) (l Bs n₀ : Nat) (A : Option Addr) (c : Nat) (xs : List S73) (hxs : xs.length ≤ 1048576) (J Jx : List { i : Nat // i < xs.length } → World → Prop)
    (W : World) (hW : n₀ ≤ W.heap.size) (hR : ∀ W', Below n₀ W W' → Kd.C k73 W' A xs.length xs)
    (hY : ∀ pre x W1, J pre W1 → pre.length < xs.length → YieldAt F (n - 1) Try.prog l (backArgs xs (x.1 : Nat)) W1 fun e W' =>
      (e = .returned (.bool true) ∧ J (pre ++ [x]) W' ∧ KeepB n₀ Bs W1 W') ∨ (e = .returned (.bool false) ∧ Jx (pre ++ [x]) W'))
    (hBs : W.cell? ⟨Bs, 0, none⟩ = some (.slice A xs.length c)) (h0 : J [] W) :
    CallsIn F n Try.prog 168 #[.func (.yield l) #[] #[], .pointer (some ⟨Bs, 0, none⟩)] W fun e W' => (∃ v, e = .returned v) ∧
      ((∃ ys, ys = backUpto xs.length xs.length ∧ J ys W') ∨ (∃ pre, (∃ d, d ≤ xs.length ∧ pre = backUpto xs.length d) ∧ Jx pre W')) := by
  have hu57 := Try.underlying73
  refine callsIn_of_wp Try.func168 rfl h112 ?_ hro
  simp only [Try.ntmps168, List.size_toArray, List.length_cons, List.length_nil, Nat.reduceAdd, Nat.reduceSub, Array.replicate_succ, Array.replicate_zero, List.push_toArray, List.append_toArray, List.nil_append, List.cons_append]
  gi_wp2
  gi_loopw [3] (fun i wr => ∃ d : Nat, d ≤ xs.length ∧ i = .int .i64 ((xs.length : Int) - 1 - d) ∧ J (backUpto xs.length d) wr ∧ KeepB n₀ Bs W wr)
    (fun i _ => (intOf i + 1).toNat)
  case atStart => exact ⟨0, Nat.zero_le _, by simp, h0, Below.refl _ _, fun _ h => h⟩
  case round =>
    obtain ⟨d, hd, rfl, hJs, hnx⟩ := hrel
    have hBs' : wr.cell? ⟨Bs, 0, none⟩ = some (.slice A xs.length c) := hnx.2 _ hBs
    by_cases hlt : d < xs.length
    · have hx : xs.length - 1 - d < xs.length := by omega
      have e : (xs.length : Int) - 1 - d = ((xs.length - 1 - d : Nat) : Int) := by omega
      obtain ⟨fn, tmps, assign, body, hy, hRd⟩ := hY _ ⟨xs.length - 1 - d, hx⟩ wr hJs (by rw [backUpto_len _ _ hd]; exact hlt)
      unfold backArgs at hy
      dsimp only at hy
      rw [e]
      generalize hi : xs.length - 1 - d = i at *
      obtain ⟨ad, rfl, g0, g1, g2, g3, g4⟩ := at_T73 (hR wr hnx.1) (i : Int) (by omega) (by omega)
      rw [Int.toNat_natCast] at g0 g1 g2 g3 g4
      gi_wp2
      refine hRd.mono ?_
      rintro e W3 (⟨rfl, hJ3, hk3⟩ | ⟨rfl, hJx3⟩)
      · gi_wp2
        go_roundw
        case rel => exact ⟨d + 1, by omega, by rw [show (xs.length : Int) - 1 - ((d + 1 : Nat) : Int) = (i : Int) - 1 by omega], by rw [backUpto_succ _ _ (by omega)]; simpa [hi] using hJ3, keepB_t hnx hk3⟩
        case measure => simp [intOf]
      · gi_wp2
        refine bodyPost_ret (results_none rfl _ _ _) rfl ?_
        exact ⟨⟨_, rfl⟩, .inr ⟨_, ⟨d + 1, by omega, rfl⟩, by rw [backUpto_succ _ _ (by omega)]; simpa [hi] using hJx3⟩⟩
    · obtain rfl : d = xs.length := by omega
      gi_wp2
      go_end0
      exact ⟨⟨_, rfl⟩, .inl ⟨_, rfl, hJs⟩⟩
theorem keepB_b {n₀ Bs : Nat} {w : World} (hn : n₀ ≤ w.heap.size) (W : World) (l : Nat) (o o' : Obj) (hl : w.heap.size ≤ l) (h : W.heap[l]? = some o) (hc : o.isCells = false) (hw : o.isWalk = false) : KeepB n₀ Bs W (W.putObj l o') :=
  ⟨belowK_b hn W l o o' hl h hc hw, fun v e => cell_kept e (grownBy_putObj' W l o') (fun r e' => by cases e'; exact ⟨o, h, hc⟩)⟩
set_option maxHeartbeats 1000000 in
theorem back_in (F : Fence) (n : Nat) (h95 : F.fn 114) (hro : F.round = none) (a : Option Addr) (len cap : Nat) (w : World) :
    CallsIn F n Try.prog 114 #[.slice a len cap] w fun e w' => e = .returned (.func (.func 168) #[] #[.pointer (some ⟨w.heap.size, 0, none⟩)]) ∧ w' = w.alloc (.cells #[.slice a len cap] 27) := by
  refine callsIn_of_wp Try.func114 rfl h95 ?_ hro
  simp only [Try.ntmps114, List.size_toArray, List.length_cons, List.length_nil, Nat.reduceAdd, Nat.reduceSub, Array.replicate_succ, Array.replicate_zero, List.push_toArray, List.append_toArray, List.nil_append, List.cons_append]
  gi_wp2
  go_ret
  exact ⟨rfl, rfl⟩
theorem back_stops (F : Fence) (n : Nat) (h112 : F.fn 168) (hro : F.round = none) (hn : 1 ≤ n) (Bs n₀ : Nat) (A : Option Addr) (c : Nat) (xs : List S73) (hxs : xs.length ≤ 1048576) (w : World) (hlt : Bs < w.heap.size) (hn₀ : n₀ ≤ w.heap.size)
    (hBs : w.cell? ⟨Bs, 0, none⟩ = some (.slice A xs.length c)) (hR : ∀ W', Below n₀ w W' → Kd.C k73 W' A xs.length xs) :
    SeqStopsK F n Try.prog 168 #[.pointer (some ⟨Bs, 0, none⟩)] (fun x : { i : Nat // i < xs.length } => backArgs xs (x.1 : Nat)) (KeepB n₀ Bs) (fun ys => ys = backUpto xs.length xs.length) (fun _ => True) xs.length w := fun l J Jx W hW _ _ hY h0 => by
  refine (back1_in F n h112 hro hn l Bs n₀ A c xs hxs J Jx W (Nat.le_trans hn₀ hW.size) (fun W' hb => hR W' ((hW.mono hn₀).trans hb)) hY ((hW.cell (p := ⟨Bs, 0, none⟩) hlt).trans hBs) h0).mono ?_
  rintro e W' ⟨he, ⟨ys, hy, hj⟩ | ⟨pre, _, hj⟩⟩
  · exact ⟨he, .inl ⟨_, hy, hj⟩⟩
  · exact ⟨he, .inr ⟨pre, trivial, hj⟩⟩
end Go.Proofs.Ytpndpmnliblpjaa.Q
end
section
namespace Go.Proofs.Ytpndpmnliblpjaa.Q
open Go.RowKit Go.Proofs.YtpndpmnliblpjaaW.PrintWords Go.Proofs.YtpndpmnliblpjaaW.PrintLast Go.Proofs.YtpndpmnliblpjaaW.PrintMore
set_option linter.unusedVariables false
theorem wpIn_oper {l n : Nat} {P : Program} {o : Oper} {a : Act} {w : World} {K : Act → World → Prop} {Q : Exit → Act → World → Prop} (hd : ∀ c, o.op ≠ .defer c) (h : o.wp P a w K Q) :
    o.wpIn (Fence.wide.inRound l) n P a w K Q := by
  refine ⟨fun _ _ => trivial, ?_⟩
  rw [show o.semAt (Fence.wide.inRound l).round a.eval = execOp a.eval o from Oper.semAt_some l a.eval o hd]
  unfold Oper.wp at h
  generalize (execOp a.eval o).run P w = r at h ⊢
  cases r with
  | ok x w' =>
    cases x with
    | value v => exact h
    | skip => exact h
    | defer d => exact h
    | enter f args => exact ⟨(fun h' => by cases h'), CallsIn.inRound l (callsIn_wide.2 h)⟩
    | row row args => exact ⟨(fun h' => by cases h'), fun c cs _ => let ⟨v, w'', r, s⟩ := h c cs; ⟨v, w'', r, stepsIn_wide.2 s⟩⟩
    | _ => exact h.elim
  | halt x w' => cases x <;> exact h
def noDefer (ops : Array Oper) : Bool := ops.toList.all fun o => match o.op with | .defer _ => false | _ => true
theorem noDefer_at {ops : Array Oper} (h : noDefer ops = true) (i : Nat) (o : Oper) (ho : ops[i]? = some o) : ∀ c, o.op ≠ .defer c := by
  intro c e
  have := List.all_eq_true.1 h o (by rw [← Array.getElem?_toList] at ho; exact List.mem_of_getElem? ho)
  rw [e] at this
  cases this
theorem wpAnyIn_of {l n : Nat} {P : Program} {md : Region.Mode} {ops : Array Oper} {Q : Exit → Act → World → Prop} (hd : noDefer ops = true) (hL : ¬ LetsOut Q) :
    ∀ (fuel : Nat) (listed : Array Bool) (a : Act) (w : World), wpAny P md ops Q fuel listed a w → wpAnyIn (Fence.wide.inRound l) n P md ops Q fuel listed a w
  | 0, _, _, _, h => h
  | fuel + 1, listed, a, w, h => by
    refine ⟨h.1, fun i hi => ?_⟩
    have h2 := h.2 i hi
    unfold wpOp at h2
    unfold wpOpIn
    split
    · rename_i ho
      rw [ho] at h2
      exact wpAnyIn_of hd hL fuel _ _ _ h2
    · rename_i o ho
      rw [ho] at h2
      simp only at h2
      split
      · rename_i hw
        rw [if_pos hw] at h2
        rcases h2 with h2 | h2
        · exact Oper.wpIn_mono (fun a w h' => wpAnyIn_of hd hL fuel _ a w h') (wpIn_oper (noDefer_at hd i o ho) h2)
        · exact absurd h2.2 hL
      · rename_i hw
        rw [if_neg hw] at h2
        exact ⟨fun _ _ => trivial, wpAnyIn_of hd hL fuel _ _ _ h2⟩
theorem ri_regionIn {l q : Nat} {P : Program} {Q : Exit → Act → World → Prop} {ops : Array Oper} {id : Nat} {a : Act} {w : World} (deps nots : List (List Nat)) (I : (Nat → Bool) → (Nat → Value) → World → Prop) (hm : P.follows .mixedOrders = true) (hd : noDefer ops = true) (hL : ¬ LetsOut Q) (hQ : ∀ c t t' d w, Q (.panic c) ⟨t, d⟩ w → Q (.panic c) ⟨t', d⟩ w)
    (hok : riOk .any ops a.tmps.size deps nots = true) (h0 : I (fun _ => false) (fun _ => undef) w.drew) (hs : RiSteps P Q ops a I ops.toList deps nots 0)
    (hend : ∀ L s w', (∀ i, Nat.blt i ops.size = true → L i = true) → I L s w' → Q .normal (riFill ops (fun _ => true) s a) w') : (Code.region id ops true).wpIn (Fence.wide.inRound l) q P Q a w :=
  wpIn_region_any hm (wpAnyIn_of hd hL _ _ _ _ (ri_any deps nots I hQ hok h0 hs hend))
theorem ri_stillIn {l q : Nat} {P : Program} {Q : Exit → Act → World → Prop} {ops : Array Oper} {id : Nat} {a : Act} {w : World} (deps : List (List Nat)) (n : Nat) (V : Nat → Value) (last : Oper) (hm : P.follows .mixedOrders = true) (hd : noDefer ops = true) (hL : ¬ LetsOut Q) (hQ : ∀ c t t' d w, Q (.panic c) ⟨t, d⟩ w → Q (.panic c) ⟨t', d⟩ w)
    (hok : riOk .any ops a.tmps.size deps (List.replicate n [n]) = true) (hn : ops.size = n + 1) (hlast : ops.toList[n]? = some last) (hdst : last.dst = none) (hv : RiVals P ops V a w.drew ops.toList deps 0)
    (hl : RiStep P Q ops last (riFill ops (riMem (deps.getD n [])) V a) (fun _ w' => Q .normal (riFill ops (fun _ => true) V a) w') w.drew) : (Code.region id ops true).wpIn (Fence.wide.inRound l) q P Q a w :=
  wpIn_region_any hm (wpAnyIn_of hd hL _ _ _ _ (ri_stillAny deps n V last hQ hok hn hlast hdst hv hl))
end Go.Proofs.Ytpndpmnliblpjaa.Q
end
section
namespace Go.Proofs.Ytpndpmnliblpjaa.Q
open Go.RowKit Go.Proofs.YtpndpmnliblpjaaW.PrintWords Go.Proofs.YtpndpmnliblpjaaW.PrintLast Go.Proofs.YtpndpmnliblpjaaW.PrintMore
attribute [local go_sem] max2_int min2_int max_two min_two max_three min_three max_four min_four
set_option linter.unusedVariables false
set_option linter.unusedSimpArgs false
def impl_latest.costs : List S73 → Option (List Int)
 | [] => some []
 | x :: xs => (impl_Instr_cost.f x.f0 x.f1 x.f2 x.f3 x.f4).bind fun c => (impl_latest.costs xs).bind fun cs => some (c :: cs)
def impl_latest.inn (all : List (List Int)) (i : Nat) : Nat → Nat → List Int → List Int
 | 0, _, o => o
 | d + 1, j, o => impl_latest.inn all i d (j + 1) (if rd (rd_L4 all (j : Int)) (i : Int) ≥ 0 then o.set i (mn (rd o (i : Int)) (wrap64 (rd o (j : Int) - rd (rd_L4 all (j : Int)) (i : Int)))) else o)
def impl_latest.step (all : List (List Int)) (cs : List Int) (a : Int) (n : Nat) (o : List Int) (i : Nat) : List Int := impl_latest.inn all i (n - 1 - i) (i + 1) (o.set i (wrap64 (a - rd cs (i : Int))))
def impl_latest.okT (all : List (List Int)) (n : Nat) : Bool := decide (all.length = n ∧ n ≤ 1048576) && (List.range n).all fun j : Nat => decide (j ≤ (rd_L4 all j).length)
def impl_latest.f (k : Nat) (l0 : List (S73)) (a1 : Int) : Option (List Int) :=
 (impl_delays.f k l0).bind fun all => (impl_latest.costs l0).bind fun cs => if impl_latest.okT all l0.length = true then some (((List.range l0.length).map fun j => l0.length - 1 - j).foldl (impl_latest.step all cs a1 l0.length) (List.replicate l0.length 0)) else none
theorem impl_latest.mono : ∀ a0 a1 k, LeO (impl_latest.f k a0 a1) (impl_latest.f (k + 1) a0 a1) := by
 intro a0 a1 k
 unfold impl_latest.f
 exact LeO.bind (impl_delays.mono _ _) (fun _ => LeO.refl _)
open Go.Shelf
attribute [local go_sem] Oper.semAt_some
def noPanic (Q : Exit → Act → World → Prop) : Exit → Act → World → Prop
 | .panic _, _, _ => False
 | e, a, w => Q e a w
theorem noPanic_of {Q : Exit → Act → World → Prop} : ∀ e a w, noPanic Q e a w → Q e a w := fun e a w h => by cases e <;> first | exact h.elim | exact h
def latI (w : World) (A0 : Option Addr) (c0 n : Nat) (a1 : Int) (all : List (List Int)) (q5 q6 : Nat) (vA vO : Value) (o : List Int) (W : World) : Prop :=
 Below w.heap.size w W ∧ w.heap.size + 2 ≤ W.heap.size ∧ W.heap[w.heap.size]? = some (.cells #[.slice A0 n c0] 27 (0, 0)) ∧ W.heap[w.heap.size + 1]? = some (.cells #[.int .i64 a1] 3 (0, 0)) ∧
 W.heap[q5]? = some (.cells #[vA] 38 (0, 0)) ∧ W.heap[q6]? = some (.cells #[vO] 24 (0, 0)) ∧ Kd.S (Kd.slice 3 (Kd.int .i64)) 24 W (w.heap.size + 2) (fun k => some k ≠ vO.ownBlock) vA all ∧ Kd.R (Kd.int .i64) 3 W (w.heap.size + 2) (fun _ => True) vO o
theorem keepB_below {n₀ Bs : Nat} {A B : World} (hn : n₀ ≤ A.heap.size) (h : Below A.heap.size A B) : KeepB n₀ Bs A B := ⟨h.mono hn, fun v e => (h.cell (World.block_lt_of_cell? A _ e)).trans e⟩
theorem keepB_set {n₀ Bs : Nat} {A : World} {p : Addr} (hn : n₀ ≤ p.block) (hne : Bs ≠ p.block) (v : Value) : KeepB n₀ Bs A (A.setCell p v) := ⟨(Below.refl _ A).setCell hn _, fun u e => by rw [← e]; exact cell_far hne v⟩
theorem backUpto_val (n : Nat) : (backUpto n n).map Subtype.val = (List.range n).map fun j => n - 1 - j := by
 have : ∀ d, d ≤ n → (backUpto n d).map Subtype.val = (List.range d).map fun j => n - 1 - j := by
   intro d
   induction d with
   | zero => intro _; rfl
   | succ d ih =>
     intro hd
     rw [backUpto_succ n d (by omega), List.map_append, ih (by omega), List.range_succ, List.map_append]
     rfl
 exact this n (zlr _)
theorem costs_at : ∀ (l : List S73) (cs : List Int), impl_latest.costs l = some cs → ∀ i, i < l.length → impl_Instr_cost.f (rd_T73 l i).f0 (rd_T73 l i).f1 (rd_T73 l i).f2 (rd_T73 l i).f3 (rd_T73 l i).f4 = some (rd cs i)
 | [], _, _, i, hi => absurd hi (Nat.not_lt_zero _)
 | x :: xs, cs, h, i, hi => by
   unfold impl_latest.costs at h
   obtain ⟨c, hc, h⟩ := Option.bind_eq_some_iff.1 h
   obtain ⟨cs', hcs, h⟩ := Option.bind_eq_some_iff.1 h
   obtain rfl := zsi h
   cases i with
   | zero => simpa [rd_T73, rd] using hc
   | succ i => simpa [rd_T73, rd] using costs_at xs cs' hcs i (by simpa using hi)
theorem latInn_len (all : List (List Int)) (i : Nat) : ∀ d j o, (impl_latest.inn all i d j o).length = o.length
 | 0, _, _ => rfl
 | d + 1, j, o => by
   unfold impl_latest.inn
   rw [latInn_len]
   split <;> simp
theorem latStep_len (all : List (List Int)) (cs : List Int) (a : Int) (n : Nat) (o : List Int) (i : Nat) : (impl_latest.step all cs a n o i).length = o.length := by
 unfold impl_latest.step
 rw [latInn_len]
 simp
theorem latFold_len (all : List (List Int)) (cs : List Int) (a : Int) (n : Nat) (ps : List Nat) : (ps.foldl (impl_latest.step all cs a n) (List.replicate n 0)).length = n := by
 have : ∀ (ps : List Nat) (o : List Int), (ps.foldl (impl_latest.step all cs a n) o).length = o.length := fun ps => by
   induction ps with
   | nil => intro o; rfl
   | cons p ps ih => intro o; rw [List.foldl_cons, ih, latStep_len]
 rw [this]
 simp
section
variable {w W W1 : World} {A0 : Option Addr} {c0 n : Nat} {a1 : Int} {all : List (List Int)} {q5 q6 : Nat} {vA vO : Value} {o : List Int}
theorem latI_below (h : latI w A0 c0 n a1 all q5 q6 vA vO o W) (hb : Below W.heap.size W W1) : latI w A0 c0 n a1 all q5 q6 vA vO o W1 := by
 obtain ⟨h0, hz, h1, h2, h3, h4, h5, h6⟩ := h
 exact ⟨below_step h0 hb, Nat.le_trans hz hb.size, blk_below h1 hb, blk_below h2 hb, blk_below h3 hb, blk_below h4 hb, Kd.S_below h5 hb, zRb h6 hb⟩
theorem latI_grown {row : Option Nat} (h : latI w A0 c0 n a1 all q5 q6 vA vO o W) (hg : W.grownBy W1 row) (hr : ∀ r, row = some r → w.heap.size ≤ r ∧ ∃ o : Obj, W.heap[r]? = some o ∧ o.isCells = false) : latI w A0 c0 n a1 all q5 q6 vA vO o W1 := by
 obtain ⟨h0, hz, h1, h2, h3, h4, h5, h6⟩ := h
 have hb : ∀ (g : Nat) (cs : Array Value) (t : Nat), W.heap[g]? = some (.cells cs t (0, 0)) → W1.heap[g]? = some (.cells cs t (0, 0)) := fun g cs t hc => (hg.block g (blk_lt hc) (fun e => by
   obtain ⟨_, o, ho, hi⟩ := hr g e.symm
   rw [hc] at ho
   cases ho
   cases hi)).trans hc
 refine ⟨h0.grown hg h0.size (fun r e => (hr r e).1), Nat.le_trans hz hg.size, hb _ _ _ h1, hb _ _ _ h2, hb _ _ _ h3, hb _ _ _ h4, Kd.S_mono (Kd.S_move (Kd.S_bound h5) (fun k hk => ?_)) (fun k hk => hk.1), Kd.R_mono (Kd.R_move (Kd.R_bound h6) (fun k hk => ?_)) (fun _ _ => trivial)⟩
 · obtain ⟨_, _, _, q, _, cs, hc⟩ := hk
   exact (hb _ _ _ hc).trans hc.symm
 · obtain ⟨_, _, _, q, _, cs, hc⟩ := hk
   exact (hb _ _ _ hc).trans hc.symm
theorem latI_put {g co : Nat} (h : latI w A0 c0 n a1 all q5 q6 vA (.slice (some ⟨g, 0, none⟩) o.length co) o W) (i : Int) (h0 : 0 ≤ i) (hi : i < o.length) (x : Int) : latI w A0 c0 n a1 all q5 q6 vA (.slice (some ⟨g, 0, none⟩) o.length co) (o.set i.toNat x) (W.setCell ⟨g, i.toNat, none⟩ (.int .i64 x)) := by
 obtain ⟨h0, hz, h1, h2, h3, h4, h5, h6⟩ := h
 have hg := Kd.R_base h6 g rfl
 obtain ⟨cs, hc⟩ := Kd.R_typed h6 g rfl
 exact ⟨below_set h0 (by omega), by simpa using hz, blk_far h1 (by simp; omega) _, blk_far h2 (by simp; omega) _, blk_far h3 (fun e => by simp at e; rw [e, hc] at h3; cases h3) _, blk_far h4 (fun e => by simp at e; rw [e, hc] at h4; cases h4) _,
   Kd.S_far h5 (fun k hk e => hk (by rw [e]; rfl)) _, (Kd.R_put h6 i x).1⟩
end
set_option maxHeartbeats 4000000 in
set_option maxRecDepth 100000 in
theorem impl_latest.walk (k : Nat) (A0 : Option Addr) (c0 : Nat) (l0 : List S73) (a1 : Int) (all : List (List Int)) (cs : List Int) (w : World) (hcs : impl_latest.costs l0 = some cs) (hr0 : Kd.C k73 w A0 l0.length l0) (hc0 : l0.length ≤ c0) (hA : impl_delays.f k l0 = some all) (hT : impl_latest.okT all l0.length = true) (R : Ending → World → Prop)
   (hR : ∀ v W, Kd.R (Kd.int .i64) 3 W w.heap.size (fun _ => True) v (((List.range l0.length).map fun j => l0.length - 1 - j).foldl (impl_latest.step all cs a1 l0.length) (List.replicate l0.length 0)) → Below w.heap.size w W → R (.returned v) W) :
   Calls Try.prog 51 #[.slice A0 l0.length c0, .int .i64 a1] w R := by
 have hu57 := Try.underlying73
 unfold impl_latest.okT at hT
 simp only [Bool.and_eq_true, decide_eq_true_eq, List.all_eq_true, List.mem_range] at hT
 have hl := hT.1.2
 have HT := zA hT
 clear hT
 have HC := zA hcs
 clear hcs
 have HR0 := zA hr0
 have HC0 := zA hc0
 have HA := zA hA
 clear hr0 hc0 hA
 refine (callsIn_wide (n := 8)).1 ?_
 refine callsIn_of_wp_marks Try.func51 rfl trivial ?_ rfl
 simp only [Try.ntmps51, List.size_toArray, List.length_cons, List.length_nil, Nat.reduceAdd, Nat.reduceSub, Array.replicate_succ, Array.replicate_zero, List.push_toArray, List.append_toArray, List.nil_append, List.cons_append]
 refine wpIn_wide.2 ?_
 refine wp_mono (Q := noPanic (bodyPostM Fence.wide 8 Try.prog Try.f51 R)) ?_ noPanic_of
 go_wp2
 obtain ⟨W0, hW0⟩ : ∃ W0, (w.alloc (.cells #[.slice A0 l0.length c0] 27)).alloc (.cells #[.int .i64 a1] 3) = W0 := ⟨_, rfl⟩
 have HB := zA (show Below w.heap.size w W0 from hW0 ▸ zba (zba (Below.refl _ _) _) _)
 have HZ := zA (show W0.heap.size = w.heap.size + 2 by rw [← hW0]; simp)
 have B1 := zA (show W0.heap[w.heap.size]? = some (.cells #[.slice A0 l0.length c0] 27 (0, 0)) from hW0 ▸ zka (blk_new w _) _)
 have B2 := zA (show W0.heap[w.heap.size + 1]? = some (.cells #[.int .i64 a1] 3 (0, 0)) by rw [← hW0]; simpa using blk_new (w.alloc (.cells #[.slice A0 l0.length c0] 27)) (.cells #[.int .i64 a1] 3))
 rw [hW0]
 clear hW0
 refine ri_region [[], [0], [], [2], [2, 3], [], [], [0, 1, 5, 6], [0, 1, 2, 3, 4, 5, 6, 7]] [[1, 7, 8], [7, 8], [3, 4, 8], [4, 8], [8], [7, 8], [7, 8], [8], []]
   (fun L s W => (Below w.heap.size w W ∧ w.heap.size + 2 ≤ W.heap.size ∧ W.heap[w.heap.size]? = some (.cells #[.slice A0 l0.length c0] 27 (0, 0)) ∧ W.heap[w.heap.size + 1]? = some (.cells #[.int .i64 a1] 3 (0, 0))) ∧
     (L 0 = true → s 0 = .slice A0 l0.length c0) ∧ (L 2 = true → s 2 = .slice A0 l0.length c0) ∧ (L 3 = true → s 3 = .int .i64 l0.length) ∧
     (L 1 = true → Kd.S (Kd.slice 3 (Kd.int .i64)) 24 W (w.heap.size + 2) (fun k => (L 6 = true → s 6 ≠ .pointer (some ⟨k, 0, none⟩)) ∧ (L 4 = true → some k ≠ (s 4).ownBlock)) (s 1) all) ∧
     (L 4 = true → Kd.R (Kd.int .i64) 3 W (w.heap.size + 2) (fun _ => True) (s 4) (List.replicate l0.length 0)) ∧
     (L 5 = true → ∃ g c, s 5 = .pointer (some ⟨g, 0, none⟩) ∧ w.heap.size + 2 ≤ g ∧ W.heap[g]? = some (.cells #[c] 38 (0, 0)) ∧ (L 7 = true → c = s 1)) ∧
     (L 6 = true → ∃ g c, s 6 = .pointer (some ⟨g, 0, none⟩) ∧ w.heap.size + 2 ≤ g ∧ W.heap[g]? = some (.cells #[c] 24 (0, 0)) ∧ (L 8 = true → c = s 4)))
   (by kernel_rfl) (fun _ _ _ _ _ h => h) (by kernel_rfl) ?_ ⟨?_, ?_, ?_, ?_, ?_, ?_, ?_, ?_, ?_, trivial⟩ ?_
 · exact ⟨⟨below_drew HB.out, Nat.le_of_eq HZ.out.symm, zkd B1.out, zkd B2.out⟩, (by intro h; cases h), (by intro h; cases h), (by intro h; cases h), (by intro h; cases h), (by intro h; cases h), (by intro h; cases h), (by intro h; cases h)⟩
 · rintro L s W hi hd hn ⟨⟨hB, hz, b1, b2⟩, g0, g2, g3, g1, g4, g5, g6⟩ K hK
   have hc := blk_cell b1 0
   refine value_ (N := some 11) (v := .slice A0 l0.length c0) (w1 := W) (by rfl) rfl ?_ (hK _ _ ⟨⟨hB, hz, b1, b2⟩, fun _ => rfl, g2, g3, g1, g4, g5, g6⟩)
   simp only [riFill, riGo, riCell, riFind, riMem, Nat.reduceBEq, Nat.reduceAdd, List.headD, List.tail, cond_true, cond_false]
   go_simp
 · rintro L s W hi hd hn ⟨⟨hB, hz, b1, b2⟩, g0, g2, g3, g1, g4, g5, g6⟩ K hK
   refine goes_ Try.func50 (by kernel_rfl) rfl #[.slice A0 l0.length c0] (by rfl) rfl rfl (by simp only [List.map_toArray, List.map_cons, List.map_nil]; exact congrArg (fun x => #[x]) (g0 hd)) ?_
   refine (impl_delays.calls k _ _ l0 all _ (zCb HR0.out hB) HC0.out HA.out).mono ?_
   rintro e w1 ⟨v, rfl, ho, hb⟩
   refine ⟨_, rfl, hK _ _ ⟨⟨below_step hB hb, Nat.le_trans hz hb.size, blk_below b1 hb, blk_below b2 hb⟩, g0, g2, g3, fun _ => ?_, fun h => zRb (g4 h) hb, fun h => ?_, fun h => ?_⟩⟩
   · refine Kd.S_mono (Kd.S_lower (Kd.S_bound ho) hz) (fun k hk => ⟨fun h e => ?_, fun h e => ?_⟩)
     · obtain ⟨g, c, e6, _, hb6, _⟩ := g6 h
       cases (e6.symm.trans e)
       exact absurd (blk_lt hb6) (Nat.not_lt.2 hk.2.1)
     · exact absurd (Kd.R_lt (g4 h) k e.symm) (Nat.not_lt.2 hk.2.1)
   · obtain ⟨g, c, e5, hg, hb5, h7⟩ := g5 h
     exact ⟨g, c, e5, hg, blk_below hb5 hb, fun h7 => absurd (h7.symm.trans hn.1) (by simp)⟩
   · obtain ⟨g, c, e6, hg, hb6, h8⟩ := g6 h
     exact ⟨g, c, e6, hg, blk_below hb6 hb, fun h8 => absurd (h8.symm.trans hn.2) (by simp)⟩
 · rintro L s W hi hd hn ⟨⟨hB, hz, b1, b2⟩, g0, g2, g3, g1, g4, g5, g6⟩ K hK
   have hc := blk_cell b1 0
   refine value_ (N := some 13) (v := .slice A0 l0.length c0) (w1 := W) (by rfl) rfl ?_ (hK _ _ ⟨⟨hB, hz, b1, b2⟩, g0, fun _ => rfl, g3, g1, g4, g5, g6⟩)
   simp only [riFill, riGo, riCell, riFind, riMem, Nat.reduceBEq, Nat.reduceAdd, List.headD, List.tail, cond_true, cond_false]
   go_simp
 · rintro L s W hi hd hn ⟨⟨hB, hz, b1, b2⟩, g0, g2, g3, g1, g4, g5, g6⟩ K hK
   refine value_ (N := some 14) (v := .int .i64 l0.length) (w1 := W) (by rfl) rfl ?_ (hK _ _ ⟨⟨hB, hz, b1, b2⟩, g0, g2, fun _ => rfl, g1, g4, g5, g6⟩)
   have e2 := g2 hd
   simp only [riFill, riGo, riCell, riFind, riMem, Nat.reduceBEq, Nat.reduceAdd, List.headD, List.tail, cond_true, cond_false]
   go_simp
 · rintro L s W hi hd hn ⟨⟨hB, hz, b1, b2⟩, g0, g2, g3, g1, g4, g5, g6⟩ K hK
   have e3 := g3 hd.2
   refine Kd.R_make_step (Kd.int .i64) _ 3 (by rfl) (N := 15) rfl 24 _ _ rfl (l0.length : Int) e3 e3 Try.underlying24 (.int .i64 0) 8 info3 rfl (by decide) (by omega) 0 (ok := fun _ => True) (okp := fun _ => True) rfl (fun _ h => h) trivial (by omega) (by rw [Int.toNat_natCast]; omega) (Below.refl _ _) (zlr _) ?_
   intro v1 w1 ho hb hg hnew
   rw [Int.toNat_natCast] at ho
   refine hK _ _ ⟨⟨below_step hB hb, Nat.le_trans hz hb.size, blk_below b1 hb, blk_below b2 hb⟩, g0, g2, g3, fun h => ?_, fun _ => Kd.R_lower ho hz, fun h => ?_, fun h => ?_⟩
   · refine Kd.S_mono (Kd.S_bound (Kd.S_below (Kd.S_bound (g1 h)) hb)) (fun k hk => ⟨hk.1.1.1, fun _ e => ?_⟩)
     obtain ⟨b, e', hbl⟩ := hnew
     rw [show (riUp s 4 v1 4).ownBlock = _ from e'] at e
     cases e
     exact absurd hk.1.2.2.1 (Nat.not_lt.2 hbl)
   · obtain ⟨g, c, e5, hg, hb5, h7⟩ := g5 h
     exact ⟨g, c, e5, hg, blk_below hb5 hb, h7⟩
   · obtain ⟨g, c, e6, hg, hb6, h8⟩ := g6 h
     exact ⟨g, c, e6, hg, blk_below hb6 hb, fun h8 => absurd (h8.symm.trans hn) (by simp)⟩
 · rintro L s W hi hd hn ⟨⟨hB, hz, b1, b2⟩, g0, g2, g3, g1, g4, g5, g6⟩ K hK
   refine box_step ?hg (N := 5) ?hd (cs := #[.slice none 0 0]) (t := 38) ?hr ?_; (case hd => rfl); (case hg => rfl); (case hr => go_simp <;> rfl)
   intro g hg w1 hbox hb
   refine hK _ _ ⟨⟨below_step hB hb, Nat.le_trans hz hb.size, blk_below b1 hb, blk_below b2 hb⟩, g0, g2, g3, fun h => Kd.S_below (g1 h) hb, fun h => zRb (g4 h) hb, fun _ => ?_, fun h => ?_⟩
   · exact ⟨g, _, rfl, hg ▸ hz, hbox, fun h7 => absurd (h7.symm.trans hn.1) (by simp)⟩
   · obtain ⟨g, c, e6, hg, hb6, h8⟩ := g6 h
     exact ⟨g, c, e6, hg, blk_below hb6 hb, fun h8 => absurd (h8.symm.trans hn.2) (by simp)⟩
 · rintro L s W hi hd hn ⟨⟨hB, hz, b1, b2⟩, g0, g2, g3, g1, g4, g5, g6⟩ K hK
   refine box_step ?hg (N := 6) ?hd (cs := #[.slice none 0 0]) (t := 24) ?hr ?_; (case hd => rfl); (case hg => rfl); (case hr => go_simp <;> rfl)
   intro g hg w1 hbox hb
   refine hK _ _ ⟨⟨below_step hB hb, Nat.le_trans hz hb.size, blk_below b1 hb, blk_below b2 hb⟩, g0, g2, g3, fun h => ?_, fun h => zRb (g4 h) hb, fun h => ?_, fun _ => ?_⟩
   · refine Kd.S_mono (Kd.S_below (Kd.S_bound (g1 h)) hb) (fun k hk => ⟨fun _ e => ?_, hk.1.2⟩)
     have e' : g = k := by cases e; rfl
     exact absurd hk.2.2.1 (by omega)
   · obtain ⟨g, c, e5, hg, hb5, h7⟩ := g5 h
     exact ⟨g, c, e5, hg, blk_below hb5 hb, fun h7 => absurd (h7.symm.trans hn.1) (by simp)⟩
   · exact ⟨g, _, rfl, hg ▸ hz, hbox, fun h8 => absurd (h8.symm.trans hn.2) (by simp)⟩
 · rintro L s W hi hd hn ⟨⟨hB, hz, b1, b2⟩, g0, g2, g3, g1, g4, g5, g6⟩ K hK
   obtain ⟨h0, h1, h5, h6⟩ := hd
   obtain ⟨q5, c5, e5, l5, hb5, _⟩ := g5 h5
   obtain ⟨q6, c6, e6, l6, hb6, h8⟩ := g6 h6
   have ne : q6 ≠ q5 := fun e => by subst e; rw [hb5] at hb6; cases hb6
   refine skip_ (w1 := W.setCell ⟨q5, 0, none⟩ (s 1)) (by rfl) rfl ?_ (hK undef _ ⟨⟨below_set hB (by omega), by simpa using hz, blk_far b1 (by simp; omega) _, blk_far b2 (by simp; omega) _⟩, g0, g2, g3, fun h => Kd.S_set (g1 h) hb5 (by decide) _ _, fun h => Kd.R_set (g4 h) hb5 (by decide) _ _, fun _ => ⟨q5, s 1, e5, l5, blk_set hb5 0 _, fun _ => rfl⟩, fun _ => ⟨q6, c6, e6, l6, blk_far hb6 ne _, h8⟩⟩)
   have hc := blk_cell hb5 0
   have hf := blk_frozen hb5 0
   obtain ⟨A1, c1, e1⟩ := Kd.S_slice (g1 h1)
   simp only [riFill, riGo, riCell, riFind, riMem, Nat.reduceBEq, Nat.reduceAdd, List.headD, List.tail, cond_true, cond_false]
   go_simp
 · rintro L s W hi hd hn ⟨⟨hB, hz, b1, b2⟩, g0, g2, g3, g1, g4, g5, g6⟩ K hK
   obtain ⟨h0, h1, h2, h3, h4, h5, h6, h7⟩ := hd
   obtain ⟨q5, c5, e5, l5, hb5, h7'⟩ := g5 h5
   obtain ⟨q6, c6, e6, l6, hb6, _⟩ := g6 h6
   have ne : q5 ≠ q6 := fun e => by subst e; rw [hb5] at hb6; cases hb6
   refine skip_ (w1 := W.setCell ⟨q6, 0, none⟩ (s 4)) (by rfl) rfl ?_ (hK undef _ ⟨⟨below_set hB (by omega), by simpa using hz, blk_far b1 (by simp; omega) _, blk_far b2 (by simp; omega) _⟩, g0, g2, g3, fun h => Kd.S_far (g1 h) (fun k hk e => hk.1 h6 (by rw [e6, e])) _, fun h => Kd.R_set (g4 h) hb6 (by decide) _ _, fun _ => ⟨q5, c5, e5, l5, blk_far hb5 ne _, h7'⟩, fun _ => ⟨q6, s 4, e6, l6, blk_set hb6 0 _, fun _ => rfl⟩⟩)
   have hc := blk_cell hb6 0
   have hf := blk_frozen hb6 0
   obtain ⟨A1, c1, e1⟩ := Kd.R_slice (g4 h4)
   simp only [riFill, riGo, riCell, riFind, riMem, Nat.reduceBEq, Nat.reduceAdd, List.headD, List.tail, cond_true, cond_false]
   go_simp
 intro L s W hL ⟨⟨hB, hz, b1, b2⟩, g0, g2, g3, g1, g4, g5, g6⟩
 obtain ⟨q5, c5, e5, l5, hb5, h7⟩ := g5 (hL 5 rfl)
 obtain ⟨q6, c6, e6, l6, hb6, h8⟩ := g6 (hL 6 rfl)
 obtain rfl := h7 (hL 7 rfl)
 obtain rfl := h8 (hL 8 rfl)
 have hS := g1 (hL 1 rfl)
 have hR4 := g4 (hL 4 rfl)
 have hW : latI w A0 c0 l0.length a1 all q5 q6 (s 1) (s 4) (List.replicate l0.length 0) W := ⟨hB, hz, b1, b2, hb5, hb6, Kd.S_mono hS (fun k hk => hk.2 (hL 4 rfl)), hR4⟩
 obtain ⟨Al, cl, eA⟩ := Kd.S_slice hW.2.2.2.2.2.2.1
 rw [eA] at hW
 clear eA
 generalize s 4 = vO at hW
 clear hS hR4 g0 g1 g2 g3 g4 g5 g6 h7 h8 hB hz hL
 simp only [riFill, riGo, riCell, riFind, riMem, Nat.reduceBEq, Nat.reduceAdd, List.headD, List.tail, cond_true, cond_false]
 have hc1 := blk_cell b1 0
 go_wp2_with (go_at_call 114; refine ((callsIn_wide (n := 3)).1 (back_in Fence.wide 3 trivial rfl _ _ _ _)).mono ?_; rintro e w' ⟨rfl, rfl⟩)
 clear hc1 b1 b2 hb5 hb6 e5 e6
 have hI5 := latI_below hW (zba (Below.refl _ W) (.cells #[.slice A0 l0.length c0] 27))
 have hBs := (blk_cell (blk_new W (.cells #[.slice A0 l0.length c0] 27)) 0).trans rfl
 have hlt : W.heap.size < (W.alloc (.cells #[.slice A0 l0.length c0] 27)).heap.size := by simp
 have HN := zA (Kd.R_lt hW.2.2.2.2.2.2.2)
 clear hW
 generalize W.alloc (.cells #[.slice A0 l0.length c0] 27) = W5 at hI5 hBs hlt ⊢
 refine (wpIn_wide (n := 8)).1 ?_
 refine wpIn_rangeFunc_ownH rfl (by decide) (gf := 168) (lb := #[.pointer (some ⟨W.heap.size, 0, none⟩)]) rfl trivial (enters_of Try.func168 (by kernel_rfl) rfl)
   (back_stops Fence.wide 7 trivial rfl (by decide) W.heap.size w.heap.size A0 c0 l0 hl W5 hlt hI5.1.size hBs (fun W' hb => zCb HR0.out (hI5.1.trans hb)))
   keepB_t (keepB_b hI5.1.size) (Below.refl _ _) (fun _ => rfl)
   (fun pre W' => latI w A0 c0 l0.length a1 all q5 q6 (.slice Al all.length cl) vO ((pre.map Subtype.val).foldl (impl_latest.step all cs a1 l0.length) (List.replicate l0.length 0)) W')
   (fun _ _ _ => False) (fun _ _ _ _ hs hg hr => latI_grown hs hg (fun r e => ⟨Nat.le_trans hI5.1.size (hr r e).1, (hr r e).2⟩)) (fun _ _ _ _ _ hs _ _ => hs) hI5
   (fun x a' W' => ∃ Bx, some Bx ≠ vO.ownBlock ∧ W'.heap[Bx]? = some (.cells #[.string (rd_T73 l0 x.1).f0, .int .i64 (rd_T73 l0 x.1).f1, .int .i64 (rd_T73 l0 x.1).f2, .int .i64 (rd_T73 l0 x.1).f3, .int .i64 (rd_T73 l0 x.1).f4] 73 (0, 0)) ∧ a' = { tmps := #[.slice A0 l0.length c0, .int .i64 a1, .pointer (some ⟨w.heap.size, 0, none⟩), .pointer (some ⟨w.heap.size + 1, 0, none⟩), .slice none 0 0, .pointer (some ⟨q5, 0, none⟩), .pointer (some ⟨q6, 0, none⟩), .int .i64 (x.1 : Nat), .pointer (some ⟨Bx, 0, none⟩), undef, undef, s 0, s 1, s 2, s 3, s 4, .slice A0 l0.length c0, .func (.func 168) #[] #[.pointer (some ⟨W.heap.size, 0, none⟩)], .int .i64 (x.1 : Nat), .agg #[.string (rd_T73 l0 x.1).f0, .int .i64 (rd_T73 l0 x.1).f1, .int .i64 (rd_T73 l0 x.1).f2, .int .i64 (rd_T73 l0 x.1).f3, .int .i64 (rd_T73 l0 x.1).f4], undef, undef, undef, undef, undef, undef, undef, undef, undef, undef, undef, undef, undef, undef, undef, undef, undef, undef, undef, undef, undef, undef, undef, undef, undef, undef, undef, undef, undef, undef, undef, undef, undef, undef, undef, undef, undef, undef, undef], defers := [] })
   ?hAx ?assign ?body ?done ?stop
 case hAx =>
   rintro x a' _ X Y row ⟨Bx, h1, h2, h3⟩ hg hr
   refine ⟨Bx, h1, (hg.block Bx (blk_lt h2) (fun e => ?_)).trans h2, h3⟩
   obtain ⟨_, o, ho, hi⟩ := hr Bx e.symm
   rw [h2] at ho
   cases ho
   cases hi
 case assign =>
   rintro l pre ⟨i, hi⟩ W' K hI hK
   simp only [backArgs]
   gi_wp2
   have hb := zba (Below.refl _ W') (.cells #[.string (rd_T73 l0 i).f0, .int .i64 (rd_T73 l0 i).f1, .int .i64 (rd_T73 l0 i).f2, .int .i64 (rd_T73 l0 i).f3, .int .i64 (rd_T73 l0 i).f4] 73)
   exact hK _ _ ((KeepsOthers.alloc _ _).from _) (keepB_below hI.1.size hb) (latI_below hI hb) ⟨W'.heap.size, fun e => absurd (Kd.R_lt hI.2.2.2.2.2.2.2 _ e.symm) (Nat.lt_irrefl _), blk_new _ _, rfl⟩
 case body =>
   rintro l pre ⟨i, hi⟩ a' W' hl' _ hI ⟨Bx, hBx, bX, rfl⟩ _
   obtain ⟨o, ho⟩ : ∃ o, o = (pre.map Subtype.val).foldl (impl_latest.step all cs a1 l0.length) (List.replicate l0.length 0) := ⟨_, rfl⟩
   have hlen : o.length = l0.length := by rw [ho]; exact latFold_len _ _ _ _ _
   have HE := zA (show ((pre ++ [(⟨i, hi⟩ : { i // i < l0.length })]).map Subtype.val).foldl (impl_latest.step all cs a1 l0.length) (List.replicate l0.length 0) = impl_latest.step all cs a1 l0.length o i by rw [List.map_append, List.foldl_append, ← ho]; rfl)
   rw [← ho] at hI
   clear ho
   obtain ⟨g, co, rfl, _⟩ := Kd.R_form hI.2.2.2.2.2.2.2 (by omega)
   have hcost := zA (costs_at _ _ HC.out i hi)
   gi_wp2
   refine ri_regionIn [[], [], [], [], [3], [2, 3, 4], [0, 1, 2, 3, 4, 5], [0, 1, 2, 3, 4, 5, 6]] [[6, 7], [6, 7], [5, 6, 7], [4, 5, 6, 7], [5, 6, 7], [6, 7], [7], []]
     (fun L s W2 => latI w A0 c0 l0.length a1 all q5 q6 (.slice Al all.length cl) (.slice (some ⟨g, 0, none⟩) o.length co) (bif L 7 then o.set i (wrap64 (a1 - rd cs i)) else o) W2 ∧
       W2.heap[Bx]? = some (.cells #[.string (rd_T73 l0 i).f0, .int .i64 (rd_T73 l0 i).f1, .int .i64 (rd_T73 l0 i).f2, .int .i64 (rd_T73 l0 i).f3, .int .i64 (rd_T73 l0 i).f4] 73 (0, 0)) ∧ (KeepsFrom W5.heap.size W' W2 ∧ KeepB w.heap.size W.heap.size W' W2) ∧
       (L 0 = true → s 0 = .slice (some ⟨g, 0, none⟩) o.length co) ∧ (L 1 = true → s 1 = .int .i64 i) ∧ (L 2 = true → s 2 = .int .i64 a1) ∧ (L 3 = true → s 3 = .agg #[.string (rd_T73 l0 i).f0, .int .i64 (rd_T73 l0 i).f1, .int .i64 (rd_T73 l0 i).f2, .int .i64 (rd_T73 l0 i).f3, .int .i64 (rd_T73 l0 i).f4]) ∧
       (L 4 = true → s 4 = .int .i64 (rd cs i)) ∧ (L 5 = true → s 5 = .int .i64 (wrap64 (a1 - rd cs i))) ∧ (L 6 = true → s 6 = .pointer (some ⟨g, i, none⟩)))
     (by kernel_rfl) (by kernel_rfl) (fun ⟨_, _, h⟩ => h) (fun _ _ _ _ _ h => h) (by kernel_rfl) ?_ ⟨?_, ?_, ?_, ?_, ?_, ?_, ?_, ?_, trivial⟩ ?_
   · exact ⟨latI_below hI (below_drew (Below.refl _ _)), bX, ⟨(KeepsOthers.drew _).from _, keepB_below hI.1.size (below_drew (Below.refl _ _))⟩, (by intro h; cases h), (by intro h; cases h), (by intro h; cases h), (by intro h; cases h), (by intro h; cases h), (by intro h; cases h), (by intro h; cases h)⟩
   · rintro L s W2 hu hd hn ⟨hJ, bX2, hk, g0, g1, g2, g3, g4, g5, g6⟩ K hK
     have hc := blk_cell hJ.2.2.2.2.2.1 0
     refine value_ (N := some 20) (v := .slice (some ⟨g, 0, none⟩) o.length co) (w1 := W2) (by rfl) rfl ?_ (hK _ _ ⟨hJ, bX2, hk, fun _ => rfl, g1, g2, g3, g4, g5, g6⟩)
     simp only [riFill, riGo, riCell, riFind, riMem, Nat.reduceBEq, Nat.reduceAdd, List.headD, List.tail, cond_true, cond_false]
     go_simp
   · rintro L s W2 hu hd hn ⟨hJ, bX2, hk, g0, g1, g2, g3, g4, g5, g6⟩ K hK
     refine value_ (N := some 21) (v := .int .i64 i) (w1 := W2) (by rfl) rfl ?_ (hK _ _ ⟨hJ, bX2, hk, g0, fun _ => rfl, g2, g3, g4, g5, g6⟩)
     simp only [riFill, riGo, riCell, riFind, riMem, Nat.reduceBEq, Nat.reduceAdd, List.headD, List.tail, cond_true, cond_false]
     go_simp
   · rintro L s W2 hu hd hn ⟨hJ, bX2, hk, g0, g1, g2, g3, g4, g5, g6⟩ K hK
     have hc := blk_cell hJ.2.2.2.1 0
     refine value_ (N := some 22) (v := .int .i64 a1) (w1 := W2) (by rfl) rfl ?_ (hK _ _ ⟨hJ, bX2, hk, g0, g1, fun _ => rfl, g3, g4, g5, g6⟩)
     simp only [riFill, riGo, riCell, riFind, riMem, Nat.reduceBEq, Nat.reduceAdd, List.headD, List.tail, cond_true, cond_false]
     go_simp
   · rintro L s W2 hu hd hn ⟨hJ, bX2, hk, g0, g1, g2, g3, g4, g5, g6⟩ K hK
     have x0 := blk_cell bX2 0
     have x1 := blk_cell bX2 1
     have x2 := blk_cell bX2 2
     have x3 := blk_cell bX2 3
     have x4 := blk_cell bX2 4
     refine value_ (N := some 23) (v := .agg #[.string (rd_T73 l0 i).f0, .int .i64 (rd_T73 l0 i).f1, .int .i64 (rd_T73 l0 i).f2, .int .i64 (rd_T73 l0 i).f3, .int .i64 (rd_T73 l0 i).f4]) (w1 := W2) (by rfl) rfl ?_ (hK _ _ ⟨hJ, bX2, hk, g0, g1, g2, fun _ => rfl, g4, g5, g6⟩)
     simp only [riFill, riGo, riCell, riFind, riMem, Nat.reduceBEq, Nat.reduceAdd, List.headD, List.tail, cond_true, cond_false]
     go_simp
   · rintro L s W2 hu hd hn ⟨hJ, bX2, hk, g0, g1, g2, g3, g4, g5, g6⟩ K hK
     refine goes_ Try.func113 (by kernel_rfl) rfl #[.agg #[.string (rd_T73 l0 i).f0, .int .i64 (rd_T73 l0 i).f1, .int .i64 (rd_T73 l0 i).f2, .int .i64 (rd_T73 l0 i).f3, .int .i64 (rd_T73 l0 i).f4]] (by rfl) rfl rfl (by simp only [List.map_toArray, List.map_cons, List.map_nil]; exact congrArg (fun x => #[x]) (g3 hd)) ?_
     refine (impl_Instr_cost.calls _ _ _ _ _ _ _ hcost.out).mono ?_
     rintro e w3 ⟨rfl, hb⟩
     exact ⟨_, rfl, hK _ _ ⟨latI_below hJ hb, blk_below bX2 hb, ⟨hk.1.trans (KeepsFrom.of_grownBy (grown_of_below hb none) (fun _ e => by cases e)), keepB_t hk.2 (keepB_below hJ.1.size hb)⟩, g0, g1, g2, g3, fun _ => rfl, g5, g6⟩⟩
   · rintro L s W2 hu hd hn ⟨hJ, bX2, hk, g0, g1, g2, g3, g4, g5, g6⟩ K hK
     refine value_ (N := some 25) (v := .int .i64 (wrap64 (a1 - rd cs i))) (w1 := W2) (by rfl) rfl ?_ (hK _ _ ⟨hJ, bX2, hk, g0, g1, g2, g3, g4, fun _ => rfl, g6⟩)
     have e2 := g2 hd.1
     have e4 := g4 hd.2.2
     simp only [riFill, riGo, riCell, riFind, riMem, Nat.reduceBEq, Nat.reduceAdd, List.headD, List.tail, cond_true, cond_false]
     go_simp
     exact i64_w _
   · rintro L s W2 hu hd hn ⟨hJ, bX2, hk, g0, g1, g2, g3, g4, g5, g6⟩ K hK
     refine value_ (N := some 26) (v := .pointer (some ⟨g, i, none⟩)) (w1 := W2) (by rfl) rfl ?_ (hK _ _ ⟨hJ, bX2, hk, g0, g1, g2, g3, g4, g5, fun _ => rfl⟩)
     have e0 := g0 hd.1
     have e1 := g1 hd.2.1
     have c1 : (0 : Int) ≤ (i : Int) := by omega
     have c2 : (i : Int) < o.length := by omega
     simp only [riFill, riGo, riCell, riFind, riMem, Nat.reduceBEq, Nat.reduceAdd, List.headD, List.tail, cond_true, cond_false]
     go_simp
   · rintro L s W2 hu hd hn ⟨hJ, bX2, hk, g0, g1, g2, g3, g4, g5, g6⟩ K hK
     have h7 : L 7 = false := hu
     rw [h7] at hJ
     obtain ⟨e0, e1, e2, e3, e4, e5, e6⟩ := hd
     have e6 := g6 e6
     have e5 := g5 e5
     have hJ' := latI_put hJ i (by omega) (by omega) (wrap64 (a1 - rd cs i))
     rw [Int.toNat_natCast] at hJ'
     have hc := Kd.R_cell 0 hJ.2.2.2.2.2.2.2 i (by omega) (by omega)
     rw [Int.toNat_natCast] at hc
     obtain ⟨hc, hf⟩ := hc
     refine skip_ (w1 := W2.setCell ⟨g, i, none⟩ (.int .i64 (wrap64 (a1 - rd cs i)))) (by rfl) rfl ?_ (hK undef _ ⟨hJ', blk_far bX2 (fun e => hBx (by rw [e]; rfl)) _, ⟨hk.1.trans ((KeepsOthers.setCell _ _ _).from _), keepB_t hk.2 (keepB_set (by have := Kd.R_base hJ.2.2.2.2.2.2.2 g rfl; show w.heap.size ≤ g; omega) (Nat.ne_of_gt (HN.out g rfl)) _)⟩, g0, g1, g2, g3, g4, g5, g6⟩)
     simp only [riFill, riGo, riCell, riFind, riMem, Nat.reduceBEq, Nat.reduceAdd, List.headD, List.tail, cond_true, cond_false]
     go_simp
   · rintro L s2 W2 hL ⟨hJ, bX2, hk, g0, g1, g2, g3, g4, g5, g6⟩
     have h7 := hL 7 rfl
     rw [h7] at hJ
     have HJ := zA (show latI w A0 c0 l0.length a1 all q5 q6 (.slice Al all.length cl) (.slice (some ⟨g, 0, none⟩) l0.length co) (o.set i (wrap64 (a1 - rd cs i))) W2 by simpa only [hlen, cond_true] using hJ)
     have HK := zA hk
     clear g0 g1 g2 g3 g4 g5 g6 hJ hk bX2 h7 hL
     simp only [riFill, riGo, riCell, riFind, riMem, Nat.reduceBEq, Nat.reduceAdd, List.headD, List.tail, cond_true, cond_false]
     gi_wp2
     gi_loopw [9] (fun v9 wr => ∃ (j : Nat) (p : List Int), v9 = .int .i64 (j : Int) ∧ i < j ∧ j ≤ l0.length ∧ Aside0 (p.length = l0.length) ∧ Aside0 (latI w A0 c0 l0.length a1 all q5 q6 (.slice Al all.length cl) (.slice (some ⟨g, 0, none⟩) l0.length co) p wr) ∧
       Aside0 (KeepsFrom W5.heap.size W' wr ∧ KeepB w.heap.size W.heap.size W' wr) ∧ Aside0 (impl_latest.inn all i (l0.length - j) j p = impl_latest.step all cs a1 l0.length o i)) (fun v9 _ => l0.length - (intOf v9).toNat)
     case atStart => exact ⟨i + 1, _, rfl, by omega, by omega, ⟨by simp [hlen]⟩, HJ, HK, ⟨by unfold impl_latest.step; rw [show l0.length - (i + 1) = l0.length - 1 - i by omega]⟩⟩
     clear HJ HK
     obtain ⟨j, p, rfl, hij, hjn, HP, HJ, HK, HI⟩ := hrel
     have hc1 := blk_cell HJ.out.2.2.1 0
     have hc5 := blk_cell HJ.out.2.2.2.2.1 0
     have hc6 := blk_cell HJ.out.2.2.2.2.2.1 0
     by_cases hlt : j < l0.length
     rotate_left
     · obtain rfl : j = l0.length := by omega
       have c5 : decide ((l0.length : Int) < l0.length) = false := zdf (by omega)
       gi_wp2
       refine ⟨HK.out.1, HK.out.2, ?_⟩
       show latI _ _ _ _ _ _ _ _ _ _ (((pre ++ [(⟨i, hi⟩ : { i // i < l0.length })]).map Subtype.val).foldl (impl_latest.step all cs a1 l0.length) (List.replicate l0.length 0)) _
       rw [HE.out, ← HI.out, Nat.sub_self]
       simp only [hlen]
       exact HJ.out
     have hcA := (zSr HJ.out.2.2.2.2.2.2.1).2.2
     obtain ⟨ad, A1, c1, eAl, hcell, _, hC1⟩ := at_L4 hcA (j : Int) (by omega) (by have := HT.out.1.1; omega)
     obtain ⟨ad1, eA1, hcell1⟩ := Kd.at_int hC1 (i : Int) (by omega) (by have := HT.out.2 j hlt; omega)
     rw [Int.toNat_natCast] at hcell hcell1
     subst eAl
     subst eA1
     obtain ⟨d, hdd⟩ : ∃ d, Aside0 (rd (rd_L4 all (j : Int)) (i : Int) = d) := ⟨_, ⟨rfl⟩⟩
     rw [hdd.out] at hcell1
     have c1 : (0 : Int) ≤ (i : Int) := by omega
     have c2 : (i : Int) < l0.length := by omega
     have c3 : (0 : Int) ≤ (j : Int) := by omega
     have c4 : (j : Int) < l0.length := by omega
     have c5 : decide ((j : Int) < l0.length) = true := zdt c4
     have c6 : (j : Int) < all.length := by have := HT.out.1.1; omega
     have c7 : (i : Int) < (rd_L4 all (j : Int)).length := by have := HT.out.2 j hlt; omega
     by_cases hd : 0 ≤ d
     rotate_left
     · have d1 : decide (0 ≤ d) = false := zdf hd
       gi_wp2
       go_roundw
       case rel =>
         refine ⟨j + 1, p, by go_num, by omega, by omega, HP, HJ, HK, ⟨?_⟩⟩
         rw [← HI.out, show l0.length - j = (l0.length - (j + 1)) + 1 by omega]
         conv => rhs; unfold impl_latest.inn
         rw [hdd.out, if_neg hd]
       case measure => simp [intOf]; omega
     have d1 : decide (0 ≤ d) = true := zdt hd
     gi_wp2
     obtain ⟨p0, p1⟩ := Kd.R_celln 0 HJ.out.2.2.2.2.2.2.2 (i : Int) (by omega) c2
     obtain ⟨p2, p3⟩ := Kd.R_celln 0 HJ.out.2.2.2.2.2.2.2 (j : Int) (by omega) c4
     rw [Int.toNat_natCast] at p0 p1 p2 p3
     rw [show rdOf 0 p (i : Int) = rd p i from rfl] at p0
     rw [show rdOf 0 p (j : Int) = rd p j from rfl] at p2
     refine ri_stillIn [[], [], [], [], [2, 3], [2, 3, 4], [], [], [6, 7], [6, 7, 8], [], [6, 7, 8, 9, 10], [2, 3, 4, 5, 6, 7, 8, 9, 10, 11], [0, 1, 2, 3, 4, 5, 6, 7, 8, 9, 10, 11, 12], [0, 1, 2, 3, 4, 5, 6, 7, 8, 9, 10, 11, 12, 13]] 14
       (riNth [.slice (some ⟨g, 0, none⟩) l0.length co, .int .i64 i, .slice (some ⟨g, 0, none⟩) l0.length co, .int .i64 i, .pointer (some ⟨g, i, none⟩), .int .i64 (rd p i), .slice (some ⟨g, 0, none⟩) l0.length co, .int .i64 j, .pointer (some ⟨g, j, none⟩), .int .i64 (rd p j), .int .i64 d, .int .i64 (wrap64 (rd p j - d)), .int .i64 (mn (rd p i) (wrap64 (rd p j - d))), .pointer (some ⟨g, i, none⟩)])
       _ (by kernel_rfl) (by kernel_rfl) (fun ⟨_, _, h⟩ => h) (fun _ _ _ _ _ h => h) (by kernel_rfl) (by rfl) (by rfl) (by rfl) ⟨.inl ⟨by rfl, ?_⟩, .inl ⟨by rfl, ?_⟩, .inl ⟨by rfl, ?_⟩, .inl ⟨by rfl, ?_⟩, .inl ⟨by rfl, ?_⟩, .inl ⟨by rfl, ?_⟩, .inl ⟨by rfl, ?_⟩, .inl ⟨by rfl, ?_⟩, .inl ⟨by rfl, ?_⟩, .inl ⟨by rfl, ?_⟩, .inl ⟨by rfl, ?_⟩, .inl ⟨by rfl, ?_⟩, .inl ⟨by rfl, ?_⟩, .inl ⟨by rfl, ?_⟩, trivial⟩ (fun K hK => ?_)
     iterate 11 (· simp only [riFill, riGo, riCell, riFind, riMem, riNth, Nat.reduceBEq, Nat.reduceAdd, List.headD, List.tail, List.getD, List.getElem?_cons_zero, List.getElem?_cons_succ, Option.getD_some, cond_true, cond_false]; go_simp)
     · simp only [riFill, riGo, riCell, riFind, riMem, riNth, Nat.reduceBEq, Nat.reduceAdd, List.headD, List.tail, List.getD, List.getElem?_cons_zero, List.getElem?_cons_succ, Option.getD_some, cond_true, cond_false]
       go_simp
       exact i64_w _
     · simp only [riFill, riGo, riCell, riFind, riMem, riNth, Nat.reduceBEq, Nat.reduceAdd, List.headD, List.tail, List.getD, List.getElem?_cons_zero, List.getElem?_cons_succ, Option.getD_some, cond_true, cond_false]
       go_simp
       rfl
     · simp only [riFill, riGo, riCell, riFind, riMem, riNth, Nat.reduceBEq, Nat.reduceAdd, List.headD, List.tail, List.getD, List.getElem?_cons_zero, List.getElem?_cons_succ, Option.getD_some, cond_true, cond_false]
       go_simp
     refine skip_ (w1 := wr.drew.setCell ⟨g, i, none⟩ (.int .i64 (mn (rd p i) (wrap64 (rd p j - d))))) (by rfl) rfl (by simp only [riFill, riGo, riCell, riFind, riMem, riNth, Nat.reduceBEq, Nat.reduceAdd, List.headD, List.tail, List.getD, List.getElem?_cons_zero, List.getElem?_cons_succ, Option.getD_some, cond_true, cond_false]; go_simp) (hK undef _ ?_)
     simp only [riFill, riGo, riCell, riFind, riMem, riNth, Nat.reduceBEq, Nat.reduceAdd, List.headD, List.tail, List.getD, List.getElem?_cons_zero, List.getElem?_cons_succ, Option.getD_some, cond_true, cond_false]
     gi_wp2
     go_roundw
     case rel =>
       have hb := below_drew (Below.refl wr.heap.size wr)
       have hJ := latI_below HJ.out hb
       have hJ' : latI w A0 c0 l0.length a1 all q5 q6 (.slice (some ad) all.length cl) (.slice (some ⟨g, 0, none⟩) p.length co) p wr.drew := by simpa only [HP.out] using hJ
       have h1 := latI_put hJ' (i : Int) (by omega) (by rw [HP.out]; exact c2) (mn (rd p i) (wrap64 (rd p j - d)))
       rw [Int.toNat_natCast] at h1
       refine ⟨j + 1, p.set i (mn (rd p i) (wrap64 (rd p j - d))), by go_num, by omega, by omega, ⟨by simpa using HP.out⟩, ⟨by simp only [HP.out] at h1; exact h1⟩, ⟨HK.out.1.trans (((KeepsOthers.drew _).trans (KeepsOthers.setCell _ _ _)).from _), keepB_t HK.out.2 (keepB_t (keepB_below HJ.out.1.size hb) (keepB_set (by have := Kd.R_base HJ.out.2.2.2.2.2.2.2 g rfl; show w.heap.size ≤ g; omega) (Nat.ne_of_gt (HN.out g rfl)) _))⟩, ⟨?_⟩⟩
       rw [← HI.out, show l0.length - j = (l0.length - (j + 1)) + 1 by omega]
       conv => rhs; unfold impl_latest.inn
       rw [hdd.out, if_pos hd]
     case measure => simp [intOf]; omega
 case done =>
   rintro D ys W' hD rfl hI hDef
   have hc6 := blk_cell hI.2.2.2.2.2.1 0
   go_wp2
   refine ⟨by simp, .inl ⟨_, _, rfl, run_takeDeferred hDef, ?_⟩⟩
   have hF := latI_grown hI (grownBy_putObj' W' D (.deferred none)) (fun r e => by cases e; exact ⟨Nat.le_trans hI5.1.size hD, _, hDef, rfl⟩)
   rw [backUpto_val] at hF
   exact ⟨_, results_tmp rfl _ _ _, hR _ _ (Kd.R_lower hF.2.2.2.2.2.2.2 (by omega)) hF.1⟩
 rintro D c pre W' _ _ h _
 exact h.elim
theorem impl_latest.calls (k : Nat) (A0 : Option Addr) (c0 : Nat) (l0 : List (S73)) (a1 : Int) (r : List Int) (w : World) (hr0 : Kd.C k73 w A0 l0.length l0) (hc0 : l0.length ≤ c0) (h : impl_latest.f k l0 a1 = some r) :
   Calls Try.prog 51 #[.slice A0 l0.length c0, .int .i64 a1] w fun e w' => ∃ v0_ : Value, e = .returned v0_ ∧ Kd.R (Kd.int .i64) 3 w' w.heap.size (fun _ => True) v0_ r ∧ Below w.heap.size w w' := by
 unfold impl_latest.f at h
 obtain ⟨all, hA, h⟩ := Option.bind_eq_some_iff.1 h
 obtain ⟨cs, hC, h⟩ := Option.bind_eq_some_iff.1 h
 by_cases hT : impl_latest.okT all l0.length = true
 · rw [if_pos hT] at h
   obtain rfl := zsi h
   exact impl_latest.walk k A0 c0 l0 a1 all cs w hC hr0 hc0 hA hT _ (fun v W hv hb => ⟨v, rfl, hv, hb⟩)
 · rw [if_neg hT] at h
   cases h
end Go.Proofs.Ytpndpmnliblpjaa.Q
end
section
namespace Go.Proofs.Ytpndpmnliblpjaa.Q
open Go.RowKit Go.Proofs.YtpndpmnliblpjaaW.PrintWords Go.Proofs.YtpndpmnliblpjaaW.PrintLast Go.Proofs.YtpndpmnliblpjaaW.PrintMore
attribute [local go_sem] max2_int min2_int max_two min_two max_three min_three max_four min_four
set_option linter.unusedVariables false
set_option linter.unusedSimpArgs false
def slices_Clone_int_int.f (l0 : List Int) : Option (List Int) := (some (([] : List Int) : List Int)).bind fun y101 => (if y101.length + l0.length < 17592186044416 then (some (y101 ++ l0)) else (none))
set_option maxHeartbeats 8000000 in
set_option maxRecDepth 100000 in
theorem slices_Clone_int_int.calls0 (A0 : Option Addr) (c0 : Nat) (l0 : List Int) (r : List Int) (w : World) (hr0 : Kd.C (Kd.int .i64) w A0 l0.length l0) (hc0 : l0.length ≤ c0) (hnil0 : A0.isNone = false) (h : slices_Clone_int_int.f l0 = some r) :
   Calls Try.prog 54 #[.slice A0 l0.length c0] w fun e w' => ∃ v0_ : Value, e = .returned (v0_) ∧ Kd.R (Kd.int .i64) 3 w' w.heap.size (fun _ => True) v0_ r ∧ Below w.heap.size w w' := by
 have hneql_0 : ∀ (W : World), (binOp .eql 24 (.slice A0 l0.length c0) (.slice none 0 0)).run Try.prog W = .ok (.bool false) W := fun W => by rw [Go.Lib.run_eql_slice_nil W _ _ _ _ _ _ _ Try.underlying24, hnil0]
 have HR0 := zA hr0
 have HC0 := zA hc0
 clear hr0 hc0
 have HB := zA (Below.refl w.heap.size w)
 have H : ((some (([] : List Int) : List Int)).bind fun y101 => (if y101.length + l0.length < 17592186044416 then (some (y101 ++ l0)) else (none))) = some r := h
 clear h
 obtain ⟨y101, hy101⟩ : ∃ y_ : List Int, y_ = (([] : List Int)) := ⟨_, rfl⟩
 replace H : (if y101.length + l0.length < 17592186044416 then (some (y101 ++ l0)) else (none)) = some r := by first | (rw [hy101]; with_reducible exact H) | (have H2_ := (Option.bind_some _ _).symm.trans H; rw [hy101]; with_reducible exact H2_) | (have H2_ := (Option.bind_some _ _).symm.trans H; with_reducible exact H2_) | with_reducible exact H | (rw [hy101]; exact H) | exact H
 have Ny101 := zA hy101
 clear hy101
 by_cases c2 : y101.length + l0.length < 17592186044416
 · rw [if_pos c2] at H
   have LMc2 := zA c2
   clear c2
   obtain ⟨y104, hy104⟩ : ∃ y_ : List Int, y_ = (y101 ++ l0) := ⟨_, rfl⟩
   replace H : (some y104) = some r := by first | (rw [hy104]; with_reducible exact H) | (have H2_ := (Option.bind_some _ _).symm.trans H; rw [hy104]; with_reducible exact H2_) | (have H2_ := (Option.bind_some _ _).symm.trans H; with_reducible exact H2_) | with_reducible exact H | (rw [hy104]; exact H) | exact H
   have Ny104 := zA hy104
   clear hy104
   obtain rfl := zsi H
   go_enter Try.func54, Try.ntmps54
   go_wp2_with (first | ((with_reducible refine gate_dst (N := 5) rfl ?_); refine Kd.R_lit (Kd.int .i64) _ 3 ?hg (N := 5) ?hd (xs := ([] : List Int)) (inner := []) (ok := fun _ => True) (okp := fun _ => True) ?hr ?hp (fun _ hk => hk) trivial (Below.refl _ _) (zlr _) (by simp) ?_; (case hd => rfl); (case hg => rfl); (case hr => go_simp <;> rfl); (case hp => exact (Reps.none _ _)); intro v102 w3 ho4 hb hg_ hnew_; clear hg_ hnew_; (first | rw [← Ny101.out] at ho4 | (simp only [Int.reduceToNat] at ho4; rw [← Ny101.out] at ho4)); have n0_ := zA (Kd.R_lower ho4 (below_size (by repeat (first | (with_reducible first | exact HB.out | apply zba | apply zbn | apply zbd) | exact HB.out)))); have n1_ := zA (below_step (by repeat (first | (with_reducible first | exact HB.out | apply zba | apply zbn | apply zbd) | exact HB.out)) hb); clear HB; have HO103 := n0_; have HB := n1_; clear n0_ n1_; clear hb ho4) | ((with_reducible refine gate_builtin (b := .append) (xs := #[.tmp 5, .tmp 6]) rfl ?_); at_builtin; refine Kd.R_append_rows (Kd.int .i64) (w0 := w) w.heap.size rfl (.tmp 5) (.tmp 6) 24 3 (.int .i64 0) 8 rfl Try.underlying24 info3 rfl (by decide) (by omega) v102 y101 l0 _ _ _ (fun _ => True) (fun _ => False) rfl rfl ?aO ?aR (fun _ _ h => h) (fun _ h => h.elim) ?aF ?aB ?aS ?aL ?_; (case aR => repeat (first | exact (zCb HR0.out HB.out) | (with_reducible first | refine zCa ?_ _ | refine zCn ?_ _ | refine zCd ?_))); (case aB => exact (by repeat (first | (with_reducible first | exact HB.out | apply zba | apply zbn | apply zbd) | exact HB.out))); (case aF => exact (fun _ _ => trivial)); (case aO => exact (by (with_reducible repeat (first | apply zRa | apply zRn | apply zRd)); exact HO103.out)); (case aS => exact (below_size (by repeat (first | (with_reducible first | exact HB.out | apply zba | apply zbn | apply zbd) | exact HB.out)))); (case aL => have := LMc2.out; omega); intro v105 w5 ho hb hg hat; rw [← Ny104.out] at ho; have n0_ := zA (hb); have n1_ := zA (ho); clear HB HO103; have HB := n0_; have HO106 := n1_; clear n0_ n1_; clear ho hb hg hat))
   go_ret
   exact ⟨_, by first | rfl | (simp [errW_none, errW_some] <;> rfl) | (simp [*, errW_none, errW_some] <;> rfl), by (with_reducible repeat (first | apply zRa | apply zRn | apply zRd)); exact HO106.out, by repeat (first | (with_reducible first | exact HB.out | apply zba | apply zbn | apply zbd) | exact HB.out)⟩
 · rw [if_neg c2] at H
   exact absurd H (by simp)
set_option maxHeartbeats 8000000 in
set_option maxRecDepth 100000 in
theorem slices_Clone_int_int.calls (A0 : Option Addr) (c0 : Nat) (l0 : List Int) (r : List Int) (w : World) (hr0 : Kd.C (Kd.int .i64) w A0 l0.length l0) (hc0 : l0.length ≤ c0) (h : slices_Clone_int_int.f l0 = some r) : Calls Try.prog 54 #[.slice A0 l0.length c0] w fun e w' => ∃ v0_ : Value, e = .returned (v0_) ∧ Kd.R (Kd.int .i64) 3 w' w.heap.size (fun _ => True) v0_ r ∧ Below w.heap.size w w' := by
 cases hA : A0.isNone with
 | false => exact slices_Clone_int_int.calls0 A0 c0 l0 r w hr0 hc0 hA h
 | true =>
   obtain rfl : A0 = none := by simpa using hA
   have hl : l0 = [] := by
     rcases Nat.eq_zero_or_pos l0.length with h0 | h0
     · exact List.eq_nil_of_length_eq_zero h0
     · obtain ⟨ad, e, _⟩ := hr0.2.2 h0
       cases e
   subst hl
   have hr : r = [] := by
     unfold slices_Clone_int_int.f at h
     simpa using h.symm
   subst hr
   clear h hr0
   have hne : ∀ (W : World), (binOp .eql 24 (.slice none 0 c0) (.slice none 0 0)).run Try.prog W = .ok (.bool true) W := fun W => by rw [Go.Lib.run_eql_slice_nil W _ _ _ _ _ _ _ Try.underlying24]; rfl
   show Calls _ _ #[.slice none 0 c0] _ _
   go_enter Try.func54, Try.ntmps54
   go_wp2
   go_ret
   exact ⟨_, rfl, Kd.R_nil _ _ _ _ _, Below.refl _ _⟩
end Go.Proofs.Ytpndpmnliblpjaa.Q
end
section
namespace Go.Proofs.Ytpndpmnliblpjaa.Q
open Go.RowKit Go.Proofs.YtpndpmnliblpjaaW.PrintWords Go.Proofs.YtpndpmnliblpjaaW.PrintLast Go.Proofs.YtpndpmnliblpjaaW.PrintMore
attribute [local go_sem] max2_int min2_int max_two min_two max_three min_three max_four min_four
set_option linter.unusedVariables false
set_option linter.unusedSimpArgs false
def bsCnt (o : List Int) (c : Int) : Nat := o.countP fun x => decide (x = c)
def bsIx (c : Int) : List Int → Int → Int
 | [], _ => -1
 | x :: xs, i => if x = c then bsIx c xs (i + 1) else i
theorem bsIx_ev (c : Int) (xs : List Int) (hx : xs.length ≤ 1048576) : ∀ (d i : Nat), i + d = xs.length → slices_IndexFunc_impl_BestSchedule_1_1.l0 (d + 1) xs xs.length i [c] = some (bsIx c (xs.drop i) i) := by
 intro d
 induction d with
 | zero =>
   intro i hi
   rw [List.drop_of_length_le (by omega)]
   simp only [slices_IndexFunc_impl_BestSchedule_1_1.l0]
   rw [if_neg (by omega)]
   rfl
 | succ d ih =>
   intro i hi
   have next := ih (i + 1) (by omega)
   have hlt : i < xs.length := by omega
   rw [List.drop_eq_getElem_cons hlt]
   unfold slices_IndexFunc_impl_BestSchedule_1_1.l0
   rw [if_pos (by omega), if_pos (by omega), if_pos (by omega), show rd xs (i : Int) = xs[i] by unfold rd; simp [List.getD, hlt], show wrap64 ((i : Int) + 1) = ((i + 1 : Nat) : Int) by unfold wrap64; omega, next]
   unfold impl_BestSchedule_1_1.f
   rw [if_pos (by simp)]
   simp only [Option.bind_some]
   rw [show bsIx c (xs[i] :: xs.drop (i + 1)) i = if xs[i] = c then bsIx c (xs.drop (i + 1)) ((i : Int) + 1) else i from rfl]
   by_cases q : xs[i] = c
   · rw [if_neg (by simp [q, rd]), if_pos q]
     rfl
   · rw [if_pos (by simp [rd, q]), if_neg q]
theorem bsIx_none (c : Int) : ∀ (xs : List Int) (i : Int), 0 ≤ i → bsIx c xs i = -1 → bsCnt xs c = xs.length
 | [], _, _, _ => rfl
 | x :: xs, i, hi, h => by
   unfold bsIx at h
   by_cases q : x = c
   · rw [if_pos q] at h
     have := bsIx_none c xs (i + 1) (by omega) h
     unfold bsCnt at this ⊢
     rw [List.countP_cons, this, if_pos (zdt q)]
     rfl
   · rw [if_neg q] at h
     omega
theorem bsIx_some (c : Int) : ∀ (xs : List Int) (i : Nat), bsIx c xs i ≠ -1 → ∃ k : Nat, k < xs.length ∧ bsIx c xs i = ((i + k : Nat) : Int) ∧ bsCnt (xs.take (k + 1)) c = k
 | [], _, h => absurd rfl h
 | x :: xs, i, h => by
   unfold bsIx at h ⊢
   by_cases q : x = c
   · rw [if_pos q] at h ⊢
     obtain ⟨k, h1, h2, h3⟩ := bsIx_some c xs (i + 1) (by simpa using h)
     refine ⟨k + 1, by simpa using h1, by simpa [Nat.add_assoc, Nat.add_comm, Nat.add_left_comm] using h2, ?_⟩
     unfold bsCnt at h3 ⊢
     rw [List.take_succ_cons, List.countP_cons, h3, if_pos (zdt q)]
   · rw [if_neg q]
     exact ⟨0, by simp, by simp, by unfold bsCnt; simp [q]⟩
theorem bs_drop (ys xs : List Int) (j : Nat) (h : ys.drop j = xs.drop j) : ys[j]? = xs[j]? ∧ ys.drop (j + 1) = xs.drop (j + 1) := by
 refine ⟨?_, ?_⟩
 · have h1 : (ys.drop j)[0]? = (xs.drop j)[0]? := by rw [h]
   rw [List.getElem?_drop, List.getElem?_drop] at h1
   exact h1
 · rw [← List.drop_drop, ← List.drop_drop, h]
set_option maxHeartbeats 1600000 in
set_option maxRecDepth 100000 in
theorem bsDel (A : Option Addr) (cp : Nat) (xs : List Int) (hx : xs.length ≤ 1048576) (c : Int) (gc base : Nat) (w0 w : World) (HB : Below base w0 w) (HR : Kd.R (Kd.int .i64) 3 w base (fun k => k ≠ gc) (.slice A xs.length cp) xs) (hc : w.heap[gc]? = some (.cells #[.int .i64 c] 3 (0, 0))) :
   Calls Try.prog 53 #[.slice A xs.length cp, .func (.func 55) #[] #[.pointer (some ⟨gc, 0, none⟩)]] w fun e w' => (∃ A' cp', e = .returned (.slice A' (bsCnt xs c) cp')) ∧ Below base w0 w' := by
 have hC := (zRr HR).2.2
 have hle := (zRr HR).2.1
 have HIX := zA (show slices_IndexFunc_impl_BestSchedule_1_1.f (xs.length + 1) xs [c] = some (bsIx c xs 0) from bsIx_ev c xs hx xs.length 0 (by omega))
 have hbox : (Kd.int .i64).C w (some ⟨gc, 0, none⟩) [c].length [c] := box_C (d := Kd.int .i64) hc (cs := [.int .i64 c]) rfl rfl
 have HBX := zA hbox
 have HC := zA hC
 have HLE := zA hle
 have HBB := zA HB
 have HRR := zA HR
 have HCC := zA hc
 clear hbox hC hle HB HR hc
 by_cases q : bsIx c xs 0 = -1
 · have hn := bsIx_none c xs 0 (by omega) q
   rw [q] at HIX
   have HN := zA hn
   clear q hn
   go_enter Try.func53, Try.ntmps53
   go_wp2_with (go_at_call 115; (with_reducible refine (slices_IndexFunc_impl_BestSchedule_1_1.calls _ A cp xs (some ⟨gc, 0, none⟩) 1 [c] (-1) _ HC.out HLE.out HBX.out (zlr _) HIX.out).mono ?_); rintro e w1 ⟨rfl, hd⟩; obtain ⟨nd, rfl⟩ := hd.out)
   go_ret
   have e : Ending.returned (.slice A xs.length cp) = Ending.returned (.slice A (bsCnt xs c) cp) := by rw [HN.out]
   exact ⟨⟨A, cp, e⟩, zbn HBB.out _⟩
 obtain ⟨k, h1, h2, h3⟩ := bsIx_some c xs 0 q
 simp only [Nat.zero_add] at h2
 have h2' : bsIx c xs 0 = (k : Int) := h2
 rw [h2'] at HIX
 obtain ⟨g, cp', e, hg, _⟩ := Kd.R_form HRR.out (by omega)
 cases e
 have H3 := zA h3
 have d1 : ((k : Int) == -1) = false := by rw [beq_eq_false_iff_ne]; omega
 clear q h2 h2' h3
 go_enter Try.func53, Try.ntmps53
 go_wp2_with (go_at_call 115; (with_reducible refine (slices_IndexFunc_impl_BestSchedule_1_1.calls _ (some ⟨g, 0, none⟩) cp xs (some ⟨gc, 0, none⟩) 1 [c] (k : Int) _ HC.out HLE.out HBX.out (zlr _) HIX.out).mono ?_); rintro e w1 ⟨rfl, hd⟩; obtain ⟨nd, rfl⟩ := hd.out)
 go_loopw [5, 6, 7] (fun v5 v6 v7 wr => ∃ (i j : Nat) (ys : List Int), v5 = .int .i64 (i : Int) ∧ v6 = .int .i64 (j : Int) ∧ i < j ∧ j ≤ xs.length ∧ Aside0 (ys.length = xs.length ∧ ys.drop j = xs.drop j ∧ bsCnt (xs.take j) c = i) ∧
   Aside0 (Kd.R (Kd.int .i64) 3 wr base (fun k => k ≠ gc) (.slice (some ⟨g, 0, none⟩) xs.length cp) ys) ∧ Aside0 (wr.heap[gc]? = some (.cells #[.int .i64 c] 3 (0, 0))) ∧ Aside0 (Below base w0 wr)) (fun _ v6 _ _ => xs.length - (intOf v6).toNat)
 case atStart => exact ⟨k, k + 1, xs, rfl, rfl, by omega, by omega, ⟨rfl, rfl, H3.out⟩, ⟨zRn HRR.out _⟩, ⟨HCC.out⟩, ⟨zbn HBB.out _⟩⟩
 clear HRR HCC HBB HC HBX HIX H3
 obtain ⟨i, j, ys, rfl, rfl, hij, hjn, HY, HR, HG, HB⟩ := hrel
 by_cases hlt : j < xs.length
 rotate_left
 · obtain rfl : j = xs.length := by omega
   have c1 : decide ((xs.length : Int) < xs.length) = false := zdf (by omega)
   have hcnt := HY.out.2.2
   rw [List.take_length] at hcnt
   have HN := zA hcnt
   clear hcnt
   have hi64 : i < xs.length := hij
   obtain ⟨ii, hii⟩ : ∃ ii, Try.prog.info? 3 = some ii := ⟨_, rfl⟩
   have hcutf := cut_from (P := Try.prog) 24 3 .i64 Try.underlying24 hii 1 (by cases hii; rfl) (some ⟨g, 0, none⟩) xs.length cp (i : Int) (by omega) (by omega)
   have hcutt := cut_to (P := Try.prog) 24 3 .i64 Try.underlying24 hii (some ⟨g, 0, none⟩) xs.length cp (i : Int) (by omega) (by omega) HLE.out
   rw [Int.toNat_natCast] at hcutf hcutt
   rw [if_neg (show ¬ cp = i by have := HLE.out; omega)] at hcutf
   simp only [Option.map_some, add_plain, Nat.mul_one] at hcutf
   have hclr : ∀ ty, (Builtin.clear_ #[24] ty #[.slice (some ⟨g, i, none⟩) (xs.length - i) (cp - i)]).run Try.prog wr = .ok (.tuple #[]) (wr.setCells g i (List.replicate (xs.length - i) (.int .i64 0))) :=
     fun ty => Go.Lib.run_clear_slice wr 24 3 ty (.int .i64 0) Try.underlying24 Try.zeroValue3 rfl rfl g i _ _ (by omega)
       (fun j hj => by have := (Kd.R_celln 0 HR.out ((i + j : Nat) : Int) (by omega) (by omega)).1; rw [Int.toNat_natCast] at this; rw [this]; rfl)
       (fun j hj => by have := (Kd.R_celln 0 HR.out ((i + j : Nat) : Int) (by omega) (by omega)).2; rwa [Int.toNat_natCast] at this)
   go_wp2_with fail
   go_ret
   have e : Ending.returned (.slice (some ⟨g, 0, none⟩) i cp) = Ending.returned (.slice (some ⟨g, 0, none⟩) (bsCnt xs c) cp) := by rw [HN.out]
   have hs := setCells_same g (List.replicate (xs.length - i) (.int .i64 0)) i wr
   exact ⟨⟨_, _, e⟩, HB.out.trans ⟨hs.1, hs.2.1, hs.2.2.1, Nat.le_of_eq hs.2.2.2.symm, fun k hk => setCells_far _ _ k (by omega)⟩⟩
 have c1 : decide ((j : Int) < xs.length) = true := zdt (by omega)
 have c2 : (0 : Int) ≤ (j : Int) := by omega
 have c3 : (j : Int) < xs.length := by omega
 obtain ⟨p0, p1⟩ := Kd.R_celln 0 HR.out (j : Int) (by omega) c3
 rw [Int.toNat_natCast] at p0 p1
 have hv : rdOf 0 ys (j : Int) = xs[j] := by
   unfold rdOf
   rw [Int.toNat_natCast, List.getD_eq_getElem?_getD, (bs_drop ys xs j HY.out.2.1).1, List.getElem?_eq_getElem hlt, Option.getD_some]
 rw [hv] at p0
 have hdr := (bs_drop ys xs j HY.out.2.1).2
 have HD := zA hdr
 have hbox : (Kd.int .i64).C wr (some ⟨gc, 0, none⟩) [c].length [c] := box_C (d := Kd.int .i64) HG.out (cs := [.int .i64 c]) rfl rfl
 have HBX := zA hbox
 obtain ⟨x, hxx⟩ : ∃ x, x = xs[j] := ⟨_, rfl⟩
 have HX := zA hxx
 rw [← hxx] at p0
 have ht : bsCnt (xs.take (j + 1)) c = i + if x = c then 1 else 0 := by
   rw [List.take_succ_eq_append_getElem hlt]
   have := HY.out.2.2
   unfold bsCnt at this ⊢
   rw [List.countP_append, this, List.countP_cons, List.countP_nil, Nat.zero_add, ← hxx]
   by_cases q : x = c <;> simp [q]
 have HT := zA ht
 have hcl : impl_BestSchedule_1_1.f x [c] = some (x != c) := by
   unfold impl_BestSchedule_1_1.f
   rw [if_pos (by simp)]
   rfl
 have HCL := zA hcl
 clear hv hdr hbox hxx ht hcl
 by_cases q : x = c
 rotate_left
 · have hb : (x != c) = true := by simp [q]
   rw [hb] at HCL
   have Hq := zA q
   clear q hb
   go_wp2_with (go_at_call 55; (with_reducible refine (impl_BestSchedule_1_1.calls x (some ⟨gc, 0, none⟩) 1 [c] true _ HBX.out (zlr _) HCL.out).mono ?_); rintro e w1 ⟨rfl, hd⟩; obtain ⟨nd, rfl⟩ := hd.out)
   go_roundw
   case rel => exact ⟨i, j + 1, ys, rfl, by go_num, by omega, by omega, ⟨HY.out.1, HD.out, by rw [HT.out, if_neg Hq.out]; rfl⟩, ⟨zRn HR.out nd⟩, ⟨HG.out⟩, ⟨zbn HB.out nd⟩⟩
   case measure => simp [intOf]; omega
 have hb : (x != c) = false := by simp [q]
 rw [hb] at HCL
 obtain ⟨p2, p3⟩ := Kd.R_celln 0 HR.out (i : Int) (by omega) (by omega)
 rw [Int.toNat_natCast] at p2 p3
 have c4 : (0 : Int) ≤ (i : Int) := by omega
 have c5 : (i : Int) < xs.length := by omega
 have Hq := zA q
 clear q hb
 go_wp2_with (go_at_call 55; (with_reducible refine (impl_BestSchedule_1_1.calls x (some ⟨gc, 0, none⟩) 1 [c] false _ HBX.out (zlr _) HCL.out).mono ?_); rintro e w1 ⟨rfl, hd⟩; obtain ⟨nd, rfl⟩ := hd.out)
 go_roundw
 case rel =>
   have hp := Kd.R_putn (zRn HR.out nd) (i : Int) x
   rw [Int.toNat_natCast] at hp
   refine ⟨i + 1, j + 1, ys.set i x, by go_num, by go_num, by omega, by omega, ⟨by simpa using HY.out.1, ?_, by rw [HT.out, if_pos Hq.out]⟩, ⟨hp⟩, ⟨blk_far HG.out (fun e => (HR.out.1 g rfl) (by simpa using e.symm)) _⟩, ⟨(zbn HB.out nd).setCell (p := ⟨g, i, none⟩) hg _⟩⟩
   rw [List.drop_set, if_pos (by omega)]
   exact HD.out
 case measure => simp [intOf]; omega
def bsMu (la : Int) (v : Value) (w : World) : Nat := match v with
 | .pointer (some a) => (match w.cell? a with
   | some (.int _ x) => (la + 1 - x).toNat
   | _ => 0)
 | _ => 0
def bsFi (row o : List Int) : Nat → Int
 | 0 => 0
 | u + 1 => if rd row (u : Int) ≥ 0 then mx (bsFi row o u) (wrap64 (rd o (u : Int) + rd row (u : Int))) else bsFi row o u
theorem bsFi_succ (row o : List Int) (u : Nat) : bsFi row o (u + 1) = if rd row (u : Int) ≥ 0 then mx (bsFi row o u) (wrap64 (rd o (u : Int) + rd row (u : Int))) else bsFi row o u := rfl
def bsSr (p : Int → Option (List Int)) : Nat → Int → Option (List Int)
 | 0, _ => none
 | m + 1, c => match p c with
   | some r => some r
   | none => bsSr p m (c + 1)
def bsTr (w : Nat) (o : List Int) (f : List Int → Option (List Int)) (c : Int) : Option (List Int) := if bsCnt o c = w then none else f (o ++ [c])
def bsF (all : List (List Int)) (last : List Int) (w : Nat) : Nat → List Int → Option (List Int)
 | 0, o => some o
 | d + 1, o => bsSr (bsTr w o (bsF all last w d)) (rd last (o.length : Int) - bsFi (rd_L4 all (o.length : Int)) o o.length + 1).toNat (bsFi (rd_L4 all (o.length : Int)) o o.length)
def bsOk (all : List (List Int)) (last : List Int) (n : Nat) : Bool := decide (n ≤ 7 ∧ all.length = n ∧ last.length = n) && ((List.range n).all fun j : Nat => decide ((rd_L4 all (j : Int)).length = j ∧ -1000 ≤ rd last (j : Int) ∧ rd last (j : Int) ≤ 1000) && (rd_L4 all (j : Int)).all fun x => decide (-1 ≤ x ∧ x ≤ 1000))
theorem bsFi_bd (row o : List Int) (hr : ∀ u : Nat, rd row (u : Int) ≤ 1000) (ho : ∀ u : Nat, 0 ≤ rd o (u : Int) ∧ rd o (u : Int) ≤ 1000) : ∀ u, 0 ≤ bsFi row o u ∧ bsFi row o u ≤ 2000
 | 0 => by unfold bsFi; omega
 | u + 1 => by
   have ih := bsFi_bd row o hr ho u
   have h1 := hr u
   have h2 := ho u
   unfold bsFi
   split
   · unfold mx wrap64
     split <;> omega
   · exact ih
theorem bsSr_skip (p : Int → Option (List Int)) (m t : Nat) (c : Int) (R : Option (List Int)) (h : bsSr p (m - t) c = R) (ht : t < m) (hp : p c = none) : bsSr p (m - (t + 1)) (c + 1) = R := by
 rw [show m - t = (m - (t + 1)) + 1 by omega] at h
 unfold bsSr at h
 rw [hp] at h
 exact h
theorem bsSr_hit (p : Int → Option (List Int)) (m t : Nat) (c : Int) (r : List Int) (R : Option (List Int)) (h : bsSr p (m - t) c = R) (ht : t < m) (hp : p c = some r) : R = some r := by
 rw [show m - t = (m - (t + 1)) + 1 by omega] at h
 unfold bsSr at h
 rw [hp] at h
 exact h.symm
def BsU (res : Option (List Int)) (base : Nat) (V : World) (u : Value) : Prop := match res with
 | some r => Kd.R (Kd.int .i64) 3 V base (fun _ => True) u r
 | none => u = .slice none 0 0
def BsX (A0 : Option Addr) (c0 n w : Nat) (all : List (List Int)) (last : List Int) (Al : Option Addr) (cl : Nat) (AL : Option Addr) (cL gc ga gl gw gf : Nat) (W : World) : Prop :=
 W.heap[gc]? = some (.cells #[.slice A0 n c0] 27 (0, 0)) ∧ W.heap[ga]? = some (.cells #[.slice Al all.length cl] 38 (0, 0)) ∧ W.heap[gl]? = some (.cells #[.slice AL last.length cL] 24 (0, 0)) ∧ W.heap[gw]? = some (.cells #[.int .i64 w] 3 (0, 0)) ∧
 W.heap[gf]? = some (.cells #[.func (.func 52) #[] #[.pointer (some ⟨gc, 0, none⟩), .pointer (some ⟨ga, 0, none⟩), .pointer (some ⟨gl, 0, none⟩), .pointer (some ⟨gw, 0, none⟩), .pointer (some ⟨gf, 0, none⟩)]] 76 (0, 0)) ∧
 (Kd.slice 3 (Kd.int .i64)).C W Al all.length all ∧ (Kd.int .i64).C W AL last.length last
theorem BsX.below {A0 : Option Addr} {c0 n w : Nat} {all : List (List Int)} {last : List Int} {Al : Option Addr} {cl : Nat} {AL : Option Addr} {cL gc ga gl gw gf : Nat} {W W1 : World} (h : BsX A0 c0 n w all last Al cl AL cL gc ga gl gw gf W) (hb : Below W.heap.size W W1) : BsX A0 c0 n w all last Al cl AL cL gc ga gl gw gf W1 := by
 obtain ⟨h1, h2, h3, h4, h5, h6, h7⟩ := h
 exact ⟨blk_below h1 hb, blk_below h2 hb, blk_below h3 hb, blk_below h4 hb, blk_below h5 hb, zCb h6 hb, zCb h7 hb⟩
def BsR (res : Option (List Int)) (d : Nat) (A : Option Addr) (cp : Nat) (o : List Int) (w : World) (v : Value) (w' : World) : Prop := Below w.heap.size w w' ∧ match res with
 | some r => ∃ u, v = .tuple #[u, .bool true] ∧ ((d = 0 ∧ u = .slice A o.length cp ∧ r = o) ∨ Kd.R (Kd.int .i64) 3 w' w.heap.size (fun _ => True) u r)
 | none => v = .tuple #[.slice none 0 0, .bool false]
section
variable (A0 : Option Addr) (c0 n w : Nat) (all : List (List Int)) (last : List Int) (Al : Option Addr) (cl : Nat) (AL : Option Addr) (cL gc ga gl gw gf : Nat)
set_option maxHeartbeats 4000000 in
set_option maxRecDepth 100000 in
theorem bsFind (hok : bsOk all last n = true) : ∀ (d : Nat) (A : Option Addr) (cp : Nat) (o : List Int) (W : World), o.length + d = n → (∀ u : Nat, 0 ≤ rd o (u : Int) ∧ rd o (u : Int) ≤ 1000) → BsX A0 c0 n w all last Al cl AL cL gc ga gl gw gf W → (Kd.int .i64).C W A o.length o → o.length ≤ cp →
   Calls Try.prog 52 #[.slice A o.length cp, .pointer (some ⟨gc, 0, none⟩), .pointer (some ⟨ga, 0, none⟩), .pointer (some ⟨gl, 0, none⟩), .pointer (some ⟨gw, 0, none⟩), .pointer (some ⟨gf, 0, none⟩)] W fun e W' => ∃ v, e = .returned v ∧ BsR (bsF all last w d o) d A cp o W v W' := by
 unfold bsOk at hok
 simp only [Bool.and_eq_true, decide_eq_true_eq, List.all_eq_true, List.mem_range] at hok
 have HOK := zA hok
 clear hok
 intro d
 induction d with
 | zero =>
   intro A cp o W hn ho hX hC hcp
   obtain rfl : o.length = n := by omega
   have q1 := blk_cell hX.1 0
   have c1 : ((o.length : Int) == (o.length : Int)) = true := beq_self_eq_true _
   have HX := zA hX
   clear hX ho hC hn
   go_enter Try.func52, Try.ntmps52
   go_wp2_with fail
   go_ret2
   exact ⟨_, rfl, Below.refl _ _, _, rfl, .inl ⟨rfl, rfl, rfl⟩⟩
 | succ d ih =>
 intro A cp o W hn ho hX hC hcp
 have HIH := zA ih
 clear ih
 have hj : o.length < n := by omega
 obtain ⟨⟨hn7, hal, hla⟩, hall⟩ := HOK.out
 obtain ⟨⟨hrow, hl1, hl2⟩, hrb⟩ := hall o.length hj
 have q1 := blk_cell hX.1 0
 have q2 := blk_cell hX.2.1 0
 have c1 : ((o.length : Int) == (n : Int)) = false := by rw [beq_eq_false_iff_ne]; omega
 obtain ⟨ad, A1, k1, e1, hcell, hk1, hC1⟩ := at_L4 hX.2.2.2.2.2.1 (o.length : Int) (by omega) (by omega)
 rw [Int.toNat_natCast] at hcell
 subst e1
 have hrl : ∀ u : Nat, rd (rd_L4 all (o.length : Int)) (u : Int) ≤ 1000 := fun u => by
   unfold rd
   rw [Int.toNat_natCast, List.getD_eq_getElem?_getD]
   cases hu : (rd_L4 all (o.length : Int))[u]? with
   | none => simp
   | some x => exact (hrb x (List.mem_of_getElem? hu)).2
 have hfi := bsFi_bd _ o hrl ho
 have HFI := zA hfi
 have HO := zA ho
 have HX := zA hX
 have HC := zA hC
 have HC1 := zA hC1
 have HROW := zA hrow
 have HRB := zA hrb
 have HRL := zA hrl
 clear hfi ho hX hC hC1 hrb hrl hall
 have c2 : (0 : Int) ≤ (o.length : Int) := by omega
 have c3 : (o.length : Int) < all.length := by omega
 obtain ⟨row, hrw⟩ : ∃ row, row = rd_L4 all (o.length : Int) := ⟨_, rfl⟩
 rw [← hrw] at hcell HC1 HFI HROW HRB HRL hrow
 have HRW := zA hrw
 clear hrw
 have hrow' : row.length = o.length := hrow
 clear hrow HROW
 go_enter Try.func52, Try.ntmps52
 go_wp2_with fail
 go_loop [10, 29] (fun v10 v29 => ∃ u : Nat, v10 = .int .i64 (bsFi row o u) ∧ v29 = .int .i64 (u : Int) ∧ u ≤ o.length) (fun _ v29 => o.length - (intOf v29).toNat)
 case atStart => exact ⟨0, rfl, rfl, Nat.zero_le _⟩
 obtain ⟨u, rfl, rfl, hu⟩ := hrel
 by_cases hlt : u < o.length
 · obtain ⟨ad1, e2, hc1⟩ := Kd.at_int HC1.out (u : Int) (by omega) (by omega)
   obtain ⟨ad2, e3, hc2⟩ := Kd.at_int HC.out (u : Int) (by omega) (by omega)
   rw [Int.toNat_natCast] at hc1 hc2
   subst e2
   subst e3
   have d1 : decide ((u : Int) < o.length) = true := zdt (by omega)
   have d2 : (0 : Int) ≤ (u : Int) := by omega
   have d3 : (u : Int) < o.length := by omega
   have hb := HFI.out u
   by_cases q : rd row (u : Int) ≥ 0
   rotate_left
   · have d4 : decide (0 ≤ rd row (u : Int)) = false := zdf q
     have Hq := zA q
     clear q
     go_wp2_with fail
     go_round
     case rel => exact ⟨u + 1, by rw [bsFi_succ, if_neg Hq.out], by go_num, by omega⟩
     case measure => simp [intOf]; omega
   have d4 : decide (0 ≤ rd row (u : Int)) = true := zdt q
   have Hq := zA q
   clear q
   go_wp2_with fail
   go_round
   case rel => exact ⟨u + 1, by rw [bsFi_succ, if_pos Hq.out]; rfl, by go_num, by omega⟩
   case measure => simp [intOf]; omega
 obtain rfl : u = o.length := by omega
 have d1 : decide ((o.length : Int) < o.length) = false := zdf (by omega)
 have hb := HFI.out o.length
 obtain ⟨fi, hfi⟩ : ∃ fi, fi = bsFi row o o.length := ⟨_, rfl⟩
 rw [← hfi] at hb ⊢
 have HF := zA hfi
 clear hfi hlt hu HRL
 go_wp2_with fail
 obtain ⟨adL, eL, hcL⟩ := Kd.at_int HX.out.2.2.2.2.2.2 (o.length : Int) (by omega) (by omega)
 rw [Int.toNat_natCast] at hcL
 subst eL
 have HCL := zA hcL
 clear hcL
 obtain ⟨la, hla'⟩ : ∃ la, la = rd last (o.length : Int) := ⟨_, rfl⟩
 have HLA := zA hla'
 rw [← hla'] at HCL hl1 hl2
 clear hla'
 obtain ⟨m, hm⟩ : ∃ m, m = (la - fi + 1).toNat := ⟨_, rfl⟩
 obtain ⟨RES, hres⟩ : ∃ RES, RES = bsSr (bsTr w o (bsF all last w d)) m fi := ⟨_, rfl⟩
 have HGOAL := zA (show bsF all last w (d + 1) o = RES by rw [hres, hm, HLA.out, HF.out, HRW.out]; rfl)
 have HRES := zA hres.symm
 have HM := zA hm
 clear hres hm
 have HCLN := zA (show slices_Clone_int_int.f o = some o by unfold slices_Clone_int_int.f; simp; omega)
 have hm1 : (m : Int) ≤ 3001 := by have := HM.out; omega
 go_loopw [13] (fun v13 wr => ∃ t g : Nat, v13 = .pointer (some ⟨g, 0, none⟩) ∧ t ≤ m ∧ Aside0 (wr.heap[g]? = some (.cells #[.int .i64 (fi + t)] 3 (0, 0))) ∧ Aside0 (W.heap.size ≤ g) ∧ Aside0 (Below W.heap.size W wr) ∧ Aside0 (bsSr (bsTr w o (bsF all last w d)) (m - t) (fi + t) = RES))
   (fun v13 wr => bsMu la v13 wr)
 case atStart => exact ⟨0, W.heap.size, rfl, Nat.zero_le _, ⟨by simpa using blk_new W (.cells #[.int .i64 fi] 3)⟩, ⟨zlr _⟩, ⟨zba (Below.refl _ _) _⟩, ⟨by simpa using HRES.out⟩⟩
 clear HRES
 obtain ⟨t, g, rfl, htm, HG, HGW, HB, HS⟩ := hrel
 have hXr := HX.out.below HB.out
 have r1 := blk_cell hXr.1 0
 have r3 := blk_cell hXr.2.2.1 0
 have r4 := blk_cell hXr.2.2.2.1 0
 have r5 := blk_cell hXr.2.2.2.2.1 0
 have rl := pw_cell_below HB.out HCL.out
 have rg := blk_cell HG.out 0
 have rf := blk_frozen HG.out 0
 have HXR := zA hXr
 clear hXr
 have d2 : (0 : Int) ≤ (o.length : Int) := by omega
 have d3 : (o.length : Int) < last.length := by omega
 by_cases hlt : t < m
 rotate_left
 · obtain rfl : t = m := by omega
   have d4 : decide (fi + (t : Int) ≤ la) = false := zdf (by have := HM.out; omega)
   go_wp2_with fail
   refine ri_draws [[], [], [], [1, 2], [1, 2, 3], [0, 1, 2, 3, 4]] (riNth [.int .i64 (fi + t), .slice (some adL) last.length cL, .int .i64 o.length, .pointer (some (adL.add o.length)), .int .i64 la, .bool false]) rfl (fun _ _ _ _ _ h => h) (by kernel_rfl) ⟨?_, ?_, ?_, ?_, ?_, ?_, trivial⟩ (fun nd => ?_)
   iterate 6 (· rintro w' ⟨n0, rfl⟩; refine calm_val draws_refl (by rfl) ?_; simp only [riFill, riGo, riCell, riFind, riMem, riNth, Nat.reduceBEq, Nat.reduceAdd, List.headD, List.tail, List.getD, List.getElem?_cons_zero, List.getElem?_cons_succ, Option.getD_some, cond_true, cond_false]; go_simp)
   simp only [riFill, riGo, riCell, riFind, riMem, riNth, Nat.reduceBEq, Nat.reduceAdd, List.headD, List.tail, List.getD, List.getElem?_cons_zero, List.getElem?_cons_succ, Option.getD_some, cond_true, cond_false]
   go_wp2_with fail
   go_ret2
   refine ⟨_, rfl, zbn HB.out nd, ?_⟩
   have hS := HS.out
   rw [Nat.sub_self] at hS
   rw [HGOAL.out, ← hS]
   rfl
 have d4 : decide (fi + (t : Int) ≤ la) = true := zdt (by have := HM.out; omega)
 obtain ⟨c, hc⟩ : ∃ c, c = fi + (t : Int) := ⟨_, rfl⟩
 rw [← hc] at HG HS rg d4
 have HCC := zA hc
 have hcb : 0 ≤ c ∧ c ≤ 1000 := by have := zde d4; omega
 clear hc
 go_wp2_with fail
 refine ri_draws [[], [], [], [1, 2], [1, 2, 3], [0, 1, 2, 3, 4]] (riNth [.int .i64 c, .slice (some adL) last.length cL, .int .i64 o.length, .pointer (some (adL.add o.length)), .int .i64 la, .bool true]) rfl (fun _ _ _ _ _ h => h) (by kernel_rfl) ⟨?_, ?_, ?_, ?_, ?_, ?_, trivial⟩ (fun nd => ?_)
 iterate 6 (· rintro w' ⟨n0, rfl⟩; refine calm_val draws_refl (by rfl) ?_; simp only [riFill, riGo, riCell, riFind, riMem, riNth, Nat.reduceBEq, Nat.reduceAdd, List.headD, List.tail, List.getD, List.getElem?_cons_zero, List.getElem?_cons_succ, Option.getD_some, cond_true, cond_false]; go_simp)
 simp only [riFill, riGo, riCell, riFind, riMem, riNth, Nat.reduceBEq, Nat.reduceAdd, List.headD, List.tail, List.getD, List.getElem?_cons_zero, List.getElem?_cons_succ, Option.getD_some, cond_true, cond_false]
 have HBN := zA (zbn HB.out nd)
 by_cases qw : bsCnt o c = w
 · have d5 : ((bsCnt o c : Int) == (w : Int)) = true := by rw [beq_iff_eq]; omega
   have Hqw := zA qw
   clear qw
   go_wp2_with (first
     | (go_at_call 54; (with_reducible refine (slices_Clone_int_int.calls A cp o o _ ?s1 ?s2 HCLN.out).mono ?_); (case s1 => exact zCb HC.out HBN.out); (case s2 => exact hcp); rintro e w2 ⟨v2, rfl, hv2, hb2⟩; obtain ⟨A2, cp2, rfl⟩ := Kd.R_slice hv2; have HV2 := zA (Kd.R_newB hv2 (zkn HG.out nd)); have HB2 := zA hb2; have HG2 := zA (blk_below (zkn HG.out nd) hb2); clear hv2 hb2)
     | (go_at_call 53; refine (bsDel A2 cp2 o (by omega) c g _ _ _ HB2.out (Kd.R_mono HV2.out (fun _ hk => hk.2)) HG2.out).mono ?_; rintro e w3 ⟨⟨A3, cp3, rfl⟩, hb3⟩; have HB3 := zA (below_step HBN.out hb3); have HG3 := zA (blk_below (zkn HG.out nd) hb3); clear hb3 HB2 HG2 HV2; have rg3 := blk_cell HG3.out 0; have r43 := blk_cell (blk_below (HX.out.2.2.2.1) HB3.out) 0))
   refine ⟨⟨t + 1, w3.heap.size, rfl, by omega, ⟨by rw [show fi + ((t + 1 : Nat) : Int) = c + 1 by have := HCC.out; omega]; exact blk_new w3 _⟩, ⟨HB3.out.size⟩, ⟨zba HB3.out _⟩, ⟨by rw [show fi + ((t + 1 : Nat) : Int) = c + 1 by have := HCC.out; omega]; exact bsSr_skip _ _ _ _ _ HS.out hlt (if_pos Hqw.out)⟩⟩, ?_⟩
   have e1 : (w3.alloc (.cells #[.int .i64 (c + 1)] 3)).cell? ⟨w3.heap.size, 0, none⟩ = some (.int .i64 (c + 1)) := blk_cell (blk_new w3 (.cells #[.int .i64 (c + 1)] 3)) 0
   have e2 : wr.cell? ⟨g, 0, none⟩ = some (.int .i64 c) := blk_cell HG.out 0
   have e3 := zde d4
   unfold bsMu
   simp only [e1, e2]
   omega
 have d5 : ((bsCnt o c : Int) == (w : Int)) = false := by rw [beq_eq_false_iff_ne]; omega
 have Hqw := zA qw
 clear qw
 go_wp2_with (first
   | (go_at_call 54; (with_reducible refine (slices_Clone_int_int.calls A cp o o _ ?s1 ?s2 HCLN.out).mono ?_); (case s1 => exact zCb HC.out HBN.out); (case s2 => exact hcp); rintro e w2 ⟨v2, rfl, hv2, hb2⟩; obtain ⟨A2, cp2, rfl⟩ := Kd.R_slice hv2; have HV2 := zA (Kd.R_newB hv2 (zkn HG.out nd)); have HB2 := zA hb2; have HG2 := zA (blk_below (zkn HG.out nd) hb2); clear hv2 hb2)
   | (go_at_call 53; refine (bsDel A2 cp2 o (by omega) c g _ _ _ HB2.out (Kd.R_mono HV2.out (fun _ hk => hk.2)) HG2.out).mono ?_; rintro e w3 ⟨⟨A3, cp3, rfl⟩, hb3⟩; have HB3 := zA (below_step HBN.out hb3); have HG3 := zA (blk_below (zkn HG.out nd) hb3); clear hb3 HB2 HG2 HV2; have rg3 := blk_cell HG3.out 0; have r43 := blk_cell (blk_below (HX.out.2.2.2.1) HB3.out) 0))
 obtain ⟨res, hres⟩ : ∃ res, res = bsF all last w d (o ++ [c]) := ⟨_, rfl⟩
 have HRS := zA hres
 clear hres
 have hx1 : ∀ u : Nat, 0 ≤ rd (o ++ [c]) (u : Int) ∧ rd (o ++ [c]) (u : Int) ≤ 1000 := fun u => by
   have h := HO.out u
   unfold rd at h ⊢
   rw [Int.toNat_natCast, List.getD_eq_getElem?_getD] at h ⊢
   rw [List.getElem?_append]
   split
   · exact h
   · rcases (u - o.length : Nat) with _ | k
     · simp; exact hcb
     · simp
 have HX1 := zA hx1
 clear hx1
 refine ri_region [[], [], [1], [], [3], [1, 2, 3, 4], [0, 1, 2, 3, 4, 5], [0, 1, 2, 3, 4, 5, 6], [0, 1, 2, 3, 4, 5, 6, 7], [0, 1, 2, 3, 4, 5, 6, 7], [0, 1, 2, 3, 4, 5, 6, 7, 8], [0, 1, 2, 3, 4, 5, 6, 7, 8, 9, 10]] [[6], [5, 6], [5, 6], [4, 5, 6], [5, 6], [6], [7, 8], [8, 9, 10, 11], [10, 11], [11], [11], []]
   (fun L s V => (Below W.heap.size W V ∧ V.heap[g]? = some (.cells #[.int .i64 c] 3 (0, 0))) ∧ (L 0 = true → s 0 = .func (.func 52) #[] #[.pointer (some ⟨gc, 0, none⟩), .pointer (some ⟨ga, 0, none⟩), .pointer (some ⟨gl, 0, none⟩), .pointer (some ⟨gw, 0, none⟩), .pointer (some ⟨gf, 0, none⟩)]) ∧ (L 1 = true → s 1 = .slice A o.length cp) ∧ (L 2 = true → L 5 = false → Kd.R (Kd.int .i64) 3 V W.heap.size (fun k => k ≠ g) (s 2) o) ∧ (L 3 = true → s 3 = .int .i64 c) ∧
     (L 4 = true → L 5 = false → Kd.R (Kd.int .i64) 3 V W.heap.size (fun k => k ≠ g ∧ (L 2 = true → some k ≠ (s 2).ownBlock)) (s 4) [c]) ∧ (L 5 = true → Kd.R (Kd.int .i64) 3 V W.heap.size (fun k => k ≠ g) (s 5) (o ++ [c])) ∧ (L 6 = true → ∃ u, s 6 = .tuple #[u, .bool res.isSome] ∧ BsU res W.heap.size V u) ∧ (L 7 = true → s 7 = s 6) ∧ (L 8 = true → L 6 = true → s 6 = .tuple #[s 8, .bool res.isSome]) ∧ (L 9 = true → s 9 = .bool res.isSome) ∧ (L 10 = true → s 10 = s 8) ∧ (L 11 = true → s 11 = .bool res.isSome))
   rfl (fun _ _ _ _ _ h => h) (by kernel_rfl) ?_ ⟨?_, ?_, ?_, ?_, ?_, ?_, ?_, ?_, ?_, ?_, ?_, ?_, trivial⟩ ?_
 · exact ⟨⟨below_drew HB3.out, HG3.out⟩, (fun h => Bool.noConfusion h), (fun h => Bool.noConfusion h), (fun h => Bool.noConfusion h), (fun h => Bool.noConfusion h), (fun h => Bool.noConfusion h), (fun h => Bool.noConfusion h), (fun h => Bool.noConfusion h), (fun h => Bool.noConfusion h), (fun h => Bool.noConfusion h), (fun h => Bool.noConfusion h), (fun h => Bool.noConfusion h), (fun h => Bool.noConfusion h)⟩
 · rintro L s V hu hd hn ⟨⟨hB, hg⟩, g0, g1, g2, g3, g4, g5, g6, g7, g8, g9, g10, g11⟩ K hK
   have hc := blk_cell (HX.out.below hB).2.2.2.2.1 0
   refine value_ (N := some 63) (v := .func (.func 52) #[] #[.pointer (some ⟨gc, 0, none⟩), .pointer (some ⟨ga, 0, none⟩), .pointer (some ⟨gl, 0, none⟩), .pointer (some ⟨gw, 0, none⟩), .pointer (some ⟨gf, 0, none⟩)]) (w1 := V) (by rfl) rfl ?_ (hK _ _ ⟨⟨hB, hg⟩, fun _ => rfl, g1, g2, g3, g4, g5, g6, g7, g8, g9, g10, g11⟩)
   simp only [riFill, riGo, riCell, riFind, riMem, riNth, Nat.reduceBEq, Nat.reduceAdd, List.headD, List.tail, List.getD, List.getElem?_cons_zero, List.getElem?_cons_succ, Option.getD_some, cond_true, cond_false]
   go_simp
 · rintro L s V hu hd hn ⟨⟨hB, hg⟩, g0, g1, g2, g3, g4, g5, g6, g7, g8, g9, g10, g11⟩ K hK
   refine value_ (N := some 64) (v := .slice A o.length cp) (w1 := V) (by rfl) rfl ?_ (hK _ _ ⟨⟨hB, hg⟩, g0, fun _ => rfl, g2, g3, g4, g5, g6, g7, g8, g9, g10, g11⟩)
   simp only [riFill, riGo, riCell, riFind, riMem, riNth, Nat.reduceBEq, Nat.reduceAdd, List.headD, List.tail, List.getD, List.getElem?_cons_zero, List.getElem?_cons_succ, Option.getD_some, cond_true, cond_false]
   go_simp
 · rintro L s V hu hd hn ⟨⟨hB, hg⟩, g0, g1, g2, g3, g4, g5, g6, g7, g8, g9, g10, g11⟩ K hK
   refine goes_ Try.func54 (by kernel_rfl) rfl #[.slice A o.length cp] (by rfl) rfl rfl (by simp only [List.map_toArray, List.map_cons, List.map_nil]; exact congrArg (fun x => #[x]) (g1 hd)) ?_
   refine (slices_Clone_int_int.calls A cp o o _ (zCb HC.out hB) hcp HCLN.out).mono ?_
   rintro e w4 ⟨v4, rfl, hv, hb⟩
   have h5 : L 5 = false := hn.1
   refine ⟨_, rfl, hK _ _ ⟨⟨below_step hB hb, blk_below hg hb⟩, g0, g1, fun _ _ => Kd.R_lower (Kd.R_mono (Kd.R_newB hv hg) (fun _ hk => hk.2)) hB.size, g3, fun h4 h5 => ?_, fun h => absurd (h.symm.trans h5) (by simp), fun h => absurd (h.symm.trans hn.2) (by simp), g7, g8, g9, g10, g11⟩⟩
   refine Kd.R_mono (zRb (Kd.R_bound (g4 h4 h5)) hb) (fun k hk => ⟨hk.1.1, fun _ e => ?_⟩)
   have := Kd.R_base hv k e.symm
   exact absurd hk.2.2.1 (Nat.not_lt.2 this)
 · rintro L s V hu hd hn ⟨⟨hB, hg⟩, g0, g1, g2, g3, g4, g5, g6, g7, g8, g9, g10, g11⟩ K hK
   have hc := blk_cell hg 0
   refine value_ (N := some 66) (v := .int .i64 c) (w1 := V) (by rfl) rfl ?_ (hK _ _ ⟨⟨hB, hg⟩, g0, g1, g2, fun _ => rfl, g4, g5, g6, g7, g8, g9, g10, g11⟩)
   simp only [riFill, riGo, riCell, riFind, riMem, riNth, Nat.reduceBEq, Nat.reduceAdd, List.headD, List.tail, List.getD, List.getElem?_cons_zero, List.getElem?_cons_succ, Option.getD_some, cond_true, cond_false]
   go_simp
 · rintro L s V hu hd hn ⟨⟨hB, hg⟩, g0, g1, g2, g3, g4, g5, g6, g7, g8, g9, g10, g11⟩ K hK
   have e3 := g3 hd
   have h5 : L 5 = false := hn.1
   refine Kd.R_lit_step (Kd.int .i64) W.heap.size 3 (by rfl) (N := 67) rfl (xs := [c]) (inner := [.int .i64 c]) (ok := fun k => k ≠ g ∧ (L 2 = true → some k ≠ (s 2).ownBlock)) (okp := fun _ => False) ?_ (Reps.one (show Kd.M (Kd.int .i64) _ _ _ c [.int .i64 c] from rfl) (Reps.none _ _)) (fun _ hk => hk.elim) ⟨fun e => absurd (blk_lt hg) (by omega), fun h2 e => absurd (Kd.R_lt (g2 h2 h5) _ e.symm) (Nat.lt_irrefl _)⟩ hB hB.size (by simp) ?_
   · simp only [riFill, riGo, riCell, riFind, riMem, riNth, Nat.reduceBEq, Nat.reduceAdd, List.headD, List.tail, List.getD, List.getElem?_cons_zero, List.getElem?_cons_succ, Option.getD_some, cond_true, cond_false]
     go_simp
   intro v1 w1 ho hb hgr hnew
   have hb' : Below V.heap.size V w1 := ⟨hgr.os, hgr.tape, hgr.output, hgr.size, fun k hk => hgr.block k hk (by simp)⟩
   exact hK _ _ ⟨⟨hb, blk_below hg hb'⟩, g0, g1, fun h2 h5 => zRb (g2 h2 h5) hb', g3, fun _ _ => ho, fun h => absurd (h.symm.trans h5) (by simp), fun h => absurd (h.symm.trans hn.2) (by simp), g7, g8, g9, g10, g11⟩
 · rintro L s V hu hd hn ⟨⟨hB, hg⟩, g0, g1, g2, g3, g4, g5, g6, g7, g8, g9, g10, g11⟩ K hK
   have h5 : L 5 = false := hu
   obtain ⟨h1, h2, h3, h4⟩ := hd
   have k2 := g2 h2 h5
   have k4 := g4 h4 h5
   obtain ⟨A4, cp4, e4⟩ := Kd.R_slice k4
   rw [e4] at k4
   have k4' := Kd.R_mono k4 (fun k hk => hk.2 h2)
   obtain ⟨A2, cp2, e2⟩ := Kd.R_slice k2
   rw [e2] at k2 k4'
   refine Kd.R_append_rows_step (Kd.int .i64) (Rr := fun x cs => cs = [.int .i64 x]) W.heap.size (by rfl) _ _ 24 3 (.int .i64 0) 8 rfl Try.underlying24 info3 rfl (by decide) (by omega) (.slice A2 o.length cp2) o [c] A4 1 cp4 (fun k => k ≠ g) (fun _ => False) e2 e4 k2 (zRr k4).2.2 (fun _ _ h => h) (fun _ hk => hk.elim) (fun k hk e => absurd (blk_lt hg) (by omega)) hB hB.size (by omega) ?_
   intro v1 w1 ho hb hgr hat
   have hne : ∀ b, (Value.slice A2 o.length cp2).ownBlock = some b → b ≠ g := fun b hb' => k2.1 b hb'
   exact hK _ _ ⟨⟨hb, (hgr.block g (blk_lt hg) (fun e => hne g e.symm rfl)).trans hg⟩, g0, g1, fun _ h => Bool.noConfusion h, g3, fun _ h => Bool.noConfusion h, fun _ => ho, fun h => absurd (h.symm.trans hn) (by simp), g7, g8, g9, g10, g11⟩
 · rintro L s V hu hd hn ⟨⟨hB, hg⟩, g0, g1, g2, g3, g4, g5, g6, g7, g8, g9, g10, g11⟩ K hK
   have k5 := g5 hd.2.2.2.2.2
   obtain ⟨A5, cp5, e5⟩ := Kd.R_slice k5
   rw [e5] at k5
   have e0 := g0 hd.1
   refine call_ 52 #[.slice A5 (o ++ [c]).length cp5, .pointer (some ⟨gc, 0, none⟩), .pointer (some ⟨ga, 0, none⟩), .pointer (some ⟨gl, 0, none⟩), .pointer (some ⟨gw, 0, none⟩), .pointer (some ⟨gf, 0, none⟩)] (by rfl) rfl ?_ ?_
   · have he := enters_ (P := Try.prog) Try.func52 (by kernel_rfl) rfl #[.slice A5 (o ++ [c]).length cp5, .pointer (some ⟨gc, 0, none⟩), .pointer (some ⟨ga, 0, none⟩), .pointer (some ⟨gl, 0, none⟩), .pointer (some ⟨gw, 0, none⟩), .pointer (some ⟨gf, 0, none⟩)] V
     simp only [riFill, riGo, riCell, riFind, riMem, riNth, Nat.reduceBEq, Nat.reduceAdd, List.headD, List.tail, List.getD, List.getElem?_cons_zero, List.getElem?_cons_succ, Option.getD_some, cond_true, cond_false]
     rw [e0, e5]
     go_simp
   refine (HIH.out A5 cp5 (o ++ [c]) V (by rw [List.length_append, List.length_singleton]; omega) HX1.out (HX.out.below hB) (zRr k5).2.2 (zRr k5).2.1).mono ?_
   rintro e w5 ⟨v, rfl, hb, hr⟩
   rw [← HRS.out] at hr
   refine ⟨_, rfl, hK _ _ ⟨⟨below_step hB hb, blk_below hg hb⟩, g0, g1, fun _ h => absurd (h.symm.trans hd.2.2.2.2.2) (by simp), g3, fun _ h => absurd (h.symm.trans hd.2.2.2.2.2) (by simp), fun _ => by show Kd.R _ _ _ _ _ (s 5) _; rw [e5]; exact zRb k5 hb, fun _ => ?_, fun h => absurd (h.symm.trans hn.1) (by simp), fun h => absurd (h.symm.trans hn.2) (by simp), g9, g10, g11⟩⟩
   · cases res with
     | none => exact ⟨_, hr, rfl⟩
     | some r =>
     obtain ⟨u, hu', hr'⟩ := hr
     refine ⟨u, hu', ?_⟩
     rcases hr' with ⟨_, rfl, rfl⟩ | hr'
     · exact Kd.R_mono (zRb k5 hb) (fun _ _ => trivial)
     · exact Kd.R_lower hr' hB.size
 · rintro L s V hu hd hn ⟨⟨hB, hg⟩, g0, g1, g2, g3, g4, g5, g6, g7, g8, g9, g10, g11⟩ K hK
   refine value_ (N := some 62) (v := s 6) (w1 := V) (by rfl) rfl ?_ (hK _ _ ⟨⟨hB, hg⟩, g0, g1, g2, g3, g4, g5, g6, fun _ => rfl, g8, g9, g10, g11⟩)
   simp only [riFill, riGo, riCell, riFind, riMem, riNth, Nat.reduceBEq, Nat.reduceAdd, List.headD, List.tail, List.getD, List.getElem?_cons_zero, List.getElem?_cons_succ, Option.getD_some, cond_true, cond_false]
   go_simp
 · rintro L s V hu hd hn ⟨⟨hB, hg⟩, g0, g1, g2, g3, g4, g5, g6, g7, g8, g9, g10, g11⟩ K hK
   obtain ⟨u, e6, _⟩ := g6 hd.2.2.2.2.2.2.1
   have e7 := (g7 hd.2.2.2.2.2.2.2).trans e6
   refine value_ (N := some 70) (v := u) (w1 := V) (by rfl) rfl ?_ (hK _ _ ⟨⟨hB, hg⟩, g0, g1, g2, g3, g4, g5, g6, g7, fun _ _ => e6, g9, fun h => absurd (h.symm.trans hn.1) (by simp), g11⟩)
   simp only [riFill, riGo, riCell, riFind, riMem, riNth, Nat.reduceBEq, Nat.reduceAdd, List.headD, List.tail, List.getD, List.getElem?_cons_zero, List.getElem?_cons_succ, Option.getD_some, cond_true, cond_false]
   rw [e7]
   go_simp
 · rintro L s V hu hd hn ⟨⟨hB, hg⟩, g0, g1, g2, g3, g4, g5, g6, g7, g8, g9, g10, g11⟩ K hK
   obtain ⟨u, e6, _⟩ := g6 hd.2.2.2.2.2.2.1
   have e7 := (g7 hd.2.2.2.2.2.2.2).trans e6
   refine value_ (N := some 71) (v := .bool res.isSome) (w1 := V) (by rfl) rfl ?_ (hK _ _ ⟨⟨hB, hg⟩, g0, g1, g2, g3, g4, g5, g6, g7, g8, fun _ => rfl, g10, g11⟩)
   simp only [riFill, riGo, riCell, riFind, riMem, riNth, Nat.reduceBEq, Nat.reduceAdd, List.headD, List.tail, List.getD, List.getElem?_cons_zero, List.getElem?_cons_succ, Option.getD_some, cond_true, cond_false]
   rw [e7]
   go_simp
 · rintro L s V hu hd hn ⟨⟨hB, hg⟩, g0, g1, g2, g3, g4, g5, g6, g7, g8, g9, g10, g11⟩ K hK
   refine value_ (N := some 15) (v := s 8) (w1 := V) (by rfl) rfl ?_ (hK _ _ ⟨⟨hB, hg⟩, g0, g1, g2, g3, g4, g5, g6, g7, g8, g9, fun _ => rfl, g11⟩)
   simp only [riFill, riGo, riCell, riFind, riMem, riNth, Nat.reduceBEq, Nat.reduceAdd, List.headD, List.tail, List.getD, List.getElem?_cons_zero, List.getElem?_cons_succ, Option.getD_some, cond_true, cond_false]
   go_simp
 · rintro L s V hu hd hn ⟨⟨hB, hg⟩, g0, g1, g2, g3, g4, g5, g6, g7, g8, g9, g10, g11⟩ K hK
   have e9 := g9 hd.2.2.2.2.2.2.2.2.2.1
   refine value_ (N := some 16) (v := .bool res.isSome) (w1 := V) (by rfl) rfl ?_ (hK _ _ ⟨⟨hB, hg⟩, g0, g1, g2, g3, g4, g5, g6, g7, g8, g9, g10, fun _ => rfl⟩)
   simp only [riFill, riGo, riCell, riFind, riMem, riNth, Nat.reduceBEq, Nat.reduceAdd, List.headD, List.tail, List.getD, List.getElem?_cons_zero, List.getElem?_cons_succ, Option.getD_some, cond_true, cond_false]
   rw [e9]
   go_simp
 · rintro L s V hL ⟨⟨hB, hg⟩, g0, g1, g2, g3, g4, g5, g6, g7, g8, g9, g10, g11⟩
   obtain ⟨u, e6, hU⟩ := g6 (hL 6 rfl)
   have e8 := (g8 (hL 8 rfl) (hL 6 rfl)).symm.trans e6
   have e10 := g10 (hL 10 rfl)
   have e11 := g11 (hL 11 rfl)
   have e8' : s 8 = u := by injection e8 with h; simpa using h
   rw [e8'] at e10
   have HBV := zA hB
   have HGV := zA hg
   have HU := zA hU
   clear g0 g1 g2 g3 g4 g5 g6 g7 g8 g9 g10 g11 e8 e8' e6 hB hg hU
   simp only [riFill, riGo, riCell, riFind, riMem, riNth, Nat.reduceBEq, Nat.reduceAdd, List.headD, List.tail, List.getD, List.getElem?_cons_zero, List.getElem?_cons_succ, Option.getD_some, cond_true, cond_false]
   rw [e10, e11]
   clear e10 e11
   have rgV := blk_cell HGV.out 0
   cases hres : res with
   | some r =>
     have HF2 := zA (bsSr_hit _ _ _ _ r _ HS.out hlt (by unfold bsTr; rw [if_neg Hqw.out, ← HRS.out, hres]))
     rw [hres] at HU
     clear hres
     simp only [Option.isSome]
     go_wp2_with fail
     go_ret2
     refine ⟨_, rfl, HBV.out, ?_⟩
     rw [HGOAL.out, HF2.out]
     exact ⟨u, rfl, .inr HU.out⟩
   | none =>
     have HP2 := zA (show bsTr w o (bsF all last w d) c = none by unfold bsTr; rw [if_neg Hqw.out, ← HRS.out, hres])
     clear hres
     simp only [Option.isSome]
     go_wp2_with fail
     refine ⟨⟨t + 1, V.heap.size, rfl, by omega, ⟨by rw [show fi + ((t + 1 : Nat) : Int) = c + 1 by have := HCC.out; omega]; exact blk_new V _⟩, ⟨HBV.out.size⟩, ⟨zba HBV.out _⟩, ⟨by rw [show fi + ((t + 1 : Nat) : Int) = c + 1 by have := HCC.out; omega]; exact bsSr_skip _ _ _ _ _ HS.out hlt HP2.out⟩⟩, ?_⟩
     have e1 : (V.alloc (.cells #[.int .i64 (c + 1)] 3)).cell? ⟨V.heap.size, 0, none⟩ = some (.int .i64 (c + 1)) := blk_cell (blk_new V (.cells #[.int .i64 (c + 1)] 3)) 0
     have e2 : wr.cell? ⟨g, 0, none⟩ = some (.int .i64 c) := blk_cell HG.out 0
     have e3 := zde d4
     unfold bsMu
     simp only [e1, e2]
     omega
end
def bsRun (k : Nat) (l0 : List S73) (all : List (List Int)) (w : Nat) : Nat → Int → Option (List Int × Bool)
 | 0, _ => none
 | f + 1, len => (impl_latest.f k l0 len).bind fun last => if bsOk all last l0.length = true ∧ len < 1000000 then (match bsF all last w l0.length [] with
   | some r => some (r, true)
   | none => bsRun k l0 all w f (len + 1)) else none
def impl_BestSchedule.f (k : Nat) (l0 : List S73) (a1 : Int) : Option (List Int × Bool) := (impl_IsCode.f k l0).bind fun t => if t = true then (if (l0.length : Int) > 7 then some ([], false) else (impl_isWide.f a1).bind fun v => if v = true then (if 0 ≤ a1 then (impl_delays.f k l0).bind fun all => bsRun k l0 all a1.toNat k 0 else none) else some ([], false)) else some ([], false)
theorem bsRun_mono (k : Nat) (l0 : List S73) (all : List (List Int)) (w : Nat) : ∀ f len, LeO (bsRun k l0 all w f len) (bsRun (k + 1) l0 all w (f + 1) len)
 | 0, _ => LeO.none _
 | f + 1, len => by
   unfold bsRun
   refine LeO.bind (impl_latest.mono _ _ _) (fun last => LeO.ite ?_ (LeO.refl _))
   cases bsF all last w l0.length [] with
   | some r => exact LeO.refl _
   | none => exact bsRun_mono k l0 all w f (len + 1)
theorem impl_BestSchedule.mono : ∀ a0 a1 k, LeO (impl_BestSchedule.f k a0 a1) (impl_BestSchedule.f (k + 1) a0 a1) := by
 intro a0 a1 k
 unfold impl_BestSchedule.f
 exact LeO.bind (impl_IsCode.mono _ _) (fun _ => LeO.ite (LeO.ite (LeO.refl _) (LeO.bind (LeO.refl _) (fun _ => LeO.ite (LeO.ite (LeO.bind (impl_delays.mono _ _) (fun _ => bsRun_mono _ _ _ _ _ _)) (LeO.refl _)) (LeO.refl _)))) (LeO.refl _))
set_option maxHeartbeats 4000000 in
set_option maxRecDepth 100000 in
theorem impl_BestSchedule.calls (k : Nat) (A0 : Option Addr) (c0 : Nat) (l0 : List S73) (a1 : Int) (r1 : List Int) (r2 : Bool) (w : World) (hr0 : Kd.C k73 w A0 l0.length l0) (hc0 : l0.length ≤ c0) (h : impl_BestSchedule.f k l0 a1 = some (r1, r2)) :
   Calls Try.prog 12 #[.slice A0 l0.length c0, .int .i64 a1] w fun e w' => ∃ v0_ : Value, e = .returned (.tuple #[v0_, .bool r2]) ∧ Kd.R (Kd.int .i64) 3 w' w.heap.size (fun _ => True) v0_ r1 ∧ Below w.heap.size w w' := by
 have hu73 := Try.underlying73
 have HR := zA hr0
 have HC := zA hc0
 unfold impl_BestSchedule.f at h
 obtain ⟨t, ht, h⟩ := Option.bind_eq_some_iff.1 h
 have HT := zA ht
 have HH := zA h
 clear hr0 hc0 ht h
 go_enter Try.func12, Try.ntmps12
 go_wp2_with fail
 obtain ⟨W0, hW0⟩ : ∃ W0, (w.alloc (.cells #[.slice A0 l0.length c0] 27)).alloc (.cells #[.int .i64 a1] 3) = W0 := ⟨_, rfl⟩
 have HB := zA (show Below w.heap.size w W0 from hW0 ▸ zba (zba (Below.refl _ _) _) _)
 have B1 := zA (show W0.heap[w.heap.size]? = some (.cells #[.slice A0 l0.length c0] 27 (0, 0)) from hW0 ▸ zka (blk_new w _) _)
 have B2 := zA (show W0.heap[w.heap.size + 1]? = some (.cells #[.int .i64 a1] 3 (0, 0)) by rw [← hW0]; simpa using blk_new (w.alloc (.cells #[.slice A0 l0.length c0] 27)) (.cells #[.int .i64 a1] 3))
 rw [hW0]
 clear hW0
 cases ht : t with
 | false =>
   rw [ht] at HT HH
   obtain ⟨rfl, rfl⟩ : [] = r1 ∧ false = r2 := by
     have := HH.out
     rw [if_neg (by decide)] at this
     exact Prod.mk.inj (zsi this)
   clear HH ht
   (with_reducible refine (impl_IsCode.calls k A0 c0 l0 false _ ?s1 ?s2 HT.out).mono ?_)
   case s1 => exact zCb HR.out HB.out
   case s2 => exact HC.out
   rintro e w2 ⟨rfl, hb⟩
   go_wp2_with fail
   go_ret2
   exact ⟨_, rfl, Kd.R_nil _ _ _ _ _, below_step HB.out hb⟩
 | true =>
   rw [ht] at HT HH
   clear ht
   have h := HH.out
   rw [if_pos rfl] at h
   clear HH
   (with_reducible refine (impl_IsCode.calls k A0 c0 l0 true _ ?s1 ?s2 HT.out).mono ?_)
   case s1 => exact zCb HR.out HB.out
   case s2 => exact HC.out
   rintro e w2 ⟨rfl, hb⟩
   have HB2 := zA (below_step HB.out hb)
   have B12 := zA (blk_below B1.out hb)
   have B22 := zA (blk_below B2.out hb)
   clear hb HB B1 B2
   have q1 := blk_cell B12.out 0
   have q2 := blk_cell B22.out 0
   by_cases h7 : (l0.length : Int) > 7
   · rw [if_pos h7] at h
     obtain ⟨rfl, rfl⟩ := Prod.mk.inj (zsi h)
     clear h
     have d1 : decide ((7 : Int) < l0.length) = true := zdt h7
     go_wp2_with fail
     go_ret2
     exact ⟨_, rfl, Kd.R_nil _ _ _ _ _, HB2.out⟩
   rw [if_neg h7] at h
   have d1 : decide ((7 : Int) < l0.length) = false := zdf h7
   obtain ⟨v, hv, h⟩ := Option.bind_eq_some_iff.1 h
   have HV := zA hv
   clear hv
   cases hv : v with
   | false =>
     rw [hv, if_neg (by decide)] at h
     rw [hv] at HV
     obtain ⟨rfl, rfl⟩ := Prod.mk.inj (zsi h)
     clear h hv
     go_wp2_with (go_at_call 49; (with_reducible refine (impl_isWide.calls a1 false _ HV.out).mono ?_); rintro e w3 ⟨rfl, hd⟩; obtain ⟨nd, rfl⟩ := hd.out)
     go_ret2
     exact ⟨_, rfl, Kd.R_nil _ _ _ _ _, zbn HB2.out _⟩
   | true =>
     rw [hv, if_pos rfl] at h
     rw [hv] at HV
     clear hv
     by_cases h0 : 0 ≤ a1
     rotate_left
     · rw [if_neg h0] at h
       cases h
     rw [if_pos h0] at h
     obtain ⟨all, hall, h⟩ := Option.bind_eq_some_iff.1 h
     obtain ⟨wd, rfl⟩ := Int.eq_ofNat_of_zero_le h0
     rw [Int.toNat_natCast] at h
     have HA := zA hall
     have HH := zA h
     clear hall h h0
     go_wp2_with (first
       | (go_at_call 49; (with_reducible refine (impl_isWide.calls _ true _ HV.out).mono ?_); rintro e w3 ⟨rfl, hd⟩; obtain ⟨nd, rfl⟩ := hd.out)
       | (go_at_call 50; (with_reducible refine (impl_delays.calls k A0 c0 l0 all _ ?s1 ?s2 HA.out).mono ?_); (case s1 => exact zCb HR.out (zbn HB2.out _)); (case s2 => exact HC.out); rintro e w4 ⟨v4, rfl, hv4, hb4⟩; obtain ⟨Al, cl, rfl⟩ := Kd.S_slice hv4; have HV4 := zA (zSr hv4).2.2; have HB4 := zA (below_step (zbn HB2.out _) hb4); have B14 := zA (blk_below (zkn B12.out _) hb4); have B24 := zA (blk_below (zkn B22.out _) hb4); clear hv4 hb4))
     go_loopg [7] k (fun kq v7 wr => ∃ len : Int, v7 = .int .i64 len ∧ 0 ≤ len ∧ Aside0 (bsRun k l0 all wd kq len = some (r1, r2)) ∧ Aside0 (Below w.heap.size w wr) ∧ Aside0 (wr.heap[w.heap.size]? = some (.cells #[.slice A0 l0.length c0] 27 (0, 0))) ∧ Aside0 (wr.heap[w.heap.size + 1]? = some (.cells #[.int .i64 wd] 3 (0, 0))) ∧
       Aside0 (wr.heap[w4.heap.size]? = some (.cells #[.slice Al all.length cl] 38 (0, 0))) ∧ Aside0 ((Kd.slice 3 (Kd.int .i64)).C wr Al all.length all))
     case atStart => exact ⟨0, rfl, Int.le_refl _, HH, ⟨zba HB4.out _⟩, ⟨zka B14.out _⟩, ⟨zka B24.out _⟩, ⟨blk_new _ _⟩, ⟨zCa HV4.out _⟩⟩
     clear HH HB4 B14 B24 HV4 HB2 B12 B22
     obtain ⟨len, rfl, hlen, HS, HB, B1, B2, B3, HAL⟩ := hrel
     cases gk with
     | zero => exact absurd HS.out (by simp [bsRun])
     | succ f =>
     have h := HS.out
     clear HS
     unfold bsRun at h
     obtain ⟨last, hlast, h⟩ := Option.bind_eq_some_iff.1 h
     have HL := zA hlast
     clear hlast
     by_cases hok : bsOk all last l0.length = true ∧ len < 1000000
     rotate_left
     · rw [if_neg hok] at h
       cases h
     rw [if_pos hok] at h
     obtain ⟨hok1, hok2⟩ := hok
     have HOK := zA hok1
     clear hok1
     have q1 := blk_cell B1.out 0
     go_wp2_with (go_at_call 51; (with_reducible refine (impl_latest.calls k A0 c0 l0 len last _ ?s1 ?s2 HL.out).mono ?_); (case s1 => exact zCb HR.out HB.out); (case s2 => exact HC.out); rintro e w5 ⟨v5, rfl, hv5, hb5⟩; obtain ⟨AL, cL, rfl⟩ := Kd.R_slice hv5; have HV5 := zA (zRr hv5).2.2; have HB5 := zA hb5; have hb9 : ((w5.alloc (.cells #[.slice AL last.length cL] 24)).alloc (.cells #[Value.nilFunc] 76)).heap[w5.heap.size + 1]? = some (.cells #[Value.nilFunc] 76 (0, 0)) := (by simpa using blk_new (w5.alloc (.cells #[.slice AL last.length cL] 24)) (.cells #[Value.nilFunc] 76)); have HB9 := zA hb9; have cf := blk_cell hb9 0; have ff := blk_frozen hb9 0; clear hv5 hb5 hb9)
     obtain ⟨fv, hfv⟩ : ∃ fv, fv = Value.func (.func 52) #[] #[.pointer (some ⟨w.heap.size, 0, none⟩), .pointer (some ⟨w4.heap.size, 0, none⟩), .pointer (some ⟨w5.heap.size, 0, none⟩), .pointer (some ⟨w.heap.size + 1, 0, none⟩), .pointer (some ⟨w5.heap.size + 1, 0, none⟩)] := ⟨_, rfl⟩
     have hsz : (w5.alloc (.cells #[.slice AL last.length cL] 24)).heap.size = w5.heap.size + 1 := by simp
     have hb9 := blk_new (w5.alloc (.cells #[.slice AL last.length cL] 24)) (.cells #[fv] 76)
     rw [hsz] at hb9
     have hb8 : ((w5.alloc (.cells #[.slice AL last.length cL] 24)).alloc (.cells #[fv] 76)).heap[w5.heap.size]? = some (.cells #[.slice AL last.length cL] 24 (0, 0)) := zka (blk_new _ _) _
     have hbl : Below wr.heap.size wr ((w5.alloc (.cells #[.slice AL last.length cL] 24)).alloc (.cells #[fv] 76)) := zba (zba HB5.out _) _
     have hB6 := below_step HB.out hbl
     have h16 := blk_below B1.out hbl
     have h26 := blk_below B2.out hbl
     have h36 := blk_below B3.out hbl
     have hA6 := zCb HAL.out hbl
     have hL6 := zCa (zCa HV5.out (.cells #[.slice AL last.length cL] 24)) (.cells #[fv] 76)
     have hX := (show BsX A0 c0 l0.length wd all last Al cl AL cL w.heap.size w4.heap.size w5.heap.size (w.heap.size + 1) (w5.heap.size + 1) ((w5.alloc (.cells #[.slice AL last.length cL] 24)).alloc (.cells #[fv] 76)) from ⟨h16, h36, hb8, h26, by rw [hfv] at hb9 ⊢; exact hb9, hA6, hL6⟩)
     have HX := zA hX
     have HB6 := zA hB6
     have B16 := zA h16
     have B26 := zA h26
     have B36 := zA h36
     have HA6 := zA hA6
     have HSZ := zA HB.out.size
     clear hX hB6 h16 h26 h36 hA6 hL6 hbl hb8 hb9 hsz
     rw [hfv] at HX HB6 B16 B26 B36 HA6
     clear hfv
     cases hres : bsF all last wd l0.length [] with
     | some r =>
       have e := h
       rw [hres] at e
       obtain ⟨rfl, rfl⟩ := Prod.mk.inj (zsi e)
       clear h e
       refine (bsFind A0 c0 l0.length wd all last Al cl AL cL w.heap.size w4.heap.size w5.heap.size (w.heap.size + 1) (w5.heap.size + 1) HOK.out l0.length none 0 [] _ (by simp) (fun u => by unfold rd; simp) HX.out (Kd.C_nil _ _) (Nat.zero_le _)).mono ?_
       rintro e w7 ⟨v, rfl, hb, hr⟩
       rw [hres] at hr
       obtain ⟨u, rfl, hr⟩ := hr
       have HR7 := zA hr
       have HB7 := zA hb
       clear hr hb hres
       go_wp2_with fail
       go_ret2
       refine ⟨_, rfl, ?_, below_step HB6.out HB7.out⟩
       rcases HR7.out with ⟨hz, rfl, rfl⟩ | hr
       · exact Kd.R_nil _ _ _ _ _
       · exact Kd.R_lower hr (by have := HB6.out.size; omega)
     | none =>
       rw [hres] at h
       have HH := zA h
       clear h
       refine (bsFind A0 c0 l0.length wd all last Al cl AL cL w.heap.size w4.heap.size w5.heap.size (w.heap.size + 1) (w5.heap.size + 1) HOK.out l0.length none 0 [] _ (by simp) (fun u => by unfold rd; simp) HX.out (Kd.C_nil _ _) (Nat.zero_le _)).mono ?_
       rintro e w7 ⟨v, rfl, hb, hr⟩
       rw [hres] at hr
       subst hr
       have HB7 := zA hb
       clear hb hres
       go_wp2_with fail
       go_roundg f
       case rel => exact ⟨len + 1, by go_num, by omega, HH, ⟨below_step HB6.out HB7.out⟩, ⟨blk_below B16.out HB7.out⟩, ⟨blk_below B26.out HB7.out⟩, ⟨blk_below B36.out HB7.out⟩, ⟨zCb HA6.out HB7.out⟩⟩
       case measure => exact Nat.lt_succ_self _
end Go.Proofs.Ytpndpmnliblpjaa.Q
end
