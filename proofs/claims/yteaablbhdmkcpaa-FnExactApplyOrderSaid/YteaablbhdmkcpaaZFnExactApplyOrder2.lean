/- Proved here: contracts of functions that the law FnExactApplyOrder reaches, and lemmas on what they compute; texts of this session and the printed words of the kit that they lean on, cut down and put together by its program link.py. Conditions: as each states. -/
import Derived.Test.YteaablbhdmkcpaaZFnExactApplyOrder1
section
namespace Go.Proofs.Yteaablbhdmkcpaa.Q
open Go.RowKit Go.Proofs.YteaablbhdmkcpaaW.PrintWords Go.Proofs.YteaablbhdmkcpaaW.PrintLast Go.Proofs.YteaablbhdmkcpaaW.PrintMore
attribute [local go_sem] max2_int min2_int max_two min_two max_three min_three max_four min_four
set_option linter.unusedVariables false
set_option linter.unusedSimpArgs false
mutual
def impl_delays.l0 : Nat → List (S57) → List (List Int) → List (S57) → Int → Int → Option ((List (List Int)))
 | 0, _, _, _, _, _ => none
 | k + 1, x0, x3, x12, x13, x14 => if x14 < x13 then (if 0 ≤ x14 then (if x14 < (x12.length : Int) then ((slices_Repeat_int_int.f (([(-1)] : List Int)) x14).bind fun t109 => (if x14 < (x3.length : Int) then (if x14 ≤ (x0.length : Int) then ((some (x0.take (x14 : Int).toNat : List (S57))).bind fun y113 => (impl_delays.l1 k x0 (x3.set (x14 : Int).toNat t109) x14 x12 x13 x14 y113 (y113.length : Int) 0 ((rd_T57 x12 x14).f0) ((rd_T57 x12 x14).f1) ((rd_T57 x12 x14).f2) ((rd_T57 x12 x14).f3) ((rd_T57 x12 x14).f4))) else (none)) else (none))) else (none)) else (none)) else (some x3)
def impl_delays.l1 : Nat → List (S57) → List (List Int) → Int → List (S57) → Int → Int → List (S57) → Int → Int → ByteArray → Int → Int → Int → Int → Option ((List (List Int)))
 | 0, _, _, _, _, _, _, _, _, _, _, _, _, _, _ => none
 | k + 1, x0, x3, x4, x12, x13, x14, x27, x28, x29, x106000, x106001, x106002, x106003, x106004 => if x29 < x28 then (if 0 ≤ x29 then (if x29 < (x27.length : Int) then ((impl_Instr_reads.f k ((rd_T57 x27 x29).f0) ((rd_T57 x27 x29).f1) ((rd_T57 x27 x29).f2) ((rd_T57 x27 x29).f3) ((rd_T57 x27 x29).f4)).bind fun t119 => ((slices_Contains_int_int.f k t119 x106001).bind fun t122 => (if t122 = true then (if 0 ≤ x4 then (if x4 < (x3.length : Int) then (if x29 < ((rd_L4 x3 x4).length : Int) then (impl_delays.j2 k x0 (x3.set (x4 : Int).toNat ((rd_L4 x3 x4).set (x29 : Int).toNat 0)) x4 x29 x12 x13 x14 x27 x28 x29 x106000 x106001 x106002 x106003 x106004 ((rd_T57 x27 x29).f0) ((rd_T57 x27 x29).f1) ((rd_T57 x27 x29).f2) ((rd_T57 x27 x29).f3) ((rd_T57 x27 x29).f4)) else (none)) else (none)) else (none)) else (impl_delays.j2 k x0 x3 x4 x29 x12 x13 x14 x27 x28 x29 x106000 x106001 x106002 x106003 x106004 ((rd_T57 x27 x29).f0) ((rd_T57 x27 x29).f1) ((rd_T57 x27 x29).f2) ((rd_T57 x27 x29).f3) ((rd_T57 x27 x29).f4))))) else (none)) else (none)) else (impl_delays.l0 k x0 x3 x12 x13 (wrap64 (x14 + 1)))
def impl_delays.j2 : Nat → List (S57) → List (List Int) → Int → Int → List (S57) → Int → Int → List (S57) → Int → Int → ByteArray → Int → Int → Int → Int → ByteArray → Int → Int → Int → Int → Option ((List (List Int)))
 | 0, _, _, _, _, _, _, _, _, _, _, _, _, _, _, _, _, _, _, _, _ => none
 | k + 1, x0, x3, x4, x6, x12, x13, x14, x27, x28, x29, x106000, x106001, x106002, x106003, x106004, x119000, x119001, x119002, x119003, x119004 => if x119001 = x106001 then (if 0 ≤ x4 then (if x4 < (x3.length : Int) then (if 0 ≤ x6 then (if x6 < ((rd_L4 x3 x4).length : Int) then (impl_delays.j3 k x0 (x3.set (x4 : Int).toNat ((rd_L4 x3 x4).set (x6 : Int).toNat 1)) x4 x6 x12 x13 x14 x27 x28 x29 x106000 x106001 x106002 x106003 x106004 x119000 x119001 x119002 x119003 x119004) else (none)) else (none)) else (none)) else (none)) else (impl_delays.j3 k x0 x3 x4 x6 x12 x13 x14 x27 x28 x29 x106000 x106001 x106002 x106003 x106004 x119000 x119001 x119002 x119003 x119004)
def impl_delays.j3 : Nat → List (S57) → List (List Int) → Int → Int → List (S57) → Int → Int → List (S57) → Int → Int → ByteArray → Int → Int → Int → Int → ByteArray → Int → Int → Int → Int → Option ((List (List Int)))
 | 0, _, _, _, _, _, _, _, _, _, _, _, _, _, _, _, _, _, _, _, _ => none
 | k + 1, x0, x3, x4, x6, x12, x13, x14, x27, x28, x29, x106000, x106001, x106002, x106003, x106004, x119000, x119001, x119002, x119003, x119004 => if 0 ≤ (wrap64 (x6 + 1)) then (if (wrap64 (x6 + 1)) ≤ x4 then (if x4 ≤ (x0.length : Int) then ((slices_ContainsFunc_impl_delays_1.f k ((x0.take (x4 : Int).toNat).drop ((wrap64 (x6 + 1)) : Int).toNat) [(⟨x119000, x119001, x119002, x119003, x119004⟩ : S57)]).bind fun t135 => ((impl_Instr_reads.f k x106000 x106001 x106002 x106003 x106004).bind fun t136 => ((slices_Contains_int_int.f k t136 x119001).bind fun t139 => (if t139 = true then (if t135 = true then (impl_delays.l1 k x0 x3 x4 x12 x13 x14 x27 x28 (wrap64 (x29 + 1)) x106000 x106001 x106002 x106003 x106004) else (if 0 ≤ x4 then (if x4 < (x3.length : Int) then (if 0 ≤ x6 then (if x6 < ((rd_L4 x3 x4).length : Int) then ((impl_Instr_cost.f x119000 x119001 x119002 x119003 x119004).bind fun t143 => (impl_delays.l1 k x0 (x3.set (x4 : Int).toNat ((rd_L4 x3 x4).set (x6 : Int).toNat (mx (rd (rd_L4 x3 x4) x6) t143))) x4 x12 x13 x14 x27 x28 (wrap64 (x29 + 1)) x106000 x106001 x106002 x106003 x106004)) else (none)) else (none)) else (none)) else (none))) else (impl_delays.l1 k x0 x3 x4 x12 x13 x14 x27 x28 (wrap64 (x29 + 1)) x106000 x106001 x106002 x106003 x106004))))) else (none)) else (none)) else (none)
end
def impl_delays.f (k : Nat) (l0 : List (S57)) : Option ((List (List Int))) := if 0 ≤ (l0.length : Int) then (if ((l0.length : Int) : Int).toNat ≤ 11728124029610 then (impl_delays.l0 k l0 (List.replicate ((l0.length : Int) : Int).toNat []) l0 (l0.length : Int) 0) else (none)) else (none)
theorem impl_delays.mono_l : ∀ k, (∀ y0 y1 y2 y3 y4, LeO (impl_delays.l0 k y0 y1 y2 y3 y4) (impl_delays.l0 (k + 1) y0 y1 y2 y3 y4)) ∧ (∀ y0 y1 y2 y3 y4 y5 y6 y7 y8 y9 y10 y11 y12 y13, LeO (impl_delays.l1 k y0 y1 y2 y3 y4 y5 y6 y7 y8 y9 y10 y11 y12 y13) (impl_delays.l1 (k + 1) y0 y1 y2 y3 y4 y5 y6 y7 y8 y9 y10 y11 y12 y13)) ∧ (∀ y0 y1 y2 y3 y4 y5 y6 y7 y8 y9 y10 y11 y12 y13 y14 y15 y16 y17 y18 y19, LeO (impl_delays.j2 k y0 y1 y2 y3 y4 y5 y6 y7 y8 y9 y10 y11 y12 y13 y14 y15 y16 y17 y18 y19) (impl_delays.j2 (k + 1) y0 y1 y2 y3 y4 y5 y6 y7 y8 y9 y10 y11 y12 y13 y14 y15 y16 y17 y18 y19)) ∧ (∀ y0 y1 y2 y3 y4 y5 y6 y7 y8 y9 y10 y11 y12 y13 y14 y15 y16 y17 y18 y19, LeO (impl_delays.j3 k y0 y1 y2 y3 y4 y5 y6 y7 y8 y9 y10 y11 y12 y13 y14 y15 y16 y17 y18 y19) (impl_delays.j3 (k + 1) y0 y1 y2 y3 y4 y5 y6 y7 y8 y9 y10 y11 y12 y13 y14 y15 y16 y17 y18 y19))
 | 0 => ⟨fun _ _ _ _ _ r h => by simp [impl_delays.l0] at h, fun _ _ _ _ _ _ _ _ _ _ _ _ _ _ r h => by simp [impl_delays.l1] at h, fun _ _ _ _ _ _ _ _ _ _ _ _ _ _ _ _ _ _ _ _ r h => by simp [impl_delays.j2] at h, fun _ _ _ _ _ _ _ _ _ _ _ _ _ _ _ _ _ _ _ _ r h => by simp [impl_delays.j3] at h⟩
 | k + 1 => by
   obtain ⟨ih0, ih1, ih2, ih3⟩ := impl_delays.mono_l k
   refine ⟨?_, ?_, ?_, ?_⟩
   · intro y0 y1 y2 y3 y4
     unfold impl_delays.l0
     repeat' first
     | (with_reducible first | exact ih0 _ _ _ _ _ | exact ih1 _ _ _ _ _ _ _ _ _ _ _ _ _ _ | exact ih2 _ _ _ _ _ _ _ _ _ _ _ _ _ _ _ _ _ _ _ _ | exact ih3 _ _ _ _ _ _ _ _ _ _ _ _ _ _ _ _ _ _ _ _ | exact impl_Instr_reads.mono _ _ _ _ _ _ | exact slices_ContainsFunc_impl_delays_1.mono _ _ _ | exact slices_Contains_int_int.mono _ _ _ | exact LeO.refl _ | exact LeO.none _ | refine LeO.ite ?_ ?_ | refine LeO.bind ?_ (fun _ => ?_))
     | exact LeO.none _
     | refine LeO.ite ?_ ?_
     | refine LeO.bind ?_ (fun _ => ?_)
   · intro y0 y1 y2 y3 y4 y5 y6 y7 y8 y9 y10 y11 y12 y13
     unfold impl_delays.l1
     repeat' first
     | (with_reducible first | exact ih0 _ _ _ _ _ | exact ih1 _ _ _ _ _ _ _ _ _ _ _ _ _ _ | exact ih2 _ _ _ _ _ _ _ _ _ _ _ _ _ _ _ _ _ _ _ _ | exact ih3 _ _ _ _ _ _ _ _ _ _ _ _ _ _ _ _ _ _ _ _ | exact impl_Instr_reads.mono _ _ _ _ _ _ | exact slices_ContainsFunc_impl_delays_1.mono _ _ _ | exact slices_Contains_int_int.mono _ _ _ | exact LeO.refl _ | exact LeO.none _ | refine LeO.ite ?_ ?_ | refine LeO.bind ?_ (fun _ => ?_))
     | exact LeO.none _
     | refine LeO.ite ?_ ?_
     | refine LeO.bind ?_ (fun _ => ?_)
   · intro y0 y1 y2 y3 y4 y5 y6 y7 y8 y9 y10 y11 y12 y13 y14 y15 y16 y17 y18 y19
     unfold impl_delays.j2
     repeat' first
     | (with_reducible first | exact ih0 _ _ _ _ _ | exact ih1 _ _ _ _ _ _ _ _ _ _ _ _ _ _ | exact ih2 _ _ _ _ _ _ _ _ _ _ _ _ _ _ _ _ _ _ _ _ | exact ih3 _ _ _ _ _ _ _ _ _ _ _ _ _ _ _ _ _ _ _ _ | exact impl_Instr_reads.mono _ _ _ _ _ _ | exact slices_ContainsFunc_impl_delays_1.mono _ _ _ | exact slices_Contains_int_int.mono _ _ _ | exact LeO.refl _ | exact LeO.none _ | refine LeO.ite ?_ ?_ | refine LeO.bind ?_ (fun _ => ?_))
     | exact LeO.none _
     | refine LeO.ite ?_ ?_
     | refine LeO.bind ?_ (fun _ => ?_)
   · intro y0 y1 y2 y3 y4 y5 y6 y7 y8 y9 y10 y11 y12 y13 y14 y15 y16 y17 y18 y19
     unfold impl_delays.j3
     repeat' first
     | (with_reducible first | exact ih0 _ _ _ _ _ | exact ih1 _ _ _ _ _ _ _ _ _ _ _ _ _ _ | exact ih2 _ _ _ _ _ _ _ _ _ _ _ _ _ _ _ _ _ _ _ _ | exact ih3 _ _ _ _ _ _ _ _ _ _ _ _ _ _ _ _ _ _ _ _ | exact impl_Instr_reads.mono _ _ _ _ _ _ | exact slices_ContainsFunc_impl_delays_1.mono _ _ _ | exact slices_Contains_int_int.mono _ _ _ | exact LeO.refl _ | exact LeO.none _ | refine LeO.ite ?_ ?_ | refine LeO.bind ?_ (fun _ => ?_))
     | exact LeO.none _
     | refine LeO.ite ?_ ?_
     | refine LeO.bind ?_ (fun _ => ?_)
theorem impl_delays.mono : ∀ a0 k, LeO (impl_delays.f k a0) (impl_delays.f (k + 1) a0) := by
 intro a0 k
 obtain ⟨ih0, ih1, ih2, ih3⟩ := impl_delays.mono_l k
 unfold impl_delays.f
 repeat' first
     | (with_reducible first | exact ih0 _ _ _ _ _ | exact ih1 _ _ _ _ _ _ _ _ _ _ _ _ _ _ | exact ih2 _ _ _ _ _ _ _ _ _ _ _ _ _ _ _ _ _ _ _ _ | exact ih3 _ _ _ _ _ _ _ _ _ _ _ _ _ _ _ _ _ _ _ _ | exact impl_Instr_reads.mono _ _ _ _ _ _ | exact slices_ContainsFunc_impl_delays_1.mono _ _ _ | exact slices_Contains_int_int.mono _ _ _ | exact LeO.refl _ | exact LeO.none _ | refine LeO.ite ?_ ?_ | refine LeO.bind ?_ (fun _ => ?_))
     | exact LeO.none _
     | refine LeO.ite ?_ ?_
     | refine LeO.bind ?_ (fun _ => ?_)
def impl_delays.T14 : Bool × List (List Nat × List Nat) := (true, [([], []), ([0], [0]), ([], []), ([2], [2]), ([1, 3, 1], [1, 3]), ([4, 4], [4]), ([5], [5]), ([6, 5], [5, 6]), ([5, 7], [5, 7])])
def impl_delays.B14 : List Nat := [0, 1, 0, 4, 15, 31, 63, 127, 255]
theorem impl_delays.tab14 : rtab .any (opsOf Try.f53 14) = impl_delays.T14 := by kernel_rfl
theorem impl_delays.bits14 : waitsOk impl_delays.T14.2 impl_delays.B14 = true := by kernel_rfl
def impl_delays.T15 : Bool × List (List Nat × List Nat) := (true, [([], []), ([], []), ([0, 1], [0, 1]), ([2], [2]), ([], []), ([], []), ([], []), ([5, 6], [5, 6]), ([7], [7]), ([], []), ([8, 9], [8, 9]), ([10], [10]), ([], []), ([12], [12]), ([11, 13], [11, 13]), ([3, 4, 0, 1, 2, 3, 4, 5, 6, 7, 8, 9, 10, 11, 12, 13, 14], [3, 4]), ([15, 14, 13, 0, 1, 2, 3, 4, 5, 6, 7, 8, 9, 10, 11, 12, 13, 14], [14, 15])])
def impl_delays.B15 : List Nat := [0, 0, 3, 7, 0, 0, 0, 96, 224, 0, 992, 2016, 0, 4096, 16352, 32767, 65535]
theorem impl_delays.tab15 : rtab .any (opsOf Try.f53 15) = impl_delays.T15 := by kernel_rfl
theorem impl_delays.bits15 : waitsOk impl_delays.T15.2 impl_delays.B15 = true := by kernel_rfl
set_option maxHeartbeats 8000000 in
set_option maxRecDepth 100000 in
theorem impl_delays.calls (k : Nat) (A0 : Option Addr) (c0 : Nat) (l0 : List (S57)) (r : List (List Int)) (w : World) (hr0 : Kd.C k57 w A0 l0.length l0) (hc0 : l0.length ≤ c0) (h : impl_delays.f k l0 = some r) :
   Calls Try.prog 53 #[.slice A0 l0.length c0] w fun e w' => ∃ v0_ : Value, e = .returned (v0_) ∧ Kd.S (Kd.slice 3 (Kd.int .i64)) 34 w' w.heap.size (fun _ => True) v0_ r ∧ Below w.heap.size w w' := by
 have hu57 := Try.underlying57
 have HR0 := zA hr0
 have HC0 := zA hc0
 clear hr0 hc0
 have HB := zA (Below.refl w.heap.size w)
 have H : (if 0 ≤ (l0.length : Int) then (if ((l0.length : Int) : Int).toNat ≤ 11728124029610 then (impl_delays.l0 k l0 (List.replicate ((l0.length : Int) : Int).toNat []) l0 (l0.length : Int) 0) else (none)) else (none)) = some r := h
 clear h
 by_cases c2 : 0 ≤ (l0.length : Int)
 rotate_left
 · rw [if_neg c2] at H
   exact absurd H (by simp)
 rw [if_pos c2] at H
 have c2b0 := eq_true c2
 have c2b1 : decide (0 ≤ (l0.length : Int)) = true := zdt c2
 clear c2
 by_cases c3 : ((l0.length : Int) : Int).toNat ≤ 11728124029610
 rotate_left
 · rw [if_neg c3] at H
   exact absurd H (by simp)
 rw [if_pos c3] at H
 have c3b0 := eq_true c3
 have c3b1 : decide (((l0.length : Int) : Int).toNat ≤ 11728124029610) = true := zdt c3
 clear c3
 obtain ⟨y101, hy101⟩ : ∃ y_ : List (List Int), y_ = (List.replicate ((l0.length : Int) : Int).toNat []) := ⟨_, rfl⟩
 replace H : (impl_delays.l0 k l0 y101 l0 (l0.length : Int) 0) = some r := by first | (rw [hy101]; with_reducible exact H) | (have H2_ := (Option.bind_some _ _).symm.trans H; rw [hy101]; with_reducible exact H2_) | (have H2_ := (Option.bind_some _ _).symm.trans H; with_reducible exact H2_) | with_reducible exact H | (rw [hy101]; exact H) | exact H
 have Ny101 := zA hy101
 clear hy101
 have H' := zA H
 clear H
 go_enter Try.func53, Try.ntmps53
 go_wp2_with (first | ((with_reducible refine gate_dst (N := 11) rfl ?_); refine Kd.S_make (Kd.slice 3 (Kd.int .i64)) _ 34 rfl (N := 11) rfl 24 _ _ rfl (l0.length : Int) rfl rfl Try.underlying24 (.slice none 0 0) 24 info34 rfl (by decide) (by omega) [] (ok := fun _ => True) (okp := fun _ => True) ⟨_, rfl, Kd.R_nil _ _ _ _ _⟩ (fun _ hk => hk) trivial (zde (by assumption)) (Nat.le_trans (Nat.mul_le_mul_right _ (zde (by assumption) : (l0.length : Int).toNat ≤ 11728124029610)) (by omega)) (Below.refl _ _) (zlr _) ?_; intro v102 w4 ho5 hb hg_ hnew_; clear hg_ hnew_; (first | rw [← Ny101.out] at ho5 | (simp only [Int.reduceToNat] at ho5; rw [← Ny101.out] at ho5)); have n0_ := zA (Kd.S_lower ho5 (below_size (by repeat (first | (with_reducible first | exact HB.out | apply zba | apply zbn | apply zbd) | exact HB.out)))); have n1_ := zA (below_step (by repeat (first | (with_reducible first | exact HB.out | apply zba | apply zbn | apply zbd) | exact HB.out)) hb); clear HB; have HO103 := n0_; have HB := n1_; clear n0_ n1_; clear hb ho5))
 go_loopg [14] k (fun kq v14 w' => ∃ (x3_1 : List (List Int)) (x14_1 : Int), v14 = .int .i64 x14_1 ∧ Aside0 (impl_delays.l0 kq l0 x3_1 l0 (l0.length : Int) x14_1 = some r) ∧ Aside0 (kq ≤ k) ∧ Aside0 (Kd.S (Kd.slice 3 (Kd.int .i64)) 34 w' w.heap.size (fun _ => True) v102 x3_1) ∧ Aside0 (Below w.heap.size w w'))
 case atStart => exact ⟨(y101), (0), (by first | rfl | (simp; done) | (simp [*]; done)), H', ⟨zlr _⟩, ⟨by (with_reducible repeat (first | apply zSa | apply zSn | apply zSd)); exact HO103.out⟩, ⟨by repeat (first | (with_reducible first | exact HB.out | apply zba | apply zbn | apply zbd) | exact HB.out)⟩⟩
 clear H'
 try clear c2
 try clear c2b0
 try clear c2b1
 try clear p2
 try clear c3
 try clear c3b0
 try clear c3b1
 try clear c5
 obtain ⟨x3_1, x14_1, rfl, HA, HK1, HO_3, HB⟩ := hrel
 cases gk with
 | zero => exact absurd HA.out (by simp [impl_delays.l0])
 | succ k1 =>
 have H := HA.out
 clear HA
 simp only [impl_delays.l0] at H
 by_cases c6 : x14_1 < (l0.length : Int)
 rotate_left
 · rw [if_neg c6] at H
   have c6b0 : decide (x14_1 < (l0.length : Int)) = false := zdf c6
   clear c6
   obtain rfl := zsi H
   go_wp2
   go_ret
   exact ⟨_, by first | rfl | (simp [errW_none, errW_some] <;> rfl) | (simp [*, errW_none, errW_some] <;> rfl), by (with_reducible repeat (first | apply zSa | apply zSn | apply zSd)); exact HO_3.out, by repeat (first | (with_reducible first | exact HB.out | apply zba | apply zbn | apply zbd) | exact HB.out)⟩
 rw [if_pos c6] at H
 have c6b0 : decide (x14_1 < (l0.length : Int)) = true := zdt c6
 clear c6
 by_cases c7 : 0 ≤ x14_1
 rotate_left
 · rw [if_neg c7] at H
   exact absurd H (by simp)
 rw [if_pos c7] at H
 have c7b0 : decide (0 ≤ x14_1) = true := zdt c7
 clear c7
 by_cases c8 : x14_1 < (l0.length : Int)
 rotate_left
 · rw [if_neg c8] at H
   exact absurd H (by simp)
 rw [if_pos c8] at H
 have c8b0 : decide (x14_1 < (l0.length : Int)) = true := zdt c8
 clear c8
 obtain ⟨y106, hy106⟩ : ∃ y_ : List Int, y_ = (([(-1)] : List Int)) := ⟨_, rfl⟩
 replace H : ((slices_Repeat_int_int.f y106 x14_1).bind fun t109 => (if x14_1 < (x3_1.length : Int) then (if x14_1 ≤ (l0.length : Int) then ((some (l0.take (x14_1 : Int).toNat : List (S57))).bind fun y113 => (impl_delays.l1 k1 l0 (x3_1.set (x14_1 : Int).toNat t109) x14_1 l0 (l0.length : Int) x14_1 y113 (y113.length : Int) 0 ((rd_T57 l0 x14_1).f0) ((rd_T57 l0 x14_1).f1) ((rd_T57 l0 x14_1).f2) ((rd_T57 l0 x14_1).f3) ((rd_T57 l0 x14_1).f4))) else (none)) else (none))) = some r := by first | (rw [hy106]; with_reducible exact H) | (have H2_ := (Option.bind_some _ _).symm.trans H; rw [hy106]; with_reducible exact H2_) | (have H2_ := (Option.bind_some _ _).symm.trans H; with_reducible exact H2_) | with_reducible exact H | (rw [hy106]; exact H) | exact H
 have Ny106 := zA hy106
 clear hy106
 replace H := zob H
 obtain ⟨t109, A90, H⟩ := H
 replace H : (if x14_1 < (x3_1.length : Int) then (if x14_1 ≤ (l0.length : Int) then ((some (l0.take (x14_1 : Int).toNat : List (S57))).bind fun y113 => (impl_delays.l1 k1 l0 (x3_1.set (x14_1 : Int).toNat t109) x14_1 l0 (l0.length : Int) x14_1 y113 (y113.length : Int) 0 ((rd_T57 l0 x14_1).f0) ((rd_T57 l0 x14_1).f1) ((rd_T57 l0 x14_1).f2) ((rd_T57 l0 x14_1).f3) ((rd_T57 l0 x14_1).f4))) else (none)) else (none)) = some r := H
 have A9 := zA A90
 clear A90
 by_cases c10 : x14_1 < (x3_1.length : Int)
 rotate_left
 · rw [if_neg c10] at H
   exact absurd H (by simp)
 rw [if_pos c10] at H
 have c10b0 : decide (x14_1 < (x3_1.length : Int)) = true := zdt c10
 clear c10
 obtain ⟨y112, hy112⟩ : ∃ y_ : List (List Int), y_ = (x3_1.set (x14_1 : Int).toNat t109) := ⟨_, rfl⟩
 replace H : (if x14_1 ≤ (l0.length : Int) then ((some (l0.take (x14_1 : Int).toNat : List (S57))).bind fun y113 => (impl_delays.l1 k1 l0 y112 x14_1 l0 (l0.length : Int) x14_1 y113 (y113.length : Int) 0 ((rd_T57 l0 x14_1).f0) ((rd_T57 l0 x14_1).f1) ((rd_T57 l0 x14_1).f2) ((rd_T57 l0 x14_1).f3) ((rd_T57 l0 x14_1).f4))) else (none)) = some r := by first | (rw [hy112]; with_reducible exact H) | (have H2_ := (Option.bind_some _ _).symm.trans H; rw [hy112]; with_reducible exact H2_) | (have H2_ := (Option.bind_some _ _).symm.trans H; with_reducible exact H2_) | with_reducible exact H | (rw [hy112]; exact H) | exact H
 have Ny112 := zA hy112
 clear hy112
 have c12b0 := eq_true (zde (by assumption) : 0 ≤ x14_1)
 by_cases c13 : x14_1 ≤ (l0.length : Int)
 rotate_left
 · rw [if_neg c13] at H
   exact absurd H (by simp)
 rw [if_pos c13] at H
 have c13b0 := eq_true c13
 have c13b1 : decide (x14_1 ≤ (l0.length : Int)) = true := zdt c13
 clear c13
 obtain ⟨y113, hy113⟩ : ∃ y_ : List (S57), y_ = (l0.take (x14_1 : Int).toNat) := ⟨_, rfl⟩
 replace H : (impl_delays.l1 k1 l0 y112 x14_1 l0 (l0.length : Int) x14_1 y113 (y113.length : Int) 0 ((rd_T57 l0 x14_1).f0) ((rd_T57 l0 x14_1).f1) ((rd_T57 l0 x14_1).f2) ((rd_T57 l0 x14_1).f3) ((rd_T57 l0 x14_1).f4)) = some r := by first | (rw [hy113]; with_reducible exact H) | (have H2_ := (Option.bind_some _ _).symm.trans H; rw [hy113]; with_reducible exact H2_) | (have H2_ := (Option.bind_some _ _).symm.trans H; with_reducible exact H2_) | with_reducible exact H | (rw [hy113]; exact H) | exact H
 have Ny113 := zA hy113
 clear hy113
 have H' := zA H
 clear H
 have p104 : 0 ≤ (x14_1 : Int) := zde (by assumption)
 have q104 : x14_1 < (l0.length : Int) := zde (by assumption)
 obtain ⟨ad104, e104, hx104_0, hx104_1, hx104_2, hx104_3, hx104_4⟩ := at_T57 HR0.out x14_1 p104 q104
 cases e104
 replace hx104_0 := zkep HB.out hx104_0
 replace hx104_1 := zkep HB.out hx104_1
 replace hx104_2 := zkep HB.out hx104_2
 replace hx104_3 := zkep HB.out hx104_3
 replace hx104_4 := zkep HB.out hx104_4
 replace p104 := eq_true p104
 replace q104 := eq_true q104
 go_wp2_with (first | ((with_reducible refine gate_dst (N := 5) rfl ?_); refine box_event ?hg (N := 5) ?hd (cs := #[.string (⟨#[]⟩ : ByteArray), .int .i64 0, .int .i64 0, .int .i64 0, .int .i64 0]) (t := 57) ?hr ?_; (case hd => rfl); (case hg => rfl); (case hr => go_simp <;> rfl); intro gb105 hg w14 hbox hb; have n0_ := zA (Kd.S_below (by (with_reducible repeat (first | apply zSa | apply zSn | apply zSd)); exact HO_3.out) hb); have zs := zpair (by repeat (first | (with_reducible first | exact HB.out | apply zba | apply zbn | apply zbd) | exact HB.out)) hb; have n1_ := zA (zs.1); have n2_ := zA (hbox); have n3_ := zA ((by rw [hg]; exact zs.2 : w.heap.size ≤ gb105)); have n4_ := n3_; clear HO_3 HB; have HO_3 := n0_; have HB := n1_; have BK105 := n2_; have GW105 := n3_; have GE105 := n4_; clear n0_ n1_ n2_ n3_ n4_; clear zs hb hbox hg; obtain ⟨hcz15_0, hcz15_1, hcz15_2, hcz15_3, hcz15_4⟩ := zc5 w14 (.string (⟨#[]⟩ : ByteArray)) (.int .i64 0) (.int .i64 0) (.int .i64 0) (.int .i64 0) BK105.out; obtain ⟨hfz15_0, hfz15_1, hfz15_2, hfz15_3, hfz15_4⟩ := zf5 BK105.out) | ((with_reducible refine gate_dst (N := 21) rfl ?_); refine Kd.R_lit (Kd.int .i64) _ 3 ?hg (N := 21) ?hd (xs := ([(-1)] : List Int)) (inner := [.int .i64 (-1)]) (ok := fun _ => True) (okp := fun _ => True) ?hr ?hp (fun _ hk => hk) trivial (Below.refl _ _) (zlr _) (by simp) ?_; (case hd => rfl); (case hg => rfl); (case hr => go_simp <;> rfl); (case hp => exact (Reps.one (show Kd.M (Kd.int .i64) _ _ _ (-1) [.int .i64 (-1)] from rfl) (Reps.none _ _))); intro v107 w16 ho17 hb hg_ hnew_; clear hg_ hnew_; (first | rw [← Ny106.out] at ho17 | (simp only [Int.reduceToNat] at ho17; rw [← Ny106.out] at ho17)); have n0_ := zA (Kd.S_elder' (by (with_reducible repeat (first | apply zSa | apply zSn | apply zSd)); exact (Kd.S_mono (Kd.S_far (p := ⟨gb105, 4, none⟩) (Kd.S_far (p := ⟨gb105, 3, none⟩) (Kd.S_far (p := ⟨gb105, 2, none⟩) (Kd.S_far (p := ⟨gb105, 1, none⟩) (Kd.S_far (p := ⟨gb105, 0, none⟩) (Kd.S_types HO_3.out BK105.out (by decide)) (fun _ hk => hk.2) (.string ((rd_T57 l0 x14_1).f0))) (fun _ hk => hk.2) (.int .i64 ((rd_T57 l0 x14_1).f1))) (fun _ hk => hk.2) (.int .i64 ((rd_T57 l0 x14_1).f2))) (fun _ hk => hk.2) (.int .i64 ((rd_T57 l0 x14_1).f3))) (fun _ hk => hk.2) (.int .i64 ((rd_T57 l0 x14_1).f4))) (fun _ h_ => h_.1))) (Kd.R_base ho17) hb); have n1_ := zA (Kd.R_lower ho17 (below_size (by repeat (first | (with_reducible first | exact HB.out | apply zba | apply zbn | apply zbd | refine below_set ?_ GE105.out) | exact HB.out)))); have n2_ := zA (blk_below (g := gb105) (o := .cells #[.string ((rd_T57 l0 x14_1).f0), .int .i64 ((rd_T57 l0 x14_1).f1), .int .i64 ((rd_T57 l0 x14_1).f2), .int .i64 ((rd_T57 l0 x14_1).f3), .int .i64 ((rd_T57 l0 x14_1).f4)] 57 (0, 0)) (by (with_reducible repeat (first | refine zkn ?_ _ | refine zkd ?_ | refine zka ?_ _)); refine blk_put (cs := #[.string ((rd_T57 l0 x14_1).f0), .int .i64 ((rd_T57 l0 x14_1).f1), .int .i64 ((rd_T57 l0 x14_1).f2), .int .i64 ((rd_T57 l0 x14_1).f3), .int .i64 0]) ?_ 4 _ rfl; (with_reducible repeat (first | refine zkn ?_ _ | refine zkd ?_ | refine zka ?_ _)); refine blk_put (cs := #[.string ((rd_T57 l0 x14_1).f0), .int .i64 ((rd_T57 l0 x14_1).f1), .int .i64 ((rd_T57 l0 x14_1).f2), .int .i64 0, .int .i64 0]) ?_ 3 _ rfl; (with_reducible repeat (first | refine zkn ?_ _ | refine zkd ?_ | refine zka ?_ _)); refine blk_put (cs := #[.string ((rd_T57 l0 x14_1).f0), .int .i64 ((rd_T57 l0 x14_1).f1), .int .i64 0, .int .i64 0, .int .i64 0]) ?_ 2 _ rfl; (with_reducible repeat (first | refine zkn ?_ _ | refine zkd ?_ | refine zka ?_ _)); refine blk_put (cs := #[.string ((rd_T57 l0 x14_1).f0), .int .i64 0, .int .i64 0, .int .i64 0, .int .i64 0]) ?_ 1 _ rfl; (with_reducible repeat (first | refine zkn ?_ _ | refine zkd ?_ | refine zka ?_ _)); refine blk_put (cs := #[.string (⟨#[]⟩ : ByteArray), .int .i64 0, .int .i64 0, .int .i64 0, .int .i64 0]) ?_ 0 _ rfl; (with_reducible repeat (first | refine zkn ?_ _ | refine zkd ?_ | refine zka ?_ _)); exact BK105.out) hb); have n3_ := zA (below_step (by repeat (first | (with_reducible first | exact HB.out | apply zba | apply zbn | apply zbd | refine below_set ?_ GE105.out) | exact HB.out)) hb); clear HO_3 BK105 HB; have HO_3 := n0_; have HO108 := n1_; have BK105 := n2_; have HB := n3_; clear n0_ n1_ n2_ n3_; clear hb ho17; obtain ⟨Ao18, co18, eo18⟩ := Kd.R_slice HO108.out; subst eo18) | ((with_reducible refine gate_callee (f := 80) rfl ?_); refine goesL_ (some 23) rfl rfl Try.func80 (by kernel_rfl) rfl #[.slice Ao18 y106.length co18, .int .i64 x14_1] rfl (by (try simp only [List.map_toArray, List.map_cons, List.map_nil]); first | done | rfl | (simp only [List.length_drop, List.length_take]; rfl)) ?_; (with_reducible refine (slices_Repeat_int_int.calls _ _ y106 x14_1 t109 _ ?side1 ?side2 A9.out).mono ?_); (case side1 => repeat (first | exact (zRr HO108.out).2.2 | (with_reducible first | refine zCa ?_ _ | refine zCn ?_ _ | refine zCd ?_))); (case side2 => exact (zRr HO108.out).2.1); rintro e w19 ⟨v110, rfl, ho0, hb⟩; refine ⟨_, rfl, ?_⟩; have n0_ := zA (Kd.S_elder' (by (with_reducible repeat (first | apply zSa | apply zSn | apply zSd)); exact HO_3.out) (Kd.R_base ho0) hb); have n1_ := zA (Kd.R_elder' (by (with_reducible repeat (first | apply zRa | apply zRn | apply zRd)); exact HO108.out) (Kd.R_base ho0) hb); have n2_ := zA (Kd.R_lower (Kd.R_new' ho0 (Kd.R_lt (by (with_reducible repeat (first | apply zRa | apply zRn | apply zRd)); exact HO108.out))) (below_size (by repeat (first | (with_reducible first | exact HB.out | apply zba | apply zbn | apply zbd | refine below_set ?_ GE105.out) | exact HB.out)))); have n3_ := zA (blk_below (g := gb105) (o := .cells #[.string ((rd_T57 l0 x14_1).f0), .int .i64 ((rd_T57 l0 x14_1).f1), .int .i64 ((rd_T57 l0 x14_1).f2), .int .i64 ((rd_T57 l0 x14_1).f3), .int .i64 ((rd_T57 l0 x14_1).f4)] 57 (0, 0)) (by (with_reducible repeat (first | refine zkn ?_ _ | refine zkd ?_ | refine zka ?_ _)); exact BK105.out) hb); have n4_ := zA (below_step (by repeat (first | (with_reducible first | exact HB.out | apply zba | apply zbn | apply zbd | refine below_set ?_ GE105.out) | exact HB.out)) hb); clear HO_3 HO108; clear BK105 HB; have HO_3 := n0_; have HO108 := n1_; have HO111 := n2_; have BK105 := n3_; have HB := n4_; clear n0_ n1_ n2_ n3_ n4_; (try clear hb); (try clear hk); (try clear ho0); have p11 : 0 ≤ (x14_1 : Int) := zde (by assumption); have q11 : (x14_1 : Int) < ((x3_1.length : Int) : Int) := zde (by assumption); obtain ⟨go11, co11, eo11, gb11, gl11, cl11, HG11⟩ := Kd.S_form HO_3.out (by omega); (first | cases eo11 | (injection eo11 with ea_ en_ ec_; (first | subst ea_ | (injection ea_ with ea_; subst ea_)); subst ec_; clear en_)); have GB11 := zA gb11; have GG11 := zA HG11; clear gb11 gl11 HG11; obtain ⟨_, ce11, hcl11, hM11, hcc11, hfr11, _, _⟩ := Kd.S_elem HO_3.out [] (x14_1 : Int) p11 q11; obtain ⟨ve11_0, rfl, ge11_0⟩ := (id hM11); have hx11_0 := hcc11 0 _ rfl; have hf11_0 := hfr11 0; (try simp only [show ((Kd.slice 3 (Kd.int .i64))).sz = 1 from rfl, Nat.mul_one, Nat.add_zero] at hx11_0); (try simp only [show ((Kd.slice 3 (Kd.int .i64))).sz = 1 from rfl, Nat.mul_one, Nat.add_zero] at hf11_0); clear hcl11 hcc11 hfr11 hM11; replace p11 := eq_true p11; replace q11 := eq_true q11; obtain ⟨Ao20, co20, eo20⟩ := Kd.R_slice HO111.out; subst eo20; have n_ := zA (Kd.S_mono (ok' := (fun k_ => some k_ ≠ (.slice Ao18 y106.length co18 : Value).ownBlock ∧ some k_ ≠ (.slice Ao20 t109.length co20 : Value).ownBlock)) HO_3.out (fun k_ hk => ⟨hk.1.2, hk.2⟩)); clear HO_3; have HO_3 := n_; clear n_; have HX21 := zA (show Kd.S (Kd.slice 3 (Kd.int .i64)) 34 w19 w.heap.size (fun k_ => ((fun k_ => some k_ ≠ (.slice Ao18 y106.length co18 : Value).ownBlock)) k_ ∧ ¬ ((fun k_ => some k_ = (.slice Ao20 t109.length co20 : Value).ownBlock)) k_) (.slice (some ⟨go11, 0, none⟩) x3_1.length co11) x3_1 from (by (with_reducible repeat (first | apply zSa | apply zSn | apply zSd)); exact Kd.S_mono HO_3.out (fun k_ hk => ⟨hk.1, fun e_ => hk.2 e_⟩))); obtain ⟨oki21, ce21, hcl21, hM21, hcc21, hfr21, hoki21, hH21⟩ := Kd.S_elem HX21.out [] (x14_1 : Int) (zde (by assumption)) (by have h_ : (x14_1 : Int) < ((x3_1.length : Int) : Int) := zde (by assumption); first | exact h_ | (have e_ := (zSr HO_3.out).1; omega) | simpa using h_); obtain ⟨ve21_0, rfl, ge21_0⟩ := (id hM21); have HP21 := Kd.S_seg hH21 (zde (by assumption)) (by have h_ : (x14_1 : Int) < ((x3_1.length : Int) : Int) := zde (by assumption); first | exact h_ | (have e_ := (zSr HO_3.out).1; omega) | simpa using h_) (seg := [.slice Ao20 t109.length co20]) (j := 0) (show 1 ≤ 1 from by decide) (x' := t109) (Kd.M_row (Kd.R_mono (Kd.R_tight rfl (Kd.R_mono (ok' := fun k_ => ((fun k_ => some k_ ≠ (.slice Ao18 y106.length co18 : Value).ownBlock)) k_ ∧ k_ ≠ go11) (Kd.R_apart' (HO111.out) (Kd.S_typed HO_3.out) (by decide)) (fun k_ hk => ⟨hk.1.2, fun e_ => (hk.2) (by rw [e_]; rfl)⟩))) (fun _ h_ => Or.inr (h_)))) (fun _ hk => hk) (fun k_ hk_ => ((Kd.R_mono (ok' := fun k_ => ((fun k_ => some k_ ≠ (.slice Ao18 y106.length co18 : Value).ownBlock)) k_ ∧ k_ ≠ go11) (Kd.R_apart' (HO111.out) (Kd.S_typed HO_3.out) (by decide)) (fun k_ hk => ⟨hk.1.2, fun e_ => (hk.2) (by rw [e_]; rfl)⟩))).1 k_ hk_.symm); have hx21_0 := hcc21 0 _ rfl; (try simp only [show ((Kd.slice 3 (Kd.int .i64))).sz = 1 from rfl, Nat.mul_one, Nat.add_zero] at hx21_0); have hf21_0 := hfr21 0; (try simp only [show ((Kd.slice 3 (Kd.int .i64))).sz = 1 from rfl, Nat.mul_one, Nat.add_zero] at hf21_0); clear hcl21 hcc21 hfr21 hM21 hoki21 hH21; (try simp only [show ((Kd.slice 3 (Kd.int .i64))).sz = 1 from rfl, Nat.mul_one, Nat.add_zero] at HP21)) | ((with_reducible refine gate_store (t := 34) (p := 24) rfl ?_); refine store_event (t := 34) (p := 24) (v := ?vo_w22) (w1 := (w19.setCell ⟨go11, (x14_1 : Int).toNat, none⟩ (.slice Ao20 t109.length co20))) ?hg ?ho ?hn ?hr ?_; (case ho => rfl); (case hg => rfl); (case hn => rfl); (case hr => go_simp <;> rfl); intro w22 hw; have hg : w19.grownBy w22 (some go11) := (by rw [hw]; exact HP21.2); have hp_ : Kd.S (Kd.slice 3 (Kd.int .i64)) 34 w22 w.heap.size (fun k_ => some k_ ≠ (.slice Ao18 y106.length co18 : Value).ownBlock) (.slice (some ⟨go11, 0, none⟩) x3_1.length co11) y112 := (by rw [hw, Ny112.out]; exact HP21.1); clear HP21; have n0_ := zA (hp_); have n1_ := zA (blk_grown (g := gb105) (o := .cells #[.string ((rd_T57 l0 x14_1).f0), .int .i64 ((rd_T57 l0 x14_1).f1), .int .i64 ((rd_T57 l0 x14_1).f2), .int .i64 ((rd_T57 l0 x14_1).f3), .int .i64 ((rd_T57 l0 x14_1).f4)] 57 (0, 0)) (by (with_reducible repeat (first | refine zkn ?_ _ | refine zkd ?_ | refine zka ?_ _)); exact BK105.out) hg (Kd.S_ne HO_3.out BK105.out (by decide))); have n2_ := zA (Kd.R_over' (v := (.slice (some ⟨go11, 0, none⟩) x3_1.length co11)) (by (with_reducible repeat (first | apply zRa | apply zRn | apply zRd)); exact HO108.out) (Kd.S_typed HO_3.out) (by decide) hg); have n3_ := zA ((by rw [hw]; exact below_set (HB.out) GB11.out : Below w.heap.size w w22)); clear HO_3 BK105; clear HO108 HB HO111; have HO_3 := n0_; have BK105 := n1_; have HO108 := n2_; have HB := n3_; clear n0_ n1_ n2_ n3_; clear hg hw hp_; have q23 : (x14_1 : Int) ≤ ((l0.length : Int) : Int) := zde (by assumption); obtain ⟨i023, hi023, _, hsz23, _⟩ := info_parts info57; have hroom23 : l0.length ≤ c0 := HC0.out; have hC23 : Kd.C k57 _ (some ad104) l0.length l0 := HR0.out; have hcut23 := cut_to (P := Try.prog) 27 57 .i64 Try.underlying27 hi023 (some ad104) l0.length c0 x14_1 (zde (by assumption)) q23 hroom23; have hr23 := Kd.C_take (m := (x14_1 : Int).toNat) hC23 (by omega); have hy23 : y113.length = (x14_1 : Int).toNat := (by rw [Ny113.out, List.length_take]; omega); rw [← Ny113.out] at hr23; rw [← hy23] at hcut23; have HR116 := zA hr23; have HC116 := zA (show y113.length ≤ c0 from by omega); clear hr23 hC23 hroom23 hi023 hsz23; have KY23 := zA hy23; clear hy23; replace q23 := eq_true q23))
 go_loopg [29] k1 (fun kq v29 w' => ∃ (x3_2 : List (List Int)) (x29_2 : Int), v29 = .int .i64 x29_2 ∧ Aside0 (impl_delays.l1 kq l0 x3_2 x14_1 l0 (l0.length : Int) x14_1 y113 (y113.length : Int) x29_2 ((rd_T57 l0 x14_1).f0) ((rd_T57 l0 x14_1).f1) ((rd_T57 l0 x14_1).f2) ((rd_T57 l0 x14_1).f3) ((rd_T57 l0 x14_1).f4) = some r) ∧ Aside0 (kq ≤ k1) ∧ Aside0 (Kd.S (Kd.slice 3 (Kd.int .i64)) 34 w' w.heap.size (fun _ => True) (.slice (some ⟨go11, 0, none⟩) x3_1.length co11) x3_2) ∧ Aside0 (w'.heap[gb105]? = some (.cells #[.string ((rd_T57 l0 x14_1).f0), .int .i64 ((rd_T57 l0 x14_1).f1), .int .i64 ((rd_T57 l0 x14_1).f2), .int .i64 ((rd_T57 l0 x14_1).f3), .int .i64 ((rd_T57 l0 x14_1).f4)] 57 (0, 0))) ∧ Aside0 (Below w.heap.size w w'))
 case atStart => exact ⟨(y112), (0), (by first | rfl | (simp; done) | (simp [*]; done)), H', ⟨zlr _⟩, ⟨by (with_reducible repeat (first | apply zSa | apply zSn | apply zSd)); exact Kd.S_mono HO_3.out (fun _ hk => trivial)⟩, ⟨by (with_reducible repeat (first | refine zkn ?_ _ | refine zkd ?_ | refine zka ?_ _)); exact BK105.out⟩, ⟨by repeat (first | (with_reducible first | exact HB.out | apply zba | apply zbn | apply zbd | refine below_set ?_ GE105.out) | exact HB.out)⟩⟩
 clear H'
 try clear c1
 try clear p1
 try clear q1
 try clear hx1
 try clear hf1
 try clear c2
 try clear c2b0
 try clear c2b1
 try clear p2
 try clear q2
 try clear hx2
 try clear hf2
 try clear c3
 try clear c3b0
 try clear c3b1
 try clear c5
 try clear c6
 try clear c6b0
 try clear c7
 try clear c7b0
 try clear c8
 try clear c8b0
 try clear c10
 try clear c10b0
 try clear p10
 try clear q10
 try clear hx10
 try clear c11
 try clear p11
 try clear q11
 try clear hx11
 try clear hf11
 try clear c12
 try clear c12b0
 try clear c13
 try clear c13b0
 try clear c13b1
 try clear c21
 try clear hx21
 try clear hf21
 try clear q23
 try clear hcz15_0
 try clear hcz15_1
 try clear hcz15_2
 try clear hcz15_3
 try clear hcz15_4
 try clear hfz15_0
 try clear hfz15_1
 try clear hfz15_2
 try clear hfz15_3
 try clear hfz15_4
 try clear hx104_0
 try clear hx104_1
 try clear hx104_2
 try clear hx104_3
 try clear hx104_4
 try clear hx11_0
 try clear hx21_0
 try clear p104
 try clear p11
 try clear p2
 try clear q104
 try clear q11
 try clear q23
 obtain ⟨x3_2, x29_2, rfl, HA, HK2, HO_3, BK105, HB⟩ := hrel
 have hl3_2 := (zSr HO_3.out).1
 rw [hl3_2] at HO_3
 (try simp only [hl3_2])
 (try simp only [hl3_2] at BK105)
 cases gk with
 | zero => exact absurd HA.out (by simp [impl_delays.l1])
 | succ k2 =>
 have H := HA.out
 clear HA
 simp only [impl_delays.l1] at H
 by_cases c24 : x29_2 < (y113.length : Int)
 rotate_left
 · rw [if_neg c24] at H
   have c24b0 : decide (x29_2 < (y113.length : Int)) = false := zdf c24
   have c24b0h := c24b0
   try simp only [hl3_2] at c24b0h
   clear c24
   have H' := zA H
   clear H
   go_wp2
   (try simp only [← hl3_2])
   go_roundg k2
   case measure => have := HK1.out; have := HK2.out; omega
   case rel => exact ⟨(x3_2), (wrap64 (x14_1 + 1)), (by first | rfl | (simp; done) | (simp [*]; done)), H', ⟨by have := HK1.out; have := HK2.out; omega⟩, ⟨by (try simp only [hl3_2]); (with_reducible repeat (first | apply zSa | apply zSn | apply zSd)); exact HO_3.out⟩, ⟨by repeat (first | (with_reducible first | exact HB.out | apply zba | apply zbn | apply zbd | refine below_set ?_ GE105.out) | exact HB.out)⟩⟩
 rw [if_pos c24] at H
 have c24b0 : decide (x29_2 < (y113.length : Int)) = true := zdt c24
 have c24b0h := c24b0
 try simp only [hl3_2] at c24b0h
 clear c24
 by_cases c25 : 0 ≤ x29_2
 rotate_left
 · rw [if_neg c25] at H
   exact absurd H (by simp)
 rw [if_pos c25] at H
 have c25b0 : decide (0 ≤ x29_2) = true := zdt c25
 clear c25
 by_cases c26 : x29_2 < (y113.length : Int)
 rotate_left
 · rw [if_neg c26] at H
   exact absurd H (by simp)
 rw [if_pos c26] at H
 have c26b0 : decide (x29_2 < (y113.length : Int)) = true := zdt c26
 have c26b0h := c26b0
 try simp only [hl3_2] at c26b0h
 clear c26
 replace H := zob H
 obtain ⟨t119, A270, H⟩ := H
 replace H : ((slices_Contains_int_int.f k2 t119 ((rd_T57 l0 x14_1).f1)).bind fun t122 => (if t122 = true then (if 0 ≤ x14_1 then (if x14_1 < (x3_2.length : Int) then (if x29_2 < ((rd_L4 x3_2 x14_1).length : Int) then (impl_delays.j2 k2 l0 (x3_2.set (x14_1 : Int).toNat ((rd_L4 x3_2 x14_1).set (x29_2 : Int).toNat 0)) x14_1 x29_2 l0 (l0.length : Int) x14_1 y113 (y113.length : Int) x29_2 ((rd_T57 l0 x14_1).f0) ((rd_T57 l0 x14_1).f1) ((rd_T57 l0 x14_1).f2) ((rd_T57 l0 x14_1).f3) ((rd_T57 l0 x14_1).f4) ((rd_T57 y113 x29_2).f0) ((rd_T57 y113 x29_2).f1) ((rd_T57 y113 x29_2).f2) ((rd_T57 y113 x29_2).f3) ((rd_T57 y113 x29_2).f4)) else (none)) else (none)) else (none)) else (impl_delays.j2 k2 l0 x3_2 x14_1 x29_2 l0 (l0.length : Int) x14_1 y113 (y113.length : Int) x29_2 ((rd_T57 l0 x14_1).f0) ((rd_T57 l0 x14_1).f1) ((rd_T57 l0 x14_1).f2) ((rd_T57 l0 x14_1).f3) ((rd_T57 l0 x14_1).f4) ((rd_T57 y113 x29_2).f0) ((rd_T57 y113 x29_2).f1) ((rd_T57 y113 x29_2).f2) ((rd_T57 y113 x29_2).f3) ((rd_T57 y113 x29_2).f4)))) = some r := H
 have A27 := zA A270
 clear A270
 replace H := zob H
 obtain ⟨t122, A280, H⟩ := H
 replace H : (if t122 = true then (if 0 ≤ x14_1 then (if x14_1 < (x3_2.length : Int) then (if x29_2 < ((rd_L4 x3_2 x14_1).length : Int) then (impl_delays.j2 k2 l0 (x3_2.set (x14_1 : Int).toNat ((rd_L4 x3_2 x14_1).set (x29_2 : Int).toNat 0)) x14_1 x29_2 l0 (l0.length : Int) x14_1 y113 (y113.length : Int) x29_2 ((rd_T57 l0 x14_1).f0) ((rd_T57 l0 x14_1).f1) ((rd_T57 l0 x14_1).f2) ((rd_T57 l0 x14_1).f3) ((rd_T57 l0 x14_1).f4) ((rd_T57 y113 x29_2).f0) ((rd_T57 y113 x29_2).f1) ((rd_T57 y113 x29_2).f2) ((rd_T57 y113 x29_2).f3) ((rd_T57 y113 x29_2).f4)) else (none)) else (none)) else (none)) else (impl_delays.j2 k2 l0 x3_2 x14_1 x29_2 l0 (l0.length : Int) x14_1 y113 (y113.length : Int) x29_2 ((rd_T57 l0 x14_1).f0) ((rd_T57 l0 x14_1).f1) ((rd_T57 l0 x14_1).f2) ((rd_T57 l0 x14_1).f3) ((rd_T57 l0 x14_1).f4) ((rd_T57 y113 x29_2).f0) ((rd_T57 y113 x29_2).f1) ((rd_T57 y113 x29_2).f2) ((rd_T57 y113 x29_2).f3) ((rd_T57 y113 x29_2).f4))) = some r := H
 have A28 := zA A280
 clear A280
 have HC29 := zA H
 clear H
 have p117 : 0 ≤ (x29_2 : Int) := zde (by assumption)
 have q117 : x29_2 < (y113.length : Int) := zde (by assumption)
 obtain ⟨ad117, e117, hx117_0, hx117_1, hx117_2, hx117_3, hx117_4⟩ := at_T57 HR116.out x29_2 p117 q117
 obtain rfl : ad104 = ad117 := (by injection e117)
 replace hx117_0 := zkep HB.out hx117_0
 replace hx117_1 := zkep HB.out hx117_1
 replace hx117_2 := zkep HB.out hx117_2
 replace hx117_3 := zkep HB.out hx117_3
 replace hx117_4 := zkep HB.out hx117_4
 replace p117 := eq_true p117
 replace q117 := eq_true q117
 try go_wp2_with (first | ((with_reducible refine gate_dst (N := 7) rfl ?_); refine box_event ?hg (N := 7) ?hd (cs := #[.string (⟨#[]⟩ : ByteArray), .int .i64 0, .int .i64 0, .int .i64 0, .int .i64 0]) (t := 57) ?hr ?_; (case hd => rfl); (case hg => rfl); (case hr => go_simp <;> rfl); intro gb118 hg w30 hbox hb; have n0_ := zA (Kd.S_below (by (with_reducible repeat (first | apply zSa | apply zSn | apply zSd)); exact HO_3.out) hb); have n1_ := zA (blk_below (g := gb105) (o := .cells #[.string ((rd_T57 l0 x14_1).f0), .int .i64 ((rd_T57 l0 x14_1).f1), .int .i64 ((rd_T57 l0 x14_1).f2), .int .i64 ((rd_T57 l0 x14_1).f3), .int .i64 ((rd_T57 l0 x14_1).f4)] 57 (0, 0)) (by (with_reducible repeat (first | refine zkn ?_ _ | refine zkd ?_ | refine zka ?_ _)); exact BK105.out) hb); have zs := zpair (by repeat (first | (with_reducible first | exact HB.out | apply zba | apply zbn | apply zbd | refine below_set ?_ GE105.out) | exact HB.out)) hb; have n2_ := zA (zs.1); have n3_ := zA (hbox); have n4_ := zA ((by rw [hg]; exact zs.2 : w.heap.size ≤ gb118)); have n5_ := n4_; have n6_ := zA ((by rw [hg]; exact Nat.ne_of_lt (zlt BK105.out (fun h => by (with_reducible repeat (first | refine zkn ?_ _ | refine zkd ?_ | refine zka ?_ _)); exact h)) : gb105 ≠ gb118)); have n7_ := zA (Ne.symm n6_.out); clear HO_3 BK105 HB; have HO_3 := n0_; have BK105 := n1_; have HB := n2_; have BK118 := n3_; have GW118 := n4_; have GE118 := n5_; have NB105_118 := n6_; have NB118_105 := n7_; clear n0_ n1_ n2_ n3_ n4_ n5_ n6_ n7_; clear zs hb hbox hg; have hnb31 := NB118_105.out; have hnc31 := NB105_118.out; obtain ⟨hcz32_0, hcz32_1, hcz32_2, hcz32_3, hcz32_4⟩ := zc5 w30 (.string (⟨#[]⟩ : ByteArray)) (.int .i64 0) (.int .i64 0) (.int .i64 0) (.int .i64 0) BK118.out; obtain ⟨hfz32_0, hfz32_1, hfz32_2, hfz32_3, hfz32_4⟩ := zf5 BK118.out))
 have n0_ : Aside0 (Kd.S (Kd.slice 3 (Kd.int .i64)) 34 (((((w30.setCell ⟨gb118, 0, none⟩ (.string ((rd_T57 y113 x29_2).f0))).setCell ⟨gb118, 1, none⟩ (.int .i64 ((rd_T57 y113 x29_2).f1))).setCell ⟨gb118, 2, none⟩ (.int .i64 ((rd_T57 y113 x29_2).f2))).setCell ⟨gb118, 3, none⟩ (.int .i64 ((rd_T57 y113 x29_2).f3))).setCell ⟨gb118, 4, none⟩ (.int .i64 ((rd_T57 y113 x29_2).f4))) w.heap.size (fun _ => True) (.slice (some ⟨go11, 0, none⟩) x3_2.length co11) x3_2) := ⟨by (with_reducible repeat (first | apply zSa | apply zSn | apply zSd)); exact Kd.S_mono (Kd.S_far (p := ⟨gb118, 4, none⟩) (Kd.S_far (p := ⟨gb118, 3, none⟩) (Kd.S_far (p := ⟨gb118, 2, none⟩) (Kd.S_far (p := ⟨gb118, 1, none⟩) (Kd.S_far (p := ⟨gb118, 0, none⟩) (Kd.S_types HO_3.out BK118.out (by decide)) (fun _ hk => hk.2) (.string ((rd_T57 y113 x29_2).f0))) (fun _ hk => hk.2) (.int .i64 ((rd_T57 y113 x29_2).f1))) (fun _ hk => hk.2) (.int .i64 ((rd_T57 y113 x29_2).f2))) (fun _ hk => hk.2) (.int .i64 ((rd_T57 y113 x29_2).f3))) (fun _ hk => hk.2) (.int .i64 ((rd_T57 y113 x29_2).f4))) (fun _ hk => trivial)⟩
 have n1_ : Aside0 ((((((w30.setCell ⟨gb118, 0, none⟩ (.string ((rd_T57 y113 x29_2).f0))).setCell ⟨gb118, 1, none⟩ (.int .i64 ((rd_T57 y113 x29_2).f1))).setCell ⟨gb118, 2, none⟩ (.int .i64 ((rd_T57 y113 x29_2).f2))).setCell ⟨gb118, 3, none⟩ (.int .i64 ((rd_T57 y113 x29_2).f3))).setCell ⟨gb118, 4, none⟩ (.int .i64 ((rd_T57 y113 x29_2).f4))).heap[gb105]? = some (.cells #[.string ((rd_T57 l0 x14_1).f0), .int .i64 ((rd_T57 l0 x14_1).f1), .int .i64 ((rd_T57 l0 x14_1).f2), .int .i64 ((rd_T57 l0 x14_1).f3), .int .i64 ((rd_T57 l0 x14_1).f4)] 57 (0, 0))) := ⟨by (with_reducible repeat (first | refine zkn ?_ _ | refine zkd ?_ | refine zka ?_ _)); refine blk_far ?_ NB105_118.out _; (with_reducible repeat (first | refine zkn ?_ _ | refine zkd ?_ | refine zka ?_ _)); refine blk_far ?_ NB105_118.out _; (with_reducible repeat (first | refine zkn ?_ _ | refine zkd ?_ | refine zka ?_ _)); refine blk_far ?_ NB105_118.out _; (with_reducible repeat (first | refine zkn ?_ _ | refine zkd ?_ | refine zka ?_ _)); refine blk_far ?_ NB105_118.out _; (with_reducible repeat (first | refine zkn ?_ _ | refine zkd ?_ | refine zka ?_ _)); refine blk_far ?_ NB105_118.out _; (with_reducible repeat (first | refine zkn ?_ _ | refine zkd ?_ | refine zka ?_ _)); exact BK105.out⟩
 have n2_ : Aside0 ((((((w30.setCell ⟨gb118, 0, none⟩ (.string ((rd_T57 y113 x29_2).f0))).setCell ⟨gb118, 1, none⟩ (.int .i64 ((rd_T57 y113 x29_2).f1))).setCell ⟨gb118, 2, none⟩ (.int .i64 ((rd_T57 y113 x29_2).f2))).setCell ⟨gb118, 3, none⟩ (.int .i64 ((rd_T57 y113 x29_2).f3))).setCell ⟨gb118, 4, none⟩ (.int .i64 ((rd_T57 y113 x29_2).f4))).heap[gb118]? = some (.cells #[.string ((rd_T57 y113 x29_2).f0), .int .i64 ((rd_T57 y113 x29_2).f1), .int .i64 ((rd_T57 y113 x29_2).f2), .int .i64 ((rd_T57 y113 x29_2).f3), .int .i64 ((rd_T57 y113 x29_2).f4)] 57 (0, 0))) := ⟨by (with_reducible repeat (first | refine zkn ?_ _ | refine zkd ?_ | refine zka ?_ _)); refine blk_put (cs := #[.string ((rd_T57 y113 x29_2).f0), .int .i64 ((rd_T57 y113 x29_2).f1), .int .i64 ((rd_T57 y113 x29_2).f2), .int .i64 ((rd_T57 y113 x29_2).f3), .int .i64 0]) ?_ 4 _ rfl; (with_reducible repeat (first | refine zkn ?_ _ | refine zkd ?_ | refine zka ?_ _)); refine blk_put (cs := #[.string ((rd_T57 y113 x29_2).f0), .int .i64 ((rd_T57 y113 x29_2).f1), .int .i64 ((rd_T57 y113 x29_2).f2), .int .i64 0, .int .i64 0]) ?_ 3 _ rfl; (with_reducible repeat (first | refine zkn ?_ _ | refine zkd ?_ | refine zka ?_ _)); refine blk_put (cs := #[.string ((rd_T57 y113 x29_2).f0), .int .i64 ((rd_T57 y113 x29_2).f1), .int .i64 0, .int .i64 0, .int .i64 0]) ?_ 2 _ rfl; (with_reducible repeat (first | refine zkn ?_ _ | refine zkd ?_ | refine zka ?_ _)); refine blk_put (cs := #[.string ((rd_T57 y113 x29_2).f0), .int .i64 0, .int .i64 0, .int .i64 0, .int .i64 0]) ?_ 1 _ rfl; (with_reducible repeat (first | refine zkn ?_ _ | refine zkd ?_ | refine zka ?_ _)); refine blk_put (cs := #[.string (⟨#[]⟩ : ByteArray), .int .i64 0, .int .i64 0, .int .i64 0, .int .i64 0]) ?_ 0 _ rfl; (with_reducible repeat (first | refine zkn ?_ _ | refine zkd ?_ | refine zka ?_ _)); exact BK118.out⟩
 have n3_ : Aside0 (Below w.heap.size w (((((w30.setCell ⟨gb118, 0, none⟩ (.string ((rd_T57 y113 x29_2).f0))).setCell ⟨gb118, 1, none⟩ (.int .i64 ((rd_T57 y113 x29_2).f1))).setCell ⟨gb118, 2, none⟩ (.int .i64 ((rd_T57 y113 x29_2).f2))).setCell ⟨gb118, 3, none⟩ (.int .i64 ((rd_T57 y113 x29_2).f3))).setCell ⟨gb118, 4, none⟩ (.int .i64 ((rd_T57 y113 x29_2).f4)))) := ⟨by repeat (first | (with_reducible first | exact HB.out | apply zba | apply zbn | apply zbd | refine below_set ?_ GE105.out | refine below_set ?_ GE118.out) | exact HB.out)⟩
 (try clear HO_3)
 (try clear BK105)
 (try clear BK118)
 (try clear HB)
 generalize (((((w30.setCell ⟨gb118, 0, none⟩ (.string ((rd_T57 y113 x29_2).f0))).setCell ⟨gb118, 1, none⟩ (.int .i64 ((rd_T57 y113 x29_2).f1))).setCell ⟨gb118, 2, none⟩ (.int .i64 ((rd_T57 y113 x29_2).f2))).setCell ⟨gb118, 3, none⟩ (.int .i64 ((rd_T57 y113 x29_2).f3))).setCell ⟨gb118, 4, none⟩ (.int .i64 ((rd_T57 y113 x29_2).f4))) = w33 at n0_ n1_ n2_ n3_ ⊢
 have HO_3 := n0_
 have BK105 := n1_
 have BK118 := n2_
 have HB := n3_
 clear n0_ n1_ n2_ n3_
 have n0_ := zA (zSd HO_3.out)
 have n1_ := zA (zkd BK105.out)
 have n2_ := zA (zkd BK118.out)
 have n3_ := zA (zbd HB.out)
 clear HO_3
 clear BK105
 clear BK118
 clear HB
 have HO_3 := n0_
 have BK105 := n1_
 have BK118 := n2_
 have HB := n3_
 clear n0_ n1_ n2_ n3_
 refine start_ (n := 5) (S := fun w' => w'.cell? ⟨gb118, 0, none⟩ = some (.string ((rd_T57 y113 x29_2).f0)) ∧ w'.cell? ⟨gb118, 1, none⟩ = some (.int .i64 ((rd_T57 y113 x29_2).f1)) ∧ w'.cell? ⟨gb118, 2, none⟩ = some (.int .i64 ((rd_T57 y113 x29_2).f2)) ∧ w'.cell? ⟨gb118, 3, none⟩ = some (.int .i64 ((rd_T57 y113 x29_2).f3)) ∧ w'.cell? ⟨gb118, 4, none⟩ = some (.int .i64 ((rd_T57 y113 x29_2).f4)) ∧ w'.cell? ⟨gb105, 0, none⟩ = some (.string ((rd_T57 l0 x14_1).f0)) ∧ w'.cell? ⟨gb105, 1, none⟩ = some (.int .i64 ((rd_T57 l0 x14_1).f1)) ∧ w'.cell? ⟨gb105, 2, none⟩ = some (.int .i64 ((rd_T57 l0 x14_1).f2)) ∧ w'.cell? ⟨gb105, 3, none⟩ = some (.int .i64 ((rd_T57 l0 x14_1).f3)) ∧ w'.cell? ⟨gb105, 4, none⟩ = some (.int .i64 ((rd_T57 l0 x14_1).f4))) (ds := []) #[false, false, false, false, false] (by kernel_rfl) rfl rfl ⟨(blk_cell BK118.out 0).trans rfl, (blk_cell BK118.out 1).trans rfl, (blk_cell BK118.out 2).trans rfl, (blk_cell BK118.out 3).trans rfl, (blk_cell BK118.out 4).trans rfl, (blk_cell BK105.out 0).trans rfl, (blk_cell BK105.out 1).trans rfl, (blk_cell BK105.out 2).trans rfl, (blk_cell BK105.out 3).trans rfl, (blk_cell BK105.out 4).trans rfl⟩ (fun hHeld => ?_)
 generalize w33.drew = w34 at HO_3 BK105 BK118 HB hHeld ⊢
 refine pure_ (i := 2) (N := some 36) (v := ?_) (a' := ?_) #[false, false, true, false, false] rfl rfl (by kernel_rfl) (fun _ _ _ h => h) (Or.inl ⟨by rfl, ?_⟩) ?_ ?_
 rotate_left
 · intro w'
   go_simp
   with_reducible rfl
 rotate_left
 · simp only [Act.put, List.setIfInBounds_toArray, List.set_cons_zero, List.set_cons_succ, i64_w, i32_w]
   rfl
 refine take_ (i := 0) (N := some 34) (v := ?_) (a' := ?_) #[true, false, true, false, false] rfl rfl (by kernel_rfl) (fun _ _ _ h => h) (Or.inl ⟨by rfl, ?_⟩) hHeld ?_ ?_
 rotate_left
 · rintro w' ⟨s0, s1, s2, s3, s4, s5, s6, s7, s8, s9⟩
   go_simp
   with_reducible rfl
 rotate_left
 · simp only [Act.put, List.setIfInBounds_toArray, List.set_cons_zero, List.set_cons_succ, i64_w, i32_w]
   rfl
 refine take_ (i := 3) (N := some 37) (v := ?_) (a' := ?_) #[true, false, true, true, false] rfl rfl (by kernel_rfl) (fun _ _ _ h => h) (Or.inl ⟨by rfl, ?_⟩) hHeld ?_ ?_
 rotate_left
 · rintro w' ⟨s0, s1, s2, s3, s4, s5, s6, s7, s8, s9⟩
   go_simp
   with_reducible rfl
 rotate_left
 · simp only [Act.put, List.setIfInBounds_toArray, List.set_cons_zero, List.set_cons_succ, i64_w, i32_w]
   rfl
 refine one_ (i := 1) (N := some 35) #[true, true, true, true, false] rfl rfl (by kernel_rfl) (by decide) (fun K hK => ?_)
 refine goes_ Try.func85 (by kernel_rfl) rfl #[.agg #[.string ((rd_T57 y113 x29_2).f0), .int .i64 ((rd_T57 y113 x29_2).f1), .int .i64 ((rd_T57 y113 x29_2).f2), .int .i64 ((rd_T57 y113 x29_2).f3), .int .i64 ((rd_T57 y113 x29_2).f4)]] (by rfl) rfl rfl (by (try simp only [List.map_toArray, List.map_cons, List.map_nil]); first | done | rfl | (simp only [List.length_drop, List.length_take]; rfl)) ?_
 with_reducible refine (impl_Instr_reads.calls k2 ((rd_T57 y113 x29_2).f0) ((rd_T57 y113 x29_2).f1) ((rd_T57 y113 x29_2).f2) ((rd_T57 y113 x29_2).f3) ((rd_T57 y113 x29_2).f4) t119 _ A27.out).mono ?_
 rintro e w35 ⟨v120, rfl, ho0, hb⟩
 refine ⟨_, rfl, ?_⟩
 have n0_ := zA (Kd.S_elder' (by (with_reducible repeat (first | apply zSa | apply zSn | apply zSd)); exact HO_3.out) (Kd.R_base ho0) hb)
 have n1_ := zA (Kd.R_lower ho0 (below_size (by repeat (first | (with_reducible first | exact HB.out | apply zba | apply zbn | apply zbd | refine below_set ?_ GE105.out | refine below_set ?_ GE118.out) | exact HB.out))))
 have n2_ := zA (blk_below (g := gb105) (o := .cells #[.string ((rd_T57 l0 x14_1).f0), .int .i64 ((rd_T57 l0 x14_1).f1), .int .i64 ((rd_T57 l0 x14_1).f2), .int .i64 ((rd_T57 l0 x14_1).f3), .int .i64 ((rd_T57 l0 x14_1).f4)] 57 (0, 0)) (by (with_reducible repeat (first | refine zkn ?_ _ | refine zkd ?_ | refine zka ?_ _)); exact BK105.out) hb)
 have n3_ := zA (blk_below (g := gb118) (o := .cells #[.string ((rd_T57 y113 x29_2).f0), .int .i64 ((rd_T57 y113 x29_2).f1), .int .i64 ((rd_T57 y113 x29_2).f2), .int .i64 ((rd_T57 y113 x29_2).f3), .int .i64 ((rd_T57 y113 x29_2).f4)] 57 (0, 0)) (by (with_reducible repeat (first | refine zkn ?_ _ | refine zkd ?_ | refine zka ?_ _)); exact BK118.out) hb)
 have n4_ := zA (below_step (by repeat (first | (with_reducible first | exact HB.out | apply zba | apply zbn | apply zbd | refine below_set ?_ GE105.out | refine below_set ?_ GE118.out) | exact HB.out)) hb)
 clear HO_3
 clear BK105
 clear BK118
 clear HB
 have HO_3 := n0_
 have HO121 := n1_
 have BK105 := n2_
 have BK118 := n3_
 have HB := n4_
 clear n0_ n1_ n2_ n3_ n4_
 (try clear hb)
 (try clear hb2)
 (try clear hk)
 (try clear hi)
 (try clear ho0)
 obtain ⟨Ao36, co36, eo36⟩ := Kd.R_slice HO121.out
 (first | subst eo36 | (injection eo36 with f1_ f2_ f3_; have f4_ := f1_.symm; have f5_ := f3_.symm; clear f1_ f2_ f3_; subst f4_; subst f5_))
 refine hK.out _ _ ⟨(blk_cell BK118.out 0).trans rfl, (blk_cell BK118.out 1).trans rfl, (blk_cell BK118.out 2).trans rfl, (blk_cell BK118.out 3).trans rfl, (blk_cell BK118.out 4).trans rfl, (blk_cell BK105.out 0).trans rfl, (blk_cell BK105.out 1).trans rfl, (blk_cell BK105.out 2).trans rfl, (blk_cell BK105.out 3).trans rfl, (blk_cell BK105.out 4).trans rfl⟩ (fun hHeld => ?_)
 clear hK K
 refine norm_ (a' := ?_) ?_ ?_
 rotate_left
 · show Act.put _ (some 35) _ = _
   simp only [Act.put, List.setIfInBounds_toArray, List.set_cons_zero, List.set_cons_succ, i64_w, i32_w]
   rfl
 refine one_ (i := 4) (N := some 38) #[true, true, true, true, true] rfl rfl (by kernel_rfl) (by decide) (fun K hK => ?_)
 refine goes_ Try.func82 (by kernel_rfl) rfl #[.slice Ao36 t119.length co36, .int .i64 ((rd_T57 l0 x14_1).f1)] (by rfl) rfl rfl (by (try simp only [List.map_toArray, List.map_cons, List.map_nil]); first | done | rfl | (simp only [List.length_drop, List.length_take]; rfl)) ?_
 with_reducible refine (slices_Contains_int_int.calls k2 _ _ t119 ((rd_T57 l0 x14_1).f1) t122 _ ?side1 ?side2 A28.out).mono ?_
 (case side1 => repeat (first | exact (zRr HO121.out).2.2 | (with_reducible first | refine zCa ?_ _ | refine zCn ?_ _ | refine zCd ?_)))
 (case side2 => exact (zRr HO121.out).2.1)
 rintro e w' ⟨rfl, ⟨nd, rfl⟩⟩
 refine ⟨_, rfl, ?_⟩
 refine hK.out _ _ ⟨(blk_cell BK118.out 0).trans rfl, (blk_cell BK118.out 1).trans rfl, (blk_cell BK118.out 2).trans rfl, (blk_cell BK118.out 3).trans rfl, (blk_cell BK118.out 4).trans rfl, (blk_cell BK105.out 0).trans rfl, (blk_cell BK105.out 1).trans rfl, (blk_cell BK105.out 2).trans rfl, (blk_cell BK105.out 3).trans rfl, (blk_cell BK105.out 4).trans rfl⟩ (fun hHeld => ?_)
 clear hK K
 refine norm_ (a' := ?_) ?_ ?_
 rotate_left
 · show Act.put _ (some 38) _ = _
   simp only [Act.put, List.setIfInBounds_toArray, List.set_cons_zero, List.set_cons_succ, i64_w, i32_w]
   rfl
 refine done_ (by kernel_rfl) ?_
 (try (rw [drewN_self w35]; generalize hq_ : World.drewN w35 _ = w35; have n0_ := zA (Kd.S_at hq_ HO_3.out); have n1_ := zA (Kd.R_at hq_ HO121.out); have n2_ := zA (blk_at hq_ BK105.out); have n3_ := zA (blk_at hq_ BK118.out); have n4_ := zA (below_at hq_ HB.out); clear hq_ HO_3 HO121 BK105 BK118 HB; have HO_3 := n0_; have HO121 := n1_; have BK105 := n2_; have BK118 := n3_; have HB := n4_; clear n0_ n1_ n2_ n3_ n4_))
 go_upto_if 38 with (fail)
 go_cut [] (fun wc => ∃ (kq : Nat) (x3_28 : List (List Int)), Aside0 (impl_delays.j2 kq l0 x3_28 x14_1 x29_2 l0 (l0.length : Int) x14_1 y113 (y113.length : Int) x29_2 ((rd_T57 l0 x14_1).f0) ((rd_T57 l0 x14_1).f1) ((rd_T57 l0 x14_1).f2) ((rd_T57 l0 x14_1).f3) ((rd_T57 l0 x14_1).f4) ((rd_T57 y113 x29_2).f0) ((rd_T57 y113 x29_2).f1) ((rd_T57 y113 x29_2).f2) ((rd_T57 y113 x29_2).f3) ((rd_T57 y113 x29_2).f4) = some r) ∧ Aside0 (kq ≤ k2) ∧ Aside0 (Kd.S (Kd.slice 3 (Kd.int .i64)) 34 wc w.heap.size (fun _ => True) (.slice (some ⟨go11, 0, none⟩) x3_2.length co11) x3_28) ∧ Aside0 (wc.heap[gb105]? = some (.cells #[.string ((rd_T57 l0 x14_1).f0), .int .i64 ((rd_T57 l0 x14_1).f1), .int .i64 ((rd_T57 l0 x14_1).f2), .int .i64 ((rd_T57 l0 x14_1).f3), .int .i64 ((rd_T57 l0 x14_1).f4)] 57 (0, 0))) ∧ Aside0 (wc.heap[gb118]? = some (.cells #[.string ((rd_T57 y113 x29_2).f0), .int .i64 ((rd_T57 y113 x29_2).f1), .int .i64 ((rd_T57 y113 x29_2).f2), .int .i64 ((rd_T57 y113 x29_2).f3), .int .i64 ((rd_T57 y113 x29_2).f4)] 57 (0, 0))) ∧ Aside0 (Below w.heap.size w wc))
 case first =>
   have H := HC29.out
   clear HC29
   by_cases c37 : t122 = true
   rotate_left
   · replace c37 := zbf c37
     subst c37
     have H1 : (impl_delays.j2 k2 l0 x3_2 x14_1 x29_2 l0 (l0.length : Int) x14_1 y113 (y113.length : Int) x29_2 ((rd_T57 l0 x14_1).f0) ((rd_T57 l0 x14_1).f1) ((rd_T57 l0 x14_1).f2) ((rd_T57 l0 x14_1).f3) ((rd_T57 l0 x14_1).f4) ((rd_T57 y113 x29_2).f0) ((rd_T57 y113 x29_2).f1) ((rd_T57 y113 x29_2).f2) ((rd_T57 y113 x29_2).f3) ((rd_T57 y113 x29_2).f4)) = some r := by rw [if_neg (show ¬ (false = true) by decide)] at H; exact H
     clear H
     have H := H1
     clear H1
     have H' := zA H
     clear H
     go_wp2
     go_meet
     case rel => exact ⟨_, (x3_2), H', ⟨by have := HK1.out; have := HK2.out; first | omega | exact zlr _⟩, ⟨by (try simp only [hl3_2]); (with_reducible repeat (first | apply zSa | apply zSn | apply zSd)); exact Kd.S_mono HO_3.out (fun _ hk => trivial)⟩, ⟨by (try simp only [hl3_2]); (with_reducible repeat (first | refine zkn ?_ _ | refine zkd ?_ | refine zka ?_ _)); exact BK105.out⟩, ⟨by (try simp only [hl3_2]); (with_reducible repeat (first | refine zkn ?_ _ | refine zkd ?_ | refine zka ?_ _)); exact BK118.out⟩, ⟨by repeat (first | (with_reducible first | exact HB.out | apply zba | apply zbn | apply zbd | refine below_set ?_ GE105.out | refine below_set ?_ GE118.out) | exact HB.out)⟩⟩
   subst c37
   have H1 : (if 0 ≤ x14_1 then (if x14_1 < (x3_2.length : Int) then (if x29_2 < ((rd_L4 x3_2 x14_1).length : Int) then (impl_delays.j2 k2 l0 (x3_2.set (x14_1 : Int).toNat ((rd_L4 x3_2 x14_1).set (x29_2 : Int).toNat 0)) x14_1 x29_2 l0 (l0.length : Int) x14_1 y113 (y113.length : Int) x29_2 ((rd_T57 l0 x14_1).f0) ((rd_T57 l0 x14_1).f1) ((rd_T57 l0 x14_1).f2) ((rd_T57 l0 x14_1).f3) ((rd_T57 l0 x14_1).f4) ((rd_T57 y113 x29_2).f0) ((rd_T57 y113 x29_2).f1) ((rd_T57 y113 x29_2).f2) ((rd_T57 y113 x29_2).f3) ((rd_T57 y113 x29_2).f4)) else (none)) else (none)) else (none)) = some r := by rw [if_pos rfl] at H; exact H
   clear H
   have H := H1
   clear H1
   by_cases c38 : 0 ≤ x14_1
   rotate_left
   · rw [if_neg c38] at H
     exact absurd H (by simp)
   rw [if_pos c38] at H
   have c38b0 : decide (0 ≤ x14_1) = true := zdt c38
   clear c38
   (first | rw [c38b0] | (simp only [i64_w, i32_w]; rw [c38b0]) | skip)
   by_cases c39 : x14_1 < (x3_2.length : Int)
   rotate_left
   · rw [if_neg c39] at H
     exact absurd H (by simp)
   rw [if_pos c39] at H
   have c39b0 : decide (x14_1 < (x3_2.length : Int)) = true := zdt c39
   clear c39
   by_cases c40 : x29_2 < ((rd_L4 x3_2 x14_1).length : Int)
   rotate_left
   · rw [if_neg c40] at H
     exact absurd H (by simp)
   rw [if_pos c40] at H
   have c40b0 : decide (x29_2 < ((rd_L4 x3_2 x14_1).length : Int)) = true := zdt c40
   clear c40
   obtain ⟨y124, hy124⟩ : ∃ y_ : List Int, y_ = ((rd_L4 x3_2 x14_1).set (x29_2 : Int).toNat 0) := ⟨_, rfl⟩
   replace H : (impl_delays.j2 k2 l0 (x3_2.set (x14_1 : Int).toNat y124) x14_1 x29_2 l0 (l0.length : Int) x14_1 y113 (y113.length : Int) x29_2 ((rd_T57 l0 x14_1).f0) ((rd_T57 l0 x14_1).f1) ((rd_T57 l0 x14_1).f2) ((rd_T57 l0 x14_1).f3) ((rd_T57 l0 x14_1).f4) ((rd_T57 y113 x29_2).f0) ((rd_T57 y113 x29_2).f1) ((rd_T57 y113 x29_2).f2) ((rd_T57 y113 x29_2).f3) ((rd_T57 y113 x29_2).f4)) = some r := by first | (rw [hy124]; with_reducible exact H) | (have H2_ := (Option.bind_some _ _).symm.trans H; rw [hy124]; with_reducible exact H2_) | (have H2_ := (Option.bind_some _ _).symm.trans H; with_reducible exact H2_) | with_reducible exact H | (rw [hy124]; exact H) | exact H
   have Ny124 := zA hy124
   clear hy124
   obtain ⟨y126, hy126⟩ : ∃ y_ : List (List Int), y_ = (x3_2.set (x14_1 : Int).toNat y124) := ⟨_, rfl⟩
   replace H : (impl_delays.j2 k2 l0 y126 x14_1 x29_2 l0 (l0.length : Int) x14_1 y113 (y113.length : Int) x29_2 ((rd_T57 l0 x14_1).f0) ((rd_T57 l0 x14_1).f1) ((rd_T57 l0 x14_1).f2) ((rd_T57 l0 x14_1).f3) ((rd_T57 l0 x14_1).f4) ((rd_T57 y113 x29_2).f0) ((rd_T57 y113 x29_2).f1) ((rd_T57 y113 x29_2).f2) ((rd_T57 y113 x29_2).f3) ((rd_T57 y113 x29_2).f4)) = some r := by first | (rw [hy126]; with_reducible exact H) | (have H2_ := (Option.bind_some _ _).symm.trans H; rw [hy126]; with_reducible exact H2_) | (have H2_ := (Option.bind_some _ _).symm.trans H; with_reducible exact H2_) | with_reducible exact H | (rw [hy126]; exact H) | exact H
   have Ny126 := zA hy126
   clear hy126
   have H' := zA H
   clear H
   have p123 : 0 ≤ (x14_1 : Int) := zde (by assumption)
   have q123 : x14_1 < (x3_2.length : Int) := zde (by assumption)
   obtain ⟨ad123, A123_0, c123_0, e123, hx123_0, hl123_0, hi123_0⟩ := at_L4 (zSr HO_3.out).2.2 x14_1 p123 q123
   obtain rfl : (⟨go11, 0, none⟩ : Addr) = ad123 := (by injection e123)
   obtain ⟨ce123, hce123, hMe123, hcc123⟩ := Kd.S_get HO_3.out [] x14_1 p123 (by first | exact q123 | exact zde (by assumption) | (have e_ := (zSr HO_3.out).1; omega))
   obtain ⟨ve123_0, rfl, ge123_0⟩ := hMe123
   have hv123_0 := hcc123 0 _ rfl
   rw [Nat.add_zero, show ((Kd.slice 3 (Kd.int .i64))).sz = 1 from rfl, Nat.mul_one] at hv123_0
   replace hv123_0 := zsi (hv123_0.symm.trans hx123_0)
   rw [hv123_0] at ge123_0
   have HL123_0 := zA (show Kd.R (Kd.int .i64) 3 _ _ _ _ (rd_L4 x3_2 x14_1) from ge123_0)
   clear hv123_0 ge123_0
   have HX123_0 := zA hx123_0
   clear hcc123 hce123
   (first | simp only [add_plain] at hx123_0 | simp only [add_at] at hx123_0 | simp only [Addr.add, Nat.zero_add] at hx123_0 | skip)
   have HR123_0 := zA hi123_0
   have HC123_0 := zA hl123_0
   clear hi123_0 hl123_0
   replace p123 := eq_true p123
   replace q123 := eq_true q123
   have p41 : 0 ≤ (x29_2 : Int) := zde (by assumption)
   have q41 : (x29_2 : Int) < (((rd_L4 x3_2 x14_1).length : Int) : Int) := zde (by assumption)
   obtain ⟨go41, co41, eo41, gb41, gl41, cl41, HG41⟩ := Kd.R_form HL123_0.out (by omega)
   (first | cases eo41 | (injection eo41 with ea_ en_ ec_; (first | subst ea_ | (injection ea_ with ea_; subst ea_)); subst ec_; clear en_))
   have GB41 := zA gb41
   have GG41 := zA HG41
   clear gb41 gl41 HG41
   obtain ⟨hx41_0, hf41_0⟩ := Kd.R_celln 0 HL123_0.out (x29_2 : Int) p41 q41
   replace p41 := eq_true p41
   replace q41 := eq_true q41
   have n_ := zA (Kd.S_mono (ok' := (fun k_ => some k_ ≠ (.slice Ao36 t119.length co36 : Value).ownBlock)) HO_3.out (fun k_ hk => hk.2))
   clear HO_3
   have HO_3 := n_
   clear n_
   have hq42 : (x14_1 : Int) < (x3_2.length : Int) := (by have h_ : (x14_1 : Int) < ((x3_2.length : Int) : Int) := zde (by assumption); first | exact h_ | (have e_ := (zSr HO_3.out).1; omega) | simpa only [List.length_set, List.length_set] using h_)
   obtain ⟨oki42, ce42, hcl42, hM42, hcc42, hok42, hbk42⟩ := Kd.S_borrow HO_3.out [] (x14_1 : Int) (zde (by assumption)) hq42
   obtain ⟨ve42_0, rfl, ge42_0⟩ := (id hM42)
   have hv42 := hcc42 0 _ rfl
   rw [Nat.add_zero, show ((Kd.slice 3 (Kd.int .i64))).sz = 1 from rfl, Nat.mul_one] at hv42
   replace hv42 := zsi (hv42.symm.trans HX123_0.out)
   subst hv42
   clear hcc42 hcl42
   replace ge42_0 := (show Kd.R (Kd.int .i64) 3 _ _ _ _ (rd_L4 x3_2 x14_1) from ge42_0)
   have HP42 := Kd.R_putg ge42_0 (x29_2 : Int) 0
   go_wp2_with (first | ((with_reducible refine gate_store (t := 3) (p := 44) rfl ?_); refine store_event (t := 3) (p := 44) (v := ?vo_w43) (w1 := (w35.setCell ⟨go41, (x29_2 : Int).toNat, none⟩ (.int .i64 0))) ?hg ?ho ?hn ?hr ?_; (case ho => rfl); (case hg => rfl); (case hn => rfl); (case hr => go_simp <;> rfl); intro w43 hw; have hg : w35.grownBy w43 (some go41) := (by rw [hw]; exact HP42.2); have hz_ : Kd.R (Kd.int .i64) 3 w43 w.heap.size oki42 (.slice (some ⟨go41, 0, none⟩) (rd_L4 x3_2 x14_1).length c123_0) y124 := (by rw [hw, Ny124.out]; exact HP42.1); have hp_ : Kd.S (Kd.slice 3 (Kd.int .i64)) 34 w43 w.heap.size (fun k_ => some k_ ≠ (.slice Ao36 t119.length co36 : Value).ownBlock) (.slice (some ⟨go11, 0, none⟩) x3_2.length co11) y126 := (by rw [Ny126.out]; exact hbk42 hg (fun k_ e_ => by injection e_ with e_; subst e_; exact ge42_0.1 _ rfl) (Kd.M_row hz_)); have hm_ := Kd.R_mono hz_ hok42; clear HP42 hbk42; have n0_ := zA (hp_); have n1_ := zA (blk_grown (g := gb105) (o := .cells #[.string ((rd_T57 l0 x14_1).f0), .int .i64 ((rd_T57 l0 x14_1).f1), .int .i64 ((rd_T57 l0 x14_1).f2), .int .i64 ((rd_T57 l0 x14_1).f3), .int .i64 ((rd_T57 l0 x14_1).f4)] 57 (0, 0)) (by (with_reducible repeat (first | refine zkn ?_ _ | refine zkd ?_ | refine zka ?_ _)); exact BK105.out) hg (Kd.R_ne HL123_0.out BK105.out (by decide))); have n2_ := zA (blk_grown (g := gb118) (o := .cells #[.string ((rd_T57 y113 x29_2).f0), .int .i64 ((rd_T57 y113 x29_2).f1), .int .i64 ((rd_T57 y113 x29_2).f2), .int .i64 ((rd_T57 y113 x29_2).f3), .int .i64 ((rd_T57 y113 x29_2).f4)] 57 (0, 0)) (by (with_reducible repeat (first | refine zkn ?_ _ | refine zkd ?_ | refine zka ?_ _)); exact BK118.out) hg (Kd.R_ne HL123_0.out BK118.out (by decide))); have n3_ := zA (Kd.R_grown1 (by (with_reducible repeat (first | apply zRa | apply zRn | apply zRd)); exact HO121.out) rfl hg ((HL123_0.out.1 _ rfl).1.2)); have n4_ := zA ((by rw [hw]; exact below_set (HB.out) GB41.out : Below w.heap.size w w43)); have n5_ := zA (hm_); have n6_ := zA ((zRr hm_).2.1); clear HO_3 BK105; clear BK118 HO121 HB; clear HL123_0; have HO_3 := n0_; have BK105 := n1_; have BK118 := n2_; have HO121 := n3_; have HB := n4_; have HL147 := n5_; have HC125 := n6_; clear n0_ n1_ n2_ n3_ n4_ n5_ n6_; clear hg hw hp_ hz_ hm_ hok42))
   go_meet
   case rel => exact ⟨_, (y126), H', ⟨by have := HK1.out; have := HK2.out; first | omega | exact zlr _⟩, ⟨by (try simp only [hl3_2]); (with_reducible repeat (first | apply zSa | apply zSn | apply zSd)); exact Kd.S_mono HO_3.out (fun _ hk => trivial)⟩, ⟨by (try simp only [hl3_2]); (with_reducible repeat (first | refine zkn ?_ _ | refine zkd ?_ | refine zka ?_ _)); exact BK105.out⟩, ⟨by (try simp only [hl3_2]); (with_reducible repeat (first | refine zkn ?_ _ | refine zkd ?_ | refine zka ?_ _)); exact BK118.out⟩, ⟨by repeat (first | (with_reducible first | exact HB.out | apply zba | apply zbn | apply zbd | refine below_set ?_ GE105.out | refine below_set ?_ GE118.out) | exact HB.out)⟩⟩
 clear HC29
 try clear c1
 try clear p1
 try clear q1
 try clear hx1
 try clear hf1
 try clear c2
 try clear c2b0
 try clear c2b1
 try clear p2
 try clear q2
 try clear hx2
 try clear hf2
 try clear c3
 try clear c3b0
 try clear c3b1
 try clear c4
 try clear p4
 try clear q4
 try clear hx4
 try clear hf4
 try clear c5
 try clear c6
 try clear c6b0
 try clear c7
 try clear c7b0
 try clear c8
 try clear c8b0
 try clear c10
 try clear c10b0
 try clear p10
 try clear q10
 try clear hx10
 try clear c11
 try clear p11
 try clear q11
 try clear hx11
 try clear hf11
 try clear c12
 try clear c12b0
 try clear p12
 try clear q12
 try clear hx12
 try clear c13
 try clear c13b0
 try clear c13b1
 try clear c21
 try clear hx21
 try clear hf21
 try clear q23
 try clear c24
 try clear c24b0
 try clear c25
 try clear c25b0
 try clear c26
 try clear c26b0
 try clear c31
 try clear c37
 try clear c38
 try clear c38b0
 try clear c39
 try clear c39b0
 try clear c40
 try clear c40b0
 try clear p41
 try clear q41
 try clear hx41
 try clear hf41
 try clear c42
 try clear q42
 try clear hcz15_0
 try clear hcz15_1
 try clear hcz15_2
 try clear hcz15_3
 try clear hcz15_4
 try clear hcz32_0
 try clear hcz32_1
 try clear hcz32_2
 try clear hcz32_3
 try clear hcz32_4
 try clear hfz15_0
 try clear hfz15_1
 try clear hfz15_2
 try clear hfz15_3
 try clear hfz15_4
 try clear hfz32_0
 try clear hfz32_1
 try clear hfz32_2
 try clear hfz32_3
 try clear hfz32_4
 try clear hx104_0
 try clear hx104_1
 try clear hx104_2
 try clear hx104_3
 try clear hx104_4
 try clear hx117_0
 try clear hx117_1
 try clear hx117_2
 try clear hx117_3
 try clear hx117_4
 try clear hx11_0
 try clear hx123_0
 try clear hx21_0
 try clear hx41_0
 try clear p1
 try clear p10
 try clear p104
 try clear p11
 try clear p117
 try clear p123
 try clear p2
 try clear p41
 try clear q1
 try clear q10
 try clear q104
 try clear q11
 try clear q117
 try clear q123
 try clear q2
 try clear q23
 try clear q41
 obtain ⟨kq, x3_28, HA, HJ28, HO_3, BK105, BK118, HB⟩ := hcut
 have hl3_28 := (zSr HO_3.out).1
 rw [hl3_28] at HO_3
 (try simp only [hl3_28])
 (try simp only [hl3_28] at BK105)
 (try simp only [hl3_28] at BK118)
 cases kq with
 | zero => exact absurd HA.out (by simp [impl_delays.j2])
 | succ kj28 =>
 have H := HA.out
 clear HA
 simp only [impl_delays.j2] at H
 have HC44 := zA H
 clear H
 have hnb45 := NB118_105.out
 have hnc45 := NB105_118.out
 obtain ⟨hcz46_0, hcz46_1, hcz46_2, hcz46_3, hcz46_4⟩ := zc5 wc (.string ((rd_T57 y113 x29_2).f0)) (.int .i64 ((rd_T57 y113 x29_2).f1)) (.int .i64 ((rd_T57 y113 x29_2).f2)) (.int .i64 ((rd_T57 y113 x29_2).f3)) (.int .i64 ((rd_T57 y113 x29_2).f4)) BK118.out
 obtain ⟨hfz46_0, hfz46_1, hfz46_2, hfz46_3, hfz46_4⟩ := zf5 BK118.out
 obtain ⟨hcz47_0, hcz47_1, hcz47_2, hcz47_3, hcz47_4⟩ := zc5 wc (.string ((rd_T57 l0 x14_1).f0)) (.int .i64 ((rd_T57 l0 x14_1).f1)) (.int .i64 ((rd_T57 l0 x14_1).f2)) (.int .i64 ((rd_T57 l0 x14_1).f3)) (.int .i64 ((rd_T57 l0 x14_1).f4)) BK105.out
 obtain ⟨hfz47_0, hfz47_1, hfz47_2, hfz47_3, hfz47_4⟩ := zf5 BK105.out
 go_upto_if 49 with (fail)
 go_cut [] (fun wc => ∃ (kq : Nat) (x3_43 : List (List Int)), Aside0 (impl_delays.j3 kq l0 x3_43 x14_1 x29_2 l0 (l0.length : Int) x14_1 y113 (y113.length : Int) x29_2 ((rd_T57 l0 x14_1).f0) ((rd_T57 l0 x14_1).f1) ((rd_T57 l0 x14_1).f2) ((rd_T57 l0 x14_1).f3) ((rd_T57 l0 x14_1).f4) ((rd_T57 y113 x29_2).f0) ((rd_T57 y113 x29_2).f1) ((rd_T57 y113 x29_2).f2) ((rd_T57 y113 x29_2).f3) ((rd_T57 y113 x29_2).f4) = some r) ∧ Aside0 (kq ≤ kj28) ∧ Aside0 (Kd.S (Kd.slice 3 (Kd.int .i64)) 34 wc w.heap.size (fun _ => True) (.slice (some ⟨go11, 0, none⟩) x3_28.length co11) x3_43) ∧ Aside0 (wc.heap[gb105]? = some (.cells #[.string ((rd_T57 l0 x14_1).f0), .int .i64 ((rd_T57 l0 x14_1).f1), .int .i64 ((rd_T57 l0 x14_1).f2), .int .i64 ((rd_T57 l0 x14_1).f3), .int .i64 ((rd_T57 l0 x14_1).f4)] 57 (0, 0))) ∧ Aside0 (wc.heap[gb118]? = some (.cells #[.string ((rd_T57 y113 x29_2).f0), .int .i64 ((rd_T57 y113 x29_2).f1), .int .i64 ((rd_T57 y113 x29_2).f2), .int .i64 ((rd_T57 y113 x29_2).f3), .int .i64 ((rd_T57 y113 x29_2).f4)] 57 (0, 0))) ∧ Aside0 (Below w.heap.size w wc))
 case first =>
   have H := HC44.out
   clear HC44
   by_cases c48 : ((rd_T57 y113 x29_2).f1) = ((rd_T57 l0 x14_1).f1)
   rotate_left
   · rw [if_neg c48] at H
     have c48b0 : (((rd_T57 y113 x29_2).f1) == ((rd_T57 l0 x14_1).f1)) = false := beq_eq_false_iff_ne.mpr c48
     have c48b1 : (((rd_T57 y113 x29_2).f1) != ((rd_T57 l0 x14_1).f1)) = true := bne_iff_ne.mpr c48
     (first | rw [c48b0] | (simp only [i64_w, i32_w]; rw [c48b0]) | skip)
     have H' := zA H
     clear H
     go_wp2
     go_meet
     case rel => exact ⟨_, (x3_28), H', ⟨by have := HK1.out; have := HK2.out; have := HJ28.out; first | omega | exact zlr _⟩, ⟨by (try simp only [hl3_2]); (try simp only [hl3_28]); (with_reducible repeat (first | apply zSa | apply zSn | apply zSd)); exact HO_3.out⟩, ⟨by (try simp only [hl3_2]); (try simp only [hl3_28]); (with_reducible repeat (first | refine zkn ?_ _ | refine zkd ?_ | refine zka ?_ _)); exact BK105.out⟩, ⟨by (try simp only [hl3_2]); (try simp only [hl3_28]); (with_reducible repeat (first | refine zkn ?_ _ | refine zkd ?_ | refine zka ?_ _)); exact BK118.out⟩, ⟨by repeat (first | (with_reducible first | exact HB.out | apply zba | apply zbn | apply zbd | refine below_set ?_ GE105.out | refine below_set ?_ GE118.out) | exact HB.out)⟩⟩
   rw [if_pos c48] at H
   have c48b0 : (((rd_T57 y113 x29_2).f1) == ((rd_T57 l0 x14_1).f1)) = true := beq_iff_eq.mpr c48
   have c48b1 : (((rd_T57 y113 x29_2).f1) != ((rd_T57 l0 x14_1).f1)) = false := bne_eq_false_iff_eq.mpr c48
   clear c48
   (first | rw [c48b0] | (simp only [i64_w, i32_w]; rw [c48b0]) | skip)
   by_cases c49 : 0 ≤ x14_1
   rotate_left
   · rw [if_neg c49] at H
     exact absurd H (by simp)
   rw [if_pos c49] at H
   have c49b0 : decide (0 ≤ x14_1) = true := zdt c49
   clear c49
   by_cases c50 : x14_1 < (x3_28.length : Int)
   rotate_left
   · rw [if_neg c50] at H
     exact absurd H (by simp)
   rw [if_pos c50] at H
   have c50b0 : decide (x14_1 < (x3_28.length : Int)) = true := zdt c50
   clear c50
   by_cases c51 : 0 ≤ x29_2
   rotate_left
   · rw [if_neg c51] at H
     exact absurd H (by simp)
   rw [if_pos c51] at H
   have c51b0 : decide (0 ≤ x29_2) = true := zdt c51
   clear c51
   by_cases c52 : x29_2 < ((rd_L4 x3_28 x14_1).length : Int)
   rotate_left
   · rw [if_neg c52] at H
     exact absurd H (by simp)
   rw [if_pos c52] at H
   have c52b0 : decide (x29_2 < ((rd_L4 x3_28 x14_1).length : Int)) = true := zdt c52
   clear c52
   obtain ⟨y128, hy128⟩ : ∃ y_ : List Int, y_ = ((rd_L4 x3_28 x14_1).set (x29_2 : Int).toNat 1) := ⟨_, rfl⟩
   replace H : (impl_delays.j3 kj28 l0 (x3_28.set (x14_1 : Int).toNat y128) x14_1 x29_2 l0 (l0.length : Int) x14_1 y113 (y113.length : Int) x29_2 ((rd_T57 l0 x14_1).f0) ((rd_T57 l0 x14_1).f1) ((rd_T57 l0 x14_1).f2) ((rd_T57 l0 x14_1).f3) ((rd_T57 l0 x14_1).f4) ((rd_T57 y113 x29_2).f0) ((rd_T57 y113 x29_2).f1) ((rd_T57 y113 x29_2).f2) ((rd_T57 y113 x29_2).f3) ((rd_T57 y113 x29_2).f4)) = some r := by first | (rw [hy128]; with_reducible exact H) | (have H2_ := (Option.bind_some _ _).symm.trans H; rw [hy128]; with_reducible exact H2_) | (have H2_ := (Option.bind_some _ _).symm.trans H; with_reducible exact H2_) | with_reducible exact H | (rw [hy128]; exact H) | exact H
   have Ny128 := zA hy128
   clear hy128
   obtain ⟨y130, hy130⟩ : ∃ y_ : List (List Int), y_ = (x3_28.set (x14_1 : Int).toNat y128) := ⟨_, rfl⟩
   replace H : (impl_delays.j3 kj28 l0 y130 x14_1 x29_2 l0 (l0.length : Int) x14_1 y113 (y113.length : Int) x29_2 ((rd_T57 l0 x14_1).f0) ((rd_T57 l0 x14_1).f1) ((rd_T57 l0 x14_1).f2) ((rd_T57 l0 x14_1).f3) ((rd_T57 l0 x14_1).f4) ((rd_T57 y113 x29_2).f0) ((rd_T57 y113 x29_2).f1) ((rd_T57 y113 x29_2).f2) ((rd_T57 y113 x29_2).f3) ((rd_T57 y113 x29_2).f4)) = some r := by first | (rw [hy130]; with_reducible exact H) | (have H2_ := (Option.bind_some _ _).symm.trans H; rw [hy130]; with_reducible exact H2_) | (have H2_ := (Option.bind_some _ _).symm.trans H; with_reducible exact H2_) | with_reducible exact H | (rw [hy130]; exact H) | exact H
   have Ny130 := zA hy130
   clear hy130
   have H' := zA H
   clear H
   have p127 : 0 ≤ (x14_1 : Int) := zde (by assumption)
   have q127 : x14_1 < (x3_28.length : Int) := zde (by assumption)
   obtain ⟨ad127, A127_0, c127_0, e127, hx127_0, hl127_0, hi127_0⟩ := at_L4 (zSr HO_3.out).2.2 x14_1 p127 q127
   obtain rfl : (⟨go11, 0, none⟩ : Addr) = ad127 := (by injection e127)
   obtain ⟨ce127, hce127, hMe127, hcc127⟩ := Kd.S_get HO_3.out [] x14_1 p127 (by first | exact q127 | exact zde (by assumption) | (have e_ := (zSr HO_3.out).1; omega))
   obtain ⟨ve127_0, rfl, ge127_0⟩ := hMe127
   have hv127_0 := hcc127 0 _ rfl
   rw [Nat.add_zero, show ((Kd.slice 3 (Kd.int .i64))).sz = 1 from rfl, Nat.mul_one] at hv127_0
   replace hv127_0 := zsi (hv127_0.symm.trans hx127_0)
   rw [hv127_0] at ge127_0
   have HL127_0 := zA (show Kd.R (Kd.int .i64) 3 _ _ _ _ (rd_L4 x3_28 x14_1) from ge127_0)
   clear hv127_0 ge127_0
   have HX127_0 := zA hx127_0
   clear hcc127 hce127
   (first | simp only [add_plain] at hx127_0 | simp only [add_at] at hx127_0 | simp only [Addr.add, Nat.zero_add] at hx127_0 | skip)
   have HR127_0 := zA hi127_0
   have HC127_0 := zA hl127_0
   clear hi127_0 hl127_0
   replace p127 := eq_true p127
   replace q127 := eq_true q127
   have p53 : 0 ≤ (x29_2 : Int) := zde (by assumption)
   have q53 : (x29_2 : Int) < (((rd_L4 x3_28 x14_1).length : Int) : Int) := zde (by assumption)
   obtain ⟨go53, co53, eo53, gb53, gl53, cl53, HG53⟩ := Kd.R_form HL127_0.out (by omega)
   (first | cases eo53 | (injection eo53 with ea_ en_ ec_; (first | subst ea_ | (injection ea_ with ea_; subst ea_)); subst ec_; clear en_))
   have GB53 := zA gb53
   have GG53 := zA HG53
   clear gb53 gl53 HG53
   obtain ⟨hx53_0, hf53_0⟩ := Kd.R_celln 0 HL127_0.out (x29_2 : Int) p53 q53
   replace p53 := eq_true p53
   replace q53 := eq_true q53
   have hq54 : (x14_1 : Int) < (x3_28.length : Int) := (by have h_ : (x14_1 : Int) < ((x3_28.length : Int) : Int) := zde (by assumption); first | exact h_ | (have e_ := (zSr HO_3.out).1; omega) | simpa only [List.length_set, List.length_set] using h_)
   obtain ⟨oki54, ce54, hcl54, hM54, hcc54, hok54, hbk54⟩ := Kd.S_borrow HO_3.out [] (x14_1 : Int) (zde (by assumption)) hq54
   obtain ⟨ve54_0, rfl, ge54_0⟩ := (id hM54)
   have hv54 := hcc54 0 _ rfl
   rw [Nat.add_zero, show ((Kd.slice 3 (Kd.int .i64))).sz = 1 from rfl, Nat.mul_one] at hv54
   replace hv54 := zsi (hv54.symm.trans HX127_0.out)
   subst hv54
   clear hcc54 hcl54
   replace ge54_0 := (show Kd.R (Kd.int .i64) 3 _ _ _ _ (rd_L4 x3_28 x14_1) from ge54_0)
   have HP54 := Kd.R_putg ge54_0 (x29_2 : Int) 1
   go_wp2_with (first | ((with_reducible refine gate_store (t := 3) (p := 55) rfl ?_); refine store_event (t := 3) (p := 55) (v := ?vo_w55) (w1 := (wc.setCell ⟨go53, (x29_2 : Int).toNat, none⟩ (.int .i64 1))) ?hg ?ho ?hn ?hr ?_; (case ho => rfl); (case hg => rfl); (case hn => rfl); (case hr => go_simp <;> rfl); intro w55 hw; have hg : wc.grownBy w55 (some go53) := (by rw [hw]; exact HP54.2); have hz_ : Kd.R (Kd.int .i64) 3 w55 w.heap.size oki54 (.slice (some ⟨go53, 0, none⟩) (rd_L4 x3_28 x14_1).length c127_0) y128 := (by rw [hw, Ny128.out]; exact HP54.1); have hp_ : Kd.S (Kd.slice 3 (Kd.int .i64)) 34 w55 w.heap.size (fun _ => True) (.slice (some ⟨go11, 0, none⟩) x3_28.length co11) y130 := (by rw [Ny130.out]; exact hbk54 hg (fun k_ e_ => by injection e_ with e_; subst e_; exact ge54_0.1 _ rfl) (Kd.M_row hz_)); have hm_ := Kd.R_mono hz_ hok54; clear HP54 hbk54; have n0_ := zA (hp_); have n1_ := zA (blk_grown (g := gb105) (o := .cells #[.string ((rd_T57 l0 x14_1).f0), .int .i64 ((rd_T57 l0 x14_1).f1), .int .i64 ((rd_T57 l0 x14_1).f2), .int .i64 ((rd_T57 l0 x14_1).f3), .int .i64 ((rd_T57 l0 x14_1).f4)] 57 (0, 0)) (by (with_reducible repeat (first | refine zkn ?_ _ | refine zkd ?_ | refine zka ?_ _)); exact BK105.out) hg (Kd.R_ne HL127_0.out BK105.out (by decide))); have n2_ := zA (blk_grown (g := gb118) (o := .cells #[.string ((rd_T57 y113 x29_2).f0), .int .i64 ((rd_T57 y113 x29_2).f1), .int .i64 ((rd_T57 y113 x29_2).f2), .int .i64 ((rd_T57 y113 x29_2).f3), .int .i64 ((rd_T57 y113 x29_2).f4)] 57 (0, 0)) (by (with_reducible repeat (first | refine zkn ?_ _ | refine zkd ?_ | refine zka ?_ _)); exact BK118.out) hg (Kd.R_ne HL127_0.out BK118.out (by decide))); have n3_ := zA ((by rw [hw]; exact below_set (HB.out) GB53.out : Below w.heap.size w w55)); have n4_ := zA (hm_); have n5_ := zA ((zRr hm_).2.1); clear HO_3 BK105; clear BK118 HB; clear HL127_0; have HO_3 := n0_; have BK105 := n1_; have BK118 := n2_; have HB := n3_; have HL148 := n4_; have HC129 := n5_; clear n0_ n1_ n2_ n3_ n4_ n5_; clear hg hw hp_ hz_ hm_ hok54))
   go_meet
   case rel => exact ⟨_, (y130), H', ⟨by have := HK1.out; have := HK2.out; have := HJ28.out; first | omega | exact zlr _⟩, ⟨by (try simp only [hl3_2]); (try simp only [hl3_28]); (with_reducible repeat (first | apply zSa | apply zSn | apply zSd)); exact HO_3.out⟩, ⟨by (try simp only [hl3_2]); (try simp only [hl3_28]); (with_reducible repeat (first | refine zkn ?_ _ | refine zkd ?_ | refine zka ?_ _)); exact BK105.out⟩, ⟨by (try simp only [hl3_2]); (try simp only [hl3_28]); (with_reducible repeat (first | refine zkn ?_ _ | refine zkd ?_ | refine zka ?_ _)); exact BK118.out⟩, ⟨by repeat (first | (with_reducible first | exact HB.out | apply zba | apply zbn | apply zbd | refine below_set ?_ GE105.out | refine below_set ?_ GE118.out) | exact HB.out)⟩⟩
 clear HC44
 try clear c1
 try clear p1
 try clear q1
 try clear hx1
 try clear hf1
 try clear c2
 try clear c2b0
 try clear c2b1
 try clear p2
 try clear q2
 try clear hx2
 try clear hf2
 try clear c3
 try clear c3b0
 try clear c3b1
 try clear c4
 try clear p4
 try clear q4
 try clear hx4
 try clear hf4
 try clear c5
 try clear p5
 try clear q5
 try clear hx5
 try clear hf5
 try clear c6
 try clear c6b0
 try clear c7
 try clear c7b0
 try clear c8
 try clear c8b0
 try clear c10
 try clear c10b0
 try clear p10
 try clear q10
 try clear hx10
 try clear c11
 try clear p11
 try clear q11
 try clear hx11
 try clear hf11
 try clear c12
 try clear c12b0
 try clear p12
 try clear q12
 try clear hx12
 try clear c13
 try clear c13b0
 try clear c13b1
 try clear c21
 try clear hx21
 try clear hf21
 try clear q23
 try clear c24
 try clear c24b0
 try clear c25
 try clear c25b0
 try clear c26
 try clear c26b0
 try clear c31
 try clear c37
 try clear c38
 try clear c38b0
 try clear c39
 try clear c39b0
 try clear c40
 try clear c40b0
 try clear p41
 try clear q41
 try clear hx41
 try clear hf41
 try clear c42
 try clear q42
 try clear c45
 try clear c48
 try clear c48b0
 try clear c48b1
 try clear c49
 try clear c49b0
 try clear c50
 try clear c50b0
 try clear c51
 try clear c51b0
 try clear c52
 try clear c52b0
 try clear p53
 try clear q53
 try clear hx53
 try clear hf53
 try clear c54
 try clear q54
 try clear hcz15_0
 try clear hcz15_1
 try clear hcz15_2
 try clear hcz15_3
 try clear hcz15_4
 try clear hcz32_0
 try clear hcz32_1
 try clear hcz32_2
 try clear hcz32_3
 try clear hcz32_4
 try clear hcz46_0
 try clear hcz46_1
 try clear hcz46_2
 try clear hcz46_3
 try clear hcz46_4
 try clear hcz47_0
 try clear hcz47_1
 try clear hcz47_2
 try clear hcz47_3
 try clear hcz47_4
 try clear hfz15_0
 try clear hfz15_1
 try clear hfz15_2
 try clear hfz15_3
 try clear hfz15_4
 try clear hfz32_0
 try clear hfz32_1
 try clear hfz32_2
 try clear hfz32_3
 try clear hfz32_4
 try clear hfz46_0
 try clear hfz46_1
 try clear hfz46_2
 try clear hfz46_3
 try clear hfz46_4
 try clear hfz47_0
 try clear hfz47_1
 try clear hfz47_2
 try clear hfz47_3
 try clear hfz47_4
 try clear hx104_0
 try clear hx104_1
 try clear hx104_2
 try clear hx104_3
 try clear hx104_4
 try clear hx117_0
 try clear hx117_1
 try clear hx117_2
 try clear hx117_3
 try clear hx117_4
 try clear hx11_0
 try clear hx123_0
 try clear hx127_0
 try clear hx21_0
 try clear hx41_0
 try clear hx53_0
 try clear p1
 try clear p10
 try clear p104
 try clear p11
 try clear p117
 try clear p12
 try clear p123
 try clear p127
 try clear p2
 try clear p4
 try clear p41
 try clear p53
 try clear q1
 try clear q10
 try clear q104
 try clear q11
 try clear q117
 try clear q12
 try clear q123
 try clear q127
 try clear q2
 try clear q23
 try clear q4
 try clear q41
 try clear q42
 try clear q53
 obtain ⟨kq, x3_43, HA, HJ43, HO_3, BK105, BK118, HB⟩ := hcut
 have hl3_43 := (zSr HO_3.out).1
 rw [hl3_43] at HO_3
 (try simp only [hl3_43])
 (try simp only [hl3_43] at BK105)
 (try simp only [hl3_43] at BK118)
 cases kq with
 | zero => exact absurd HA.out (by simp [impl_delays.j3])
 | succ kj43 =>
 have H := HA.out
 clear HA
 simp only [impl_delays.j3] at H
 obtain ⟨ji56, hji56⟩ : ∃ j_ : Int, (wrap64 (x29_2 + 1)) = j_ := ⟨_, rfl⟩
 replace H : (if 0 ≤ (ji56) then (if (ji56) ≤ x14_1 then (if x14_1 ≤ (l0.length : Int) then ((slices_ContainsFunc_impl_delays_1.f kj43 ((l0.take (x14_1 : Int).toNat).drop ((ji56) : Int).toNat) [(⟨((rd_T57 y113 x29_2).f0), ((rd_T57 y113 x29_2).f1), ((rd_T57 y113 x29_2).f2), ((rd_T57 y113 x29_2).f3), ((rd_T57 y113 x29_2).f4)⟩ : S57)]).bind fun t135 => ((impl_Instr_reads.f kj43 ((rd_T57 l0 x14_1).f0) ((rd_T57 l0 x14_1).f1) ((rd_T57 l0 x14_1).f2) ((rd_T57 l0 x14_1).f3) ((rd_T57 l0 x14_1).f4)).bind fun t136 => ((slices_Contains_int_int.f kj43 t136 ((rd_T57 y113 x29_2).f1)).bind fun t139 => (if t139 = true then (if t135 = true then (impl_delays.l1 kj43 l0 x3_43 x14_1 l0 (l0.length : Int) x14_1 y113 (y113.length : Int) ji56 ((rd_T57 l0 x14_1).f0) ((rd_T57 l0 x14_1).f1) ((rd_T57 l0 x14_1).f2) ((rd_T57 l0 x14_1).f3) ((rd_T57 l0 x14_1).f4)) else (if 0 ≤ x14_1 then (if x14_1 < (x3_43.length : Int) then (if 0 ≤ x29_2 then (if x29_2 < ((rd_L4 x3_43 x14_1).length : Int) then ((impl_Instr_cost.f ((rd_T57 y113 x29_2).f0) ((rd_T57 y113 x29_2).f1) ((rd_T57 y113 x29_2).f2) ((rd_T57 y113 x29_2).f3) ((rd_T57 y113 x29_2).f4)).bind fun t143 => (impl_delays.l1 kj43 l0 (x3_43.set (x14_1 : Int).toNat ((rd_L4 x3_43 x14_1).set (x29_2 : Int).toNat (mx (rd (rd_L4 x3_43 x14_1) x29_2) t143))) x14_1 l0 (l0.length : Int) x14_1 y113 (y113.length : Int) ji56 ((rd_T57 l0 x14_1).f0) ((rd_T57 l0 x14_1).f1) ((rd_T57 l0 x14_1).f2) ((rd_T57 l0 x14_1).f3) ((rd_T57 l0 x14_1).f4))) else (none)) else (none)) else (none)) else (none))) else (impl_delays.l1 kj43 l0 x3_43 x14_1 l0 (l0.length : Int) x14_1 y113 (y113.length : Int) ji56 ((rd_T57 l0 x14_1).f0) ((rd_T57 l0 x14_1).f1) ((rd_T57 l0 x14_1).f2) ((rd_T57 l0 x14_1).f3) ((rd_T57 l0 x14_1).f4)))))) else (none)) else (none)) else (none)) = some r := by first | (rw [hji56] at H; exact H) | (simp only [hji56] at H ⊢; exact H)
 have hji56w : (IntKind.i64.wrap (x29_2 + 1)) = ji56 := (i64_w _).trans hji56
 by_cases c57 : 0 ≤ (ji56)
 rotate_left
 · rw [if_neg c57] at H
   exact absurd H (by simp)
 rw [if_pos c57] at H
 have c57b0 := eq_true c57
 have c57b1 : decide (0 ≤ (ji56)) = true := zdt c57
 clear c57
 by_cases c58 : (ji56) ≤ x14_1
 rotate_left
 · rw [if_neg c58] at H
   exact absurd H (by simp)
 rw [if_pos c58] at H
 have c58b0 := eq_true c58
 have c58b1 : decide ((ji56) ≤ x14_1) = true := zdt c58
 clear c58
 by_cases c59 : x14_1 ≤ (l0.length : Int)
 rotate_left
 · rw [if_neg c59] at H
   exact absurd H (by simp)
 rw [if_pos c59] at H
 have c59b0 := eq_true c59
 have c59b1 : decide (x14_1 ≤ (l0.length : Int)) = true := zdt c59
 clear c59
 obtain ⟨y131, hy131⟩ : ∃ y_ : List (S57), y_ = ((l0.take (x14_1 : Int).toNat).drop ((ji56) : Int).toNat) := ⟨_, rfl⟩
 replace H : ((slices_ContainsFunc_impl_delays_1.f kj43 y131 [(⟨((rd_T57 y113 x29_2).f0), ((rd_T57 y113 x29_2).f1), ((rd_T57 y113 x29_2).f2), ((rd_T57 y113 x29_2).f3), ((rd_T57 y113 x29_2).f4)⟩ : S57)]).bind fun t135 => ((impl_Instr_reads.f kj43 ((rd_T57 l0 x14_1).f0) ((rd_T57 l0 x14_1).f1) ((rd_T57 l0 x14_1).f2) ((rd_T57 l0 x14_1).f3) ((rd_T57 l0 x14_1).f4)).bind fun t136 => ((slices_Contains_int_int.f kj43 t136 ((rd_T57 y113 x29_2).f1)).bind fun t139 => (if t139 = true then (if t135 = true then (impl_delays.l1 kj43 l0 x3_43 x14_1 l0 (l0.length : Int) x14_1 y113 (y113.length : Int) ji56 ((rd_T57 l0 x14_1).f0) ((rd_T57 l0 x14_1).f1) ((rd_T57 l0 x14_1).f2) ((rd_T57 l0 x14_1).f3) ((rd_T57 l0 x14_1).f4)) else (if 0 ≤ x14_1 then (if x14_1 < (x3_43.length : Int) then (if 0 ≤ x29_2 then (if x29_2 < ((rd_L4 x3_43 x14_1).length : Int) then ((impl_Instr_cost.f ((rd_T57 y113 x29_2).f0) ((rd_T57 y113 x29_2).f1) ((rd_T57 y113 x29_2).f2) ((rd_T57 y113 x29_2).f3) ((rd_T57 y113 x29_2).f4)).bind fun t143 => (impl_delays.l1 kj43 l0 (x3_43.set (x14_1 : Int).toNat ((rd_L4 x3_43 x14_1).set (x29_2 : Int).toNat (mx (rd (rd_L4 x3_43 x14_1) x29_2) t143))) x14_1 l0 (l0.length : Int) x14_1 y113 (y113.length : Int) ji56 ((rd_T57 l0 x14_1).f0) ((rd_T57 l0 x14_1).f1) ((rd_T57 l0 x14_1).f2) ((rd_T57 l0 x14_1).f3) ((rd_T57 l0 x14_1).f4))) else (none)) else (none)) else (none)) else (none))) else (impl_delays.l1 kj43 l0 x3_43 x14_1 l0 (l0.length : Int) x14_1 y113 (y113.length : Int) ji56 ((rd_T57 l0 x14_1).f0) ((rd_T57 l0 x14_1).f1) ((rd_T57 l0 x14_1).f2) ((rd_T57 l0 x14_1).f3) ((rd_T57 l0 x14_1).f4)))))) = some r := by first | (rw [hy131]; with_reducible exact H) | (have H2_ := (Option.bind_some _ _).symm.trans H; rw [hy131]; with_reducible exact H2_) | (have H2_ := (Option.bind_some _ _).symm.trans H; with_reducible exact H2_) | with_reducible exact H | (rw [hy131]; exact H) | exact H
 have Ny131 := zA hy131
 clear hy131
 replace H := zob H
 obtain ⟨t135, A600, H⟩ := H
 replace H : ((impl_Instr_reads.f kj43 ((rd_T57 l0 x14_1).f0) ((rd_T57 l0 x14_1).f1) ((rd_T57 l0 x14_1).f2) ((rd_T57 l0 x14_1).f3) ((rd_T57 l0 x14_1).f4)).bind fun t136 => ((slices_Contains_int_int.f kj43 t136 ((rd_T57 y113 x29_2).f1)).bind fun t139 => (if t139 = true then (if t135 = true then (impl_delays.l1 kj43 l0 x3_43 x14_1 l0 (l0.length : Int) x14_1 y113 (y113.length : Int) ji56 ((rd_T57 l0 x14_1).f0) ((rd_T57 l0 x14_1).f1) ((rd_T57 l0 x14_1).f2) ((rd_T57 l0 x14_1).f3) ((rd_T57 l0 x14_1).f4)) else (if 0 ≤ x14_1 then (if x14_1 < (x3_43.length : Int) then (if 0 ≤ x29_2 then (if x29_2 < ((rd_L4 x3_43 x14_1).length : Int) then ((impl_Instr_cost.f ((rd_T57 y113 x29_2).f0) ((rd_T57 y113 x29_2).f1) ((rd_T57 y113 x29_2).f2) ((rd_T57 y113 x29_2).f3) ((rd_T57 y113 x29_2).f4)).bind fun t143 => (impl_delays.l1 kj43 l0 (x3_43.set (x14_1 : Int).toNat ((rd_L4 x3_43 x14_1).set (x29_2 : Int).toNat (mx (rd (rd_L4 x3_43 x14_1) x29_2) t143))) x14_1 l0 (l0.length : Int) x14_1 y113 (y113.length : Int) ji56 ((rd_T57 l0 x14_1).f0) ((rd_T57 l0 x14_1).f1) ((rd_T57 l0 x14_1).f2) ((rd_T57 l0 x14_1).f3) ((rd_T57 l0 x14_1).f4))) else (none)) else (none)) else (none)) else (none))) else (impl_delays.l1 kj43 l0 x3_43 x14_1 l0 (l0.length : Int) x14_1 y113 (y113.length : Int) ji56 ((rd_T57 l0 x14_1).f0) ((rd_T57 l0 x14_1).f1) ((rd_T57 l0 x14_1).f2) ((rd_T57 l0 x14_1).f3) ((rd_T57 l0 x14_1).f4))))) = some r := H
 have A60 := zA A600
 clear A600
 replace H := zob H
 obtain ⟨t136, A610, H⟩ := H
 replace H : ((slices_Contains_int_int.f kj43 t136 ((rd_T57 y113 x29_2).f1)).bind fun t139 => (if t139 = true then (if t135 = true then (impl_delays.l1 kj43 l0 x3_43 x14_1 l0 (l0.length : Int) x14_1 y113 (y113.length : Int) ji56 ((rd_T57 l0 x14_1).f0) ((rd_T57 l0 x14_1).f1) ((rd_T57 l0 x14_1).f2) ((rd_T57 l0 x14_1).f3) ((rd_T57 l0 x14_1).f4)) else (if 0 ≤ x14_1 then (if x14_1 < (x3_43.length : Int) then (if 0 ≤ x29_2 then (if x29_2 < ((rd_L4 x3_43 x14_1).length : Int) then ((impl_Instr_cost.f ((rd_T57 y113 x29_2).f0) ((rd_T57 y113 x29_2).f1) ((rd_T57 y113 x29_2).f2) ((rd_T57 y113 x29_2).f3) ((rd_T57 y113 x29_2).f4)).bind fun t143 => (impl_delays.l1 kj43 l0 (x3_43.set (x14_1 : Int).toNat ((rd_L4 x3_43 x14_1).set (x29_2 : Int).toNat (mx (rd (rd_L4 x3_43 x14_1) x29_2) t143))) x14_1 l0 (l0.length : Int) x14_1 y113 (y113.length : Int) ji56 ((rd_T57 l0 x14_1).f0) ((rd_T57 l0 x14_1).f1) ((rd_T57 l0 x14_1).f2) ((rd_T57 l0 x14_1).f3) ((rd_T57 l0 x14_1).f4))) else (none)) else (none)) else (none)) else (none))) else (impl_delays.l1 kj43 l0 x3_43 x14_1 l0 (l0.length : Int) x14_1 y113 (y113.length : Int) ji56 ((rd_T57 l0 x14_1).f0) ((rd_T57 l0 x14_1).f1) ((rd_T57 l0 x14_1).f2) ((rd_T57 l0 x14_1).f3) ((rd_T57 l0 x14_1).f4)))) = some r := H
 have A61 := zA A610
 clear A610
 replace H := zob H
 obtain ⟨t139, A620, H⟩ := H
 replace H : (if t139 = true then (if t135 = true then (impl_delays.l1 kj43 l0 x3_43 x14_1 l0 (l0.length : Int) x14_1 y113 (y113.length : Int) ji56 ((rd_T57 l0 x14_1).f0) ((rd_T57 l0 x14_1).f1) ((rd_T57 l0 x14_1).f2) ((rd_T57 l0 x14_1).f3) ((rd_T57 l0 x14_1).f4)) else (if 0 ≤ x14_1 then (if x14_1 < (x3_43.length : Int) then (if 0 ≤ x29_2 then (if x29_2 < ((rd_L4 x3_43 x14_1).length : Int) then ((impl_Instr_cost.f ((rd_T57 y113 x29_2).f0) ((rd_T57 y113 x29_2).f1) ((rd_T57 y113 x29_2).f2) ((rd_T57 y113 x29_2).f3) ((rd_T57 y113 x29_2).f4)).bind fun t143 => (impl_delays.l1 kj43 l0 (x3_43.set (x14_1 : Int).toNat ((rd_L4 x3_43 x14_1).set (x29_2 : Int).toNat (mx (rd (rd_L4 x3_43 x14_1) x29_2) t143))) x14_1 l0 (l0.length : Int) x14_1 y113 (y113.length : Int) ji56 ((rd_T57 l0 x14_1).f0) ((rd_T57 l0 x14_1).f1) ((rd_T57 l0 x14_1).f2) ((rd_T57 l0 x14_1).f3) ((rd_T57 l0 x14_1).f4))) else (none)) else (none)) else (none)) else (none))) else (impl_delays.l1 kj43 l0 x3_43 x14_1 l0 (l0.length : Int) x14_1 y113 (y113.length : Int) ji56 ((rd_T57 l0 x14_1).f0) ((rd_T57 l0 x14_1).f1) ((rd_T57 l0 x14_1).f2) ((rd_T57 l0 x14_1).f3) ((rd_T57 l0 x14_1).f4))) = some r := H
 have A62 := zA A620
 clear A620
 by_cases c63 : t139 = true
 rotate_left
 · replace c63 := zbf c63
   subst c63
   have H1 : (impl_delays.l1 kj43 l0 x3_43 x14_1 l0 (l0.length : Int) x14_1 y113 (y113.length : Int) ji56 ((rd_T57 l0 x14_1).f0) ((rd_T57 l0 x14_1).f1) ((rd_T57 l0 x14_1).f2) ((rd_T57 l0 x14_1).f3) ((rd_T57 l0 x14_1).f4)) = some r := by rw [if_neg (show ¬ (false = true) by decide)] at H; exact H
   clear H
   have H := H1
   clear H1
   have H' := zA H
   clear H
   have q86 : (x14_1 : Int) ≤ ((l0.length : Int) : Int) := zde (by assumption)
   obtain ⟨i086, hi086, _, hsz86, _⟩ := info_parts info57
   have hroom86 : l0.length ≤ c0 := HC0.out
   have hC86 : Kd.C k57 _ (some ad104) l0.length l0 := HR0.out
   have ql86 : ((ji56) : Int) ≤ (x14_1 : Int) := zde (by assumption)
   have q086 : (0 : Int) ≤ ((ji56) : Int) := zde (by assumption)
   have hcut86 := cut_mid (P := Try.prog) 27 57 .i64 .i64 Try.underlying27 hi086 5 hsz86 (some ad104) l0.length c0 (ji56) x14_1 q086 ql86 q86 hroom86
   have hr86 := Kd.C_mid (lo := ((ji56) : Int).toNat) (hi := (x14_1 : Int).toNat) (c := c0) hC86 (by omega) (by omega) hroom86
   obtain ⟨A86, hA86⟩ : ∃ A1, A1 = (if c0 = ((ji56) : Int).toNat then (some ad104) else ((some ad104) : Option Addr).map (·.add (((ji56) : Int).toNat * 5))) := ⟨_, rfl⟩
   obtain ⟨c86, hc86⟩ : ∃ c1, c1 = c0 - ((ji56) : Int).toNat := ⟨_, rfl⟩
   have hy86 : y131.length = (x14_1 : Int).toNat - ((ji56) : Int).toNat := (by rw [Ny131.out, List.length_drop, List.length_take] <;> omega)
   rw [show ((l0).take (x14_1 : Int).toNat).drop ((ji56) : Int).toNat = y131 from Ny131.out.symm] at hr86
   replace hr86 : Kd.C k57 _ A86 y131.length y131 := (by rw [hA86]; exact hr86)
   rw [← hy86, ← hA86, ← hc86] at hcut86
   have HR134 := zA hr86
   have HC134 := zA (show y131.length ≤ c86 from by rw [hy86, hc86]; exact Nat.sub_le_sub_right (Nat.le_trans (by omega) hroom86) _)
   clear hr86 hC86 hroom86 hi086 hsz86 hc86
   have KY86 := zA hy86
   have KA86 := zA hA86
   clear hy86 hA86
   replace q86 := eq_true q86
   try go_wp2_with (first | ((with_reducible refine gate_callee (f := 86) rfl ?_); refine goesL_ (some 62) rfl rfl Try.func86 (by kernel_rfl) rfl #[.slice A86 y131.length c86, .func (Fn.func 87) #[] #[.pointer (some ⟨gb118, 0, none⟩)]] rfl (by (try simp only [List.map_toArray, List.map_cons, List.map_nil]); first | done | rfl | (simp only [List.length_drop, List.length_take]; rfl)) ?_; (with_reducible refine (slices_ContainsFunc_impl_delays_1.calls kj43 _ _ y131 _ 1 [(⟨((rd_T57 y113 x29_2).f0), ((rd_T57 y113 x29_2).f1), ((rd_T57 y113 x29_2).f2), ((rd_T57 y113 x29_2).f3), ((rd_T57 y113 x29_2).f4)⟩ : S57)] t135 _ ?side1 ?side2 ?side3 ?side4 A60.out).mono ?_); (case side1 => repeat (first | exact (zCb HR134.out HB.out) | (with_reducible first | refine zCa ?_ _ | refine zCn ?_ _ | refine zCd ?_))); (case side2 => exact HC134.out); (case side3 => exact box_C (g := gb118) (o := .cells #[.string ((rd_T57 y113 x29_2).f0), .int .i64 ((rd_T57 y113 x29_2).f1), .int .i64 ((rd_T57 y113 x29_2).f2), .int .i64 ((rd_T57 y113 x29_2).f3), .int .i64 ((rd_T57 y113 x29_2).f4)] 57 (0, 0)) (by (with_reducible repeat (first | refine zkn ?_ _ | refine zkd ?_ | refine zka ?_ _)); exact BK118.out) rfl (k57.K_of_M (k57_mkM _ 0 (fun _ => True) _))); (case side4 => exact zlr _); rintro e w87 ⟨rfl, hb⟩; refine ⟨_, rfl, ?_⟩; have n0_ := zA (Kd.S_below (by (with_reducible repeat (first | apply zSa | apply zSn | apply zSd)); exact HO_3.out) hb); have n1_ := zA (blk_below (g := gb105) (o := .cells #[.string ((rd_T57 l0 x14_1).f0), .int .i64 ((rd_T57 l0 x14_1).f1), .int .i64 ((rd_T57 l0 x14_1).f2), .int .i64 ((rd_T57 l0 x14_1).f3), .int .i64 ((rd_T57 l0 x14_1).f4)] 57 (0, 0)) (by (with_reducible repeat (first | refine zkn ?_ _ | refine zkd ?_ | refine zka ?_ _)); exact BK105.out) hb); have n2_ := zA (blk_below (g := gb118) (o := .cells #[.string ((rd_T57 y113 x29_2).f0), .int .i64 ((rd_T57 y113 x29_2).f1), .int .i64 ((rd_T57 y113 x29_2).f2), .int .i64 ((rd_T57 y113 x29_2).f3), .int .i64 ((rd_T57 y113 x29_2).f4)] 57 (0, 0)) (by (with_reducible repeat (first | refine zkn ?_ _ | refine zkd ?_ | refine zka ?_ _)); exact BK118.out) hb); have n3_ := zA (below_step (by repeat (first | (with_reducible first | exact HB.out | apply zba | apply zbn | apply zbd | refine below_set ?_ GE105.out | refine below_set ?_ GE118.out) | exact HB.out)) hb); clear HO_3 BK105; clear BK118 HB; have HO_3 := n0_; have BK105 := n1_; have BK118 := n2_; have HB := n3_; clear n0_ n1_ n2_ n3_; (try clear hb)))
   have n0_ := zA (zSd HO_3.out)
   have n1_ := zA (zkd BK105.out)
   have n2_ := zA (zkd BK118.out)
   have n3_ := zA (zbd HB.out)
   clear HO_3
   clear BK105
   clear BK118
   clear HB
   have HO_3 := n0_
   have BK105 := n1_
   have BK118 := n2_
   have HB := n3_
   clear n0_ n1_ n2_ n3_
   refine start_ (n := 9) (S := fun w' => w'.cell? ⟨gb105, 0, none⟩ = some (.string ((rd_T57 l0 x14_1).f0)) ∧ w'.cell? ⟨gb105, 1, none⟩ = some (.int .i64 ((rd_T57 l0 x14_1).f1)) ∧ w'.cell? ⟨gb105, 2, none⟩ = some (.int .i64 ((rd_T57 l0 x14_1).f2)) ∧ w'.cell? ⟨gb105, 3, none⟩ = some (.int .i64 ((rd_T57 l0 x14_1).f3)) ∧ w'.cell? ⟨gb105, 4, none⟩ = some (.int .i64 ((rd_T57 l0 x14_1).f4)) ∧ w'.cell? ⟨gb118, 0, none⟩ = some (.string ((rd_T57 y113 x29_2).f0)) ∧ w'.cell? ⟨gb118, 1, none⟩ = some (.int .i64 ((rd_T57 y113 x29_2).f1)) ∧ w'.cell? ⟨gb118, 2, none⟩ = some (.int .i64 ((rd_T57 y113 x29_2).f2)) ∧ w'.cell? ⟨gb118, 3, none⟩ = some (.int .i64 ((rd_T57 y113 x29_2).f3)) ∧ w'.cell? ⟨gb118, 4, none⟩ = some (.int .i64 ((rd_T57 y113 x29_2).f4))) (ds := []) #[false, false, false, false, false, false, false, false, false] (by kernel_rfl) rfl rfl ⟨(blk_cell BK105.out 0).trans rfl, (blk_cell BK105.out 1).trans rfl, (blk_cell BK105.out 2).trans rfl, (blk_cell BK105.out 3).trans rfl, (blk_cell BK105.out 4).trans rfl, (blk_cell BK118.out 0).trans rfl, (blk_cell BK118.out 1).trans rfl, (blk_cell BK118.out 2).trans rfl, (blk_cell BK118.out 3).trans rfl, (blk_cell BK118.out 4).trans rfl⟩ (fun hHeld => ?_); refine with_tabW impl_delays.tab14 impl_delays.bits14 (fun HT_ HW_ => ?_)
   generalize w87.drew = w88 at HO_3 BK105 BK118 HB hHeld ⊢
   refine pure_ (i := 2) (N := some 65) (v := ?_) (a' := ?_) #[false, false, true, false, false, false, false, false, false] rfl rfl (any_of HT_.out (by kernel_rfl)) (fun _ _ _ h => h) (Or.inl ⟨by rfl, ?_⟩) ?_ ?_
   rotate_left
   · intro w'
     go_simp
     with_reducible rfl
   rotate_left
   · simp only [Act.put, List.setIfInBounds_toArray, List.set_cons_zero, List.set_cons_succ, i64_w, i32_w]
     rfl
   refine take_ (i := 0) (N := some 63) (v := ?_) (a' := ?_) #[true, false, true, false, false, false, false, false, false] rfl rfl (take_ofW HT_.out HW_.out (by kernel_rfl)) (fun _ _ _ h => h) (Or.inl ⟨by rfl, ?_⟩) hHeld ?_ ?_
   rotate_left
   · rintro w' ⟨s0, s1, s2, s3, s4, s5, s6, s7, s8, s9⟩
     go_simp
     with_reducible rfl
   rotate_left
   · simp only [Act.put, List.setIfInBounds_toArray, List.set_cons_zero, List.set_cons_succ, i64_w, i32_w]
     rfl
   refine take_ (i := 3) (N := some 66) (v := ?_) (a' := ?_) #[true, false, true, true, false, false, false, false, false] rfl rfl (take_ofW HT_.out HW_.out (by kernel_rfl)) (fun _ _ _ h => h) (Or.inl ⟨by rfl, ?_⟩) hHeld ?_ ?_
   rotate_left
   · rintro w' ⟨s0, s1, s2, s3, s4, s5, s6, s7, s8, s9⟩
     go_simp
     with_reducible rfl
   rotate_left
   · simp only [Act.put, List.setIfInBounds_toArray, List.set_cons_zero, List.set_cons_succ, i64_w, i32_w]
     rfl
   refine one_ (i := 1) (N := some 64) #[true, true, true, true, false, false, false, false, false] rfl rfl (one_of HT_.out (by kernel_rfl)) (by decide) (fun K hK => ?_)
   refine goes_ Try.func85 (by kernel_rfl) rfl #[.agg #[.string ((rd_T57 l0 x14_1).f0), .int .i64 ((rd_T57 l0 x14_1).f1), .int .i64 ((rd_T57 l0 x14_1).f2), .int .i64 ((rd_T57 l0 x14_1).f3), .int .i64 ((rd_T57 l0 x14_1).f4)]] (by rfl) rfl rfl (by (try simp only [List.map_toArray, List.map_cons, List.map_nil]); first | done | rfl | (simp only [List.length_drop, List.length_take]; rfl)) ?_
   with_reducible refine (impl_Instr_reads.calls kj43 ((rd_T57 l0 x14_1).f0) ((rd_T57 l0 x14_1).f1) ((rd_T57 l0 x14_1).f2) ((rd_T57 l0 x14_1).f3) ((rd_T57 l0 x14_1).f4) t136 _ A61.out).mono ?_
   rintro e w89 ⟨v137, rfl, ho0, hb⟩
   refine ⟨_, rfl, ?_⟩
   have n0_ := zA (Kd.S_elder' (by (with_reducible repeat (first | apply zSa | apply zSn | apply zSd)); exact HO_3.out) (Kd.R_base ho0) hb)
   have n1_ := zA (Kd.R_lower ho0 (below_size (by repeat (first | (with_reducible first | exact HB.out | apply zba | apply zbn | apply zbd | refine below_set ?_ GE105.out | refine below_set ?_ GE118.out) | exact HB.out))))
   have n2_ := zA (blk_below (g := gb105) (o := .cells #[.string ((rd_T57 l0 x14_1).f0), .int .i64 ((rd_T57 l0 x14_1).f1), .int .i64 ((rd_T57 l0 x14_1).f2), .int .i64 ((rd_T57 l0 x14_1).f3), .int .i64 ((rd_T57 l0 x14_1).f4)] 57 (0, 0)) (by (with_reducible repeat (first | refine zkn ?_ _ | refine zkd ?_ | refine zka ?_ _)); exact BK105.out) hb)
   have n3_ := zA (blk_below (g := gb118) (o := .cells #[.string ((rd_T57 y113 x29_2).f0), .int .i64 ((rd_T57 y113 x29_2).f1), .int .i64 ((rd_T57 y113 x29_2).f2), .int .i64 ((rd_T57 y113 x29_2).f3), .int .i64 ((rd_T57 y113 x29_2).f4)] 57 (0, 0)) (by (with_reducible repeat (first | refine zkn ?_ _ | refine zkd ?_ | refine zka ?_ _)); exact BK118.out) hb)
   have n4_ := zA (below_step (by repeat (first | (with_reducible first | exact HB.out | apply zba | apply zbn | apply zbd | refine below_set ?_ GE105.out | refine below_set ?_ GE118.out) | exact HB.out)) hb)
   clear HO_3
   clear BK105
   clear BK118
   clear HB
   have HO_3 := n0_
   have HO138 := n1_
   have BK105 := n2_
   have BK118 := n3_
   have HB := n4_
   clear n0_ n1_ n2_ n3_ n4_
   (try clear hb)
   (try clear hb2)
   (try clear hk)
   (try clear hi)
   (try clear ho0)
   obtain ⟨Ao90, co90, eo90⟩ := Kd.R_slice HO138.out
   (first | subst eo90 | (injection eo90 with f1_ f2_ f3_; have f4_ := f1_.symm; have f5_ := f3_.symm; clear f1_ f2_ f3_; subst f4_; subst f5_))
   refine hK.out _ _ ⟨(blk_cell BK105.out 0).trans rfl, (blk_cell BK105.out 1).trans rfl, (blk_cell BK105.out 2).trans rfl, (blk_cell BK105.out 3).trans rfl, (blk_cell BK105.out 4).trans rfl, (blk_cell BK118.out 0).trans rfl, (blk_cell BK118.out 1).trans rfl, (blk_cell BK118.out 2).trans rfl, (blk_cell BK118.out 3).trans rfl, (blk_cell BK118.out 4).trans rfl⟩ (fun hHeld => ?_)
   clear hK K
   refine norm_ (a' := ?_) ?_ ?_
   rotate_left
   · show Act.put _ (some 64) _ = _
     simp only [Act.put, List.setIfInBounds_toArray, List.set_cons_zero, List.set_cons_succ, i64_w, i32_w]
     rfl
   refine one_ (i := 4) (N := some 67) #[true, true, true, true, true, false, false, false, false] rfl rfl (one_of HT_.out (by kernel_rfl)) (by decide) (fun K hK => ?_)
   refine goes_ Try.func82 (by kernel_rfl) rfl #[.slice Ao90 t136.length co90, .int .i64 ((rd_T57 y113 x29_2).f1)] (by rfl) rfl rfl (by (try simp only [List.map_toArray, List.map_cons, List.map_nil]); first | done | rfl | (simp only [List.length_drop, List.length_take]; rfl)) ?_
   with_reducible refine (slices_Contains_int_int.calls kj43 _ _ t136 ((rd_T57 y113 x29_2).f1) false _ ?side1 ?side2 A62.out).mono ?_
   (case side1 => repeat (first | exact (zRr HO138.out).2.2 | (with_reducible first | refine zCa ?_ _ | refine zCn ?_ _ | refine zCd ?_)))
   (case side2 => exact (zRr HO138.out).2.1)
   rintro e w' ⟨rfl, ⟨nd, rfl⟩⟩
   refine ⟨_, rfl, ?_⟩
   refine hK.out _ _ ⟨(blk_cell BK105.out 0).trans rfl, (blk_cell BK105.out 1).trans rfl, (blk_cell BK105.out 2).trans rfl, (blk_cell BK105.out 3).trans rfl, (blk_cell BK105.out 4).trans rfl, (blk_cell BK118.out 0).trans rfl, (blk_cell BK118.out 1).trans rfl, (blk_cell BK118.out 2).trans rfl, (blk_cell BK118.out 3).trans rfl, (blk_cell BK118.out 4).trans rfl⟩ (fun hHeld => ?_)
   clear hK K
   refine norm_ (a' := ?_) ?_ ?_
   rotate_left
   · show Act.put _ (some 67) _ = _
     simp only [Act.put, List.setIfInBounds_toArray, List.set_cons_zero, List.set_cons_succ, i64_w, i32_w]
     rfl
   refine pure_ (i := 5) (N := some 68) (v := ?_) (a' := ?_) #[true, true, true, true, true, true, false, false, false] rfl rfl (any_of HT_.out (by kernel_rfl)) (fun _ _ _ h => h) (Or.inl ⟨by rfl, ?_⟩) ?_ ?_
   rotate_left
   · intro w'
     go_simp
     with_reducible rfl
   rotate_left
   · simp only [Act.put, List.setIfInBounds_toArray, List.set_cons_zero, List.set_cons_succ, i64_w, i32_w]
     rfl
   refine pure_ (i := 6) (N := some 69) (v := undef) (a' := ?_) #[true, true, true, true, true, true, true, false, false] rfl rfl (any_of HT_.out (by kernel_rfl)) (fun _ _ _ h => h) (Or.inr ⟨by rfl, rfl⟩) ?_ ?_
   rotate_left
   · simp only [Act.put, List.setIfInBounds_toArray, List.set_cons_zero, List.set_cons_succ, i64_w, i32_w]
     rfl
   refine pure_ (i := 7) (N := some 70) (v := undef) (a' := ?_) #[true, true, true, true, true, true, true, true, false] rfl rfl (any_of HT_.out (by kernel_rfl)) (fun _ _ _ h => h) (Or.inr ⟨by rfl, rfl⟩) ?_ ?_
   rotate_left
   · simp only [Act.put, List.setIfInBounds_toArray, List.set_cons_zero, List.set_cons_succ, i64_w, i32_w]
     rfl
   refine pure_ (i := 8) (N := some 71) (v := ?_) (a' := ?_) #[true, true, true, true, true, true, true, true, true] rfl rfl (any_of HT_.out (by kernel_rfl)) (fun _ _ _ h => h) (Or.inl ⟨by rfl, ?_⟩) ?_ ?_
   rotate_left
   · intro w'
     go_simp
     with_reducible rfl
   rotate_left
   · simp only [Act.put, List.setIfInBounds_toArray, List.set_cons_zero, List.set_cons_succ, i64_w, i32_w]
     rfl
   refine done_ (done_of HT_.out (by kernel_rfl)) ?_
   (try (rw [drewN_self w89]; generalize hq_ : World.drewN w89 _ = w89; have n0_ := zA (Kd.S_at hq_ HO_3.out); have n1_ := zA (Kd.R_at hq_ HO138.out); have n2_ := zA (blk_at hq_ BK105.out); have n3_ := zA (blk_at hq_ BK118.out); have n4_ := zA (below_at hq_ HB.out); clear hq_ HO_3 HO138 BK105 BK118 HB; have HO_3 := n0_; have HO138 := n1_; have BK105 := n2_; have BK118 := n3_; have HB := n4_; clear n0_ n1_ n2_ n3_ n4_))
   try go_wp2
   (try simp only [← hl3_2, ← hl3_28, ← hl3_43])
   go_roundg kj43
   case measure => have := HK1.out; have := HK2.out; have := HJ28.out; have := HJ43.out; omega
   case rel => exact ⟨(x3_43), (ji56), (by first | rfl | (simp; done) | (simp only [← hji56] <;> (first | rfl | simp)) | (simp [*]; done)), H', ⟨by have := HK1.out; have := HK2.out; have := HJ28.out; have := HJ43.out; omega⟩, ⟨by (try simp only [hl3_2]); (try simp only [hl3_28]); (try simp only [hl3_43]); (with_reducible repeat (first | apply zSa | apply zSn | apply zSd)); exact Kd.S_mono HO_3.out (fun _ hk => trivial)⟩, ⟨by (try simp only [hl3_2]); (try simp only [hl3_28]); (try simp only [hl3_43]); (with_reducible repeat (first | refine zkn ?_ _ | refine zkd ?_ | refine zka ?_ _)); exact BK105.out⟩, ⟨by repeat (first | (with_reducible first | exact HB.out | apply zba | apply zbn | apply zbd | refine below_set ?_ GE105.out | refine below_set ?_ GE118.out) | exact HB.out)⟩⟩
 subst c63
 have H1 : (if t135 = true then (impl_delays.l1 kj43 l0 x3_43 x14_1 l0 (l0.length : Int) x14_1 y113 (y113.length : Int) ji56 ((rd_T57 l0 x14_1).f0) ((rd_T57 l0 x14_1).f1) ((rd_T57 l0 x14_1).f2) ((rd_T57 l0 x14_1).f3) ((rd_T57 l0 x14_1).f4)) else (if 0 ≤ x14_1 then (if x14_1 < (x3_43.length : Int) then (if 0 ≤ x29_2 then (if x29_2 < ((rd_L4 x3_43 x14_1).length : Int) then ((impl_Instr_cost.f ((rd_T57 y113 x29_2).f0) ((rd_T57 y113 x29_2).f1) ((rd_T57 y113 x29_2).f2) ((rd_T57 y113 x29_2).f3) ((rd_T57 y113 x29_2).f4)).bind fun t143 => (impl_delays.l1 kj43 l0 (x3_43.set (x14_1 : Int).toNat ((rd_L4 x3_43 x14_1).set (x29_2 : Int).toNat (mx (rd (rd_L4 x3_43 x14_1) x29_2) t143))) x14_1 l0 (l0.length : Int) x14_1 y113 (y113.length : Int) ji56 ((rd_T57 l0 x14_1).f0) ((rd_T57 l0 x14_1).f1) ((rd_T57 l0 x14_1).f2) ((rd_T57 l0 x14_1).f3) ((rd_T57 l0 x14_1).f4))) else (none)) else (none)) else (none)) else (none))) = some r := by rw [if_pos rfl] at H; exact H
 clear H
 have H := H1
 clear H1
 by_cases c64 : t135 = true
 · subst c64
   have H1 : (impl_delays.l1 kj43 l0 x3_43 x14_1 l0 (l0.length : Int) x14_1 y113 (y113.length : Int) ji56 ((rd_T57 l0 x14_1).f0) ((rd_T57 l0 x14_1).f1) ((rd_T57 l0 x14_1).f2) ((rd_T57 l0 x14_1).f3) ((rd_T57 l0 x14_1).f4)) = some r := by rw [if_pos rfl] at H; exact H
   clear H
   have H := H1
   clear H1
   have H' := zA H
   clear H
   have q65 : (x14_1 : Int) ≤ ((l0.length : Int) : Int) := zde (by assumption)
   obtain ⟨i065, hi065, _, hsz65, _⟩ := info_parts info57
   have hroom65 : l0.length ≤ c0 := HC0.out
   have hC65 : Kd.C k57 _ (some ad104) l0.length l0 := HR0.out
   have ql65 : ((ji56) : Int) ≤ (x14_1 : Int) := zde (by assumption)
   have q065 : (0 : Int) ≤ ((ji56) : Int) := zde (by assumption)
   have hcut65 := cut_mid (P := Try.prog) 27 57 .i64 .i64 Try.underlying27 hi065 5 hsz65 (some ad104) l0.length c0 (ji56) x14_1 q065 ql65 q65 hroom65
   have hr65 := Kd.C_mid (lo := ((ji56) : Int).toNat) (hi := (x14_1 : Int).toNat) (c := c0) hC65 (by omega) (by omega) hroom65
   obtain ⟨A65, hA65⟩ : ∃ A1, A1 = (if c0 = ((ji56) : Int).toNat then (some ad104) else ((some ad104) : Option Addr).map (·.add (((ji56) : Int).toNat * 5))) := ⟨_, rfl⟩
   obtain ⟨c65, hc65⟩ : ∃ c1, c1 = c0 - ((ji56) : Int).toNat := ⟨_, rfl⟩
   have hy65 : y131.length = (x14_1 : Int).toNat - ((ji56) : Int).toNat := (by rw [Ny131.out, List.length_drop, List.length_take] <;> omega)
   rw [show ((l0).take (x14_1 : Int).toNat).drop ((ji56) : Int).toNat = y131 from Ny131.out.symm] at hr65
   replace hr65 : Kd.C k57 _ A65 y131.length y131 := (by rw [hA65]; exact hr65)
   rw [← hy65, ← hA65, ← hc65] at hcut65
   have HR134 := zA hr65
   have HC134 := zA (show y131.length ≤ c65 from by rw [hy65, hc65]; exact Nat.sub_le_sub_right (Nat.le_trans (by omega) hroom65) _)
   clear hr65 hC65 hroom65 hi065 hsz65 hc65
   have KY65 := zA hy65
   have KA65 := zA hA65
   clear hy65 hA65
   replace q65 := eq_true q65
   try go_wp2_with (first | ((with_reducible refine gate_callee (f := 86) rfl ?_); refine goesL_ (some 62) rfl rfl Try.func86 (by kernel_rfl) rfl #[.slice A65 y131.length c65, .func (Fn.func 87) #[] #[.pointer (some ⟨gb118, 0, none⟩)]] rfl (by (try simp only [List.map_toArray, List.map_cons, List.map_nil]); first | done | rfl | (simp only [List.length_drop, List.length_take]; rfl)) ?_; (with_reducible refine (slices_ContainsFunc_impl_delays_1.calls kj43 _ _ y131 _ 1 [(⟨((rd_T57 y113 x29_2).f0), ((rd_T57 y113 x29_2).f1), ((rd_T57 y113 x29_2).f2), ((rd_T57 y113 x29_2).f3), ((rd_T57 y113 x29_2).f4)⟩ : S57)] true _ ?side1 ?side2 ?side3 ?side4 A60.out).mono ?_); (case side1 => repeat (first | exact (zCb HR134.out HB.out) | (with_reducible first | refine zCa ?_ _ | refine zCn ?_ _ | refine zCd ?_))); (case side2 => exact HC134.out); (case side3 => exact box_C (g := gb118) (o := .cells #[.string ((rd_T57 y113 x29_2).f0), .int .i64 ((rd_T57 y113 x29_2).f1), .int .i64 ((rd_T57 y113 x29_2).f2), .int .i64 ((rd_T57 y113 x29_2).f3), .int .i64 ((rd_T57 y113 x29_2).f4)] 57 (0, 0)) (by (with_reducible repeat (first | refine zkn ?_ _ | refine zkd ?_ | refine zka ?_ _)); exact BK118.out) rfl (k57.K_of_M (k57_mkM _ 0 (fun _ => True) _))); (case side4 => exact zlr _); rintro e w66 ⟨rfl, hb⟩; refine ⟨_, rfl, ?_⟩; have n0_ := zA (Kd.S_below (by (with_reducible repeat (first | apply zSa | apply zSn | apply zSd)); exact HO_3.out) hb); have n1_ := zA (blk_below (g := gb105) (o := .cells #[.string ((rd_T57 l0 x14_1).f0), .int .i64 ((rd_T57 l0 x14_1).f1), .int .i64 ((rd_T57 l0 x14_1).f2), .int .i64 ((rd_T57 l0 x14_1).f3), .int .i64 ((rd_T57 l0 x14_1).f4)] 57 (0, 0)) (by (with_reducible repeat (first | refine zkn ?_ _ | refine zkd ?_ | refine zka ?_ _)); exact BK105.out) hb); have n2_ := zA (blk_below (g := gb118) (o := .cells #[.string ((rd_T57 y113 x29_2).f0), .int .i64 ((rd_T57 y113 x29_2).f1), .int .i64 ((rd_T57 y113 x29_2).f2), .int .i64 ((rd_T57 y113 x29_2).f3), .int .i64 ((rd_T57 y113 x29_2).f4)] 57 (0, 0)) (by (with_reducible repeat (first | refine zkn ?_ _ | refine zkd ?_ | refine zka ?_ _)); exact BK118.out) hb); have n3_ := zA (below_step (by repeat (first | (with_reducible first | exact HB.out | apply zba | apply zbn | apply zbd | refine below_set ?_ GE105.out | refine below_set ?_ GE118.out) | exact HB.out)) hb); clear HO_3 BK105; clear BK118 HB; have HO_3 := n0_; have BK105 := n1_; have BK118 := n2_; have HB := n3_; clear n0_ n1_ n2_ n3_; (try clear hb)))
   have n0_ := zA (zSd HO_3.out)
   have n1_ := zA (zkd BK105.out)
   have n2_ := zA (zkd BK118.out)
   have n3_ := zA (zbd HB.out)
   clear HO_3
   clear BK105
   clear BK118
   clear HB
   have HO_3 := n0_
   have BK105 := n1_
   have BK118 := n2_
   have HB := n3_
   clear n0_ n1_ n2_ n3_
   refine start_ (n := 9) (S := fun w' => w'.cell? ⟨gb105, 0, none⟩ = some (.string ((rd_T57 l0 x14_1).f0)) ∧ w'.cell? ⟨gb105, 1, none⟩ = some (.int .i64 ((rd_T57 l0 x14_1).f1)) ∧ w'.cell? ⟨gb105, 2, none⟩ = some (.int .i64 ((rd_T57 l0 x14_1).f2)) ∧ w'.cell? ⟨gb105, 3, none⟩ = some (.int .i64 ((rd_T57 l0 x14_1).f3)) ∧ w'.cell? ⟨gb105, 4, none⟩ = some (.int .i64 ((rd_T57 l0 x14_1).f4)) ∧ w'.cell? ⟨gb118, 0, none⟩ = some (.string ((rd_T57 y113 x29_2).f0)) ∧ w'.cell? ⟨gb118, 1, none⟩ = some (.int .i64 ((rd_T57 y113 x29_2).f1)) ∧ w'.cell? ⟨gb118, 2, none⟩ = some (.int .i64 ((rd_T57 y113 x29_2).f2)) ∧ w'.cell? ⟨gb118, 3, none⟩ = some (.int .i64 ((rd_T57 y113 x29_2).f3)) ∧ w'.cell? ⟨gb118, 4, none⟩ = some (.int .i64 ((rd_T57 y113 x29_2).f4))) (ds := []) #[false, false, false, false, false, false, false, false, false] (by kernel_rfl) rfl rfl ⟨(blk_cell BK105.out 0).trans rfl, (blk_cell BK105.out 1).trans rfl, (blk_cell BK105.out 2).trans rfl, (blk_cell BK105.out 3).trans rfl, (blk_cell BK105.out 4).trans rfl, (blk_cell BK118.out 0).trans rfl, (blk_cell BK118.out 1).trans rfl, (blk_cell BK118.out 2).trans rfl, (blk_cell BK118.out 3).trans rfl, (blk_cell BK118.out 4).trans rfl⟩ (fun hHeld => ?_); refine with_tabW impl_delays.tab14 impl_delays.bits14 (fun HT_ HW_ => ?_)
   generalize w66.drew = w67 at HO_3 BK105 BK118 HB hHeld ⊢
   refine pure_ (i := 2) (N := some 65) (v := ?_) (a' := ?_) #[false, false, true, false, false, false, false, false, false] rfl rfl (any_of HT_.out (by kernel_rfl)) (fun _ _ _ h => h) (Or.inl ⟨by rfl, ?_⟩) ?_ ?_
   rotate_left
   · intro w'
     go_simp
     with_reducible rfl
   rotate_left
   · simp only [Act.put, List.setIfInBounds_toArray, List.set_cons_zero, List.set_cons_succ, i64_w, i32_w]
     rfl
   refine take_ (i := 0) (N := some 63) (v := ?_) (a' := ?_) #[true, false, true, false, false, false, false, false, false] rfl rfl (take_ofW HT_.out HW_.out (by kernel_rfl)) (fun _ _ _ h => h) (Or.inl ⟨by rfl, ?_⟩) hHeld ?_ ?_
   rotate_left
   · rintro w' ⟨s0, s1, s2, s3, s4, s5, s6, s7, s8, s9⟩
     go_simp
     with_reducible rfl
   rotate_left
   · simp only [Act.put, List.setIfInBounds_toArray, List.set_cons_zero, List.set_cons_succ, i64_w, i32_w]
     rfl
   refine take_ (i := 3) (N := some 66) (v := ?_) (a' := ?_) #[true, false, true, true, false, false, false, false, false] rfl rfl (take_ofW HT_.out HW_.out (by kernel_rfl)) (fun _ _ _ h => h) (Or.inl ⟨by rfl, ?_⟩) hHeld ?_ ?_
   rotate_left
   · rintro w' ⟨s0, s1, s2, s3, s4, s5, s6, s7, s8, s9⟩
     go_simp
     with_reducible rfl
   rotate_left
   · simp only [Act.put, List.setIfInBounds_toArray, List.set_cons_zero, List.set_cons_succ, i64_w, i32_w]
     rfl
   refine one_ (i := 1) (N := some 64) #[true, true, true, true, false, false, false, false, false] rfl rfl (one_of HT_.out (by kernel_rfl)) (by decide) (fun K hK => ?_)
   refine goes_ Try.func85 (by kernel_rfl) rfl #[.agg #[.string ((rd_T57 l0 x14_1).f0), .int .i64 ((rd_T57 l0 x14_1).f1), .int .i64 ((rd_T57 l0 x14_1).f2), .int .i64 ((rd_T57 l0 x14_1).f3), .int .i64 ((rd_T57 l0 x14_1).f4)]] (by rfl) rfl rfl (by (try simp only [List.map_toArray, List.map_cons, List.map_nil]); first | done | rfl | (simp only [List.length_drop, List.length_take]; rfl)) ?_
   with_reducible refine (impl_Instr_reads.calls kj43 ((rd_T57 l0 x14_1).f0) ((rd_T57 l0 x14_1).f1) ((rd_T57 l0 x14_1).f2) ((rd_T57 l0 x14_1).f3) ((rd_T57 l0 x14_1).f4) t136 _ A61.out).mono ?_
   rintro e w68 ⟨v137, rfl, ho0, hb⟩
   refine ⟨_, rfl, ?_⟩
   have n0_ := zA (Kd.S_elder' (by (with_reducible repeat (first | apply zSa | apply zSn | apply zSd)); exact HO_3.out) (Kd.R_base ho0) hb)
   have n1_ := zA (Kd.R_lower ho0 (below_size (by repeat (first | (with_reducible first | exact HB.out | apply zba | apply zbn | apply zbd | refine below_set ?_ GE105.out | refine below_set ?_ GE118.out) | exact HB.out))))
   have n2_ := zA (blk_below (g := gb105) (o := .cells #[.string ((rd_T57 l0 x14_1).f0), .int .i64 ((rd_T57 l0 x14_1).f1), .int .i64 ((rd_T57 l0 x14_1).f2), .int .i64 ((rd_T57 l0 x14_1).f3), .int .i64 ((rd_T57 l0 x14_1).f4)] 57 (0, 0)) (by (with_reducible repeat (first | refine zkn ?_ _ | refine zkd ?_ | refine zka ?_ _)); exact BK105.out) hb)
   have n3_ := zA (blk_below (g := gb118) (o := .cells #[.string ((rd_T57 y113 x29_2).f0), .int .i64 ((rd_T57 y113 x29_2).f1), .int .i64 ((rd_T57 y113 x29_2).f2), .int .i64 ((rd_T57 y113 x29_2).f3), .int .i64 ((rd_T57 y113 x29_2).f4)] 57 (0, 0)) (by (with_reducible repeat (first | refine zkn ?_ _ | refine zkd ?_ | refine zka ?_ _)); exact BK118.out) hb)
   have n4_ := zA (below_step (by repeat (first | (with_reducible first | exact HB.out | apply zba | apply zbn | apply zbd | refine below_set ?_ GE105.out | refine below_set ?_ GE118.out) | exact HB.out)) hb)
   clear HO_3
   clear BK105
   clear BK118
   clear HB
   have HO_3 := n0_
   have HO138 := n1_
   have BK105 := n2_
   have BK118 := n3_
   have HB := n4_
   clear n0_ n1_ n2_ n3_ n4_
   (try clear hb)
   (try clear hb2)
   (try clear hk)
   (try clear hi)
   (try clear ho0)
   obtain ⟨Ao69, co69, eo69⟩ := Kd.R_slice HO138.out
   (first | subst eo69 | (injection eo69 with f1_ f2_ f3_; have f4_ := f1_.symm; have f5_ := f3_.symm; clear f1_ f2_ f3_; subst f4_; subst f5_))
   refine hK.out _ _ ⟨(blk_cell BK105.out 0).trans rfl, (blk_cell BK105.out 1).trans rfl, (blk_cell BK105.out 2).trans rfl, (blk_cell BK105.out 3).trans rfl, (blk_cell BK105.out 4).trans rfl, (blk_cell BK118.out 0).trans rfl, (blk_cell BK118.out 1).trans rfl, (blk_cell BK118.out 2).trans rfl, (blk_cell BK118.out 3).trans rfl, (blk_cell BK118.out 4).trans rfl⟩ (fun hHeld => ?_)
   clear hK K
   refine norm_ (a' := ?_) ?_ ?_
   rotate_left
   · show Act.put _ (some 64) _ = _
     simp only [Act.put, List.setIfInBounds_toArray, List.set_cons_zero, List.set_cons_succ, i64_w, i32_w]
     rfl
   refine one_ (i := 4) (N := some 67) #[true, true, true, true, true, false, false, false, false] rfl rfl (one_of HT_.out (by kernel_rfl)) (by decide) (fun K hK => ?_)
   refine goes_ Try.func82 (by kernel_rfl) rfl #[.slice Ao69 t136.length co69, .int .i64 ((rd_T57 y113 x29_2).f1)] (by rfl) rfl rfl (by (try simp only [List.map_toArray, List.map_cons, List.map_nil]); first | done | rfl | (simp only [List.length_drop, List.length_take]; rfl)) ?_
   with_reducible refine (slices_Contains_int_int.calls kj43 _ _ t136 ((rd_T57 y113 x29_2).f1) true _ ?side1 ?side2 A62.out).mono ?_
   (case side1 => repeat (first | exact (zRr HO138.out).2.2 | (with_reducible first | refine zCa ?_ _ | refine zCn ?_ _ | refine zCd ?_)))
   (case side2 => exact (zRr HO138.out).2.1)
   rintro e w' ⟨rfl, ⟨nd, rfl⟩⟩
   refine ⟨_, rfl, ?_⟩
   refine hK.out _ _ ⟨(blk_cell BK105.out 0).trans rfl, (blk_cell BK105.out 1).trans rfl, (blk_cell BK105.out 2).trans rfl, (blk_cell BK105.out 3).trans rfl, (blk_cell BK105.out 4).trans rfl, (blk_cell BK118.out 0).trans rfl, (blk_cell BK118.out 1).trans rfl, (blk_cell BK118.out 2).trans rfl, (blk_cell BK118.out 3).trans rfl, (blk_cell BK118.out 4).trans rfl⟩ (fun hHeld => ?_)
   clear hK K
   refine norm_ (a' := ?_) ?_ ?_
   rotate_left
   · show Act.put _ (some 67) _ = _
     simp only [Act.put, List.setIfInBounds_toArray, List.set_cons_zero, List.set_cons_succ, i64_w, i32_w]
     rfl
   refine pure_ (i := 5) (N := some 68) (v := ?_) (a' := ?_) #[true, true, true, true, true, true, false, false, false] rfl rfl (any_of HT_.out (by kernel_rfl)) (fun _ _ _ h => h) (Or.inl ⟨by rfl, ?_⟩) ?_ ?_
   rotate_left
   · intro w'
     go_simp
     with_reducible rfl
   rotate_left
   · simp only [Act.put, List.setIfInBounds_toArray, List.set_cons_zero, List.set_cons_succ, i64_w, i32_w]
     rfl
   refine pure_ (i := 6) (N := some 69) (v := ?_) (a' := ?_) #[true, true, true, true, true, true, true, false, false] rfl rfl (any_of HT_.out (by kernel_rfl)) (fun _ _ _ h => h) (Or.inl ⟨by rfl, ?_⟩) ?_ ?_
   rotate_left
   · intro w'
     go_simp
     with_reducible rfl
   rotate_left
   · simp only [Act.put, List.setIfInBounds_toArray, List.set_cons_zero, List.set_cons_succ, i64_w, i32_w]
     rfl
   refine pure_ (i := 7) (N := some 70) (v := ?_) (a' := ?_) #[true, true, true, true, true, true, true, true, false] rfl rfl (any_of HT_.out (by kernel_rfl)) (fun _ _ _ h => h) (Or.inl ⟨by rfl, ?_⟩) ?_ ?_
   rotate_left
   · intro w'
     go_simp
     with_reducible rfl
   rotate_left
   · simp only [Act.put, List.setIfInBounds_toArray, List.set_cons_zero, List.set_cons_succ, i64_w, i32_w]
     rfl
   refine pure_ (i := 8) (N := some 71) (v := ?_) (a' := ?_) #[true, true, true, true, true, true, true, true, true] rfl rfl (any_of HT_.out (by kernel_rfl)) (fun _ _ _ h => h) (Or.inl ⟨by rfl, ?_⟩) ?_ ?_
   rotate_left
   · intro w'
     go_simp
     with_reducible rfl
   rotate_left
   · simp only [Act.put, List.setIfInBounds_toArray, List.set_cons_zero, List.set_cons_succ, i64_w, i32_w]
     rfl
   refine done_ (done_of HT_.out (by kernel_rfl)) ?_
   (try (rw [drewN_self w68]; generalize hq_ : World.drewN w68 _ = w68; have n0_ := zA (Kd.S_at hq_ HO_3.out); have n1_ := zA (Kd.R_at hq_ HO138.out); have n2_ := zA (blk_at hq_ BK105.out); have n3_ := zA (blk_at hq_ BK118.out); have n4_ := zA (below_at hq_ HB.out); clear hq_ HO_3 HO138 BK105 BK118 HB; have HO_3 := n0_; have HO138 := n1_; have BK105 := n2_; have BK118 := n3_; have HB := n4_; clear n0_ n1_ n2_ n3_ n4_))
   try go_wp2
   (try simp only [← hl3_2, ← hl3_28, ← hl3_43])
   go_roundg kj43
   case measure => have := HK1.out; have := HK2.out; have := HJ28.out; have := HJ43.out; omega
   case rel => exact ⟨(x3_43), (ji56), (by first | rfl | (simp; done) | (simp only [← hji56] <;> (first | rfl | simp)) | (simp [*]; done)), H', ⟨by have := HK1.out; have := HK2.out; have := HJ28.out; have := HJ43.out; omega⟩, ⟨by (try simp only [hl3_2]); (try simp only [hl3_28]); (try simp only [hl3_43]); (with_reducible repeat (first | apply zSa | apply zSn | apply zSd)); exact Kd.S_mono HO_3.out (fun _ hk => trivial)⟩, ⟨by (try simp only [hl3_2]); (try simp only [hl3_28]); (try simp only [hl3_43]); (with_reducible repeat (first | refine zkn ?_ _ | refine zkd ?_ | refine zka ?_ _)); exact BK105.out⟩, ⟨by repeat (first | (with_reducible first | exact HB.out | apply zba | apply zbn | apply zbd | refine below_set ?_ GE105.out | refine below_set ?_ GE118.out) | exact HB.out)⟩⟩
 replace c64 := zbf c64
 subst c64
 have H1 : (if 0 ≤ x14_1 then (if x14_1 < (x3_43.length : Int) then (if 0 ≤ x29_2 then (if x29_2 < ((rd_L4 x3_43 x14_1).length : Int) then ((impl_Instr_cost.f ((rd_T57 y113 x29_2).f0) ((rd_T57 y113 x29_2).f1) ((rd_T57 y113 x29_2).f2) ((rd_T57 y113 x29_2).f3) ((rd_T57 y113 x29_2).f4)).bind fun t143 => (impl_delays.l1 kj43 l0 (x3_43.set (x14_1 : Int).toNat ((rd_L4 x3_43 x14_1).set (x29_2 : Int).toNat (mx (rd (rd_L4 x3_43 x14_1) x29_2) t143))) x14_1 l0 (l0.length : Int) x14_1 y113 (y113.length : Int) ji56 ((rd_T57 l0 x14_1).f0) ((rd_T57 l0 x14_1).f1) ((rd_T57 l0 x14_1).f2) ((rd_T57 l0 x14_1).f3) ((rd_T57 l0 x14_1).f4))) else (none)) else (none)) else (none)) else (none)) = some r := by rw [if_neg (show ¬ (false = true) by decide)] at H; exact H
 clear H
 have H := H1
 clear H1
 by_cases c70 : 0 ≤ x14_1
 rotate_left
 · rw [if_neg c70] at H
   exact absurd H (by simp)
 rw [if_pos c70] at H
 have c70b0 : decide (0 ≤ x14_1) = true := zdt c70
 clear c70
 by_cases c71 : x14_1 < (x3_43.length : Int)
 rotate_left
 · rw [if_neg c71] at H
   exact absurd H (by simp)
 rw [if_pos c71] at H
 have c71b0 : decide (x14_1 < (x3_43.length : Int)) = true := zdt c71
 clear c71
 by_cases c72 : 0 ≤ x29_2
 rotate_left
 · rw [if_neg c72] at H
   exact absurd H (by simp)
 rw [if_pos c72] at H
 have c72b0 : decide (0 ≤ x29_2) = true := zdt c72
 clear c72
 by_cases c73 : x29_2 < ((rd_L4 x3_43 x14_1).length : Int)
 rotate_left
 · rw [if_neg c73] at H
   exact absurd H (by simp)
 rw [if_pos c73] at H
 have c73b0 : decide (x29_2 < ((rd_L4 x3_43 x14_1).length : Int)) = true := zdt c73
 clear c73
 replace H := zob H
 obtain ⟨t143, A740, H⟩ := H
 replace H : (impl_delays.l1 kj43 l0 (x3_43.set (x14_1 : Int).toNat ((rd_L4 x3_43 x14_1).set (x29_2 : Int).toNat (mx (rd (rd_L4 x3_43 x14_1) x29_2) t143))) x14_1 l0 (l0.length : Int) x14_1 y113 (y113.length : Int) ji56 ((rd_T57 l0 x14_1).f0) ((rd_T57 l0 x14_1).f1) ((rd_T57 l0 x14_1).f2) ((rd_T57 l0 x14_1).f3) ((rd_T57 l0 x14_1).f4)) = some r := H
 have A74 := zA A740
 clear A740
 obtain ⟨ji75, hji75⟩ : ∃ j_ : Int, (mx (rd (rd_L4 x3_43 x14_1) x29_2) t143) = j_ := ⟨_, rfl⟩
 replace H : (impl_delays.l1 kj43 l0 (x3_43.set (x14_1 : Int).toNat ((rd_L4 x3_43 x14_1).set (x29_2 : Int).toNat (ji75))) x14_1 l0 (l0.length : Int) x14_1 y113 (y113.length : Int) ji56 ((rd_T57 l0 x14_1).f0) ((rd_T57 l0 x14_1).f1) ((rd_T57 l0 x14_1).f2) ((rd_T57 l0 x14_1).f3) ((rd_T57 l0 x14_1).f4)) = some r := by first | (rw [hji75] at H; exact H) | (simp only [hji75] at H ⊢; exact H)
 (try rw [hji75] at A60)
 (try rw [hji75] at A61)
 (try rw [hji75] at A62)
 (try rw [hji75] at A74)
 have hji75_ : (if (rd (rd_L4 x3_43 x14_1) x29_2) < t143 then t143 else (rd (rd_L4 x3_43 x14_1) x29_2)) = ji75 := hji75
 obtain ⟨y144, hy144⟩ : ∃ y_ : List Int, y_ = ((rd_L4 x3_43 x14_1).set (x29_2 : Int).toNat (ji75)) := ⟨_, rfl⟩
 replace H : (impl_delays.l1 kj43 l0 (x3_43.set (x14_1 : Int).toNat y144) x14_1 l0 (l0.length : Int) x14_1 y113 (y113.length : Int) ji56 ((rd_T57 l0 x14_1).f0) ((rd_T57 l0 x14_1).f1) ((rd_T57 l0 x14_1).f2) ((rd_T57 l0 x14_1).f3) ((rd_T57 l0 x14_1).f4)) = some r := by first | (rw [hy144]; with_reducible exact H) | (have H2_ := (Option.bind_some _ _).symm.trans H; rw [hy144]; with_reducible exact H2_) | (have H2_ := (Option.bind_some _ _).symm.trans H; with_reducible exact H2_) | with_reducible exact H | (rw [hy144]; exact H) | exact H
 have Ny144 := zA hy144
 clear hy144
 obtain ⟨y146, hy146⟩ : ∃ y_ : List (List Int), y_ = (x3_43.set (x14_1 : Int).toNat y144) := ⟨_, rfl⟩
 replace H : (impl_delays.l1 kj43 l0 y146 x14_1 l0 (l0.length : Int) x14_1 y113 (y113.length : Int) ji56 ((rd_T57 l0 x14_1).f0) ((rd_T57 l0 x14_1).f1) ((rd_T57 l0 x14_1).f2) ((rd_T57 l0 x14_1).f3) ((rd_T57 l0 x14_1).f4)) = some r := by first | (rw [hy146]; with_reducible exact H) | (have H2_ := (Option.bind_some _ _).symm.trans H; rw [hy146]; with_reducible exact H2_) | (have H2_ := (Option.bind_some _ _).symm.trans H; with_reducible exact H2_) | with_reducible exact H | (rw [hy146]; exact H) | exact H
 have Ny146 := zA hy146
 clear hy146
 have H' := zA H
 clear H
 have q77 : (x14_1 : Int) ≤ ((l0.length : Int) : Int) := zde (by assumption)
 obtain ⟨i077, hi077, _, hsz77, _⟩ := info_parts info57
 have hroom77 : l0.length ≤ c0 := HC0.out
 have hC77 : Kd.C k57 _ (some ad104) l0.length l0 := HR0.out
 have ql77 : ((ji56) : Int) ≤ (x14_1 : Int) := zde (by assumption)
 have q077 : (0 : Int) ≤ ((ji56) : Int) := zde (by assumption)
 have hcut77 := cut_mid (P := Try.prog) 27 57 .i64 .i64 Try.underlying27 hi077 5 hsz77 (some ad104) l0.length c0 (ji56) x14_1 q077 ql77 q77 hroom77
 have hr77 := Kd.C_mid (lo := ((ji56) : Int).toNat) (hi := (x14_1 : Int).toNat) (c := c0) hC77 (by omega) (by omega) hroom77
 obtain ⟨A77, hA77⟩ : ∃ A1, A1 = (if c0 = ((ji56) : Int).toNat then (some ad104) else ((some ad104) : Option Addr).map (·.add (((ji56) : Int).toNat * 5))) := ⟨_, rfl⟩
 obtain ⟨c77, hc77⟩ : ∃ c1, c1 = c0 - ((ji56) : Int).toNat := ⟨_, rfl⟩
 have hy77 : y131.length = (x14_1 : Int).toNat - ((ji56) : Int).toNat := (by rw [Ny131.out, List.length_drop, List.length_take] <;> omega)
 rw [show ((l0).take (x14_1 : Int).toNat).drop ((ji56) : Int).toNat = y131 from Ny131.out.symm] at hr77
 replace hr77 : Kd.C k57 _ A77 y131.length y131 := (by rw [hA77]; exact hr77)
 rw [← hy77, ← hA77, ← hc77] at hcut77
 have HR134 := zA hr77
 have HC134 := zA (show y131.length ≤ c77 from by rw [hy77, hc77]; exact Nat.sub_le_sub_right (Nat.le_trans (by omega) hroom77) _)
 clear hr77 hC77 hroom77 hi077 hsz77 hc77
 have KY77 := zA hy77
 have KA77 := zA hA77
 clear hy77 hA77
 replace q77 := eq_true q77
 try go_wp2_with (first | ((with_reducible refine gate_callee (f := 86) rfl ?_); refine goesL_ (some 62) rfl rfl Try.func86 (by kernel_rfl) rfl #[.slice A77 y131.length c77, .func (Fn.func 87) #[] #[.pointer (some ⟨gb118, 0, none⟩)]] rfl (by (try simp only [List.map_toArray, List.map_cons, List.map_nil]); first | done | rfl | (simp only [List.length_drop, List.length_take]; rfl)) ?_; (with_reducible refine (slices_ContainsFunc_impl_delays_1.calls kj43 _ _ y131 _ 1 [(⟨((rd_T57 y113 x29_2).f0), ((rd_T57 y113 x29_2).f1), ((rd_T57 y113 x29_2).f2), ((rd_T57 y113 x29_2).f3), ((rd_T57 y113 x29_2).f4)⟩ : S57)] false _ ?side1 ?side2 ?side3 ?side4 A60.out).mono ?_); (case side1 => repeat (first | exact (zCb HR134.out HB.out) | (with_reducible first | refine zCa ?_ _ | refine zCn ?_ _ | refine zCd ?_))); (case side2 => exact HC134.out); (case side3 => exact box_C (g := gb118) (o := .cells #[.string ((rd_T57 y113 x29_2).f0), .int .i64 ((rd_T57 y113 x29_2).f1), .int .i64 ((rd_T57 y113 x29_2).f2), .int .i64 ((rd_T57 y113 x29_2).f3), .int .i64 ((rd_T57 y113 x29_2).f4)] 57 (0, 0)) (by (with_reducible repeat (first | refine zkn ?_ _ | refine zkd ?_ | refine zka ?_ _)); exact BK118.out) rfl (k57.K_of_M (k57_mkM _ 0 (fun _ => True) _))); (case side4 => exact zlr _); rintro e w78 ⟨rfl, hb⟩; refine ⟨_, rfl, ?_⟩; have n0_ := zA (Kd.S_below (by (with_reducible repeat (first | apply zSa | apply zSn | apply zSd)); exact HO_3.out) hb); have n1_ := zA (blk_below (g := gb105) (o := .cells #[.string ((rd_T57 l0 x14_1).f0), .int .i64 ((rd_T57 l0 x14_1).f1), .int .i64 ((rd_T57 l0 x14_1).f2), .int .i64 ((rd_T57 l0 x14_1).f3), .int .i64 ((rd_T57 l0 x14_1).f4)] 57 (0, 0)) (by (with_reducible repeat (first | refine zkn ?_ _ | refine zkd ?_ | refine zka ?_ _)); exact BK105.out) hb); have n2_ := zA (blk_below (g := gb118) (o := .cells #[.string ((rd_T57 y113 x29_2).f0), .int .i64 ((rd_T57 y113 x29_2).f1), .int .i64 ((rd_T57 y113 x29_2).f2), .int .i64 ((rd_T57 y113 x29_2).f3), .int .i64 ((rd_T57 y113 x29_2).f4)] 57 (0, 0)) (by (with_reducible repeat (first | refine zkn ?_ _ | refine zkd ?_ | refine zka ?_ _)); exact BK118.out) hb); have n3_ := zA (below_step (by repeat (first | (with_reducible first | exact HB.out | apply zba | apply zbn | apply zbd | refine below_set ?_ GE105.out | refine below_set ?_ GE118.out) | exact HB.out)) hb); clear HO_3 BK105; clear BK118 HB; have HO_3 := n0_; have BK105 := n1_; have BK118 := n2_; have HB := n3_; clear n0_ n1_ n2_ n3_; (try clear hb)))
 have n0_ := zA (zSd HO_3.out)
 have n1_ := zA (zkd BK105.out)
 have n2_ := zA (zkd BK118.out)
 have n3_ := zA (zbd HB.out)
 clear HO_3
 clear BK105
 clear BK118
 clear HB
 have HO_3 := n0_
 have BK105 := n1_
 have BK118 := n2_
 have HB := n3_
 clear n0_ n1_ n2_ n3_
 refine start_ (n := 9) (S := fun w' => w'.cell? ⟨gb105, 0, none⟩ = some (.string ((rd_T57 l0 x14_1).f0)) ∧ w'.cell? ⟨gb105, 1, none⟩ = some (.int .i64 ((rd_T57 l0 x14_1).f1)) ∧ w'.cell? ⟨gb105, 2, none⟩ = some (.int .i64 ((rd_T57 l0 x14_1).f2)) ∧ w'.cell? ⟨gb105, 3, none⟩ = some (.int .i64 ((rd_T57 l0 x14_1).f3)) ∧ w'.cell? ⟨gb105, 4, none⟩ = some (.int .i64 ((rd_T57 l0 x14_1).f4)) ∧ w'.cell? ⟨gb118, 0, none⟩ = some (.string ((rd_T57 y113 x29_2).f0)) ∧ w'.cell? ⟨gb118, 1, none⟩ = some (.int .i64 ((rd_T57 y113 x29_2).f1)) ∧ w'.cell? ⟨gb118, 2, none⟩ = some (.int .i64 ((rd_T57 y113 x29_2).f2)) ∧ w'.cell? ⟨gb118, 3, none⟩ = some (.int .i64 ((rd_T57 y113 x29_2).f3)) ∧ w'.cell? ⟨gb118, 4, none⟩ = some (.int .i64 ((rd_T57 y113 x29_2).f4))) (ds := []) #[false, false, false, false, false, false, false, false, false] (by kernel_rfl) rfl rfl ⟨(blk_cell BK105.out 0).trans rfl, (blk_cell BK105.out 1).trans rfl, (blk_cell BK105.out 2).trans rfl, (blk_cell BK105.out 3).trans rfl, (blk_cell BK105.out 4).trans rfl, (blk_cell BK118.out 0).trans rfl, (blk_cell BK118.out 1).trans rfl, (blk_cell BK118.out 2).trans rfl, (blk_cell BK118.out 3).trans rfl, (blk_cell BK118.out 4).trans rfl⟩ (fun hHeld => ?_); refine with_tabW impl_delays.tab14 impl_delays.bits14 (fun HT_ HW_ => ?_)
 generalize w78.drew = w79 at HO_3 BK105 BK118 HB hHeld ⊢
 refine pure_ (i := 2) (N := some 65) (v := ?_) (a' := ?_) #[false, false, true, false, false, false, false, false, false] rfl rfl (any_of HT_.out (by kernel_rfl)) (fun _ _ _ h => h) (Or.inl ⟨by rfl, ?_⟩) ?_ ?_
 rotate_left
 · intro w'
   go_simp
   with_reducible rfl
 rotate_left
 · simp only [Act.put, List.setIfInBounds_toArray, List.set_cons_zero, List.set_cons_succ, i64_w, i32_w]
   rfl
 refine take_ (i := 0) (N := some 63) (v := ?_) (a' := ?_) #[true, false, true, false, false, false, false, false, false] rfl rfl (take_ofW HT_.out HW_.out (by kernel_rfl)) (fun _ _ _ h => h) (Or.inl ⟨by rfl, ?_⟩) hHeld ?_ ?_
 rotate_left
 · rintro w' ⟨s0, s1, s2, s3, s4, s5, s6, s7, s8, s9⟩
   go_simp
   with_reducible rfl
 rotate_left
 · simp only [Act.put, List.setIfInBounds_toArray, List.set_cons_zero, List.set_cons_succ, i64_w, i32_w]
   rfl
 refine take_ (i := 3) (N := some 66) (v := ?_) (a' := ?_) #[true, false, true, true, false, false, false, false, false] rfl rfl (take_ofW HT_.out HW_.out (by kernel_rfl)) (fun _ _ _ h => h) (Or.inl ⟨by rfl, ?_⟩) hHeld ?_ ?_
 rotate_left
 · rintro w' ⟨s0, s1, s2, s3, s4, s5, s6, s7, s8, s9⟩
   go_simp
   with_reducible rfl
 rotate_left
 · simp only [Act.put, List.setIfInBounds_toArray, List.set_cons_zero, List.set_cons_succ, i64_w, i32_w]
   rfl
 refine one_ (i := 1) (N := some 64) #[true, true, true, true, false, false, false, false, false] rfl rfl (one_of HT_.out (by kernel_rfl)) (by decide) (fun K hK => ?_)
 refine goes_ Try.func85 (by kernel_rfl) rfl #[.agg #[.string ((rd_T57 l0 x14_1).f0), .int .i64 ((rd_T57 l0 x14_1).f1), .int .i64 ((rd_T57 l0 x14_1).f2), .int .i64 ((rd_T57 l0 x14_1).f3), .int .i64 ((rd_T57 l0 x14_1).f4)]] (by rfl) rfl rfl (by (try simp only [List.map_toArray, List.map_cons, List.map_nil]); first | done | rfl | (simp only [List.length_drop, List.length_take]; rfl)) ?_
 with_reducible refine (impl_Instr_reads.calls kj43 ((rd_T57 l0 x14_1).f0) ((rd_T57 l0 x14_1).f1) ((rd_T57 l0 x14_1).f2) ((rd_T57 l0 x14_1).f3) ((rd_T57 l0 x14_1).f4) t136 _ A61.out).mono ?_
 rintro e w80 ⟨v137, rfl, ho0, hb⟩
 refine ⟨_, rfl, ?_⟩
 have n0_ := zA (Kd.S_elder' (by (with_reducible repeat (first | apply zSa | apply zSn | apply zSd)); exact HO_3.out) (Kd.R_base ho0) hb)
 have n1_ := zA (Kd.R_lower ho0 (below_size (by repeat (first | (with_reducible first | exact HB.out | apply zba | apply zbn | apply zbd | refine below_set ?_ GE105.out | refine below_set ?_ GE118.out) | exact HB.out))))
 have n2_ := zA (blk_below (g := gb105) (o := .cells #[.string ((rd_T57 l0 x14_1).f0), .int .i64 ((rd_T57 l0 x14_1).f1), .int .i64 ((rd_T57 l0 x14_1).f2), .int .i64 ((rd_T57 l0 x14_1).f3), .int .i64 ((rd_T57 l0 x14_1).f4)] 57 (0, 0)) (by (with_reducible repeat (first | refine zkn ?_ _ | refine zkd ?_ | refine zka ?_ _)); exact BK105.out) hb)
 have n3_ := zA (blk_below (g := gb118) (o := .cells #[.string ((rd_T57 y113 x29_2).f0), .int .i64 ((rd_T57 y113 x29_2).f1), .int .i64 ((rd_T57 y113 x29_2).f2), .int .i64 ((rd_T57 y113 x29_2).f3), .int .i64 ((rd_T57 y113 x29_2).f4)] 57 (0, 0)) (by (with_reducible repeat (first | refine zkn ?_ _ | refine zkd ?_ | refine zka ?_ _)); exact BK118.out) hb)
 have n4_ := zA (below_step (by repeat (first | (with_reducible first | exact HB.out | apply zba | apply zbn | apply zbd | refine below_set ?_ GE105.out | refine below_set ?_ GE118.out) | exact HB.out)) hb)
 clear HO_3
 clear BK105
 clear BK118
 clear HB
 have HO_3 := n0_
 have HO138 := n1_
 have BK105 := n2_
 have BK118 := n3_
 have HB := n4_
 clear n0_ n1_ n2_ n3_ n4_
 (try clear hb)
 (try clear hb2)
 (try clear hk)
 (try clear hi)
 (try clear ho0)
 obtain ⟨Ao81, co81, eo81⟩ := Kd.R_slice HO138.out
 (first | subst eo81 | (injection eo81 with f1_ f2_ f3_; have f4_ := f1_.symm; have f5_ := f3_.symm; clear f1_ f2_ f3_; subst f4_; subst f5_))
 refine hK.out _ _ ⟨(blk_cell BK105.out 0).trans rfl, (blk_cell BK105.out 1).trans rfl, (blk_cell BK105.out 2).trans rfl, (blk_cell BK105.out 3).trans rfl, (blk_cell BK105.out 4).trans rfl, (blk_cell BK118.out 0).trans rfl, (blk_cell BK118.out 1).trans rfl, (blk_cell BK118.out 2).trans rfl, (blk_cell BK118.out 3).trans rfl, (blk_cell BK118.out 4).trans rfl⟩ (fun hHeld => ?_)
 clear hK K
 refine norm_ (a' := ?_) ?_ ?_
 rotate_left
 · show Act.put _ (some 64) _ = _
   simp only [Act.put, List.setIfInBounds_toArray, List.set_cons_zero, List.set_cons_succ, i64_w, i32_w]
   rfl
 refine one_ (i := 4) (N := some 67) #[true, true, true, true, true, false, false, false, false] rfl rfl (one_of HT_.out (by kernel_rfl)) (by decide) (fun K hK => ?_)
 refine goes_ Try.func82 (by kernel_rfl) rfl #[.slice Ao81 t136.length co81, .int .i64 ((rd_T57 y113 x29_2).f1)] (by rfl) rfl rfl (by (try simp only [List.map_toArray, List.map_cons, List.map_nil]); first | done | rfl | (simp only [List.length_drop, List.length_take]; rfl)) ?_
 with_reducible refine (slices_Contains_int_int.calls kj43 _ _ t136 ((rd_T57 y113 x29_2).f1) true _ ?side1 ?side2 A62.out).mono ?_
 (case side1 => repeat (first | exact (zRr HO138.out).2.2 | (with_reducible first | refine zCa ?_ _ | refine zCn ?_ _ | refine zCd ?_)))
 (case side2 => exact (zRr HO138.out).2.1)
 rintro e w' ⟨rfl, ⟨nd, rfl⟩⟩
 refine ⟨_, rfl, ?_⟩
 refine hK.out _ _ ⟨(blk_cell BK105.out 0).trans rfl, (blk_cell BK105.out 1).trans rfl, (blk_cell BK105.out 2).trans rfl, (blk_cell BK105.out 3).trans rfl, (blk_cell BK105.out 4).trans rfl, (blk_cell BK118.out 0).trans rfl, (blk_cell BK118.out 1).trans rfl, (blk_cell BK118.out 2).trans rfl, (blk_cell BK118.out 3).trans rfl, (blk_cell BK118.out 4).trans rfl⟩ (fun hHeld => ?_)
 clear hK K
 refine norm_ (a' := ?_) ?_ ?_
 rotate_left
 · show Act.put _ (some 67) _ = _
   simp only [Act.put, List.setIfInBounds_toArray, List.set_cons_zero, List.set_cons_succ, i64_w, i32_w]
   rfl
 refine pure_ (i := 5) (N := some 68) (v := ?_) (a' := ?_) #[true, true, true, true, true, true, false, false, false] rfl rfl (any_of HT_.out (by kernel_rfl)) (fun _ _ _ h => h) (Or.inl ⟨by rfl, ?_⟩) ?_ ?_
 rotate_left
 · intro w'
   go_simp
   with_reducible rfl
 rotate_left
 · simp only [Act.put, List.setIfInBounds_toArray, List.set_cons_zero, List.set_cons_succ, i64_w, i32_w]
   rfl
 refine pure_ (i := 6) (N := some 69) (v := ?_) (a' := ?_) #[true, true, true, true, true, true, true, false, false] rfl rfl (any_of HT_.out (by kernel_rfl)) (fun _ _ _ h => h) (Or.inl ⟨by rfl, ?_⟩) ?_ ?_
 rotate_left
 · intro w'
   go_simp
   with_reducible rfl
 rotate_left
 · simp only [Act.put, List.setIfInBounds_toArray, List.set_cons_zero, List.set_cons_succ, i64_w, i32_w]
   rfl
 refine pure_ (i := 7) (N := some 70) (v := ?_) (a' := ?_) #[true, true, true, true, true, true, true, true, false] rfl rfl (any_of HT_.out (by kernel_rfl)) (fun _ _ _ h => h) (Or.inl ⟨by rfl, ?_⟩) ?_ ?_
 rotate_left
 · intro w'
   go_simp
   with_reducible rfl
 rotate_left
 · simp only [Act.put, List.setIfInBounds_toArray, List.set_cons_zero, List.set_cons_succ, i64_w, i32_w]
   rfl
 refine pure_ (i := 8) (N := some 71) (v := ?_) (a' := ?_) #[true, true, true, true, true, true, true, true, true] rfl rfl (any_of HT_.out (by kernel_rfl)) (fun _ _ _ h => h) (Or.inl ⟨by rfl, ?_⟩) ?_ ?_
 rotate_left
 · intro w'
   go_simp
   with_reducible rfl
 rotate_left
 · simp only [Act.put, List.setIfInBounds_toArray, List.set_cons_zero, List.set_cons_succ, i64_w, i32_w]
   rfl
 refine done_ (done_of HT_.out (by kernel_rfl)) ?_
 (try (rw [drewN_self w80]; generalize hq_ : World.drewN w80 _ = w80; have n0_ := zA (Kd.S_at hq_ HO_3.out); have n1_ := zA (Kd.R_at hq_ HO138.out); have n2_ := zA (blk_at hq_ BK105.out); have n3_ := zA (blk_at hq_ BK118.out); have n4_ := zA (below_at hq_ HB.out); clear hq_ HO_3 HO138 BK105 BK118 HB; have HO_3 := n0_; have HO138 := n1_; have BK105 := n2_; have BK118 := n3_; have HB := n4_; clear n0_ n1_ n2_ n3_ n4_))
 try go_wp2
 (try (rw [drewN_self w80]; generalize hq_ : World.drewN w80 _ = w80; have n0_ : Aside0 (Kd.R (Kd.int .i64) 3 w80 w.heap.size (fun _ => True) (.slice Ao81 t136.length co81) t136) := ⟨by rw [← hq_]; exact (by (with_reducible repeat (first | apply zRa | apply zRn | apply zRd)); exact HO138.out)⟩; have n1_ : Aside0 (Kd.S (Kd.slice 3 (Kd.int .i64)) 34 w80 w.heap.size (fun k_ => some k_ ≠ (.slice Ao81 t136.length co81 : Value).ownBlock) (.slice (some ⟨go11, 0, none⟩) x3_43.length co11) x3_43) := ⟨by rw [← hq_]; exact (by (with_reducible repeat (first | apply zSa | apply zSn | apply zSd)); exact Kd.S_mono HO_3.out (fun _ hk => hk.2))⟩; have n2_ : Aside0 (w80.heap[gb105]? = some (.cells #[.string ((rd_T57 l0 x14_1).f0), .int .i64 ((rd_T57 l0 x14_1).f1), .int .i64 ((rd_T57 l0 x14_1).f2), .int .i64 ((rd_T57 l0 x14_1).f3), .int .i64 ((rd_T57 l0 x14_1).f4)] 57 (0, 0))) := ⟨by rw [← hq_]; exact (by (with_reducible repeat (first | refine zkn ?_ _ | refine zkd ?_ | refine zka ?_ _)); exact BK105.out)⟩; have n3_ : Aside0 (w80.heap[gb118]? = some (.cells #[.string ((rd_T57 y113 x29_2).f0), .int .i64 ((rd_T57 y113 x29_2).f1), .int .i64 ((rd_T57 y113 x29_2).f2), .int .i64 ((rd_T57 y113 x29_2).f3), .int .i64 ((rd_T57 y113 x29_2).f4)] 57 (0, 0))) := ⟨by rw [← hq_]; exact (by (with_reducible repeat (first | refine zkn ?_ _ | refine zkd ?_ | refine zka ?_ _)); exact BK118.out)⟩; have n4_ : Aside0 (Below w.heap.size w w80) := ⟨by rw [← hq_]; exact (by repeat (first | (with_reducible first | exact HB.out | apply zba | apply zbn | apply zbd | refine below_set ?_ GE105.out | refine below_set ?_ GE118.out) | exact HB.out))⟩; clear HO138 HO_3 BK105 BK118 HB hq_; have HO138 := n0_; have HO_3 := n1_; have BK105 := n2_; have BK118 := n3_; have HB := n4_; clear n0_ n1_ n2_ n3_ n4_))
 have n0_ := zA (zSd HO_3.out)
 have n1_ := zA (zRd HO138.out)
 have n2_ := zA (zkd BK105.out)
 have n3_ := zA (zkd BK118.out)
 have n4_ := zA (zbd HB.out)
 clear HO_3
 clear HO138
 clear BK105
 clear BK118
 clear HB
 have HO_3 := n0_
 have HO138 := n1_
 have BK105 := n2_
 have BK118 := n3_
 have HB := n4_
 clear n0_ n1_ n2_ n3_ n4_
 have p140 : 0 ≤ (x14_1 : Int) := zde (by assumption)
 have q140 : x14_1 < (x3_43.length : Int) := zde (by assumption)
 obtain ⟨ad140, A140_0, c140_0, e140, hx140_0, hl140_0, hi140_0⟩ := at_L4 (zSr HO_3.out).2.2 x14_1 p140 q140
 obtain rfl : (⟨go11, 0, none⟩ : Addr) = ad140 := (by injection e140)
 obtain ⟨ce140, hce140, hMe140, hcc140⟩ := Kd.S_get HO_3.out [] x14_1 p140 (by first | exact q140 | exact zde (by assumption) | (have e_ := (zSr HO_3.out).1; omega))
 obtain ⟨ve140_0, rfl, ge140_0⟩ := hMe140
 have hv140_0 := hcc140 0 _ rfl
 rw [Nat.add_zero, show ((Kd.slice 3 (Kd.int .i64))).sz = 1 from rfl, Nat.mul_one] at hv140_0
 replace hv140_0 := zsi (hv140_0.symm.trans hx140_0)
 rw [hv140_0] at ge140_0
 have HL140_0 := zA (show Kd.R (Kd.int .i64) 3 _ _ _ _ (rd_L4 x3_43 x14_1) from ge140_0)
 clear hv140_0 ge140_0
 have HX140_0 := zA hx140_0
 clear hcc140 hce140
 (first | simp only [add_plain] at hx140_0 | simp only [add_at] at hx140_0 | simp only [Addr.add, Nat.zero_add] at hx140_0 | skip)
 have HR140_0 := zA hi140_0
 have HC140_0 := zA hl140_0
 clear hi140_0 hl140_0
 replace p140 := eq_true p140
 replace q140 := eq_true q140
 have p141 : 0 ≤ (x14_1 : Int) := zde (by assumption)
 have q141 : x14_1 < (x3_43.length : Int) := zde (by assumption)
 obtain ⟨ad141, A141_0, c141_0, e141, hx141_0, hl141_0, hi141_0⟩ := at_L4 (zSr HO_3.out).2.2 x14_1 p141 q141
 obtain rfl : (⟨go11, 0, none⟩ : Addr) = ad141 := (by injection e141)
 obtain ⟨ce141, hce141, hMe141, hcc141⟩ := Kd.S_get HO_3.out [] x14_1 p141 (by first | exact q141 | exact zde (by assumption) | (have e_ := (zSr HO_3.out).1; omega))
 obtain ⟨ve141_0, rfl, ge141_0⟩ := hMe141
 have hv141_0 := hcc141 0 _ rfl
 rw [Nat.add_zero, show ((Kd.slice 3 (Kd.int .i64))).sz = 1 from rfl, Nat.mul_one] at hv141_0
 replace hv141_0 := zsi (hv141_0.symm.trans hx141_0)
 rw [hv141_0] at ge141_0
 have HL141_0 := zA (show Kd.R (Kd.int .i64) 3 _ _ _ _ (rd_L4 x3_43 x14_1) from ge141_0)
 clear hv141_0 ge141_0
 have HX141_0 := zA hx141_0
 clear hcc141 hce141
 (first | simp only [add_plain] at hx141_0 | simp only [add_at] at hx141_0 | simp only [Addr.add, Nat.zero_add] at hx141_0 | skip)
 have HR141_0 := zA hi141_0
 have HC141_0 := zA hl141_0
 clear hi141_0 hl141_0
 replace p141 := eq_true p141
 replace q141 := eq_true q141
 have ea_ := zsi (hx140_0.symm.trans hx141_0)
 injection ea_ with ea_ en_ ec_
 subst ea_
 subst ec_
 clear en_
 have p142 : 0 ≤ (x29_2 : Int) := zde (by assumption)
 have q142 : x29_2 < ((rd_L4 x3_43 x14_1).length : Int) := zde (by assumption)
 obtain ⟨ad142, e142, hx142_0⟩ := Kd.at_int (by repeat (first | (with_reducible exact HR141_0.out) | (with_reducible first | refine zCa ?_ _ | refine zCn ?_ _ | refine zCd ?_) | exact HR141_0.out)) x29_2 p142 q142
 cases e142
 replace p142 := eq_true p142
 replace q142 := eq_true q142
 refine start_ (n := 17) (S := fun w' => w'.cell? ⟨gb118, 0, none⟩ = some (.string ((rd_T57 y113 x29_2).f0)) ∧ w'.cell? ⟨gb118, 1, none⟩ = some (.int .i64 ((rd_T57 y113 x29_2).f1)) ∧ w'.cell? ⟨gb118, 2, none⟩ = some (.int .i64 ((rd_T57 y113 x29_2).f2)) ∧ w'.cell? ⟨gb118, 3, none⟩ = some (.int .i64 ((rd_T57 y113 x29_2).f3)) ∧ w'.cell? ⟨gb118, 4, none⟩ = some (.int .i64 ((rd_T57 y113 x29_2).f4)) ∧ w'.cell? ⟨go11, (x14_1).toNat, none⟩ = some (.slice (some ad142) (rd_L4 x3_43 x14_1).length c140_0) ∧ w'.cell? ⟨go11, (x14_1).toNat, none⟩ = some (.slice (some ad142) (rd_L4 x3_43 x14_1).length c140_0) ∧ w'.cell? (ad142.add (x29_2).toNat) = some (.int .i64 (rd (rd_L4 x3_43 x14_1) x29_2))) (ds := [16]) #[false, false, false, false, false, false, false, false, false, false, false, false, false, false, false, false, false] (by kernel_rfl) rfl rfl ⟨(blk_cell BK118.out 0).trans rfl, (blk_cell BK118.out 1).trans rfl, (blk_cell BK118.out 2).trans rfl, (blk_cell BK118.out 3).trans rfl, (blk_cell BK118.out 4).trans rfl, hx140_0, hx141_0, hx142_0⟩ (fun hHeld => ?_); refine with_tabW impl_delays.tab15 impl_delays.bits15 (fun HT_ HW_ => ?_)
 generalize w80.drew = w82 at HO_3 HO138 BK105 BK118 HB HL140_0 HL141_0 HR140_0 HR141_0 HX140_0 HX141_0 hx140_0 hx141_0 hx142_0 hHeld ⊢
 refine pure_ (i := 0) (N := some 72) (v := ?_) (a' := ?_) #[true, false, false, false, false, false, false, false, false, false, false, false, false, false, false, false, false] rfl rfl (any_of HT_.out (by kernel_rfl)) (fun _ _ _ h => h) (Or.inl ⟨by rfl, ?_⟩) ?_ ?_
 rotate_left
 · intro w'
   go_simp
   with_reducible rfl
 rotate_left
 · simp only [Act.put, List.setIfInBounds_toArray, List.set_cons_zero, List.set_cons_succ, i64_w, i32_w]
   rfl
 refine pure_ (i := 1) (N := some 73) (v := ?_) (a' := ?_) #[true, true, false, false, false, false, false, false, false, false, false, false, false, false, false, false, false] rfl rfl (any_of HT_.out (by kernel_rfl)) (fun _ _ _ h => h) (Or.inl ⟨by rfl, ?_⟩) ?_ ?_
 rotate_left
 · intro w'
   go_simp
   with_reducible rfl
 rotate_left
 · simp only [Act.put, List.setIfInBounds_toArray, List.set_cons_zero, List.set_cons_succ, i64_w, i32_w]
   rfl
 refine pure_ (i := 2) (N := some 74) (v := ?_) (a' := ?_) #[true, true, true, false, false, false, false, false, false, false, false, false, false, false, false, false, false] rfl rfl (any_of HT_.out (by kernel_rfl)) (fun _ _ _ h => h) (Or.inl ⟨by rfl, ?_⟩) ?_ ?_
 rotate_left
 · intro w'
   go_simp
   with_reducible rfl
 rotate_left
 · simp only [Act.put, List.setIfInBounds_toArray, List.set_cons_zero, List.set_cons_succ, i64_w, i32_w]
   rfl
 refine pure_ (i := 4) (N := some 76) (v := ?_) (a' := ?_) #[true, true, true, false, true, false, false, false, false, false, false, false, false, false, false, false, false] rfl rfl (any_of HT_.out (by kernel_rfl)) (fun _ _ _ h => h) (Or.inl ⟨by rfl, ?_⟩) ?_ ?_
 rotate_left
 · intro w'
   go_simp
   with_reducible rfl
 rotate_left
 · simp only [Act.put, List.setIfInBounds_toArray, List.set_cons_zero, List.set_cons_succ, i64_w, i32_w]
   rfl
 refine pure_ (i := 5) (N := some 77) (v := ?_) (a' := ?_) #[true, true, true, false, true, true, false, false, false, false, false, false, false, false, false, false, false] rfl rfl (any_of HT_.out (by kernel_rfl)) (fun _ _ _ h => h) (Or.inl ⟨by rfl, ?_⟩) ?_ ?_
 rotate_left
 · intro w'
   go_simp
   with_reducible rfl
 rotate_left
 · simp only [Act.put, List.setIfInBounds_toArray, List.set_cons_zero, List.set_cons_succ, i64_w, i32_w]
   rfl
 refine pure_ (i := 6) (N := some 78) (v := ?_) (a' := ?_) #[true, true, true, false, true, true, true, false, false, false, false, false, false, false, false, false, false] rfl rfl (any_of HT_.out (by kernel_rfl)) (fun _ _ _ h => h) (Or.inl ⟨by rfl, ?_⟩) ?_ ?_
 rotate_left
 · intro w'
   go_simp
   with_reducible rfl
 rotate_left
 · simp only [Act.put, List.setIfInBounds_toArray, List.set_cons_zero, List.set_cons_succ, i64_w, i32_w]
   rfl
 refine pure_ (i := 7) (N := some 79) (v := ?_) (a' := ?_) #[true, true, true, false, true, true, true, true, false, false, false, false, false, false, false, false, false] rfl rfl (any_of HT_.out (by kernel_rfl)) (fun _ _ _ h => h) (Or.inl ⟨by rfl, ?_⟩) ?_ ?_
 rotate_left
 · intro w'
   go_simp
   with_reducible rfl
 rotate_left
 · simp only [Act.put, List.setIfInBounds_toArray, List.set_cons_zero, List.set_cons_succ, i64_w, i32_w]
   rfl
 refine pure_ (i := 9) (N := some 81) (v := ?_) (a' := ?_) #[true, true, true, false, true, true, true, true, false, true, false, false, false, false, false, false, false] rfl rfl (any_of HT_.out (by kernel_rfl)) (fun _ _ _ h => h) (Or.inl ⟨by rfl, ?_⟩) ?_ ?_
 rotate_left
 · intro w'
   go_simp
   with_reducible rfl
 rotate_left
 · simp only [Act.put, List.setIfInBounds_toArray, List.set_cons_zero, List.set_cons_succ, i64_w, i32_w]
   rfl
 refine take_ (i := 3) (N := some 75) (v := ?_) (a' := ?_) #[true, true, true, true, true, true, true, true, false, true, false, false, false, false, false, false, false] rfl rfl (take_ofW HT_.out HW_.out (by kernel_rfl)) (fun _ _ _ h => h) (Or.inl ⟨by rfl, ?_⟩) hHeld ?_ ?_
 rotate_left
 · rintro w' ⟨s0, s1, s2, s3, s4, s5, s6, s7⟩
   go_simp
   with_reducible rfl
 rotate_left
 · simp only [Act.put, List.setIfInBounds_toArray, List.set_cons_zero, List.set_cons_succ, i64_w, i32_w]
   rfl
 refine take_ (i := 8) (N := some 80) (v := ?_) (a' := ?_) #[true, true, true, true, true, true, true, true, true, true, false, false, false, false, false, false, false] rfl rfl (take_ofW HT_.out HW_.out (by kernel_rfl)) (fun _ _ _ h => h) (Or.inl ⟨by rfl, ?_⟩) hHeld ?_ ?_
 rotate_left
 · rintro w' ⟨s0, s1, s2, s3, s4, s5, s6, s7⟩
   go_simp
   with_reducible rfl
 rotate_left
 · simp only [Act.put, List.setIfInBounds_toArray, List.set_cons_zero, List.set_cons_succ, i64_w, i32_w]
   rfl
 refine pure_ (i := 10) (N := some 82) (v := ?_) (a' := ?_) #[true, true, true, true, true, true, true, true, true, true, true, false, false, false, false, false, false] rfl rfl (any_of HT_.out (by kernel_rfl)) (fun _ _ _ h => h) (Or.inl ⟨by rfl, ?_⟩) ?_ ?_
 rotate_left
 · intro w'
   go_simp
   with_reducible rfl
 rotate_left
 · simp only [Act.put, List.setIfInBounds_toArray, List.set_cons_zero, List.set_cons_succ, i64_w, i32_w]
   rfl
 refine take_ (i := 11) (N := some 83) (v := ?_) (a' := ?_) #[true, true, true, true, true, true, true, true, true, true, true, true, false, false, false, false, false] rfl rfl (take_ofW HT_.out HW_.out (by kernel_rfl)) (fun _ _ _ h => h) (Or.inl ⟨by rfl, ?_⟩) hHeld ?_ ?_
 rotate_left
 · rintro w' ⟨s0, s1, s2, s3, s4, s5, s6, s7⟩
   go_simp
   with_reducible rfl
 rotate_left
 · simp only [Act.put, List.setIfInBounds_toArray, List.set_cons_zero, List.set_cons_succ, i64_w, i32_w]
   rfl
 refine take_ (i := 12) (N := some 84) (v := ?_) (a' := ?_) #[true, true, true, true, true, true, true, true, true, true, true, true, true, false, false, false, false] rfl rfl (take_ofW HT_.out HW_.out (by kernel_rfl)) (fun _ _ _ h => h) (Or.inl ⟨by rfl, ?_⟩) hHeld ?_ ?_
 rotate_left
 · rintro w' ⟨s0, s1, s2, s3, s4, s5, s6, s7⟩
   go_simp
   with_reducible rfl
 rotate_left
 · simp only [Act.put, List.setIfInBounds_toArray, List.set_cons_zero, List.set_cons_succ, i64_w, i32_w]
   rfl
 refine one_ (i := 13) (N := some 85) #[true, true, true, true, true, true, true, true, true, true, true, true, true, true, false, false, false] rfl rfl (one_of HT_.out (by kernel_rfl)) (by decide) (fun K hK => ?_)
 refine goes_ Try.func66 (by kernel_rfl) rfl #[.agg #[.string ((rd_T57 y113 x29_2).f0), .int .i64 ((rd_T57 y113 x29_2).f1), .int .i64 ((rd_T57 y113 x29_2).f2), .int .i64 ((rd_T57 y113 x29_2).f3), .int .i64 ((rd_T57 y113 x29_2).f4)]] (by rfl) rfl rfl (by (try simp only [List.map_toArray, List.map_cons, List.map_nil]); first | done | rfl | (simp only [List.length_drop, List.length_take]; rfl)) ?_
 with_reducible refine (impl_Instr_cost.calls ((rd_T57 y113 x29_2).f0) ((rd_T57 y113 x29_2).f1) ((rd_T57 y113 x29_2).f2) ((rd_T57 y113 x29_2).f3) ((rd_T57 y113 x29_2).f4) t143 _ A74.out).mono ?_
 rintro e w83 ⟨rfl, hb⟩
 have HS5_ := (hb.cell (World.block_lt_of_cell? _ _ (hHeld.2.2.2.2.2.1))).trans (hHeld.2.2.2.2.2.1)
 have HS6_ := (hb.cell (World.block_lt_of_cell? _ _ (hHeld.2.2.2.2.2.2.1))).trans (hHeld.2.2.2.2.2.2.1)
 have HS7_ := (hb.cell (World.block_lt_of_cell? _ _ (hHeld.2.2.2.2.2.2.2))).trans (hHeld.2.2.2.2.2.2.2)
 refine ⟨_, rfl, ?_⟩
 have n0_ := zA (Kd.S_below (by (with_reducible repeat (first | apply zSa | apply zSn | apply zSd)); exact HO_3.out) hb)
 have n1_ := zA (zRb (by (with_reducible repeat (first | apply zRa | apply zRn | apply zRd)); exact HO138.out) hb)
 have n2_ := zA (zRb (by (with_reducible repeat (first | apply zRa | apply zRn | apply zRd)); exact HL140_0.out) hb)
 have n3_ := zA (zRb (by (with_reducible repeat (first | apply zRa | apply zRn | apply zRd)); exact HL141_0.out) hb)
 have n4_ := zA (blk_below (g := gb105) (o := .cells #[.string ((rd_T57 l0 x14_1).f0), .int .i64 ((rd_T57 l0 x14_1).f1), .int .i64 ((rd_T57 l0 x14_1).f2), .int .i64 ((rd_T57 l0 x14_1).f3), .int .i64 ((rd_T57 l0 x14_1).f4)] 57 (0, 0)) (by (with_reducible repeat (first | refine zkn ?_ _ | refine zkd ?_ | refine zka ?_ _)); exact BK105.out) hb)
 have n5_ := zA (blk_below (g := gb118) (o := .cells #[.string ((rd_T57 y113 x29_2).f0), .int .i64 ((rd_T57 y113 x29_2).f1), .int .i64 ((rd_T57 y113 x29_2).f2), .int .i64 ((rd_T57 y113 x29_2).f3), .int .i64 ((rd_T57 y113 x29_2).f4)] 57 (0, 0)) (by (with_reducible repeat (first | refine zkn ?_ _ | refine zkd ?_ | refine zka ?_ _)); exact BK118.out) hb)
 have n6_ := zA (zCb (by repeat (first | (with_reducible exact HR140_0.out) | (with_reducible first | refine zCa ?_ _ | refine zCn ?_ _ | refine zCd ?_) | exact HR140_0.out)) hb)
 have n7_ := zA (pw_cell_below hb HX140_0.out)
 have n8_ := zA (zCb (by repeat (first | (with_reducible exact HR141_0.out) | (with_reducible first | refine zCa ?_ _ | refine zCn ?_ _ | refine zCd ?_) | exact HR141_0.out)) hb)
 have n9_ := zA (pw_cell_below hb HX141_0.out)
 have n10_ := zA (below_step (by repeat (first | (with_reducible first | exact HB.out | apply zba | apply zbn | apply zbd | refine below_set ?_ GE105.out | refine below_set ?_ GE118.out) | exact HB.out)) hb)
 clear HO_3
 clear HO138
 clear HL140_0
 clear HL141_0
 clear BK105
 clear BK118
 clear HR140_0
 clear HX140_0
 clear HR141_0
 clear HX141_0
 clear HB
 have HO_3 := n0_
 have HO138 := n1_
 have HL140_0 := n2_
 have HL141_0 := n3_
 have BK105 := n4_
 have BK118 := n5_
 have HR140_0 := n6_
 have HX140_0 := n7_
 have HR141_0 := n8_
 have HX141_0 := n9_
 have HB := n10_
 clear n0_ n1_ n2_ n3_ n4_ n5_ n6_ n7_ n8_ n9_ n10_
 (try clear hb)
 (try clear hb2)
 (try clear hk)
 (try clear hi)
 have p76 : 0 ≤ (x29_2 : Int) := zde (by assumption)
 have q76 : (x29_2 : Int) < (((rd_L4 x3_43 x14_1).length : Int) : Int) := zde (by assumption)
 obtain ⟨go76, co76, eo76, gb76, gl76, cl76, HG76⟩ := Kd.R_form HL140_0.out (by omega)
 (first | cases eo76 | (injection eo76 with ea_ en_ ec_; (first | subst ea_ | (injection ea_ with ea_; subst ea_)); subst ec_; clear en_))
 have GB76 := zA gb76
 have GG76 := zA HG76
 clear gb76 gl76 HG76
 (first | simp only [add_plain] at hx142_0 | skip)
 obtain ⟨hx76_0, hf76_0⟩ := Kd.R_celln 0 HL140_0.out (x29_2 : Int) p76 q76
 replace p76 := eq_true p76
 replace q76 := eq_true q76
 have n_ := zA (Kd.S_mono (ok' := (fun k_ => some k_ ≠ (.slice Ao81 t136.length co81 : Value).ownBlock)) HO_3.out (fun k_ hk => hk.2))
 clear HO_3
 have HO_3 := n_
 clear n_
 have hq84 : (x14_1 : Int) < (x3_43.length : Int) := (by have h_ : (x14_1 : Int) < ((x3_43.length : Int) : Int) := zde (by assumption); first | exact h_ | (have e_ := (zSr HO_3.out).1; omega) | simpa only [List.length_set, List.length_set] using h_)
 obtain ⟨oki84, ce84, hcl84, hM84, hcc84, hok84, hbk84⟩ := Kd.S_borrow HO_3.out [] (x14_1 : Int) (zde (by assumption)) hq84
 obtain ⟨ve84_0, rfl, ge84_0⟩ := (id hM84)
 have hv84 := hcc84 0 _ rfl
 rw [Nat.add_zero, show ((Kd.slice 3 (Kd.int .i64))).sz = 1 from rfl, Nat.mul_one] at hv84
 replace hv84 := zsi (hv84.symm.trans HX140_0.out)
 subst hv84
 clear hcc84 hcl84
 replace ge84_0 := (show Kd.R (Kd.int .i64) 3 _ _ _ _ (rd_L4 x3_43 x14_1) from ge84_0)
 have HP84 := Kd.R_putg ge84_0 (x29_2 : Int) ji75
 rw [← Ny144.out] at HP84
 have HS84 := hbk84 HP84.2 (fun k_ e_ => by injection e_ with e_; subst e_; exact ge84_0.1 _ rfl) (x' := y144) (Kd.M_row HP84.1)
 rw [← Ny146.out] at HS84
 have HQ84 := zA HS84
 clear HP84 HS84 hbk84 hok84
 refine hK.out _ _ ⟨(blk_cell BK118.out 0).trans rfl, (blk_cell BK118.out 1).trans rfl, (blk_cell BK118.out 2).trans rfl, (blk_cell BK118.out 3).trans rfl, (blk_cell BK118.out 4).trans rfl, HS5_, HS6_, HS7_⟩ (fun hHeld => ?_)
 clear hK K
 refine norm_ (a' := ?_) ?_ ?_
 rotate_left
 · show Act.put _ (some 85) _ = _
   simp only [Act.put, List.setIfInBounds_toArray, List.set_cons_zero, List.set_cons_succ, i64_w, i32_w]
   rfl
 refine pure_ (i := 14) (N := some 86) (v := ?_) (a' := ?_) #[true, true, true, true, true, true, true, true, true, true, true, true, true, true, true, false, false] rfl rfl (any_of HT_.out (by kernel_rfl)) (fun _ _ _ h => h) (Or.inl ⟨by rfl, ?_⟩) ?_ ?_
 rotate_left
 · intro w'
   go_simp
   with_reducible rfl
 rotate_left
 · simp only [Act.put, List.setIfInBounds_toArray, List.set_cons_zero, List.set_cons_succ, i64_w, i32_w]
   rfl
 refine pure_ (i := 15) (N := some 87) (v := ?_) (a' := ?_) #[true, true, true, true, true, true, true, true, true, true, true, true, true, true, true, true, false] rfl rfl (any_of HT_.out (by kernel_rfl)) (fun _ _ _ h => h) (Or.inl ⟨by rfl, ?_⟩) ?_ ?_
 rotate_left
 · intro w'
   go_simp
   with_reducible rfl
 rotate_left
 · simp only [Act.put, List.setIfInBounds_toArray, List.set_cons_zero, List.set_cons_succ, i64_w, i32_w]
   rfl
 refine last_ (i := 16) (N := none) #[true, true, true, true, true, true, true, true, true, true, true, true, true, true, true, true, true] rfl rfl (one_of HT_.out (by kernel_rfl)) (by decide) (fun K hK => ?_)
 refine skip_ (w1 := ?_) (by rfl) rfl ?_ ?_
 rotate_left
 · go_simp
   rfl
 refine hK.out _ _ ?_
 clear hK K
 refine done_ (done_of HT_.out (by kernel_rfl)) ?_
 try go_wp2
 (try simp only [← hl3_2, ← hl3_28, ← hl3_43])
 go_roundg kj43
 case measure => have := HK1.out; have := HK2.out; have := HJ28.out; have := HJ43.out; omega
 case rel => exact ⟨(y146), (ji56), (by first | rfl | (simp; done) | (simp only [← hji56] <;> (first | rfl | simp)) | (simp [*]; done)), H', ⟨by have := HK1.out; have := HK2.out; have := HJ28.out; have := HJ43.out; omega⟩, ⟨by (try simp only [hl3_2]); (try simp only [hl3_28]); (try simp only [hl3_43]); (with_reducible repeat (first | apply zSa | apply zSn | apply zSd)); exact Kd.S_mono HQ84.out (fun _ hk => trivial)⟩, ⟨by (try simp only [hl3_2]); (try simp only [hl3_28]); (try simp only [hl3_43]); (with_reducible repeat (first | refine zkn ?_ _ | refine zkd ?_ | refine zka ?_ _)); refine blk_far ?_ (by have h_ := Kd.R_ne HL140_0.out BK105.out (by decide); intro e_; exact h_ (by rw [e_]; rfl)) _; (with_reducible repeat (first | refine zkn ?_ _ | refine zkd ?_ | refine zka ?_ _)); exact BK105.out⟩, ⟨by repeat (first | (with_reducible first | exact HB.out | apply zba | apply zbn | apply zbd | refine below_set ?_ GB76.out | refine below_set ?_ GE105.out | refine below_set ?_ GE118.out) | exact HB.out)⟩⟩
end Go.Proofs.Yteaablbhdmkcpaa.Q
end
section
namespace Go.Proofs.Yteaablbhdmkcpaa.Q
open Go.RowKit Go.Proofs.YteaablbhdmkcpaaW.PrintWords Go.Proofs.YteaablbhdmkcpaaW.PrintLast Go.Proofs.YteaablbhdmkcpaaW.PrintMore
attribute [local go_sem] max2_int min2_int max_two min_two max_three min_three max_four min_four
set_option linter.unusedVariables false
set_option linter.unusedSimpArgs false
mutual
def impl_isOrder.j0 : Nat → List (S57) → List Int → Bool → Option (Bool)
 | 0, _, _, _ => none
 | k + 1, x0, x1, x19 => if x19 = true then (some false) else ((impl_delays.f k x0).bind fun t102 => (impl_isOrder.l0 k x0 x1 t102 x1 (x1.length : Int) 0))
def impl_isOrder.l0 : Nat → List (S57) → List Int → List (List Int) → List Int → Int → Int → Option (Bool)
 | 0, _, _, _, _, _, _ => none
 | k + 1, x0, x1, x5, x22, x23, x24 => if x24 < x23 then (if 0 ≤ x24 then (if x24 < (x22.length : Int) then ((impl_within.f (rd x22 x24) 0 (wrap64 ((x0.length : Int) - 1))).bind fun t106 => (if t106 = true then (if x24 ≤ (x1.length : Int) then (impl_isOrder.l1 k x0 x1 x5 (rd x22 x24) x22 x23 x24 (x1.drop (x24 : Int).toNat) ((x1.drop (x24 : Int).toNat).length : Int) 0) else (none)) else (some false))) else (none)) else (none)) else (some true)
def impl_isOrder.l1 : Nat → List (S57) → List Int → List (List Int) → Int → List Int → Int → Int → List Int → Int → Int → Option (Bool)
 | 0, _, _, _, _, _, _, _, _, _, _ => none
 | k + 1, x0, x1, x5, x7, x22, x23, x24, x37, x38, x39 => if x39 < x38 then (if 0 ≤ x39 then (if x39 < (x37.length : Int) then (if (rd x37 x39) ≥ 0 then (if (rd x37 x39) < x7 then (if 0 ≤ x7 then (if x7 < (x5.length : Int) then (if 0 ≤ (rd x37 x39) then (if (rd x37 x39) < ((rd_L4 x5 x7).length : Int) then (if (rd (rd_L4 x5 x7) (rd x37 x39)) ≥ 0 then (some false) else (impl_isOrder.l1 k x0 x1 x5 x7 x22 x23 x24 x37 x38 (wrap64 (x39 + 1)))) else (none)) else (none)) else (none)) else (none)) else (impl_isOrder.l1 k x0 x1 x5 x7 x22 x23 x24 x37 x38 (wrap64 (x39 + 1)))) else (impl_isOrder.l1 k x0 x1 x5 x7 x22 x23 x24 x37 x38 (wrap64 (x39 + 1)))) else (none)) else (none)) else (impl_isOrder.l0 k x0 x1 x5 x22 x23 (wrap64 (x24 + 1)))
end
def impl_isOrder.f (k : Nat) (l0 : List (S57)) (l1 : List Int) : Option (Bool) := if (l1.length : Int) = (l0.length : Int) then ((impl_areDifferent_int.f k l1).bind fun t101 => (impl_isOrder.j0 k l0 l1 (!t101))) else (impl_isOrder.j0 k l0 l1 true)
theorem impl_isOrder.mono_l : ∀ k, (∀ y0 y1 y2, LeO (impl_isOrder.j0 k y0 y1 y2) (impl_isOrder.j0 (k + 1) y0 y1 y2)) ∧ (∀ y0 y1 y2 y3 y4 y5, LeO (impl_isOrder.l0 k y0 y1 y2 y3 y4 y5) (impl_isOrder.l0 (k + 1) y0 y1 y2 y3 y4 y5)) ∧ (∀ y0 y1 y2 y3 y4 y5 y6 y7 y8 y9, LeO (impl_isOrder.l1 k y0 y1 y2 y3 y4 y5 y6 y7 y8 y9) (impl_isOrder.l1 (k + 1) y0 y1 y2 y3 y4 y5 y6 y7 y8 y9))
 | 0 => ⟨fun _ _ _ r h => by simp [impl_isOrder.j0] at h, fun _ _ _ _ _ _ r h => by simp [impl_isOrder.l0] at h, fun _ _ _ _ _ _ _ _ _ _ r h => by simp [impl_isOrder.l1] at h⟩
 | k + 1 => by
   obtain ⟨ih0, ih1, ih2⟩ := impl_isOrder.mono_l k
   refine ⟨?_, ?_, ?_⟩
   · intro y0 y1 y2
     unfold impl_isOrder.j0
     repeat' first
     | (with_reducible first | exact ih0 _ _ _ | exact ih1 _ _ _ _ _ _ | exact ih2 _ _ _ _ _ _ _ _ _ _ | exact impl_areDifferent_int.mono _ _ | exact impl_delays.mono _ _ | exact LeO.refl _ | exact LeO.none _ | refine LeO.ite ?_ ?_ | refine LeO.bind ?_ (fun _ => ?_))
     | exact LeO.none _
     | refine LeO.ite ?_ ?_
     | refine LeO.bind ?_ (fun _ => ?_)
   · intro y0 y1 y2 y3 y4 y5
     unfold impl_isOrder.l0
     repeat' first
     | (with_reducible first | exact ih0 _ _ _ | exact ih1 _ _ _ _ _ _ | exact ih2 _ _ _ _ _ _ _ _ _ _ | exact impl_areDifferent_int.mono _ _ | exact impl_delays.mono _ _ | exact LeO.refl _ | exact LeO.none _ | refine LeO.ite ?_ ?_ | refine LeO.bind ?_ (fun _ => ?_))
     | exact LeO.none _
     | refine LeO.ite ?_ ?_
     | refine LeO.bind ?_ (fun _ => ?_)
   · intro y0 y1 y2 y3 y4 y5 y6 y7 y8 y9
     unfold impl_isOrder.l1
     repeat' first
     | (with_reducible first | exact ih0 _ _ _ | exact ih1 _ _ _ _ _ _ | exact ih2 _ _ _ _ _ _ _ _ _ _ | exact impl_areDifferent_int.mono _ _ | exact impl_delays.mono _ _ | exact LeO.refl _ | exact LeO.none _ | refine LeO.ite ?_ ?_ | refine LeO.bind ?_ (fun _ => ?_))
     | exact LeO.none _
     | refine LeO.ite ?_ ?_
     | refine LeO.bind ?_ (fun _ => ?_)
theorem impl_isOrder.mono : ∀ a0 a1 k, LeO (impl_isOrder.f k a0 a1) (impl_isOrder.f (k + 1) a0 a1) := by
 intro a0 a1 k
 obtain ⟨ih0, ih1, ih2⟩ := impl_isOrder.mono_l k
 unfold impl_isOrder.f
 repeat' first
     | (with_reducible first | exact ih0 _ _ _ | exact ih1 _ _ _ _ _ _ | exact ih2 _ _ _ _ _ _ _ _ _ _ | exact impl_areDifferent_int.mono _ _ | exact impl_delays.mono _ _ | exact LeO.refl _ | exact LeO.none _ | refine LeO.ite ?_ ?_ | refine LeO.bind ?_ (fun _ => ?_))
     | exact LeO.none _
     | refine LeO.ite ?_ ?_
     | refine LeO.bind ?_ (fun _ => ?_)
set_option maxHeartbeats 8000000 in
set_option maxRecDepth 100000 in
theorem impl_isOrder.calls (k : Nat) (A0 : Option Addr) (c0 : Nat) (l0 : List (S57)) (A1 : Option Addr) (c1 : Nat) (l1 : List Int) (r : Bool) (w : World) (hr0 : Kd.C k57 w A0 l0.length l0) (hc0 : l0.length ≤ c0) (hr1 : Kd.C (Kd.int .i64) w A1 l1.length l1) (hc1 : l1.length ≤ c1) (h : impl_isOrder.f k l0 l1 = some r) :
   Calls Try.prog 57 #[.slice A0 l0.length c0, .slice A1 l1.length c1] w fun e w' => e = .returned (.bool r) ∧ Below w.heap.size w w' := by
 have HR0 := zA hr0
 have HC0 := zA hc0
 clear hr0 hc0
 have HR1 := zA hr1
 have HC1 := zA hc1
 clear hr1 hc1
 have HB := zA (Below.refl w.heap.size w)
 have H : (if (l1.length : Int) = (l0.length : Int) then ((impl_areDifferent_int.f k l1).bind fun t101 => (impl_isOrder.j0 k l0 l1 (!t101))) else (impl_isOrder.j0 k l0 l1 true)) = some r := h
 clear h
 have HC3 := zA H
 clear H
 go_enter Try.func57, Try.ntmps57
 go_upto_region 1 with (fail)
 go_cut [19] (fun v19 wc => ∃ (kq : Nat) (x19_2 : Bool), v19 = .bool x19_2 ∧ Aside0 (impl_isOrder.j0 kq l0 l1 x19_2 = some r) ∧ Aside0 (kq ≤ k) ∧ Aside0 (Below w.heap.size w wc))
 case first =>
   have H := HC3.out
   clear HC3
   by_cases c4 : (l1.length : Int) = (l0.length : Int)
   rotate_left
   · rw [if_neg c4] at H
     have c4b0 : ((l1.length : Int) == (l0.length : Int)) = false := beq_eq_false_iff_ne.mpr c4
     have c4b1 : ((l1.length : Int) != (l0.length : Int)) = true := bne_iff_ne.mpr c4
     have c4b2 : (l1.length == l0.length) = false := by first | simpa using c4 | (simp at c4 ⊢; omega)
     (first | rw [c4b0] | (simp only [i64_w, i32_w]; rw [c4b0]) | skip)
     have H' := zA H
     clear H
     go_wp2
     go_meet
     case rel => exact ⟨_, (true), (by first | rfl | (simp; done) | (simp [*]; done)), H', ⟨by first | omega | exact zlr _⟩, ⟨by repeat (first | (with_reducible first | exact HB.out | apply zba | apply zbn | apply zbd) | exact HB.out)⟩⟩
   rw [if_pos c4] at H
   have c4b0 : ((l1.length : Int) == (l0.length : Int)) = true := beq_iff_eq.mpr c4
   have c4b1 : ((l1.length : Int) != (l0.length : Int)) = false := bne_eq_false_iff_eq.mpr c4
   have c4b2 : (l1.length == l0.length) = true := by first | simpa using c4 | (simp at c4 ⊢; omega)
   clear c4
   (first | rw [c4b0] | (simp only [i64_w, i32_w]; rw [c4b0]) | skip)
   replace H := zob H
   obtain ⟨t101, A50, H⟩ := H
   replace H : (impl_isOrder.j0 k l0 l1 (!t101)) = some r := H
   have A5 := zA A50
   clear A50
   have H' := zA H
   clear H
   go_wp2_with (first | (go_at_call 89; (with_reducible refine (impl_areDifferent_int.calls k _ _ l1 t101 _ ?side1 ?side2 A5.out).mono ?_); (case side1 => repeat (first | exact (zCb HR1.out HB.out) | (with_reducible first | refine zCa ?_ _ | refine zCn ?_ _ | refine zCd ?_))); (case side2 => exact HC1.out); rintro e w' ⟨rfl, ⟨nd, rfl⟩⟩))
   go_meet
   case rel => exact ⟨_, (!t101), (by first | rfl | (simp; done) | (simp [*]; done)), H', ⟨by first | omega | exact zlr _⟩, ⟨by repeat (first | (with_reducible first | exact HB.out | apply zba | apply zbn | apply zbd) | exact HB.out)⟩⟩
 clear HC3
 try clear c1
 try clear p2
 try clear c4
 try clear c4b0
 try clear c4b1
 try clear c4b2
 try clear c5
 obtain ⟨kq, x19_2, rfl, HA, HJ2, HB⟩ := hcut
 cases kq with
 | zero => exact absurd HA.out (by simp [impl_isOrder.j0])
 | succ kj2 =>
 have H := HA.out
 clear HA
 simp only [impl_isOrder.j0] at H
 by_cases c6 : x19_2 = true
 · subst c6
   have H1 : (some false) = some r := by rw [if_pos rfl] at H; exact H
   clear H
   have H := H1
   clear H1
   obtain rfl := zsi H
   go_wp2
   go_ret
   exact ⟨by first | rfl | (simp [errW_none, errW_some] <;> rfl) | (simp [*, errW_none, errW_some] <;> rfl), by repeat (first | (with_reducible first | exact HB.out | apply zba | apply zbn | apply zbd) | exact HB.out)⟩
 replace c6 := zbf c6
 subst c6
 have H1 : ((impl_delays.f kj2 l0).bind fun t102 => (impl_isOrder.l0 kj2 l0 l1 t102 l1 (l1.length : Int) 0)) = some r := by rw [if_neg (show ¬ (false = true) by decide)] at H; exact H
 clear H
 have H := H1
 clear H1
 replace H := zob H
 obtain ⟨t102, A70, H⟩ := H
 replace H : (impl_isOrder.l0 kj2 l0 l1 t102 l1 (l1.length : Int) 0) = some r := H
 have A7 := zA A70
 clear A70
 have H' := zA H
 clear H
 go_wp2_with (first | ((with_reducible refine gate_callee (f := 53) rfl ?_); refine goesL_ (some 21) rfl rfl Try.func53 (by kernel_rfl) rfl #[.slice A0 l0.length c0] rfl (by (try simp only [List.map_toArray, List.map_cons, List.map_nil]); first | done | rfl | (simp only [List.length_drop, List.length_take]; rfl)) ?_; (with_reducible refine (impl_delays.calls kj2 _ _ l0 t102 _ ?side1 ?side2 A7.out).mono ?_); (case side1 => repeat (first | exact (zCb HR0.out HB.out) | (with_reducible first | refine zCa ?_ _ | refine zCn ?_ _ | refine zCd ?_))); (case side2 => exact HC0.out); rintro e w8 ⟨v103, rfl, ho0, hb⟩; refine ⟨_, rfl, ?_⟩; have n0_ := zA (Kd.S_lower ho0 (below_size (by repeat (first | (with_reducible first | exact HB.out | apply zba | apply zbn | apply zbd) | exact HB.out)))); have n1_ := zA (below_step (by repeat (first | (with_reducible first | exact HB.out | apply zba | apply zbn | apply zbd) | exact HB.out)) hb); clear HB; have HO104 := n0_; have HB := n1_; clear n0_ n1_; (try clear hb); (try clear ho0)))
 go_loopg [24] kj2 (fun kq v24 w' => ∃ (x24_2 : Int), v24 = .int .i64 x24_2 ∧ Aside0 (impl_isOrder.l0 kq l0 l1 t102 l1 (l1.length : Int) x24_2 = some r) ∧ Aside0 (kq ≤ kj2) ∧ Aside0 (Kd.S (Kd.slice 3 (Kd.int .i64)) 34 w' w.heap.size (fun _ => True) v103 t102) ∧ Aside0 (Below w.heap.size w w'))
 case atStart => exact ⟨(0), (by first | rfl | (simp; done) | (simp [*]; done)), H', ⟨zlr _⟩, ⟨by (with_reducible repeat (first | apply zSa | apply zSn | apply zSd)); exact HO104.out⟩, ⟨by repeat (first | (with_reducible first | exact HB.out | apply zba | apply zbn | apply zbd) | exact HB.out)⟩⟩
 clear H'
 try clear c1
 try clear p2
 try clear c4
 try clear c4b0
 try clear c4b1
 try clear c4b2
 try clear c5
 try clear c6
 try clear p2
 obtain ⟨x24_2, rfl, HA, HK2, HO_5, HB⟩ := hrel
 cases gk with
 | zero => exact absurd HA.out (by simp [impl_isOrder.l0])
 | succ k2 =>
 have H := HA.out
 clear HA
 simp only [impl_isOrder.l0] at H
 by_cases c9 : x24_2 < (l1.length : Int)
 rotate_left
 · rw [if_neg c9] at H
   have c9b0 : decide (x24_2 < (l1.length : Int)) = false := zdf c9
   clear c9
   obtain rfl := zsi H
   go_wp2
   go_ret
   exact ⟨by first | rfl | (simp [errW_none, errW_some] <;> rfl) | (simp [*, errW_none, errW_some] <;> rfl), by repeat (first | (with_reducible first | exact HB.out | apply zba | apply zbn | apply zbd) | exact HB.out)⟩
 rw [if_pos c9] at H
 have c9b0 : decide (x24_2 < (l1.length : Int)) = true := zdt c9
 clear c9
 by_cases c10 : 0 ≤ x24_2
 rotate_left
 · rw [if_neg c10] at H
   exact absurd H (by simp)
 rw [if_pos c10] at H
 have c10b0 : decide (0 ≤ x24_2) = true := zdt c10
 clear c10
 by_cases c11 : x24_2 < (l1.length : Int)
 rotate_left
 · rw [if_neg c11] at H
   exact absurd H (by simp)
 rw [if_pos c11] at H
 have c11b0 : decide (x24_2 < (l1.length : Int)) = true := zdt c11
 clear c11
 replace H := zob H
 obtain ⟨t106, A120, H⟩ := H
 replace H : (if t106 = true then (if x24_2 ≤ (l1.length : Int) then (impl_isOrder.l1 k2 l0 l1 t102 (rd l1 x24_2) l1 (l1.length : Int) x24_2 (l1.drop (x24_2 : Int).toNat) ((l1.drop (x24_2 : Int).toNat).length : Int) 0) else (none)) else (some false)) = some r := H
 have A12 := zA A120
 clear A120
 by_cases c13 : t106 = true
 rotate_left
 · replace c13 := zbf c13
   subst c13
   have H1 : (some false) = some r := by rw [if_neg (show ¬ (false = true) by decide)] at H; exact H
   clear H
   have H := H1
   clear H1
   obtain rfl := zsi H
   have p105 : 0 ≤ (x24_2 : Int) := zde (by assumption)
   have q105 : x24_2 < (l1.length : Int) := zde (by assumption)
   obtain ⟨ad105, e105, hx105_0⟩ := Kd.at_int HR1.out x24_2 p105 q105
   cases e105
   replace hx105_0 := zkep HB.out hx105_0
   replace p105 := eq_true p105
   replace q105 := eq_true q105
   go_wp2_with (first | ((with_reducible refine gate_callee (f := 73) rfl ?_); refine goesL_ (some 33) rfl rfl Try.func73 (by kernel_rfl) rfl #[.int .i64 (rd l1 x24_2), .int .i64 0, .int .i64 (wrap64 ((l0.length : Int) - 1))] rfl (by (try simp only [List.map_toArray, List.map_cons, List.map_nil]); first | done | rfl | (simp only [List.length_drop, List.length_take]; rfl)) ?_; (with_reducible refine (impl_within.calls (rd l1 x24_2) 0 (wrap64 ((l0.length : Int) - 1)) false _ A12.out).mono ?_); rintro e w' ⟨rfl, ⟨nd, rfl⟩⟩; refine ⟨_, rfl, ?_⟩))
   go_ret
   exact ⟨by first | rfl | (simp [errW_none, errW_some] <;> rfl) | (simp [*, errW_none, errW_some] <;> rfl), by repeat (first | (with_reducible first | exact HB.out | apply zba | apply zbn | apply zbd) | exact HB.out)⟩
 subst c13
 have H1 : (if x24_2 ≤ (l1.length : Int) then (impl_isOrder.l1 k2 l0 l1 t102 (rd l1 x24_2) l1 (l1.length : Int) x24_2 (l1.drop (x24_2 : Int).toNat) ((l1.drop (x24_2 : Int).toNat).length : Int) 0) else (none)) = some r := by rw [if_pos rfl] at H; exact H
 clear H
 have H := H1
 clear H1
 have c14b0 := eq_true (zde (by assumption) : 0 ≤ x24_2)
 by_cases c15 : x24_2 ≤ (l1.length : Int)
 rotate_left
 · rw [if_neg c15] at H
   exact absurd H (by simp)
 rw [if_pos c15] at H
 have c15b0 := eq_true c15
 have c15b1 : decide (x24_2 ≤ (l1.length : Int)) = true := zdt c15
 clear c15
 have H' := zA H
 clear H
 have p105 : 0 ≤ (x24_2 : Int) := zde (by assumption)
 have q105 : x24_2 < (l1.length : Int) := zde (by assumption)
 obtain ⟨ad105, e105, hx105_0⟩ := Kd.at_int HR1.out x24_2 p105 q105
 cases e105
 replace hx105_0 := zkep HB.out hx105_0
 replace p105 := eq_true p105
 replace q105 := eq_true q105
 go_wp2_with (first | ((with_reducible refine gate_callee (f := 73) rfl ?_); refine goesL_ (some 33) rfl rfl Try.func73 (by kernel_rfl) rfl #[.int .i64 (rd l1 x24_2), .int .i64 0, .int .i64 (wrap64 ((l0.length : Int) - 1))] rfl (by (try simp only [List.map_toArray, List.map_cons, List.map_nil]); first | done | rfl | (simp only [List.length_drop, List.length_take]; rfl)) ?_; (with_reducible refine (impl_within.calls (rd l1 x24_2) 0 (wrap64 ((l0.length : Int) - 1)) true _ A12.out).mono ?_); rintro e w' ⟨rfl, ⟨nd, rfl⟩⟩; refine ⟨_, rfl, ?_⟩; obtain ⟨i016, hi016, _, hsz16, _⟩ := info_parts info3; obtain ⟨A16, hcut16, hA16, hC16⟩ := print_drop_of (P := Try.prog) (Value.int .i64) 0 34 3 .i64 Try.underlying34 hi016 hsz16 (some ad105) c1 l1 x24_2 (zde (by assumption)) (zde (by assumption)) HC1.out; have HR107 := zA (Kd.C_of_reads (h1 := fun _ => rfl) (hA16 _ (Kd.reads_of_C HR1.out))); have HC107 := zA hC16; clear hA16 hC16 hi016 hsz16))
 go_loopg [39] k2 (fun kq v39 w' => ∃ (x39_3 : Int), v39 = .int .i64 x39_3 ∧ Aside0 (impl_isOrder.l1 kq l0 l1 t102 (rd l1 x24_2) l1 (l1.length : Int) x24_2 (l1.drop (x24_2 : Int).toNat) ((l1.drop (x24_2 : Int).toNat).length : Int) x39_3 = some r) ∧ Aside0 (kq ≤ k2) ∧ Aside0 (Kd.S (Kd.slice 3 (Kd.int .i64)) 34 w' w.heap.size (fun _ => True) v103 t102) ∧ Aside0 (Below w.heap.size w w'))
 case atStart => exact ⟨(0), (by first | rfl | (simp; done) | (simp [*]; done)), H', ⟨zlr _⟩, ⟨by (with_reducible repeat (first | apply zSa | apply zSn | apply zSd)); exact HO_5.out⟩, ⟨by repeat (first | (with_reducible first | exact HB.out | apply zba | apply zbn | apply zbd) | exact HB.out)⟩⟩
 clear H'
 try clear c1
 try clear p1
 try clear q1
 try clear hx1
 try clear p2
 try clear c4
 try clear c4b0
 try clear c4b1
 try clear c4b2
 try clear c5
 try clear c6
 try clear p6
 try clear c7
 try clear c9
 try clear c9b0
 try clear c10
 try clear c10b0
 try clear p10
 try clear q10
 try clear hx10
 try clear c11
 try clear c11b0
 try clear c13
 try clear c14
 try clear c14b0
 try clear c15
 try clear c15b0
 try clear c15b1
 try clear hx105_0
 try clear p105
 try clear p2
 try clear q105
 obtain ⟨x39_3, rfl, HA, HK3, HO_5, HB⟩ := hrel
 cases gk with
 | zero => exact absurd HA.out (by simp [impl_isOrder.l1])
 | succ k3 =>
 have H := HA.out
 clear HA
 simp only [impl_isOrder.l1] at H
 by_cases c17 : x39_3 < ((l1.drop (x24_2 : Int).toNat).length : Int)
 rotate_left
 · rw [if_neg c17] at H
   have c17b0 : decide (x39_3 < ((l1.drop (x24_2 : Int).toNat).length : Int)) = false := zdf c17
   have c17b0d := c17b0
   try simp only [List.length_drop] at c17b0d
   clear c17
   have H' := zA H
   clear H
   go_wp2
   go_roundg k3
   case measure => have := HJ2.out; have := HK2.out; have := HK3.out; omega
   case rel => exact ⟨(wrap64 (x24_2 + 1)), (by first | rfl | (simp; done) | (simp [*]; done)), H', ⟨by have := HJ2.out; have := HK2.out; have := HK3.out; omega⟩, ⟨by (with_reducible repeat (first | apply zSa | apply zSn | apply zSd)); exact HO_5.out⟩, ⟨by repeat (first | (with_reducible first | exact HB.out | apply zba | apply zbn | apply zbd) | exact HB.out)⟩⟩
 rw [if_pos c17] at H
 have c17b0 : decide (x39_3 < ((l1.drop (x24_2 : Int).toNat).length : Int)) = true := zdt c17
 have c17b0d := c17b0
 try simp only [List.length_drop] at c17b0d
 clear c17
 by_cases c18 : 0 ≤ x39_3
 rotate_left
 · rw [if_neg c18] at H
   exact absurd H (by simp)
 rw [if_pos c18] at H
 have c18b0 : decide (0 ≤ x39_3) = true := zdt c18
 clear c18
 by_cases c19 : x39_3 < ((l1.drop (x24_2 : Int).toNat).length : Int)
 rotate_left
 · rw [if_neg c19] at H
   exact absurd H (by simp)
 rw [if_pos c19] at H
 have c19b0 : decide (x39_3 < ((l1.drop (x24_2 : Int).toNat).length : Int)) = true := zdt c19
 have c19b0d := c19b0
 try simp only [List.length_drop] at c19b0d
 clear c19
 by_cases c20 : (rd (l1.drop (x24_2 : Int).toNat) x39_3) ≥ 0
 rotate_left
 · rw [if_neg c20] at H
   have c20b0 : decide (0 ≤ (rd (l1.drop (x24_2 : Int).toNat) x39_3)) = false := zdf c20
   clear c20
   have H' := zA H
   clear H
   have p108 : 0 ≤ (x39_3 : Int) := zde (by assumption)
   have q108 : x39_3 < ((l1.drop (x24_2 : Int).toNat).length : Int) := zde (by assumption)
   have q108d := q108
   try simp only [List.length_drop] at q108d
   replace q108d := eq_true q108d
   obtain ⟨ad108, e108, hx108_0⟩ := Kd.at_int HR107.out x39_3 p108 q108
   cases e108
   replace hx108_0 := zkep HB.out hx108_0
   replace p108 := eq_true p108
   replace q108 := eq_true q108
   go_wp2
   go_roundg k3
   case measure => have := HJ2.out; have := HK2.out; have := HK3.out; omega
   case rel => exact ⟨(wrap64 (x39_3 + 1)), (by first | rfl | (simp; done) | (simp [*]; done)), H', ⟨by have := HJ2.out; have := HK2.out; have := HK3.out; omega⟩, ⟨by (with_reducible repeat (first | apply zSa | apply zSn | apply zSd)); exact HO_5.out⟩, ⟨by repeat (first | (with_reducible first | exact HB.out | apply zba | apply zbn | apply zbd) | exact HB.out)⟩⟩
 rw [if_pos c20] at H
 have c20b0 : decide (0 ≤ (rd (l1.drop (x24_2 : Int).toNat) x39_3)) = true := zdt c20
 clear c20
 by_cases c21 : (rd (l1.drop (x24_2 : Int).toNat) x39_3) < (rd l1 x24_2)
 rotate_left
 · rw [if_neg c21] at H
   have c21b0 : decide ((rd (l1.drop (x24_2 : Int).toNat) x39_3) < (rd l1 x24_2)) = false := zdf c21
   clear c21
   have H' := zA H
   clear H
   have p108 : 0 ≤ (x39_3 : Int) := zde (by assumption)
   have q108 : x39_3 < ((l1.drop (x24_2 : Int).toNat).length : Int) := zde (by assumption)
   have q108d := q108
   try simp only [List.length_drop] at q108d
   replace q108d := eq_true q108d
   obtain ⟨ad108, e108, hx108_0⟩ := Kd.at_int HR107.out x39_3 p108 q108
   cases e108
   replace hx108_0 := zkep HB.out hx108_0
   replace p108 := eq_true p108
   replace q108 := eq_true q108
   go_wp2
   go_roundg k3
   case measure => have := HJ2.out; have := HK2.out; have := HK3.out; omega
   case rel => exact ⟨(wrap64 (x39_3 + 1)), (by first | rfl | (simp; done) | (simp [*]; done)), H', ⟨by have := HJ2.out; have := HK2.out; have := HK3.out; omega⟩, ⟨by (with_reducible repeat (first | apply zSa | apply zSn | apply zSd)); exact HO_5.out⟩, ⟨by repeat (first | (with_reducible first | exact HB.out | apply zba | apply zbn | apply zbd) | exact HB.out)⟩⟩
 rw [if_pos c21] at H
 have c21b0 : decide ((rd (l1.drop (x24_2 : Int).toNat) x39_3) < (rd l1 x24_2)) = true := zdt c21
 clear c21
 by_cases c22 : 0 ≤ (rd l1 x24_2)
 rotate_left
 · rw [if_neg c22] at H
   exact absurd H (by simp)
 rw [if_pos c22] at H
 have c22b0 : decide (0 ≤ (rd l1 x24_2)) = true := zdt c22
 clear c22
 by_cases c23 : (rd l1 x24_2) < (t102.length : Int)
 rotate_left
 · rw [if_neg c23] at H
   exact absurd H (by simp)
 rw [if_pos c23] at H
 have c23b0 : decide ((rd l1 x24_2) < (t102.length : Int)) = true := zdt c23
 clear c23
 by_cases c24 : 0 ≤ (rd (l1.drop (x24_2 : Int).toNat) x39_3)
 rotate_left
 · rw [if_neg c24] at H
   exact absurd H (by simp)
 rw [if_pos c24] at H
 have c24b0 : decide (0 ≤ (rd (l1.drop (x24_2 : Int).toNat) x39_3)) = true := zdt c24
 clear c24
 by_cases c25 : (rd (l1.drop (x24_2 : Int).toNat) x39_3) < ((rd_L4 t102 (rd l1 x24_2)).length : Int)
 rotate_left
 · rw [if_neg c25] at H
   exact absurd H (by simp)
 rw [if_pos c25] at H
 have c25b0 : decide ((rd (l1.drop (x24_2 : Int).toNat) x39_3) < ((rd_L4 t102 (rd l1 x24_2)).length : Int)) = true := zdt c25
 have c25b0d := c25b0
 try simp only [List.length_drop] at c25b0d
 clear c25
 by_cases c26 : (rd (rd_L4 t102 (rd l1 x24_2)) (rd (l1.drop (x24_2 : Int).toNat) x39_3)) ≥ 0
 · rw [if_pos c26] at H
   have c26b0 : decide (0 ≤ (rd (rd_L4 t102 (rd l1 x24_2)) (rd (l1.drop (x24_2 : Int).toNat) x39_3))) = true := zdt c26
   clear c26
   obtain rfl := zsi H
   have p108 : 0 ≤ (x39_3 : Int) := zde (by assumption)
   have q108 : x39_3 < ((l1.drop (x24_2 : Int).toNat).length : Int) := zde (by assumption)
   have q108d := q108
   try simp only [List.length_drop] at q108d
   replace q108d := eq_true q108d
   obtain ⟨ad108, e108, hx108_0⟩ := Kd.at_int HR107.out x39_3 p108 q108
   cases e108
   replace hx108_0 := zkep HB.out hx108_0
   replace p108 := eq_true p108
   replace q108 := eq_true q108
   obtain ⟨Ao27, co27, eo27⟩ := Kd.S_slice HO_5.out
   subst eo27
   have p109 : 0 ≤ ((rd l1 x24_2) : Int) := zde (by assumption)
   have q109 : (rd l1 x24_2) < (t102.length : Int) := zde (by assumption)
   obtain ⟨ad109, A109_0, c109_0, e109, hx109_0, hl109_0, hi109_0⟩ := at_L4 (zSr HO_5.out).2.2 (rd l1 x24_2) p109 q109
   cases e109
   obtain ⟨ce109, hce109, hMe109, hcc109⟩ := Kd.S_get HO_5.out [] (rd l1 x24_2) p109 (by first | exact q109 | exact zde (by assumption) | (have e_ := (zSr HO_5.out).1; omega))
   obtain ⟨ve109_0, rfl, ge109_0⟩ := hMe109
   have hv109_0 := hcc109 0 _ rfl
   rw [Nat.add_zero, show ((Kd.slice 3 (Kd.int .i64))).sz = 1 from rfl, Nat.mul_one] at hv109_0
   replace hv109_0 := zsi (hv109_0.symm.trans hx109_0)
   rw [hv109_0] at ge109_0
   have HL109_0 := zA (show Kd.R (Kd.int .i64) 3 _ _ _ _ (rd_L4 t102 (rd l1 x24_2)) from ge109_0)
   clear hv109_0 ge109_0
   clear hcc109 hce109
   have HR109_0 := zA hi109_0
   have HC109_0 := zA hl109_0
   clear hi109_0 hl109_0
   replace p109 := eq_true p109
   replace q109 := eq_true q109
   have p110 : 0 ≤ ((rd (l1.drop (x24_2 : Int).toNat) x39_3) : Int) := zde (by assumption)
   have q110 : (rd (l1.drop (x24_2 : Int).toNat) x39_3) < ((rd_L4 t102 (rd l1 x24_2)).length : Int) := zde (by assumption)
   have q110d := q110
   try simp only [List.length_drop] at q110d
   replace q110d := eq_true q110d
   obtain ⟨ad110, e110, hx110_0⟩ := Kd.at_int (by repeat (first | (with_reducible exact HR109_0.out) | (with_reducible first | refine zCa ?_ _ | refine zCn ?_ _ | refine zCd ?_) | exact HR109_0.out)) (rd (l1.drop (x24_2 : Int).toNat) x39_3) p110 q110
   cases e110
   replace p110 := eq_true p110
   replace q110 := eq_true q110
   go_wp2
   go_ret
   exact ⟨by first | rfl | (simp [errW_none, errW_some] <;> rfl) | (simp [*, errW_none, errW_some] <;> rfl), by repeat (first | (with_reducible first | exact HB.out | apply zba | apply zbn | apply zbd) | exact HB.out)⟩
 rw [if_neg c26] at H
 have c26b0 : decide (0 ≤ (rd (rd_L4 t102 (rd l1 x24_2)) (rd (l1.drop (x24_2 : Int).toNat) x39_3))) = false := zdf c26
 clear c26
 have H' := zA H
 clear H
 have p108 : 0 ≤ (x39_3 : Int) := zde (by assumption)
 have q108 : x39_3 < ((l1.drop (x24_2 : Int).toNat).length : Int) := zde (by assumption)
 have q108d := q108
 try simp only [List.length_drop] at q108d
 replace q108d := eq_true q108d
 obtain ⟨ad108, e108, hx108_0⟩ := Kd.at_int HR107.out x39_3 p108 q108
 cases e108
 replace hx108_0 := zkep HB.out hx108_0
 replace p108 := eq_true p108
 replace q108 := eq_true q108
 obtain ⟨Ao28, co28, eo28⟩ := Kd.S_slice HO_5.out
 subst eo28
 have p109 : 0 ≤ ((rd l1 x24_2) : Int) := zde (by assumption)
 have q109 : (rd l1 x24_2) < (t102.length : Int) := zde (by assumption)
 obtain ⟨ad109, A109_0, c109_0, e109, hx109_0, hl109_0, hi109_0⟩ := at_L4 (zSr HO_5.out).2.2 (rd l1 x24_2) p109 q109
 cases e109
 obtain ⟨ce109, hce109, hMe109, hcc109⟩ := Kd.S_get HO_5.out [] (rd l1 x24_2) p109 (by first | exact q109 | exact zde (by assumption) | (have e_ := (zSr HO_5.out).1; omega))
 obtain ⟨ve109_0, rfl, ge109_0⟩ := hMe109
 have hv109_0 := hcc109 0 _ rfl
 rw [Nat.add_zero, show ((Kd.slice 3 (Kd.int .i64))).sz = 1 from rfl, Nat.mul_one] at hv109_0
 replace hv109_0 := zsi (hv109_0.symm.trans hx109_0)
 rw [hv109_0] at ge109_0
 have HL109_0 := zA (show Kd.R (Kd.int .i64) 3 _ _ _ _ (rd_L4 t102 (rd l1 x24_2)) from ge109_0)
 clear hv109_0 ge109_0
 clear hcc109 hce109
 have HR109_0 := zA hi109_0
 have HC109_0 := zA hl109_0
 clear hi109_0 hl109_0
 replace p109 := eq_true p109
 replace q109 := eq_true q109
 have p110 : 0 ≤ ((rd (l1.drop (x24_2 : Int).toNat) x39_3) : Int) := zde (by assumption)
 have q110 : (rd (l1.drop (x24_2 : Int).toNat) x39_3) < ((rd_L4 t102 (rd l1 x24_2)).length : Int) := zde (by assumption)
 have q110d := q110
 try simp only [List.length_drop] at q110d
 replace q110d := eq_true q110d
 obtain ⟨ad110, e110, hx110_0⟩ := Kd.at_int (by repeat (first | (with_reducible exact HR109_0.out) | (with_reducible first | refine zCa ?_ _ | refine zCn ?_ _ | refine zCd ?_) | exact HR109_0.out)) (rd (l1.drop (x24_2 : Int).toNat) x39_3) p110 q110
 cases e110
 replace p110 := eq_true p110
 replace q110 := eq_true q110
 go_wp2
 go_roundg k3
 case measure => have := HJ2.out; have := HK2.out; have := HK3.out; omega
 case rel => exact ⟨(wrap64 (x39_3 + 1)), (by first | rfl | (simp; done) | (simp [*]; done)), H', ⟨by have := HJ2.out; have := HK2.out; have := HK3.out; omega⟩, ⟨by (with_reducible repeat (first | apply zSa | apply zSn | apply zSd)); exact HO_5.out⟩, ⟨by repeat (first | (with_reducible first | exact HB.out | apply zba | apply zbn | apply zbd) | exact HB.out)⟩⟩
end Go.Proofs.Yteaablbhdmkcpaa.Q
end
section
namespace Go.Proofs.Yteaablbhdmkcpaa.Q
open Go.RowKit Go.Proofs.YteaablbhdmkcpaaW.PrintWords Go.Proofs.YteaablbhdmkcpaaW.PrintLast Go.Proofs.YteaablbhdmkcpaaW.PrintMore
attribute [local go_sem] max2_int min2_int max_two min_two max_three min_three max_four min_four
set_option linter.unusedVariables false
set_option linter.unusedSimpArgs false
mutual
def impl_ApplyOrder.j0 : Nat → List (S57) → List Int → Bool → Option ((List (S57)) × Bool)
 | 0, _, _, _ => none
 | k + 1, x0, x1, x17 => if x17 = true then (some (([] : List (S57)), false)) else (impl_ApplyOrder.l0 k x0 (([] : List (S57))) x1 (x1.length : Int) 0)
def impl_ApplyOrder.l0 : Nat → List (S57) → List (S57) → List Int → Int → Int → Option ((List (S57)) × Bool)
 | 0, _, _, _, _, _ => none
 | k + 1, x0, x6, x19, x20, x21 => if x21 < x20 then (if 0 ≤ x21 then (if x21 < (x19.length : Int) then (if 0 ≤ (rd x19 x21) then (if (rd x19 x21) < (x0.length : Int) then (if x6.length < 2932031007402 then (impl_ApplyOrder.l0 k x0 (x6 ++ [(⟨(rd_T57 x0 (rd x19 x21)).f0, (rd_T57 x0 (rd x19 x21)).f1, (rd_T57 x0 (rd x19 x21)).f2, (rd_T57 x0 (rd x19 x21)).f3, (rd_T57 x0 (rd x19 x21)).f4⟩ : S57)]) x19 x20 (wrap64 (x21 + 1))) else (none)) else (none)) else (none)) else (none)) else (none)) else (some (x6, true))
end
def impl_ApplyOrder.f (k : Nat) (l0 : List (S57)) (l1 : List Int) : Option ((List (S57)) × Bool) := (impl_isBlock.f k l0).bind fun t101 => (if t101 = true then ((impl_isOrder.f k l0 l1).bind fun t102 => (impl_ApplyOrder.j0 k l0 l1 (!t102))) else (impl_ApplyOrder.j0 k l0 l1 true))
theorem impl_ApplyOrder.mono_l : ∀ k, (∀ y0 y1 y2, LeO (impl_ApplyOrder.j0 k y0 y1 y2) (impl_ApplyOrder.j0 (k + 1) y0 y1 y2)) ∧ (∀ y0 y1 y2 y3 y4, LeO (impl_ApplyOrder.l0 k y0 y1 y2 y3 y4) (impl_ApplyOrder.l0 (k + 1) y0 y1 y2 y3 y4))
 | 0 => ⟨fun _ _ _ r h => by simp [impl_ApplyOrder.j0] at h, fun _ _ _ _ _ r h => by simp [impl_ApplyOrder.l0] at h⟩
 | k + 1 => by
   obtain ⟨ih0, ih1⟩ := impl_ApplyOrder.mono_l k
   refine ⟨?_, ?_⟩
   · intro y0 y1 y2
     unfold impl_ApplyOrder.j0
     repeat' first
     | (with_reducible first | exact ih0 _ _ _ | exact ih1 _ _ _ _ _ | exact impl_isBlock.mono _ _ | exact impl_isOrder.mono _ _ _ | exact LeO.refl _ | exact LeO.none _ | refine LeO.ite ?_ ?_ | refine LeO.bind ?_ (fun _ => ?_))
     | exact LeO.none _
     | refine LeO.ite ?_ ?_
     | refine LeO.bind ?_ (fun _ => ?_)
   · intro y0 y1 y2 y3 y4
     unfold impl_ApplyOrder.l0
     repeat' first
     | (with_reducible first | exact ih0 _ _ _ | exact ih1 _ _ _ _ _ | exact impl_isBlock.mono _ _ | exact impl_isOrder.mono _ _ _ | exact LeO.refl _ | exact LeO.none _ | refine LeO.ite ?_ ?_ | refine LeO.bind ?_ (fun _ => ?_))
     | exact LeO.none _
     | refine LeO.ite ?_ ?_
     | refine LeO.bind ?_ (fun _ => ?_)
theorem impl_ApplyOrder.mono : ∀ a0 a1 k, LeO (impl_ApplyOrder.f k a0 a1) (impl_ApplyOrder.f (k + 1) a0 a1) := by
 intro a0 a1 k
 obtain ⟨ih0, ih1⟩ := impl_ApplyOrder.mono_l k
 unfold impl_ApplyOrder.f
 repeat' first
     | (with_reducible first | exact ih0 _ _ _ | exact ih1 _ _ _ _ _ | exact impl_isBlock.mono _ _ | exact impl_isOrder.mono _ _ _ | exact LeO.refl _ | exact LeO.none _ | refine LeO.ite ?_ ?_ | refine LeO.bind ?_ (fun _ => ?_))
     | exact LeO.none _
     | refine LeO.ite ?_ ?_
     | refine LeO.bind ?_ (fun _ => ?_)
set_option maxHeartbeats 8000000 in
set_option maxRecDepth 100000 in
theorem impl_ApplyOrder.calls (k : Nat) (A0 : Option Addr) (c0 : Nat) (l0 : List (S57)) (A1 : Option Addr) (c1 : Nat) (l1 : List Int) (r1 : List (S57)) (r2 : Bool) (w : World) (hr0 : Kd.C k57 w A0 l0.length l0) (hc0 : l0.length ≤ c0) (hr1 : Kd.C (Kd.int .i64) w A1 l1.length l1) (hc1 : l1.length ≤ c1) (h : impl_ApplyOrder.f k l0 l1 = some (r1, r2)) :
   Calls Try.prog 28 #[.slice A0 l0.length c0, .slice A1 l1.length c1] w fun e w' => ∃ v0_ : Value, e = .returned (.tuple #[v0_, .bool r2]) ∧ Kd.R k57 57 w' w.heap.size (fun _ => True) v0_ r1 ∧ Below w.heap.size w w' := by
 have hu57 := Try.underlying57
 have HR0 := zA hr0
 have HC0 := zA hc0
 clear hr0 hc0
 have HR1 := zA hr1
 have HC1 := zA hc1
 clear hr1 hc1
 have HB := zA (Below.refl w.heap.size w)
 have H : ((impl_isBlock.f k l0).bind fun t101 => (if t101 = true then ((impl_isOrder.f k l0 l1).bind fun t102 => (impl_ApplyOrder.j0 k l0 l1 (!t102))) else (impl_ApplyOrder.j0 k l0 l1 true))) = some (r1, r2) := h
 clear h
 have HC3 := zA H
 clear H
 go_enter Try.func28, Try.ntmps28
 go_upto_region 1 with (fail)
 go_cut [17] (fun v17 wc => ∃ (kq : Nat) (x17_2 : Bool), v17 = .bool x17_2 ∧ Aside0 (impl_ApplyOrder.j0 kq l0 l1 x17_2 = some (r1, r2)) ∧ Aside0 (kq ≤ k) ∧ Aside0 (Below w.heap.size w wc))
 case first =>
   have H := HC3.out
   clear HC3
   replace H := zob H
   obtain ⟨t101, A40, H⟩ := H
   replace H : (if t101 = true then ((impl_isOrder.f k l0 l1).bind fun t102 => (impl_ApplyOrder.j0 k l0 l1 (!t102))) else (impl_ApplyOrder.j0 k l0 l1 true)) = some (r1, r2) := H
   have A4 := zA A40
   clear A40
   by_cases c5 : t101 = true
   rotate_left
   · replace c5 := zbf c5
     subst c5
     have H1 : (impl_ApplyOrder.j0 k l0 l1 true) = some (r1, r2) := by rw [if_neg (show ¬ (false = true) by decide)] at H; exact H
     clear H
     have H := H1
     clear H1
     have H' := zA H
     clear H
     go_wp2_with (first | ((with_reducible refine gate_callee (f := 52) rfl ?_); refine goesL_ (some 10) rfl rfl Try.func52 (by kernel_rfl) rfl #[.slice A0 l0.length c0] rfl (by (try simp only [List.map_toArray, List.map_cons, List.map_nil]); first | done | rfl | (simp only [List.length_drop, List.length_take]; rfl)) ?_; (with_reducible refine (impl_isBlock.calls k _ _ l0 false _ ?side1 ?side2 A4.out).mono ?_); (case side1 => repeat (first | exact (zCb HR0.out HB.out) | (with_reducible first | refine zCa ?_ _ | refine zCn ?_ _ | refine zCd ?_))); (case side2 => exact HC0.out); rintro e w9 ⟨rfl, hb⟩; refine ⟨_, rfl, ?_⟩; have n0_ := zA (below_step (by repeat (first | (with_reducible first | exact HB.out | apply zba | apply zbn | apply zbd) | exact HB.out)) hb); clear HB; have HB := n0_; clear n0_; (try clear hb)))
     go_meet
     case rel => exact ⟨_, (true), (by first | rfl | (simp; done) | (simp [*]; done)), H', ⟨by first | omega | exact zlr _⟩, ⟨by repeat (first | (with_reducible first | exact HB.out | apply zba | apply zbn | apply zbd) | exact HB.out)⟩⟩
   subst c5
   have H1 : ((impl_isOrder.f k l0 l1).bind fun t102 => (impl_ApplyOrder.j0 k l0 l1 (!t102))) = some (r1, r2) := by rw [if_pos rfl] at H; exact H
   clear H
   have H := H1
   clear H1
   replace H := zob H
   obtain ⟨t102, A60, H⟩ := H
   replace H : (impl_ApplyOrder.j0 k l0 l1 (!t102)) = some (r1, r2) := H
   have A6 := zA A60
   clear A60
   have H' := zA H
   clear H
   go_wp2_with (first | ((with_reducible refine gate_callee (f := 52) rfl ?_); refine goesL_ (some 10) rfl rfl Try.func52 (by kernel_rfl) rfl #[.slice A0 l0.length c0] rfl (by (try simp only [List.map_toArray, List.map_cons, List.map_nil]); first | done | rfl | (simp only [List.length_drop, List.length_take]; rfl)) ?_; (with_reducible refine (impl_isBlock.calls k _ _ l0 true _ ?side1 ?side2 A4.out).mono ?_); (case side1 => repeat (first | exact (zCb HR0.out HB.out) | (with_reducible first | refine zCa ?_ _ | refine zCn ?_ _ | refine zCd ?_))); (case side2 => exact HC0.out); rintro e w7 ⟨rfl, hb⟩; refine ⟨_, rfl, ?_⟩; have n0_ := zA (below_step (by repeat (first | (with_reducible first | exact HB.out | apply zba | apply zbn | apply zbd) | exact HB.out)) hb); clear HB; have HB := n0_; clear n0_; (try clear hb)) | (go_at_call 57; (with_reducible refine (impl_isOrder.calls k _ _ l0 _ _ l1 t102 _ ?side1 ?side2 ?side3 ?side4 A6.out).mono ?_); (case side1 => repeat (first | exact (zCb HR0.out HB.out) | (with_reducible first | refine zCa ?_ _ | refine zCn ?_ _ | refine zCd ?_))); (case side2 => exact HC0.out); (case side3 => repeat (first | exact (zCb HR1.out HB.out) | (with_reducible first | refine zCa ?_ _ | refine zCn ?_ _ | refine zCd ?_))); (case side4 => exact HC1.out); rintro e w8 ⟨rfl, hb⟩; have n0_ := zA (below_step (by repeat (first | (with_reducible first | exact HB.out | apply zba | apply zbn | apply zbd) | exact HB.out)) hb); clear HB; have HB := n0_; clear n0_; (try clear hb)))
   go_meet
   case rel => exact ⟨_, (!t102), (by first | rfl | (simp; done) | (simp [*]; done)), H', ⟨by first | omega | exact zlr _⟩, ⟨by repeat (first | (with_reducible first | exact HB.out | apply zba | apply zbn | apply zbd) | exact HB.out)⟩⟩
 clear HC3
 try clear c1
 try clear c2
 try clear p2
 try clear c5
 obtain ⟨kq, x17_2, rfl, HA, HJ2, HB⟩ := hcut
 cases kq with
 | zero => exact absurd HA.out (by simp [impl_ApplyOrder.j0])
 | succ kj2 =>
 have H := HA.out
 clear HA
 simp only [impl_ApplyOrder.j0] at H
 by_cases c10 : x17_2 = true
 · subst c10
   have H1 : (some (([] : List (S57)), false)) = some (r1, r2) := by rw [if_pos rfl] at H; exact H
   clear H
   have H := H1
   clear H1
   simp only [Option.some.injEq, Prod.mk.injEq] at H
   obtain ⟨rfl, rfl⟩ := H
   go_wp2
   go_ret2
   exact ⟨_, by first | rfl | (simp [errW_none, errW_some] <;> rfl) | (simp [*, errW_none, errW_some] <;> rfl), by first | exact Kd.R_nil _ _ _ _ _ | exact Kd.N_nil _ _ _ _ _ | exact Kd.V_nil _ _ _ _ _ | exact Kd.Q_nil _ _ _ _ _ | exact Kd.S_nil _ _ _ _ _, by repeat (first | (with_reducible first | exact HB.out | apply zba | apply zbn | apply zbd) | exact HB.out)⟩
 replace c10 := zbf c10
 subst c10
 have H1 : (impl_ApplyOrder.l0 kj2 l0 (([] : List (S57))) l1 (l1.length : Int) 0) = some (r1, r2) := by rw [if_neg (show ¬ (false = true) by decide)] at H; exact H
 clear H
 have H := H1
 clear H1
 obtain ⟨y103, hy103⟩ : ∃ y_ : List (S57), y_ = (([] : List (S57))) := ⟨_, rfl⟩
 replace H : (impl_ApplyOrder.l0 kj2 l0 y103 l1 (l1.length : Int) 0) = some (r1, r2) := by first | (rw [hy103]; with_reducible exact H) | (have H2_ := (Option.bind_some _ _).symm.trans H; rw [hy103]; with_reducible exact H2_) | (have H2_ := (Option.bind_some _ _).symm.trans H; with_reducible exact H2_) | with_reducible exact H | (rw [hy103]; exact H) | exact H
 have Ny103 := zA hy103
 clear hy103
 have H' := zA H
 clear H
 go_wp2_with (first | ((with_reducible refine gate_dst (N := 18) rfl ?_); refine Kd.R_lit k57 _ 57 ?hg (N := 18) ?hd (xs := ([] : List (S57))) (inner := []) (ok := fun _ => True) (okp := fun _ => True) ?hr ?hp (fun _ hk => hk) trivial (Below.refl _ _) (zlr _) (by simp) ?_; (case hd => rfl); (case hg => rfl); (case hr => go_simp <;> rfl); (case hp => exact (Reps.none _ _)); intro v104 w11 ho12 hb hg_ hnew_; clear hg_ hnew_; (first | rw [← Ny103.out] at ho12 | (simp only [Int.reduceToNat] at ho12; rw [← Ny103.out] at ho12)); have n0_ := zA (Kd.R_lower ho12 (below_size (by repeat (first | (with_reducible first | exact HB.out | apply zba | apply zbn | apply zbd) | exact HB.out)))); have n1_ := zA (below_step (by repeat (first | (with_reducible first | exact HB.out | apply zba | apply zbn | apply zbd) | exact HB.out)) hb); clear HB; have HO105 := n0_; have HB := n1_; clear n0_ n1_; clear hb ho12))
 go_loopg [6, 21] kj2 (fun kq v6 v21 w' => ∃ (x6_2 : List (S57)) (x21_2 : Int), v21 = .int .i64 x21_2 ∧ Aside0 (impl_ApplyOrder.l0 kq l0 x6_2 l1 (l1.length : Int) x21_2 = some (r1, r2)) ∧ Aside0 (kq ≤ kj2) ∧ Aside0 (Kd.R k57 57 w' w.heap.size (fun _ => True) v6 x6_2) ∧ Aside0 (Below w.heap.size w w'))
 case atStart => exact ⟨(y103), (0), (by first | rfl | (simp; done) | (simp [*]; done)), H', ⟨zlr _⟩, ⟨by (with_reducible repeat (first | apply zRa | apply zRn | apply zRd)); exact HO105.out⟩, ⟨by repeat (first | (with_reducible first | exact HB.out | apply zba | apply zbn | apply zbd) | exact HB.out)⟩⟩
 clear H'
 try clear c1
 try clear c2
 try clear p2
 try clear c5
 try clear c10
 try clear p2
 obtain ⟨x6_2, x21_2, rfl, HA, HK2, HO_6, HB⟩ := hrel
 cases gk with
 | zero => exact absurd HA.out (by simp [impl_ApplyOrder.l0])
 | succ k2 =>
 have H := HA.out
 clear HA
 simp only [impl_ApplyOrder.l0] at H
 by_cases c13 : x21_2 < (l1.length : Int)
 rotate_left
 · rw [if_neg c13] at H
   have c13b0 : decide (x21_2 < (l1.length : Int)) = false := zdf c13
   clear c13
   simp only [Option.some.injEq, Prod.mk.injEq] at H
   obtain ⟨rfl, rfl⟩ := H
   go_wp2
   go_ret2
   exact ⟨_, by first | rfl | (simp [errW_none, errW_some] <;> rfl) | (simp [*, errW_none, errW_some] <;> rfl), by (with_reducible repeat (first | apply zRa | apply zRn | apply zRd)); exact HO_6.out, by repeat (first | (with_reducible first | exact HB.out | apply zba | apply zbn | apply zbd) | exact HB.out)⟩
 rw [if_pos c13] at H
 have c13b0 : decide (x21_2 < (l1.length : Int)) = true := zdt c13
 clear c13
 by_cases c14 : 0 ≤ x21_2
 rotate_left
 · rw [if_neg c14] at H
   exact absurd H (by simp)
 rw [if_pos c14] at H
 have c14b0 : decide (0 ≤ x21_2) = true := zdt c14
 clear c14
 by_cases c15 : x21_2 < (l1.length : Int)
 rotate_left
 · rw [if_neg c15] at H
   exact absurd H (by simp)
 rw [if_pos c15] at H
 have c15b0 : decide (x21_2 < (l1.length : Int)) = true := zdt c15
 clear c15
 by_cases c16 : 0 ≤ (rd l1 x21_2)
 rotate_left
 · rw [if_neg c16] at H
   exact absurd H (by simp)
 rw [if_pos c16] at H
 have c16b0 : decide (0 ≤ (rd l1 x21_2)) = true := zdt c16
 clear c16
 by_cases c17 : (rd l1 x21_2) < (l0.length : Int)
 rotate_left
 · rw [if_neg c17] at H
   exact absurd H (by simp)
 rw [if_pos c17] at H
 have c17b0 : decide ((rd l1 x21_2) < (l0.length : Int)) = true := zdt c17
 clear c17
 by_cases c18 : x6_2.length < 2932031007402
 rotate_left
 · rw [if_neg c18] at H
   exact absurd H (by simp)
 rw [if_pos c18] at H
 have LMc18 := zA c18
 clear c18
 obtain ⟨y108, hy108⟩ : ∃ y_ : List (S57), y_ = (x6_2 ++ [(⟨(rd_T57 l0 (rd l1 x21_2)).f0, (rd_T57 l0 (rd l1 x21_2)).f1, (rd_T57 l0 (rd l1 x21_2)).f2, (rd_T57 l0 (rd l1 x21_2)).f3, (rd_T57 l0 (rd l1 x21_2)).f4⟩ : S57)]) := ⟨_, rfl⟩
 replace H : (impl_ApplyOrder.l0 k2 l0 y108 l1 (l1.length : Int) (wrap64 (x21_2 + 1))) = some (r1, r2) := by first | (rw [hy108]; with_reducible exact H) | (have H2_ := (Option.bind_some _ _).symm.trans H; rw [hy108]; with_reducible exact H2_) | (have H2_ := (Option.bind_some _ _).symm.trans H; with_reducible exact H2_) | with_reducible exact H | (rw [hy108]; exact H) | exact H
 have Ny108 := zA hy108
 clear hy108
 have H' := zA H
 clear H
 have p106 : 0 ≤ (x21_2 : Int) := zde (by assumption)
 have q106 : x21_2 < (l1.length : Int) := zde (by assumption)
 obtain ⟨ad106, e106, hx106_0⟩ := Kd.at_int HR1.out x21_2 p106 q106
 cases e106
 replace hx106_0 := zkep HB.out hx106_0
 replace p106 := eq_true p106
 replace q106 := eq_true q106
 have p107 : 0 ≤ ((rd l1 x21_2) : Int) := zde (by assumption)
 have q107 : (rd l1 x21_2) < (l0.length : Int) := zde (by assumption)
 obtain ⟨ad107, e107, hx107_0, hx107_1, hx107_2, hx107_3, hx107_4⟩ := at_T57 HR0.out (rd l1 x21_2) p107 q107
 cases e107
 replace hx107_0 := zkep HB.out hx107_0
 replace hx107_1 := zkep HB.out hx107_1
 replace hx107_2 := zkep HB.out hx107_2
 replace hx107_3 := zkep HB.out hx107_3
 replace hx107_4 := zkep HB.out hx107_4
 replace p107 := eq_true p107
 replace q107 := eq_true q107
 go_wp2_with (first | ((with_reducible refine gate_builtin (b := .append) (xs := #[.tmp 25, .tmp 30]) rfl ?_); at_builtin; refine Kd.R_append k57 (w0 := w) w.heap.size rfl (.tmp 25) (.tmp 30) 27 57 (.agg #[(.string ⟨#[]⟩), (.int .i64 0), (.int .i64 0), (.int .i64 0), (.int .i64 0)]) 48 rfl Try.underlying27 info57 rfl (by decide) (by omega) u6 x6_2 (⟨(rd_T57 l0 (rd l1 x21_2)).f0, (rd_T57 l0 (rd l1 x21_2)).f1, (rd_T57 l0 (rd l1 x21_2)).f2, (rd_T57 l0 (rd l1 x21_2)).f3, (rd_T57 l0 (rd l1 x21_2)).f4⟩ : S57) [.string ((rd_T57 l0 (rd l1 x21_2)).f0), .int .i64 ((rd_T57 l0 (rd l1 x21_2)).f1), .int .i64 ((rd_T57 l0 (rd l1 x21_2)).f2), .int .i64 ((rd_T57 l0 (rd l1 x21_2)).f3), .int .i64 ((rd_T57 l0 (rd l1 x21_2)).f4)] (fun _ => True) (fun _ => False) rfl rfl ?aP (fun _ hk => hk.elim) ?aF ?aO ?aB ?aS ?aL ?_; (case aP => exact k57_mkM _ _ _ (⟨(rd_T57 l0 (rd l1 x21_2)).f0, (rd_T57 l0 (rd l1 x21_2)).f1, (rd_T57 l0 (rd l1 x21_2)).f2, (rd_T57 l0 (rd l1 x21_2)).f3, (rd_T57 l0 (rd l1 x21_2)).f4⟩ : S57)); (case aB => exact (by repeat (first | (with_reducible first | exact HB.out | apply zba | apply zbn | apply zbd) | exact HB.out))); (case aF => exact (fun _ _ => trivial)); (case aO => exact (by (with_reducible repeat (first | apply zRa | apply zRn | apply zRd)); exact HO_6.out)); (case aS => exact (below_size (by repeat (first | (with_reducible first | exact HB.out | apply zba | apply zbn | apply zbd) | exact HB.out)))); (case aL => have := LMc18.out; omega); intro v109 w19 ho hb hg hat; rw [← Ny108.out] at ho; have n0_ := zA (hb); have n1_ := zA (ho); clear HB HO_6; have HB := n0_; have HO110 := n1_; clear n0_ n1_; clear ho hb hg hat))
 go_roundg k2
 case measure => have := HJ2.out; have := HK2.out; omega
 case rel => exact ⟨(y108), (wrap64 (x21_2 + 1)), (by first | rfl | (simp; done) | (simp [*]; done)), H', ⟨by have := HJ2.out; have := HK2.out; omega⟩, ⟨by (with_reducible repeat (first | apply zRa | apply zRn | apply zRd)); exact HO110.out⟩, ⟨by repeat (first | (with_reducible first | exact HB.out | apply zba | apply zbn | apply zbd) | exact HB.out)⟩⟩
end Go.Proofs.Yteaablbhdmkcpaa.Q
end
section
namespace Go.Proofs.Yteaablbhdmkcpaa.Q
open Go.RowKit Go.Proofs.YteaablbhdmkcpaaW.PrintWords Go.Proofs.YteaablbhdmkcpaaW.PrintLast Go.Proofs.YteaablbhdmkcpaaW.PrintMore
attribute [local go_sem] max2_int min2_int max_two min_two max_three min_three max_four min_four
set_option linter.unusedVariables false
set_option linter.unusedSimpArgs false
def laws_eqInstr.f (a0_0 : ByteArray) (a0_1 : Int) (a0_2 : Int) (a0_3 : Int) (a0_4 : Int) (a1_0 : ByteArray) (a1_1 : Int) (a1_2 : Int) (a1_3 : Int) (a1_4 : Int) : Option (Bool) := if a0_0.toList = a1_0.toList then (if a0_1 = a1_1 then (if a0_2 = a1_2 then (if a0_3 = a1_3 then (if a0_4 = a1_4 then (some true) else (some false)) else (some false)) else (some false)) else (some false)) else (some false)
set_option maxHeartbeats 8000000 in
set_option maxRecDepth 100000 in
theorem laws_eqInstr.calls (a0_0 : ByteArray) (a0_1 : Int) (a0_2 : Int) (a0_3 : Int) (a0_4 : Int) (a1_0 : ByteArray) (a1_1 : Int) (a1_2 : Int) (a1_3 : Int) (a1_4 : Int) (r : Bool) (w : World) (h : laws_eqInstr.f a0_0 a0_1 a0_2 a0_3 a0_4 a1_0 a1_1 a1_2 a1_3 a1_4 = some r) :
   Calls Try.prog 54 #[.agg #[.string a0_0, .int .i64 a0_1, .int .i64 a0_2, .int .i64 a0_3, .int .i64 a0_4], .agg #[.string a1_0, .int .i64 a1_1, .int .i64 a1_2, .int .i64 a1_3, .int .i64 a1_4]] w fun e w' => e = .returned (.bool r) ∧ Below w.heap.size w w' := by
 have hu57 := Try.underlying57
 have HB := zA (Below.refl w.heap.size w)
 have H : (if a0_0.toList = a1_0.toList then (if a0_1 = a1_1 then (if a0_2 = a1_2 then (if a0_3 = a1_3 then (if a0_4 = a1_4 then (some true) else (some false)) else (some false)) else (some false)) else (some false)) else (some false)) = some r := h
 clear h
 by_cases c3 : a0_0.toList = a1_0.toList
 rotate_left
 · rw [if_neg c3] at H
   have c3b0 : (a0_0.toList == a1_0.toList) = false := beq_eq_false_iff_ne.mpr c3
   have c3b1 : (a0_0.toList != a1_0.toList) = true := bne_iff_ne.mpr c3
   obtain rfl := zsi H
   go_enter Try.func54, Try.ntmps54
   go_wp2_with (first | ((with_reducible refine gate_dst (N := 2) rfl ?_); refine box_event ?hg (N := 2) ?hd (cs := #[.string a0_0, .int .i64 a0_1, .int .i64 a0_2, .int .i64 a0_3, .int .i64 a0_4]) (t := 57) ?hr ?_; (case hd => rfl); (case hg => rfl); (case hr => go_simp <;> rfl); intro gb101 hg w33 hbox hb; have zs := zpair (by repeat (first | (with_reducible first | exact HB.out | apply zba | apply zbn | apply zbd) | exact HB.out)) hb; have n0_ := zA (zs.1); have n1_ := zA (hbox); have n2_ := zA ((by rw [hg]; exact zs.2 : w.heap.size ≤ gb101)); have n3_ := n2_; clear HB; have HB := n0_; have BK101 := n1_; have GW101 := n2_; have GE101 := n3_; clear n0_ n1_ n2_ n3_; clear zs hb hbox hg) | ((with_reducible refine gate_dst (N := 3) rfl ?_); refine box_event ?hg (N := 3) ?hd (cs := #[.string a1_0, .int .i64 a1_1, .int .i64 a1_2, .int .i64 a1_3, .int .i64 a1_4]) (t := 57) ?hr ?_; (case hd => rfl); (case hg => rfl); (case hr => go_simp <;> rfl); intro gb102 hg w34 hbox hb; have n0_ := zA (blk_below (g := gb101) (o := .cells #[.string a0_0, .int .i64 a0_1, .int .i64 a0_2, .int .i64 a0_3, .int .i64 a0_4] 57 (0, 0)) (by (with_reducible repeat (first | refine zkn ?_ _ | refine zkd ?_ | refine zka ?_ _)); exact BK101.out) hb); have zs := zpair (by repeat (first | (with_reducible first | exact HB.out | apply zba | apply zbn | apply zbd | refine below_set ?_ GE101.out) | exact HB.out)) hb; have n1_ := zA (zs.1); have n2_ := zA (hbox); have n3_ := zA ((by rw [hg]; exact zs.2 : w.heap.size ≤ gb102)); have n4_ := n3_; have n5_ := zA ((by rw [hg]; exact Nat.ne_of_lt (zlt BK101.out (fun h => by (with_reducible repeat (first | refine zkn ?_ _ | refine zkd ?_ | refine zka ?_ _)); exact h)) : gb101 ≠ gb102)); have n6_ := zA (Ne.symm n5_.out); clear BK101 HB; have BK101 := n0_; have HB := n1_; have BK102 := n2_; have GW102 := n3_; have GE102 := n4_; have NB101_102 := n5_; have NB102_101 := n6_; clear n0_ n1_ n2_ n3_ n4_ n5_ n6_; clear zs hb hbox hg; have hnb35 := NB101_102.out; have hnc35 := NB102_101.out; obtain ⟨hcz36_0, hcz36_1, hcz36_2, hcz36_3, hcz36_4⟩ := zc5 w34 (.string a0_0) (.int .i64 a0_1) (.int .i64 a0_2) (.int .i64 a0_3) (.int .i64 a0_4) BK101.out; obtain ⟨hfz36_0, hfz36_1, hfz36_2, hfz36_3, hfz36_4⟩ := zf5 BK101.out; obtain ⟨hcz37_0, hcz37_1, hcz37_2, hcz37_3, hcz37_4⟩ := zc5 w34 (.string a1_0) (.int .i64 a1_1) (.int .i64 a1_2) (.int .i64 a1_3) (.int .i64 a1_4) BK102.out; obtain ⟨hfz37_0, hfz37_1, hfz37_2, hfz37_3, hfz37_4⟩ := zf5 BK102.out))
   go_ret
   exact ⟨by first | rfl | (simp [errW_none, errW_some] <;> rfl) | (simp [*, errW_none, errW_some] <;> rfl), by repeat (first | (with_reducible first | exact HB.out | apply zba | apply zbn | apply zbd | refine below_set ?_ GE101.out | refine below_set ?_ GE102.out) | exact HB.out)⟩
 rw [if_pos c3] at H
 have c3b0 : (a0_0.toList == a1_0.toList) = true := beq_iff_eq.mpr c3
 have c3b1 : (a0_0.toList != a1_0.toList) = false := bne_eq_false_iff_eq.mpr c3
 clear c3
 by_cases c4 : a0_1 = a1_1
 rotate_left
 · rw [if_neg c4] at H
   have c4b0 : (a0_1 == a1_1) = false := beq_eq_false_iff_ne.mpr c4
   have c4b1 : (a0_1 != a1_1) = true := bne_iff_ne.mpr c4
   obtain rfl := zsi H
   go_enter Try.func54, Try.ntmps54
   go_wp2_with (first | ((with_reducible refine gate_dst (N := 2) rfl ?_); refine box_event ?hg (N := 2) ?hd (cs := #[.string a0_0, .int .i64 a0_1, .int .i64 a0_2, .int .i64 a0_3, .int .i64 a0_4]) (t := 57) ?hr ?_; (case hd => rfl); (case hg => rfl); (case hr => go_simp <;> rfl); intro gb101 hg w28 hbox hb; have zs := zpair (by repeat (first | (with_reducible first | exact HB.out | apply zba | apply zbn | apply zbd) | exact HB.out)) hb; have n0_ := zA (zs.1); have n1_ := zA (hbox); have n2_ := zA ((by rw [hg]; exact zs.2 : w.heap.size ≤ gb101)); have n3_ := n2_; clear HB; have HB := n0_; have BK101 := n1_; have GW101 := n2_; have GE101 := n3_; clear n0_ n1_ n2_ n3_; clear zs hb hbox hg) | ((with_reducible refine gate_dst (N := 3) rfl ?_); refine box_event ?hg (N := 3) ?hd (cs := #[.string a1_0, .int .i64 a1_1, .int .i64 a1_2, .int .i64 a1_3, .int .i64 a1_4]) (t := 57) ?hr ?_; (case hd => rfl); (case hg => rfl); (case hr => go_simp <;> rfl); intro gb102 hg w29 hbox hb; have n0_ := zA (blk_below (g := gb101) (o := .cells #[.string a0_0, .int .i64 a0_1, .int .i64 a0_2, .int .i64 a0_3, .int .i64 a0_4] 57 (0, 0)) (by (with_reducible repeat (first | refine zkn ?_ _ | refine zkd ?_ | refine zka ?_ _)); exact BK101.out) hb); have zs := zpair (by repeat (first | (with_reducible first | exact HB.out | apply zba | apply zbn | apply zbd | refine below_set ?_ GE101.out) | exact HB.out)) hb; have n1_ := zA (zs.1); have n2_ := zA (hbox); have n3_ := zA ((by rw [hg]; exact zs.2 : w.heap.size ≤ gb102)); have n4_ := n3_; have n5_ := zA ((by rw [hg]; exact Nat.ne_of_lt (zlt BK101.out (fun h => by (with_reducible repeat (first | refine zkn ?_ _ | refine zkd ?_ | refine zka ?_ _)); exact h)) : gb101 ≠ gb102)); have n6_ := zA (Ne.symm n5_.out); clear BK101 HB; have BK101 := n0_; have HB := n1_; have BK102 := n2_; have GW102 := n3_; have GE102 := n4_; have NB101_102 := n5_; have NB102_101 := n6_; clear n0_ n1_ n2_ n3_ n4_ n5_ n6_; clear zs hb hbox hg; have hnb30 := NB101_102.out; have hnc30 := NB102_101.out; obtain ⟨hcz31_0, hcz31_1, hcz31_2, hcz31_3, hcz31_4⟩ := zc5 w29 (.string a0_0) (.int .i64 a0_1) (.int .i64 a0_2) (.int .i64 a0_3) (.int .i64 a0_4) BK101.out; obtain ⟨hfz31_0, hfz31_1, hfz31_2, hfz31_3, hfz31_4⟩ := zf5 BK101.out; obtain ⟨hcz32_0, hcz32_1, hcz32_2, hcz32_3, hcz32_4⟩ := zc5 w29 (.string a1_0) (.int .i64 a1_1) (.int .i64 a1_2) (.int .i64 a1_3) (.int .i64 a1_4) BK102.out; obtain ⟨hfz32_0, hfz32_1, hfz32_2, hfz32_3, hfz32_4⟩ := zf5 BK102.out))
   go_ret
   exact ⟨by first | rfl | (simp [errW_none, errW_some] <;> rfl) | (simp [*, errW_none, errW_some] <;> rfl), by repeat (first | (with_reducible first | exact HB.out | apply zba | apply zbn | apply zbd | refine below_set ?_ GE101.out | refine below_set ?_ GE102.out) | exact HB.out)⟩
 rw [if_pos c4] at H
 have c4b0 : (a0_1 == a1_1) = true := beq_iff_eq.mpr c4
 have c4b1 : (a0_1 != a1_1) = false := bne_eq_false_iff_eq.mpr c4
 clear c4
 by_cases c5 : a0_2 = a1_2
 rotate_left
 · rw [if_neg c5] at H
   have c5b0 : (a0_2 == a1_2) = false := beq_eq_false_iff_ne.mpr c5
   have c5b1 : (a0_2 != a1_2) = true := bne_iff_ne.mpr c5
   obtain rfl := zsi H
   go_enter Try.func54, Try.ntmps54
   go_wp2_with (first | ((with_reducible refine gate_dst (N := 2) rfl ?_); refine box_event ?hg (N := 2) ?hd (cs := #[.string a0_0, .int .i64 a0_1, .int .i64 a0_2, .int .i64 a0_3, .int .i64 a0_4]) (t := 57) ?hr ?_; (case hd => rfl); (case hg => rfl); (case hr => go_simp <;> rfl); intro gb101 hg w23 hbox hb; have zs := zpair (by repeat (first | (with_reducible first | exact HB.out | apply zba | apply zbn | apply zbd) | exact HB.out)) hb; have n0_ := zA (zs.1); have n1_ := zA (hbox); have n2_ := zA ((by rw [hg]; exact zs.2 : w.heap.size ≤ gb101)); have n3_ := n2_; clear HB; have HB := n0_; have BK101 := n1_; have GW101 := n2_; have GE101 := n3_; clear n0_ n1_ n2_ n3_; clear zs hb hbox hg) | ((with_reducible refine gate_dst (N := 3) rfl ?_); refine box_event ?hg (N := 3) ?hd (cs := #[.string a1_0, .int .i64 a1_1, .int .i64 a1_2, .int .i64 a1_3, .int .i64 a1_4]) (t := 57) ?hr ?_; (case hd => rfl); (case hg => rfl); (case hr => go_simp <;> rfl); intro gb102 hg w24 hbox hb; have n0_ := zA (blk_below (g := gb101) (o := .cells #[.string a0_0, .int .i64 a0_1, .int .i64 a0_2, .int .i64 a0_3, .int .i64 a0_4] 57 (0, 0)) (by (with_reducible repeat (first | refine zkn ?_ _ | refine zkd ?_ | refine zka ?_ _)); exact BK101.out) hb); have zs := zpair (by repeat (first | (with_reducible first | exact HB.out | apply zba | apply zbn | apply zbd | refine below_set ?_ GE101.out) | exact HB.out)) hb; have n1_ := zA (zs.1); have n2_ := zA (hbox); have n3_ := zA ((by rw [hg]; exact zs.2 : w.heap.size ≤ gb102)); have n4_ := n3_; have n5_ := zA ((by rw [hg]; exact Nat.ne_of_lt (zlt BK101.out (fun h => by (with_reducible repeat (first | refine zkn ?_ _ | refine zkd ?_ | refine zka ?_ _)); exact h)) : gb101 ≠ gb102)); have n6_ := zA (Ne.symm n5_.out); clear BK101 HB; have BK101 := n0_; have HB := n1_; have BK102 := n2_; have GW102 := n3_; have GE102 := n4_; have NB101_102 := n5_; have NB102_101 := n6_; clear n0_ n1_ n2_ n3_ n4_ n5_ n6_; clear zs hb hbox hg; have hnb25 := NB101_102.out; have hnc25 := NB102_101.out; obtain ⟨hcz26_0, hcz26_1, hcz26_2, hcz26_3, hcz26_4⟩ := zc5 w24 (.string a0_0) (.int .i64 a0_1) (.int .i64 a0_2) (.int .i64 a0_3) (.int .i64 a0_4) BK101.out; obtain ⟨hfz26_0, hfz26_1, hfz26_2, hfz26_3, hfz26_4⟩ := zf5 BK101.out; obtain ⟨hcz27_0, hcz27_1, hcz27_2, hcz27_3, hcz27_4⟩ := zc5 w24 (.string a1_0) (.int .i64 a1_1) (.int .i64 a1_2) (.int .i64 a1_3) (.int .i64 a1_4) BK102.out; obtain ⟨hfz27_0, hfz27_1, hfz27_2, hfz27_3, hfz27_4⟩ := zf5 BK102.out))
   go_ret
   exact ⟨by first | rfl | (simp [errW_none, errW_some] <;> rfl) | (simp [*, errW_none, errW_some] <;> rfl), by repeat (first | (with_reducible first | exact HB.out | apply zba | apply zbn | apply zbd | refine below_set ?_ GE101.out | refine below_set ?_ GE102.out) | exact HB.out)⟩
 rw [if_pos c5] at H
 have c5b0 : (a0_2 == a1_2) = true := beq_iff_eq.mpr c5
 have c5b1 : (a0_2 != a1_2) = false := bne_eq_false_iff_eq.mpr c5
 clear c5
 by_cases c6 : a0_3 = a1_3
 rotate_left
 · rw [if_neg c6] at H
   have c6b0 : (a0_3 == a1_3) = false := beq_eq_false_iff_ne.mpr c6
   have c6b1 : (a0_3 != a1_3) = true := bne_iff_ne.mpr c6
   obtain rfl := zsi H
   go_enter Try.func54, Try.ntmps54
   go_wp2_with (first | ((with_reducible refine gate_dst (N := 2) rfl ?_); refine box_event ?hg (N := 2) ?hd (cs := #[.string a0_0, .int .i64 a0_1, .int .i64 a0_2, .int .i64 a0_3, .int .i64 a0_4]) (t := 57) ?hr ?_; (case hd => rfl); (case hg => rfl); (case hr => go_simp <;> rfl); intro gb101 hg w18 hbox hb; have zs := zpair (by repeat (first | (with_reducible first | exact HB.out | apply zba | apply zbn | apply zbd) | exact HB.out)) hb; have n0_ := zA (zs.1); have n1_ := zA (hbox); have n2_ := zA ((by rw [hg]; exact zs.2 : w.heap.size ≤ gb101)); have n3_ := n2_; clear HB; have HB := n0_; have BK101 := n1_; have GW101 := n2_; have GE101 := n3_; clear n0_ n1_ n2_ n3_; clear zs hb hbox hg) | ((with_reducible refine gate_dst (N := 3) rfl ?_); refine box_event ?hg (N := 3) ?hd (cs := #[.string a1_0, .int .i64 a1_1, .int .i64 a1_2, .int .i64 a1_3, .int .i64 a1_4]) (t := 57) ?hr ?_; (case hd => rfl); (case hg => rfl); (case hr => go_simp <;> rfl); intro gb102 hg w19 hbox hb; have n0_ := zA (blk_below (g := gb101) (o := .cells #[.string a0_0, .int .i64 a0_1, .int .i64 a0_2, .int .i64 a0_3, .int .i64 a0_4] 57 (0, 0)) (by (with_reducible repeat (first | refine zkn ?_ _ | refine zkd ?_ | refine zka ?_ _)); exact BK101.out) hb); have zs := zpair (by repeat (first | (with_reducible first | exact HB.out | apply zba | apply zbn | apply zbd | refine below_set ?_ GE101.out) | exact HB.out)) hb; have n1_ := zA (zs.1); have n2_ := zA (hbox); have n3_ := zA ((by rw [hg]; exact zs.2 : w.heap.size ≤ gb102)); have n4_ := n3_; have n5_ := zA ((by rw [hg]; exact Nat.ne_of_lt (zlt BK101.out (fun h => by (with_reducible repeat (first | refine zkn ?_ _ | refine zkd ?_ | refine zka ?_ _)); exact h)) : gb101 ≠ gb102)); have n6_ := zA (Ne.symm n5_.out); clear BK101 HB; have BK101 := n0_; have HB := n1_; have BK102 := n2_; have GW102 := n3_; have GE102 := n4_; have NB101_102 := n5_; have NB102_101 := n6_; clear n0_ n1_ n2_ n3_ n4_ n5_ n6_; clear zs hb hbox hg; have hnb20 := NB101_102.out; have hnc20 := NB102_101.out; obtain ⟨hcz21_0, hcz21_1, hcz21_2, hcz21_3, hcz21_4⟩ := zc5 w19 (.string a0_0) (.int .i64 a0_1) (.int .i64 a0_2) (.int .i64 a0_3) (.int .i64 a0_4) BK101.out; obtain ⟨hfz21_0, hfz21_1, hfz21_2, hfz21_3, hfz21_4⟩ := zf5 BK101.out; obtain ⟨hcz22_0, hcz22_1, hcz22_2, hcz22_3, hcz22_4⟩ := zc5 w19 (.string a1_0) (.int .i64 a1_1) (.int .i64 a1_2) (.int .i64 a1_3) (.int .i64 a1_4) BK102.out; obtain ⟨hfz22_0, hfz22_1, hfz22_2, hfz22_3, hfz22_4⟩ := zf5 BK102.out))
   go_ret
   exact ⟨by first | rfl | (simp [errW_none, errW_some] <;> rfl) | (simp [*, errW_none, errW_some] <;> rfl), by repeat (first | (with_reducible first | exact HB.out | apply zba | apply zbn | apply zbd | refine below_set ?_ GE101.out | refine below_set ?_ GE102.out) | exact HB.out)⟩
 rw [if_pos c6] at H
 have c6b0 : (a0_3 == a1_3) = true := beq_iff_eq.mpr c6
 have c6b1 : (a0_3 != a1_3) = false := bne_eq_false_iff_eq.mpr c6
 clear c6
 by_cases c7 : a0_4 = a1_4
 · rw [if_pos c7] at H
   have c7b0 : (a0_4 == a1_4) = true := beq_iff_eq.mpr c7
   have c7b1 : (a0_4 != a1_4) = false := bne_eq_false_iff_eq.mpr c7
   clear c7
   obtain rfl := zsi H
   go_enter Try.func54, Try.ntmps54
   go_wp2_with (first | ((with_reducible refine gate_dst (N := 2) rfl ?_); refine box_event ?hg (N := 2) ?hd (cs := #[.string a0_0, .int .i64 a0_1, .int .i64 a0_2, .int .i64 a0_3, .int .i64 a0_4]) (t := 57) ?hr ?_; (case hd => rfl); (case hg => rfl); (case hr => go_simp <;> rfl); intro gb101 hg w8 hbox hb; have zs := zpair (by repeat (first | (with_reducible first | exact HB.out | apply zba | apply zbn | apply zbd) | exact HB.out)) hb; have n0_ := zA (zs.1); have n1_ := zA (hbox); have n2_ := zA ((by rw [hg]; exact zs.2 : w.heap.size ≤ gb101)); have n3_ := n2_; clear HB; have HB := n0_; have BK101 := n1_; have GW101 := n2_; have GE101 := n3_; clear n0_ n1_ n2_ n3_; clear zs hb hbox hg) | ((with_reducible refine gate_dst (N := 3) rfl ?_); refine box_event ?hg (N := 3) ?hd (cs := #[.string a1_0, .int .i64 a1_1, .int .i64 a1_2, .int .i64 a1_3, .int .i64 a1_4]) (t := 57) ?hr ?_; (case hd => rfl); (case hg => rfl); (case hr => go_simp <;> rfl); intro gb102 hg w9 hbox hb; have n0_ := zA (blk_below (g := gb101) (o := .cells #[.string a0_0, .int .i64 a0_1, .int .i64 a0_2, .int .i64 a0_3, .int .i64 a0_4] 57 (0, 0)) (by (with_reducible repeat (first | refine zkn ?_ _ | refine zkd ?_ | refine zka ?_ _)); exact BK101.out) hb); have zs := zpair (by repeat (first | (with_reducible first | exact HB.out | apply zba | apply zbn | apply zbd | refine below_set ?_ GE101.out) | exact HB.out)) hb; have n1_ := zA (zs.1); have n2_ := zA (hbox); have n3_ := zA ((by rw [hg]; exact zs.2 : w.heap.size ≤ gb102)); have n4_ := n3_; have n5_ := zA ((by rw [hg]; exact Nat.ne_of_lt (zlt BK101.out (fun h => by (with_reducible repeat (first | refine zkn ?_ _ | refine zkd ?_ | refine zka ?_ _)); exact h)) : gb101 ≠ gb102)); have n6_ := zA (Ne.symm n5_.out); clear BK101 HB; have BK101 := n0_; have HB := n1_; have BK102 := n2_; have GW102 := n3_; have GE102 := n4_; have NB101_102 := n5_; have NB102_101 := n6_; clear n0_ n1_ n2_ n3_ n4_ n5_ n6_; clear zs hb hbox hg; have hnb10 := NB101_102.out; have hnc10 := NB102_101.out; obtain ⟨hcz11_0, hcz11_1, hcz11_2, hcz11_3, hcz11_4⟩ := zc5 w9 (.string a0_0) (.int .i64 a0_1) (.int .i64 a0_2) (.int .i64 a0_3) (.int .i64 a0_4) BK101.out; obtain ⟨hfz11_0, hfz11_1, hfz11_2, hfz11_3, hfz11_4⟩ := zf5 BK101.out; obtain ⟨hcz12_0, hcz12_1, hcz12_2, hcz12_3, hcz12_4⟩ := zc5 w9 (.string a1_0) (.int .i64 a1_1) (.int .i64 a1_2) (.int .i64 a1_3) (.int .i64 a1_4) BK102.out; obtain ⟨hfz12_0, hfz12_1, hfz12_2, hfz12_3, hfz12_4⟩ := zf5 BK102.out))
   go_ret
   exact ⟨by first | rfl | (simp [errW_none, errW_some] <;> rfl) | (simp [*, errW_none, errW_some] <;> rfl), by repeat (first | (with_reducible first | exact HB.out | apply zba | apply zbn | apply zbd | refine below_set ?_ GE101.out | refine below_set ?_ GE102.out) | exact HB.out)⟩
 rw [if_neg c7] at H
 have c7b0 : (a0_4 == a1_4) = false := beq_eq_false_iff_ne.mpr c7
 have c7b1 : (a0_4 != a1_4) = true := bne_iff_ne.mpr c7
 obtain rfl := zsi H
 go_enter Try.func54, Try.ntmps54
 go_wp2_with (first | ((with_reducible refine gate_dst (N := 2) rfl ?_); refine box_event ?hg (N := 2) ?hd (cs := #[.string a0_0, .int .i64 a0_1, .int .i64 a0_2, .int .i64 a0_3, .int .i64 a0_4]) (t := 57) ?hr ?_; (case hd => rfl); (case hg => rfl); (case hr => go_simp <;> rfl); intro gb101 hg w13 hbox hb; have zs := zpair (by repeat (first | (with_reducible first | exact HB.out | apply zba | apply zbn | apply zbd) | exact HB.out)) hb; have n0_ := zA (zs.1); have n1_ := zA (hbox); have n2_ := zA ((by rw [hg]; exact zs.2 : w.heap.size ≤ gb101)); have n3_ := n2_; clear HB; have HB := n0_; have BK101 := n1_; have GW101 := n2_; have GE101 := n3_; clear n0_ n1_ n2_ n3_; clear zs hb hbox hg) | ((with_reducible refine gate_dst (N := 3) rfl ?_); refine box_event ?hg (N := 3) ?hd (cs := #[.string a1_0, .int .i64 a1_1, .int .i64 a1_2, .int .i64 a1_3, .int .i64 a1_4]) (t := 57) ?hr ?_; (case hd => rfl); (case hg => rfl); (case hr => go_simp <;> rfl); intro gb102 hg w14 hbox hb; have n0_ := zA (blk_below (g := gb101) (o := .cells #[.string a0_0, .int .i64 a0_1, .int .i64 a0_2, .int .i64 a0_3, .int .i64 a0_4] 57 (0, 0)) (by (with_reducible repeat (first | refine zkn ?_ _ | refine zkd ?_ | refine zka ?_ _)); exact BK101.out) hb); have zs := zpair (by repeat (first | (with_reducible first | exact HB.out | apply zba | apply zbn | apply zbd | refine below_set ?_ GE101.out) | exact HB.out)) hb; have n1_ := zA (zs.1); have n2_ := zA (hbox); have n3_ := zA ((by rw [hg]; exact zs.2 : w.heap.size ≤ gb102)); have n4_ := n3_; have n5_ := zA ((by rw [hg]; exact Nat.ne_of_lt (zlt BK101.out (fun h => by (with_reducible repeat (first | refine zkn ?_ _ | refine zkd ?_ | refine zka ?_ _)); exact h)) : gb101 ≠ gb102)); have n6_ := zA (Ne.symm n5_.out); clear BK101 HB; have BK101 := n0_; have HB := n1_; have BK102 := n2_; have GW102 := n3_; have GE102 := n4_; have NB101_102 := n5_; have NB102_101 := n6_; clear n0_ n1_ n2_ n3_ n4_ n5_ n6_; clear zs hb hbox hg; have hnb15 := NB101_102.out; have hnc15 := NB102_101.out; obtain ⟨hcz16_0, hcz16_1, hcz16_2, hcz16_3, hcz16_4⟩ := zc5 w14 (.string a0_0) (.int .i64 a0_1) (.int .i64 a0_2) (.int .i64 a0_3) (.int .i64 a0_4) BK101.out; obtain ⟨hfz16_0, hfz16_1, hfz16_2, hfz16_3, hfz16_4⟩ := zf5 BK101.out; obtain ⟨hcz17_0, hcz17_1, hcz17_2, hcz17_3, hcz17_4⟩ := zc5 w14 (.string a1_0) (.int .i64 a1_1) (.int .i64 a1_2) (.int .i64 a1_3) (.int .i64 a1_4) BK102.out; obtain ⟨hfz17_0, hfz17_1, hfz17_2, hfz17_3, hfz17_4⟩ := zf5 BK102.out))
 go_ret
 exact ⟨by first | rfl | (simp [errW_none, errW_some] <;> rfl) | (simp [*, errW_none, errW_some] <;> rfl), by repeat (first | (with_reducible first | exact HB.out | apply zba | apply zbn | apply zbd | refine below_set ?_ GE101.out | refine below_set ?_ GE102.out) | exact HB.out)⟩
def laws_eqInstrS.l0 : Nat → List (S57) → List (S57) → Int → Option (Bool)
 | 0, _, _, _ => none
 | k + 1, x0, x1, x5 => if x5 < (x0.length : Int) then (if 0 ≤ x5 then (if x5 < (x1.length : Int) then ((laws_eqInstr.f ((rd_T57 x0 x5).f0) ((rd_T57 x0 x5).f1) ((rd_T57 x0 x5).f2) ((rd_T57 x0 x5).f3) ((rd_T57 x0 x5).f4) ((rd_T57 x1 x5).f0) ((rd_T57 x1 x5).f1) ((rd_T57 x1 x5).f2) ((rd_T57 x1 x5).f3) ((rd_T57 x1 x5).f4)).bind fun t103 => (if t103 = true then (laws_eqInstrS.l0 k x0 x1 (wrap64 (x5 + 1))) else (some false))) else (none)) else (none)) else (some true)
def laws_eqInstrS.f (k : Nat) (l0 : List (S57)) (l1 : List (S57)) : Option (Bool) := if (l0.length : Int) = (l1.length : Int) then (laws_eqInstrS.l0 k l0 l1 0) else (some false)
theorem laws_eqInstrS.mono_l : ∀ k, (∀ y0 y1 y2, LeO (laws_eqInstrS.l0 k y0 y1 y2) (laws_eqInstrS.l0 (k + 1) y0 y1 y2))
 | 0 => fun _ _ _ r h => by simp [laws_eqInstrS.l0] at h
 | k + 1 => by
   have ih0 := laws_eqInstrS.mono_l k
   · intro y0 y1 y2
     unfold laws_eqInstrS.l0
     repeat' first
     | (with_reducible first | exact ih0 _ _ _ | exact LeO.refl _ | exact LeO.none _ | refine LeO.ite ?_ ?_ | refine LeO.bind ?_ (fun _ => ?_))
     | exact LeO.none _
     | refine LeO.ite ?_ ?_
     | refine LeO.bind ?_ (fun _ => ?_)
theorem laws_eqInstrS.mono : ∀ a0 a1 k, LeO (laws_eqInstrS.f k a0 a1) (laws_eqInstrS.f (k + 1) a0 a1) := by
 intro a0 a1 k
 have ih0 := laws_eqInstrS.mono_l k
 unfold laws_eqInstrS.f
 repeat' first
     | (with_reducible first | exact ih0 _ _ _ | exact LeO.refl _ | exact LeO.none _ | refine LeO.ite ?_ ?_ | refine LeO.bind ?_ (fun _ => ?_))
     | exact LeO.none _
     | refine LeO.ite ?_ ?_
     | refine LeO.bind ?_ (fun _ => ?_)
def laws_eqInstrS.T6 : Bool × List (List Nat × List Nat) := (true, [([], []), ([], []), ([0, 1], [0, 1]), ([2], [2]), ([], []), ([], []), ([4, 5], [4, 5]), ([6], [6]), ([3, 7], [3, 7]), ([8], [8])])
def laws_eqInstrS.B6 : List Nat := [0, 0, 3, 7, 0, 0, 48, 112, 255, 511]
theorem laws_eqInstrS.tab6 : rtab .any (opsOf Try.f19 6) = laws_eqInstrS.T6 := by kernel_rfl
theorem laws_eqInstrS.bits6 : waitsOk laws_eqInstrS.T6.2 laws_eqInstrS.B6 = true := by kernel_rfl
set_option maxHeartbeats 8000000 in
set_option maxRecDepth 100000 in
theorem laws_eqInstrS.calls (k : Nat) (A0 : Option Addr) (c0 : Nat) (l0 : List (S57)) (A1 : Option Addr) (c1 : Nat) (l1 : List (S57)) (r : Bool) (w : World) (hr0 : Kd.C k57 w A0 l0.length l0) (hc0 : l0.length ≤ c0) (hr1 : Kd.C k57 w A1 l1.length l1) (hc1 : l1.length ≤ c1) (h : laws_eqInstrS.f k l0 l1 = some r) :
   Calls Try.prog 19 #[.slice A0 l0.length c0, .slice A1 l1.length c1] w fun e w' => e = .returned (.bool r) ∧ Below w.heap.size w w' := by
 have hu57 := Try.underlying57
 have HR0 := zA hr0
 have HC0 := zA hc0
 clear hr0 hc0
 have HR1 := zA hr1
 have HC1 := zA hc1
 clear hr1 hc1
 have HB := zA (Below.refl w.heap.size w)
 have H : (if (l0.length : Int) = (l1.length : Int) then (laws_eqInstrS.l0 k l0 l1 0) else (some false)) = some r := h
 clear h
 by_cases c3 : (l0.length : Int) = (l1.length : Int)
 rotate_left
 · rw [if_neg c3] at H
   have c3b0 : ((l0.length : Int) == (l1.length : Int)) = false := beq_eq_false_iff_ne.mpr c3
   have c3b1 : ((l0.length : Int) != (l1.length : Int)) = true := bne_iff_ne.mpr c3
   have c3b2 : (l0.length == l1.length) = false := by first | simpa using c3 | (simp at c3 ⊢; omega)
   obtain rfl := zsi H
   go_enter Try.func19, Try.ntmps19
   go_wp2
   go_ret
   exact ⟨by first | rfl | (simp [errW_none, errW_some] <;> rfl) | (simp [*, errW_none, errW_some] <;> rfl), by repeat (first | (with_reducible first | exact HB.out | apply zba | apply zbn | apply zbd) | exact HB.out)⟩
 rw [if_pos c3] at H
 have c3b0 : ((l0.length : Int) == (l1.length : Int)) = true := beq_iff_eq.mpr c3
 have c3b1 : ((l0.length : Int) != (l1.length : Int)) = false := bne_eq_false_iff_eq.mpr c3
 have c3b2 : (l0.length == l1.length) = true := by first | simpa using c3 | (simp at c3 ⊢; omega)
 clear c3
 have H' := zA H
 clear H
 go_enter Try.func19, Try.ntmps19
 go_wp2
 go_loopg [5] k (fun kq v5 w' => ∃ (x5_1 : Int), v5 = .int .i64 x5_1 ∧ Aside0 (laws_eqInstrS.l0 kq l0 l1 x5_1 = some r) ∧ Aside0 (kq ≤ k) ∧ Aside0 (Below w.heap.size w w'))
 case atStart => exact ⟨(0), (by first | rfl | (simp; done) | (simp [*]; done)), H', ⟨zlr _⟩, ⟨by repeat (first | (with_reducible first | exact HB.out | apply zba | apply zbn | apply zbd) | exact HB.out)⟩⟩
 clear H'
 try clear c1
 try clear p2
 try clear c3
 try clear c3b0
 try clear c3b1
 try clear c3b2
 obtain ⟨x5_1, rfl, HA, HK1, HB⟩ := hrel
 cases gk with
 | zero => exact absurd HA.out (by simp [laws_eqInstrS.l0])
 | succ k1 =>
 have H := HA.out
 clear HA
 simp only [laws_eqInstrS.l0] at H
 by_cases c4 : x5_1 < (l0.length : Int)
 rotate_left
 · rw [if_neg c4] at H
   have c4b0 : decide (x5_1 < (l0.length : Int)) = false := zdf c4
   clear c4
   obtain rfl := zsi H
   go_wp2
   go_ret
   exact ⟨by first | rfl | (simp [errW_none, errW_some] <;> rfl) | (simp [*, errW_none, errW_some] <;> rfl), by repeat (first | (with_reducible first | exact HB.out | apply zba | apply zbn | apply zbd) | exact HB.out)⟩
 rw [if_pos c4] at H
 have c4b0 : decide (x5_1 < (l0.length : Int)) = true := zdt c4
 clear c4
 by_cases c5 : 0 ≤ x5_1
 rotate_left
 · rw [if_neg c5] at H
   exact absurd H (by simp)
 rw [if_pos c5] at H
 have c5b0 : decide (0 ≤ x5_1) = true := zdt c5
 clear c5
 by_cases c6 : x5_1 < (l1.length : Int)
 rotate_left
 · rw [if_neg c6] at H
   exact absurd H (by simp)
 rw [if_pos c6] at H
 have c6b0 : decide (x5_1 < (l1.length : Int)) = true := zdt c6
 clear c6
 replace H := zob H
 obtain ⟨t103, A70, H⟩ := H
 replace H : (if t103 = true then (laws_eqInstrS.l0 k1 l0 l1 (wrap64 (x5_1 + 1))) else (some false)) = some r := H
 have A7 := zA A70
 clear A70
 by_cases c8 : t103 = true
 rotate_left
 · replace c8 := zbf c8
   subst c8
   have H1 : (some false) = some r := by rw [if_neg (show ¬ (false = true) by decide)] at H; exact H
   clear H
   have H := H1
   clear H1
   obtain rfl := zsi H
   try go_wp2
   have n0_ := zA (zbd HB.out)
   clear HB
   have HB := n0_
   clear n0_
   have p101 : 0 ≤ (x5_1 : Int) := zde (by assumption)
   have q101 : x5_1 < (l0.length : Int) := zde (by assumption)
   obtain ⟨ad101, e101, hx101_0, hx101_1, hx101_2, hx101_3, hx101_4⟩ := at_T57 HR0.out x5_1 p101 q101
   have hw101_4 := hx101_4
   have hw101_3 := hx101_3
   have hw101_2 := hx101_2
   have hw101_1 := hx101_1
   have hw101_0 := hx101_0
   cases e101
   replace hx101_0 := zkep HB.out hx101_0
   replace hx101_1 := zkep HB.out hx101_1
   replace hx101_2 := zkep HB.out hx101_2
   replace hx101_3 := zkep HB.out hx101_3
   replace hx101_4 := zkep HB.out hx101_4
   replace p101 := eq_true p101
   replace q101 := eq_true q101
   have p102 : 0 ≤ (x5_1 : Int) := zde (by assumption)
   have q102 : x5_1 < (l1.length : Int) := zde (by assumption)
   obtain ⟨ad102, e102, hx102_0, hx102_1, hx102_2, hx102_3, hx102_4⟩ := at_T57 HR1.out x5_1 p102 q102
   have hw102_4 := hx102_4
   have hw102_3 := hx102_3
   have hw102_2 := hx102_2
   have hw102_1 := hx102_1
   have hw102_0 := hx102_0
   cases e102
   replace hx102_0 := zkep HB.out hx102_0
   replace hx102_1 := zkep HB.out hx102_1
   replace hx102_2 := zkep HB.out hx102_2
   replace hx102_3 := zkep HB.out hx102_3
   replace hx102_4 := zkep HB.out hx102_4
   replace p102 := eq_true p102
   replace q102 := eq_true q102
   refine start_ (n := 10) (S := fun w' => w'.cell? (ad101.add ((x5_1).toNat * 5)) = some (.string ((rd_T57 l0 x5_1).f0)) ∧ w'.cell? ⟨(ad101.add ((x5_1).toNat * 5)).block, (ad101.add ((x5_1).toNat * 5)).off + 1, none⟩ = some (.int .i64 ((rd_T57 l0 x5_1).f1)) ∧ w'.cell? ⟨(ad101.add ((x5_1).toNat * 5)).block, (ad101.add ((x5_1).toNat * 5)).off + 2, none⟩ = some (.int .i64 ((rd_T57 l0 x5_1).f2)) ∧ w'.cell? ⟨(ad101.add ((x5_1).toNat * 5)).block, (ad101.add ((x5_1).toNat * 5)).off + 3, none⟩ = some (.int .i64 ((rd_T57 l0 x5_1).f3)) ∧ w'.cell? ⟨(ad101.add ((x5_1).toNat * 5)).block, (ad101.add ((x5_1).toNat * 5)).off + 4, none⟩ = some (.int .i64 ((rd_T57 l0 x5_1).f4)) ∧ w'.cell? (ad102.add ((x5_1).toNat * 5)) = some (.string ((rd_T57 l1 x5_1).f0)) ∧ w'.cell? ⟨(ad102.add ((x5_1).toNat * 5)).block, (ad102.add ((x5_1).toNat * 5)).off + 1, none⟩ = some (.int .i64 ((rd_T57 l1 x5_1).f1)) ∧ w'.cell? ⟨(ad102.add ((x5_1).toNat * 5)).block, (ad102.add ((x5_1).toNat * 5)).off + 2, none⟩ = some (.int .i64 ((rd_T57 l1 x5_1).f2)) ∧ w'.cell? ⟨(ad102.add ((x5_1).toNat * 5)).block, (ad102.add ((x5_1).toNat * 5)).off + 3, none⟩ = some (.int .i64 ((rd_T57 l1 x5_1).f3)) ∧ w'.cell? ⟨(ad102.add ((x5_1).toNat * 5)).block, (ad102.add ((x5_1).toNat * 5)).off + 4, none⟩ = some (.int .i64 ((rd_T57 l1 x5_1).f4))) (ds := []) #[false, false, false, false, false, false, false, false, false, false] (by kernel_rfl) rfl rfl ⟨(zkep HB.out hw101_0), (zkep HB.out hw101_1), (zkep HB.out hw101_2), (zkep HB.out hw101_3), (zkep HB.out hw101_4), (zkep HB.out hw102_0), (zkep HB.out hw102_1), (zkep HB.out hw102_2), (zkep HB.out hw102_3), (zkep HB.out hw102_4)⟩ (fun hHeld => ?_); refine with_tabW laws_eqInstrS.tab6 laws_eqInstrS.bits6 (fun HT_ HW_ => ?_)
   generalize wr.drew = w11 at HB hx101_0 hx101_1 hx101_2 hx101_3 hx101_4 hx102_0 hx102_1 hx102_2 hx102_3 hx102_4 hHeld ⊢
   refine pure_ (i := 0) (N := some 17) (v := ?_) (a' := ?_) #[true, false, false, false, false, false, false, false, false, false] rfl rfl (any_of HT_.out (by kernel_rfl)) (fun _ _ _ h => h) (Or.inl ⟨by rfl, ?_⟩) ?_ ?_
   rotate_left
   · intro w'
     go_simp
     with_reducible rfl
   rotate_left
   · simp only [Act.put, List.setIfInBounds_toArray, List.set_cons_zero, List.set_cons_succ, i64_w, i32_w]
     rfl
   refine pure_ (i := 1) (N := some 18) (v := ?_) (a' := ?_) #[true, true, false, false, false, false, false, false, false, false] rfl rfl (any_of HT_.out (by kernel_rfl)) (fun _ _ _ h => h) (Or.inl ⟨by rfl, ?_⟩) ?_ ?_
   rotate_left
   · intro w'
     go_simp
     with_reducible rfl
   rotate_left
   · simp only [Act.put, List.setIfInBounds_toArray, List.set_cons_zero, List.set_cons_succ, i64_w, i32_w]
     rfl
   refine pure_ (i := 2) (N := some 19) (v := ?_) (a' := ?_) #[true, true, true, false, false, false, false, false, false, false] rfl rfl (any_of HT_.out (by kernel_rfl)) (fun _ _ _ h => h) (Or.inl ⟨by rfl, ?_⟩) ?_ ?_
   rotate_left
   · intro w'
     go_simp
     with_reducible rfl
   rotate_left
   · simp only [Act.put, List.setIfInBounds_toArray, List.set_cons_zero, List.set_cons_succ, i64_w, i32_w]
     rfl
   refine pure_ (i := 4) (N := some 21) (v := ?_) (a' := ?_) #[true, true, true, false, true, false, false, false, false, false] rfl rfl (any_of HT_.out (by kernel_rfl)) (fun _ _ _ h => h) (Or.inl ⟨by rfl, ?_⟩) ?_ ?_
   rotate_left
   · intro w'
     go_simp
     with_reducible rfl
   rotate_left
   · simp only [Act.put, List.setIfInBounds_toArray, List.set_cons_zero, List.set_cons_succ, i64_w, i32_w]
     rfl
   refine pure_ (i := 5) (N := some 22) (v := ?_) (a' := ?_) #[true, true, true, false, true, true, false, false, false, false] rfl rfl (any_of HT_.out (by kernel_rfl)) (fun _ _ _ h => h) (Or.inl ⟨by rfl, ?_⟩) ?_ ?_
   rotate_left
   · intro w'
     go_simp
     with_reducible rfl
   rotate_left
   · simp only [Act.put, List.setIfInBounds_toArray, List.set_cons_zero, List.set_cons_succ, i64_w, i32_w]
     rfl
   refine pure_ (i := 6) (N := some 23) (v := ?_) (a' := ?_) #[true, true, true, false, true, true, true, false, false, false] rfl rfl (any_of HT_.out (by kernel_rfl)) (fun _ _ _ h => h) (Or.inl ⟨by rfl, ?_⟩) ?_ ?_
   rotate_left
   · intro w'
     go_simp
     with_reducible rfl
   rotate_left
   · simp only [Act.put, List.setIfInBounds_toArray, List.set_cons_zero, List.set_cons_succ, i64_w, i32_w]
     rfl
   refine take_ (i := 3) (N := some 20) (v := ?_) (a' := ?_) #[true, true, true, true, true, true, true, false, false, false] rfl rfl (take_ofW HT_.out HW_.out (by kernel_rfl)) (fun _ _ _ h => h) (Or.inl ⟨by rfl, ?_⟩) hHeld ?_ ?_
   rotate_left
   · rintro w' ⟨s0, s1, s2, s3, s4, s5, s6, s7, s8, s9⟩
     go_simp
     with_reducible rfl
   rotate_left
   · simp only [Act.put, List.setIfInBounds_toArray, List.set_cons_zero, List.set_cons_succ, i64_w, i32_w]
     rfl
   refine take_ (i := 7) (N := some 24) (v := ?_) (a' := ?_) #[true, true, true, true, true, true, true, true, false, false] rfl rfl (take_ofW HT_.out HW_.out (by kernel_rfl)) (fun _ _ _ h => h) (Or.inl ⟨by rfl, ?_⟩) hHeld ?_ ?_
   rotate_left
   · rintro w' ⟨s0, s1, s2, s3, s4, s5, s6, s7, s8, s9⟩
     go_simp
     with_reducible rfl
   rotate_left
   · simp only [Act.put, List.setIfInBounds_toArray, List.set_cons_zero, List.set_cons_succ, i64_w, i32_w]
     rfl
   refine one_ (i := 8) (N := some 25) #[true, true, true, true, true, true, true, true, true, false] rfl rfl (one_of HT_.out (by kernel_rfl)) (by decide) (fun K hK => ?_)
   refine goes_ Try.func54 (by kernel_rfl) rfl #[.agg #[.string ((rd_T57 l0 x5_1).f0), .int .i64 ((rd_T57 l0 x5_1).f1), .int .i64 ((rd_T57 l0 x5_1).f2), .int .i64 ((rd_T57 l0 x5_1).f3), .int .i64 ((rd_T57 l0 x5_1).f4)], .agg #[.string ((rd_T57 l1 x5_1).f0), .int .i64 ((rd_T57 l1 x5_1).f1), .int .i64 ((rd_T57 l1 x5_1).f2), .int .i64 ((rd_T57 l1 x5_1).f3), .int .i64 ((rd_T57 l1 x5_1).f4)]] (by rfl) rfl rfl (by (try simp only [List.map_toArray, List.map_cons, List.map_nil]); first | done | rfl | (simp only [List.length_drop, List.length_take]; rfl)) ?_
   with_reducible refine (laws_eqInstr.calls ((rd_T57 l0 x5_1).f0) ((rd_T57 l0 x5_1).f1) ((rd_T57 l0 x5_1).f2) ((rd_T57 l0 x5_1).f3) ((rd_T57 l0 x5_1).f4) ((rd_T57 l1 x5_1).f0) ((rd_T57 l1 x5_1).f1) ((rd_T57 l1 x5_1).f2) ((rd_T57 l1 x5_1).f3) ((rd_T57 l1 x5_1).f4) false _ A7.out).mono ?_
   rintro e w12 ⟨rfl, hb⟩
   refine ⟨_, rfl, ?_⟩
   have n0_ := zA (below_step (by repeat (first | (with_reducible first | exact HB.out | apply zba | apply zbn | apply zbd) | exact HB.out)) hb)
   clear HB
   have HB := n0_
   clear n0_
   (try clear hb)
   (try clear hb2)
   (try clear hk)
   (try clear hi)
   refine hK.out _ _ ⟨(zkep HB.out hw101_0), (zkep HB.out hw101_1), (zkep HB.out hw101_2), (zkep HB.out hw101_3), (zkep HB.out hw101_4), (zkep HB.out hw102_0), (zkep HB.out hw102_1), (zkep HB.out hw102_2), (zkep HB.out hw102_3), (zkep HB.out hw102_4)⟩ (fun hHeld => ?_)
   clear hK K
   refine norm_ (a' := ?_) ?_ ?_
   rotate_left
   · show Act.put _ (some 25) _ = _
     simp only [Act.put, List.setIfInBounds_toArray, List.set_cons_zero, List.set_cons_succ, i64_w, i32_w]
     rfl
   refine pure_ (i := 9) (N := some 26) (v := ?_) (a' := ?_) #[true, true, true, true, true, true, true, true, true, true] rfl rfl (any_of HT_.out (by kernel_rfl)) (fun _ _ _ h => h) (Or.inl ⟨by rfl, ?_⟩) ?_ ?_
   rotate_left
   · intro w'
     go_simp
     with_reducible rfl
   rotate_left
   · simp only [Act.put, List.setIfInBounds_toArray, List.set_cons_zero, List.set_cons_succ, i64_w, i32_w]
     rfl
   refine done_ (done_of HT_.out (by kernel_rfl)) ?_
   try go_wp2
   go_ret
   exact ⟨by first | rfl | (simp [errW_none, errW_some] <;> rfl) | (simp [*, errW_none, errW_some] <;> rfl), by repeat (first | (with_reducible first | exact HB.out | apply zba | apply zbn | apply zbd) | exact HB.out)⟩
 subst c8
 have H1 : (laws_eqInstrS.l0 k1 l0 l1 (wrap64 (x5_1 + 1))) = some r := by rw [if_pos rfl] at H; exact H
 clear H
 have H := H1
 clear H1
 have H' := zA H
 clear H
 try go_wp2
 have n0_ := zA (zbd HB.out)
 clear HB
 have HB := n0_
 clear n0_
 have p101 : 0 ≤ (x5_1 : Int) := zde (by assumption)
 have q101 : x5_1 < (l0.length : Int) := zde (by assumption)
 obtain ⟨ad101, e101, hx101_0, hx101_1, hx101_2, hx101_3, hx101_4⟩ := at_T57 HR0.out x5_1 p101 q101
 have hw101_4 := hx101_4
 have hw101_3 := hx101_3
 have hw101_2 := hx101_2
 have hw101_1 := hx101_1
 have hw101_0 := hx101_0
 cases e101
 replace hx101_0 := zkep HB.out hx101_0
 replace hx101_1 := zkep HB.out hx101_1
 replace hx101_2 := zkep HB.out hx101_2
 replace hx101_3 := zkep HB.out hx101_3
 replace hx101_4 := zkep HB.out hx101_4
 replace p101 := eq_true p101
 replace q101 := eq_true q101
 have p102 : 0 ≤ (x5_1 : Int) := zde (by assumption)
 have q102 : x5_1 < (l1.length : Int) := zde (by assumption)
 obtain ⟨ad102, e102, hx102_0, hx102_1, hx102_2, hx102_3, hx102_4⟩ := at_T57 HR1.out x5_1 p102 q102
 have hw102_4 := hx102_4
 have hw102_3 := hx102_3
 have hw102_2 := hx102_2
 have hw102_1 := hx102_1
 have hw102_0 := hx102_0
 cases e102
 replace hx102_0 := zkep HB.out hx102_0
 replace hx102_1 := zkep HB.out hx102_1
 replace hx102_2 := zkep HB.out hx102_2
 replace hx102_3 := zkep HB.out hx102_3
 replace hx102_4 := zkep HB.out hx102_4
 replace p102 := eq_true p102
 replace q102 := eq_true q102
 refine start_ (n := 10) (S := fun w' => w'.cell? (ad101.add ((x5_1).toNat * 5)) = some (.string ((rd_T57 l0 x5_1).f0)) ∧ w'.cell? ⟨(ad101.add ((x5_1).toNat * 5)).block, (ad101.add ((x5_1).toNat * 5)).off + 1, none⟩ = some (.int .i64 ((rd_T57 l0 x5_1).f1)) ∧ w'.cell? ⟨(ad101.add ((x5_1).toNat * 5)).block, (ad101.add ((x5_1).toNat * 5)).off + 2, none⟩ = some (.int .i64 ((rd_T57 l0 x5_1).f2)) ∧ w'.cell? ⟨(ad101.add ((x5_1).toNat * 5)).block, (ad101.add ((x5_1).toNat * 5)).off + 3, none⟩ = some (.int .i64 ((rd_T57 l0 x5_1).f3)) ∧ w'.cell? ⟨(ad101.add ((x5_1).toNat * 5)).block, (ad101.add ((x5_1).toNat * 5)).off + 4, none⟩ = some (.int .i64 ((rd_T57 l0 x5_1).f4)) ∧ w'.cell? (ad102.add ((x5_1).toNat * 5)) = some (.string ((rd_T57 l1 x5_1).f0)) ∧ w'.cell? ⟨(ad102.add ((x5_1).toNat * 5)).block, (ad102.add ((x5_1).toNat * 5)).off + 1, none⟩ = some (.int .i64 ((rd_T57 l1 x5_1).f1)) ∧ w'.cell? ⟨(ad102.add ((x5_1).toNat * 5)).block, (ad102.add ((x5_1).toNat * 5)).off + 2, none⟩ = some (.int .i64 ((rd_T57 l1 x5_1).f2)) ∧ w'.cell? ⟨(ad102.add ((x5_1).toNat * 5)).block, (ad102.add ((x5_1).toNat * 5)).off + 3, none⟩ = some (.int .i64 ((rd_T57 l1 x5_1).f3)) ∧ w'.cell? ⟨(ad102.add ((x5_1).toNat * 5)).block, (ad102.add ((x5_1).toNat * 5)).off + 4, none⟩ = some (.int .i64 ((rd_T57 l1 x5_1).f4))) (ds := []) #[false, false, false, false, false, false, false, false, false, false] (by kernel_rfl) rfl rfl ⟨(zkep HB.out hw101_0), (zkep HB.out hw101_1), (zkep HB.out hw101_2), (zkep HB.out hw101_3), (zkep HB.out hw101_4), (zkep HB.out hw102_0), (zkep HB.out hw102_1), (zkep HB.out hw102_2), (zkep HB.out hw102_3), (zkep HB.out hw102_4)⟩ (fun hHeld => ?_); refine with_tabW laws_eqInstrS.tab6 laws_eqInstrS.bits6 (fun HT_ HW_ => ?_)
 generalize wr.drew = w9 at HB hx101_0 hx101_1 hx101_2 hx101_3 hx101_4 hx102_0 hx102_1 hx102_2 hx102_3 hx102_4 hHeld ⊢
 refine pure_ (i := 0) (N := some 17) (v := ?_) (a' := ?_) #[true, false, false, false, false, false, false, false, false, false] rfl rfl (any_of HT_.out (by kernel_rfl)) (fun _ _ _ h => h) (Or.inl ⟨by rfl, ?_⟩) ?_ ?_
 rotate_left
 · intro w'
   go_simp
   with_reducible rfl
 rotate_left
 · simp only [Act.put, List.setIfInBounds_toArray, List.set_cons_zero, List.set_cons_succ, i64_w, i32_w]
   rfl
 refine pure_ (i := 1) (N := some 18) (v := ?_) (a' := ?_) #[true, true, false, false, false, false, false, false, false, false] rfl rfl (any_of HT_.out (by kernel_rfl)) (fun _ _ _ h => h) (Or.inl ⟨by rfl, ?_⟩) ?_ ?_
 rotate_left
 · intro w'
   go_simp
   with_reducible rfl
 rotate_left
 · simp only [Act.put, List.setIfInBounds_toArray, List.set_cons_zero, List.set_cons_succ, i64_w, i32_w]
   rfl
 refine pure_ (i := 2) (N := some 19) (v := ?_) (a' := ?_) #[true, true, true, false, false, false, false, false, false, false] rfl rfl (any_of HT_.out (by kernel_rfl)) (fun _ _ _ h => h) (Or.inl ⟨by rfl, ?_⟩) ?_ ?_
 rotate_left
 · intro w'
   go_simp
   with_reducible rfl
 rotate_left
 · simp only [Act.put, List.setIfInBounds_toArray, List.set_cons_zero, List.set_cons_succ, i64_w, i32_w]
   rfl
 refine pure_ (i := 4) (N := some 21) (v := ?_) (a' := ?_) #[true, true, true, false, true, false, false, false, false, false] rfl rfl (any_of HT_.out (by kernel_rfl)) (fun _ _ _ h => h) (Or.inl ⟨by rfl, ?_⟩) ?_ ?_
 rotate_left
 · intro w'
   go_simp
   with_reducible rfl
 rotate_left
 · simp only [Act.put, List.setIfInBounds_toArray, List.set_cons_zero, List.set_cons_succ, i64_w, i32_w]
   rfl
 refine pure_ (i := 5) (N := some 22) (v := ?_) (a' := ?_) #[true, true, true, false, true, true, false, false, false, false] rfl rfl (any_of HT_.out (by kernel_rfl)) (fun _ _ _ h => h) (Or.inl ⟨by rfl, ?_⟩) ?_ ?_
 rotate_left
 · intro w'
   go_simp
   with_reducible rfl
 rotate_left
 · simp only [Act.put, List.setIfInBounds_toArray, List.set_cons_zero, List.set_cons_succ, i64_w, i32_w]
   rfl
 refine pure_ (i := 6) (N := some 23) (v := ?_) (a' := ?_) #[true, true, true, false, true, true, true, false, false, false] rfl rfl (any_of HT_.out (by kernel_rfl)) (fun _ _ _ h => h) (Or.inl ⟨by rfl, ?_⟩) ?_ ?_
 rotate_left
 · intro w'
   go_simp
   with_reducible rfl
 rotate_left
 · simp only [Act.put, List.setIfInBounds_toArray, List.set_cons_zero, List.set_cons_succ, i64_w, i32_w]
   rfl
 refine take_ (i := 3) (N := some 20) (v := ?_) (a' := ?_) #[true, true, true, true, true, true, true, false, false, false] rfl rfl (take_ofW HT_.out HW_.out (by kernel_rfl)) (fun _ _ _ h => h) (Or.inl ⟨by rfl, ?_⟩) hHeld ?_ ?_
 rotate_left
 · rintro w' ⟨s0, s1, s2, s3, s4, s5, s6, s7, s8, s9⟩
   go_simp
   with_reducible rfl
 rotate_left
 · simp only [Act.put, List.setIfInBounds_toArray, List.set_cons_zero, List.set_cons_succ, i64_w, i32_w]
   rfl
 refine take_ (i := 7) (N := some 24) (v := ?_) (a' := ?_) #[true, true, true, true, true, true, true, true, false, false] rfl rfl (take_ofW HT_.out HW_.out (by kernel_rfl)) (fun _ _ _ h => h) (Or.inl ⟨by rfl, ?_⟩) hHeld ?_ ?_
 rotate_left
 · rintro w' ⟨s0, s1, s2, s3, s4, s5, s6, s7, s8, s9⟩
   go_simp
   with_reducible rfl
 rotate_left
 · simp only [Act.put, List.setIfInBounds_toArray, List.set_cons_zero, List.set_cons_succ, i64_w, i32_w]
   rfl
 refine one_ (i := 8) (N := some 25) #[true, true, true, true, true, true, true, true, true, false] rfl rfl (one_of HT_.out (by kernel_rfl)) (by decide) (fun K hK => ?_)
 refine goes_ Try.func54 (by kernel_rfl) rfl #[.agg #[.string ((rd_T57 l0 x5_1).f0), .int .i64 ((rd_T57 l0 x5_1).f1), .int .i64 ((rd_T57 l0 x5_1).f2), .int .i64 ((rd_T57 l0 x5_1).f3), .int .i64 ((rd_T57 l0 x5_1).f4)], .agg #[.string ((rd_T57 l1 x5_1).f0), .int .i64 ((rd_T57 l1 x5_1).f1), .int .i64 ((rd_T57 l1 x5_1).f2), .int .i64 ((rd_T57 l1 x5_1).f3), .int .i64 ((rd_T57 l1 x5_1).f4)]] (by rfl) rfl rfl (by (try simp only [List.map_toArray, List.map_cons, List.map_nil]); first | done | rfl | (simp only [List.length_drop, List.length_take]; rfl)) ?_
 with_reducible refine (laws_eqInstr.calls ((rd_T57 l0 x5_1).f0) ((rd_T57 l0 x5_1).f1) ((rd_T57 l0 x5_1).f2) ((rd_T57 l0 x5_1).f3) ((rd_T57 l0 x5_1).f4) ((rd_T57 l1 x5_1).f0) ((rd_T57 l1 x5_1).f1) ((rd_T57 l1 x5_1).f2) ((rd_T57 l1 x5_1).f3) ((rd_T57 l1 x5_1).f4) true _ A7.out).mono ?_
 rintro e w10 ⟨rfl, hb⟩
 refine ⟨_, rfl, ?_⟩
 have n0_ := zA (below_step (by repeat (first | (with_reducible first | exact HB.out | apply zba | apply zbn | apply zbd) | exact HB.out)) hb)
 clear HB
 have HB := n0_
 clear n0_
 (try clear hb)
 (try clear hb2)
 (try clear hk)
 (try clear hi)
 refine hK.out _ _ ⟨(zkep HB.out hw101_0), (zkep HB.out hw101_1), (zkep HB.out hw101_2), (zkep HB.out hw101_3), (zkep HB.out hw101_4), (zkep HB.out hw102_0), (zkep HB.out hw102_1), (zkep HB.out hw102_2), (zkep HB.out hw102_3), (zkep HB.out hw102_4)⟩ (fun hHeld => ?_)
 clear hK K
 refine norm_ (a' := ?_) ?_ ?_
 rotate_left
 · show Act.put _ (some 25) _ = _
   simp only [Act.put, List.setIfInBounds_toArray, List.set_cons_zero, List.set_cons_succ, i64_w, i32_w]
   rfl
 refine pure_ (i := 9) (N := some 26) (v := ?_) (a' := ?_) #[true, true, true, true, true, true, true, true, true, true] rfl rfl (any_of HT_.out (by kernel_rfl)) (fun _ _ _ h => h) (Or.inl ⟨by rfl, ?_⟩) ?_ ?_
 rotate_left
 · intro w'
   go_simp
   with_reducible rfl
 rotate_left
 · simp only [Act.put, List.setIfInBounds_toArray, List.set_cons_zero, List.set_cons_succ, i64_w, i32_w]
   rfl
 refine done_ (done_of HT_.out (by kernel_rfl)) ?_
 try go_wp2
 go_roundg k1
 case measure => have := HK1.out; omega
 case rel => exact ⟨(wrap64 (x5_1 + 1)), (by first | rfl | (simp; done) | (simp [*]; done)), H', ⟨by have := HK1.out; omega⟩, ⟨by repeat (first | (with_reducible first | exact HB.out | apply zba | apply zbn | apply zbd) | exact HB.out)⟩⟩
def laws_eqIntS.l0 : Nat → List Int → List Int → Int → Option (Bool)
 | 0, _, _, _ => none
 | k + 1, x0, x1, x5 => if x5 < (x0.length : Int) then (if 0 ≤ x5 then (if x5 < (x1.length : Int) then (if (rd x0 x5) = (rd x1 x5) then (laws_eqIntS.l0 k x0 x1 (wrap64 (x5 + 1))) else (some false)) else (none)) else (none)) else (some true)
def laws_eqIntS.f (k : Nat) (l0 : List Int) (l1 : List Int) : Option (Bool) := if (l0.length : Int) = (l1.length : Int) then (laws_eqIntS.l0 k l0 l1 0) else (some false)
theorem laws_eqIntS.mono_l : ∀ k, (∀ y0 y1 y2, LeO (laws_eqIntS.l0 k y0 y1 y2) (laws_eqIntS.l0 (k + 1) y0 y1 y2))
 | 0 => fun _ _ _ r h => by simp [laws_eqIntS.l0] at h
 | k + 1 => by
   have ih0 := laws_eqIntS.mono_l k
   · intro y0 y1 y2
     unfold laws_eqIntS.l0
     repeat' first
     | (with_reducible first | exact ih0 _ _ _ | exact LeO.refl _ | exact LeO.none _ | refine LeO.ite ?_ ?_ | refine LeO.bind ?_ (fun _ => ?_))
     | exact LeO.none _
     | refine LeO.ite ?_ ?_
     | refine LeO.bind ?_ (fun _ => ?_)
theorem laws_eqIntS.mono : ∀ a0 a1 k, LeO (laws_eqIntS.f k a0 a1) (laws_eqIntS.f (k + 1) a0 a1) := by
 intro a0 a1 k
 have ih0 := laws_eqIntS.mono_l k
 unfold laws_eqIntS.f
 repeat' first
     | (with_reducible first | exact ih0 _ _ _ | exact LeO.refl _ | exact LeO.none _ | refine LeO.ite ?_ ?_ | refine LeO.bind ?_ (fun _ => ?_))
     | exact LeO.none _
     | refine LeO.ite ?_ ?_
     | refine LeO.bind ?_ (fun _ => ?_)
set_option maxHeartbeats 8000000 in
set_option maxRecDepth 100000 in
theorem laws_eqIntS.calls (k : Nat) (A0 : Option Addr) (c0 : Nat) (l0 : List Int) (A1 : Option Addr) (c1 : Nat) (l1 : List Int) (r : Bool) (w : World) (hr0 : Kd.C (Kd.int .i64) w A0 l0.length l0) (hc0 : l0.length ≤ c0) (hr1 : Kd.C (Kd.int .i64) w A1 l1.length l1) (hc1 : l1.length ≤ c1) (h : laws_eqIntS.f k l0 l1 = some r) :
   Calls Try.prog 26 #[.slice A0 l0.length c0, .slice A1 l1.length c1] w fun e w' => e = .returned (.bool r) ∧ Drawn0 w w' := by
 have HR0 := zA hr0
 have HC0 := zA hc0
 clear hr0 hc0
 have HR1 := zA hr1
 have HC1 := zA hc1
 clear hr1 hc1
 have H : (if (l0.length : Int) = (l1.length : Int) then (laws_eqIntS.l0 k l0 l1 0) else (some false)) = some r := h
 clear h
 by_cases c3 : (l0.length : Int) = (l1.length : Int)
 rotate_left
 · rw [if_neg c3] at H
   have c3b0 : ((l0.length : Int) == (l1.length : Int)) = false := beq_eq_false_iff_ne.mpr c3
   have c3b1 : ((l0.length : Int) != (l1.length : Int)) = true := bne_iff_ne.mpr c3
   have c3b2 : (l0.length == l1.length) = false := by first | simpa using c3 | (simp at c3 ⊢; omega)
   obtain rfl := zsi H
   go_enter Try.func26, Try.ntmps26
   go_wp2
   repeat (go_quiet (fail); try go_wp2)
   go_ret
   exact ⟨by first | rfl | (simp; done) | (simp [*]; done), by repeat (first | exact Drawn0.refl _ | apply Drawn0.step)⟩
 rw [if_pos c3] at H
 have c3b0 : ((l0.length : Int) == (l1.length : Int)) = true := beq_iff_eq.mpr c3
 have c3b1 : ((l0.length : Int) != (l1.length : Int)) = false := bne_eq_false_iff_eq.mpr c3
 have c3b2 : (l0.length == l1.length) = true := by first | simpa using c3 | (simp at c3 ⊢; omega)
 clear c3
 have H' := zA H
 clear H
 go_enter Try.func26, Try.ntmps26
 go_wp2
 repeat (go_quiet (fail); try go_wp2)
 go_loopg [5] k (fun kq v5 w' => ∃ (x5_1 : Int), v5 = .int .i64 x5_1 ∧ Aside0 (laws_eqIntS.l0 kq l0 l1 x5_1 = some r) ∧ Aside0 (kq ≤ k) ∧ Drawn0 w w')
 case atStart => exact ⟨(0), (by first | rfl | (simp; done) | (simp [*]; done)), H', ⟨zlr _⟩, by repeat (first | exact Drawn0.refl _ | apply Drawn0.step)⟩
 clear H'
 try clear c1
 try clear c2
 try clear p2
 try clear c3
 try clear c3b0
 try clear c3b1
 try clear c3b2
 obtain ⟨x5_1, rfl, HA, HK1, ⟨m1, rfl⟩⟩ := hrel
 cases gk with
 | zero => exact absurd HA.out (by simp [laws_eqIntS.l0])
 | succ k1 =>
 have H := HA.out
 clear HA
 simp only [laws_eqIntS.l0] at H
 by_cases c4 : x5_1 < (l0.length : Int)
 rotate_left
 · rw [if_neg c4] at H
   have c4b0 : decide (x5_1 < (l0.length : Int)) = false := zdf c4
   clear c4
   obtain rfl := zsi H
   go_wp2
   repeat (go_quiet (fail); try go_wp2)
   go_ret
   exact ⟨by first | rfl | (simp; done) | (simp [*]; done), by repeat (first | exact Drawn0.refl _ | apply Drawn0.step)⟩
 rw [if_pos c4] at H
 have c4b0 : decide (x5_1 < (l0.length : Int)) = true := zdt c4
 clear c4
 by_cases c5 : 0 ≤ x5_1
 rotate_left
 · rw [if_neg c5] at H
   exact absurd H (by simp)
 rw [if_pos c5] at H
 have c5b0 : decide (0 ≤ x5_1) = true := zdt c5
 clear c5
 by_cases c6 : x5_1 < (l1.length : Int)
 rotate_left
 · rw [if_neg c6] at H
   exact absurd H (by simp)
 rw [if_pos c6] at H
 have c6b0 : decide (x5_1 < (l1.length : Int)) = true := zdt c6
 clear c6
 by_cases c7 : (rd l0 x5_1) = (rd l1 x5_1)
 rotate_left
 · rw [if_neg c7] at H
   have c7b0 : ((rd l0 x5_1) == (rd l1 x5_1)) = false := beq_eq_false_iff_ne.mpr c7
   have c7b1 : ((rd l0 x5_1) != (rd l1 x5_1)) = true := bne_iff_ne.mpr c7
   obtain rfl := zsi H
   have p101 : 0 ≤ (x5_1 : Int) := zde (by assumption)
   have q101 : x5_1 < (l0.length : Int) := zde (by assumption)
   obtain ⟨ad101, e101, hx101_0⟩ := Kd.at_int HR0.out x5_1 p101 q101
   cases e101
   replace p101 := eq_true p101
   replace q101 := eq_true q101
   have p102 : 0 ≤ (x5_1 : Int) := zde (by assumption)
   have q102 : x5_1 < (l1.length : Int) := zde (by assumption)
   obtain ⟨ad102, e102, hx102_0⟩ := Kd.at_int HR1.out x5_1 p102 q102
   cases e102
   replace p102 := eq_true p102
   replace q102 := eq_true q102
   go_wp2
   repeat (go_quiet (fail); try go_wp2)
   go_ret
   exact ⟨by first | rfl | (simp; done) | (simp [*]; done), by repeat (first | exact Drawn0.refl _ | apply Drawn0.step)⟩
 rw [if_pos c7] at H
 have c7b0 : ((rd l0 x5_1) == (rd l1 x5_1)) = true := beq_iff_eq.mpr c7
 have c7b1 : ((rd l0 x5_1) != (rd l1 x5_1)) = false := bne_eq_false_iff_eq.mpr c7
 clear c7
 have H' := zA H
 clear H
 have p101 : 0 ≤ (x5_1 : Int) := zde (by assumption)
 have q101 : x5_1 < (l0.length : Int) := zde (by assumption)
 obtain ⟨ad101, e101, hx101_0⟩ := Kd.at_int HR0.out x5_1 p101 q101
 cases e101
 replace p101 := eq_true p101
 replace q101 := eq_true q101
 have p102 : 0 ≤ (x5_1 : Int) := zde (by assumption)
 have q102 : x5_1 < (l1.length : Int) := zde (by assumption)
 obtain ⟨ad102, e102, hx102_0⟩ := Kd.at_int HR1.out x5_1 p102 q102
 cases e102
 replace p102 := eq_true p102
 replace q102 := eq_true q102
 go_wp2
 repeat (go_quiet (fail); try go_wp2)
 go_roundg k1
 case measure => have := HK1.out; omega
 case rel => exact ⟨(wrap64 (x5_1 + 1)), (by first | rfl | (simp; done) | (simp [*]; done)), H', ⟨by have := HK1.out; omega⟩, by repeat (first | exact Drawn0.refl _ | apply Drawn0.step)⟩
def laws_markText.l0 : Nat → Int → ByteArray → Option (ByteArray)
 | 0, _, _ => none
 | k + 1, x0, x3 => if x0 > 0 then ((some (([(wrap64 (48 + (Int.tmod x0 10))) % 256] : List Int) : List Int)).bind fun y101 => (if (strOfNums y101).size + x3.size ≤ 9223372036854775807 then (laws_markText.l0 k (wrap64 (Int.tdiv x0 10)) ((strOfNums y101) ++ x3)) else (none))) else (if 1 + x3.size ≤ 9223372036854775807 then (some ((⟨#[109]⟩ : ByteArray) ++ x3)) else (none))
def laws_markText.f (k : Nat) (a0 : Int) : Option (ByteArray) := if a0 ≤ 0 then (some (⟨#[109, 48]⟩ : ByteArray)) else (laws_markText.l0 k a0 (⟨#[]⟩ : ByteArray))
theorem laws_markText.mono_l : ∀ k, (∀ y0 y1, LeO (laws_markText.l0 k y0 y1) (laws_markText.l0 (k + 1) y0 y1))
 | 0 => fun _ _ r h => by simp [laws_markText.l0] at h
 | k + 1 => by
   have ih0 := laws_markText.mono_l k
   · intro y0 y1
     unfold laws_markText.l0
     repeat' first
     | (with_reducible first | exact ih0 _ _ | exact LeO.refl _ | exact LeO.none _ | refine LeO.ite ?_ ?_ | refine LeO.bind ?_ (fun _ => ?_))
     | exact LeO.none _
     | refine LeO.ite ?_ ?_
     | refine LeO.bind ?_ (fun _ => ?_)
theorem laws_markText.mono : ∀ a0 k, LeO (laws_markText.f k a0) (laws_markText.f (k + 1) a0) := by
 intro a0 k
 have ih0 := laws_markText.mono_l k
 unfold laws_markText.f
 repeat' first
     | (with_reducible first | exact ih0 _ _ | exact LeO.refl _ | exact LeO.none _ | refine LeO.ite ?_ ?_ | refine LeO.bind ?_ (fun _ => ?_))
     | exact LeO.none _
     | refine LeO.ite ?_ ?_
     | refine LeO.bind ?_ (fun _ => ?_)
set_option maxHeartbeats 8000000 in
set_option maxRecDepth 100000 in
theorem laws_markText.calls (k : Nat) (a0 : Int) (r : ByteArray) (w : World) (h : laws_markText.f k a0 = some r) :
   Calls Try.prog 55 #[.int .i64 a0] w fun e w' => e = .returned (.string r) ∧ Below w.heap.size w w' := by
 have HB := zA (Below.refl w.heap.size w)
 have H : (if a0 ≤ 0 then (some (⟨#[109, 48]⟩ : ByteArray)) else (laws_markText.l0 k a0 (⟨#[]⟩ : ByteArray))) = some r := h
 clear h
 by_cases c2 : a0 ≤ 0
 · rw [if_pos c2] at H
   have c2b0 : decide (a0 ≤ 0) = true := zdt c2
   clear c2
   obtain rfl := zsi H
   go_enter Try.func55, Try.ntmps55
   go_wp2
   go_ret
   exact ⟨by first | rfl | (simp [errW_none, errW_some] <;> rfl) | (simp [*, errW_none, errW_some] <;> rfl), by repeat (first | (with_reducible first | exact HB.out | apply zba | apply zbn | apply zbd) | exact HB.out)⟩
 rw [if_neg c2] at H
 have c2b0 : decide (a0 ≤ 0) = false := zdf c2
 clear c2
 have H' := zA H
 clear H
 go_enter Try.func55, Try.ntmps55
 go_wp2
 go_loopg [0, 3] k (fun kq v0 v3 w' => ∃ (x0_1 : Int) (x3_1 : ByteArray), v0 = .int .i64 x0_1 ∧ v3 = .string x3_1 ∧ Aside0 (laws_markText.l0 kq x0_1 x3_1 = some r) ∧ Aside0 (kq ≤ k) ∧ Aside0 (Below w.heap.size w w'))
 case atStart => exact ⟨(a0), ((⟨#[]⟩ : ByteArray)), (by first | rfl | (simp; done) | (simp [*]; done)), (by first | rfl | (simp; done) | (simp [*]; done)), H', ⟨zlr _⟩, ⟨by repeat (first | (with_reducible first | exact HB.out | apply zba | apply zbn | apply zbd) | exact HB.out)⟩⟩
 clear H'
 try clear c2
 try clear c2b0
 try clear p2
 obtain ⟨x0_1, x3_1, rfl, rfl, HA, HK1, HB⟩ := hrel
 cases gk with
 | zero => exact absurd HA.out (by simp [laws_markText.l0])
 | succ k1 =>
 have H := HA.out
 clear HA
 simp only [laws_markText.l0] at H
 by_cases c3 : x0_1 > 0
 rotate_left
 · rw [if_neg c3] at H
   have c3b0 : decide (0 < x0_1) = false := zdf c3
   clear c3
   by_cases c8 : 1 + x3_1.size ≤ 9223372036854775807
   rotate_left
   · rw [if_neg c8] at H
     exact absurd H (by simp)
   rw [if_pos c8] at H
   have c8b0 := eq_true c8
   have c8b1 : decide (1 + x3_1.size ≤ 9223372036854775807) = true := zdt c8
   try have c8b2 : (9223372036854775807 < 1 + x3_1.size) = False := eq_false (Nat.not_lt.2 c8)
   obtain rfl := zsi H
   go_wp2
   go_ret
   exact ⟨by first | rfl | (simp [errW_none, errW_some] <;> rfl) | (simp [*, errW_none, errW_some] <;> rfl), by repeat (first | (with_reducible first | exact HB.out | apply zba | apply zbn | apply zbd) | exact HB.out)⟩
 rw [if_pos c3] at H
 have c3b0 : decide (0 < x0_1) = true := zdt c3
 clear c3
 obtain ⟨y101, hy101⟩ : ∃ y_ : List Int, y_ = (([(wrap64 (48 + (Int.tmod x0_1 10))) % 256] : List Int)) := ⟨_, rfl⟩
 replace H : (if (strOfNums y101).size + x3_1.size ≤ 9223372036854775807 then (laws_markText.l0 k1 (wrap64 (Int.tdiv x0_1 10)) ((strOfNums y101) ++ x3_1)) else (none)) = some r := by first | (rw [hy101]; with_reducible exact H) | (have H2_ := (Option.bind_some _ _).symm.trans H; rw [hy101]; with_reducible exact H2_) | (have H2_ := (Option.bind_some _ _).symm.trans H; with_reducible exact H2_) | with_reducible exact H | (rw [hy101]; exact H) | exact H
 have Ny101 := zA hy101
 clear hy101
 by_cases c4 : (strOfNums y101).size + x3_1.size ≤ 9223372036854775807
 rotate_left
 · rw [if_neg c4] at H
   exact absurd H (by simp)
 rw [if_pos c4] at H
 have c4b0 := eq_true c4
 have c4b1 : decide ((strOfNums y101).size + x3_1.size ≤ 9223372036854775807) = true := zdt c4
 try have c4b2 : (9223372036854775807 < (strOfNums y101).size + x3_1.size) = False := eq_false (Nat.not_lt.2 c4)
 have H' := zA H
 clear H
 go_wp2_with (first | ((with_reducible refine gate_dst (N := 12) rfl ?_); refine Kd.R_lit (Kd.int .u8) _ 5 ?hg (N := 12) ?hd (xs := ([(wrap64 (48 + (Int.tmod x0_1 10))) % 256] : List Int)) (inner := [.int .u8 ((wrap64 (48 + (Int.tmod x0_1 10))) % 256)]) (ok := fun _ => True) (okp := fun _ => True) ?hr ?hp (fun _ hk => hk) trivial (Below.refl _ _) (zlr _) (by simp) ?_; (case hd => rfl); (case hg => rfl); (case hr => go_simp <;> rfl); (case hp => exact (Reps.one (show Kd.M (Kd.int .u8) _ _ _ ((wrap64 (48 + (Int.tmod x0_1 10))) % 256) [.int .u8 ((wrap64 (48 + (Int.tmod x0_1 10))) % 256)] from rfl) (Reps.none _ _))); intro v102 w5 ho6 hb hg_ hnew_; clear hg_ hnew_; (first | rw [← Ny101.out] at ho6 | (simp only [Int.reduceToNat] at ho6; rw [← Ny101.out] at ho6)); have n0_ := zA (Kd.R_lower ho6 (below_size (by repeat (first | (with_reducible first | exact HB.out | apply zba | apply zbn | apply zbd) | exact HB.out)))); have n1_ := zA (below_step (by repeat (first | (with_reducible first | exact HB.out | apply zba | apply zbn | apply zbd) | exact HB.out)) hb); clear HB; have HO103 := n0_; have HB := n1_; clear n0_ n1_; clear hb ho6; have hcv7 := own_string (P := Try.prog) Try.underlying82 Try.underlying5 Try.underlying9 (Kd.own_of_R HO103.out)))
 go_roundg k1
 case measure => have := HK1.out; omega
 case rel => exact ⟨(wrap64 (Int.tdiv x0_1 10)), ((strOfNums y101) ++ x3_1), (by first | rfl | (simp; done) | (simp [*]; done)), (by first | rfl | (simp; done) | (simp [*]; done)), H', ⟨by have := HK1.out; omega⟩, ⟨by repeat (first | (with_reducible first | exact HB.out | apply zba | apply zbn | apply zbd) | exact HB.out)⟩⟩
end Go.Proofs.Yteaablbhdmkcpaa.Q
end
