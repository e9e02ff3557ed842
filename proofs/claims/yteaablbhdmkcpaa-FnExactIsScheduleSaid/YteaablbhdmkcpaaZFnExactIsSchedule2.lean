/- Proved here: contracts of functions that the law FnExactIsSchedule reaches, and lemmas on what they compute; texts of this session and the printed words of the kit that they lean on, cut down and put together by its program link.py. Conditions: as each states. -/
import Derived.Maps.OwnOps
import Derived.Maps.Views
import Derived.Test.YteaablbhdmkcpaaZFnExactIsSchedule1
section
namespace Go.Proofs.Yteaablbhdmkcpaa.Q
open Go.RowKit Go.Proofs.YteaablbhdmkcpaaW.PrintWords Go.Proofs.YteaablbhdmkcpaaW.PrintLast Go.Proofs.YteaablbhdmkcpaaW.PrintMore
attribute [local go_sem] max2_int min2_int max_two min_two max_three min_three max_four min_four
set_option linter.unusedVariables false
set_option linter.unusedSimpArgs false
mutual
def impl_delays.l0 : Nat → List (S57) → List (List Int) → List (S57) → Int → Int → Option ((List (List Int)))
  | 0, _, _, _, _, _ => none
  | k + 1, x0, x3, x12, x13, x14 => if x14 < x13 then (if 0 ≤ x14 then (if x14 < (x12.length : Int) then ((slices_Repeat_int_int.f (([(-1)] : List Int)) x14).bind fun t109 => (if x14 < (x3.length : Int) then (if x14 ≤ (x0.length : Int) then ((some (x0.take (x14 : Int).toNat : List (S57))).bind fun y113 => (impl_delays.l1 k x0 (x3.set (x14 : Int).toNat t109) x14 x12 x13 x14 y113 (y113.length : Int) 0 ((rd_T57 x12 x14).f0) ((rd_T57 x12 x14).f1) ((rd_T57 x12 x14).f2) ((rd_T57 x12 x14).f3) ((rd_T57 x12 x14).f4))) else (none)) else (none))) else (none)) else (none)) else (some x3)
def impl_delays.l1 : Nat → List (S57) → List (List Int) → Int → List (S57) → Int → Int → List (S57) → Int → Int → ByteArray → Int → Int → Int → Int → Option ((List (List Int)))
  | 0, _, _, _, _, _, _, _, _, _, _, _, _, _, _ => none
  | k + 1, x0, x3, x4, x12, x13, x14, x27, x28, x29, x106000, x106001, x106002, x106003, x106004 => if x29 < x28 then (if 0 ≤ x29 then (if x29 < (x27.length : Int) then ((impl_Instr_reads.f k ((rd_T57 x27 x29).f0) ((rd_T57 x27 x29).f1) ((rd_T57 x27 x29).f2) ((rd_T57 x27 x29).f3) ((rd_T57 x27 x29).f4)).bind fun t119 => ((slices_Contains_int_int.f k t119 x106001).bind fun t122 => (if t122 = true then (if 0 ≤ x4 then (if x4 < (x3.length : Int) then (if x29 < ((rd_L4 x3 x4).length : Int) then (impl_delays.j2 k x0 (x3.set (x4 : Int).toNat ((rd_L4 x3 x4).set (x29 : Int).toNat 0)) x4 x29 x12 x13 x14 x27 x28 x29 x106000 x106001 x106002 x106003 x106004 ((rd_T57 x27 x29).f0) ((rd_T57 x27 x29).f1) ((rd_T57 x27 x29).f2) ((rd_T57 x27 x29).f3) ((rd_T57 x27 x29).f4)) else (none)) else (none)) else (none)) else (impl_delays.j2 k x0 x3 x4 x29 x12 x13 x14 x27 x28 x29 x106000 x106001 x106002 x106003 x106004 ((rd_T57 x27 x29).f0) ((rd_T57 x27 x29).f1) ((rd_T57 x27 x29).f2) ((rd_T57 x27 x29).f3) ((rd_T57 x27 x29).f4))))) else (none)) else (none)) else (impl_delays.l0 k x0 x3 x12 x13 (wrap64 (x14 + 1)))
def impl_delays.j2 : Nat → List (S57) → List (List Int) → Int → Int → List (S57) → Int → Int → List (S57) → Int → Int → ByteArray → Int → Int → Int → Int → ByteArray → Int → Int → Int → Int → Option ((List (List Int)))
  | 0, _, _, _, _, _, _, _, _, _, _, _, _, _, _, _, _, _, _, _, _ => none
  | k + 1, x0, x3, x4, x6, x12, x13, x14, x27, x28, x29, x106000, x106001, x106002, x106003, x106004, x119000, x119001, x119002, x119003, x119004 => if x119001 = x106001 then (if 0 ≤ x4 then (if x4 < (x3.length : Int) then (if 0 ≤ x6 then (if x6 < ((rd_L4 x3 x4).length : Int) then (impl_delays.j3 k x0 (x3.set (x4 : Int).toNat ((rd_L4 x3 x4).set (x6 : Int).toNat 1)) x4 x6 x12 x13 x14 x27 x28 x29 x106000 x106001 x106002 x106003 x106004 x119000 x119001 x119002 x119003 x119004) else (none)) else (none)) else (none)) else (none)) else (impl_delays.j3 k x0 x3 x4 x6 x12 x13 x14 x27 x28 x29 x106000 x106001 x106002 x106003 x106004 x119000 x119001 x119002 x119003 x119004)
def impl_delays.j3 : Nat → List (S57) → List (List Int) → Int → Int → List (S57) → Int → Int → List (S57) → Int → Int → ByteArray → Int → Int → Int → Int → ByteArray → Int → Int → Int → Int → Option ((List (List Int)))
  | 0, _, _, _, _, _, _, _, _, _, _, _, _, _, _, _, _, _, _, _, _ => none
  | k + 1, x0, x3, x4, x6, x12, x13, x14, x27, x28, x29, x106000, x106001, x106002, x106003, x106004, x119000, x119001, x119002, x119003, x119004 => if 0 ≤ (wrap64 (x6 + 1)) then (if (wrap64 (x6 + 1)) ≤ x4 then (if x4 ≤ (x0.length : Int) then ((slices_ContainsFunc_impl_delays_1.f k ((x0.take (x4 : Int).toNat).drop ((wrap64 (x6 + 1)) : Int).toNat) [(⟨x119000, x119001, x119002, x119003, x119004⟩ : S57)]).bind fun t135 => ((impl_Instr_reads.f k x106000 x106001 x106002 x106003 x106004).bind fun t136 => ((slices_Contains_int_int.f k t136 x119001).bind fun t139 => (if t139 = true then (if t135 = true then (impl_delays.l1 k x0 x3 x4 x12 x13 x14 x27 x28 (wrap64 (x29 + 1)) x106000 x106001 x106002 x106003 x106004) else (if 0 ≤ x4 then (if x4 < (x3.length : Int) then (if 0 ≤ x6 then (if x6 < ((rd_L4 x3 x4).length : Int) then ((impl_Instr_cost.f x119000 x119001 x119002 x119003 x119004).bind fun t143 => (impl_delays.l1 k x0 (x3.set (x4 : Int).toNat ((rd_L4 x3 x4).set (x6 : Int).toNat (mx (rd (rd_L4 x3 x4) x6) t143))) x4 x12 x13 x14 x27 x28 (wrap64 (x29 + 1)) x106000 x106001 x106002 x106003 x106004)) else (none)) else (none)) else (none)) else (none))) else (impl_delays.l1 k x0 x3 x4 x12 x13 x14 x27 x28 (wrap64 (x29 + 1)) x106000 x106001 x106002 x106003 x106004))))) else (none)) else (none)) else (none)
end
def impl_delays.f (k : Nat) (l0 : List (S57)) : Option ((List (List Int))) := if 0 ≤ (l0.length : Int) then (if ((l0.length : Int) : Int).toNat ≤ 11728124029610 then (impl_delays.l0 k l0 (List.replicate ((l0.length : Int) : Int).toNat []) l0 (l0.length : Int) 0) else (none)) else (none)
theorem impl_delays.mono_l : ∀ k, (∀ y0 y1 y2 y3 y4, LeO (impl_delays.l0 k y0 y1 y2 y3 y4) (impl_delays.l0 (k + 1) y0 y1 y2 y3 y4)) ∧ (∀ y0 y1 y2 y3 y4 y5 y6 y7 y8 y9 y10 y11 y12 y13, LeO (impl_delays.l1 k y0 y1 y2 y3 y4 y5 y6 y7 y8 y9 y10 y11 y12 y13) (impl_delays.l1 (k + 1) y0 y1 y2 y3 y4 y5 y6 y7 y8 y9 y10 y11 y12 y13)) ∧ (∀ y0 y1 y2 y3 y4 y5 y6 y7 y8 y9 y10 y11 y12 y13 y14 y15 y16 y17 y18 y19, LeO (impl_delays.j2 k y0 y1 y2 y3 y4 y5 y6 y7 y8 y9 y10 y11 y12 y13 y14 y15 y16 y17 y18 y19) (impl_delays.j2 (k + 1) y0 y1 y2 y3 y4 y5 y6 y7 y8 y9 y10 y11 y12 y13 y14 y15 y16 y17 y18 y19)) ∧ (∀ y0 y1 y2 y3 y4 y5 y6 y7 y8 y9 y10 y11 y12 y13 y14 y15 y16 y17 y18 y19, LeO (impl_delays.j3 k y0 y1 y2 y3 y4 y5 y6 y7 y8 y9 y10 y11 y12 y13 y14 y15 y16 y17 y18 y19) (impl_delays.j3 (k + 1) y0 y1 y2 y3 y4 y5 y6 y7 y8 y9 y10 y11 y12 y13 y14 y15 y16 y17 y18 y19))
  | 0 => ⟨fun _ _ _ _ _ r h => by simp [impl_delays.l0] at h, fun _ _ _ _ _ _ _ _ _ _ _ _ _ _ r h => by simp [impl_delays.l1] at h, fun _ _ _ _ _ _ _ _ _ _ _ _ _ _ _ _ _ _ _ _ r h => by simp [impl_delays.j2] at h, fun _ _ _ _ _ _ _ _ _ _ _ _ _ _ _ _ _ _ _ _ r h => by simp [impl_delays.j3] at h⟩
  | k + 1 => by
    obtain ⟨ih0, ih1, ih2, ih3⟩ := impl_delays.mono_l k
    refine ⟨?_, ?_, ?_, ?_⟩
    · intro y0 y1 y2 y3 y4
      unfold impl_delays.l0
      repeat' first
      | (with_reducible exact ih0 _ _ _ _ _)
      | (with_reducible exact ih1 _ _ _ _ _ _ _ _ _ _ _ _ _ _)
      | (with_reducible exact ih2 _ _ _ _ _ _ _ _ _ _ _ _ _ _ _ _ _ _ _ _)
      | (with_reducible exact ih3 _ _ _ _ _ _ _ _ _ _ _ _ _ _ _ _ _ _ _ _)
      | (with_reducible exact impl_Instr_reads.mono _ _ _ _ _ _)
      | (with_reducible exact slices_ContainsFunc_impl_delays_1.mono _ _ _)
      | (with_reducible exact slices_Contains_int_int.mono _ _ _)
      | (with_reducible exact LeO.refl _)
      | (with_reducible exact LeO.none _)
      | (with_reducible refine LeO.ite ?_ ?_)
      | (with_reducible refine LeO.bind ?_ (fun _ => ?_))
      | exact ih0 _ _ _ _ _
      | exact ih1 _ _ _ _ _ _ _ _ _ _ _ _ _ _
      | exact ih2 _ _ _ _ _ _ _ _ _ _ _ _ _ _ _ _ _ _ _ _
      | exact ih3 _ _ _ _ _ _ _ _ _ _ _ _ _ _ _ _ _ _ _ _
      | exact impl_Instr_reads.mono _ _ _ _ _ _
      | exact slices_ContainsFunc_impl_delays_1.mono _ _ _
      | exact slices_Contains_int_int.mono _ _ _
      | exact LeO.none _
      | refine LeO.ite ?_ ?_
      | refine LeO.bind ?_ (fun _ => ?_)
    · intro y0 y1 y2 y3 y4 y5 y6 y7 y8 y9 y10 y11 y12 y13
      unfold impl_delays.l1
      repeat' first
      | (with_reducible exact ih0 _ _ _ _ _)
      | (with_reducible exact ih1 _ _ _ _ _ _ _ _ _ _ _ _ _ _)
      | (with_reducible exact ih2 _ _ _ _ _ _ _ _ _ _ _ _ _ _ _ _ _ _ _ _)
      | (with_reducible exact ih3 _ _ _ _ _ _ _ _ _ _ _ _ _ _ _ _ _ _ _ _)
      | (with_reducible exact impl_Instr_reads.mono _ _ _ _ _ _)
      | (with_reducible exact slices_ContainsFunc_impl_delays_1.mono _ _ _)
      | (with_reducible exact slices_Contains_int_int.mono _ _ _)
      | (with_reducible exact LeO.refl _)
      | (with_reducible exact LeO.none _)
      | (with_reducible refine LeO.ite ?_ ?_)
      | (with_reducible refine LeO.bind ?_ (fun _ => ?_))
      | exact ih0 _ _ _ _ _
      | exact ih1 _ _ _ _ _ _ _ _ _ _ _ _ _ _
      | exact ih2 _ _ _ _ _ _ _ _ _ _ _ _ _ _ _ _ _ _ _ _
      | exact ih3 _ _ _ _ _ _ _ _ _ _ _ _ _ _ _ _ _ _ _ _
      | exact impl_Instr_reads.mono _ _ _ _ _ _
      | exact slices_ContainsFunc_impl_delays_1.mono _ _ _
      | exact slices_Contains_int_int.mono _ _ _
      | exact LeO.none _
      | refine LeO.ite ?_ ?_
      | refine LeO.bind ?_ (fun _ => ?_)
    · intro y0 y1 y2 y3 y4 y5 y6 y7 y8 y9 y10 y11 y12 y13 y14 y15 y16 y17 y18 y19
      unfold impl_delays.j2
      repeat' first
      | (with_reducible exact ih0 _ _ _ _ _)
      | (with_reducible exact ih1 _ _ _ _ _ _ _ _ _ _ _ _ _ _)
      | (with_reducible exact ih2 _ _ _ _ _ _ _ _ _ _ _ _ _ _ _ _ _ _ _ _)
      | (with_reducible exact ih3 _ _ _ _ _ _ _ _ _ _ _ _ _ _ _ _ _ _ _ _)
      | (with_reducible exact impl_Instr_reads.mono _ _ _ _ _ _)
      | (with_reducible exact slices_ContainsFunc_impl_delays_1.mono _ _ _)
      | (with_reducible exact slices_Contains_int_int.mono _ _ _)
      | (with_reducible exact LeO.refl _)
      | (with_reducible exact LeO.none _)
      | (with_reducible refine LeO.ite ?_ ?_)
      | (with_reducible refine LeO.bind ?_ (fun _ => ?_))
      | exact ih0 _ _ _ _ _
      | exact ih1 _ _ _ _ _ _ _ _ _ _ _ _ _ _
      | exact ih2 _ _ _ _ _ _ _ _ _ _ _ _ _ _ _ _ _ _ _ _
      | exact ih3 _ _ _ _ _ _ _ _ _ _ _ _ _ _ _ _ _ _ _ _
      | exact impl_Instr_reads.mono _ _ _ _ _ _
      | exact slices_ContainsFunc_impl_delays_1.mono _ _ _
      | exact slices_Contains_int_int.mono _ _ _
      | exact LeO.none _
      | refine LeO.ite ?_ ?_
      | refine LeO.bind ?_ (fun _ => ?_)
    · intro y0 y1 y2 y3 y4 y5 y6 y7 y8 y9 y10 y11 y12 y13 y14 y15 y16 y17 y18 y19
      unfold impl_delays.j3
      repeat' first
      | (with_reducible exact ih0 _ _ _ _ _)
      | (with_reducible exact ih1 _ _ _ _ _ _ _ _ _ _ _ _ _ _)
      | (with_reducible exact ih2 _ _ _ _ _ _ _ _ _ _ _ _ _ _ _ _ _ _ _ _)
      | (with_reducible exact ih3 _ _ _ _ _ _ _ _ _ _ _ _ _ _ _ _ _ _ _ _)
      | (with_reducible exact impl_Instr_reads.mono _ _ _ _ _ _)
      | (with_reducible exact slices_ContainsFunc_impl_delays_1.mono _ _ _)
      | (with_reducible exact slices_Contains_int_int.mono _ _ _)
      | (with_reducible exact LeO.refl _)
      | (with_reducible exact LeO.none _)
      | (with_reducible refine LeO.ite ?_ ?_)
      | (with_reducible refine LeO.bind ?_ (fun _ => ?_))
      | exact ih0 _ _ _ _ _
      | exact ih1 _ _ _ _ _ _ _ _ _ _ _ _ _ _
      | exact ih2 _ _ _ _ _ _ _ _ _ _ _ _ _ _ _ _ _ _ _ _
      | exact ih3 _ _ _ _ _ _ _ _ _ _ _ _ _ _ _ _ _ _ _ _
      | exact impl_Instr_reads.mono _ _ _ _ _ _
      | exact slices_ContainsFunc_impl_delays_1.mono _ _ _
      | exact slices_Contains_int_int.mono _ _ _
      | exact LeO.none _
      | refine LeO.ite ?_ ?_
      | refine LeO.bind ?_ (fun _ => ?_)
theorem impl_delays.mono : ∀ a0 k, LeO (impl_delays.f k a0) (impl_delays.f (k + 1) a0) := by
  intro a0 k
  obtain ⟨ih0, ih1, ih2, ih3⟩ := impl_delays.mono_l k
  unfold impl_delays.f
  repeat' first
      | (with_reducible exact ih0 _ _ _ _ _)
      | (with_reducible exact ih1 _ _ _ _ _ _ _ _ _ _ _ _ _ _)
      | (with_reducible exact ih2 _ _ _ _ _ _ _ _ _ _ _ _ _ _ _ _ _ _ _ _)
      | (with_reducible exact ih3 _ _ _ _ _ _ _ _ _ _ _ _ _ _ _ _ _ _ _ _)
      | (with_reducible exact impl_Instr_reads.mono _ _ _ _ _ _)
      | (with_reducible exact slices_ContainsFunc_impl_delays_1.mono _ _ _)
      | (with_reducible exact slices_Contains_int_int.mono _ _ _)
      | (with_reducible exact LeO.refl _)
      | (with_reducible exact LeO.none _)
      | (with_reducible refine LeO.ite ?_ ?_)
      | (with_reducible refine LeO.bind ?_ (fun _ => ?_))
      | exact ih0 _ _ _ _ _
      | exact ih1 _ _ _ _ _ _ _ _ _ _ _ _ _ _
      | exact ih2 _ _ _ _ _ _ _ _ _ _ _ _ _ _ _ _ _ _ _ _
      | exact ih3 _ _ _ _ _ _ _ _ _ _ _ _ _ _ _ _ _ _ _ _
      | exact impl_Instr_reads.mono _ _ _ _ _ _
      | exact slices_ContainsFunc_impl_delays_1.mono _ _ _
      | exact slices_Contains_int_int.mono _ _ _
      | exact LeO.none _
      | refine LeO.ite ?_ ?_
      | refine LeO.bind ?_ (fun _ => ?_)
def impl_delays.T14 : Bool × List (List Nat × List Nat) := (true, [([], []), ([0], [0]), ([], []), ([2], [2]), ([1, 3, 1], [1, 3]), ([4, 4], [4]), ([5], [5]), ([6, 5], [5, 6]), ([5, 7], [5, 7])])
def impl_delays.B14 : List Nat := [0, 1, 0, 4, 15, 31, 63, 127, 255]
theorem impl_delays.tab14 : rtab .any (opsOf Try.f53 14) = impl_delays.T14 := by kernel_rfl
theorem impl_delays.bits14 : waitsOk impl_delays.T14.2 impl_delays.B14 = true := by kernel_rfl
def impl_delays.T15 : Bool × List (List Nat × List Nat) := (true, [([], []), ([], []), ([0, 1], [0, 1]), ([2], [2]), ([], []), ([], []), ([], []), ([5, 6], [5, 6]), ([7], [7]), ([], []), ([8, 9], [8, 9]), ([10], [10]), ([], []), ([12], [12]), ([11, 13], [11, 13]), ([3, 4, 0, 1, 2, 3, 4, 5, 6, 7, 8, 9, 10, 11, 12, 13, 14], [3, 4]), ([15, 14, 13, 0, 1, 2, 3, 4, 5, 6, 7, 8, 9, 10, 11, 12, 13, 14], [14, 15])])
def impl_delays.B15 : List Nat := [0, 0, 3, 7, 0, 0, 0, 96, 224, 0, 992, 2016, 0, 4096, 16352, 32767, 65535]
theorem impl_delays.tab15 : rtab .any (opsOf Try.f53 15) = impl_delays.T15 := by kernel_rfl
theorem impl_delays.bits15 : waitsOk impl_delays.T15.2 impl_delays.B15 = true := by kernel_rfl
set_option maxHeartbeats 8000000 in
set_option maxRecDepth 100000 in
theorem impl_delays.calls (k : Nat) (A0 : Option Addr) (c0 : Nat) (l0 : List (S57)) (r : List (List Int)) (w : World) (hr0 : Kd.C k57 w A0 l0.length l0) (hc0 : l0.length ≤ c0) (h : impl_delays.f k l0 = some r) :
    Calls Try.prog 53 #[.slice A0 l0.length c0] w fun e w' => ∃ v0_ : Value, e = .returned (v0_) ∧ Kd.S (Kd.slice 3 (Kd.int .i64)) 34 w' w.heap.size (fun _ => True) v0_ r ∧ Below w.heap.size w w' := by
  have hu57 := Try.underlying57
  have HR0 := Aside0.mk hr0
  have HC0 := Aside0.mk hc0
  clear hr0 hc0
  have HB := Aside0.mk (Below.refl w.heap.size w)
  have H : (if 0 ≤ (l0.length : Int) then (if ((l0.length : Int) : Int).toNat ≤ 11728124029610 then (impl_delays.l0 k l0 (List.replicate ((l0.length : Int) : Int).toNat []) l0 (l0.length : Int) 0) else (none)) else (none)) = some r := h
  clear h
  by_cases c2 : 0 ≤ (l0.length : Int)
  rotate_left
  · rw [if_neg c2] at H
    exact absurd H (by simp)
  rw [if_pos c2] at H
  have c2b0 := eq_true c2
  have c2b1 : decide (0 ≤ (l0.length : Int)) = true := decide_eq_true c2
  clear c2
  by_cases c3 : ((l0.length : Int) : Int).toNat ≤ 11728124029610
  rotate_left
  · rw [if_neg c3] at H
    exact absurd H (by simp)
  rw [if_pos c3] at H
  have c3b0 := eq_true c3
  have c3b1 : decide (((l0.length : Int) : Int).toNat ≤ 11728124029610) = true := decide_eq_true c3
  clear c3
  obtain ⟨y101, hy101⟩ : ∃ y_ : List (List Int), y_ = (List.replicate ((l0.length : Int) : Int).toNat []) := ⟨_, rfl⟩
  replace H : (impl_delays.l0 k l0 y101 l0 (l0.length : Int) 0) = some r := by first | (rw [hy101]; with_reducible exact H) | (have H2_ := (Option.bind_some _ _).symm.trans H; rw [hy101]; with_reducible exact H2_) | (have H2_ := (Option.bind_some _ _).symm.trans H; with_reducible exact H2_) | with_reducible exact H | (rw [hy101]; exact H) | exact H
  have Ny101 := Aside0.mk hy101
  clear hy101
  have H' := Aside0.mk H
  clear H
  go_enter Try.func53, Try.ntmps53
  go_wp2_with (first | ((with_reducible refine gate_dst (N := 11) rfl ?_); refine Kd.S_make (Kd.slice 3 (Kd.int .i64)) _ 34 rfl (N := 11) rfl 24 _ _ rfl (l0.length : Int) rfl rfl Try.underlying24 (.slice none 0 0) 24 info34 rfl (by decide) (by omega) [] (ok := fun _ => True) (okp := fun _ => True) ⟨_, rfl, Kd.R_nil _ _ _ _ _⟩ (fun _ hk => hk) trivial (of_decide_eq_true (by first | (with_reducible assumption) | assumption)) (Nat.le_trans (Nat.mul_le_mul_right _ (of_decide_eq_true (by first | (with_reducible assumption) | assumption) : (l0.length : Int).toNat ≤ 11728124029610)) (by omega)) (Below.refl _ _) (Nat.le_refl _) ?_; intro v102 w4 ho5 hb hg_ hnew_; clear hg_ hnew_; (first | rw [← Ny101.out] at ho5 | (simp only [Int.reduceToNat] at ho5; rw [← Ny101.out] at ho5)); have n0_ := Aside0.mk (Kd.S_lower ho5 (below_size (by repeat (first | (with_reducible first | exact HB.out | apply below_alloc | apply pw_below_drewN | apply below_drew1) | exact HB.out)))); have n1_ := Aside0.mk (below_step (by repeat (first | (with_reducible first | exact HB.out | apply below_alloc | apply pw_below_drewN | apply below_drew1) | exact HB.out)) hb); clear HB; have HO103 := n0_; have HB := n1_; clear n0_ n1_; clear hb ho5))
  go_loopg [14] k (fun kq v14 w' => ∃ (x3_1 : List (List Int)) (x14_1 : Int), v14 = .int .i64 x14_1 ∧ Aside0 (impl_delays.l0 kq l0 x3_1 l0 (l0.length : Int) x14_1 = some r) ∧ Aside0 (kq ≤ k) ∧ Aside0 (Kd.S (Kd.slice 3 (Kd.int .i64)) 34 w' w.heap.size (fun _ => True) v102 x3_1) ∧ Aside0 (Below w.heap.size w w'))
  case atStart => exact ⟨(y101), (0), (by first | rfl | (simp; done) | (simp [*]; done)), H', ⟨Nat.le_refl _⟩, ⟨by (with_reducible repeat (first | apply Kd.S_alloc | apply Kd.S_drewN | apply Kd.S_drew)); exact HO103.out⟩, ⟨by repeat (first | (with_reducible first | exact HB.out | apply below_alloc | apply pw_below_drewN | apply below_drew1) | exact HB.out)⟩⟩
  clear H'
  try clear c2
  try clear c2b0
  try clear c2b1
  try clear p2
  try clear c3
  try clear c3b0
  try clear c3b1
  try clear c5
  obtain ⟨x3_1, x14_1, rfl, HA, HK1, HO_3, HB⟩ := hrel
  cases gk with
  | zero => exact absurd HA.out (by simp [impl_delays.l0])
  | succ k1 =>
  have H := HA.out
  clear HA
  simp only [impl_delays.l0] at H
  by_cases c6 : x14_1 < (l0.length : Int)
  rotate_left
  · rw [if_neg c6] at H
    have c6b0 : decide (x14_1 < (l0.length : Int)) = false := decide_eq_false c6
    clear c6
    obtain rfl := Option.some.inj H
    go_wp2
    go_ret
    exact ⟨_, by first | rfl | (simp [errW_none, errW_some] <;> rfl) | (simp [*, errW_none, errW_some] <;> rfl), by (with_reducible repeat (first | apply Kd.S_alloc | apply Kd.S_drewN | apply Kd.S_drew)); exact HO_3.out, by repeat (first | (with_reducible first | exact HB.out | apply below_alloc | apply pw_below_drewN | apply below_drew1) | exact HB.out)⟩
  rw [if_pos c6] at H
  have c6b0 : decide (x14_1 < (l0.length : Int)) = true := decide_eq_true c6
  clear c6
  by_cases c7 : 0 ≤ x14_1
  rotate_left
  · rw [if_neg c7] at H
    exact absurd H (by simp)
  rw [if_pos c7] at H
  have c7b0 : decide (0 ≤ x14_1) = true := decide_eq_true c7
  clear c7
  by_cases c8 : x14_1 < (l0.length : Int)
  rotate_left
  · rw [if_neg c8] at H
    exact absurd H (by simp)
  rw [if_pos c8] at H
  have c8b0 : decide (x14_1 < (l0.length : Int)) = true := decide_eq_true c8
  clear c8
  obtain ⟨y106, hy106⟩ : ∃ y_ : List Int, y_ = (([(-1)] : List Int)) := ⟨_, rfl⟩
  replace H : ((slices_Repeat_int_int.f y106 x14_1).bind fun t109 => (if x14_1 < (x3_1.length : Int) then (if x14_1 ≤ (l0.length : Int) then ((some (l0.take (x14_1 : Int).toNat : List (S57))).bind fun y113 => (impl_delays.l1 k1 l0 (x3_1.set (x14_1 : Int).toNat t109) x14_1 l0 (l0.length : Int) x14_1 y113 (y113.length : Int) 0 ((rd_T57 l0 x14_1).f0) ((rd_T57 l0 x14_1).f1) ((rd_T57 l0 x14_1).f2) ((rd_T57 l0 x14_1).f3) ((rd_T57 l0 x14_1).f4))) else (none)) else (none))) = some r := by first | (rw [hy106]; with_reducible exact H) | (have H2_ := (Option.bind_some _ _).symm.trans H; rw [hy106]; with_reducible exact H2_) | (have H2_ := (Option.bind_some _ _).symm.trans H; with_reducible exact H2_) | with_reducible exact H | (rw [hy106]; exact H) | exact H
  have Ny106 := Aside0.mk hy106
  clear hy106
  replace H := Option.bind_eq_some_iff.mp H
  obtain ⟨t109, A90, H⟩ := H
  replace H : (if x14_1 < (x3_1.length : Int) then (if x14_1 ≤ (l0.length : Int) then ((some (l0.take (x14_1 : Int).toNat : List (S57))).bind fun y113 => (impl_delays.l1 k1 l0 (x3_1.set (x14_1 : Int).toNat t109) x14_1 l0 (l0.length : Int) x14_1 y113 (y113.length : Int) 0 ((rd_T57 l0 x14_1).f0) ((rd_T57 l0 x14_1).f1) ((rd_T57 l0 x14_1).f2) ((rd_T57 l0 x14_1).f3) ((rd_T57 l0 x14_1).f4))) else (none)) else (none)) = some r := H
  have A9 := Aside0.mk A90
  clear A90
  by_cases c10 : x14_1 < (x3_1.length : Int)
  rotate_left
  · rw [if_neg c10] at H
    exact absurd H (by simp)
  rw [if_pos c10] at H
  have c10b0 : decide (x14_1 < (x3_1.length : Int)) = true := decide_eq_true c10
  clear c10
  obtain ⟨y112, hy112⟩ : ∃ y_ : List (List Int), y_ = (x3_1.set (x14_1 : Int).toNat t109) := ⟨_, rfl⟩
  replace H : (if x14_1 ≤ (l0.length : Int) then ((some (l0.take (x14_1 : Int).toNat : List (S57))).bind fun y113 => (impl_delays.l1 k1 l0 y112 x14_1 l0 (l0.length : Int) x14_1 y113 (y113.length : Int) 0 ((rd_T57 l0 x14_1).f0) ((rd_T57 l0 x14_1).f1) ((rd_T57 l0 x14_1).f2) ((rd_T57 l0 x14_1).f3) ((rd_T57 l0 x14_1).f4))) else (none)) = some r := by first | (rw [hy112]; with_reducible exact H) | (have H2_ := (Option.bind_some _ _).symm.trans H; rw [hy112]; with_reducible exact H2_) | (have H2_ := (Option.bind_some _ _).symm.trans H; with_reducible exact H2_) | with_reducible exact H | (rw [hy112]; exact H) | exact H
  have Ny112 := Aside0.mk hy112
  clear hy112
  have c12b0 := eq_true (of_decide_eq_true (by first | (with_reducible assumption) | assumption) : 0 ≤ x14_1)
  by_cases c13 : x14_1 ≤ (l0.length : Int)
  rotate_left
  · rw [if_neg c13] at H
    exact absurd H (by simp)
  rw [if_pos c13] at H
  have c13b0 := eq_true c13
  have c13b1 : decide (x14_1 ≤ (l0.length : Int)) = true := decide_eq_true c13
  clear c13
  obtain ⟨y113, hy113⟩ : ∃ y_ : List (S57), y_ = (l0.take (x14_1 : Int).toNat) := ⟨_, rfl⟩
  replace H : (impl_delays.l1 k1 l0 y112 x14_1 l0 (l0.length : Int) x14_1 y113 (y113.length : Int) 0 ((rd_T57 l0 x14_1).f0) ((rd_T57 l0 x14_1).f1) ((rd_T57 l0 x14_1).f2) ((rd_T57 l0 x14_1).f3) ((rd_T57 l0 x14_1).f4)) = some r := by first | (rw [hy113]; with_reducible exact H) | (have H2_ := (Option.bind_some _ _).symm.trans H; rw [hy113]; with_reducible exact H2_) | (have H2_ := (Option.bind_some _ _).symm.trans H; with_reducible exact H2_) | with_reducible exact H | (rw [hy113]; exact H) | exact H
  have Ny113 := Aside0.mk hy113
  clear hy113
  have H' := Aside0.mk H
  clear H
  have p104 : 0 ≤ (x14_1 : Int) := of_decide_eq_true (by first | (with_reducible assumption) | assumption)
  have q104 : x14_1 < (l0.length : Int) := of_decide_eq_true (by first | (with_reducible assumption) | assumption)
  obtain ⟨ad104, e104, hx104_0, hx104_1, hx104_2, hx104_3, hx104_4⟩ := at_T57 HR0.out x14_1 p104 q104
  cases e104
  replace hx104_0 := (HB.out.cell (World.block_lt_of_cell? w _ hx104_0)).trans hx104_0
  replace hx104_1 := (HB.out.cell (World.block_lt_of_cell? w _ hx104_1)).trans hx104_1
  replace hx104_2 := (HB.out.cell (World.block_lt_of_cell? w _ hx104_2)).trans hx104_2
  replace hx104_3 := (HB.out.cell (World.block_lt_of_cell? w _ hx104_3)).trans hx104_3
  replace hx104_4 := (HB.out.cell (World.block_lt_of_cell? w _ hx104_4)).trans hx104_4
  replace p104 := eq_true p104
  replace q104 := eq_true q104
  go_wp2_with (first | ((with_reducible refine gate_dst (N := 5) rfl ?_); refine box_event ?hg (N := 5) ?hd (cs := #[.string (⟨#[]⟩ : ByteArray), .int .i64 0, .int .i64 0, .int .i64 0, .int .i64 0]) (t := 57) ?hr ?_; (case hd => rfl); (case hg => rfl); (case hr => first | (go_simp; done) | (go_simp; rfl)); intro gb105 hg w14 hbox hb; have n0_ := Aside0.mk (Kd.S_below (by (with_reducible repeat (first | apply Kd.S_alloc | apply Kd.S_drewN | apply Kd.S_drew)); exact HO_3.out) hb); have n1_ := Aside0.mk (below_step (by repeat (first | (with_reducible first | exact HB.out | apply below_alloc | apply pw_below_drewN | apply below_drew1) | exact HB.out)) hb); have n2_ := Aside0.mk (hbox); have n3_ := Aside0.mk ((by rw [hg]; exact (below_size (by repeat (first | (with_reducible first | exact HB.out | apply below_alloc | apply pw_below_drewN | apply below_drew1) | exact HB.out))) : w.heap.size ≤ gb105)); have n4_ := Aside0.mk ((by rw [hg]; exact (below_size (by repeat (first | (with_reducible first | exact HB.out | apply below_alloc | apply pw_below_drewN | apply below_drew1) | exact HB.out))) : w.heap.size ≤ gb105)); clear HO_3; clear HB; have HO_3 := n0_; have HB := n1_; have BK105 := n2_; have GW105 := n3_; have GE105 := n4_; clear n0_ n1_ n2_ n3_ n4_; clear hb hbox hg; have hcz15_0 : w14.cell? ⟨gb105, 0, none⟩ = some (.string (⟨#[]⟩ : ByteArray)) := (blk_cell BK105.out 0).trans rfl; have hcz15_1 : w14.cell? ⟨gb105, 1, none⟩ = some (.int .i64 0) := (blk_cell BK105.out 1).trans rfl; have hcz15_2 : w14.cell? ⟨gb105, 2, none⟩ = some (.int .i64 0) := (blk_cell BK105.out 2).trans rfl; have hcz15_3 : w14.cell? ⟨gb105, 3, none⟩ = some (.int .i64 0) := (blk_cell BK105.out 3).trans rfl; have hcz15_4 : w14.cell? ⟨gb105, 4, none⟩ = some (.int .i64 0) := (blk_cell BK105.out 4).trans rfl; have hfz15_0 := blk_frozen BK105.out 0; have hfz15_1 := blk_frozen BK105.out 1; have hfz15_2 := blk_frozen BK105.out 2; have hfz15_3 := blk_frozen BK105.out 3; have hfz15_4 := blk_frozen BK105.out 4) | ((with_reducible refine gate_dst (N := 21) rfl ?_); refine Kd.R_lit (Kd.int .i64) _ 3 ?hg (N := 21) ?hd (xs := ([(-1)] : List Int)) (inner := [.int .i64 (-1)]) (ok := fun _ => True) (okp := fun _ => True) ?hr ?hp (fun _ hk => hk) trivial (Below.refl _ _) (Nat.le_refl _) (by simp) ?_; (case hd => rfl); (case hg => rfl); (case hr => first | (go_simp; done) | (go_simp; rfl)); (case hp => exact (Reps.one (show Kd.M (Kd.int .i64) _ _ _ (-1) [.int .i64 (-1)] from rfl) (Reps.none _ _))); intro v107 w16 ho17 hb hg_ hnew_; clear hg_ hnew_; (first | rw [← Ny106.out] at ho17 | (simp only [Int.reduceToNat] at ho17; rw [← Ny106.out] at ho17)); have n0_ := Aside0.mk (Kd.S_elder' (by (with_reducible repeat (first | apply Kd.S_alloc | apply Kd.S_drewN | apply Kd.S_drew)); exact (Kd.S_mono (Kd.S_far (p := ⟨gb105, 4, none⟩) (Kd.S_far (p := ⟨gb105, 3, none⟩) (Kd.S_far (p := ⟨gb105, 2, none⟩) (Kd.S_far (p := ⟨gb105, 1, none⟩) (Kd.S_far (p := ⟨gb105, 0, none⟩) (Kd.S_types HO_3.out BK105.out (by decide)) (fun _ hk => hk.2) (.string ((rd_T57 l0 x14_1).f0))) (fun _ hk => hk.2) (.int .i64 ((rd_T57 l0 x14_1).f1))) (fun _ hk => hk.2) (.int .i64 ((rd_T57 l0 x14_1).f2))) (fun _ hk => hk.2) (.int .i64 ((rd_T57 l0 x14_1).f3))) (fun _ hk => hk.2) (.int .i64 ((rd_T57 l0 x14_1).f4))) (fun _ h_ => h_.1))) (Kd.R_base ho17) hb); have n1_ := Aside0.mk (Kd.R_lower ho17 (below_size (by repeat (first | (with_reducible first | exact HB.out | apply below_alloc | apply pw_below_drewN | apply below_drew1 | refine below_set ?_ GE105.out) | exact HB.out)))); have n2_ := Aside0.mk (blk_below (g := gb105) (o := .cells #[.string ((rd_T57 l0 x14_1).f0), .int .i64 ((rd_T57 l0 x14_1).f1), .int .i64 ((rd_T57 l0 x14_1).f2), .int .i64 ((rd_T57 l0 x14_1).f3), .int .i64 ((rd_T57 l0 x14_1).f4)] 57 (0, 0)) (by (with_reducible repeat (first | refine blk_drewN ?_ _ | refine blk_drew ?_ | refine blk_alloc ?_ _)); refine blk_put (cs := #[.string ((rd_T57 l0 x14_1).f0), .int .i64 ((rd_T57 l0 x14_1).f1), .int .i64 ((rd_T57 l0 x14_1).f2), .int .i64 ((rd_T57 l0 x14_1).f3), .int .i64 0]) ?_ 4 _ rfl; (with_reducible repeat (first | refine blk_drewN ?_ _ | refine blk_drew ?_ | refine blk_alloc ?_ _)); refine blk_put (cs := #[.string ((rd_T57 l0 x14_1).f0), .int .i64 ((rd_T57 l0 x14_1).f1), .int .i64 ((rd_T57 l0 x14_1).f2), .int .i64 0, .int .i64 0]) ?_ 3 _ rfl; (with_reducible repeat (first | refine blk_drewN ?_ _ | refine blk_drew ?_ | refine blk_alloc ?_ _)); refine blk_put (cs := #[.string ((rd_T57 l0 x14_1).f0), .int .i64 ((rd_T57 l0 x14_1).f1), .int .i64 0, .int .i64 0, .int .i64 0]) ?_ 2 _ rfl; (with_reducible repeat (first | refine blk_drewN ?_ _ | refine blk_drew ?_ | refine blk_alloc ?_ _)); refine blk_put (cs := #[.string ((rd_T57 l0 x14_1).f0), .int .i64 0, .int .i64 0, .int .i64 0, .int .i64 0]) ?_ 1 _ rfl; (with_reducible repeat (first | refine blk_drewN ?_ _ | refine blk_drew ?_ | refine blk_alloc ?_ _)); refine blk_put (cs := #[.string (⟨#[]⟩ : ByteArray), .int .i64 0, .int .i64 0, .int .i64 0, .int .i64 0]) ?_ 0 _ rfl; (with_reducible repeat (first | refine blk_drewN ?_ _ | refine blk_drew ?_ | refine blk_alloc ?_ _)); exact BK105.out) hb); have n3_ := Aside0.mk (below_step (by repeat (first | (with_reducible first | exact HB.out | apply below_alloc | apply pw_below_drewN | apply below_drew1 | refine below_set ?_ GE105.out) | exact HB.out)) hb); clear HO_3; clear BK105; clear HB; have HO_3 := n0_; have HO108 := n1_; have BK105 := n2_; have HB := n3_; clear n0_ n1_ n2_ n3_; clear hb ho17; obtain ⟨Ao18, co18, eo18⟩ := Kd.R_slice HO108.out; subst eo18) | ((with_reducible refine gate_callee (f := 80) rfl ?_); refine goesL_ (some 23) rfl rfl Try.func80 (by kernel_rfl) rfl #[.slice Ao18 y106.length co18, .int .i64 x14_1] rfl (by (try simp only [List.map_toArray, List.map_cons, List.map_nil]); first | done | rfl | (simp only [List.length_drop, List.length_take]; rfl)) ?_; (with_reducible refine (slices_Repeat_int_int.calls _ _ y106 x14_1 t109 _ ?side1 ?side2 A9.out).mono ?_); (case side1 => repeat (first | exact (Kd.R_reads' HO108.out).2.2 | (with_reducible refine Kd.C_alloc ?_ _) | (with_reducible refine Kd.C_drewN ?_ _) | (with_reducible refine Kd.C_drew ?_))); (case side2 => exact (Kd.R_reads' HO108.out).2.1); rintro e w19 ⟨v110, rfl, ho0, hb⟩; refine ⟨_, rfl, ?_⟩; have n0_ := Aside0.mk (Kd.S_elder' (by (with_reducible repeat (first | apply Kd.S_alloc | apply Kd.S_drewN | apply Kd.S_drew)); exact HO_3.out) (Kd.R_base ho0) hb); have n1_ := Aside0.mk (Kd.R_elder' (by (with_reducible repeat (first | apply Kd.R_alloc | apply Kd.R_drewN | apply Kd.R_drew)); exact HO108.out) (Kd.R_base ho0) hb); have n2_ := Aside0.mk (Kd.R_lower (Kd.R_new' ho0 (Kd.R_lt (by (with_reducible repeat (first | apply Kd.R_alloc | apply Kd.R_drewN | apply Kd.R_drew)); exact HO108.out))) (below_size (by repeat (first | (with_reducible first | exact HB.out | apply below_alloc | apply pw_below_drewN | apply below_drew1 | refine below_set ?_ GE105.out) | exact HB.out)))); have n3_ := Aside0.mk (blk_below (g := gb105) (o := .cells #[.string ((rd_T57 l0 x14_1).f0), .int .i64 ((rd_T57 l0 x14_1).f1), .int .i64 ((rd_T57 l0 x14_1).f2), .int .i64 ((rd_T57 l0 x14_1).f3), .int .i64 ((rd_T57 l0 x14_1).f4)] 57 (0, 0)) (by (with_reducible repeat (first | refine blk_drewN ?_ _ | refine blk_drew ?_ | refine blk_alloc ?_ _)); exact BK105.out) hb); have n4_ := Aside0.mk (below_step (by repeat (first | (with_reducible first | exact HB.out | apply below_alloc | apply pw_below_drewN | apply below_drew1 | refine below_set ?_ GE105.out) | exact HB.out)) hb); clear HO_3; clear HO108; clear BK105; clear HB; have HO_3 := n0_; have HO108 := n1_; have HO111 := n2_; have BK105 := n3_; have HB := n4_; clear n0_ n1_ n2_ n3_ n4_; (try clear hb); (try clear hb2); (try clear hk); (try clear hi); (try clear ho0); have p11 : 0 ≤ (x14_1 : Int) := of_decide_eq_true (by first | (with_reducible assumption) | assumption); have q11 : (x14_1 : Int) < ((x3_1.length : Int) : Int) := of_decide_eq_true (by first | (with_reducible assumption) | assumption); obtain ⟨go11, co11, eo11, gb11, gl11, cl11, HG11⟩ := Kd.S_form HO_3.out (by omega); (first | cases eo11 | (injection eo11 with ea_ en_ ec_; (first | subst ea_ | (injection ea_ with ea_; subst ea_)); subst ec_; clear en_)); have GB11 := Aside0.mk gb11; have GG11 := Aside0.mk HG11; clear gb11 gl11 HG11; obtain ⟨_, ce11, hcl11, hM11, hcc11, hfr11, _, _⟩ := Kd.S_elem HO_3.out [] (x14_1 : Int) p11 q11; obtain ⟨ve11_0, rfl, ge11_0⟩ := (id hM11); have hx11_0 := hcc11 0 _ rfl; have hf11_0 := hfr11 0; (try simp only [show ((Kd.slice 3 (Kd.int .i64))).sz = 1 from rfl, Nat.mul_one, Nat.add_zero] at hx11_0); (try simp only [show ((Kd.slice 3 (Kd.int .i64))).sz = 1 from rfl, Nat.mul_one, Nat.add_zero] at hf11_0); clear hcl11 hcc11 hfr11 hM11; replace p11 := eq_true p11; replace q11 := eq_true q11; obtain ⟨Ao20, co20, eo20⟩ := Kd.R_slice HO111.out; subst eo20; have n_ := Aside0.mk (Kd.S_mono (ok' := (fun k_ => some k_ ≠ (.slice Ao18 y106.length co18 : Value).ownBlock ∧ some k_ ≠ (.slice Ao20 t109.length co20 : Value).ownBlock)) HO_3.out (fun k_ hk => ⟨hk.1.2, hk.2⟩)); clear HO_3; have HO_3 := n_; clear n_; have HX21 := Aside0.mk (show Kd.S (Kd.slice 3 (Kd.int .i64)) 34 w19 w.heap.size (fun k_ => ((fun k_ => some k_ ≠ (.slice Ao18 y106.length co18 : Value).ownBlock)) k_ ∧ ¬ ((fun k_ => some k_ = (.slice Ao20 t109.length co20 : Value).ownBlock)) k_) (.slice (some ⟨go11, 0, none⟩) x3_1.length co11) x3_1 from (by (with_reducible repeat (first | apply Kd.S_alloc | apply Kd.S_drewN | apply Kd.S_drew)); exact Kd.S_mono HO_3.out (fun k_ hk => ⟨hk.1, fun e_ => hk.2 e_⟩))); obtain ⟨oki21, ce21, hcl21, hM21, hcc21, hfr21, hoki21, hH21⟩ := Kd.S_elem HX21.out [] (x14_1 : Int) (of_decide_eq_true (by first | (with_reducible assumption) | assumption)) (by have h_ : (x14_1 : Int) < ((x3_1.length : Int) : Int) := of_decide_eq_true (by first | (with_reducible assumption) | assumption); first | exact h_ | (have e_ := (Kd.S_reads' HO_3.out).1; omega) | simpa using h_); obtain ⟨ve21_0, rfl, ge21_0⟩ := (id hM21); have HP21 := Kd.S_seg hH21 (of_decide_eq_true (by first | (with_reducible assumption) | assumption)) (by have h_ : (x14_1 : Int) < ((x3_1.length : Int) : Int) := of_decide_eq_true (by first | (with_reducible assumption) | assumption); first | exact h_ | (have e_ := (Kd.S_reads' HO_3.out).1; omega) | simpa using h_) (seg := [.slice Ao20 t109.length co20]) (j := 0) (show 1 ≤ 1 from by decide) (x' := t109) (Kd.M_row (Kd.R_mono (Kd.R_tight rfl (Kd.R_mono (ok' := fun k_ => ((fun k_ => some k_ ≠ (.slice Ao18 y106.length co18 : Value).ownBlock)) k_ ∧ k_ ≠ go11) (Kd.R_apart' (HO111.out) (Kd.S_typed HO_3.out) (by decide)) (fun k_ hk => ⟨hk.1.2, fun e_ => (hk.2) (by rw [e_]; rfl)⟩))) (fun _ h_ => Or.inr (h_)))) (fun _ hk => hk) (fun k_ hk_ => ((Kd.R_mono (ok' := fun k_ => ((fun k_ => some k_ ≠ (.slice Ao18 y106.length co18 : Value).ownBlock)) k_ ∧ k_ ≠ go11) (Kd.R_apart' (HO111.out) (Kd.S_typed HO_3.out) (by decide)) (fun k_ hk => ⟨hk.1.2, fun e_ => (hk.2) (by rw [e_]; rfl)⟩))).1 k_ hk_.symm); have hx21_0 := hcc21 0 _ rfl; (try simp only [show ((Kd.slice 3 (Kd.int .i64))).sz = 1 from rfl, Nat.mul_one, Nat.add_zero] at hx21_0); have hf21_0 := hfr21 0; (try simp only [show ((Kd.slice 3 (Kd.int .i64))).sz = 1 from rfl, Nat.mul_one, Nat.add_zero] at hf21_0); clear hcl21 hcc21 hfr21 hM21 hoki21 hH21; (try simp only [show ((Kd.slice 3 (Kd.int .i64))).sz = 1 from rfl, Nat.mul_one, Nat.add_zero] at HP21)) | ((with_reducible refine gate_store (t := 34) (p := 24) rfl ?_); refine store_event (t := 34) (p := 24) (v := ?vo_w22) (w1 := (w19.setCell ⟨go11, (x14_1 : Int).toNat, none⟩ (.slice Ao20 t109.length co20))) ?hg ?ho ?hn ?hr ?_; (case ho => rfl); (case hg => rfl); (case hn => rfl); (case hr => first | (go_simp; done) | (go_simp; rfl)); intro w22 hw; have hg : w19.grownBy w22 (some go11) := (by rw [hw]; exact HP21.2); have hp_ : Kd.S (Kd.slice 3 (Kd.int .i64)) 34 w22 w.heap.size (fun k_ => some k_ ≠ (.slice Ao18 y106.length co18 : Value).ownBlock) (.slice (some ⟨go11, 0, none⟩) x3_1.length co11) y112 := (by rw [hw, Ny112.out]; exact HP21.1); clear HP21; have n0_ := Aside0.mk (hp_); have n1_ := Aside0.mk (blk_grown (g := gb105) (o := .cells #[.string ((rd_T57 l0 x14_1).f0), .int .i64 ((rd_T57 l0 x14_1).f1), .int .i64 ((rd_T57 l0 x14_1).f2), .int .i64 ((rd_T57 l0 x14_1).f3), .int .i64 ((rd_T57 l0 x14_1).f4)] 57 (0, 0)) (by (with_reducible repeat (first | refine blk_drewN ?_ _ | refine blk_drew ?_ | refine blk_alloc ?_ _)); exact BK105.out) hg (Kd.S_ne HO_3.out BK105.out (by decide))); have n2_ := Aside0.mk (Kd.R_over' (v := (.slice (some ⟨go11, 0, none⟩) x3_1.length co11)) (by (with_reducible repeat (first | apply Kd.R_alloc | apply Kd.R_drewN | apply Kd.R_drew)); exact HO108.out) (Kd.S_typed HO_3.out) (by decide) hg); have n3_ := Aside0.mk ((by rw [hw]; exact below_set (HB.out) GB11.out : Below w.heap.size w w22)); clear HO_3; clear BK105; clear HO108; clear HB; clear HO111; have HO_3 := n0_; have BK105 := n1_; have HO108 := n2_; have HB := n3_; clear n0_ n1_ n2_ n3_; clear hg hw hp_; have q23 : (x14_1 : Int) ≤ ((l0.length : Int) : Int) := of_decide_eq_true (by first | (with_reducible assumption) | assumption); obtain ⟨i023, hi023, _, hsz23, _⟩ := info_parts info57; have hroom23 : l0.length ≤ c0 := HC0.out; have hC23 : Kd.C k57 _ (some ad104) l0.length l0 := HR0.out; have hcut23 := cut_to (P := Try.prog) 27 57 .i64 Try.underlying27 hi023 (some ad104) l0.length c0 x14_1 (of_decide_eq_true (by first | (with_reducible assumption) | assumption)) q23 hroom23; have hr23 := Kd.C_take (m := (x14_1 : Int).toNat) hC23 (by omega); have hy23 : y113.length = (x14_1 : Int).toNat := (by rw [Ny113.out, List.length_take]; omega); rw [← Ny113.out] at hr23; rw [← hy23] at hcut23; have HR116 := Aside0.mk hr23; have HC116 := Aside0.mk (show y113.length ≤ c0 from by omega); clear hr23 hC23 hroom23 hi023 hsz23; have KY23 := Aside0.mk hy23; clear hy23; replace q23 := eq_true q23))
  go_loopg [29] k1 (fun kq v29 w' => ∃ (x3_2 : List (List Int)) (x29_2 : Int), v29 = .int .i64 x29_2 ∧ Aside0 (impl_delays.l1 kq l0 x3_2 x14_1 l0 (l0.length : Int) x14_1 y113 (y113.length : Int) x29_2 ((rd_T57 l0 x14_1).f0) ((rd_T57 l0 x14_1).f1) ((rd_T57 l0 x14_1).f2) ((rd_T57 l0 x14_1).f3) ((rd_T57 l0 x14_1).f4) = some r) ∧ Aside0 (kq ≤ k1) ∧ Aside0 (Kd.S (Kd.slice 3 (Kd.int .i64)) 34 w' w.heap.size (fun _ => True) (.slice (some ⟨go11, 0, none⟩) x3_1.length co11) x3_2) ∧ Aside0 (w'.heap[gb105]? = some (.cells #[.string ((rd_T57 l0 x14_1).f0), .int .i64 ((rd_T57 l0 x14_1).f1), .int .i64 ((rd_T57 l0 x14_1).f2), .int .i64 ((rd_T57 l0 x14_1).f3), .int .i64 ((rd_T57 l0 x14_1).f4)] 57 (0, 0))) ∧ Aside0 (Below w.heap.size w w'))
  case atStart => exact ⟨(y112), (0), (by first | rfl | (simp; done) | (simp [*]; done)), H', ⟨Nat.le_refl _⟩, ⟨by (with_reducible repeat (first | apply Kd.S_alloc | apply Kd.S_drewN | apply Kd.S_drew)); exact Kd.S_mono HO_3.out (fun _ hk => trivial)⟩, ⟨by (with_reducible repeat (first | refine blk_drewN ?_ _ | refine blk_drew ?_ | refine blk_alloc ?_ _)); exact BK105.out⟩, ⟨by repeat (first | (with_reducible first | exact HB.out | apply below_alloc | apply pw_below_drewN | apply below_drew1 | refine below_set ?_ GE105.out) | exact HB.out)⟩⟩
  clear H'
  try clear c1
  try clear p1
  try clear q1
  try clear hx1
  try clear hf1
  try clear c2
  try clear c2b0
  try clear c2b1
  try clear p2
  try clear q2
  try clear hx2
  try clear hf2
  try clear c3
  try clear c3b0
  try clear c3b1
  try clear c5
  try clear c6
  try clear c6b0
  try clear c7
  try clear c7b0
  try clear c8
  try clear c8b0
  try clear c10
  try clear c10b0
  try clear p10
  try clear q10
  try clear hx10
  try clear c11
  try clear p11
  try clear q11
  try clear hx11
  try clear hf11
  try clear c12
  try clear c12b0
  try clear c13
  try clear c13b0
  try clear c13b1
  try clear c21
  try clear hx21
  try clear hf21
  try clear q23
  try clear hcz15_0
  try clear hcz15_1
  try clear hcz15_2
  try clear hcz15_3
  try clear hcz15_4
  try clear hfz15_0
  try clear hfz15_1
  try clear hfz15_2
  try clear hfz15_3
  try clear hfz15_4
  try clear hx104_0
  try clear hx104_1
  try clear hx104_2
  try clear hx104_3
  try clear hx104_4
  try clear hx11_0
  try clear hx21_0
  try clear p104
  try clear p11
  try clear p2
  try clear q104
  try clear q11
  try clear q23
  obtain ⟨x3_2, x29_2, rfl, HA, HK2, HO_3, BK105, HB⟩ := hrel
  have hl3_2 := (Kd.S_reads' HO_3.out).1
  rw [hl3_2] at HO_3
  (try simp only [hl3_2])
  (try simp only [hl3_2] at BK105)
  cases gk with
  | zero => exact absurd HA.out (by simp [impl_delays.l1])
  | succ k2 =>
  have H := HA.out
  clear HA
  simp only [impl_delays.l1] at H
  by_cases c24 : x29_2 < (y113.length : Int)
  rotate_left
  · rw [if_neg c24] at H
    have c24b0 : decide (x29_2 < (y113.length : Int)) = false := decide_eq_false c24
    have c24b0h := c24b0
    try simp only [hl3_2] at c24b0h
    clear c24
    have H' := Aside0.mk H
    clear H
    go_wp2
    (try simp only [← hl3_2])
    go_roundg k2
    case measure => have := HK1.out; have := HK2.out; omega
    case rel => exact ⟨(x3_2), (wrap64 (x14_1 + 1)), (by first | rfl | (simp; done) | (simp [*]; done)), H', ⟨by have := HK1.out; have := HK2.out; omega⟩, ⟨by (try simp only [hl3_2]); (with_reducible repeat (first | apply Kd.S_alloc | apply Kd.S_drewN | apply Kd.S_drew)); exact HO_3.out⟩, ⟨by repeat (first | (with_reducible first | exact HB.out | apply below_alloc | apply pw_below_drewN | apply below_drew1 | refine below_set ?_ GE105.out) | exact HB.out)⟩⟩
  rw [if_pos c24] at H
  have c24b0 : decide (x29_2 < (y113.length : Int)) = true := decide_eq_true c24
  have c24b0h := c24b0
  try simp only [hl3_2] at c24b0h
  clear c24
  by_cases c25 : 0 ≤ x29_2
  rotate_left
  · rw [if_neg c25] at H
    exact absurd H (by simp)
  rw [if_pos c25] at H
  have c25b0 : decide (0 ≤ x29_2) = true := decide_eq_true c25
  clear c25
  by_cases c26 : x29_2 < (y113.length : Int)
  rotate_left
  · rw [if_neg c26] at H
    exact absurd H (by simp)
  rw [if_pos c26] at H
  have c26b0 : decide (x29_2 < (y113.length : Int)) = true := decide_eq_true c26
  have c26b0h := c26b0
  try simp only [hl3_2] at c26b0h
  clear c26
  replace H := Option.bind_eq_some_iff.mp H
  obtain ⟨t119, A270, H⟩ := H
  replace H : ((slices_Contains_int_int.f k2 t119 ((rd_T57 l0 x14_1).f1)).bind fun t122 => (if t122 = true then (if 0 ≤ x14_1 then (if x14_1 < (x3_2.length : Int) then (if x29_2 < ((rd_L4 x3_2 x14_1).length : Int) then (impl_delays.j2 k2 l0 (x3_2.set (x14_1 : Int).toNat ((rd_L4 x3_2 x14_1).set (x29_2 : Int).toNat 0)) x14_1 x29_2 l0 (l0.length : Int) x14_1 y113 (y113.length : Int) x29_2 ((rd_T57 l0 x14_1).f0) ((rd_T57 l0 x14_1).f1) ((rd_T57 l0 x14_1).f2) ((rd_T57 l0 x14_1).f3) ((rd_T57 l0 x14_1).f4) ((rd_T57 y113 x29_2).f0) ((rd_T57 y113 x29_2).f1) ((rd_T57 y113 x29_2).f2) ((rd_T57 y113 x29_2).f3) ((rd_T57 y113 x29_2).f4)) else (none)) else (none)) else (none)) else (impl_delays.j2 k2 l0 x3_2 x14_1 x29_2 l0 (l0.length : Int) x14_1 y113 (y113.length : Int) x29_2 ((rd_T57 l0 x14_1).f0) ((rd_T57 l0 x14_1).f1) ((rd_T57 l0 x14_1).f2) ((rd_T57 l0 x14_1).f3) ((rd_T57 l0 x14_1).f4) ((rd_T57 y113 x29_2).f0) ((rd_T57 y113 x29_2).f1) ((rd_T57 y113 x29_2).f2) ((rd_T57 y113 x29_2).f3) ((rd_T57 y113 x29_2).f4)))) = some r := H
  have A27 := Aside0.mk A270
  clear A270
  replace H := Option.bind_eq_some_iff.mp H
  obtain ⟨t122, A280, H⟩ := H
  replace H : (if t122 = true then (if 0 ≤ x14_1 then (if x14_1 < (x3_2.length : Int) then (if x29_2 < ((rd_L4 x3_2 x14_1).length : Int) then (impl_delays.j2 k2 l0 (x3_2.set (x14_1 : Int).toNat ((rd_L4 x3_2 x14_1).set (x29_2 : Int).toNat 0)) x14_1 x29_2 l0 (l0.length : Int) x14_1 y113 (y113.length : Int) x29_2 ((rd_T57 l0 x14_1).f0) ((rd_T57 l0 x14_1).f1) ((rd_T57 l0 x14_1).f2) ((rd_T57 l0 x14_1).f3) ((rd_T57 l0 x14_1).f4) ((rd_T57 y113 x29_2).f0) ((rd_T57 y113 x29_2).f1) ((rd_T57 y113 x29_2).f2) ((rd_T57 y113 x29_2).f3) ((rd_T57 y113 x29_2).f4)) else (none)) else (none)) else (none)) else (impl_delays.j2 k2 l0 x3_2 x14_1 x29_2 l0 (l0.length : Int) x14_1 y113 (y113.length : Int) x29_2 ((rd_T57 l0 x14_1).f0) ((rd_T57 l0 x14_1).f1) ((rd_T57 l0 x14_1).f2) ((rd_T57 l0 x14_1).f3) ((rd_T57 l0 x14_1).f4) ((rd_T57 y113 x29_2).f0) ((rd_T57 y113 x29_2).f1) ((rd_T57 y113 x29_2).f2) ((rd_T57 y113 x29_2).f3) ((rd_T57 y113 x29_2).f4))) = some r := H
  have A28 := Aside0.mk A280
  clear A280
  have HC29 := Aside0.mk H
  clear H
  have p117 : 0 ≤ (x29_2 : Int) := of_decide_eq_true (by first | (with_reducible assumption) | assumption)
  have q117 : x29_2 < (y113.length : Int) := of_decide_eq_true (by first | (with_reducible assumption) | assumption)
  obtain ⟨ad117, e117, hx117_0, hx117_1, hx117_2, hx117_3, hx117_4⟩ := at_T57 HR116.out x29_2 p117 q117
  obtain rfl : ad104 = ad117 := (by injection e117)
  replace hx117_0 := (HB.out.cell (World.block_lt_of_cell? w _ hx117_0)).trans hx117_0
  replace hx117_1 := (HB.out.cell (World.block_lt_of_cell? w _ hx117_1)).trans hx117_1
  replace hx117_2 := (HB.out.cell (World.block_lt_of_cell? w _ hx117_2)).trans hx117_2
  replace hx117_3 := (HB.out.cell (World.block_lt_of_cell? w _ hx117_3)).trans hx117_3
  replace hx117_4 := (HB.out.cell (World.block_lt_of_cell? w _ hx117_4)).trans hx117_4
  replace p117 := eq_true p117
  replace q117 := eq_true q117
  try go_wp2_with (first | ((with_reducible refine gate_dst (N := 7) rfl ?_); refine box_event ?hg (N := 7) ?hd (cs := #[.string (⟨#[]⟩ : ByteArray), .int .i64 0, .int .i64 0, .int .i64 0, .int .i64 0]) (t := 57) ?hr ?_; (case hd => rfl); (case hg => rfl); (case hr => first | (go_simp; done) | (go_simp; rfl)); intro gb118 hg w30 hbox hb; have n0_ := Aside0.mk (Kd.S_below (by (with_reducible repeat (first | apply Kd.S_alloc | apply Kd.S_drewN | apply Kd.S_drew)); exact HO_3.out) hb); have n1_ := Aside0.mk (blk_below (g := gb105) (o := .cells #[.string ((rd_T57 l0 x14_1).f0), .int .i64 ((rd_T57 l0 x14_1).f1), .int .i64 ((rd_T57 l0 x14_1).f2), .int .i64 ((rd_T57 l0 x14_1).f3), .int .i64 ((rd_T57 l0 x14_1).f4)] 57 (0, 0)) (by (with_reducible repeat (first | refine blk_drewN ?_ _ | refine blk_drew ?_ | refine blk_alloc ?_ _)); exact BK105.out) hb); have n2_ := Aside0.mk (below_step (by repeat (first | (with_reducible first | exact HB.out | apply below_alloc | apply pw_below_drewN | apply below_drew1 | refine below_set ?_ GE105.out) | exact HB.out)) hb); have n3_ := Aside0.mk (hbox); have n4_ := Aside0.mk ((by rw [hg]; exact (below_size (by repeat (first | (with_reducible first | exact HB.out | apply below_alloc | apply pw_below_drewN | apply below_drew1 | refine below_set ?_ GE105.out) | exact HB.out))) : w.heap.size ≤ gb118)); have n5_ := Aside0.mk ((by rw [hg]; exact (below_size (by repeat (first | (with_reducible first | exact HB.out | apply below_alloc | apply pw_below_drewN | apply below_drew1 | refine below_set ?_ GE105.out) | exact HB.out))) : w.heap.size ≤ gb118)); have n6_ := Aside0.mk ((by rw [hg]; exact Nat.ne_of_lt (blk_lt (g := gb105) (o := .cells #[.string ((rd_T57 l0 x14_1).f0), .int .i64 ((rd_T57 l0 x14_1).f1), .int .i64 ((rd_T57 l0 x14_1).f2), .int .i64 ((rd_T57 l0 x14_1).f3), .int .i64 ((rd_T57 l0 x14_1).f4)] 57 (0, 0)) (by (with_reducible repeat (first | refine blk_drewN ?_ _ | refine blk_drew ?_ | refine blk_alloc ?_ _)); exact BK105.out)) : gb105 ≠ gb118)); have n7_ := Aside0.mk ((by rw [hg]; exact Nat.ne_of_gt (blk_lt (g := gb105) (o := .cells #[.string ((rd_T57 l0 x14_1).f0), .int .i64 ((rd_T57 l0 x14_1).f1), .int .i64 ((rd_T57 l0 x14_1).f2), .int .i64 ((rd_T57 l0 x14_1).f3), .int .i64 ((rd_T57 l0 x14_1).f4)] 57 (0, 0)) (by (with_reducible repeat (first | refine blk_drewN ?_ _ | refine blk_drew ?_ | refine blk_alloc ?_ _)); exact BK105.out)) : gb118 ≠ gb105)); clear HO_3; clear BK105; clear HB; have HO_3 := n0_; have BK105 := n1_; have HB := n2_; have BK118 := n3_; have GW118 := n4_; have GE118 := n5_; have NB105_118 := n6_; have NB118_105 := n7_; clear n0_ n1_ n2_ n3_ n4_ n5_ n6_ n7_; clear hb hbox hg; have hnb31 := NB118_105.out; have hnc31 := NB105_118.out; have hcz32_0 : w30.cell? ⟨gb118, 0, none⟩ = some (.string (⟨#[]⟩ : ByteArray)) := (blk_cell BK118.out 0).trans rfl; have hcz32_1 : w30.cell? ⟨gb118, 1, none⟩ = some (.int .i64 0) := (blk_cell BK118.out 1).trans rfl; have hcz32_2 : w30.cell? ⟨gb118, 2, none⟩ = some (.int .i64 0) := (blk_cell BK118.out 2).trans rfl; have hcz32_3 : w30.cell? ⟨gb118, 3, none⟩ = some (.int .i64 0) := (blk_cell BK118.out 3).trans rfl; have hcz32_4 : w30.cell? ⟨gb118, 4, none⟩ = some (.int .i64 0) := (blk_cell BK118.out 4).trans rfl; have hfz32_0 := blk_frozen BK118.out 0; have hfz32_1 := blk_frozen BK118.out 1; have hfz32_2 := blk_frozen BK118.out 2; have hfz32_3 := blk_frozen BK118.out 3; have hfz32_4 := blk_frozen BK118.out 4))
  have n0_ : Aside0 (Kd.S (Kd.slice 3 (Kd.int .i64)) 34 (((((w30.setCell ⟨gb118, 0, none⟩ (.string ((rd_T57 y113 x29_2).f0))).setCell ⟨gb118, 1, none⟩ (.int .i64 ((rd_T57 y113 x29_2).f1))).setCell ⟨gb118, 2, none⟩ (.int .i64 ((rd_T57 y113 x29_2).f2))).setCell ⟨gb118, 3, none⟩ (.int .i64 ((rd_T57 y113 x29_2).f3))).setCell ⟨gb118, 4, none⟩ (.int .i64 ((rd_T57 y113 x29_2).f4))) w.heap.size (fun _ => True) (.slice (some ⟨go11, 0, none⟩) x3_2.length co11) x3_2) := ⟨by (with_reducible repeat (first | apply Kd.S_alloc | apply Kd.S_drewN | apply Kd.S_drew)); exact Kd.S_mono (Kd.S_far (p := ⟨gb118, 4, none⟩) (Kd.S_far (p := ⟨gb118, 3, none⟩) (Kd.S_far (p := ⟨gb118, 2, none⟩) (Kd.S_far (p := ⟨gb118, 1, none⟩) (Kd.S_far (p := ⟨gb118, 0, none⟩) (Kd.S_types HO_3.out BK118.out (by decide)) (fun _ hk => hk.2) (.string ((rd_T57 y113 x29_2).f0))) (fun _ hk => hk.2) (.int .i64 ((rd_T57 y113 x29_2).f1))) (fun _ hk => hk.2) (.int .i64 ((rd_T57 y113 x29_2).f2))) (fun _ hk => hk.2) (.int .i64 ((rd_T57 y113 x29_2).f3))) (fun _ hk => hk.2) (.int .i64 ((rd_T57 y113 x29_2).f4))) (fun _ hk => trivial)⟩
  have n1_ : Aside0 ((((((w30.setCell ⟨gb118, 0, none⟩ (.string ((rd_T57 y113 x29_2).f0))).setCell ⟨gb118, 1, none⟩ (.int .i64 ((rd_T57 y113 x29_2).f1))).setCell ⟨gb118, 2, none⟩ (.int .i64 ((rd_T57 y113 x29_2).f2))).setCell ⟨gb118, 3, none⟩ (.int .i64 ((rd_T57 y113 x29_2).f3))).setCell ⟨gb118, 4, none⟩ (.int .i64 ((rd_T57 y113 x29_2).f4))).heap[gb105]? = some (.cells #[.string ((rd_T57 l0 x14_1).f0), .int .i64 ((rd_T57 l0 x14_1).f1), .int .i64 ((rd_T57 l0 x14_1).f2), .int .i64 ((rd_T57 l0 x14_1).f3), .int .i64 ((rd_T57 l0 x14_1).f4)] 57 (0, 0))) := ⟨by (with_reducible repeat (first | refine blk_drewN ?_ _ | refine blk_drew ?_ | refine blk_alloc ?_ _)); refine blk_far ?_ NB105_118.out _; (with_reducible repeat (first | refine blk_drewN ?_ _ | refine blk_drew ?_ | refine blk_alloc ?_ _)); refine blk_far ?_ NB105_118.out _; (with_reducible repeat (first | refine blk_drewN ?_ _ | refine blk_drew ?_ | refine blk_alloc ?_ _)); refine blk_far ?_ NB105_118.out _; (with_reducible repeat (first | refine blk_drewN ?_ _ | refine blk_drew ?_ | refine blk_alloc ?_ _)); refine blk_far ?_ NB105_118.out _; (with_reducible repeat (first | refine blk_drewN ?_ _ | refine blk_drew ?_ | refine blk_alloc ?_ _)); refine blk_far ?_ NB105_118.out _; (with_reducible repeat (first | refine blk_drewN ?_ _ | refine blk_drew ?_ | refine blk_alloc ?_ _)); exact BK105.out⟩
  have n2_ : Aside0 ((((((w30.setCell ⟨gb118, 0, none⟩ (.string ((rd_T57 y113 x29_2).f0))).setCell ⟨gb118, 1, none⟩ (.int .i64 ((rd_T57 y113 x29_2).f1))).setCell ⟨gb118, 2, none⟩ (.int .i64 ((rd_T57 y113 x29_2).f2))).setCell ⟨gb118, 3, none⟩ (.int .i64 ((rd_T57 y113 x29_2).f3))).setCell ⟨gb118, 4, none⟩ (.int .i64 ((rd_T57 y113 x29_2).f4))).heap[gb118]? = some (.cells #[.string ((rd_T57 y113 x29_2).f0), .int .i64 ((rd_T57 y113 x29_2).f1), .int .i64 ((rd_T57 y113 x29_2).f2), .int .i64 ((rd_T57 y113 x29_2).f3), .int .i64 ((rd_T57 y113 x29_2).f4)] 57 (0, 0))) := ⟨by (with_reducible repeat (first | refine blk_drewN ?_ _ | refine blk_drew ?_ | refine blk_alloc ?_ _)); refine blk_put (cs := #[.string ((rd_T57 y113 x29_2).f0), .int .i64 ((rd_T57 y113 x29_2).f1), .int .i64 ((rd_T57 y113 x29_2).f2), .int .i64 ((rd_T57 y113 x29_2).f3), .int .i64 0]) ?_ 4 _ rfl; (with_reducible repeat (first | refine blk_drewN ?_ _ | refine blk_drew ?_ | refine blk_alloc ?_ _)); refine blk_put (cs := #[.string ((rd_T57 y113 x29_2).f0), .int .i64 ((rd_T57 y113 x29_2).f1), .int .i64 ((rd_T57 y113 x29_2).f2), .int .i64 0, .int .i64 0]) ?_ 3 _ rfl; (with_reducible repeat (first | refine blk_drewN ?_ _ | refine blk_drew ?_ | refine blk_alloc ?_ _)); refine blk_put (cs := #[.string ((rd_T57 y113 x29_2).f0), .int .i64 ((rd_T57 y113 x29_2).f1), .int .i64 0, .int .i64 0, .int .i64 0]) ?_ 2 _ rfl; (with_reducible repeat (first | refine blk_drewN ?_ _ | refine blk_drew ?_ | refine blk_alloc ?_ _)); refine blk_put (cs := #[.string ((rd_T57 y113 x29_2).f0), .int .i64 0, .int .i64 0, .int .i64 0, .int .i64 0]) ?_ 1 _ rfl; (with_reducible repeat (first | refine blk_drewN ?_ _ | refine blk_drew ?_ | refine blk_alloc ?_ _)); refine blk_put (cs := #[.string (⟨#[]⟩ : ByteArray), .int .i64 0, .int .i64 0, .int .i64 0, .int .i64 0]) ?_ 0 _ rfl; (with_reducible repeat (first | refine blk_drewN ?_ _ | refine blk_drew ?_ | refine blk_alloc ?_ _)); exact BK118.out⟩
  have n3_ : Aside0 (Below w.heap.size w (((((w30.setCell ⟨gb118, 0, none⟩ (.string ((rd_T57 y113 x29_2).f0))).setCell ⟨gb118, 1, none⟩ (.int .i64 ((rd_T57 y113 x29_2).f1))).setCell ⟨gb118, 2, none⟩ (.int .i64 ((rd_T57 y113 x29_2).f2))).setCell ⟨gb118, 3, none⟩ (.int .i64 ((rd_T57 y113 x29_2).f3))).setCell ⟨gb118, 4, none⟩ (.int .i64 ((rd_T57 y113 x29_2).f4)))) := ⟨by repeat (first | (with_reducible first | exact HB.out | apply below_alloc | apply pw_below_drewN | apply below_drew1 | refine below_set ?_ GE105.out | refine below_set ?_ GE118.out) | exact HB.out)⟩
  (try clear HO_3)
  (try clear BK105)
  (try clear BK118)
  (try clear HB)
  generalize (((((w30.setCell ⟨gb118, 0, none⟩ (.string ((rd_T57 y113 x29_2).f0))).setCell ⟨gb118, 1, none⟩ (.int .i64 ((rd_T57 y113 x29_2).f1))).setCell ⟨gb118, 2, none⟩ (.int .i64 ((rd_T57 y113 x29_2).f2))).setCell ⟨gb118, 3, none⟩ (.int .i64 ((rd_T57 y113 x29_2).f3))).setCell ⟨gb118, 4, none⟩ (.int .i64 ((rd_T57 y113 x29_2).f4))) = w33 at n0_ n1_ n2_ n3_ ⊢
  have HO_3 := n0_
  have BK105 := n1_
  have BK118 := n2_
  have HB := n3_
  clear n0_ n1_ n2_ n3_
  have n0_ := Aside0.mk (Kd.S_drew HO_3.out)
  have n1_ := Aside0.mk (blk_drew BK105.out)
  have n2_ := Aside0.mk (blk_drew BK118.out)
  have n3_ := Aside0.mk (below_drew1 HB.out)
  clear HO_3
  clear BK105
  clear BK118
  clear HB
  have HO_3 := n0_
  have BK105 := n1_
  have BK118 := n2_
  have HB := n3_
  clear n0_ n1_ n2_ n3_
  refine start_ (n := 5) (S := fun w' => w'.cell? ⟨gb118, 0, none⟩ = some (.string ((rd_T57 y113 x29_2).f0)) ∧ w'.cell? ⟨gb118, 1, none⟩ = some (.int .i64 ((rd_T57 y113 x29_2).f1)) ∧ w'.cell? ⟨gb118, 2, none⟩ = some (.int .i64 ((rd_T57 y113 x29_2).f2)) ∧ w'.cell? ⟨gb118, 3, none⟩ = some (.int .i64 ((rd_T57 y113 x29_2).f3)) ∧ w'.cell? ⟨gb118, 4, none⟩ = some (.int .i64 ((rd_T57 y113 x29_2).f4)) ∧ w'.cell? ⟨gb105, 0, none⟩ = some (.string ((rd_T57 l0 x14_1).f0)) ∧ w'.cell? ⟨gb105, 1, none⟩ = some (.int .i64 ((rd_T57 l0 x14_1).f1)) ∧ w'.cell? ⟨gb105, 2, none⟩ = some (.int .i64 ((rd_T57 l0 x14_1).f2)) ∧ w'.cell? ⟨gb105, 3, none⟩ = some (.int .i64 ((rd_T57 l0 x14_1).f3)) ∧ w'.cell? ⟨gb105, 4, none⟩ = some (.int .i64 ((rd_T57 l0 x14_1).f4))) (ds := []) #[false, false, false, false, false] (by kernel_rfl) rfl rfl ⟨(blk_cell BK118.out 0).trans rfl, (blk_cell BK118.out 1).trans rfl, (blk_cell BK118.out 2).trans rfl, (blk_cell BK118.out 3).trans rfl, (blk_cell BK118.out 4).trans rfl, (blk_cell BK105.out 0).trans rfl, (blk_cell BK105.out 1).trans rfl, (blk_cell BK105.out 2).trans rfl, (blk_cell BK105.out 3).trans rfl, (blk_cell BK105.out 4).trans rfl⟩ (fun hHeld => ?_)
  generalize w33.drew = w34 at HO_3 BK105 BK118 HB hHeld ⊢
  refine pure_ (i := 2) (N := some 36) (v := ?_) (a' := ?_) #[false, false, true, false, false] rfl rfl (by kernel_rfl) (fun _ _ _ h => h) (Or.inl ⟨by rfl, ?_⟩) ?_ ?_
  rotate_left
  · intro w'
    go_simp
    with_reducible rfl
  rotate_left
  · simp only [Act.put, List.setIfInBounds_toArray, List.set_cons_zero, List.set_cons_succ, i64_w, i32_w]
    rfl
  refine take_ (i := 0) (N := some 34) (v := ?_) (a' := ?_) #[true, false, true, false, false] rfl rfl (by kernel_rfl) (fun _ _ _ h => h) (Or.inl ⟨by rfl, ?_⟩) hHeld ?_ ?_
  rotate_left
  · rintro w' ⟨s0, s1, s2, s3, s4, s5, s6, s7, s8, s9⟩
    go_simp
    with_reducible rfl
  rotate_left
  · simp only [Act.put, List.setIfInBounds_toArray, List.set_cons_zero, List.set_cons_succ, i64_w, i32_w]
    rfl
  refine take_ (i := 3) (N := some 37) (v := ?_) (a' := ?_) #[true, false, true, true, false] rfl rfl (by kernel_rfl) (fun _ _ _ h => h) (Or.inl ⟨by rfl, ?_⟩) hHeld ?_ ?_
  rotate_left
  · rintro w' ⟨s0, s1, s2, s3, s4, s5, s6, s7, s8, s9⟩
    go_simp
    with_reducible rfl
  rotate_left
  · simp only [Act.put, List.setIfInBounds_toArray, List.set_cons_zero, List.set_cons_succ, i64_w, i32_w]
    rfl
  refine one_ (i := 1) (N := some 35) #[true, true, true, true, false] rfl rfl (by kernel_rfl) (by decide) (fun K hK => ?_)
  refine goes_ Try.func85 (by kernel_rfl) rfl #[.agg #[.string ((rd_T57 y113 x29_2).f0), .int .i64 ((rd_T57 y113 x29_2).f1), .int .i64 ((rd_T57 y113 x29_2).f2), .int .i64 ((rd_T57 y113 x29_2).f3), .int .i64 ((rd_T57 y113 x29_2).f4)]] (by rfl) rfl rfl (by (try simp only [List.map_toArray, List.map_cons, List.map_nil]); first | done | rfl | (simp only [List.length_drop, List.length_take]; rfl)) ?_
  with_reducible refine (impl_Instr_reads.calls k2 ((rd_T57 y113 x29_2).f0) ((rd_T57 y113 x29_2).f1) ((rd_T57 y113 x29_2).f2) ((rd_T57 y113 x29_2).f3) ((rd_T57 y113 x29_2).f4) t119 _ A27.out).mono ?_
  rintro e w35 ⟨v120, rfl, ho0, hb⟩
  refine ⟨_, rfl, ?_⟩
  have n0_ := Aside0.mk (Kd.S_elder' (by (with_reducible repeat (first | apply Kd.S_alloc | apply Kd.S_drewN | apply Kd.S_drew)); exact HO_3.out) (Kd.R_base ho0) hb)
  have n1_ := Aside0.mk (Kd.R_lower ho0 (below_size (by repeat (first | (with_reducible first | exact HB.out | apply below_alloc | apply pw_below_drewN | apply below_drew1 | refine below_set ?_ GE105.out | refine below_set ?_ GE118.out) | exact HB.out))))
  have n2_ := Aside0.mk (blk_below (g := gb105) (o := .cells #[.string ((rd_T57 l0 x14_1).f0), .int .i64 ((rd_T57 l0 x14_1).f1), .int .i64 ((rd_T57 l0 x14_1).f2), .int .i64 ((rd_T57 l0 x14_1).f3), .int .i64 ((rd_T57 l0 x14_1).f4)] 57 (0, 0)) (by (with_reducible repeat (first | refine blk_drewN ?_ _ | refine blk_drew ?_ | refine blk_alloc ?_ _)); exact BK105.out) hb)
  have n3_ := Aside0.mk (blk_below (g := gb118) (o := .cells #[.string ((rd_T57 y113 x29_2).f0), .int .i64 ((rd_T57 y113 x29_2).f1), .int .i64 ((rd_T57 y113 x29_2).f2), .int .i64 ((rd_T57 y113 x29_2).f3), .int .i64 ((rd_T57 y113 x29_2).f4)] 57 (0, 0)) (by (with_reducible repeat (first | refine blk_drewN ?_ _ | refine blk_drew ?_ | refine blk_alloc ?_ _)); exact BK118.out) hb)
  have n4_ := Aside0.mk (below_step (by repeat (first | (with_reducible first | exact HB.out | apply below_alloc | apply pw_below_drewN | apply below_drew1 | refine below_set ?_ GE105.out | refine below_set ?_ GE118.out) | exact HB.out)) hb)
  clear HO_3
  clear BK105
  clear BK118
  clear HB
  have HO_3 := n0_
  have HO121 := n1_
  have BK105 := n2_
  have BK118 := n3_
  have HB := n4_
  clear n0_ n1_ n2_ n3_ n4_
  (try clear hb)
  (try clear hb2)
  (try clear hk)
  (try clear hi)
  (try clear ho0)
  obtain ⟨Ao36, co36, eo36⟩ := Kd.R_slice HO121.out
  (first | subst eo36 | (injection eo36 with f1_ f2_ f3_; have f4_ := f1_.symm; have f5_ := f3_.symm; clear f1_ f2_ f3_; subst f4_; subst f5_))
  refine hK.out _ _ ⟨(blk_cell BK118.out 0).trans rfl, (blk_cell BK118.out 1).trans rfl, (blk_cell BK118.out 2).trans rfl, (blk_cell BK118.out 3).trans rfl, (blk_cell BK118.out 4).trans rfl, (blk_cell BK105.out 0).trans rfl, (blk_cell BK105.out 1).trans rfl, (blk_cell BK105.out 2).trans rfl, (blk_cell BK105.out 3).trans rfl, (blk_cell BK105.out 4).trans rfl⟩ (fun hHeld => ?_)
  clear hK K
  refine norm_ (a' := ?_) ?_ ?_
  rotate_left
  · show Act.put _ (some 35) _ = _
    simp only [Act.put, List.setIfInBounds_toArray, List.set_cons_zero, List.set_cons_succ, i64_w, i32_w]
    rfl
  refine one_ (i := 4) (N := some 38) #[true, true, true, true, true] rfl rfl (by kernel_rfl) (by decide) (fun K hK => ?_)
  refine goes_ Try.func82 (by kernel_rfl) rfl #[.slice Ao36 t119.length co36, .int .i64 ((rd_T57 l0 x14_1).f1)] (by rfl) rfl rfl (by (try simp only [List.map_toArray, List.map_cons, List.map_nil]); first | done | rfl | (simp only [List.length_drop, List.length_take]; rfl)) ?_
  with_reducible refine (slices_Contains_int_int.calls k2 _ _ t119 ((rd_T57 l0 x14_1).f1) t122 _ ?side1 ?side2 A28.out).mono ?_
  (case side1 => repeat (first | exact (Kd.R_reads' HO121.out).2.2 | (with_reducible refine Kd.C_alloc ?_ _) | (with_reducible refine Kd.C_drewN ?_ _) | (with_reducible refine Kd.C_drew ?_)))
  (case side2 => exact (Kd.R_reads' HO121.out).2.1)
  rintro e w' ⟨rfl, ⟨nd, rfl⟩⟩
  refine ⟨_, rfl, ?_⟩
  refine hK.out _ _ ⟨(blk_cell BK118.out 0).trans rfl, (blk_cell BK118.out 1).trans rfl, (blk_cell BK118.out 2).trans rfl, (blk_cell BK118.out 3).trans rfl, (blk_cell BK118.out 4).trans rfl, (blk_cell BK105.out 0).trans rfl, (blk_cell BK105.out 1).trans rfl, (blk_cell BK105.out 2).trans rfl, (blk_cell BK105.out 3).trans rfl, (blk_cell BK105.out 4).trans rfl⟩ (fun hHeld => ?_)
  clear hK K
  refine norm_ (a' := ?_) ?_ ?_
  rotate_left
  · show Act.put _ (some 38) _ = _
    simp only [Act.put, List.setIfInBounds_toArray, List.set_cons_zero, List.set_cons_succ, i64_w, i32_w]
    rfl
  refine done_ (by kernel_rfl) ?_
  (try (rw [drewN_self w35]; generalize hq_ : World.drewN w35 _ = w35; have n0_ := Aside0.mk (Kd.S_at hq_ HO_3.out); have n1_ := Aside0.mk (Kd.R_at hq_ HO121.out); have n2_ := Aside0.mk (blk_at hq_ BK105.out); have n3_ := Aside0.mk (blk_at hq_ BK118.out); have n4_ := Aside0.mk (below_at hq_ HB.out); clear hq_ HO_3 HO121 BK105 BK118 HB; have HO_3 := n0_; have HO121 := n1_; have BK105 := n2_; have BK118 := n3_; have HB := n4_; clear n0_ n1_ n2_ n3_ n4_))
  go_upto_if 38 with (fail)
  go_cut [] (fun wc => ∃ (kq : Nat) (x3_28 : List (List Int)), Aside0 (impl_delays.j2 kq l0 x3_28 x14_1 x29_2 l0 (l0.length : Int) x14_1 y113 (y113.length : Int) x29_2 ((rd_T57 l0 x14_1).f0) ((rd_T57 l0 x14_1).f1) ((rd_T57 l0 x14_1).f2) ((rd_T57 l0 x14_1).f3) ((rd_T57 l0 x14_1).f4) ((rd_T57 y113 x29_2).f0) ((rd_T57 y113 x29_2).f1) ((rd_T57 y113 x29_2).f2) ((rd_T57 y113 x29_2).f3) ((rd_T57 y113 x29_2).f4) = some r) ∧ Aside0 (kq ≤ k2) ∧ Aside0 (Kd.S (Kd.slice 3 (Kd.int .i64)) 34 wc w.heap.size (fun _ => True) (.slice (some ⟨go11, 0, none⟩) x3_2.length co11) x3_28) ∧ Aside0 (wc.heap[gb105]? = some (.cells #[.string ((rd_T57 l0 x14_1).f0), .int .i64 ((rd_T57 l0 x14_1).f1), .int .i64 ((rd_T57 l0 x14_1).f2), .int .i64 ((rd_T57 l0 x14_1).f3), .int .i64 ((rd_T57 l0 x14_1).f4)] 57 (0, 0))) ∧ Aside0 (wc.heap[gb118]? = some (.cells #[.string ((rd_T57 y113 x29_2).f0), .int .i64 ((rd_T57 y113 x29_2).f1), .int .i64 ((rd_T57 y113 x29_2).f2), .int .i64 ((rd_T57 y113 x29_2).f3), .int .i64 ((rd_T57 y113 x29_2).f4)] 57 (0, 0))) ∧ Aside0 (Below w.heap.size w wc))
  case first =>
    have H := HC29.out
    clear HC29
    by_cases c37 : t122 = true
    rotate_left
    · replace c37 := Bool.eq_false_iff.mpr c37
      subst c37
      have H1 : (impl_delays.j2 k2 l0 x3_2 x14_1 x29_2 l0 (l0.length : Int) x14_1 y113 (y113.length : Int) x29_2 ((rd_T57 l0 x14_1).f0) ((rd_T57 l0 x14_1).f1) ((rd_T57 l0 x14_1).f2) ((rd_T57 l0 x14_1).f3) ((rd_T57 l0 x14_1).f4) ((rd_T57 y113 x29_2).f0) ((rd_T57 y113 x29_2).f1) ((rd_T57 y113 x29_2).f2) ((rd_T57 y113 x29_2).f3) ((rd_T57 y113 x29_2).f4)) = some r := by rw [if_neg (show ¬ (false = true) by decide)] at H; exact H
      clear H
      have H := H1
      clear H1
      have H' := Aside0.mk H
      clear H
      go_wp2
      go_meet
      case rel => exact ⟨_, (x3_2), H', ⟨by have := HK1.out; have := HK2.out; first | omega | exact Nat.le_refl _⟩, ⟨by (try simp only [hl3_2]); (with_reducible repeat (first | apply Kd.S_alloc | apply Kd.S_drewN | apply Kd.S_drew)); exact Kd.S_mono HO_3.out (fun _ hk => trivial)⟩, ⟨by (try simp only [hl3_2]); (with_reducible repeat (first | refine blk_drewN ?_ _ | refine blk_drew ?_ | refine blk_alloc ?_ _)); exact BK105.out⟩, ⟨by (try simp only [hl3_2]); (with_reducible repeat (first | refine blk_drewN ?_ _ | refine blk_drew ?_ | refine blk_alloc ?_ _)); exact BK118.out⟩, ⟨by repeat (first | (with_reducible first | exact HB.out | apply below_alloc | apply pw_below_drewN | apply below_drew1 | refine below_set ?_ GE105.out | refine below_set ?_ GE118.out) | exact HB.out)⟩⟩
    subst c37
    have H1 : (if 0 ≤ x14_1 then (if x14_1 < (x3_2.length : Int) then (if x29_2 < ((rd_L4 x3_2 x14_1).length : Int) then (impl_delays.j2 k2 l0 (x3_2.set (x14_1 : Int).toNat ((rd_L4 x3_2 x14_1).set (x29_2 : Int).toNat 0)) x14_1 x29_2 l0 (l0.length : Int) x14_1 y113 (y113.length : Int) x29_2 ((rd_T57 l0 x14_1).f0) ((rd_T57 l0 x14_1).f1) ((rd_T57 l0 x14_1).f2) ((rd_T57 l0 x14_1).f3) ((rd_T57 l0 x14_1).f4) ((rd_T57 y113 x29_2).f0) ((rd_T57 y113 x29_2).f1) ((rd_T57 y113 x29_2).f2) ((rd_T57 y113 x29_2).f3) ((rd_T57 y113 x29_2).f4)) else (none)) else (none)) else (none)) = some r := by rw [if_pos rfl] at H; exact H
    clear H
    have H := H1
    clear H1
    by_cases c38 : 0 ≤ x14_1
    rotate_left
    · rw [if_neg c38] at H
      exact absurd H (by simp)
    rw [if_pos c38] at H
    have c38b0 : decide (0 ≤ x14_1) = true := decide_eq_true c38
    clear c38
    (first | rw [c38b0] | (simp only [i64_w, i32_w]; rw [c38b0]) | skip)
    by_cases c39 : x14_1 < (x3_2.length : Int)
    rotate_left
    · rw [if_neg c39] at H
      exact absurd H (by simp)
    rw [if_pos c39] at H
    have c39b0 : decide (x14_1 < (x3_2.length : Int)) = true := decide_eq_true c39
    clear c39
    by_cases c40 : x29_2 < ((rd_L4 x3_2 x14_1).length : Int)
    rotate_left
    · rw [if_neg c40] at H
      exact absurd H (by simp)
    rw [if_pos c40] at H
    have c40b0 : decide (x29_2 < ((rd_L4 x3_2 x14_1).length : Int)) = true := decide_eq_true c40
    clear c40
    obtain ⟨y124, hy124⟩ : ∃ y_ : List Int, y_ = ((rd_L4 x3_2 x14_1).set (x29_2 : Int).toNat 0) := ⟨_, rfl⟩
    replace H : (impl_delays.j2 k2 l0 (x3_2.set (x14_1 : Int).toNat y124) x14_1 x29_2 l0 (l0.length : Int) x14_1 y113 (y113.length : Int) x29_2 ((rd_T57 l0 x14_1).f0) ((rd_T57 l0 x14_1).f1) ((rd_T57 l0 x14_1).f2) ((rd_T57 l0 x14_1).f3) ((rd_T57 l0 x14_1).f4) ((rd_T57 y113 x29_2).f0) ((rd_T57 y113 x29_2).f1) ((rd_T57 y113 x29_2).f2) ((rd_T57 y113 x29_2).f3) ((rd_T57 y113 x29_2).f4)) = some r := by first | (rw [hy124]; with_reducible exact H) | (have H2_ := (Option.bind_some _ _).symm.trans H; rw [hy124]; with_reducible exact H2_) | (have H2_ := (Option.bind_some _ _).symm.trans H; with_reducible exact H2_) | with_reducible exact H | (rw [hy124]; exact H) | exact H
    have Ny124 := Aside0.mk hy124
    clear hy124
    obtain ⟨y126, hy126⟩ : ∃ y_ : List (List Int), y_ = (x3_2.set (x14_1 : Int).toNat y124) := ⟨_, rfl⟩
    replace H : (impl_delays.j2 k2 l0 y126 x14_1 x29_2 l0 (l0.length : Int) x14_1 y113 (y113.length : Int) x29_2 ((rd_T57 l0 x14_1).f0) ((rd_T57 l0 x14_1).f1) ((rd_T57 l0 x14_1).f2) ((rd_T57 l0 x14_1).f3) ((rd_T57 l0 x14_1).f4) ((rd_T57 y113 x29_2).f0) ((rd_T57 y113 x29_2).f1) ((rd_T57 y113 x29_2).f2) ((rd_T57 y113 x29_2).f3) ((rd_T57 y113 x29_2).f4)) = some r := by first | (rw [hy126]; with_reducible exact H) | (have H2_ := (Option.bind_some _ _).symm.trans H; rw [hy126]; with_reducible exact H2_) | (have H2_ := (Option.bind_some _ _).symm.trans H; with_reducible exact H2_) | with_reducible exact H | (rw [hy126]; exact H) | exact H
    have Ny126 := Aside0.mk hy126
    clear hy126
    have H' := Aside0.mk H
    clear H
    have p123 : 0 ≤ (x14_1 : Int) := of_decide_eq_true (by first | (with_reducible assumption) | assumption)
    have q123 : x14_1 < (x3_2.length : Int) := of_decide_eq_true (by first | (with_reducible assumption) | assumption)
    obtain ⟨ad123, A123_0, c123_0, e123, hx123_0, hl123_0, hi123_0⟩ := at_L4 (Kd.S_reads' HO_3.out).2.2 x14_1 p123 q123
    obtain rfl : (⟨go11, 0, none⟩ : Addr) = ad123 := (by injection e123)
    obtain ⟨ce123, hce123, hMe123, hcc123⟩ := Kd.S_get HO_3.out [] x14_1 p123 (by first | exact q123 | exact of_decide_eq_true (by first | (with_reducible assumption) | assumption) | (have e_ := (Kd.S_reads' HO_3.out).1; omega))
    obtain ⟨ve123_0, rfl, ge123_0⟩ := hMe123
    have hv123_0 := hcc123 0 _ rfl
    rw [Nat.add_zero, show ((Kd.slice 3 (Kd.int .i64))).sz = 1 from rfl, Nat.mul_one] at hv123_0
    replace hv123_0 := Option.some.inj (hv123_0.symm.trans hx123_0)
    rw [hv123_0] at ge123_0
    have HL123_0 := Aside0.mk (show Kd.R (Kd.int .i64) 3 _ _ _ _ (rd_L4 x3_2 x14_1) from ge123_0)
    clear hv123_0 ge123_0
    have HX123_0 := Aside0.mk hx123_0
    clear hcc123 hce123
    (first | simp only [add_plain] at hx123_0 | simp only [add_at] at hx123_0 | simp only [Addr.add, Nat.zero_add] at hx123_0 | skip)
    have HR123_0 := Aside0.mk hi123_0
    have HC123_0 := Aside0.mk hl123_0
    clear hi123_0 hl123_0
    replace p123 := eq_true p123
    replace q123 := eq_true q123
    have p41 : 0 ≤ (x29_2 : Int) := of_decide_eq_true (by first | (with_reducible assumption) | assumption)
    have q41 : (x29_2 : Int) < (((rd_L4 x3_2 x14_1).length : Int) : Int) := of_decide_eq_true (by first | (with_reducible assumption) | assumption)
    obtain ⟨go41, co41, eo41, gb41, gl41, cl41, HG41⟩ := Kd.R_form HL123_0.out (by omega)
    (first | cases eo41 | (injection eo41 with ea_ en_ ec_; (first | subst ea_ | (injection ea_ with ea_; subst ea_)); subst ec_; clear en_))
    have GB41 := Aside0.mk gb41
    have GG41 := Aside0.mk HG41
    clear gb41 gl41 HG41
    obtain ⟨hx41_0, hf41_0⟩ := Kd.R_celln 0 HL123_0.out (x29_2 : Int) p41 q41
    replace p41 := eq_true p41
    replace q41 := eq_true q41
    have n_ := Aside0.mk (Kd.S_mono (ok' := (fun k_ => some k_ ≠ (.slice Ao36 t119.length co36 : Value).ownBlock)) HO_3.out (fun k_ hk => hk.2))
    clear HO_3
    have HO_3 := n_
    clear n_
    have hq42 : (x14_1 : Int) < (x3_2.length : Int) := (by have h_ : (x14_1 : Int) < ((x3_2.length : Int) : Int) := of_decide_eq_true (by first | (with_reducible assumption) | assumption); first | exact h_ | (have e_ := (Kd.S_reads' HO_3.out).1; omega) | simpa only [List.length_set, List.length_set] using h_)
    obtain ⟨oki42, ce42, hcl42, hM42, hcc42, hok42, hbk42⟩ := Kd.S_borrow HO_3.out [] (x14_1 : Int) (of_decide_eq_true (by first | (with_reducible assumption) | assumption)) hq42
    obtain ⟨ve42_0, rfl, ge42_0⟩ := (id hM42)
    have hv42 := hcc42 0 _ rfl
    rw [Nat.add_zero, show ((Kd.slice 3 (Kd.int .i64))).sz = 1 from rfl, Nat.mul_one] at hv42
    replace hv42 := Option.some.inj (hv42.symm.trans HX123_0.out)
    subst hv42
    clear hcc42 hcl42
    replace ge42_0 := (show Kd.R (Kd.int .i64) 3 _ _ _ _ (rd_L4 x3_2 x14_1) from ge42_0)
    have HP42 := Kd.R_putg ge42_0 (x29_2 : Int) 0
    go_wp2_with (first | ((with_reducible refine gate_store (t := 3) (p := 44) rfl ?_); refine store_event (t := 3) (p := 44) (v := ?vo_w43) (w1 := (w35.setCell ⟨go41, (x29_2 : Int).toNat, none⟩ (.int .i64 0))) ?hg ?ho ?hn ?hr ?_; (case ho => rfl); (case hg => rfl); (case hn => rfl); (case hr => first | (go_simp; done) | (go_simp; rfl)); intro w43 hw; have hg : w35.grownBy w43 (some go41) := (by rw [hw]; exact HP42.2); have hz_ : Kd.R (Kd.int .i64) 3 w43 w.heap.size oki42 (.slice (some ⟨go41, 0, none⟩) (rd_L4 x3_2 x14_1).length c123_0) y124 := (by rw [hw, Ny124.out]; exact HP42.1); have hp_ : Kd.S (Kd.slice 3 (Kd.int .i64)) 34 w43 w.heap.size (fun k_ => some k_ ≠ (.slice Ao36 t119.length co36 : Value).ownBlock) (.slice (some ⟨go11, 0, none⟩) x3_2.length co11) y126 := (by rw [Ny126.out]; exact hbk42 hg (fun k_ e_ => by injection e_ with e_; subst e_; exact ge42_0.1 _ rfl) (Kd.M_row hz_)); have hm_ := Kd.R_mono hz_ hok42; clear HP42 hbk42; have n0_ := Aside0.mk (hp_); have n1_ := Aside0.mk (blk_grown (g := gb105) (o := .cells #[.string ((rd_T57 l0 x14_1).f0), .int .i64 ((rd_T57 l0 x14_1).f1), .int .i64 ((rd_T57 l0 x14_1).f2), .int .i64 ((rd_T57 l0 x14_1).f3), .int .i64 ((rd_T57 l0 x14_1).f4)] 57 (0, 0)) (by (with_reducible repeat (first | refine blk_drewN ?_ _ | refine blk_drew ?_ | refine blk_alloc ?_ _)); exact BK105.out) hg (Kd.R_ne HL123_0.out BK105.out (by decide))); have n2_ := Aside0.mk (blk_grown (g := gb118) (o := .cells #[.string ((rd_T57 y113 x29_2).f0), .int .i64 ((rd_T57 y113 x29_2).f1), .int .i64 ((rd_T57 y113 x29_2).f2), .int .i64 ((rd_T57 y113 x29_2).f3), .int .i64 ((rd_T57 y113 x29_2).f4)] 57 (0, 0)) (by (with_reducible repeat (first | refine blk_drewN ?_ _ | refine blk_drew ?_ | refine blk_alloc ?_ _)); exact BK118.out) hg (Kd.R_ne HL123_0.out BK118.out (by decide))); have n3_ := Aside0.mk (Kd.R_grown1 (by (with_reducible repeat (first | apply Kd.R_alloc | apply Kd.R_drewN | apply Kd.R_drew)); exact HO121.out) rfl hg ((HL123_0.out.1 _ rfl).1.2)); have n4_ := Aside0.mk ((by rw [hw]; exact below_set (HB.out) GB41.out : Below w.heap.size w w43)); have n5_ := Aside0.mk (hm_); have n6_ := Aside0.mk ((Kd.R_reads' hm_).2.1); clear HO_3; clear BK105; clear BK118; clear HO121; clear HB; clear HL123_0; have HO_3 := n0_; have BK105 := n1_; have BK118 := n2_; have HO121 := n3_; have HB := n4_; have HL147 := n5_; have HC125 := n6_; clear n0_ n1_ n2_ n3_ n4_ n5_ n6_; clear hg hw hp_ hz_ hm_ hok42))
    go_meet
    case rel => exact ⟨_, (y126), H', ⟨by have := HK1.out; have := HK2.out; first | omega | exact Nat.le_refl _⟩, ⟨by (try simp only [hl3_2]); (with_reducible repeat (first | apply Kd.S_alloc | apply Kd.S_drewN | apply Kd.S_drew)); exact Kd.S_mono HO_3.out (fun _ hk => trivial)⟩, ⟨by (try simp only [hl3_2]); (with_reducible repeat (first | refine blk_drewN ?_ _ | refine blk_drew ?_ | refine blk_alloc ?_ _)); exact BK105.out⟩, ⟨by (try simp only [hl3_2]); (with_reducible repeat (first | refine blk_drewN ?_ _ | refine blk_drew ?_ | refine blk_alloc ?_ _)); exact BK118.out⟩, ⟨by repeat (first | (with_reducible first | exact HB.out | apply below_alloc | apply pw_below_drewN | apply below_drew1 | refine below_set ?_ GE105.out | refine below_set ?_ GE118.out) | exact HB.out)⟩⟩
  clear HC29
  try clear c1
  try clear p1
  try clear q1
  try clear hx1
  try clear hf1
  try clear c2
  try clear c2b0
  try clear c2b1
  try clear p2
  try clear q2
  try clear hx2
  try clear hf2
  try clear c3
  try clear c3b0
  try clear c3b1
  try clear c4
  try clear p4
  try clear q4
  try clear hx4
  try clear hf4
  try clear c5
  try clear c6
  try clear c6b0
  try clear c7
  try clear c7b0
  try clear c8
  try clear c8b0
  try clear c10
  try clear c10b0
  try clear p10
  try clear q10
  try clear hx10
  try clear c11
  try clear p11
  try clear q11
  try clear hx11
  try clear hf11
  try clear c12
  try clear c12b0
  try clear p12
  try clear q12
  try clear hx12
  try clear c13
  try clear c13b0
  try clear c13b1
  try clear c21
  try clear hx21
  try clear hf21
  try clear q23
  try clear c24
  try clear c24b0
  try clear c25
  try clear c25b0
  try clear c26
  try clear c26b0
  try clear c31
  try clear c37
  try clear c38
  try clear c38b0
  try clear c39
  try clear c39b0
  try clear c40
  try clear c40b0
  try clear p41
  try clear q41
  try clear hx41
  try clear hf41
  try clear c42
  try clear q42
  try clear hcz15_0
  try clear hcz15_1
  try clear hcz15_2
  try clear hcz15_3
  try clear hcz15_4
  try clear hcz32_0
  try clear hcz32_1
  try clear hcz32_2
  try clear hcz32_3
  try clear hcz32_4
  try clear hfz15_0
  try clear hfz15_1
  try clear hfz15_2
  try clear hfz15_3
  try clear hfz15_4
  try clear hfz32_0
  try clear hfz32_1
  try clear hfz32_2
  try clear hfz32_3
  try clear hfz32_4
  try clear hx104_0
  try clear hx104_1
  try clear hx104_2
  try clear hx104_3
  try clear hx104_4
  try clear hx117_0
  try clear hx117_1
  try clear hx117_2
  try clear hx117_3
  try clear hx117_4
  try clear hx11_0
  try clear hx123_0
  try clear hx21_0
  try clear hx41_0
  try clear p1
  try clear p10
  try clear p104
  try clear p11
  try clear p117
  try clear p123
  try clear p2
  try clear p41
  try clear q1
  try clear q10
  try clear q104
  try clear q11
  try clear q117
  try clear q123
  try clear q2
  try clear q23
  try clear q41
  obtain ⟨kq, x3_28, HA, HJ28, HO_3, BK105, BK118, HB⟩ := hcut
  have hl3_28 := (Kd.S_reads' HO_3.out).1
  rw [hl3_28] at HO_3
  (try simp only [hl3_28])
  (try simp only [hl3_28] at BK105)
  (try simp only [hl3_28] at BK118)
  cases kq with
  | zero => exact absurd HA.out (by simp [impl_delays.j2])
  | succ kj28 =>
  have H := HA.out
  clear HA
  simp only [impl_delays.j2] at H
  have HC44 := Aside0.mk H
  clear H
  have hnb45 := NB118_105.out
  have hnc45 := NB105_118.out
  have hcz46_0 : wc.cell? ⟨gb118, 0, none⟩ = some (.string ((rd_T57 y113 x29_2).f0)) := (blk_cell BK118.out 0).trans rfl
  have hcz46_1 : wc.cell? ⟨gb118, 1, none⟩ = some (.int .i64 ((rd_T57 y113 x29_2).f1)) := (blk_cell BK118.out 1).trans rfl
  have hcz46_2 : wc.cell? ⟨gb118, 2, none⟩ = some (.int .i64 ((rd_T57 y113 x29_2).f2)) := (blk_cell BK118.out 2).trans rfl
  have hcz46_3 : wc.cell? ⟨gb118, 3, none⟩ = some (.int .i64 ((rd_T57 y113 x29_2).f3)) := (blk_cell BK118.out 3).trans rfl
  have hcz46_4 : wc.cell? ⟨gb118, 4, none⟩ = some (.int .i64 ((rd_T57 y113 x29_2).f4)) := (blk_cell BK118.out 4).trans rfl
  have hfz46_0 := blk_frozen BK118.out 0
  have hfz46_1 := blk_frozen BK118.out 1
  have hfz46_2 := blk_frozen BK118.out 2
  have hfz46_3 := blk_frozen BK118.out 3
  have hfz46_4 := blk_frozen BK118.out 4
  have hcz47_0 : wc.cell? ⟨gb105, 0, none⟩ = some (.string ((rd_T57 l0 x14_1).f0)) := (blk_cell BK105.out 0).trans rfl
  have hcz47_1 : wc.cell? ⟨gb105, 1, none⟩ = some (.int .i64 ((rd_T57 l0 x14_1).f1)) := (blk_cell BK105.out 1).trans rfl
  have hcz47_2 : wc.cell? ⟨gb105, 2, none⟩ = some (.int .i64 ((rd_T57 l0 x14_1).f2)) := (blk_cell BK105.out 2).trans rfl
  have hcz47_3 : wc.cell? ⟨gb105, 3, none⟩ = some (.int .i64 ((rd_T57 l0 x14_1).f3)) := (blk_cell BK105.out 3).trans rfl
  have hcz47_4 : wc.cell? ⟨gb105, 4, none⟩ = some (.int .i64 ((rd_T57 l0 x14_1).f4)) := (blk_cell BK105.out 4).trans rfl
  have hfz47_0 := blk_frozen BK105.out 0
  have hfz47_1 := blk_frozen BK105.out 1
  have hfz47_2 := blk_frozen BK105.out 2
  have hfz47_3 := blk_frozen BK105.out 3
  have hfz47_4 := blk_frozen BK105.out 4
  go_upto_if 49 with (fail)
  go_cut [] (fun wc => ∃ (kq : Nat) (x3_43 : List (List Int)), Aside0 (impl_delays.j3 kq l0 x3_43 x14_1 x29_2 l0 (l0.length : Int) x14_1 y113 (y113.length : Int) x29_2 ((rd_T57 l0 x14_1).f0) ((rd_T57 l0 x14_1).f1) ((rd_T57 l0 x14_1).f2) ((rd_T57 l0 x14_1).f3) ((rd_T57 l0 x14_1).f4) ((rd_T57 y113 x29_2).f0) ((rd_T57 y113 x29_2).f1) ((rd_T57 y113 x29_2).f2) ((rd_T57 y113 x29_2).f3) ((rd_T57 y113 x29_2).f4) = some r) ∧ Aside0 (kq ≤ kj28) ∧ Aside0 (Kd.S (Kd.slice 3 (Kd.int .i64)) 34 wc w.heap.size (fun _ => True) (.slice (some ⟨go11, 0, none⟩) x3_28.length co11) x3_43) ∧ Aside0 (wc.heap[gb105]? = some (.cells #[.string ((rd_T57 l0 x14_1).f0), .int .i64 ((rd_T57 l0 x14_1).f1), .int .i64 ((rd_T57 l0 x14_1).f2), .int .i64 ((rd_T57 l0 x14_1).f3), .int .i64 ((rd_T57 l0 x14_1).f4)] 57 (0, 0))) ∧ Aside0 (wc.heap[gb118]? = some (.cells #[.string ((rd_T57 y113 x29_2).f0), .int .i64 ((rd_T57 y113 x29_2).f1), .int .i64 ((rd_T57 y113 x29_2).f2), .int .i64 ((rd_T57 y113 x29_2).f3), .int .i64 ((rd_T57 y113 x29_2).f4)] 57 (0, 0))) ∧ Aside0 (Below w.heap.size w wc))
  case first =>
    have H := HC44.out
    clear HC44
    by_cases c48 : ((rd_T57 y113 x29_2).f1) = ((rd_T57 l0 x14_1).f1)
    rotate_left
    · rw [if_neg c48] at H
      have c48b0 : (((rd_T57 y113 x29_2).f1) == ((rd_T57 l0 x14_1).f1)) = false := beq_eq_false_iff_ne.mpr c48
      have c48b1 : (((rd_T57 y113 x29_2).f1) != ((rd_T57 l0 x14_1).f1)) = true := bne_iff_ne.mpr c48
      (first | rw [c48b0] | (simp only [i64_w, i32_w]; rw [c48b0]) | skip)
      have H' := Aside0.mk H
      clear H
      go_wp2
      go_meet
      case rel => exact ⟨_, (x3_28), H', ⟨by have := HK1.out; have := HK2.out; have := HJ28.out; first | omega | exact Nat.le_refl _⟩, ⟨by (try simp only [hl3_2]); (try simp only [hl3_28]); (with_reducible repeat (first | apply Kd.S_alloc | apply Kd.S_drewN | apply Kd.S_drew)); exact HO_3.out⟩, ⟨by (try simp only [hl3_2]); (try simp only [hl3_28]); (with_reducible repeat (first | refine blk_drewN ?_ _ | refine blk_drew ?_ | refine blk_alloc ?_ _)); exact BK105.out⟩, ⟨by (try simp only [hl3_2]); (try simp only [hl3_28]); (with_reducible repeat (first | refine blk_drewN ?_ _ | refine blk_drew ?_ | refine blk_alloc ?_ _)); exact BK118.out⟩, ⟨by repeat (first | (with_reducible first | exact HB.out | apply below_alloc | apply pw_below_drewN | apply below_drew1 | refine below_set ?_ GE105.out | refine below_set ?_ GE118.out) | exact HB.out)⟩⟩
    rw [if_pos c48] at H
    have c48b0 : (((rd_T57 y113 x29_2).f1) == ((rd_T57 l0 x14_1).f1)) = true := beq_iff_eq.mpr c48
    have c48b1 : (((rd_T57 y113 x29_2).f1) != ((rd_T57 l0 x14_1).f1)) = false := bne_eq_false_iff_eq.mpr c48
    clear c48
    (first | rw [c48b0] | (simp only [i64_w, i32_w]; rw [c48b0]) | skip)
    by_cases c49 : 0 ≤ x14_1
    rotate_left
    · rw [if_neg c49] at H
      exact absurd H (by simp)
    rw [if_pos c49] at H
    have c49b0 : decide (0 ≤ x14_1) = true := decide_eq_true c49
    clear c49
    by_cases c50 : x14_1 < (x3_28.length : Int)
    rotate_left
    · rw [if_neg c50] at H
      exact absurd H (by simp)
    rw [if_pos c50] at H
    have c50b0 : decide (x14_1 < (x3_28.length : Int)) = true := decide_eq_true c50
    clear c50
    by_cases c51 : 0 ≤ x29_2
    rotate_left
    · rw [if_neg c51] at H
      exact absurd H (by simp)
    rw [if_pos c51] at H
    have c51b0 : decide (0 ≤ x29_2) = true := decide_eq_true c51
    clear c51
    by_cases c52 : x29_2 < ((rd_L4 x3_28 x14_1).length : Int)
    rotate_left
    · rw [if_neg c52] at H
      exact absurd H (by simp)
    rw [if_pos c52] at H
    have c52b0 : decide (x29_2 < ((rd_L4 x3_28 x14_1).length : Int)) = true := decide_eq_true c52
    clear c52
    obtain ⟨y128, hy128⟩ : ∃ y_ : List Int, y_ = ((rd_L4 x3_28 x14_1).set (x29_2 : Int).toNat 1) := ⟨_, rfl⟩
    replace H : (impl_delays.j3 kj28 l0 (x3_28.set (x14_1 : Int).toNat y128) x14_1 x29_2 l0 (l0.length : Int) x14_1 y113 (y113.length : Int) x29_2 ((rd_T57 l0 x14_1).f0) ((rd_T57 l0 x14_1).f1) ((rd_T57 l0 x14_1).f2) ((rd_T57 l0 x14_1).f3) ((rd_T57 l0 x14_1).f4) ((rd_T57 y113 x29_2).f0) ((rd_T57 y113 x29_2).f1) ((rd_T57 y113 x29_2).f2) ((rd_T57 y113 x29_2).f3) ((rd_T57 y113 x29_2).f4)) = some r := by first | (rw [hy128]; with_reducible exact H) | (have H2_ := (Option.bind_some _ _).symm.trans H; rw [hy128]; with_reducible exact H2_) | (have H2_ := (Option.bind_some _ _).symm.trans H; with_reducible exact H2_) | with_reducible exact H | (rw [hy128]; exact H) | exact H
    have Ny128 := Aside0.mk hy128
    clear hy128
    obtain ⟨y130, hy130⟩ : ∃ y_ : List (List Int), y_ = (x3_28.set (x14_1 : Int).toNat y128) := ⟨_, rfl⟩
    replace H : (impl_delays.j3 kj28 l0 y130 x14_1 x29_2 l0 (l0.length : Int) x14_1 y113 (y113.length : Int) x29_2 ((rd_T57 l0 x14_1).f0) ((rd_T57 l0 x14_1).f1) ((rd_T57 l0 x14_1).f2) ((rd_T57 l0 x14_1).f3) ((rd_T57 l0 x14_1).f4) ((rd_T57 y113 x29_2).f0) ((rd_T57 y113 x29_2).f1) ((rd_T57 y113 x29_2).f2) ((rd_T57 y113 x29_2).f3) ((rd_T57 y113 x29_2).f4)) = some r := by first | (rw [hy130]; with_reducible exact H) | (have H2_ := (Option.bind_some _ _).symm.trans H; rw [hy130]; with_reducible exact H2_) | (have H2_ := (Option.bind_some _ _).symm.trans H; with_reducible exact H2_) | with_reducible exact H | (rw [hy130]; exact H) | exact H
    have Ny130 := Aside0.mk hy130
    clear hy130
    have H' := Aside0.mk H
    clear H
    have p127 : 0 ≤ (x14_1 : Int) := of_decide_eq_true (by first | (with_reducible assumption) | assumption)
    have q127 : x14_1 < (x3_28.length : Int) := of_decide_eq_true (by first | (with_reducible assumption) | assumption)
    obtain ⟨ad127, A127_0, c127_0, e127, hx127_0, hl127_0, hi127_0⟩ := at_L4 (Kd.S_reads' HO_3.out).2.2 x14_1 p127 q127
    obtain rfl : (⟨go11, 0, none⟩ : Addr) = ad127 := (by injection e127)
    obtain ⟨ce127, hce127, hMe127, hcc127⟩ := Kd.S_get HO_3.out [] x14_1 p127 (by first | exact q127 | exact of_decide_eq_true (by first | (with_reducible assumption) | assumption) | (have e_ := (Kd.S_reads' HO_3.out).1; omega))
    obtain ⟨ve127_0, rfl, ge127_0⟩ := hMe127
    have hv127_0 := hcc127 0 _ rfl
    rw [Nat.add_zero, show ((Kd.slice 3 (Kd.int .i64))).sz = 1 from rfl, Nat.mul_one] at hv127_0
    replace hv127_0 := Option.some.inj (hv127_0.symm.trans hx127_0)
    rw [hv127_0] at ge127_0
    have HL127_0 := Aside0.mk (show Kd.R (Kd.int .i64) 3 _ _ _ _ (rd_L4 x3_28 x14_1) from ge127_0)
    clear hv127_0 ge127_0
    have HX127_0 := Aside0.mk hx127_0
    clear hcc127 hce127
    (first | simp only [add_plain] at hx127_0 | simp only [add_at] at hx127_0 | simp only [Addr.add, Nat.zero_add] at hx127_0 | skip)
    have HR127_0 := Aside0.mk hi127_0
    have HC127_0 := Aside0.mk hl127_0
    clear hi127_0 hl127_0
    replace p127 := eq_true p127
    replace q127 := eq_true q127
    have p53 : 0 ≤ (x29_2 : Int) := of_decide_eq_true (by first | (with_reducible assumption) | assumption)
    have q53 : (x29_2 : Int) < (((rd_L4 x3_28 x14_1).length : Int) : Int) := of_decide_eq_true (by first | (with_reducible assumption) | assumption)
    obtain ⟨go53, co53, eo53, gb53, gl53, cl53, HG53⟩ := Kd.R_form HL127_0.out (by omega)
    (first | cases eo53 | (injection eo53 with ea_ en_ ec_; (first | subst ea_ | (injection ea_ with ea_; subst ea_)); subst ec_; clear en_))
    have GB53 := Aside0.mk gb53
    have GG53 := Aside0.mk HG53
    clear gb53 gl53 HG53
    obtain ⟨hx53_0, hf53_0⟩ := Kd.R_celln 0 HL127_0.out (x29_2 : Int) p53 q53
    replace p53 := eq_true p53
    replace q53 := eq_true q53
    have hq54 : (x14_1 : Int) < (x3_28.length : Int) := (by have h_ : (x14_1 : Int) < ((x3_28.length : Int) : Int) := of_decide_eq_true (by first | (with_reducible assumption) | assumption); first | exact h_ | (have e_ := (Kd.S_reads' HO_3.out).1; omega) | simpa only [List.length_set, List.length_set] using h_)
    obtain ⟨oki54, ce54, hcl54, hM54, hcc54, hok54, hbk54⟩ := Kd.S_borrow HO_3.out [] (x14_1 : Int) (of_decide_eq_true (by first | (with_reducible assumption) | assumption)) hq54
    obtain ⟨ve54_0, rfl, ge54_0⟩ := (id hM54)
    have hv54 := hcc54 0 _ rfl
    rw [Nat.add_zero, show ((Kd.slice 3 (Kd.int .i64))).sz = 1 from rfl, Nat.mul_one] at hv54
    replace hv54 := Option.some.inj (hv54.symm.trans HX127_0.out)
    subst hv54
    clear hcc54 hcl54
    replace ge54_0 := (show Kd.R (Kd.int .i64) 3 _ _ _ _ (rd_L4 x3_28 x14_1) from ge54_0)
    have HP54 := Kd.R_putg ge54_0 (x29_2 : Int) 1
    go_wp2_with (first | ((with_reducible refine gate_store (t := 3) (p := 55) rfl ?_); refine store_event (t := 3) (p := 55) (v := ?vo_w55) (w1 := (wc.setCell ⟨go53, (x29_2 : Int).toNat, none⟩ (.int .i64 1))) ?hg ?ho ?hn ?hr ?_; (case ho => rfl); (case hg => rfl); (case hn => rfl); (case hr => first | (go_simp; done) | (go_simp; rfl)); intro w55 hw; have hg : wc.grownBy w55 (some go53) := (by rw [hw]; exact HP54.2); have hz_ : Kd.R (Kd.int .i64) 3 w55 w.heap.size oki54 (.slice (some ⟨go53, 0, none⟩) (rd_L4 x3_28 x14_1).length c127_0) y128 := (by rw [hw, Ny128.out]; exact HP54.1); have hp_ : Kd.S (Kd.slice 3 (Kd.int .i64)) 34 w55 w.heap.size (fun _ => True) (.slice (some ⟨go11, 0, none⟩) x3_28.length co11) y130 := (by rw [Ny130.out]; exact hbk54 hg (fun k_ e_ => by injection e_ with e_; subst e_; exact ge54_0.1 _ rfl) (Kd.M_row hz_)); have hm_ := Kd.R_mono hz_ hok54; clear HP54 hbk54; have n0_ := Aside0.mk (hp_); have n1_ := Aside0.mk (blk_grown (g := gb105) (o := .cells #[.string ((rd_T57 l0 x14_1).f0), .int .i64 ((rd_T57 l0 x14_1).f1), .int .i64 ((rd_T57 l0 x14_1).f2), .int .i64 ((rd_T57 l0 x14_1).f3), .int .i64 ((rd_T57 l0 x14_1).f4)] 57 (0, 0)) (by (with_reducible repeat (first | refine blk_drewN ?_ _ | refine blk_drew ?_ | refine blk_alloc ?_ _)); exact BK105.out) hg (Kd.R_ne HL127_0.out BK105.out (by decide))); have n2_ := Aside0.mk (blk_grown (g := gb118) (o := .cells #[.string ((rd_T57 y113 x29_2).f0), .int .i64 ((rd_T57 y113 x29_2).f1), .int .i64 ((rd_T57 y113 x29_2).f2), .int .i64 ((rd_T57 y113 x29_2).f3), .int .i64 ((rd_T57 y113 x29_2).f4)] 57 (0, 0)) (by (with_reducible repeat (first | refine blk_drewN ?_ _ | refine blk_drew ?_ | refine blk_alloc ?_ _)); exact BK118.out) hg (Kd.R_ne HL127_0.out BK118.out (by decide))); have n3_ := Aside0.mk ((by rw [hw]; exact below_set (HB.out) GB53.out : Below w.heap.size w w55)); have n4_ := Aside0.mk (hm_); have n5_ := Aside0.mk ((Kd.R_reads' hm_).2.1); clear HO_3; clear BK105; clear BK118; clear HB; clear HL127_0; have HO_3 := n0_; have BK105 := n1_; have BK118 := n2_; have HB := n3_; have HL148 := n4_; have HC129 := n5_; clear n0_ n1_ n2_ n3_ n4_ n5_; clear hg hw hp_ hz_ hm_ hok54))
    go_meet
    case rel => exact ⟨_, (y130), H', ⟨by have := HK1.out; have := HK2.out; have := HJ28.out; first | omega | exact Nat.le_refl _⟩, ⟨by (try simp only [hl3_2]); (try simp only [hl3_28]); (with_reducible repeat (first | apply Kd.S_alloc | apply Kd.S_drewN | apply Kd.S_drew)); exact HO_3.out⟩, ⟨by (try simp only [hl3_2]); (try simp only [hl3_28]); (with_reducible repeat (first | refine blk_drewN ?_ _ | refine blk_drew ?_ | refine blk_alloc ?_ _)); exact BK105.out⟩, ⟨by (try simp only [hl3_2]); (try simp only [hl3_28]); (with_reducible repeat (first | refine blk_drewN ?_ _ | refine blk_drew ?_ | refine blk_alloc ?_ _)); exact BK118.out⟩, ⟨by repeat (first | (with_reducible first | exact HB.out | apply below_alloc | apply pw_below_drewN | apply below_drew1 | refine below_set ?_ GE105.out | refine below_set ?_ GE118.out) | exact HB.out)⟩⟩
  clear HC44
  try clear c1
  try clear p1
  try clear q1
  try clear hx1
  try clear hf1
  try clear c2
  try clear c2b0
  try clear c2b1
  try clear p2
  try clear q2
  try clear hx2
  try clear hf2
  try clear c3
  try clear c3b0
  try clear c3b1
  try clear c4
  try clear p4
  try clear q4
  try clear hx4
  try clear hf4
  try clear c5
  try clear p5
  try clear q5
  try clear hx5
  try clear hf5
  try clear c6
  try clear c6b0
  try clear c7
  try clear c7b0
  try clear c8
  try clear c8b0
  try clear c10
  try clear c10b0
  try clear p10
  try clear q10
  try clear hx10
  try clear c11
  try clear p11
  try clear q11
  try clear hx11
  try clear hf11
  try clear c12
  try clear c12b0
  try clear p12
  try clear q12
  try clear hx12
  try clear c13
  try clear c13b0
  try clear c13b1
  try clear c21
  try clear hx21
  try clear hf21
  try clear q23
  try clear c24
  try clear c24b0
  try clear c25
  try clear c25b0
  try clear c26
  try clear c26b0
  try clear c31
  try clear c37
  try clear c38
  try clear c38b0
  try clear c39
  try clear c39b0
  try clear c40
  try clear c40b0
  try clear p41
  try clear q41
  try clear hx41
  try clear hf41
  try clear c42
  try clear q42
  try clear c45
  try clear c48
  try clear c48b0
  try clear c48b1
  try clear c49
  try clear c49b0
  try clear c50
  try clear c50b0
  try clear c51
  try clear c51b0
  try clear c52
  try clear c52b0
  try clear p53
  try clear q53
  try clear hx53
  try clear hf53
  try clear c54
  try clear q54
  try clear hcz15_0
  try clear hcz15_1
  try clear hcz15_2
  try clear hcz15_3
  try clear hcz15_4
  try clear hcz32_0
  try clear hcz32_1
  try clear hcz32_2
  try clear hcz32_3
  try clear hcz32_4
  try clear hcz46_0
  try clear hcz46_1
  try clear hcz46_2
  try clear hcz46_3
  try clear hcz46_4
  try clear hcz47_0
  try clear hcz47_1
  try clear hcz47_2
  try clear hcz47_3
  try clear hcz47_4
  try clear hfz15_0
  try clear hfz15_1
  try clear hfz15_2
  try clear hfz15_3
  try clear hfz15_4
  try clear hfz32_0
  try clear hfz32_1
  try clear hfz32_2
  try clear hfz32_3
  try clear hfz32_4
  try clear hfz46_0
  try clear hfz46_1
  try clear hfz46_2
  try clear hfz46_3
  try clear hfz46_4
  try clear hfz47_0
  try clear hfz47_1
  try clear hfz47_2
  try clear hfz47_3
  try clear hfz47_4
  try clear hx104_0
  try clear hx104_1
  try clear hx104_2
  try clear hx104_3
  try clear hx104_4
  try clear hx117_0
  try clear hx117_1
  try clear hx117_2
  try clear hx117_3
  try clear hx117_4
  try clear hx11_0
  try clear hx123_0
  try clear hx127_0
  try clear hx21_0
  try clear hx41_0
  try clear hx53_0
  try clear p1
  try clear p10
  try clear p104
  try clear p11
  try clear p117
  try clear p12
  try clear p123
  try clear p127
  try clear p2
  try clear p4
  try clear p41
  try clear p53
  try clear q1
  try clear q10
  try clear q104
  try clear q11
  try clear q117
  try clear q12
  try clear q123
  try clear q127
  try clear q2
  try clear q23
  try clear q4
  try clear q41
  try clear q42
  try clear q53
  obtain ⟨kq, x3_43, HA, HJ43, HO_3, BK105, BK118, HB⟩ := hcut
  have hl3_43 := (Kd.S_reads' HO_3.out).1
  rw [hl3_43] at HO_3
  (try simp only [hl3_43])
  (try simp only [hl3_43] at BK105)
  (try simp only [hl3_43] at BK118)
  cases kq with
  | zero => exact absurd HA.out (by simp [impl_delays.j3])
  | succ kj43 =>
  have H := HA.out
  clear HA
  simp only [impl_delays.j3] at H
  obtain ⟨ji56, hji56⟩ : ∃ j_ : Int, (wrap64 (x29_2 + 1)) = j_ := ⟨_, rfl⟩
  replace H : (if 0 ≤ (ji56) then (if (ji56) ≤ x14_1 then (if x14_1 ≤ (l0.length : Int) then ((slices_ContainsFunc_impl_delays_1.f kj43 ((l0.take (x14_1 : Int).toNat).drop ((ji56) : Int).toNat) [(⟨((rd_T57 y113 x29_2).f0), ((rd_T57 y113 x29_2).f1), ((rd_T57 y113 x29_2).f2), ((rd_T57 y113 x29_2).f3), ((rd_T57 y113 x29_2).f4)⟩ : S57)]).bind fun t135 => ((impl_Instr_reads.f kj43 ((rd_T57 l0 x14_1).f0) ((rd_T57 l0 x14_1).f1) ((rd_T57 l0 x14_1).f2) ((rd_T57 l0 x14_1).f3) ((rd_T57 l0 x14_1).f4)).bind fun t136 => ((slices_Contains_int_int.f kj43 t136 ((rd_T57 y113 x29_2).f1)).bind fun t139 => (if t139 = true then (if t135 = true then (impl_delays.l1 kj43 l0 x3_43 x14_1 l0 (l0.length : Int) x14_1 y113 (y113.length : Int) ji56 ((rd_T57 l0 x14_1).f0) ((rd_T57 l0 x14_1).f1) ((rd_T57 l0 x14_1).f2) ((rd_T57 l0 x14_1).f3) ((rd_T57 l0 x14_1).f4)) else (if 0 ≤ x14_1 then (if x14_1 < (x3_43.length : Int) then (if 0 ≤ x29_2 then (if x29_2 < ((rd_L4 x3_43 x14_1).length : Int) then ((impl_Instr_cost.f ((rd_T57 y113 x29_2).f0) ((rd_T57 y113 x29_2).f1) ((rd_T57 y113 x29_2).f2) ((rd_T57 y113 x29_2).f3) ((rd_T57 y113 x29_2).f4)).bind fun t143 => (impl_delays.l1 kj43 l0 (x3_43.set (x14_1 : Int).toNat ((rd_L4 x3_43 x14_1).set (x29_2 : Int).toNat (mx (rd (rd_L4 x3_43 x14_1) x29_2) t143))) x14_1 l0 (l0.length : Int) x14_1 y113 (y113.length : Int) ji56 ((rd_T57 l0 x14_1).f0) ((rd_T57 l0 x14_1).f1) ((rd_T57 l0 x14_1).f2) ((rd_T57 l0 x14_1).f3) ((rd_T57 l0 x14_1).f4))) else (none)) else (none)) else (none)) else (none))) else (impl_delays.l1 kj43 l0 x3_43 x14_1 l0 (l0.length : Int) x14_1 y113 (y113.length : Int) ji56 ((rd_T57 l0 x14_1).f0) ((rd_T57 l0 x14_1).f1) ((rd_T57 l0 x14_1).f2) ((rd_T57 l0 x14_1).f3) ((rd_T57 l0 x14_1).f4)))))) else (none)) else (none)) else (none)) = some r := by first | (rw [hji56] at H; exact H) | (simp only [hji56] at H ⊢; exact H)
  have hji56w : (IntKind.i64.wrap (x29_2 + 1)) = ji56 := (i64_w _).trans hji56
  by_cases c57 : 0 ≤ (ji56)
  rotate_left
  · rw [if_neg c57] at H
    exact absurd H (by simp)
  rw [if_pos c57] at H
  have c57b0 := eq_true c57
  have c57b1 : decide (0 ≤ (ji56)) = true := decide_eq_true c57
  clear c57
  by_cases c58 : (ji56) ≤ x14_1
  rotate_left
  · rw [if_neg c58] at H
    exact absurd H (by simp)
  rw [if_pos c58] at H
  have c58b0 := eq_true c58
  have c58b1 : decide ((ji56) ≤ x14_1) = true := decide_eq_true c58
  clear c58
  by_cases c59 : x14_1 ≤ (l0.length : Int)
  rotate_left
  · rw [if_neg c59] at H
    exact absurd H (by simp)
  rw [if_pos c59] at H
  have c59b0 := eq_true c59
  have c59b1 : decide (x14_1 ≤ (l0.length : Int)) = true := decide_eq_true c59
  clear c59
  obtain ⟨y131, hy131⟩ : ∃ y_ : List (S57), y_ = ((l0.take (x14_1 : Int).toNat).drop ((ji56) : Int).toNat) := ⟨_, rfl⟩
  replace H : ((slices_ContainsFunc_impl_delays_1.f kj43 y131 [(⟨((rd_T57 y113 x29_2).f0), ((rd_T57 y113 x29_2).f1), ((rd_T57 y113 x29_2).f2), ((rd_T57 y113 x29_2).f3), ((rd_T57 y113 x29_2).f4)⟩ : S57)]).bind fun t135 => ((impl_Instr_reads.f kj43 ((rd_T57 l0 x14_1).f0) ((rd_T57 l0 x14_1).f1) ((rd_T57 l0 x14_1).f2) ((rd_T57 l0 x14_1).f3) ((rd_T57 l0 x14_1).f4)).bind fun t136 => ((slices_Contains_int_int.f kj43 t136 ((rd_T57 y113 x29_2).f1)).bind fun t139 => (if t139 = true then (if t135 = true then (impl_delays.l1 kj43 l0 x3_43 x14_1 l0 (l0.length : Int) x14_1 y113 (y113.length : Int) ji56 ((rd_T57 l0 x14_1).f0) ((rd_T57 l0 x14_1).f1) ((rd_T57 l0 x14_1).f2) ((rd_T57 l0 x14_1).f3) ((rd_T57 l0 x14_1).f4)) else (if 0 ≤ x14_1 then (if x14_1 < (x3_43.length : Int) then (if 0 ≤ x29_2 then (if x29_2 < ((rd_L4 x3_43 x14_1).length : Int) then ((impl_Instr_cost.f ((rd_T57 y113 x29_2).f0) ((rd_T57 y113 x29_2).f1) ((rd_T57 y113 x29_2).f2) ((rd_T57 y113 x29_2).f3) ((rd_T57 y113 x29_2).f4)).bind fun t143 => (impl_delays.l1 kj43 l0 (x3_43.set (x14_1 : Int).toNat ((rd_L4 x3_43 x14_1).set (x29_2 : Int).toNat (mx (rd (rd_L4 x3_43 x14_1) x29_2) t143))) x14_1 l0 (l0.length : Int) x14_1 y113 (y113.length : Int) ji56 ((rd_T57 l0 x14_1).f0) ((rd_T57 l0 x14_1).f1) ((rd_T57 l0 x14_1).f2) ((rd_T57 l0 x14_1).f3) ((rd_T57 l0 x14_1).f4))) else (none)) else (none)) else (none)) else (none))) else (impl_delays.l1 kj43 l0 x3_43 x14_1 l0 (l0.length : Int) x14_1 y113 (y113.length : Int) ji56 ((rd_T57 l0 x14_1).f0) ((rd_T57 l0 x14_1).f1) ((rd_T57 l0 x14_1).f2) ((rd_T57 l0 x14_1).f3) ((rd_T57 l0 x14_1).f4)))))) = some r := by first | (rw [hy131]; with_reducible exact H) | (have H2_ := (Option.bind_some _ _).symm.trans H; rw [hy131]; with_reducible exact H2_) | (have H2_ := (Option.bind_some _ _).symm.trans H; with_reducible exact H2_) | with_reducible exact H | (rw [hy131]; exact H) | exact H
  have Ny131 := Aside0.mk hy131
  clear hy131
  replace H := Option.bind_eq_some_iff.mp H
  obtain ⟨t135, A600, H⟩ := H
  replace H : ((impl_Instr_reads.f kj43 ((rd_T57 l0 x14_1).f0) ((rd_T57 l0 x14_1).f1) ((rd_T57 l0 x14_1).f2) ((rd_T57 l0 x14_1).f3) ((rd_T57 l0 x14_1).f4)).bind fun t136 => ((slices_Contains_int_int.f kj43 t136 ((rd_T57 y113 x29_2).f1)).bind fun t139 => (if t139 = true then (if t135 = true then (impl_delays.l1 kj43 l0 x3_43 x14_1 l0 (l0.length : Int) x14_1 y113 (y113.length : Int) ji56 ((rd_T57 l0 x14_1).f0) ((rd_T57 l0 x14_1).f1) ((rd_T57 l0 x14_1).f2) ((rd_T57 l0 x14_1).f3) ((rd_T57 l0 x14_1).f4)) else (if 0 ≤ x14_1 then (if x14_1 < (x3_43.length : Int) then (if 0 ≤ x29_2 then (if x29_2 < ((rd_L4 x3_43 x14_1).length : Int) then ((impl_Instr_cost.f ((rd_T57 y113 x29_2).f0) ((rd_T57 y113 x29_2).f1) ((rd_T57 y113 x29_2).f2) ((rd_T57 y113 x29_2).f3) ((rd_T57 y113 x29_2).f4)).bind fun t143 => (impl_delays.l1 kj43 l0 (x3_43.set (x14_1 : Int).toNat ((rd_L4 x3_43 x14_1).set (x29_2 : Int).toNat (mx (rd (rd_L4 x3_43 x14_1) x29_2) t143))) x14_1 l0 (l0.length : Int) x14_1 y113 (y113.length : Int) ji56 ((rd_T57 l0 x14_1).f0) ((rd_T57 l0 x14_1).f1) ((rd_T57 l0 x14_1).f2) ((rd_T57 l0 x14_1).f3) ((rd_T57 l0 x14_1).f4))) else (none)) else (none)) else (none)) else (none))) else (impl_delays.l1 kj43 l0 x3_43 x14_1 l0 (l0.length : Int) x14_1 y113 (y113.length : Int) ji56 ((rd_T57 l0 x14_1).f0) ((rd_T57 l0 x14_1).f1) ((rd_T57 l0 x14_1).f2) ((rd_T57 l0 x14_1).f3) ((rd_T57 l0 x14_1).f4))))) = some r := H
  have A60 := Aside0.mk A600
  clear A600
  replace H := Option.bind_eq_some_iff.mp H
  obtain ⟨t136, A610, H⟩ := H
  replace H : ((slices_Contains_int_int.f kj43 t136 ((rd_T57 y113 x29_2).f1)).bind fun t139 => (if t139 = true then (if t135 = true then (impl_delays.l1 kj43 l0 x3_43 x14_1 l0 (l0.length : Int) x14_1 y113 (y113.length : Int) ji56 ((rd_T57 l0 x14_1).f0) ((rd_T57 l0 x14_1).f1) ((rd_T57 l0 x14_1).f2) ((rd_T57 l0 x14_1).f3) ((rd_T57 l0 x14_1).f4)) else (if 0 ≤ x14_1 then (if x14_1 < (x3_43.length : Int) then (if 0 ≤ x29_2 then (if x29_2 < ((rd_L4 x3_43 x14_1).length : Int) then ((impl_Instr_cost.f ((rd_T57 y113 x29_2).f0) ((rd_T57 y113 x29_2).f1) ((rd_T57 y113 x29_2).f2) ((rd_T57 y113 x29_2).f3) ((rd_T57 y113 x29_2).f4)).bind fun t143 => (impl_delays.l1 kj43 l0 (x3_43.set (x14_1 : Int).toNat ((rd_L4 x3_43 x14_1).set (x29_2 : Int).toNat (mx (rd (rd_L4 x3_43 x14_1) x29_2) t143))) x14_1 l0 (l0.length : Int) x14_1 y113 (y113.length : Int) ji56 ((rd_T57 l0 x14_1).f0) ((rd_T57 l0 x14_1).f1) ((rd_T57 l0 x14_1).f2) ((rd_T57 l0 x14_1).f3) ((rd_T57 l0 x14_1).f4))) else (none)) else (none)) else (none)) else (none))) else (impl_delays.l1 kj43 l0 x3_43 x14_1 l0 (l0.length : Int) x14_1 y113 (y113.length : Int) ji56 ((rd_T57 l0 x14_1).f0) ((rd_T57 l0 x14_1).f1) ((rd_T57 l0 x14_1).f2) ((rd_T57 l0 x14_1).f3) ((rd_T57 l0 x14_1).f4)))) = some r := H
  have A61 := Aside0.mk A610
  clear A610
  replace H := Option.bind_eq_some_iff.mp H
  obtain ⟨t139, A620, H⟩ := H
  replace H : (if t139 = true then (if t135 = true then (impl_delays.l1 kj43 l0 x3_43 x14_1 l0 (l0.length : Int) x14_1 y113 (y113.length : Int) ji56 ((rd_T57 l0 x14_1).f0) ((rd_T57 l0 x14_1).f1) ((rd_T57 l0 x14_1).f2) ((rd_T57 l0 x14_1).f3) ((rd_T57 l0 x14_1).f4)) else (if 0 ≤ x14_1 then (if x14_1 < (x3_43.length : Int) then (if 0 ≤ x29_2 then (if x29_2 < ((rd_L4 x3_43 x14_1).length : Int) then ((impl_Instr_cost.f ((rd_T57 y113 x29_2).f0) ((rd_T57 y113 x29_2).f1) ((rd_T57 y113 x29_2).f2) ((rd_T57 y113 x29_2).f3) ((rd_T57 y113 x29_2).f4)).bind fun t143 => (impl_delays.l1 kj43 l0 (x3_43.set (x14_1 : Int).toNat ((rd_L4 x3_43 x14_1).set (x29_2 : Int).toNat (mx (rd (rd_L4 x3_43 x14_1) x29_2) t143))) x14_1 l0 (l0.length : Int) x14_1 y113 (y113.length : Int) ji56 ((rd_T57 l0 x14_1).f0) ((rd_T57 l0 x14_1).f1) ((rd_T57 l0 x14_1).f2) ((rd_T57 l0 x14_1).f3) ((rd_T57 l0 x14_1).f4))) else (none)) else (none)) else (none)) else (none))) else (impl_delays.l1 kj43 l0 x3_43 x14_1 l0 (l0.length : Int) x14_1 y113 (y113.length : Int) ji56 ((rd_T57 l0 x14_1).f0) ((rd_T57 l0 x14_1).f1) ((rd_T57 l0 x14_1).f2) ((rd_T57 l0 x14_1).f3) ((rd_T57 l0 x14_1).f4))) = some r := H
  have A62 := Aside0.mk A620
  clear A620
  by_cases c63 : t139 = true
  rotate_left
  · replace c63 := Bool.eq_false_iff.mpr c63
    subst c63
    have H1 : (impl_delays.l1 kj43 l0 x3_43 x14_1 l0 (l0.length : Int) x14_1 y113 (y113.length : Int) ji56 ((rd_T57 l0 x14_1).f0) ((rd_T57 l0 x14_1).f1) ((rd_T57 l0 x14_1).f2) ((rd_T57 l0 x14_1).f3) ((rd_T57 l0 x14_1).f4)) = some r := by rw [if_neg (show ¬ (false = true) by decide)] at H; exact H
    clear H
    have H := H1
    clear H1
    have H' := Aside0.mk H
    clear H
    have q86 : (x14_1 : Int) ≤ ((l0.length : Int) : Int) := of_decide_eq_true (by first | (with_reducible assumption) | assumption)
    obtain ⟨i086, hi086, _, hsz86, _⟩ := info_parts info57
    have hroom86 : l0.length ≤ c0 := HC0.out
    have hC86 : Kd.C k57 _ (some ad104) l0.length l0 := HR0.out
    have ql86 : ((ji56) : Int) ≤ (x14_1 : Int) := of_decide_eq_true (by first | (with_reducible assumption) | assumption)
    have q086 : (0 : Int) ≤ ((ji56) : Int) := of_decide_eq_true (by first | (with_reducible assumption) | assumption)
    have hcut86 := cut_mid (P := Try.prog) 27 57 .i64 .i64 Try.underlying27 hi086 5 hsz86 (some ad104) l0.length c0 (ji56) x14_1 q086 ql86 q86 hroom86
    have hr86 := Kd.C_mid (lo := ((ji56) : Int).toNat) (hi := (x14_1 : Int).toNat) (c := c0) hC86 (by omega) (by omega) hroom86
    obtain ⟨A86, hA86⟩ : ∃ A1, A1 = (if c0 = ((ji56) : Int).toNat then (some ad104) else ((some ad104) : Option Addr).map (·.add (((ji56) : Int).toNat * 5))) := ⟨_, rfl⟩
    obtain ⟨c86, hc86⟩ : ∃ c1, c1 = c0 - ((ji56) : Int).toNat := ⟨_, rfl⟩
    have hy86 : y131.length = (x14_1 : Int).toNat - ((ji56) : Int).toNat := (by rw [Ny131.out, List.length_drop, List.length_take] <;> omega)
    rw [show ((l0).take (x14_1 : Int).toNat).drop ((ji56) : Int).toNat = y131 from Ny131.out.symm] at hr86
    replace hr86 : Kd.C k57 _ A86 y131.length y131 := (by rw [hA86]; exact hr86)
    rw [← hy86, ← hA86, ← hc86] at hcut86
    have HR134 := Aside0.mk hr86
    have HC134 := Aside0.mk (show y131.length ≤ c86 from by rw [hy86, hc86]; exact Nat.sub_le_sub_right (Nat.le_trans (by omega) hroom86) _)
    clear hr86 hC86 hroom86 hi086 hsz86 hc86
    have KY86 := Aside0.mk hy86
    have KA86 := Aside0.mk hA86
    clear hy86 hA86
    replace q86 := eq_true q86
    try go_wp2_with (first | ((with_reducible refine gate_callee (f := 86) rfl ?_); refine goesL_ (some 62) rfl rfl Try.func86 (by kernel_rfl) rfl #[.slice A86 y131.length c86, .func (Fn.func 87) #[] #[.pointer (some ⟨gb118, 0, none⟩)]] rfl (by (try simp only [List.map_toArray, List.map_cons, List.map_nil]); first | done | rfl | (simp only [List.length_drop, List.length_take]; rfl)) ?_; (with_reducible refine (slices_ContainsFunc_impl_delays_1.calls kj43 _ _ y131 _ 1 [(⟨((rd_T57 y113 x29_2).f0), ((rd_T57 y113 x29_2).f1), ((rd_T57 y113 x29_2).f2), ((rd_T57 y113 x29_2).f3), ((rd_T57 y113 x29_2).f4)⟩ : S57)] t135 _ ?side1 ?side2 ?side3 ?side4 A60.out).mono ?_); (case side1 => repeat (first | exact (Kd.C_below HR134.out HB.out) | (with_reducible refine Kd.C_alloc ?_ _) | (with_reducible refine Kd.C_drewN ?_ _) | (with_reducible refine Kd.C_drew ?_))); (case side2 => exact HC134.out); (case side3 => exact box_C (g := gb118) (o := .cells #[.string ((rd_T57 y113 x29_2).f0), .int .i64 ((rd_T57 y113 x29_2).f1), .int .i64 ((rd_T57 y113 x29_2).f2), .int .i64 ((rd_T57 y113 x29_2).f3), .int .i64 ((rd_T57 y113 x29_2).f4)] 57 (0, 0)) (by (with_reducible repeat (first | refine blk_drewN ?_ _ | refine blk_drew ?_ | refine blk_alloc ?_ _)); exact BK118.out) rfl (k57.K_of_M (k57_mkM _ 0 (fun _ => True) _))); (case side4 => exact Nat.le_refl _); rintro e w87 ⟨rfl, hb⟩; refine ⟨_, rfl, ?_⟩; have n0_ := Aside0.mk (Kd.S_below (by (with_reducible repeat (first | apply Kd.S_alloc | apply Kd.S_drewN | apply Kd.S_drew)); exact HO_3.out) hb); have n1_ := Aside0.mk (blk_below (g := gb105) (o := .cells #[.string ((rd_T57 l0 x14_1).f0), .int .i64 ((rd_T57 l0 x14_1).f1), .int .i64 ((rd_T57 l0 x14_1).f2), .int .i64 ((rd_T57 l0 x14_1).f3), .int .i64 ((rd_T57 l0 x14_1).f4)] 57 (0, 0)) (by (with_reducible repeat (first | refine blk_drewN ?_ _ | refine blk_drew ?_ | refine blk_alloc ?_ _)); exact BK105.out) hb); have n2_ := Aside0.mk (blk_below (g := gb118) (o := .cells #[.string ((rd_T57 y113 x29_2).f0), .int .i64 ((rd_T57 y113 x29_2).f1), .int .i64 ((rd_T57 y113 x29_2).f2), .int .i64 ((rd_T57 y113 x29_2).f3), .int .i64 ((rd_T57 y113 x29_2).f4)] 57 (0, 0)) (by (with_reducible repeat (first | refine blk_drewN ?_ _ | refine blk_drew ?_ | refine blk_alloc ?_ _)); exact BK118.out) hb); have n3_ := Aside0.mk (below_step (by repeat (first | (with_reducible first | exact HB.out | apply below_alloc | apply pw_below_drewN | apply below_drew1 | refine below_set ?_ GE105.out | refine below_set ?_ GE118.out) | exact HB.out)) hb); clear HO_3; clear BK105; clear BK118; clear HB; have HO_3 := n0_; have BK105 := n1_; have BK118 := n2_; have HB := n3_; clear n0_ n1_ n2_ n3_; (try clear hb); (try clear hb2); (try clear hk); (try clear hi)))
    have n0_ := Aside0.mk (Kd.S_drew HO_3.out)
    have n1_ := Aside0.mk (blk_drew BK105.out)
    have n2_ := Aside0.mk (blk_drew BK118.out)
    have n3_ := Aside0.mk (below_drew1 HB.out)
    clear HO_3
    clear BK105
    clear BK118
    clear HB
    have HO_3 := n0_
    have BK105 := n1_
    have BK118 := n2_
    have HB := n3_
    clear n0_ n1_ n2_ n3_
    refine start_ (n := 9) (S := fun w' => w'.cell? ⟨gb105, 0, none⟩ = some (.string ((rd_T57 l0 x14_1).f0)) ∧ w'.cell? ⟨gb105, 1, none⟩ = some (.int .i64 ((rd_T57 l0 x14_1).f1)) ∧ w'.cell? ⟨gb105, 2, none⟩ = some (.int .i64 ((rd_T57 l0 x14_1).f2)) ∧ w'.cell? ⟨gb105, 3, none⟩ = some (.int .i64 ((rd_T57 l0 x14_1).f3)) ∧ w'.cell? ⟨gb105, 4, none⟩ = some (.int .i64 ((rd_T57 l0 x14_1).f4)) ∧ w'.cell? ⟨gb118, 0, none⟩ = some (.string ((rd_T57 y113 x29_2).f0)) ∧ w'.cell? ⟨gb118, 1, none⟩ = some (.int .i64 ((rd_T57 y113 x29_2).f1)) ∧ w'.cell? ⟨gb118, 2, none⟩ = some (.int .i64 ((rd_T57 y113 x29_2).f2)) ∧ w'.cell? ⟨gb118, 3, none⟩ = some (.int .i64 ((rd_T57 y113 x29_2).f3)) ∧ w'.cell? ⟨gb118, 4, none⟩ = some (.int .i64 ((rd_T57 y113 x29_2).f4))) (ds := []) #[false, false, false, false, false, false, false, false, false] (by kernel_rfl) rfl rfl ⟨(blk_cell BK105.out 0).trans rfl, (blk_cell BK105.out 1).trans rfl, (blk_cell BK105.out 2).trans rfl, (blk_cell BK105.out 3).trans rfl, (blk_cell BK105.out 4).trans rfl, (blk_cell BK118.out 0).trans rfl, (blk_cell BK118.out 1).trans rfl, (blk_cell BK118.out 2).trans rfl, (blk_cell BK118.out 3).trans rfl, (blk_cell BK118.out 4).trans rfl⟩ (fun hHeld => ?_); refine with_tabW impl_delays.tab14 impl_delays.bits14 (fun HT_ HW_ => ?_)
    generalize w87.drew = w88 at HO_3 BK105 BK118 HB hHeld ⊢
    refine pure_ (i := 2) (N := some 65) (v := ?_) (a' := ?_) #[false, false, true, false, false, false, false, false, false] rfl rfl (any_of HT_.out (by kernel_rfl)) (fun _ _ _ h => h) (Or.inl ⟨by rfl, ?_⟩) ?_ ?_
    rotate_left
    · intro w'
      go_simp
      with_reducible rfl
    rotate_left
    · simp only [Act.put, List.setIfInBounds_toArray, List.set_cons_zero, List.set_cons_succ, i64_w, i32_w]
      rfl
    refine take_ (i := 0) (N := some 63) (v := ?_) (a' := ?_) #[true, false, true, false, false, false, false, false, false] rfl rfl (take_ofW HT_.out HW_.out (by kernel_rfl)) (fun _ _ _ h => h) (Or.inl ⟨by rfl, ?_⟩) hHeld ?_ ?_
    rotate_left
    · rintro w' ⟨s0, s1, s2, s3, s4, s5, s6, s7, s8, s9⟩
      go_simp
      with_reducible rfl
    rotate_left
    · simp only [Act.put, List.setIfInBounds_toArray, List.set_cons_zero, List.set_cons_succ, i64_w, i32_w]
      rfl
    refine take_ (i := 3) (N := some 66) (v := ?_) (a' := ?_) #[true, false, true, true, false, false, false, false, false] rfl rfl (take_ofW HT_.out HW_.out (by kernel_rfl)) (fun _ _ _ h => h) (Or.inl ⟨by rfl, ?_⟩) hHeld ?_ ?_
    rotate_left
    · rintro w' ⟨s0, s1, s2, s3, s4, s5, s6, s7, s8, s9⟩
      go_simp
      with_reducible rfl
    rotate_left
    · simp only [Act.put, List.setIfInBounds_toArray, List.set_cons_zero, List.set_cons_succ, i64_w, i32_w]
      rfl
    refine one_ (i := 1) (N := some 64) #[true, true, true, true, false, false, false, false, false] rfl rfl (one_of HT_.out (by kernel_rfl)) (by decide) (fun K hK => ?_)
    refine goes_ Try.func85 (by kernel_rfl) rfl #[.agg #[.string ((rd_T57 l0 x14_1).f0), .int .i64 ((rd_T57 l0 x14_1).f1), .int .i64 ((rd_T57 l0 x14_1).f2), .int .i64 ((rd_T57 l0 x14_1).f3), .int .i64 ((rd_T57 l0 x14_1).f4)]] (by rfl) rfl rfl (by (try simp only [List.map_toArray, List.map_cons, List.map_nil]); first | done | rfl | (simp only [List.length_drop, List.length_take]; rfl)) ?_
    with_reducible refine (impl_Instr_reads.calls kj43 ((rd_T57 l0 x14_1).f0) ((rd_T57 l0 x14_1).f1) ((rd_T57 l0 x14_1).f2) ((rd_T57 l0 x14_1).f3) ((rd_T57 l0 x14_1).f4) t136 _ A61.out).mono ?_
    rintro e w89 ⟨v137, rfl, ho0, hb⟩
    refine ⟨_, rfl, ?_⟩
    have n0_ := Aside0.mk (Kd.S_elder' (by (with_reducible repeat (first | apply Kd.S_alloc | apply Kd.S_drewN | apply Kd.S_drew)); exact HO_3.out) (Kd.R_base ho0) hb)
    have n1_ := Aside0.mk (Kd.R_lower ho0 (below_size (by repeat (first | (with_reducible first | exact HB.out | apply below_alloc | apply pw_below_drewN | apply below_drew1 | refine below_set ?_ GE105.out | refine below_set ?_ GE118.out) | exact HB.out))))
    have n2_ := Aside0.mk (blk_below (g := gb105) (o := .cells #[.string ((rd_T57 l0 x14_1).f0), .int .i64 ((rd_T57 l0 x14_1).f1), .int .i64 ((rd_T57 l0 x14_1).f2), .int .i64 ((rd_T57 l0 x14_1).f3), .int .i64 ((rd_T57 l0 x14_1).f4)] 57 (0, 0)) (by (with_reducible repeat (first | refine blk_drewN ?_ _ | refine blk_drew ?_ | refine blk_alloc ?_ _)); exact BK105.out) hb)
    have n3_ := Aside0.mk (blk_below (g := gb118) (o := .cells #[.string ((rd_T57 y113 x29_2).f0), .int .i64 ((rd_T57 y113 x29_2).f1), .int .i64 ((rd_T57 y113 x29_2).f2), .int .i64 ((rd_T57 y113 x29_2).f3), .int .i64 ((rd_T57 y113 x29_2).f4)] 57 (0, 0)) (by (with_reducible repeat (first | refine blk_drewN ?_ _ | refine blk_drew ?_ | refine blk_alloc ?_ _)); exact BK118.out) hb)
    have n4_ := Aside0.mk (below_step (by repeat (first | (with_reducible first | exact HB.out | apply below_alloc | apply pw_below_drewN | apply below_drew1 | refine below_set ?_ GE105.out | refine below_set ?_ GE118.out) | exact HB.out)) hb)
    clear HO_3
    clear BK105
    clear BK118
    clear HB
    have HO_3 := n0_
    have HO138 := n1_
    have BK105 := n2_
    have BK118 := n3_
    have HB := n4_
    clear n0_ n1_ n2_ n3_ n4_
    (try clear hb)
    (try clear hb2)
    (try clear hk)
    (try clear hi)
    (try clear ho0)
    obtain ⟨Ao90, co90, eo90⟩ := Kd.R_slice HO138.out
    (first | subst eo90 | (injection eo90 with f1_ f2_ f3_; have f4_ := f1_.symm; have f5_ := f3_.symm; clear f1_ f2_ f3_; subst f4_; subst f5_))
    refine hK.out _ _ ⟨(blk_cell BK105.out 0).trans rfl, (blk_cell BK105.out 1).trans rfl, (blk_cell BK105.out 2).trans rfl, (blk_cell BK105.out 3).trans rfl, (blk_cell BK105.out 4).trans rfl, (blk_cell BK118.out 0).trans rfl, (blk_cell BK118.out 1).trans rfl, (blk_cell BK118.out 2).trans rfl, (blk_cell BK118.out 3).trans rfl, (blk_cell BK118.out 4).trans rfl⟩ (fun hHeld => ?_)
    clear hK K
    refine norm_ (a' := ?_) ?_ ?_
    rotate_left
    · show Act.put _ (some 64) _ = _
      simp only [Act.put, List.setIfInBounds_toArray, List.set_cons_zero, List.set_cons_succ, i64_w, i32_w]
      rfl
    refine one_ (i := 4) (N := some 67) #[true, true, true, true, true, false, false, false, false] rfl rfl (one_of HT_.out (by kernel_rfl)) (by decide) (fun K hK => ?_)
    refine goes_ Try.func82 (by kernel_rfl) rfl #[.slice Ao90 t136.length co90, .int .i64 ((rd_T57 y113 x29_2).f1)] (by rfl) rfl rfl (by (try simp only [List.map_toArray, List.map_cons, List.map_nil]); first | done | rfl | (simp only [List.length_drop, List.length_take]; rfl)) ?_
    with_reducible refine (slices_Contains_int_int.calls kj43 _ _ t136 ((rd_T57 y113 x29_2).f1) false _ ?side1 ?side2 A62.out).mono ?_
    (case side1 => repeat (first | exact (Kd.R_reads' HO138.out).2.2 | (with_reducible refine Kd.C_alloc ?_ _) | (with_reducible refine Kd.C_drewN ?_ _) | (with_reducible refine Kd.C_drew ?_)))
    (case side2 => exact (Kd.R_reads' HO138.out).2.1)
    rintro e w' ⟨rfl, ⟨nd, rfl⟩⟩
    refine ⟨_, rfl, ?_⟩
    refine hK.out _ _ ⟨(blk_cell BK105.out 0).trans rfl, (blk_cell BK105.out 1).trans rfl, (blk_cell BK105.out 2).trans rfl, (blk_cell BK105.out 3).trans rfl, (blk_cell BK105.out 4).trans rfl, (blk_cell BK118.out 0).trans rfl, (blk_cell BK118.out 1).trans rfl, (blk_cell BK118.out 2).trans rfl, (blk_cell BK118.out 3).trans rfl, (blk_cell BK118.out 4).trans rfl⟩ (fun hHeld => ?_)
    clear hK K
    refine norm_ (a' := ?_) ?_ ?_
    rotate_left
    · show Act.put _ (some 67) _ = _
      simp only [Act.put, List.setIfInBounds_toArray, List.set_cons_zero, List.set_cons_succ, i64_w, i32_w]
      rfl
    refine pure_ (i := 5) (N := some 68) (v := ?_) (a' := ?_) #[true, true, true, true, true, true, false, false, false] rfl rfl (any_of HT_.out (by kernel_rfl)) (fun _ _ _ h => h) (Or.inl ⟨by rfl, ?_⟩) ?_ ?_
    rotate_left
    · intro w'
      go_simp
      with_reducible rfl
    rotate_left
    · simp only [Act.put, List.setIfInBounds_toArray, List.set_cons_zero, List.set_cons_succ, i64_w, i32_w]
      rfl
    refine pure_ (i := 6) (N := some 69) (v := undef) (a' := ?_) #[true, true, true, true, true, true, true, false, false] rfl rfl (any_of HT_.out (by kernel_rfl)) (fun _ _ _ h => h) (Or.inr ⟨by rfl, rfl⟩) ?_ ?_
    rotate_left
    · simp only [Act.put, List.setIfInBounds_toArray, List.set_cons_zero, List.set_cons_succ, i64_w, i32_w]
      rfl
    refine pure_ (i := 7) (N := some 70) (v := undef) (a' := ?_) #[true, true, true, true, true, true, true, true, false] rfl rfl (any_of HT_.out (by kernel_rfl)) (fun _ _ _ h => h) (Or.inr ⟨by rfl, rfl⟩) ?_ ?_
    rotate_left
    · simp only [Act.put, List.setIfInBounds_toArray, List.set_cons_zero, List.set_cons_succ, i64_w, i32_w]
      rfl
    refine pure_ (i := 8) (N := some 71) (v := ?_) (a' := ?_) #[true, true, true, true, true, true, true, true, true] rfl rfl (any_of HT_.out (by kernel_rfl)) (fun _ _ _ h => h) (Or.inl ⟨by rfl, ?_⟩) ?_ ?_
    rotate_left
    · intro w'
      go_simp
      with_reducible rfl
    rotate_left
    · simp only [Act.put, List.setIfInBounds_toArray, List.set_cons_zero, List.set_cons_succ, i64_w, i32_w]
      rfl
    refine done_ (done_of HT_.out (by kernel_rfl)) ?_
    (try (rw [drewN_self w89]; generalize hq_ : World.drewN w89 _ = w89; have n0_ := Aside0.mk (Kd.S_at hq_ HO_3.out); have n1_ := Aside0.mk (Kd.R_at hq_ HO138.out); have n2_ := Aside0.mk (blk_at hq_ BK105.out); have n3_ := Aside0.mk (blk_at hq_ BK118.out); have n4_ := Aside0.mk (below_at hq_ HB.out); clear hq_ HO_3 HO138 BK105 BK118 HB; have HO_3 := n0_; have HO138 := n1_; have BK105 := n2_; have BK118 := n3_; have HB := n4_; clear n0_ n1_ n2_ n3_ n4_))
    try go_wp2
    (try simp only [← hl3_2, ← hl3_28, ← hl3_43])
    go_roundg kj43
    case measure => have := HK1.out; have := HK2.out; have := HJ28.out; have := HJ43.out; omega
    case rel => exact ⟨(x3_43), (ji56), (by first | rfl | (simp; done) | (simp only [← hji56] <;> (first | rfl | simp)) | (simp [*]; done)), H', ⟨by have := HK1.out; have := HK2.out; have := HJ28.out; have := HJ43.out; omega⟩, ⟨by (try simp only [hl3_2]); (try simp only [hl3_28]); (try simp only [hl3_43]); (with_reducible repeat (first | apply Kd.S_alloc | apply Kd.S_drewN | apply Kd.S_drew)); exact Kd.S_mono HO_3.out (fun _ hk => trivial)⟩, ⟨by (try simp only [hl3_2]); (try simp only [hl3_28]); (try simp only [hl3_43]); (with_reducible repeat (first | refine blk_drewN ?_ _ | refine blk_drew ?_ | refine blk_alloc ?_ _)); exact BK105.out⟩, ⟨by repeat (first | (with_reducible first | exact HB.out | apply below_alloc | apply pw_below_drewN | apply below_drew1 | refine below_set ?_ GE105.out | refine below_set ?_ GE118.out) | exact HB.out)⟩⟩
  subst c63
  have H1 : (if t135 = true then (impl_delays.l1 kj43 l0 x3_43 x14_1 l0 (l0.length : Int) x14_1 y113 (y113.length : Int) ji56 ((rd_T57 l0 x14_1).f0) ((rd_T57 l0 x14_1).f1) ((rd_T57 l0 x14_1).f2) ((rd_T57 l0 x14_1).f3) ((rd_T57 l0 x14_1).f4)) else (if 0 ≤ x14_1 then (if x14_1 < (x3_43.length : Int) then (if 0 ≤ x29_2 then (if x29_2 < ((rd_L4 x3_43 x14_1).length : Int) then ((impl_Instr_cost.f ((rd_T57 y113 x29_2).f0) ((rd_T57 y113 x29_2).f1) ((rd_T57 y113 x29_2).f2) ((rd_T57 y113 x29_2).f3) ((rd_T57 y113 x29_2).f4)).bind fun t143 => (impl_delays.l1 kj43 l0 (x3_43.set (x14_1 : Int).toNat ((rd_L4 x3_43 x14_1).set (x29_2 : Int).toNat (mx (rd (rd_L4 x3_43 x14_1) x29_2) t143))) x14_1 l0 (l0.length : Int) x14_1 y113 (y113.length : Int) ji56 ((rd_T57 l0 x14_1).f0) ((rd_T57 l0 x14_1).f1) ((rd_T57 l0 x14_1).f2) ((rd_T57 l0 x14_1).f3) ((rd_T57 l0 x14_1).f4))) else (none)) else (none)) else (none)) else (none))) = some r := by rw [if_pos rfl] at H; exact H
  clear H
  have H := H1
  clear H1
  by_cases c64 : t135 = true
  · subst c64
    have H1 : (impl_delays.l1 kj43 l0 x3_43 x14_1 l0 (l0.length : Int) x14_1 y113 (y113.length : Int) ji56 ((rd_T57 l0 x14_1).f0) ((rd_T57 l0 x14_1).f1) ((rd_T57 l0 x14_1).f2) ((rd_T57 l0 x14_1).f3) ((rd_T57 l0 x14_1).f4)) = some r := by rw [if_pos rfl] at H; exact H
    clear H
    have H := H1
    clear H1
    have H' := Aside0.mk H
    clear H
    have q65 : (x14_1 : Int) ≤ ((l0.length : Int) : Int) := of_decide_eq_true (by first | (with_reducible assumption) | assumption)
    obtain ⟨i065, hi065, _, hsz65, _⟩ := info_parts info57
    have hroom65 : l0.length ≤ c0 := HC0.out
    have hC65 : Kd.C k57 _ (some ad104) l0.length l0 := HR0.out
    have ql65 : ((ji56) : Int) ≤ (x14_1 : Int) := of_decide_eq_true (by first | (with_reducible assumption) | assumption)
    have q065 : (0 : Int) ≤ ((ji56) : Int) := of_decide_eq_true (by first | (with_reducible assumption) | assumption)
    have hcut65 := cut_mid (P := Try.prog) 27 57 .i64 .i64 Try.underlying27 hi065 5 hsz65 (some ad104) l0.length c0 (ji56) x14_1 q065 ql65 q65 hroom65
    have hr65 := Kd.C_mid (lo := ((ji56) : Int).toNat) (hi := (x14_1 : Int).toNat) (c := c0) hC65 (by omega) (by omega) hroom65
    obtain ⟨A65, hA65⟩ : ∃ A1, A1 = (if c0 = ((ji56) : Int).toNat then (some ad104) else ((some ad104) : Option Addr).map (·.add (((ji56) : Int).toNat * 5))) := ⟨_, rfl⟩
    obtain ⟨c65, hc65⟩ : ∃ c1, c1 = c0 - ((ji56) : Int).toNat := ⟨_, rfl⟩
    have hy65 : y131.length = (x14_1 : Int).toNat - ((ji56) : Int).toNat := (by rw [Ny131.out, List.length_drop, List.length_take] <;> omega)
    rw [show ((l0).take (x14_1 : Int).toNat).drop ((ji56) : Int).toNat = y131 from Ny131.out.symm] at hr65
    replace hr65 : Kd.C k57 _ A65 y131.length y131 := (by rw [hA65]; exact hr65)
    rw [← hy65, ← hA65, ← hc65] at hcut65
    have HR134 := Aside0.mk hr65
    have HC134 := Aside0.mk (show y131.length ≤ c65 from by rw [hy65, hc65]; exact Nat.sub_le_sub_right (Nat.le_trans (by omega) hroom65) _)
    clear hr65 hC65 hroom65 hi065 hsz65 hc65
    have KY65 := Aside0.mk hy65
    have KA65 := Aside0.mk hA65
    clear hy65 hA65
    replace q65 := eq_true q65
    try go_wp2_with (first | ((with_reducible refine gate_callee (f := 86) rfl ?_); refine goesL_ (some 62) rfl rfl Try.func86 (by kernel_rfl) rfl #[.slice A65 y131.length c65, .func (Fn.func 87) #[] #[.pointer (some ⟨gb118, 0, none⟩)]] rfl (by (try simp only [List.map_toArray, List.map_cons, List.map_nil]); first | done | rfl | (simp only [List.length_drop, List.length_take]; rfl)) ?_; (with_reducible refine (slices_ContainsFunc_impl_delays_1.calls kj43 _ _ y131 _ 1 [(⟨((rd_T57 y113 x29_2).f0), ((rd_T57 y113 x29_2).f1), ((rd_T57 y113 x29_2).f2), ((rd_T57 y113 x29_2).f3), ((rd_T57 y113 x29_2).f4)⟩ : S57)] true _ ?side1 ?side2 ?side3 ?side4 A60.out).mono ?_); (case side1 => repeat (first | exact (Kd.C_below HR134.out HB.out) | (with_reducible refine Kd.C_alloc ?_ _) | (with_reducible refine Kd.C_drewN ?_ _) | (with_reducible refine Kd.C_drew ?_))); (case side2 => exact HC134.out); (case side3 => exact box_C (g := gb118) (o := .cells #[.string ((rd_T57 y113 x29_2).f0), .int .i64 ((rd_T57 y113 x29_2).f1), .int .i64 ((rd_T57 y113 x29_2).f2), .int .i64 ((rd_T57 y113 x29_2).f3), .int .i64 ((rd_T57 y113 x29_2).f4)] 57 (0, 0)) (by (with_reducible repeat (first | refine blk_drewN ?_ _ | refine blk_drew ?_ | refine blk_alloc ?_ _)); exact BK118.out) rfl (k57.K_of_M (k57_mkM _ 0 (fun _ => True) _))); (case side4 => exact Nat.le_refl _); rintro e w66 ⟨rfl, hb⟩; refine ⟨_, rfl, ?_⟩; have n0_ := Aside0.mk (Kd.S_below (by (with_reducible repeat (first | apply Kd.S_alloc | apply Kd.S_drewN | apply Kd.S_drew)); exact HO_3.out) hb); have n1_ := Aside0.mk (blk_below (g := gb105) (o := .cells #[.string ((rd_T57 l0 x14_1).f0), .int .i64 ((rd_T57 l0 x14_1).f1), .int .i64 ((rd_T57 l0 x14_1).f2), .int .i64 ((rd_T57 l0 x14_1).f3), .int .i64 ((rd_T57 l0 x14_1).f4)] 57 (0, 0)) (by (with_reducible repeat (first | refine blk_drewN ?_ _ | refine blk_drew ?_ | refine blk_alloc ?_ _)); exact BK105.out) hb); have n2_ := Aside0.mk (blk_below (g := gb118) (o := .cells #[.string ((rd_T57 y113 x29_2).f0), .int .i64 ((rd_T57 y113 x29_2).f1), .int .i64 ((rd_T57 y113 x29_2).f2), .int .i64 ((rd_T57 y113 x29_2).f3), .int .i64 ((rd_T57 y113 x29_2).f4)] 57 (0, 0)) (by (with_reducible repeat (first | refine blk_drewN ?_ _ | refine blk_drew ?_ | refine blk_alloc ?_ _)); exact BK118.out) hb); have n3_ := Aside0.mk (below_step (by repeat (first | (with_reducible first | exact HB.out | apply below_alloc | apply pw_below_drewN | apply below_drew1 | refine below_set ?_ GE105.out | refine below_set ?_ GE118.out) | exact HB.out)) hb); clear HO_3; clear BK105; clear BK118; clear HB; have HO_3 := n0_; have BK105 := n1_; have BK118 := n2_; have HB := n3_; clear n0_ n1_ n2_ n3_; (try clear hb); (try clear hb2); (try clear hk); (try clear hi)))
    have n0_ := Aside0.mk (Kd.S_drew HO_3.out)
    have n1_ := Aside0.mk (blk_drew BK105.out)
    have n2_ := Aside0.mk (blk_drew BK118.out)
    have n3_ := Aside0.mk (below_drew1 HB.out)
    clear HO_3
    clear BK105
    clear BK118
    clear HB
    have HO_3 := n0_
    have BK105 := n1_
    have BK118 := n2_
    have HB := n3_
    clear n0_ n1_ n2_ n3_
    refine start_ (n := 9) (S := fun w' => w'.cell? ⟨gb105, 0, none⟩ = some (.string ((rd_T57 l0 x14_1).f0)) ∧ w'.cell? ⟨gb105, 1, none⟩ = some (.int .i64 ((rd_T57 l0 x14_1).f1)) ∧ w'.cell? ⟨gb105, 2, none⟩ = some (.int .i64 ((rd_T57 l0 x14_1).f2)) ∧ w'.cell? ⟨gb105, 3, none⟩ = some (.int .i64 ((rd_T57 l0 x14_1).f3)) ∧ w'.cell? ⟨gb105, 4, none⟩ = some (.int .i64 ((rd_T57 l0 x14_1).f4)) ∧ w'.cell? ⟨gb118, 0, none⟩ = some (.string ((rd_T57 y113 x29_2).f0)) ∧ w'.cell? ⟨gb118, 1, none⟩ = some (.int .i64 ((rd_T57 y113 x29_2).f1)) ∧ w'.cell? ⟨gb118, 2, none⟩ = some (.int .i64 ((rd_T57 y113 x29_2).f2)) ∧ w'.cell? ⟨gb118, 3, none⟩ = some (.int .i64 ((rd_T57 y113 x29_2).f3)) ∧ w'.cell? ⟨gb118, 4, none⟩ = some (.int .i64 ((rd_T57 y113 x29_2).f4))) (ds := []) #[false, false, false, false, false, false, false, false, false] (by kernel_rfl) rfl rfl ⟨(blk_cell BK105.out 0).trans rfl, (blk_cell BK105.out 1).trans rfl, (blk_cell BK105.out 2).trans rfl, (blk_cell BK105.out 3).trans rfl, (blk_cell BK105.out 4).trans rfl, (blk_cell BK118.out 0).trans rfl, (blk_cell BK118.out 1).trans rfl, (blk_cell BK118.out 2).trans rfl, (blk_cell BK118.out 3).trans rfl, (blk_cell BK118.out 4).trans rfl⟩ (fun hHeld => ?_); refine with_tabW impl_delays.tab14 impl_delays.bits14 (fun HT_ HW_ => ?_)
    generalize w66.drew = w67 at HO_3 BK105 BK118 HB hHeld ⊢
    refine pure_ (i := 2) (N := some 65) (v := ?_) (a' := ?_) #[false, false, true, false, false, false, false, false, false] rfl rfl (any_of HT_.out (by kernel_rfl)) (fun _ _ _ h => h) (Or.inl ⟨by rfl, ?_⟩) ?_ ?_
    rotate_left
    · intro w'
      go_simp
      with_reducible rfl
    rotate_left
    · simp only [Act.put, List.setIfInBounds_toArray, List.set_cons_zero, List.set_cons_succ, i64_w, i32_w]
      rfl
    refine take_ (i := 0) (N := some 63) (v := ?_) (a' := ?_) #[true, false, true, false, false, false, false, false, false] rfl rfl (take_ofW HT_.out HW_.out (by kernel_rfl)) (fun _ _ _ h => h) (Or.inl ⟨by rfl, ?_⟩) hHeld ?_ ?_
    rotate_left
    · rintro w' ⟨s0, s1, s2, s3, s4, s5, s6, s7, s8, s9⟩
      go_simp
      with_reducible rfl
    rotate_left
    · simp only [Act.put, List.setIfInBounds_toArray, List.set_cons_zero, List.set_cons_succ, i64_w, i32_w]
      rfl
    refine take_ (i := 3) (N := some 66) (v := ?_) (a' := ?_) #[true, false, true, true, false, false, false, false, false] rfl rfl (take_ofW HT_.out HW_.out (by kernel_rfl)) (fun _ _ _ h => h) (Or.inl ⟨by rfl, ?_⟩) hHeld ?_ ?_
    rotate_left
    · rintro w' ⟨s0, s1, s2, s3, s4, s5, s6, s7, s8, s9⟩
      go_simp
      with_reducible rfl
    rotate_left
    · simp only [Act.put, List.setIfInBounds_toArray, List.set_cons_zero, List.set_cons_succ, i64_w, i32_w]
      rfl
    refine one_ (i := 1) (N := some 64) #[true, true, true, true, false, false, false, false, false] rfl rfl (one_of HT_.out (by kernel_rfl)) (by decide) (fun K hK => ?_)
    refine goes_ Try.func85 (by kernel_rfl) rfl #[.agg #[.string ((rd_T57 l0 x14_1).f0), .int .i64 ((rd_T57 l0 x14_1).f1), .int .i64 ((rd_T57 l0 x14_1).f2), .int .i64 ((rd_T57 l0 x14_1).f3), .int .i64 ((rd_T57 l0 x14_1).f4)]] (by rfl) rfl rfl (by (try simp only [List.map_toArray, List.map_cons, List.map_nil]); first | done | rfl | (simp only [List.length_drop, List.length_take]; rfl)) ?_
    with_reducible refine (impl_Instr_reads.calls kj43 ((rd_T57 l0 x14_1).f0) ((rd_T57 l0 x14_1).f1) ((rd_T57 l0 x14_1).f2) ((rd_T57 l0 x14_1).f3) ((rd_T57 l0 x14_1).f4) t136 _ A61.out).mono ?_
    rintro e w68 ⟨v137, rfl, ho0, hb⟩
    refine ⟨_, rfl, ?_⟩
    have n0_ := Aside0.mk (Kd.S_elder' (by (with_reducible repeat (first | apply Kd.S_alloc | apply Kd.S_drewN | apply Kd.S_drew)); exact HO_3.out) (Kd.R_base ho0) hb)
    have n1_ := Aside0.mk (Kd.R_lower ho0 (below_size (by repeat (first | (with_reducible first | exact HB.out | apply below_alloc | apply pw_below_drewN | apply below_drew1 | refine below_set ?_ GE105.out | refine below_set ?_ GE118.out) | exact HB.out))))
    have n2_ := Aside0.mk (blk_below (g := gb105) (o := .cells #[.string ((rd_T57 l0 x14_1).f0), .int .i64 ((rd_T57 l0 x14_1).f1), .int .i64 ((rd_T57 l0 x14_1).f2), .int .i64 ((rd_T57 l0 x14_1).f3), .int .i64 ((rd_T57 l0 x14_1).f4)] 57 (0, 0)) (by (with_reducible repeat (first | refine blk_drewN ?_ _ | refine blk_drew ?_ | refine blk_alloc ?_ _)); exact BK105.out) hb)
    have n3_ := Aside0.mk (blk_below (g := gb118) (o := .cells #[.string ((rd_T57 y113 x29_2).f0), .int .i64 ((rd_T57 y113 x29_2).f1), .int .i64 ((rd_T57 y113 x29_2).f2), .int .i64 ((rd_T57 y113 x29_2).f3), .int .i64 ((rd_T57 y113 x29_2).f4)] 57 (0, 0)) (by (with_reducible repeat (first | refine blk_drewN ?_ _ | refine blk_drew ?_ | refine blk_alloc ?_ _)); exact BK118.out) hb)
    have n4_ := Aside0.mk (below_step (by repeat (first | (with_reducible first | exact HB.out | apply below_alloc | apply pw_below_drewN | apply below_drew1 | refine below_set ?_ GE105.out | refine below_set ?_ GE118.out) | exact HB.out)) hb)
    clear HO_3
    clear BK105
    clear BK118
    clear HB
    have HO_3 := n0_
    have HO138 := n1_
    have BK105 := n2_
    have BK118 := n3_
    have HB := n4_
    clear n0_ n1_ n2_ n3_ n4_
    (try clear hb)
    (try clear hb2)
    (try clear hk)
    (try clear hi)
    (try clear ho0)
    obtain ⟨Ao69, co69, eo69⟩ := Kd.R_slice HO138.out
    (first | subst eo69 | (injection eo69 with f1_ f2_ f3_; have f4_ := f1_.symm; have f5_ := f3_.symm; clear f1_ f2_ f3_; subst f4_; subst f5_))
    refine hK.out _ _ ⟨(blk_cell BK105.out 0).trans rfl, (blk_cell BK105.out 1).trans rfl, (blk_cell BK105.out 2).trans rfl, (blk_cell BK105.out 3).trans rfl, (blk_cell BK105.out 4).trans rfl, (blk_cell BK118.out 0).trans rfl, (blk_cell BK118.out 1).trans rfl, (blk_cell BK118.out 2).trans rfl, (blk_cell BK118.out 3).trans rfl, (blk_cell BK118.out 4).trans rfl⟩ (fun hHeld => ?_)
    clear hK K
    refine norm_ (a' := ?_) ?_ ?_
    rotate_left
    · show Act.put _ (some 64) _ = _
      simp only [Act.put, List.setIfInBounds_toArray, List.set_cons_zero, List.set_cons_succ, i64_w, i32_w]
      rfl
    refine one_ (i := 4) (N := some 67) #[true, true, true, true, true, false, false, false, false] rfl rfl (one_of HT_.out (by kernel_rfl)) (by decide) (fun K hK => ?_)
    refine goes_ Try.func82 (by kernel_rfl) rfl #[.slice Ao69 t136.length co69, .int .i64 ((rd_T57 y113 x29_2).f1)] (by rfl) rfl rfl (by (try simp only [List.map_toArray, List.map_cons, List.map_nil]); first | done | rfl | (simp only [List.length_drop, List.length_take]; rfl)) ?_
    with_reducible refine (slices_Contains_int_int.calls kj43 _ _ t136 ((rd_T57 y113 x29_2).f1) true _ ?side1 ?side2 A62.out).mono ?_
    (case side1 => repeat (first | exact (Kd.R_reads' HO138.out).2.2 | (with_reducible refine Kd.C_alloc ?_ _) | (with_reducible refine Kd.C_drewN ?_ _) | (with_reducible refine Kd.C_drew ?_)))
    (case side2 => exact (Kd.R_reads' HO138.out).2.1)
    rintro e w' ⟨rfl, ⟨nd, rfl⟩⟩
    refine ⟨_, rfl, ?_⟩
    refine hK.out _ _ ⟨(blk_cell BK105.out 0).trans rfl, (blk_cell BK105.out 1).trans rfl, (blk_cell BK105.out 2).trans rfl, (blk_cell BK105.out 3).trans rfl, (blk_cell BK105.out 4).trans rfl, (blk_cell BK118.out 0).trans rfl, (blk_cell BK118.out 1).trans rfl, (blk_cell BK118.out 2).trans rfl, (blk_cell BK118.out 3).trans rfl, (blk_cell BK118.out 4).trans rfl⟩ (fun hHeld => ?_)
    clear hK K
    refine norm_ (a' := ?_) ?_ ?_
    rotate_left
    · show Act.put _ (some 67) _ = _
      simp only [Act.put, List.setIfInBounds_toArray, List.set_cons_zero, List.set_cons_succ, i64_w, i32_w]
      rfl
    refine pure_ (i := 5) (N := some 68) (v := ?_) (a' := ?_) #[true, true, true, true, true, true, false, false, false] rfl rfl (any_of HT_.out (by kernel_rfl)) (fun _ _ _ h => h) (Or.inl ⟨by rfl, ?_⟩) ?_ ?_
    rotate_left
    · intro w'
      go_simp
      with_reducible rfl
    rotate_left
    · simp only [Act.put, List.setIfInBounds_toArray, List.set_cons_zero, List.set_cons_succ, i64_w, i32_w]
      rfl
    refine pure_ (i := 6) (N := some 69) (v := ?_) (a' := ?_) #[true, true, true, true, true, true, true, false, false] rfl rfl (any_of HT_.out (by kernel_rfl)) (fun _ _ _ h => h) (Or.inl ⟨by rfl, ?_⟩) ?_ ?_
    rotate_left
    · intro w'
      go_simp
      with_reducible rfl
    rotate_left
    · simp only [Act.put, List.setIfInBounds_toArray, List.set_cons_zero, List.set_cons_succ, i64_w, i32_w]
      rfl
    refine pure_ (i := 7) (N := some 70) (v := ?_) (a' := ?_) #[true, true, true, true, true, true, true, true, false] rfl rfl (any_of HT_.out (by kernel_rfl)) (fun _ _ _ h => h) (Or.inl ⟨by rfl, ?_⟩) ?_ ?_
    rotate_left
    · intro w'
      go_simp
      with_reducible rfl
    rotate_left
    · simp only [Act.put, List.setIfInBounds_toArray, List.set_cons_zero, List.set_cons_succ, i64_w, i32_w]
      rfl
    refine pure_ (i := 8) (N := some 71) (v := ?_) (a' := ?_) #[true, true, true, true, true, true, true, true, true] rfl rfl (any_of HT_.out (by kernel_rfl)) (fun _ _ _ h => h) (Or.inl ⟨by rfl, ?_⟩) ?_ ?_
    rotate_left
    · intro w'
      go_simp
      with_reducible rfl
    rotate_left
    · simp only [Act.put, List.setIfInBounds_toArray, List.set_cons_zero, List.set_cons_succ, i64_w, i32_w]
      rfl
    refine done_ (done_of HT_.out (by kernel_rfl)) ?_
    (try (rw [drewN_self w68]; generalize hq_ : World.drewN w68 _ = w68; have n0_ := Aside0.mk (Kd.S_at hq_ HO_3.out); have n1_ := Aside0.mk (Kd.R_at hq_ HO138.out); have n2_ := Aside0.mk (blk_at hq_ BK105.out); have n3_ := Aside0.mk (blk_at hq_ BK118.out); have n4_ := Aside0.mk (below_at hq_ HB.out); clear hq_ HO_3 HO138 BK105 BK118 HB; have HO_3 := n0_; have HO138 := n1_; have BK105 := n2_; have BK118 := n3_; have HB := n4_; clear n0_ n1_ n2_ n3_ n4_))
    try go_wp2
    (try simp only [← hl3_2, ← hl3_28, ← hl3_43])
    go_roundg kj43
    case measure => have := HK1.out; have := HK2.out; have := HJ28.out; have := HJ43.out; omega
    case rel => exact ⟨(x3_43), (ji56), (by first | rfl | (simp; done) | (simp only [← hji56] <;> (first | rfl | simp)) | (simp [*]; done)), H', ⟨by have := HK1.out; have := HK2.out; have := HJ28.out; have := HJ43.out; omega⟩, ⟨by (try simp only [hl3_2]); (try simp only [hl3_28]); (try simp only [hl3_43]); (with_reducible repeat (first | apply Kd.S_alloc | apply Kd.S_drewN | apply Kd.S_drew)); exact Kd.S_mono HO_3.out (fun _ hk => trivial)⟩, ⟨by (try simp only [hl3_2]); (try simp only [hl3_28]); (try simp only [hl3_43]); (with_reducible repeat (first | refine blk_drewN ?_ _ | refine blk_drew ?_ | refine blk_alloc ?_ _)); exact BK105.out⟩, ⟨by repeat (first | (with_reducible first | exact HB.out | apply below_alloc | apply pw_below_drewN | apply below_drew1 | refine below_set ?_ GE105.out | refine below_set ?_ GE118.out) | exact HB.out)⟩⟩
  replace c64 := Bool.eq_false_iff.mpr c64
  subst c64
  have H1 : (if 0 ≤ x14_1 then (if x14_1 < (x3_43.length : Int) then (if 0 ≤ x29_2 then (if x29_2 < ((rd_L4 x3_43 x14_1).length : Int) then ((impl_Instr_cost.f ((rd_T57 y113 x29_2).f0) ((rd_T57 y113 x29_2).f1) ((rd_T57 y113 x29_2).f2) ((rd_T57 y113 x29_2).f3) ((rd_T57 y113 x29_2).f4)).bind fun t143 => (impl_delays.l1 kj43 l0 (x3_43.set (x14_1 : Int).toNat ((rd_L4 x3_43 x14_1).set (x29_2 : Int).toNat (mx (rd (rd_L4 x3_43 x14_1) x29_2) t143))) x14_1 l0 (l0.length : Int) x14_1 y113 (y113.length : Int) ji56 ((rd_T57 l0 x14_1).f0) ((rd_T57 l0 x14_1).f1) ((rd_T57 l0 x14_1).f2) ((rd_T57 l0 x14_1).f3) ((rd_T57 l0 x14_1).f4))) else (none)) else (none)) else (none)) else (none)) = some r := by rw [if_neg (show ¬ (false = true) by decide)] at H; exact H
  clear H
  have H := H1
  clear H1
  by_cases c70 : 0 ≤ x14_1
  rotate_left
  · rw [if_neg c70] at H
    exact absurd H (by simp)
  rw [if_pos c70] at H
  have c70b0 : decide (0 ≤ x14_1) = true := decide_eq_true c70
  clear c70
  by_cases c71 : x14_1 < (x3_43.length : Int)
  rotate_left
  · rw [if_neg c71] at H
    exact absurd H (by simp)
  rw [if_pos c71] at H
  have c71b0 : decide (x14_1 < (x3_43.length : Int)) = true := decide_eq_true c71
  clear c71
  by_cases c72 : 0 ≤ x29_2
  rotate_left
  · rw [if_neg c72] at H
    exact absurd H (by simp)
  rw [if_pos c72] at H
  have c72b0 : decide (0 ≤ x29_2) = true := decide_eq_true c72
  clear c72
  by_cases c73 : x29_2 < ((rd_L4 x3_43 x14_1).length : Int)
  rotate_left
  · rw [if_neg c73] at H
    exact absurd H (by simp)
  rw [if_pos c73] at H
  have c73b0 : decide (x29_2 < ((rd_L4 x3_43 x14_1).length : Int)) = true := decide_eq_true c73
  clear c73
  replace H := Option.bind_eq_some_iff.mp H
  obtain ⟨t143, A740, H⟩ := H
  replace H : (impl_delays.l1 kj43 l0 (x3_43.set (x14_1 : Int).toNat ((rd_L4 x3_43 x14_1).set (x29_2 : Int).toNat (mx (rd (rd_L4 x3_43 x14_1) x29_2) t143))) x14_1 l0 (l0.length : Int) x14_1 y113 (y113.length : Int) ji56 ((rd_T57 l0 x14_1).f0) ((rd_T57 l0 x14_1).f1) ((rd_T57 l0 x14_1).f2) ((rd_T57 l0 x14_1).f3) ((rd_T57 l0 x14_1).f4)) = some r := H
  have A74 := Aside0.mk A740
  clear A740
  obtain ⟨ji75, hji75⟩ : ∃ j_ : Int, (mx (rd (rd_L4 x3_43 x14_1) x29_2) t143) = j_ := ⟨_, rfl⟩
  replace H : (impl_delays.l1 kj43 l0 (x3_43.set (x14_1 : Int).toNat ((rd_L4 x3_43 x14_1).set (x29_2 : Int).toNat (ji75))) x14_1 l0 (l0.length : Int) x14_1 y113 (y113.length : Int) ji56 ((rd_T57 l0 x14_1).f0) ((rd_T57 l0 x14_1).f1) ((rd_T57 l0 x14_1).f2) ((rd_T57 l0 x14_1).f3) ((rd_T57 l0 x14_1).f4)) = some r := by first | (rw [hji75] at H; exact H) | (simp only [hji75] at H ⊢; exact H)
  (try rw [hji75] at A60)
  (try rw [hji75] at A61)
  (try rw [hji75] at A62)
  (try rw [hji75] at A74)
  have hji75_ : (if (rd (rd_L4 x3_43 x14_1) x29_2) < t143 then t143 else (rd (rd_L4 x3_43 x14_1) x29_2)) = ji75 := hji75
  obtain ⟨y144, hy144⟩ : ∃ y_ : List Int, y_ = ((rd_L4 x3_43 x14_1).set (x29_2 : Int).toNat (ji75)) := ⟨_, rfl⟩
  replace H : (impl_delays.l1 kj43 l0 (x3_43.set (x14_1 : Int).toNat y144) x14_1 l0 (l0.length : Int) x14_1 y113 (y113.length : Int) ji56 ((rd_T57 l0 x14_1).f0) ((rd_T57 l0 x14_1).f1) ((rd_T57 l0 x14_1).f2) ((rd_T57 l0 x14_1).f3) ((rd_T57 l0 x14_1).f4)) = some r := by first | (rw [hy144]; with_reducible exact H) | (have H2_ := (Option.bind_some _ _).symm.trans H; rw [hy144]; with_reducible exact H2_) | (have H2_ := (Option.bind_some _ _).symm.trans H; with_reducible exact H2_) | with_reducible exact H | (rw [hy144]; exact H) | exact H
  have Ny144 := Aside0.mk hy144
  clear hy144
  obtain ⟨y146, hy146⟩ : ∃ y_ : List (List Int), y_ = (x3_43.set (x14_1 : Int).toNat y144) := ⟨_, rfl⟩
  replace H : (impl_delays.l1 kj43 l0 y146 x14_1 l0 (l0.length : Int) x14_1 y113 (y113.length : Int) ji56 ((rd_T57 l0 x14_1).f0) ((rd_T57 l0 x14_1).f1) ((rd_T57 l0 x14_1).f2) ((rd_T57 l0 x14_1).f3) ((rd_T57 l0 x14_1).f4)) = some r := by first | (rw [hy146]; with_reducible exact H) | (have H2_ := (Option.bind_some _ _).symm.trans H; rw [hy146]; with_reducible exact H2_) | (have H2_ := (Option.bind_some _ _).symm.trans H; with_reducible exact H2_) | with_reducible exact H | (rw [hy146]; exact H) | exact H
  have Ny146 := Aside0.mk hy146
  clear hy146
  have H' := Aside0.mk H
  clear H
  have q77 : (x14_1 : Int) ≤ ((l0.length : Int) : Int) := of_decide_eq_true (by first | (with_reducible assumption) | assumption)
  obtain ⟨i077, hi077, _, hsz77, _⟩ := info_parts info57
  have hroom77 : l0.length ≤ c0 := HC0.out
  have hC77 : Kd.C k57 _ (some ad104) l0.length l0 := HR0.out
  have ql77 : ((ji56) : Int) ≤ (x14_1 : Int) := of_decide_eq_true (by first | (with_reducible assumption) | assumption)
  have q077 : (0 : Int) ≤ ((ji56) : Int) := of_decide_eq_true (by first | (with_reducible assumption) | assumption)
  have hcut77 := cut_mid (P := Try.prog) 27 57 .i64 .i64 Try.underlying27 hi077 5 hsz77 (some ad104) l0.length c0 (ji56) x14_1 q077 ql77 q77 hroom77
  have hr77 := Kd.C_mid (lo := ((ji56) : Int).toNat) (hi := (x14_1 : Int).toNat) (c := c0) hC77 (by omega) (by omega) hroom77
  obtain ⟨A77, hA77⟩ : ∃ A1, A1 = (if c0 = ((ji56) : Int).toNat then (some ad104) else ((some ad104) : Option Addr).map (·.add (((ji56) : Int).toNat * 5))) := ⟨_, rfl⟩
  obtain ⟨c77, hc77⟩ : ∃ c1, c1 = c0 - ((ji56) : Int).toNat := ⟨_, rfl⟩
  have hy77 : y131.length = (x14_1 : Int).toNat - ((ji56) : Int).toNat := (by rw [Ny131.out, List.length_drop, List.length_take] <;> omega)
  rw [show ((l0).take (x14_1 : Int).toNat).drop ((ji56) : Int).toNat = y131 from Ny131.out.symm] at hr77
  replace hr77 : Kd.C k57 _ A77 y131.length y131 := (by rw [hA77]; exact hr77)
  rw [← hy77, ← hA77, ← hc77] at hcut77
  have HR134 := Aside0.mk hr77
  have HC134 := Aside0.mk (show y131.length ≤ c77 from by rw [hy77, hc77]; exact Nat.sub_le_sub_right (Nat.le_trans (by omega) hroom77) _)
  clear hr77 hC77 hroom77 hi077 hsz77 hc77
  have KY77 := Aside0.mk hy77
  have KA77 := Aside0.mk hA77
  clear hy77 hA77
  replace q77 := eq_true q77
  try go_wp2_with (first | ((with_reducible refine gate_callee (f := 86) rfl ?_); refine goesL_ (some 62) rfl rfl Try.func86 (by kernel_rfl) rfl #[.slice A77 y131.length c77, .func (Fn.func 87) #[] #[.pointer (some ⟨gb118, 0, none⟩)]] rfl (by (try simp only [List.map_toArray, List.map_cons, List.map_nil]); first | done | rfl | (simp only [List.length_drop, List.length_take]; rfl)) ?_; (with_reducible refine (slices_ContainsFunc_impl_delays_1.calls kj43 _ _ y131 _ 1 [(⟨((rd_T57 y113 x29_2).f0), ((rd_T57 y113 x29_2).f1), ((rd_T57 y113 x29_2).f2), ((rd_T57 y113 x29_2).f3), ((rd_T57 y113 x29_2).f4)⟩ : S57)] false _ ?side1 ?side2 ?side3 ?side4 A60.out).mono ?_); (case side1 => repeat (first | exact (Kd.C_below HR134.out HB.out) | (with_reducible refine Kd.C_alloc ?_ _) | (with_reducible refine Kd.C_drewN ?_ _) | (with_reducible refine Kd.C_drew ?_))); (case side2 => exact HC134.out); (case side3 => exact box_C (g := gb118) (o := .cells #[.string ((rd_T57 y113 x29_2).f0), .int .i64 ((rd_T57 y113 x29_2).f1), .int .i64 ((rd_T57 y113 x29_2).f2), .int .i64 ((rd_T57 y113 x29_2).f3), .int .i64 ((rd_T57 y113 x29_2).f4)] 57 (0, 0)) (by (with_reducible repeat (first | refine blk_drewN ?_ _ | refine blk_drew ?_ | refine blk_alloc ?_ _)); exact BK118.out) rfl (k57.K_of_M (k57_mkM _ 0 (fun _ => True) _))); (case side4 => exact Nat.le_refl _); rintro e w78 ⟨rfl, hb⟩; refine ⟨_, rfl, ?_⟩; have n0_ := Aside0.mk (Kd.S_below (by (with_reducible repeat (first | apply Kd.S_alloc | apply Kd.S_drewN | apply Kd.S_drew)); exact HO_3.out) hb); have n1_ := Aside0.mk (blk_below (g := gb105) (o := .cells #[.string ((rd_T57 l0 x14_1).f0), .int .i64 ((rd_T57 l0 x14_1).f1), .int .i64 ((rd_T57 l0 x14_1).f2), .int .i64 ((rd_T57 l0 x14_1).f3), .int .i64 ((rd_T57 l0 x14_1).f4)] 57 (0, 0)) (by (with_reducible repeat (first | refine blk_drewN ?_ _ | refine blk_drew ?_ | refine blk_alloc ?_ _)); exact BK105.out) hb); have n2_ := Aside0.mk (blk_below (g := gb118) (o := .cells #[.string ((rd_T57 y113 x29_2).f0), .int .i64 ((rd_T57 y113 x29_2).f1), .int .i64 ((rd_T57 y113 x29_2).f2), .int .i64 ((rd_T57 y113 x29_2).f3), .int .i64 ((rd_T57 y113 x29_2).f4)] 57 (0, 0)) (by (with_reducible repeat (first | refine blk_drewN ?_ _ | refine blk_drew ?_ | refine blk_alloc ?_ _)); exact BK118.out) hb); have n3_ := Aside0.mk (below_step (by repeat (first | (with_reducible first | exact HB.out | apply below_alloc | apply pw_below_drewN | apply below_drew1 | refine below_set ?_ GE105.out | refine below_set ?_ GE118.out) | exact HB.out)) hb); clear HO_3; clear BK105; clear BK118; clear HB; have HO_3 := n0_; have BK105 := n1_; have BK118 := n2_; have HB := n3_; clear n0_ n1_ n2_ n3_; (try clear hb); (try clear hb2); (try clear hk); (try clear hi)))
  have n0_ := Aside0.mk (Kd.S_drew HO_3.out)
  have n1_ := Aside0.mk (blk_drew BK105.out)
  have n2_ := Aside0.mk (blk_drew BK118.out)
  have n3_ := Aside0.mk (below_drew1 HB.out)
  clear HO_3
  clear BK105
  clear BK118
  clear HB
  have HO_3 := n0_
  have BK105 := n1_
  have BK118 := n2_
  have HB := n3_
  clear n0_ n1_ n2_ n3_
  refine start_ (n := 9) (S := fun w' => w'.cell? ⟨gb105, 0, none⟩ = some (.string ((rd_T57 l0 x14_1).f0)) ∧ w'.cell? ⟨gb105, 1, none⟩ = some (.int .i64 ((rd_T57 l0 x14_1).f1)) ∧ w'.cell? ⟨gb105, 2, none⟩ = some (.int .i64 ((rd_T57 l0 x14_1).f2)) ∧ w'.cell? ⟨gb105, 3, none⟩ = some (.int .i64 ((rd_T57 l0 x14_1).f3)) ∧ w'.cell? ⟨gb105, 4, none⟩ = some (.int .i64 ((rd_T57 l0 x14_1).f4)) ∧ w'.cell? ⟨gb118, 0, none⟩ = some (.string ((rd_T57 y113 x29_2).f0)) ∧ w'.cell? ⟨gb118, 1, none⟩ = some (.int .i64 ((rd_T57 y113 x29_2).f1)) ∧ w'.cell? ⟨gb118, 2, none⟩ = some (.int .i64 ((rd_T57 y113 x29_2).f2)) ∧ w'.cell? ⟨gb118, 3, none⟩ = some (.int .i64 ((rd_T57 y113 x29_2).f3)) ∧ w'.cell? ⟨gb118, 4, none⟩ = some (.int .i64 ((rd_T57 y113 x29_2).f4))) (ds := []) #[false, false, false, false, false, false, false, false, false] (by kernel_rfl) rfl rfl ⟨(blk_cell BK105.out 0).trans rfl, (blk_cell BK105.out 1).trans rfl, (blk_cell BK105.out 2).trans rfl, (blk_cell BK105.out 3).trans rfl, (blk_cell BK105.out 4).trans rfl, (blk_cell BK118.out 0).trans rfl, (blk_cell BK118.out 1).trans rfl, (blk_cell BK118.out 2).trans rfl, (blk_cell BK118.out 3).trans rfl, (blk_cell BK118.out 4).trans rfl⟩ (fun hHeld => ?_); refine with_tabW impl_delays.tab14 impl_delays.bits14 (fun HT_ HW_ => ?_)
  generalize w78.drew = w79 at HO_3 BK105 BK118 HB hHeld ⊢
  refine pure_ (i := 2) (N := some 65) (v := ?_) (a' := ?_) #[false, false, true, false, false, false, false, false, false] rfl rfl (any_of HT_.out (by kernel_rfl)) (fun _ _ _ h => h) (Or.inl ⟨by rfl, ?_⟩) ?_ ?_
  rotate_left
  · intro w'
    go_simp
    with_reducible rfl
  rotate_left
  · simp only [Act.put, List.setIfInBounds_toArray, List.set_cons_zero, List.set_cons_succ, i64_w, i32_w]
    rfl
  refine take_ (i := 0) (N := some 63) (v := ?_) (a' := ?_) #[true, false, true, false, false, false, false, false, false] rfl rfl (take_ofW HT_.out HW_.out (by kernel_rfl)) (fun _ _ _ h => h) (Or.inl ⟨by rfl, ?_⟩) hHeld ?_ ?_
  rotate_left
  · rintro w' ⟨s0, s1, s2, s3, s4, s5, s6, s7, s8, s9⟩
    go_simp
    with_reducible rfl
  rotate_left
  · simp only [Act.put, List.setIfInBounds_toArray, List.set_cons_zero, List.set_cons_succ, i64_w, i32_w]
    rfl
  refine take_ (i := 3) (N := some 66) (v := ?_) (a' := ?_) #[true, false, true, true, false, false, false, false, false] rfl rfl (take_ofW HT_.out HW_.out (by kernel_rfl)) (fun _ _ _ h => h) (Or.inl ⟨by rfl, ?_⟩) hHeld ?_ ?_
  rotate_left
  · rintro w' ⟨s0, s1, s2, s3, s4, s5, s6, s7, s8, s9⟩
    go_simp
    with_reducible rfl
  rotate_left
  · simp only [Act.put, List.setIfInBounds_toArray, List.set_cons_zero, List.set_cons_succ, i64_w, i32_w]
    rfl
  refine one_ (i := 1) (N := some 64) #[true, true, true, true, false, false, false, false, false] rfl rfl (one_of HT_.out (by kernel_rfl)) (by decide) (fun K hK => ?_)
  refine goes_ Try.func85 (by kernel_rfl) rfl #[.agg #[.string ((rd_T57 l0 x14_1).f0), .int .i64 ((rd_T57 l0 x14_1).f1), .int .i64 ((rd_T57 l0 x14_1).f2), .int .i64 ((rd_T57 l0 x14_1).f3), .int .i64 ((rd_T57 l0 x14_1).f4)]] (by rfl) rfl rfl (by (try simp only [List.map_toArray, List.map_cons, List.map_nil]); first | done | rfl | (simp only [List.length_drop, List.length_take]; rfl)) ?_
  with_reducible refine (impl_Instr_reads.calls kj43 ((rd_T57 l0 x14_1).f0) ((rd_T57 l0 x14_1).f1) ((rd_T57 l0 x14_1).f2) ((rd_T57 l0 x14_1).f3) ((rd_T57 l0 x14_1).f4) t136 _ A61.out).mono ?_
  rintro e w80 ⟨v137, rfl, ho0, hb⟩
  refine ⟨_, rfl, ?_⟩
  have n0_ := Aside0.mk (Kd.S_elder' (by (with_reducible repeat (first | apply Kd.S_alloc | apply Kd.S_drewN | apply Kd.S_drew)); exact HO_3.out) (Kd.R_base ho0) hb)
  have n1_ := Aside0.mk (Kd.R_lower ho0 (below_size (by repeat (first | (with_reducible first | exact HB.out | apply below_alloc | apply pw_below_drewN | apply below_drew1 | refine below_set ?_ GE105.out | refine below_set ?_ GE118.out) | exact HB.out))))
  have n2_ := Aside0.mk (blk_below (g := gb105) (o := .cells #[.string ((rd_T57 l0 x14_1).f0), .int .i64 ((rd_T57 l0 x14_1).f1), .int .i64 ((rd_T57 l0 x14_1).f2), .int .i64 ((rd_T57 l0 x14_1).f3), .int .i64 ((rd_T57 l0 x14_1).f4)] 57 (0, 0)) (by (with_reducible repeat (first | refine blk_drewN ?_ _ | refine blk_drew ?_ | refine blk_alloc ?_ _)); exact BK105.out) hb)
  have n3_ := Aside0.mk (blk_below (g := gb118) (o := .cells #[.string ((rd_T57 y113 x29_2).f0), .int .i64 ((rd_T57 y113 x29_2).f1), .int .i64 ((rd_T57 y113 x29_2).f2), .int .i64 ((rd_T57 y113 x29_2).f3), .int .i64 ((rd_T57 y113 x29_2).f4)] 57 (0, 0)) (by (with_reducible repeat (first | refine blk_drewN ?_ _ | refine blk_drew ?_ | refine blk_alloc ?_ _)); exact BK118.out) hb)
  have n4_ := Aside0.mk (below_step (by repeat (first | (with_reducible first | exact HB.out | apply below_alloc | apply pw_below_drewN | apply below_drew1 | refine below_set ?_ GE105.out | refine below_set ?_ GE118.out) | exact HB.out)) hb)
  clear HO_3
  clear BK105
  clear BK118
  clear HB
  have HO_3 := n0_
  have HO138 := n1_
  have BK105 := n2_
  have BK118 := n3_
  have HB := n4_
  clear n0_ n1_ n2_ n3_ n4_
  (try clear hb)
  (try clear hb2)
  (try clear hk)
  (try clear hi)
  (try clear ho0)
  obtain ⟨Ao81, co81, eo81⟩ := Kd.R_slice HO138.out
  (first | subst eo81 | (injection eo81 with f1_ f2_ f3_; have f4_ := f1_.symm; have f5_ := f3_.symm; clear f1_ f2_ f3_; subst f4_; subst f5_))
  refine hK.out _ _ ⟨(blk_cell BK105.out 0).trans rfl, (blk_cell BK105.out 1).trans rfl, (blk_cell BK105.out 2).trans rfl, (blk_cell BK105.out 3).trans rfl, (blk_cell BK105.out 4).trans rfl, (blk_cell BK118.out 0).trans rfl, (blk_cell BK118.out 1).trans rfl, (blk_cell BK118.out 2).trans rfl, (blk_cell BK118.out 3).trans rfl, (blk_cell BK118.out 4).trans rfl⟩ (fun hHeld => ?_)
  clear hK K
  refine norm_ (a' := ?_) ?_ ?_
  rotate_left
  · show Act.put _ (some 64) _ = _
    simp only [Act.put, List.setIfInBounds_toArray, List.set_cons_zero, List.set_cons_succ, i64_w, i32_w]
    rfl
  refine one_ (i := 4) (N := some 67) #[true, true, true, true, true, false, false, false, false] rfl rfl (one_of HT_.out (by kernel_rfl)) (by decide) (fun K hK => ?_)
  refine goes_ Try.func82 (by kernel_rfl) rfl #[.slice Ao81 t136.length co81, .int .i64 ((rd_T57 y113 x29_2).f1)] (by rfl) rfl rfl (by (try simp only [List.map_toArray, List.map_cons, List.map_nil]); first | done | rfl | (simp only [List.length_drop, List.length_take]; rfl)) ?_
  with_reducible refine (slices_Contains_int_int.calls kj43 _ _ t136 ((rd_T57 y113 x29_2).f1) true _ ?side1 ?side2 A62.out).mono ?_
  (case side1 => repeat (first | exact (Kd.R_reads' HO138.out).2.2 | (with_reducible refine Kd.C_alloc ?_ _) | (with_reducible refine Kd.C_drewN ?_ _) | (with_reducible refine Kd.C_drew ?_)))
  (case side2 => exact (Kd.R_reads' HO138.out).2.1)
  rintro e w' ⟨rfl, ⟨nd, rfl⟩⟩
  refine ⟨_, rfl, ?_⟩
  refine hK.out _ _ ⟨(blk_cell BK105.out 0).trans rfl, (blk_cell BK105.out 1).trans rfl, (blk_cell BK105.out 2).trans rfl, (blk_cell BK105.out 3).trans rfl, (blk_cell BK105.out 4).trans rfl, (blk_cell BK118.out 0).trans rfl, (blk_cell BK118.out 1).trans rfl, (blk_cell BK118.out 2).trans rfl, (blk_cell BK118.out 3).trans rfl, (blk_cell BK118.out 4).trans rfl⟩ (fun hHeld => ?_)
  clear hK K
  refine norm_ (a' := ?_) ?_ ?_
  rotate_left
  · show Act.put _ (some 67) _ = _
    simp only [Act.put, List.setIfInBounds_toArray, List.set_cons_zero, List.set_cons_succ, i64_w, i32_w]
    rfl
  refine pure_ (i := 5) (N := some 68) (v := ?_) (a' := ?_) #[true, true, true, true, true, true, false, false, false] rfl rfl (any_of HT_.out (by kernel_rfl)) (fun _ _ _ h => h) (Or.inl ⟨by rfl, ?_⟩) ?_ ?_
  rotate_left
  · intro w'
    go_simp
    with_reducible rfl
  rotate_left
  · simp only [Act.put, List.setIfInBounds_toArray, List.set_cons_zero, List.set_cons_succ, i64_w, i32_w]
    rfl
  refine pure_ (i := 6) (N := some 69) (v := ?_) (a' := ?_) #[true, true, true, true, true, true, true, false, false] rfl rfl (any_of HT_.out (by kernel_rfl)) (fun _ _ _ h => h) (Or.inl ⟨by rfl, ?_⟩) ?_ ?_
  rotate_left
  · intro w'
    go_simp
    with_reducible rfl
  rotate_left
  · simp only [Act.put, List.setIfInBounds_toArray, List.set_cons_zero, List.set_cons_succ, i64_w, i32_w]
    rfl
  refine pure_ (i := 7) (N := some 70) (v := ?_) (a' := ?_) #[true, true, true, true, true, true, true, true, false] rfl rfl (any_of HT_.out (by kernel_rfl)) (fun _ _ _ h => h) (Or.inl ⟨by rfl, ?_⟩) ?_ ?_
  rotate_left
  · intro w'
    go_simp
    with_reducible rfl
  rotate_left
  · simp only [Act.put, List.setIfInBounds_toArray, List.set_cons_zero, List.set_cons_succ, i64_w, i32_w]
    rfl
  refine pure_ (i := 8) (N := some 71) (v := ?_) (a' := ?_) #[true, true, true, true, true, true, true, true, true] rfl rfl (any_of HT_.out (by kernel_rfl)) (fun _ _ _ h => h) (Or.inl ⟨by rfl, ?_⟩) ?_ ?_
  rotate_left
  · intro w'
    go_simp
    with_reducible rfl
  rotate_left
  · simp only [Act.put, List.setIfInBounds_toArray, List.set_cons_zero, List.set_cons_succ, i64_w, i32_w]
    rfl
  refine done_ (done_of HT_.out (by kernel_rfl)) ?_
  (try (rw [drewN_self w80]; generalize hq_ : World.drewN w80 _ = w80; have n0_ := Aside0.mk (Kd.S_at hq_ HO_3.out); have n1_ := Aside0.mk (Kd.R_at hq_ HO138.out); have n2_ := Aside0.mk (blk_at hq_ BK105.out); have n3_ := Aside0.mk (blk_at hq_ BK118.out); have n4_ := Aside0.mk (below_at hq_ HB.out); clear hq_ HO_3 HO138 BK105 BK118 HB; have HO_3 := n0_; have HO138 := n1_; have BK105 := n2_; have BK118 := n3_; have HB := n4_; clear n0_ n1_ n2_ n3_ n4_))
  try go_wp2
  (try (rw [drewN_self w80]; generalize hq_ : World.drewN w80 _ = w80; have n0_ : Aside0 (Kd.R (Kd.int .i64) 3 w80 w.heap.size (fun _ => True) (.slice Ao81 t136.length co81) t136) := ⟨by rw [← hq_]; exact (by (with_reducible repeat (first | apply Kd.R_alloc | apply Kd.R_drewN | apply Kd.R_drew)); exact HO138.out)⟩; have n1_ : Aside0 (Kd.S (Kd.slice 3 (Kd.int .i64)) 34 w80 w.heap.size (fun k_ => some k_ ≠ (.slice Ao81 t136.length co81 : Value).ownBlock) (.slice (some ⟨go11, 0, none⟩) x3_43.length co11) x3_43) := ⟨by rw [← hq_]; exact (by (with_reducible repeat (first | apply Kd.S_alloc | apply Kd.S_drewN | apply Kd.S_drew)); exact Kd.S_mono HO_3.out (fun _ hk => hk.2))⟩; have n2_ : Aside0 (w80.heap[gb105]? = some (.cells #[.string ((rd_T57 l0 x14_1).f0), .int .i64 ((rd_T57 l0 x14_1).f1), .int .i64 ((rd_T57 l0 x14_1).f2), .int .i64 ((rd_T57 l0 x14_1).f3), .int .i64 ((rd_T57 l0 x14_1).f4)] 57 (0, 0))) := ⟨by rw [← hq_]; exact (by (with_reducible repeat (first | refine blk_drewN ?_ _ | refine blk_drew ?_ | refine blk_alloc ?_ _)); exact BK105.out)⟩; have n3_ : Aside0 (w80.heap[gb118]? = some (.cells #[.string ((rd_T57 y113 x29_2).f0), .int .i64 ((rd_T57 y113 x29_2).f1), .int .i64 ((rd_T57 y113 x29_2).f2), .int .i64 ((rd_T57 y113 x29_2).f3), .int .i64 ((rd_T57 y113 x29_2).f4)] 57 (0, 0))) := ⟨by rw [← hq_]; exact (by (with_reducible repeat (first | refine blk_drewN ?_ _ | refine blk_drew ?_ | refine blk_alloc ?_ _)); exact BK118.out)⟩; have n4_ : Aside0 (Below w.heap.size w w80) := ⟨by rw [← hq_]; exact (by repeat (first | (with_reducible first | exact HB.out | apply below_alloc | apply pw_below_drewN | apply below_drew1 | refine below_set ?_ GE105.out | refine below_set ?_ GE118.out) | exact HB.out))⟩; clear HO138 HO_3 BK105 BK118 HB hq_; have HO138 := n0_; have HO_3 := n1_; have BK105 := n2_; have BK118 := n3_; have HB := n4_; clear n0_ n1_ n2_ n3_ n4_))
  have n0_ := Aside0.mk (Kd.S_drew HO_3.out)
  have n1_ := Aside0.mk (Kd.R_drew HO138.out)
  have n2_ := Aside0.mk (blk_drew BK105.out)
  have n3_ := Aside0.mk (blk_drew BK118.out)
  have n4_ := Aside0.mk (below_drew1 HB.out)
  clear HO_3
  clear HO138
  clear BK105
  clear BK118
  clear HB
  have HO_3 := n0_
  have HO138 := n1_
  have BK105 := n2_
  have BK118 := n3_
  have HB := n4_
  clear n0_ n1_ n2_ n3_ n4_
  have p140 : 0 ≤ (x14_1 : Int) := of_decide_eq_true (by first | (with_reducible assumption) | assumption)
  have q140 : x14_1 < (x3_43.length : Int) := of_decide_eq_true (by first | (with_reducible assumption) | assumption)
  obtain ⟨ad140, A140_0, c140_0, e140, hx140_0, hl140_0, hi140_0⟩ := at_L4 (Kd.S_reads' HO_3.out).2.2 x14_1 p140 q140
  obtain rfl : (⟨go11, 0, none⟩ : Addr) = ad140 := (by injection e140)
  obtain ⟨ce140, hce140, hMe140, hcc140⟩ := Kd.S_get HO_3.out [] x14_1 p140 (by first | exact q140 | exact of_decide_eq_true (by first | (with_reducible assumption) | assumption) | (have e_ := (Kd.S_reads' HO_3.out).1; omega))
  obtain ⟨ve140_0, rfl, ge140_0⟩ := hMe140
  have hv140_0 := hcc140 0 _ rfl
  rw [Nat.add_zero, show ((Kd.slice 3 (Kd.int .i64))).sz = 1 from rfl, Nat.mul_one] at hv140_0
  replace hv140_0 := Option.some.inj (hv140_0.symm.trans hx140_0)
  rw [hv140_0] at ge140_0
  have HL140_0 := Aside0.mk (show Kd.R (Kd.int .i64) 3 _ _ _ _ (rd_L4 x3_43 x14_1) from ge140_0)
  clear hv140_0 ge140_0
  have HX140_0 := Aside0.mk hx140_0
  clear hcc140 hce140
  (first | simp only [add_plain] at hx140_0 | simp only [add_at] at hx140_0 | simp only [Addr.add, Nat.zero_add] at hx140_0 | skip)
  have HR140_0 := Aside0.mk hi140_0
  have HC140_0 := Aside0.mk hl140_0
  clear hi140_0 hl140_0
  replace p140 := eq_true p140
  replace q140 := eq_true q140
  have p141 : 0 ≤ (x14_1 : Int) := of_decide_eq_true (by first | (with_reducible assumption) | assumption)
  have q141 : x14_1 < (x3_43.length : Int) := of_decide_eq_true (by first | (with_reducible assumption) | assumption)
  obtain ⟨ad141, A141_0, c141_0, e141, hx141_0, hl141_0, hi141_0⟩ := at_L4 (Kd.S_reads' HO_3.out).2.2 x14_1 p141 q141
  obtain rfl : (⟨go11, 0, none⟩ : Addr) = ad141 := (by injection e141)
  obtain ⟨ce141, hce141, hMe141, hcc141⟩ := Kd.S_get HO_3.out [] x14_1 p141 (by first | exact q141 | exact of_decide_eq_true (by first | (with_reducible assumption) | assumption) | (have e_ := (Kd.S_reads' HO_3.out).1; omega))
  obtain ⟨ve141_0, rfl, ge141_0⟩ := hMe141
  have hv141_0 := hcc141 0 _ rfl
  rw [Nat.add_zero, show ((Kd.slice 3 (Kd.int .i64))).sz = 1 from rfl, Nat.mul_one] at hv141_0
  replace hv141_0 := Option.some.inj (hv141_0.symm.trans hx141_0)
  rw [hv141_0] at ge141_0
  have HL141_0 := Aside0.mk (show Kd.R (Kd.int .i64) 3 _ _ _ _ (rd_L4 x3_43 x14_1) from ge141_0)
  clear hv141_0 ge141_0
  have HX141_0 := Aside0.mk hx141_0
  clear hcc141 hce141
  (first | simp only [add_plain] at hx141_0 | simp only [add_at] at hx141_0 | simp only [Addr.add, Nat.zero_add] at hx141_0 | skip)
  have HR141_0 := Aside0.mk hi141_0
  have HC141_0 := Aside0.mk hl141_0
  clear hi141_0 hl141_0
  replace p141 := eq_true p141
  replace q141 := eq_true q141
  have ea_ := Option.some.inj (hx140_0.symm.trans hx141_0)
  injection ea_ with ea_ en_ ec_
  subst ea_
  subst ec_
  clear en_
  have p142 : 0 ≤ (x29_2 : Int) := of_decide_eq_true (by first | (with_reducible assumption) | assumption)
  have q142 : x29_2 < ((rd_L4 x3_43 x14_1).length : Int) := of_decide_eq_true (by first | (with_reducible assumption) | assumption)
  obtain ⟨ad142, e142, hx142_0⟩ := Kd.at_int (by repeat (first | (with_reducible exact HR141_0.out) | (with_reducible refine Kd.C_alloc ?_ _) | (with_reducible refine Kd.C_drewN ?_ _) | (with_reducible refine Kd.C_drew ?_) | exact HR141_0.out)) x29_2 p142 q142
  cases e142
  replace p142 := eq_true p142
  replace q142 := eq_true q142
  refine start_ (n := 17) (S := fun w' => w'.cell? ⟨gb118, 0, none⟩ = some (.string ((rd_T57 y113 x29_2).f0)) ∧ w'.cell? ⟨gb118, 1, none⟩ = some (.int .i64 ((rd_T57 y113 x29_2).f1)) ∧ w'.cell? ⟨gb118, 2, none⟩ = some (.int .i64 ((rd_T57 y113 x29_2).f2)) ∧ w'.cell? ⟨gb118, 3, none⟩ = some (.int .i64 ((rd_T57 y113 x29_2).f3)) ∧ w'.cell? ⟨gb118, 4, none⟩ = some (.int .i64 ((rd_T57 y113 x29_2).f4)) ∧ w'.cell? ⟨go11, (x14_1).toNat, none⟩ = some (.slice (some ad142) (rd_L4 x3_43 x14_1).length c140_0) ∧ w'.cell? ⟨go11, (x14_1).toNat, none⟩ = some (.slice (some ad142) (rd_L4 x3_43 x14_1).length c140_0) ∧ w'.cell? (ad142.add (x29_2).toNat) = some (.int .i64 (rd (rd_L4 x3_43 x14_1) x29_2))) (ds := [16]) #[false, false, false, false, false, false, false, false, false, false, false, false, false, false, false, false, false] (by kernel_rfl) rfl rfl ⟨(blk_cell BK118.out 0).trans rfl, (blk_cell BK118.out 1).trans rfl, (blk_cell BK118.out 2).trans rfl, (blk_cell BK118.out 3).trans rfl, (blk_cell BK118.out 4).trans rfl, hx140_0, hx141_0, hx142_0⟩ (fun hHeld => ?_); refine with_tabW impl_delays.tab15 impl_delays.bits15 (fun HT_ HW_ => ?_)
  generalize w80.drew = w82 at HO_3 HO138 BK105 BK118 HB HL140_0 HL141_0 HR140_0 HR141_0 HX140_0 HX141_0 hx140_0 hx141_0 hx142_0 hHeld ⊢
  refine pure_ (i := 0) (N := some 72) (v := ?_) (a' := ?_) #[true, false, false, false, false, false, false, false, false, false, false, false, false, false, false, false, false] rfl rfl (any_of HT_.out (by kernel_rfl)) (fun _ _ _ h => h) (Or.inl ⟨by rfl, ?_⟩) ?_ ?_
  rotate_left
  · intro w'
    go_simp
    with_reducible rfl
  rotate_left
  · simp only [Act.put, List.setIfInBounds_toArray, List.set_cons_zero, List.set_cons_succ, i64_w, i32_w]
    rfl
  refine pure_ (i := 1) (N := some 73) (v := ?_) (a' := ?_) #[true, true, false, false, false, false, false, false, false, false, false, false, false, false, false, false, false] rfl rfl (any_of HT_.out (by kernel_rfl)) (fun _ _ _ h => h) (Or.inl ⟨by rfl, ?_⟩) ?_ ?_
  rotate_left
  · intro w'
    go_simp
    with_reducible rfl
  rotate_left
  · simp only [Act.put, List.setIfInBounds_toArray, List.set_cons_zero, List.set_cons_succ, i64_w, i32_w]
    rfl
  refine pure_ (i := 2) (N := some 74) (v := ?_) (a' := ?_) #[true, true, true, false, false, false, false, false, false, false, false, false, false, false, false, false, false] rfl rfl (any_of HT_.out (by kernel_rfl)) (fun _ _ _ h => h) (Or.inl ⟨by rfl, ?_⟩) ?_ ?_
  rotate_left
  · intro w'
    go_simp
    with_reducible rfl
  rotate_left
  · simp only [Act.put, List.setIfInBounds_toArray, List.set_cons_zero, List.set_cons_succ, i64_w, i32_w]
    rfl
  refine pure_ (i := 4) (N := some 76) (v := ?_) (a' := ?_) #[true, true, true, false, true, false, false, false, false, false, false, false, false, false, false, false, false] rfl rfl (any_of HT_.out (by kernel_rfl)) (fun _ _ _ h => h) (Or.inl ⟨by rfl, ?_⟩) ?_ ?_
  rotate_left
  · intro w'
    go_simp
    with_reducible rfl
  rotate_left
  · simp only [Act.put, List.setIfInBounds_toArray, List.set_cons_zero, List.set_cons_succ, i64_w, i32_w]
    rfl
  refine pure_ (i := 5) (N := some 77) (v := ?_) (a' := ?_) #[true, true, true, false, true, true, false, false, false, false, false, false, false, false, false, false, false] rfl rfl (any_of HT_.out (by kernel_rfl)) (fun _ _ _ h => h) (Or.inl ⟨by rfl, ?_⟩) ?_ ?_
  rotate_left
  · intro w'
    go_simp
    with_reducible rfl
  rotate_left
  · simp only [Act.put, List.setIfInBounds_toArray, List.set_cons_zero, List.set_cons_succ, i64_w, i32_w]
    rfl
  refine pure_ (i := 6) (N := some 78) (v := ?_) (a' := ?_) #[true, true, true, false, true, true, true, false, false, false, false, false, false, false, false, false, false] rfl rfl (any_of HT_.out (by kernel_rfl)) (fun _ _ _ h => h) (Or.inl ⟨by rfl, ?_⟩) ?_ ?_
  rotate_left
  · intro w'
    go_simp
    with_reducible rfl
  rotate_left
  · simp only [Act.put, List.setIfInBounds_toArray, List.set_cons_zero, List.set_cons_succ, i64_w, i32_w]
    rfl
  refine pure_ (i := 7) (N := some 79) (v := ?_) (a' := ?_) #[true, true, true, false, true, true, true, true, false, false, false, false, false, false, false, false, false] rfl rfl (any_of HT_.out (by kernel_rfl)) (fun _ _ _ h => h) (Or.inl ⟨by rfl, ?_⟩) ?_ ?_
  rotate_left
  · intro w'
    go_simp
    with_reducible rfl
  rotate_left
  · simp only [Act.put, List.setIfInBounds_toArray, List.set_cons_zero, List.set_cons_succ, i64_w, i32_w]
    rfl
  refine pure_ (i := 9) (N := some 81) (v := ?_) (a' := ?_) #[true, true, true, false, true, true, true, true, false, true, false, false, false, false, false, false, false] rfl rfl (any_of HT_.out (by kernel_rfl)) (fun _ _ _ h => h) (Or.inl ⟨by rfl, ?_⟩) ?_ ?_
  rotate_left
  · intro w'
    go_simp
    with_reducible rfl
  rotate_left
  · simp only [Act.put, List.setIfInBounds_toArray, List.set_cons_zero, List.set_cons_succ, i64_w, i32_w]
    rfl
  refine take_ (i := 3) (N := some 75) (v := ?_) (a' := ?_) #[true, true, true, true, true, true, true, true, false, true, false, false, false, false, false, false, false] rfl rfl (take_ofW HT_.out HW_.out (by kernel_rfl)) (fun _ _ _ h => h) (Or.inl ⟨by rfl, ?_⟩) hHeld ?_ ?_
  rotate_left
  · rintro w' ⟨s0, s1, s2, s3, s4, s5, s6, s7⟩
    go_simp
    with_reducible rfl
  rotate_left
  · simp only [Act.put, List.setIfInBounds_toArray, List.set_cons_zero, List.set_cons_succ, i64_w, i32_w]
    rfl
  refine take_ (i := 8) (N := some 80) (v := ?_) (a' := ?_) #[true, true, true, true, true, true, true, true, true, true, false, false, false, false, false, false, false] rfl rfl (take_ofW HT_.out HW_.out (by kernel_rfl)) (fun _ _ _ h => h) (Or.inl ⟨by rfl, ?_⟩) hHeld ?_ ?_
  rotate_left
  · rintro w' ⟨s0, s1, s2, s3, s4, s5, s6, s7⟩
    go_simp
    with_reducible rfl
  rotate_left
  · simp only [Act.put, List.setIfInBounds_toArray, List.set_cons_zero, List.set_cons_succ, i64_w, i32_w]
    rfl
  refine pure_ (i := 10) (N := some 82) (v := ?_) (a' := ?_) #[true, true, true, true, true, true, true, true, true, true, true, false, false, false, false, false, false] rfl rfl (any_of HT_.out (by kernel_rfl)) (fun _ _ _ h => h) (Or.inl ⟨by rfl, ?_⟩) ?_ ?_
  rotate_left
  · intro w'
    go_simp
    with_reducible rfl
  rotate_left
  · simp only [Act.put, List.setIfInBounds_toArray, List.set_cons_zero, List.set_cons_succ, i64_w, i32_w]
    rfl
  refine take_ (i := 11) (N := some 83) (v := ?_) (a' := ?_) #[true, true, true, true, true, true, true, true, true, true, true, true, false, false, false, false, false] rfl rfl (take_ofW HT_.out HW_.out (by kernel_rfl)) (fun _ _ _ h => h) (Or.inl ⟨by rfl, ?_⟩) hHeld ?_ ?_
  rotate_left
  · rintro w' ⟨s0, s1, s2, s3, s4, s5, s6, s7⟩
    go_simp
    with_reducible rfl
  rotate_left
  · simp only [Act.put, List.setIfInBounds_toArray, List.set_cons_zero, List.set_cons_succ, i64_w, i32_w]
    rfl
  refine take_ (i := 12) (N := some 84) (v := ?_) (a' := ?_) #[true, true, true, true, true, true, true, true, true, true, true, true, true, false, false, false, false] rfl rfl (take_ofW HT_.out HW_.out (by kernel_rfl)) (fun _ _ _ h => h) (Or.inl ⟨by rfl, ?_⟩) hHeld ?_ ?_
  rotate_left
  · rintro w' ⟨s0, s1, s2, s3, s4, s5, s6, s7⟩
    go_simp
    with_reducible rfl
  rotate_left
  · simp only [Act.put, List.setIfInBounds_toArray, List.set_cons_zero, List.set_cons_succ, i64_w, i32_w]
    rfl
  refine one_ (i := 13) (N := some 85) #[true, true, true, true, true, true, true, true, true, true, true, true, true, true, false, false, false] rfl rfl (one_of HT_.out (by kernel_rfl)) (by decide) (fun K hK => ?_)
  refine goes_ Try.func66 (by kernel_rfl) rfl #[.agg #[.string ((rd_T57 y113 x29_2).f0), .int .i64 ((rd_T57 y113 x29_2).f1), .int .i64 ((rd_T57 y113 x29_2).f2), .int .i64 ((rd_T57 y113 x29_2).f3), .int .i64 ((rd_T57 y113 x29_2).f4)]] (by rfl) rfl rfl (by (try simp only [List.map_toArray, List.map_cons, List.map_nil]); first | done | rfl | (simp only [List.length_drop, List.length_take]; rfl)) ?_
  with_reducible refine (impl_Instr_cost.calls ((rd_T57 y113 x29_2).f0) ((rd_T57 y113 x29_2).f1) ((rd_T57 y113 x29_2).f2) ((rd_T57 y113 x29_2).f3) ((rd_T57 y113 x29_2).f4) t143 _ A74.out).mono ?_
  rintro e w83 ⟨rfl, hb⟩
  have HS5_ := (hb.cell (World.block_lt_of_cell? _ _ (hHeld.2.2.2.2.2.1))).trans (hHeld.2.2.2.2.2.1)
  have HS6_ := (hb.cell (World.block_lt_of_cell? _ _ (hHeld.2.2.2.2.2.2.1))).trans (hHeld.2.2.2.2.2.2.1)
  have HS7_ := (hb.cell (World.block_lt_of_cell? _ _ (hHeld.2.2.2.2.2.2.2))).trans (hHeld.2.2.2.2.2.2.2)
  refine ⟨_, rfl, ?_⟩
  have n0_ := Aside0.mk (Kd.S_below (by (with_reducible repeat (first | apply Kd.S_alloc | apply Kd.S_drewN | apply Kd.S_drew)); exact HO_3.out) hb)
  have n1_ := Aside0.mk (Kd.R_below (by (with_reducible repeat (first | apply Kd.R_alloc | apply Kd.R_drewN | apply Kd.R_drew)); exact HO138.out) hb)
  have n2_ := Aside0.mk (Kd.R_below (by (with_reducible repeat (first | apply Kd.R_alloc | apply Kd.R_drewN | apply Kd.R_drew)); exact HL140_0.out) hb)
  have n3_ := Aside0.mk (Kd.R_below (by (with_reducible repeat (first | apply Kd.R_alloc | apply Kd.R_drewN | apply Kd.R_drew)); exact HL141_0.out) hb)
  have n4_ := Aside0.mk (blk_below (g := gb105) (o := .cells #[.string ((rd_T57 l0 x14_1).f0), .int .i64 ((rd_T57 l0 x14_1).f1), .int .i64 ((rd_T57 l0 x14_1).f2), .int .i64 ((rd_T57 l0 x14_1).f3), .int .i64 ((rd_T57 l0 x14_1).f4)] 57 (0, 0)) (by (with_reducible repeat (first | refine blk_drewN ?_ _ | refine blk_drew ?_ | refine blk_alloc ?_ _)); exact BK105.out) hb)
  have n5_ := Aside0.mk (blk_below (g := gb118) (o := .cells #[.string ((rd_T57 y113 x29_2).f0), .int .i64 ((rd_T57 y113 x29_2).f1), .int .i64 ((rd_T57 y113 x29_2).f2), .int .i64 ((rd_T57 y113 x29_2).f3), .int .i64 ((rd_T57 y113 x29_2).f4)] 57 (0, 0)) (by (with_reducible repeat (first | refine blk_drewN ?_ _ | refine blk_drew ?_ | refine blk_alloc ?_ _)); exact BK118.out) hb)
  have n6_ := Aside0.mk (Kd.C_below (by repeat (first | (with_reducible exact HR140_0.out) | (with_reducible refine Kd.C_alloc ?_ _) | (with_reducible refine Kd.C_drewN ?_ _) | (with_reducible refine Kd.C_drew ?_) | exact HR140_0.out)) hb)
  have n7_ := Aside0.mk (pw_cell_below hb HX140_0.out)
  have n8_ := Aside0.mk (Kd.C_below (by repeat (first | (with_reducible exact HR141_0.out) | (with_reducible refine Kd.C_alloc ?_ _) | (with_reducible refine Kd.C_drewN ?_ _) | (with_reducible refine Kd.C_drew ?_) | exact HR141_0.out)) hb)
  have n9_ := Aside0.mk (pw_cell_below hb HX141_0.out)
  have n10_ := Aside0.mk (below_step (by repeat (first | (with_reducible first | exact HB.out | apply below_alloc | apply pw_below_drewN | apply below_drew1 | refine below_set ?_ GE105.out | refine below_set ?_ GE118.out) | exact HB.out)) hb)
  clear HO_3
  clear HO138
  clear HL140_0
  clear HL141_0
  clear BK105
  clear BK118
  clear HR140_0
  clear HX140_0
  clear HR141_0
  clear HX141_0
  clear HB
  have HO_3 := n0_
  have HO138 := n1_
  have HL140_0 := n2_
  have HL141_0 := n3_
  have BK105 := n4_
  have BK118 := n5_
  have HR140_0 := n6_
  have HX140_0 := n7_
  have HR141_0 := n8_
  have HX141_0 := n9_
  have HB := n10_
  clear n0_ n1_ n2_ n3_ n4_ n5_ n6_ n7_ n8_ n9_ n10_
  (try clear hb)
  (try clear hb2)
  (try clear hk)
  (try clear hi)
  have p76 : 0 ≤ (x29_2 : Int) := of_decide_eq_true (by first | (with_reducible assumption) | assumption)
  have q76 : (x29_2 : Int) < (((rd_L4 x3_43 x14_1).length : Int) : Int) := of_decide_eq_true (by first | (with_reducible assumption) | assumption)
  obtain ⟨go76, co76, eo76, gb76, gl76, cl76, HG76⟩ := Kd.R_form HL140_0.out (by omega)
  (first | cases eo76 | (injection eo76 with ea_ en_ ec_; (first | subst ea_ | (injection ea_ with ea_; subst ea_)); subst ec_; clear en_))
  have GB76 := Aside0.mk gb76
  have GG76 := Aside0.mk HG76
  clear gb76 gl76 HG76
  (first | simp only [add_plain] at hx142_0 | skip)
  obtain ⟨hx76_0, hf76_0⟩ := Kd.R_celln 0 HL140_0.out (x29_2 : Int) p76 q76
  replace p76 := eq_true p76
  replace q76 := eq_true q76
  have n_ := Aside0.mk (Kd.S_mono (ok' := (fun k_ => some k_ ≠ (.slice Ao81 t136.length co81 : Value).ownBlock)) HO_3.out (fun k_ hk => hk.2))
  clear HO_3
  have HO_3 := n_
  clear n_
  have hq84 : (x14_1 : Int) < (x3_43.length : Int) := (by have h_ : (x14_1 : Int) < ((x3_43.length : Int) : Int) := of_decide_eq_true (by first | (with_reducible assumption) | assumption); first | exact h_ | (have e_ := (Kd.S_reads' HO_3.out).1; omega) | simpa only [List.length_set, List.length_set] using h_)
  obtain ⟨oki84, ce84, hcl84, hM84, hcc84, hok84, hbk84⟩ := Kd.S_borrow HO_3.out [] (x14_1 : Int) (of_decide_eq_true (by first | (with_reducible assumption) | assumption)) hq84
  obtain ⟨ve84_0, rfl, ge84_0⟩ := (id hM84)
  have hv84 := hcc84 0 _ rfl
  rw [Nat.add_zero, show ((Kd.slice 3 (Kd.int .i64))).sz = 1 from rfl, Nat.mul_one] at hv84
  replace hv84 := Option.some.inj (hv84.symm.trans HX140_0.out)
  subst hv84
  clear hcc84 hcl84
  replace ge84_0 := (show Kd.R (Kd.int .i64) 3 _ _ _ _ (rd_L4 x3_43 x14_1) from ge84_0)
  have HP84 := Kd.R_putg ge84_0 (x29_2 : Int) ji75
  rw [← Ny144.out] at HP84
  have HS84 := hbk84 HP84.2 (fun k_ e_ => by injection e_ with e_; subst e_; exact ge84_0.1 _ rfl) (x' := y144) (Kd.M_row HP84.1)
  rw [← Ny146.out] at HS84
  have HQ84 := Aside0.mk HS84
  clear HP84 HS84 hbk84 hok84
  refine hK.out _ _ ⟨(blk_cell BK118.out 0).trans rfl, (blk_cell BK118.out 1).trans rfl, (blk_cell BK118.out 2).trans rfl, (blk_cell BK118.out 3).trans rfl, (blk_cell BK118.out 4).trans rfl, HS5_, HS6_, HS7_⟩ (fun hHeld => ?_)
  clear hK K
  refine norm_ (a' := ?_) ?_ ?_
  rotate_left
  · show Act.put _ (some 85) _ = _
    simp only [Act.put, List.setIfInBounds_toArray, List.set_cons_zero, List.set_cons_succ, i64_w, i32_w]
    rfl
  refine pure_ (i := 14) (N := some 86) (v := ?_) (a' := ?_) #[true, true, true, true, true, true, true, true, true, true, true, true, true, true, true, false, false] rfl rfl (any_of HT_.out (by kernel_rfl)) (fun _ _ _ h => h) (Or.inl ⟨by rfl, ?_⟩) ?_ ?_
  rotate_left
  · intro w'
    go_simp
    with_reducible rfl
  rotate_left
  · simp only [Act.put, List.setIfInBounds_toArray, List.set_cons_zero, List.set_cons_succ, i64_w, i32_w]
    rfl
  refine pure_ (i := 15) (N := some 87) (v := ?_) (a' := ?_) #[true, true, true, true, true, true, true, true, true, true, true, true, true, true, true, true, false] rfl rfl (any_of HT_.out (by kernel_rfl)) (fun _ _ _ h => h) (Or.inl ⟨by rfl, ?_⟩) ?_ ?_
  rotate_left
  · intro w'
    go_simp
    with_reducible rfl
  rotate_left
  · simp only [Act.put, List.setIfInBounds_toArray, List.set_cons_zero, List.set_cons_succ, i64_w, i32_w]
    rfl
  refine last_ (i := 16) (N := none) #[true, true, true, true, true, true, true, true, true, true, true, true, true, true, true, true, true] rfl rfl (one_of HT_.out (by kernel_rfl)) (by decide) (fun K hK => ?_)
  refine skip_ (w1 := ?_) (by rfl) rfl ?_ ?_
  rotate_left
  · go_simp
    rfl
  refine hK.out _ _ ?_
  clear hK K
  refine done_ (done_of HT_.out (by kernel_rfl)) ?_
  try go_wp2
  (try simp only [← hl3_2, ← hl3_28, ← hl3_43])
  go_roundg kj43
  case measure => have := HK1.out; have := HK2.out; have := HJ28.out; have := HJ43.out; omega
  case rel => exact ⟨(y146), (ji56), (by first | rfl | (simp; done) | (simp only [← hji56] <;> (first | rfl | simp)) | (simp [*]; done)), H', ⟨by have := HK1.out; have := HK2.out; have := HJ28.out; have := HJ43.out; omega⟩, ⟨by (try simp only [hl3_2]); (try simp only [hl3_28]); (try simp only [hl3_43]); (with_reducible repeat (first | apply Kd.S_alloc | apply Kd.S_drewN | apply Kd.S_drew)); exact Kd.S_mono HQ84.out (fun _ hk => trivial)⟩, ⟨by (try simp only [hl3_2]); (try simp only [hl3_28]); (try simp only [hl3_43]); (with_reducible repeat (first | refine blk_drewN ?_ _ | refine blk_drew ?_ | refine blk_alloc ?_ _)); refine blk_far ?_ (by have h_ := Kd.R_ne HL140_0.out BK105.out (by decide); intro e_; exact h_ (by rw [e_]; rfl)) _; (with_reducible repeat (first | refine blk_drewN ?_ _ | refine blk_drew ?_ | refine blk_alloc ?_ _)); exact BK105.out⟩, ⟨by repeat (first | (with_reducible first | exact HB.out | apply below_alloc | apply pw_below_drewN | apply below_drew1 | refine below_set ?_ GB76.out | refine below_set ?_ GE105.out | refine below_set ?_ GE118.out) | exact HB.out)⟩⟩
end Go.Proofs.Yteaablbhdmkcpaa.Q
end
section
namespace Go.Proofs.Yteaablbhdmkcpaa.Q
open Go.RowKit Go.Proofs.YteaablbhdmkcpaaW.PrintWords Go.Proofs.YteaablbhdmkcpaaW.PrintLast Go.Proofs.YteaablbhdmkcpaaW.PrintMore
attribute [local go_sem] max2_int min2_int max_two min_two max_three min_three max_four min_four
set_option linter.unusedVariables false
set_option linter.unusedSimpArgs false
def impl_isWide.f (a0 : Int) : Option (Bool) := (impl_within.f a0 1 3).bind fun t101 => (some t101)
set_option maxHeartbeats 8000000 in
set_option maxRecDepth 100000 in
theorem impl_isWide.calls (a0 : Int) (r : Bool) (w : World) (h : impl_isWide.f a0 = some r) :
    Calls Try.prog 65 #[.int .i64 a0] w fun e w' => e = .returned (.bool r) ∧ Drawn0 w w' := by
  have H : ((impl_within.f a0 1 3).bind fun t101 => (some t101)) = some r := h
  clear h
  replace H := Option.bind_eq_some_iff.mp H
  obtain ⟨t101, A20, H⟩ := H
  replace H : (some t101) = some r := H
  have A2 := Aside0.mk A20
  clear A20
  obtain rfl := Option.some.inj H
  go_enter Try.func65, Try.ntmps65
  go_wp2_with (first | ((with_reducible refine gate_callee (f := 73) rfl ?_); refine goesL_ (some 4) rfl rfl Try.func73 (by kernel_rfl) rfl #[.int .i64 a0, .int .i64 1, .int .i64 3] rfl (by (try simp only [List.map_toArray, List.map_cons, List.map_nil]); first | done | rfl | (simp only [List.length_drop, List.length_take]; rfl)) ?_; (with_reducible refine (impl_within.calls a0 1 3 t101 _ A2.out).mono ?_); rintro e w' ⟨rfl, ⟨nd, rfl⟩⟩; refine ⟨_, rfl, ?_⟩))
  go_ret
  exact ⟨by first | rfl | (simp; done) | (simp [*]; done), by repeat (first | exact Drawn0.refl _ | apply Drawn0.step)⟩
end Go.Proofs.Yteaablbhdmkcpaa.Q
end
section
namespace Go.Proofs.Yteaablbhdmkcpaa.Q
open Go.RowKit Go.Proofs.YteaablbhdmkcpaaW.PrintWords Go.Proofs.YteaablbhdmkcpaaW.PrintLast Go.Proofs.YteaablbhdmkcpaaW.PrintMore
attribute [local go_sem] max2_int min2_int max_two min_two max_three min_three max_four min_four
set_option linter.unusedVariables false
set_option linter.unusedSimpArgs false
def impl_IsSchedule.cnt (C : List Int) (x : Int) : Nat → Nat
  | 0 => 0
  | j + 1 => impl_IsSchedule.cnt C x j + (if rd C j = x then 1 else 0)
def impl_IsSchedule.okT (T : List (List Int)) (C : List Int) (n : Nat) : Bool :=
  decide (T.length = n ∧ n ≤ 1048576) && ((List.range n).all fun j : Nat => decide ((rd_L4 T j).length = j) && (List.range j).all fun i : Nat => decide (-1000 ≤ rd (rd_L4 T j) i ∧ rd (rd_L4 T j) i ≤ 1000)) && (List.range n).all fun j : Nat => decide (0 ≤ rd C j ∧ rd C j ≤ 1000)
def impl_IsSchedule.bad (T : List (List Int)) (C : List Int) (j i : Nat) : Bool := decide (0 ≤ rd (rd_L4 T j) i) && decide (rd C j < rd C i + rd (rd_L4 T j) i)
def impl_IsSchedule.pass (T : List (List Int)) (C : List Int) (wide : Int) (j : Nat) : Bool := decide ((impl_IsSchedule.cnt C (rd C j) j : Int) + 1 ≤ wide) && (List.range j).all fun i => !impl_IsSchedule.bad T C j i
def impl_IsSchedule.f (k : Nat) (l0 : List (S57)) (a1 : Int) (l2 : List Int) : Option (Bool × Bool) :=
  (impl_isBlock.f k l0).bind fun b => if b = false then some (false, false) else
  (impl_isWide.f a1).bind fun q => if q = false then some (false, false) else
  if l2.length = l0.length then (impl_areCycles.f k l0 l2).bind fun c => if c = false then some (false, true) else
    (impl_delays.f k l0).bind fun T => if impl_IsSchedule.okT T l2 l0.length = true then some ((List.range l0.length).all (impl_IsSchedule.pass T l2 a1), true) else none
  else some (false, false)
theorem impl_IsSchedule.mono : ∀ a0 a1 a2 k, LeO (impl_IsSchedule.f k a0 a1 a2) (impl_IsSchedule.f (k + 1) a0 a1 a2) := by
  intro a0 a1 a2 k
  unfold impl_IsSchedule.f
  refine LeO.bind (impl_isBlock.mono _ _) (fun _ => LeO.ite (LeO.refl _) (LeO.bind (LeO.refl _) (fun _ => LeO.ite (LeO.refl _) (LeO.ite ?_ (LeO.refl _)))))
  exact LeO.bind (impl_areCycles.mono _ _ _) (fun _ => LeO.ite (LeO.refl _) (LeO.bind (impl_delays.mono _ _) (fun _ => LeO.refl _)))
def impl_IsSchedule.holds (D : DataW Unit) (C : List Int) (j : Nat) : Prop := Maps.IsMap D ∧ ∀ x : Int, D.atKey (.int .i64 x) (.lit (.int .i64 0)) = .lit (.int .i64 (impl_IsSchedule.cnt C x j))
theorem impl_IsSchedule.law : Maps.Keyed Try.prog 3 := Maps.int_keyed Try.underlying3
theorem impl_IsSchedule.zero (w : World) : (zeroValue 3).run Try.prog w = .ok (.int .i64 0) w := by kernel_rfl
theorem impl_IsSchedule.cnt_le (C : List Int) (x : Int) : ∀ j, impl_IsSchedule.cnt C x j ≤ j
  | 0 => Nat.le_refl _
  | j + 1 => by
    have := impl_IsSchedule.cnt_le C x j
    unfold impl_IsSchedule.cnt
    split <;> omega
theorem impl_IsSchedule.cnt_self (C : List Int) (j : Nat) : impl_IsSchedule.cnt C (rd C j) (j + 1) = impl_IsSchedule.cnt C (rd C j) j + 1 := by
  rw [impl_IsSchedule.cnt, if_pos rfl]
theorem impl_IsSchedule.holds_put {j : Nat} {D : DataW Unit} {C : List Int} (h : impl_IsSchedule.holds D C j) (c : Int) (hc : c = (impl_IsSchedule.cnt C (rd C j) j : Int) + 1) :
    impl_IsSchedule.holds (D.put (.int .i64 (rd C j)) (.lit (.int .i64 c))) C (j + 1) := by
  refine ⟨h.1.put _ _, fun x => ?_⟩
  by_cases e : x = rd C j
  · subst e
    rw [Maps.atKey_put_same h.1 (show WideAt.IsKeyLit (.int .i64 (rd C j)) from trivial), impl_IsSchedule.cnt_self, hc]
    rfl
  · rw [Maps.atKey_put_other (by intro h'; injection h' with _ h''; exact e h''), h.2 x, impl_IsSchedule.cnt, if_neg (fun h' => e h'.symm)]
    rfl
theorem impl_IsSchedule.wf_ {x : Int} (h0 : 0 ≤ x) (h1 : x ≤ 4611686018427387904) : (Lit.int .i64 x).wf = true := by
  have := wrap64_wf x
  rwa [show wrap64 x = x by unfold wrap64; omega] at this
theorem impl_IsSchedule.lit_inj {a b : Int} (h : (.lit (.int .i64 a) : DataW Unit) = .lit (.int .i64 b)) : a = b := by
  injection h with h
  injection h with _ h
theorem impl_IsSchedule.okT_of {T : List (List Int)} {C : List Int} {n : Nat} (h : impl_IsSchedule.okT T C n = true) : T.length = n ∧ n ≤ 1048576 ∧ (∀ j : Nat, j < n → (rd_L4 T j).length = j ∧ ∀ i : Nat, i < j → -1000 ≤ rd (rd_L4 T j) i ∧ rd (rd_L4 T j) i ≤ 1000) ∧ ∀ j : Nat, j < n → 0 ≤ rd C j ∧ rd C j ≤ 1000 := by
  unfold impl_IsSchedule.okT at h
  simp only [Bool.and_eq_true, decide_eq_true_eq, List.all_eq_true, List.mem_range] at h
  obtain ⟨⟨⟨h1, h2⟩, h3⟩, h4⟩ := h
  exact ⟨h1, h2, fun j hj => h3 j hj, h4⟩
set_option maxHeartbeats 4000000 in
set_option maxRecDepth 100000 in
theorem impl_IsSchedule.calls (k : Nat) (A0 : Option Addr) (c0 : Nat) (l0 : List (S57)) (a1 : Int) (A2 : Option Addr) (c2 : Nat) (l2 : List Int) (r1 r2 : Bool) (w : World) (hr0 : Kd.C k57 w A0 l0.length l0) (hc0 : l0.length ≤ c0) (hr2 : Kd.C (Kd.int .i64) w A2 l2.length l2) (hc2 : l2.length ≤ c2) (h : impl_IsSchedule.f k l0 a1 l2 = some (r1, r2)) :
    Calls Try.prog 45 #[.slice A0 l0.length c0, .int .i64 a1, .slice A2 l2.length c2] w fun e w' => e = .returned (.tuple #[.bool r1, .bool r2]) ∧ Below w.heap.size w w' := by
  have HR0 := Aside0.mk hr0
  have HC0 := Aside0.mk hc0
  have HR2 := Aside0.mk hr2
  have HC2 := Aside0.mk hc2
  clear hr0 hc0 hr2 hc2
  unfold impl_IsSchedule.f at h
  replace h := Option.bind_eq_some_iff.1 h
  obtain ⟨b, hb, h⟩ := h
  have Hb := Aside0.mk hb
  clear hb
  cases b with
  | false =>
    rw [if_pos rfl] at h
    obtain ⟨rfl, rfl⟩ := Prod.mk.inj (Option.some.inj h)
    clear h
    go_enter Try.func45, Try.ntmps45
    go_wp2_with fail
    (with_reducible refine (impl_isBlock.calls k _ _ l0 false _ HR0.out HC0.out Hb.out).mono ?_)
    rintro e w1 ⟨rfl, hb⟩
    have HB := Aside0.mk hb
    clear hb
    go_wp2_with fail
    go_ret2
    exact ⟨rfl, HB.out⟩
  | true =>
    rw [if_neg (by decide)] at h
    replace h := Option.bind_eq_some_iff.1 h
    obtain ⟨q, hq, h⟩ := h
    have Hq := Aside0.mk hq
    clear hq
    cases q with
    | false =>
      rw [if_pos rfl] at h
      obtain ⟨rfl, rfl⟩ := Prod.mk.inj (Option.some.inj h)
      clear h
      go_enter Try.func45, Try.ntmps45
      go_wp2_with fail
      (with_reducible refine (impl_isBlock.calls k _ _ l0 true _ HR0.out HC0.out Hb.out).mono ?_)
      rintro e w1 ⟨rfl, hb⟩
      have HB := Aside0.mk hb
      clear hb
      go_wp2_with fail
      (with_reducible refine (impl_isWide.calls a1 false _ Hq.out).mono ?_)
      rintro e w2 ⟨rfl, ⟨nd, rfl⟩⟩
      go_wp2_with fail
      go_ret2
      exact ⟨rfl, pw_below_drewN HB.out _⟩
    | true =>
      rw [if_neg (by decide)] at h
      by_cases hlen : l2.length = l0.length
      rotate_left
      · rw [if_neg hlen] at h
        obtain ⟨rfl, rfl⟩ := Prod.mk.inj (Option.some.inj h)
        clear h
        have g0 : ((l2.length : Int) == (l0.length : Int)) = false := beq_eq_false_iff_ne.mpr (by omega)
        have g1 : ((l2.length : Int) != (l0.length : Int)) = true := bne_iff_ne.mpr (by omega)
        have g2 : (l2.length == l0.length) = false := by simpa using hlen
        go_enter Try.func45, Try.ntmps45
        go_wp2_with fail
        (with_reducible refine (impl_isBlock.calls k _ _ l0 true _ HR0.out HC0.out Hb.out).mono ?_)
        rintro e w1 ⟨rfl, hb⟩
        have HB := Aside0.mk hb
        clear hb
        go_wp2_with fail
        (with_reducible refine (impl_isWide.calls a1 true _ Hq.out).mono ?_)
        rintro e w2 ⟨rfl, ⟨nd, rfl⟩⟩
        go_wp2_with fail
        go_ret2
        exact ⟨rfl, pw_below_drewN HB.out _⟩
      rw [if_pos hlen] at h
      replace h := Option.bind_eq_some_iff.1 h
      obtain ⟨c, hc, h⟩ := h
      have Hc := Aside0.mk hc
      clear hc
      have g0 : ((l2.length : Int) == (l0.length : Int)) = true := beq_iff_eq.mpr (by omega)
      have g1 : ((l2.length : Int) != (l0.length : Int)) = false := bne_eq_false_iff_eq.mpr (by omega)
      have g2 : (l2.length == l0.length) = true := by simpa using hlen
      have Hlen := Aside0.mk hlen
      clear hlen
      cases c with
      | false =>
        rw [if_pos rfl] at h
        obtain ⟨rfl, rfl⟩ := Prod.mk.inj (Option.some.inj h)
        clear h
        go_enter Try.func45, Try.ntmps45
        go_wp2_with fail
        (with_reducible refine (impl_isBlock.calls k _ _ l0 true _ HR0.out HC0.out Hb.out).mono ?_)
        rintro e w1 ⟨rfl, hb⟩
        have HB := Aside0.mk hb
        clear hb
        go_wp2_with fail
        (with_reducible refine (impl_isWide.calls a1 true _ Hq.out).mono ?_)
        rintro e w2 ⟨rfl, ⟨nd, rfl⟩⟩
        go_wp2_with fail
        (with_reducible refine (impl_areCycles.calls k _ _ l0 _ _ l2 false _ (Kd.C_below HR0.out (pw_below_drewN HB.out _)) HC0.out (Kd.C_below HR2.out (pw_below_drewN HB.out _)) HC2.out Hc.out).mono ?_)
        rintro e w3 ⟨rfl, hb⟩
        have HB3 := Aside0.mk (below_step (pw_below_drewN HB.out nd) hb)
        clear hb HB
        go_wp2_with fail
        go_ret2
        exact ⟨rfl, HB3.out⟩
      | true =>
        rw [if_neg (by decide)] at h
        replace h := Option.bind_eq_some_iff.1 h
        obtain ⟨T, hT, h⟩ := h
        have HT := Aside0.mk hT
        clear hT
        by_cases ok : impl_IsSchedule.okT T l2 l0.length = true
        rotate_left
        · rw [if_neg ok] at h
          cases h
        rw [if_pos ok] at h
        obtain ⟨hr, rfl⟩ := Prod.mk.inj (Option.some.inj h)
        obtain ⟨o1, o2, o3, o4⟩ := impl_IsSchedule.okT_of ok
        rw [← Hlen.out] at o1 o2 o3 o4 hr
        have O1 := Aside0.mk o1
        have O3 := Aside0.mk o3
        have O4 := Aside0.mk o4
        have Hr := Aside0.mk hr
        clear h ok o1 o3 o4 hr Hlen
        have hmm := @run_makeMap Try.prog
        go_enter Try.func45, Try.ntmps45
        go_wp2_with fail
        (with_reducible refine (impl_isBlock.calls k _ _ l0 true _ HR0.out HC0.out Hb.out).mono ?_)
        rintro e w1 ⟨rfl, hb⟩
        have HB := Aside0.mk hb
        clear hb
        go_wp2_with fail
        (with_reducible refine (impl_isWide.calls a1 true _ Hq.out).mono ?_)
        rintro e w2 ⟨rfl, ⟨nd, rfl⟩⟩
        go_wp2_with fail
        (with_reducible refine (impl_areCycles.calls k _ _ l0 _ _ l2 true _ (Kd.C_below HR0.out (pw_below_drewN HB.out _)) HC0.out (Kd.C_below HR2.out (pw_below_drewN HB.out _)) HC2.out Hc.out).mono ?_)
        rintro e w3 ⟨rfl, hb⟩
        have HB3 := Aside0.mk (below_step (pw_below_drewN HB.out nd) hb)
        clear hb HB
        go_wp2_with fail
        (with_reducible refine (impl_delays.calls k _ _ l0 T _ (Kd.C_below HR0.out HB3.out) HC0.out HT.out).mono ?_)
        rintro e wD ⟨v, rfl, ho, hb⟩
        obtain ⟨A8, c8, rfl, hl8, hC8⟩ := Kd.S_reads ho
        have HB := Aside0.mk (below_step HB3.out hb)
        have HC8 := Aside0.mk hC8
        have HL8 := Aside0.mk hl8
        clear hb ho hC8 hl8 HB3
        go_wp2_with fail
        go_loopw [38] (fun v38 wr => ∃ (j : Nat) (D : DataW Unit), v38 = .int .i64 (j : Int) ∧ j ≤ l2.length ∧ Aside0 (wr.ownsMap Try.prog 3 (plainElem Try.prog 3) wD.heap.size j D) ∧ Aside0 (impl_IsSchedule.holds D l2 j) ∧ Aside0 ((List.range' j (l2.length - j)).all (impl_IsSchedule.pass T l2 a1) = r1) ∧ Aside0 (Below wD.heap.size wD wr)) (fun v38 _ => l2.length - (intOf v38).toNat)
        case atStart =>
          refine ⟨0, .map [], rfl, Nat.zero_le _, ⟨World.ownsMap_made _ _ _ _⟩, ⟨Maps.isMap_empty, fun x => ?_⟩, ⟨by rw [Nat.sub_zero, ← List.range_eq_range']; exact Hr.out⟩, ⟨(Below.refl _ _).alloc (Nat.le_refl _) _⟩⟩
          rfl
        clear Hr
        obtain ⟨j, D, rfl, hj, HO, HH, Hr, HD⟩ := hrel
        by_cases hlt : j < l2.length
        rotate_left
        · obtain rfl : j = l2.length := by omega
          have d1 : decide ((l2.length : Int) < (l2.length : Int)) = false := decide_eq_false (by omega)
          have hr := Hr.out
          rw [Nat.sub_self] at hr
          obtain rfl : true = r1 := hr
          clear Hr
          go_wp2_with fail
          go_ret2
          exact ⟨rfl, below_weaken HB.out HB.out.size HD.out⟩
        have d1 : decide ((j : Int) < (l2.length : Int)) = true := decide_eq_true (by omega)
        have d2 : decide (0 ≤ (j : Int)) = true := decide_eq_true (by omega)
        obtain ⟨x0, x1⟩ := O4.out j hlt
        obtain ⟨x, hx⟩ : ∃ x, rd l2 j = x := ⟨_, rfl⟩
        obtain ⟨ad2, e2, hx2⟩ := Kd.at_int (Kd.C_below HR2.out (below_weaken HB.out HB.out.size HD.out)) (j : Int) (by omega) (by omega)
        cases e2
        have hkey := Maps.keyOf_int_mk Try.underlying3 (impl_IsSchedule.wf_ x0 (by omega))
        have hcnt := HH.out.2 (rd l2 j)
        have hcl := impl_IsSchedule.cnt_le l2 (rd l2 j) j
        have hput := impl_IsSchedule.holds_put HH.out _ rfl
        have hself := impl_IsSchedule.cnt_self l2 j
        have hpass : impl_IsSchedule.pass T l2 a1 j = (decide ((impl_IsSchedule.cnt l2 (rd l2 j) j : Int) + 1 ≤ a1) && (List.range j).all fun i => !impl_IsSchedule.bad T l2 j i) := rfl
        have hall : (List.range' j (l2.length - j)).all (impl_IsSchedule.pass T l2 a1) = (impl_IsSchedule.pass T l2 a1 j && (List.range' (j + 1) (l2.length - (j + 1))).all (impl_IsSchedule.pass T l2 a1)) := by
          rw [show l2.length - j = (l2.length - (j + 1)) + 1 by omega, List.range'_succ, List.all_cons]
        rw [Hr.out, hpass] at hall
        rw [hx] at hx2 hkey hcnt hcl hput hself hall x0 x1
        obtain ⟨m, hm⟩ : ∃ m : Nat, impl_IsSchedule.cnt l2 x j = m := ⟨_, rfl⟩
        rw [hm] at hcnt hcl hput hself hall
        have HX := Aside0.mk hx
        have HKEY := Aside0.mk hkey
        have HCNT := Aside0.mk hcnt
        have HPUT := Aside0.mk hput
        have HSELF := Aside0.mk hself
        have HALL := Aside0.mk hall
        clear hx hkey hcnt hput hself hall hpass hm Hr
        rw [Int.toNat_natCast] at hx2
        have tok1 : True := trivial
        have hm1 : (m : Int) ≤ 1048576 := by omega
        have hm0 : 0 ≤ (m : Int) := by omega
        by_cases hw : (m : Int) + 1 ≤ a1
        rotate_left
        · have d3 : decide (a1 < (m : Int) + 1) = true := decide_eq_true (by omega)
          have hr : r1 = false := by
            have h1 := HALL.out
            rw [decide_eq_false hw, Bool.false_and, Bool.false_and] at h1
            exact h1
          clear HALL
          subst hr
          go_wp2_with (first | (at_lookup; have _t := tok1; refine wpList_lookup_own_int _ rfl _ _ 75 rfl 3 3 .i64 impl_IsSchedule.law Try.underlying75 Try.underlying3 (impl_IsSchedule.zero _) wD.heap.size j _ rfl HO.out _ _ rfl HKEY.out ?_; intro c hat _; obtain rfl : c = (m : Int) := impl_IsSchedule.lit_inj (hat.symm.trans HCNT.out); clear hat tok1 _t) | (at_mapUpdate; refine wpList_mapUpdate_own _ rfl _ _ _ 75 rfl 3 3 impl_IsSchedule.law Try.underlying75 _ wD.heap.size j _ rfl HO.out (by unfold maxLen; omega) _ _ _ rfl rfl HKEY.out _ [] (plainElem_int Try.underlying3 (impl_IsSchedule.wf_ (x := (m : Int) + 1) (by omega) (by omega))) ?_; intro w1 hown1 hgrow1; have HO1 := Aside0.mk hown1; have HD1 := Aside0.mk (HD.out.grown hgrow1 HD.out.size (fun k hk => by cases hk; exact Nat.le_refl _)); clear hown1 hgrow1 HO HD HH) | (at_lookup; refine wpList_lookup_own_int _ rfl _ _ 75 rfl 3 3 .i64 impl_IsSchedule.law Try.underlying75 Try.underlying3 (impl_IsSchedule.zero _) wD.heap.size (j + 1) _ rfl HO1.out _ _ rfl HKEY.out ?_; intro c hat _; obtain rfl : c = (m : Int) + 1 := (by have h_ := impl_IsSchedule.lit_inj (hat.symm.trans (HPUT.out.2 x)); rw [HSELF.out] at h_; omega); clear hat))
          go_ret2
          exact ⟨rfl, below_weaken HB.out HB.out.size HD1.out⟩
        have d3 : decide (a1 < (m : Int) + 1) = false := decide_eq_false (by omega)
        have d4 : decide ((j : Int) < (T.length : Int)) = true := decide_eq_true (by have := O1.out; omega)
        have hjT : j < T.length := by have := O1.out; omega
        have hRl := (O3.out j hlt).1
        have hRb := (O3.out j hlt).2
        have hbad : ∀ i : Nat, impl_IsSchedule.bad T l2 j i = (decide (0 ≤ rd (rd_L4 T j) i) && decide (rd l2 j < rd l2 i + rd (rd_L4 T j) i)) := fun _ => rfl
        obtain ⟨R, hR0⟩ : ∃ R, rd_L4 T (j : Int) = R := ⟨_, rfl⟩
        rw [hR0] at hRl hRb hbad
        rw [HX.out] at hbad
        have hR := Aside0.mk hR0
        have HRL := Aside0.mk hRl
        have HRB := Aside0.mk hRb
        have HBAD := Aside0.mk hbad
        clear hRl hRb hbad hR0
        go_wp2_with (first | (at_lookup; have _t := tok1; refine wpList_lookup_own_int _ rfl _ _ 75 rfl 3 3 .i64 impl_IsSchedule.law Try.underlying75 Try.underlying3 (impl_IsSchedule.zero _) wD.heap.size j _ rfl HO.out _ _ rfl HKEY.out ?_; intro c hat _; obtain rfl : c = (m : Int) := impl_IsSchedule.lit_inj (hat.symm.trans HCNT.out); clear hat tok1 _t) | (at_mapUpdate; refine wpList_mapUpdate_own _ rfl _ _ _ 75 rfl 3 3 impl_IsSchedule.law Try.underlying75 _ wD.heap.size j _ rfl HO.out (by unfold maxLen; omega) _ _ _ rfl rfl HKEY.out _ [] (plainElem_int Try.underlying3 (impl_IsSchedule.wf_ (x := (m : Int) + 1) (by omega) (by omega))) ?_; intro w1 hown1 hgrow1; have HO1 := Aside0.mk hown1; have HD1 := Aside0.mk (HD.out.grown hgrow1 HD.out.size (fun k hk => by cases hk; exact Nat.le_refl _)); clear hown1 hgrow1 HO HD HH) | (at_lookup; refine wpList_lookup_own_int _ rfl _ _ 75 rfl 3 3 .i64 impl_IsSchedule.law Try.underlying75 Try.underlying3 (impl_IsSchedule.zero _) wD.heap.size (j + 1) _ rfl HO1.out _ _ rfl HKEY.out ?_; intro c hat _; obtain rfl : c = (m : Int) + 1 := (by have h_ := impl_IsSchedule.lit_inj (hat.symm.trans (HPUT.out.2 x)); rw [HSELF.out] at h_; omega); clear hat; have HCX := Aside0.mk (Kd.C_below HR2.out (below_weaken HB.out HB.out.size HD1.out)); obtain ⟨ad8, Aj, cj, e8, hx8, hlj, hCj⟩ := at_L4 (Kd.C_below HC8.out HD1.out) (j : Int) (by omega) (by have h_ := O1.out; omega); cases e8; rw [Int.toNat_natCast] at hx8; rw [hR.out] at hx8 hlj hCj; have HCJ := Aside0.mk hCj; clear hCj hlj))
        go_loop [57] (fun v57 => ∃ i : Nat, v57 = .int .i64 (i : Int) ∧ i ≤ R.length ∧ Aside0 ((List.range i).all (fun i => !impl_IsSchedule.bad T l2 j i) = true)) (fun v57 => R.length - (intOf v57).toNat)
        case atStart => exact ⟨0, rfl, Nat.zero_le _, ⟨rfl⟩⟩
        obtain ⟨i, rfl, hi, HI⟩ := hrel
        by_cases hil : i < R.length
        rotate_left
        · obtain rfl : i = R.length := by omega
          have d5 : decide ((R.length : Int) < (R.length : Int)) = false := decide_eq_false (by omega)
          go_wp2_with fail
          go_roundw
          case rel =>
            refine ⟨j + 1, _, by go_num, by omega, HO1, HPUT, ⟨?_⟩, HD1⟩
            have h1 := HALL.out
            have h2 := HI.out
            rw [HRL.out] at h2
            rw [h2, decide_eq_true hw, Bool.true_and, Bool.true_and] at h1
            exact h1.symm
          case measure => simp [intOf]; omega
        have hij : i < j := by have := HRL.out; omega
        have d5 : decide ((i : Int) < (R.length : Int)) = true := decide_eq_true (by omega)
        have d6 : decide (0 ≤ (i : Int)) = true := decide_eq_true (by omega)
        have d7 : decide ((i : Int) < (l2.length : Int)) = true := decide_eq_true (by omega)
        have hil2 : i < l2.length := by omega
        obtain ⟨adj, ej, hxj⟩ := Kd.at_int HCJ.out (i : Int) (by omega) (by omega)
        cases ej
        obtain ⟨ad9, e9, hxi⟩ := Kd.at_int HCX.out (i : Int) (by omega) (by omega)
        cases e9
        rw [Int.toNat_natCast] at hxj hxi
        have hb1 := HRB.out i hij
        have hb2 := O4.out i (by omega)
        have hb3 := HBAD.out i
        obtain ⟨d, hd⟩ : ∃ d, rd R (i : Int) = d := ⟨_, rfl⟩
        obtain ⟨y, hy⟩ : ∃ y, rd l2 (i : Int) = y := ⟨_, rfl⟩
        rw [hd] at hxj hb1 hb3
        rw [hy] at hxi hb2 hb3
        have HB3 := Aside0.mk hb3
        clear hd hy hb3
        obtain ⟨b1, b2⟩ := hb1
        obtain ⟨b3, b4⟩ := hb2
        by_cases hd0 : 0 ≤ d
        rotate_left
        · have d8 : decide (0 ≤ d) = false := decide_eq_false hd0
          go_wp2_with fail
          go_round
          case rel =>
            refine ⟨i + 1, by go_num, by omega, ⟨?_⟩⟩
            rw [List.range_succ, List.all_append, HI.out, List.all_cons, List.all_nil, HB3.out, decide_eq_false hd0, Bool.false_and]
            rfl
          case measure => simp [intOf]; omega
        have d8 : decide (0 ≤ d) = true := decide_eq_true hd0
        by_cases hlt2 : x < y + d
        rotate_left
        · have d9 : decide (x < y + d) = false := decide_eq_false hlt2
          go_wp2_with fail
          go_round
          case rel =>
            refine ⟨i + 1, by go_num, by omega, ⟨?_⟩⟩
            rw [List.range_succ, List.all_append, HI.out, List.all_cons, List.all_nil, HB3.out, decide_eq_false hlt2, Bool.and_false]
            rfl
          case measure => simp [intOf]; omega
        have d9 : decide (x < y + d) = true := decide_eq_true hlt2
        have hr : r1 = false := by
          have h1 := HALL.out
          have h2 : ((List.range j).all fun i => !impl_IsSchedule.bad T l2 j i) = false := by
            rw [List.all_eq_false]
            refine ⟨i, List.mem_range.2 hij, ?_⟩
            rw [HB3.out, decide_eq_true hd0, decide_eq_true hlt2]
            decide
          rw [h2] at h1
          simpa using h1
        clear HALL
        subst hr
        go_wp2_with fail
        go_ret2
        exact ⟨rfl, below_weaken HB.out HB.out.size HD1.out⟩
end Go.Proofs.Yteaablbhdmkcpaa.Q
end
section
namespace Go.Proofs.Yteaablbhdmkcpaa.Q
open Go.RowKit Go.Proofs.YteaablbhdmkcpaaW.PrintWords Go.Proofs.YteaablbhdmkcpaaW.PrintLast Go.Proofs.YteaablbhdmkcpaaW.PrintMore
attribute [local go_sem] max2_int min2_int max_two min_two max_three min_three max_four min_four
set_option linter.unusedVariables false
set_option linter.unusedSimpArgs false
def laws_eqInstr.f (a0_0 : ByteArray) (a0_1 : Int) (a0_2 : Int) (a0_3 : Int) (a0_4 : Int) (a1_0 : ByteArray) (a1_1 : Int) (a1_2 : Int) (a1_3 : Int) (a1_4 : Int) : Option (Bool) := if a0_0.toList = a1_0.toList then (if a0_1 = a1_1 then (if a0_2 = a1_2 then (if a0_3 = a1_3 then (if a0_4 = a1_4 then (some true) else (some false)) else (some false)) else (some false)) else (some false)) else (some false)
set_option maxHeartbeats 8000000 in
set_option maxRecDepth 100000 in
theorem laws_eqInstr.calls (a0_0 : ByteArray) (a0_1 : Int) (a0_2 : Int) (a0_3 : Int) (a0_4 : Int) (a1_0 : ByteArray) (a1_1 : Int) (a1_2 : Int) (a1_3 : Int) (a1_4 : Int) (r : Bool) (w : World) (h : laws_eqInstr.f a0_0 a0_1 a0_2 a0_3 a0_4 a1_0 a1_1 a1_2 a1_3 a1_4 = some r) :
    Calls Try.prog 54 #[.agg #[.string a0_0, .int .i64 a0_1, .int .i64 a0_2, .int .i64 a0_3, .int .i64 a0_4], .agg #[.string a1_0, .int .i64 a1_1, .int .i64 a1_2, .int .i64 a1_3, .int .i64 a1_4]] w fun e w' => e = .returned (.bool r) ∧ Below w.heap.size w w' := by
  have hu57 := Try.underlying57
  have HB := Aside0.mk (Below.refl w.heap.size w)
  have H : (if a0_0.toList = a1_0.toList then (if a0_1 = a1_1 then (if a0_2 = a1_2 then (if a0_3 = a1_3 then (if a0_4 = a1_4 then (some true) else (some false)) else (some false)) else (some false)) else (some false)) else (some false)) = some r := h
  clear h
  by_cases c3 : a0_0.toList = a1_0.toList
  rotate_left
  · rw [if_neg c3] at H
    have c3b0 : (a0_0.toList == a1_0.toList) = false := beq_eq_false_iff_ne.mpr c3
    have c3b1 : (a0_0.toList != a1_0.toList) = true := bne_iff_ne.mpr c3
    obtain rfl := Option.some.inj H
    go_enter Try.func54, Try.ntmps54
    go_wp2_with (first | ((with_reducible refine gate_dst (N := 2) rfl ?_); refine box_event ?hg (N := 2) ?hd (cs := #[.string a0_0, .int .i64 a0_1, .int .i64 a0_2, .int .i64 a0_3, .int .i64 a0_4]) (t := 57) ?hr ?_; (case hd => rfl); (case hg => rfl); (case hr => first | (go_simp; done) | (go_simp; rfl)); intro gb101 hg w33 hbox hb; have n0_ := Aside0.mk (below_step (by repeat (first | (with_reducible first | exact HB.out | apply below_alloc | apply pw_below_drewN | apply below_drew1) | exact HB.out)) hb); have n1_ := Aside0.mk (hbox); have n2_ := Aside0.mk ((by rw [hg]; exact (below_size (by repeat (first | (with_reducible first | exact HB.out | apply below_alloc | apply pw_below_drewN | apply below_drew1) | exact HB.out))) : w.heap.size ≤ gb101)); have n3_ := Aside0.mk ((by rw [hg]; exact (below_size (by repeat (first | (with_reducible first | exact HB.out | apply below_alloc | apply pw_below_drewN | apply below_drew1) | exact HB.out))) : w.heap.size ≤ gb101)); clear HB; have HB := n0_; have BK101 := n1_; have GW101 := n2_; have GE101 := n3_; clear n0_ n1_ n2_ n3_; clear hb hbox hg) | ((with_reducible refine gate_dst (N := 3) rfl ?_); refine box_event ?hg (N := 3) ?hd (cs := #[.string a1_0, .int .i64 a1_1, .int .i64 a1_2, .int .i64 a1_3, .int .i64 a1_4]) (t := 57) ?hr ?_; (case hd => rfl); (case hg => rfl); (case hr => first | (go_simp; done) | (go_simp; rfl)); intro gb102 hg w34 hbox hb; have n0_ := Aside0.mk (blk_below (g := gb101) (o := .cells #[.string a0_0, .int .i64 a0_1, .int .i64 a0_2, .int .i64 a0_3, .int .i64 a0_4] 57 (0, 0)) (by (with_reducible repeat (first | refine blk_drewN ?_ _ | refine blk_drew ?_ | refine blk_alloc ?_ _)); exact BK101.out) hb); have n1_ := Aside0.mk (below_step (by repeat (first | (with_reducible first | exact HB.out | apply below_alloc | apply pw_below_drewN | apply below_drew1 | refine below_set ?_ GE101.out) | exact HB.out)) hb); have n2_ := Aside0.mk (hbox); have n3_ := Aside0.mk ((by rw [hg]; exact (below_size (by repeat (first | (with_reducible first | exact HB.out | apply below_alloc | apply pw_below_drewN | apply below_drew1 | refine below_set ?_ GE101.out) | exact HB.out))) : w.heap.size ≤ gb102)); have n4_ := Aside0.mk ((by rw [hg]; exact (below_size (by repeat (first | (with_reducible first | exact HB.out | apply below_alloc | apply pw_below_drewN | apply below_drew1 | refine below_set ?_ GE101.out) | exact HB.out))) : w.heap.size ≤ gb102)); have n5_ := Aside0.mk ((by rw [hg]; exact Nat.ne_of_lt (blk_lt (g := gb101) (o := .cells #[.string a0_0, .int .i64 a0_1, .int .i64 a0_2, .int .i64 a0_3, .int .i64 a0_4] 57 (0, 0)) (by (with_reducible repeat (first | refine blk_drewN ?_ _ | refine blk_drew ?_ | refine blk_alloc ?_ _)); exact BK101.out)) : gb101 ≠ gb102)); have n6_ := Aside0.mk ((by rw [hg]; exact Nat.ne_of_gt (blk_lt (g := gb101) (o := .cells #[.string a0_0, .int .i64 a0_1, .int .i64 a0_2, .int .i64 a0_3, .int .i64 a0_4] 57 (0, 0)) (by (with_reducible repeat (first | refine blk_drewN ?_ _ | refine blk_drew ?_ | refine blk_alloc ?_ _)); exact BK101.out)) : gb102 ≠ gb101)); clear BK101; clear HB; have BK101 := n0_; have HB := n1_; have BK102 := n2_; have GW102 := n3_; have GE102 := n4_; have NB101_102 := n5_; have NB102_101 := n6_; clear n0_ n1_ n2_ n3_ n4_ n5_ n6_; clear hb hbox hg; have hnb35 := NB101_102.out; have hnc35 := NB102_101.out; have hcz36_0 : w34.cell? ⟨gb101, 0, none⟩ = some (.string a0_0) := (blk_cell BK101.out 0).trans rfl; have hcz36_1 : w34.cell? ⟨gb101, 1, none⟩ = some (.int .i64 a0_1) := (blk_cell BK101.out 1).trans rfl; have hcz36_2 : w34.cell? ⟨gb101, 2, none⟩ = some (.int .i64 a0_2) := (blk_cell BK101.out 2).trans rfl; have hcz36_3 : w34.cell? ⟨gb101, 3, none⟩ = some (.int .i64 a0_3) := (blk_cell BK101.out 3).trans rfl; have hcz36_4 : w34.cell? ⟨gb101, 4, none⟩ = some (.int .i64 a0_4) := (blk_cell BK101.out 4).trans rfl; have hfz36_0 := blk_frozen BK101.out 0; have hfz36_1 := blk_frozen BK101.out 1; have hfz36_2 := blk_frozen BK101.out 2; have hfz36_3 := blk_frozen BK101.out 3; have hfz36_4 := blk_frozen BK101.out 4; have hcz37_0 : w34.cell? ⟨gb102, 0, none⟩ = some (.string a1_0) := (blk_cell BK102.out 0).trans rfl; have hcz37_1 : w34.cell? ⟨gb102, 1, none⟩ = some (.int .i64 a1_1) := (blk_cell BK102.out 1).trans rfl; have hcz37_2 : w34.cell? ⟨gb102, 2, none⟩ = some (.int .i64 a1_2) := (blk_cell BK102.out 2).trans rfl; have hcz37_3 : w34.cell? ⟨gb102, 3, none⟩ = some (.int .i64 a1_3) := (blk_cell BK102.out 3).trans rfl; have hcz37_4 : w34.cell? ⟨gb102, 4, none⟩ = some (.int .i64 a1_4) := (blk_cell BK102.out 4).trans rfl; have hfz37_0 := blk_frozen BK102.out 0; have hfz37_1 := blk_frozen BK102.out 1; have hfz37_2 := blk_frozen BK102.out 2; have hfz37_3 := blk_frozen BK102.out 3; have hfz37_4 := blk_frozen BK102.out 4))
    go_ret
    exact ⟨by first | rfl | (simp [errW_none, errW_some] <;> rfl) | (simp [*, errW_none, errW_some] <;> rfl), by repeat (first | (with_reducible first | exact HB.out | apply below_alloc | apply pw_below_drewN | apply below_drew1 | refine below_set ?_ GE101.out | refine below_set ?_ GE102.out) | exact HB.out)⟩
  rw [if_pos c3] at H
  have c3b0 : (a0_0.toList == a1_0.toList) = true := beq_iff_eq.mpr c3
  have c3b1 : (a0_0.toList != a1_0.toList) = false := bne_eq_false_iff_eq.mpr c3
  clear c3
  by_cases c4 : a0_1 = a1_1
  rotate_left
  · rw [if_neg c4] at H
    have c4b0 : (a0_1 == a1_1) = false := beq_eq_false_iff_ne.mpr c4
    have c4b1 : (a0_1 != a1_1) = true := bne_iff_ne.mpr c4
    obtain rfl := Option.some.inj H
    go_enter Try.func54, Try.ntmps54
    go_wp2_with (first | ((with_reducible refine gate_dst (N := 2) rfl ?_); refine box_event ?hg (N := 2) ?hd (cs := #[.string a0_0, .int .i64 a0_1, .int .i64 a0_2, .int .i64 a0_3, .int .i64 a0_4]) (t := 57) ?hr ?_; (case hd => rfl); (case hg => rfl); (case hr => first | (go_simp; done) | (go_simp; rfl)); intro gb101 hg w28 hbox hb; have n0_ := Aside0.mk (below_step (by repeat (first | (with_reducible first | exact HB.out | apply below_alloc | apply pw_below_drewN | apply below_drew1) | exact HB.out)) hb); have n1_ := Aside0.mk (hbox); have n2_ := Aside0.mk ((by rw [hg]; exact (below_size (by repeat (first | (with_reducible first | exact HB.out | apply below_alloc | apply pw_below_drewN | apply below_drew1) | exact HB.out))) : w.heap.size ≤ gb101)); have n3_ := Aside0.mk ((by rw [hg]; exact (below_size (by repeat (first | (with_reducible first | exact HB.out | apply below_alloc | apply pw_below_drewN | apply below_drew1) | exact HB.out))) : w.heap.size ≤ gb101)); clear HB; have HB := n0_; have BK101 := n1_; have GW101 := n2_; have GE101 := n3_; clear n0_ n1_ n2_ n3_; clear hb hbox hg) | ((with_reducible refine gate_dst (N := 3) rfl ?_); refine box_event ?hg (N := 3) ?hd (cs := #[.string a1_0, .int .i64 a1_1, .int .i64 a1_2, .int .i64 a1_3, .int .i64 a1_4]) (t := 57) ?hr ?_; (case hd => rfl); (case hg => rfl); (case hr => first | (go_simp; done) | (go_simp; rfl)); intro gb102 hg w29 hbox hb; have n0_ := Aside0.mk (blk_below (g := gb101) (o := .cells #[.string a0_0, .int .i64 a0_1, .int .i64 a0_2, .int .i64 a0_3, .int .i64 a0_4] 57 (0, 0)) (by (with_reducible repeat (first | refine blk_drewN ?_ _ | refine blk_drew ?_ | refine blk_alloc ?_ _)); exact BK101.out) hb); have n1_ := Aside0.mk (below_step (by repeat (first | (with_reducible first | exact HB.out | apply below_alloc | apply pw_below_drewN | apply below_drew1 | refine below_set ?_ GE101.out) | exact HB.out)) hb); have n2_ := Aside0.mk (hbox); have n3_ := Aside0.mk ((by rw [hg]; exact (below_size (by repeat (first | (with_reducible first | exact HB.out | apply below_alloc | apply pw_below_drewN | apply below_drew1 | refine below_set ?_ GE101.out) | exact HB.out))) : w.heap.size ≤ gb102)); have n4_ := Aside0.mk ((by rw [hg]; exact (below_size (by repeat (first | (with_reducible first | exact HB.out | apply below_alloc | apply pw_below_drewN | apply below_drew1 | refine below_set ?_ GE101.out) | exact HB.out))) : w.heap.size ≤ gb102)); have n5_ := Aside0.mk ((by rw [hg]; exact Nat.ne_of_lt (blk_lt (g := gb101) (o := .cells #[.string a0_0, .int .i64 a0_1, .int .i64 a0_2, .int .i64 a0_3, .int .i64 a0_4] 57 (0, 0)) (by (with_reducible repeat (first | refine blk_drewN ?_ _ | refine blk_drew ?_ | refine blk_alloc ?_ _)); exact BK101.out)) : gb101 ≠ gb102)); have n6_ := Aside0.mk ((by rw [hg]; exact Nat.ne_of_gt (blk_lt (g := gb101) (o := .cells #[.string a0_0, .int .i64 a0_1, .int .i64 a0_2, .int .i64 a0_3, .int .i64 a0_4] 57 (0, 0)) (by (with_reducible repeat (first | refine blk_drewN ?_ _ | refine blk_drew ?_ | refine blk_alloc ?_ _)); exact BK101.out)) : gb102 ≠ gb101)); clear BK101; clear HB; have BK101 := n0_; have HB := n1_; have BK102 := n2_; have GW102 := n3_; have GE102 := n4_; have NB101_102 := n5_; have NB102_101 := n6_; clear n0_ n1_ n2_ n3_ n4_ n5_ n6_; clear hb hbox hg; have hnb30 := NB101_102.out; have hnc30 := NB102_101.out; have hcz31_0 : w29.cell? ⟨gb101, 0, none⟩ = some (.string a0_0) := (blk_cell BK101.out 0).trans rfl; have hcz31_1 : w29.cell? ⟨gb101, 1, none⟩ = some (.int .i64 a0_1) := (blk_cell BK101.out 1).trans rfl; have hcz31_2 : w29.cell? ⟨gb101, 2, none⟩ = some (.int .i64 a0_2) := (blk_cell BK101.out 2).trans rfl; have hcz31_3 : w29.cell? ⟨gb101, 3, none⟩ = some (.int .i64 a0_3) := (blk_cell BK101.out 3).trans rfl; have hcz31_4 : w29.cell? ⟨gb101, 4, none⟩ = some (.int .i64 a0_4) := (blk_cell BK101.out 4).trans rfl; have hfz31_0 := blk_frozen BK101.out 0; have hfz31_1 := blk_frozen BK101.out 1; have hfz31_2 := blk_frozen BK101.out 2; have hfz31_3 := blk_frozen BK101.out 3; have hfz31_4 := blk_frozen BK101.out 4; have hcz32_0 : w29.cell? ⟨gb102, 0, none⟩ = some (.string a1_0) := (blk_cell BK102.out 0).trans rfl; have hcz32_1 : w29.cell? ⟨gb102, 1, none⟩ = some (.int .i64 a1_1) := (blk_cell BK102.out 1).trans rfl; have hcz32_2 : w29.cell? ⟨gb102, 2, none⟩ = some (.int .i64 a1_2) := (blk_cell BK102.out 2).trans rfl; have hcz32_3 : w29.cell? ⟨gb102, 3, none⟩ = some (.int .i64 a1_3) := (blk_cell BK102.out 3).trans rfl; have hcz32_4 : w29.cell? ⟨gb102, 4, none⟩ = some (.int .i64 a1_4) := (blk_cell BK102.out 4).trans rfl; have hfz32_0 := blk_frozen BK102.out 0; have hfz32_1 := blk_frozen BK102.out 1; have hfz32_2 := blk_frozen BK102.out 2; have hfz32_3 := blk_frozen BK102.out 3; have hfz32_4 := blk_frozen BK102.out 4))
    go_ret
    exact ⟨by first | rfl | (simp [errW_none, errW_some] <;> rfl) | (simp [*, errW_none, errW_some] <;> rfl), by repeat (first | (with_reducible first | exact HB.out | apply below_alloc | apply pw_below_drewN | apply below_drew1 | refine below_set ?_ GE101.out | refine below_set ?_ GE102.out) | exact HB.out)⟩
  rw [if_pos c4] at H
  have c4b0 : (a0_1 == a1_1) = true := beq_iff_eq.mpr c4
  have c4b1 : (a0_1 != a1_1) = false := bne_eq_false_iff_eq.mpr c4
  clear c4
  by_cases c5 : a0_2 = a1_2
  rotate_left
  · rw [if_neg c5] at H
    have c5b0 : (a0_2 == a1_2) = false := beq_eq_false_iff_ne.mpr c5
    have c5b1 : (a0_2 != a1_2) = true := bne_iff_ne.mpr c5
    obtain rfl := Option.some.inj H
    go_enter Try.func54, Try.ntmps54
    go_wp2_with (first | ((with_reducible refine gate_dst (N := 2) rfl ?_); refine box_event ?hg (N := 2) ?hd (cs := #[.string a0_0, .int .i64 a0_1, .int .i64 a0_2, .int .i64 a0_3, .int .i64 a0_4]) (t := 57) ?hr ?_; (case hd => rfl); (case hg => rfl); (case hr => first | (go_simp; done) | (go_simp; rfl)); intro gb101 hg w23 hbox hb; have n0_ := Aside0.mk (below_step (by repeat (first | (with_reducible first | exact HB.out | apply below_alloc | apply pw_below_drewN | apply below_drew1) | exact HB.out)) hb); have n1_ := Aside0.mk (hbox); have n2_ := Aside0.mk ((by rw [hg]; exact (below_size (by repeat (first | (with_reducible first | exact HB.out | apply below_alloc | apply pw_below_drewN | apply below_drew1) | exact HB.out))) : w.heap.size ≤ gb101)); have n3_ := Aside0.mk ((by rw [hg]; exact (below_size (by repeat (first | (with_reducible first | exact HB.out | apply below_alloc | apply pw_below_drewN | apply below_drew1) | exact HB.out))) : w.heap.size ≤ gb101)); clear HB; have HB := n0_; have BK101 := n1_; have GW101 := n2_; have GE101 := n3_; clear n0_ n1_ n2_ n3_; clear hb hbox hg) | ((with_reducible refine gate_dst (N := 3) rfl ?_); refine box_event ?hg (N := 3) ?hd (cs := #[.string a1_0, .int .i64 a1_1, .int .i64 a1_2, .int .i64 a1_3, .int .i64 a1_4]) (t := 57) ?hr ?_; (case hd => rfl); (case hg => rfl); (case hr => first | (go_simp; done) | (go_simp; rfl)); intro gb102 hg w24 hbox hb; have n0_ := Aside0.mk (blk_below (g := gb101) (o := .cells #[.string a0_0, .int .i64 a0_1, .int .i64 a0_2, .int .i64 a0_3, .int .i64 a0_4] 57 (0, 0)) (by (with_reducible repeat (first | refine blk_drewN ?_ _ | refine blk_drew ?_ | refine blk_alloc ?_ _)); exact BK101.out) hb); have n1_ := Aside0.mk (below_step (by repeat (first | (with_reducible first | exact HB.out | apply below_alloc | apply pw_below_drewN | apply below_drew1 | refine below_set ?_ GE101.out) | exact HB.out)) hb); have n2_ := Aside0.mk (hbox); have n3_ := Aside0.mk ((by rw [hg]; exact (below_size (by repeat (first | (with_reducible first | exact HB.out | apply below_alloc | apply pw_below_drewN | apply below_drew1 | refine below_set ?_ GE101.out) | exact HB.out))) : w.heap.size ≤ gb102)); have n4_ := Aside0.mk ((by rw [hg]; exact (below_size (by repeat (first | (with_reducible first | exact HB.out | apply below_alloc | apply pw_below_drewN | apply below_drew1 | refine below_set ?_ GE101.out) | exact HB.out))) : w.heap.size ≤ gb102)); have n5_ := Aside0.mk ((by rw [hg]; exact Nat.ne_of_lt (blk_lt (g := gb101) (o := .cells #[.string a0_0, .int .i64 a0_1, .int .i64 a0_2, .int .i64 a0_3, .int .i64 a0_4] 57 (0, 0)) (by (with_reducible repeat (first | refine blk_drewN ?_ _ | refine blk_drew ?_ | refine blk_alloc ?_ _)); exact BK101.out)) : gb101 ≠ gb102)); have n6_ := Aside0.mk ((by rw [hg]; exact Nat.ne_of_gt (blk_lt (g := gb101) (o := .cells #[.string a0_0, .int .i64 a0_1, .int .i64 a0_2, .int .i64 a0_3, .int .i64 a0_4] 57 (0, 0)) (by (with_reducible repeat (first | refine blk_drewN ?_ _ | refine blk_drew ?_ | refine blk_alloc ?_ _)); exact BK101.out)) : gb102 ≠ gb101)); clear BK101; clear HB; have BK101 := n0_; have HB := n1_; have BK102 := n2_; have GW102 := n3_; have GE102 := n4_; have NB101_102 := n5_; have NB102_101 := n6_; clear n0_ n1_ n2_ n3_ n4_ n5_ n6_; clear hb hbox hg; have hnb25 := NB101_102.out; have hnc25 := NB102_101.out; have hcz26_0 : w24.cell? ⟨gb101, 0, none⟩ = some (.string a0_0) := (blk_cell BK101.out 0).trans rfl; have hcz26_1 : w24.cell? ⟨gb101, 1, none⟩ = some (.int .i64 a0_1) := (blk_cell BK101.out 1).trans rfl; have hcz26_2 : w24.cell? ⟨gb101, 2, none⟩ = some (.int .i64 a0_2) := (blk_cell BK101.out 2).trans rfl; have hcz26_3 : w24.cell? ⟨gb101, 3, none⟩ = some (.int .i64 a0_3) := (blk_cell BK101.out 3).trans rfl; have hcz26_4 : w24.cell? ⟨gb101, 4, none⟩ = some (.int .i64 a0_4) := (blk_cell BK101.out 4).trans rfl; have hfz26_0 := blk_frozen BK101.out 0; have hfz26_1 := blk_frozen BK101.out 1; have hfz26_2 := blk_frozen BK101.out 2; have hfz26_3 := blk_frozen BK101.out 3; have hfz26_4 := blk_frozen BK101.out 4; have hcz27_0 : w24.cell? ⟨gb102, 0, none⟩ = some (.string a1_0) := (blk_cell BK102.out 0).trans rfl; have hcz27_1 : w24.cell? ⟨gb102, 1, none⟩ = some (.int .i64 a1_1) := (blk_cell BK102.out 1).trans rfl; have hcz27_2 : w24.cell? ⟨gb102, 2, none⟩ = some (.int .i64 a1_2) := (blk_cell BK102.out 2).trans rfl; have hcz27_3 : w24.cell? ⟨gb102, 3, none⟩ = some (.int .i64 a1_3) := (blk_cell BK102.out 3).trans rfl; have hcz27_4 : w24.cell? ⟨gb102, 4, none⟩ = some (.int .i64 a1_4) := (blk_cell BK102.out 4).trans rfl; have hfz27_0 := blk_frozen BK102.out 0; have hfz27_1 := blk_frozen BK102.out 1; have hfz27_2 := blk_frozen BK102.out 2; have hfz27_3 := blk_frozen BK102.out 3; have hfz27_4 := blk_frozen BK102.out 4))
    go_ret
    exact ⟨by first | rfl | (simp [errW_none, errW_some] <;> rfl) | (simp [*, errW_none, errW_some] <;> rfl), by repeat (first | (with_reducible first | exact HB.out | apply below_alloc | apply pw_below_drewN | apply below_drew1 | refine below_set ?_ GE101.out | refine below_set ?_ GE102.out) | exact HB.out)⟩
  rw [if_pos c5] at H
  have c5b0 : (a0_2 == a1_2) = true := beq_iff_eq.mpr c5
  have c5b1 : (a0_2 != a1_2) = false := bne_eq_false_iff_eq.mpr c5
  clear c5
  by_cases c6 : a0_3 = a1_3
  rotate_left
  · rw [if_neg c6] at H
    have c6b0 : (a0_3 == a1_3) = false := beq_eq_false_iff_ne.mpr c6
    have c6b1 : (a0_3 != a1_3) = true := bne_iff_ne.mpr c6
    obtain rfl := Option.some.inj H
    go_enter Try.func54, Try.ntmps54
    go_wp2_with (first | ((with_reducible refine gate_dst (N := 2) rfl ?_); refine box_event ?hg (N := 2) ?hd (cs := #[.string a0_0, .int .i64 a0_1, .int .i64 a0_2, .int .i64 a0_3, .int .i64 a0_4]) (t := 57) ?hr ?_; (case hd => rfl); (case hg => rfl); (case hr => first | (go_simp; done) | (go_simp; rfl)); intro gb101 hg w18 hbox hb; have n0_ := Aside0.mk (below_step (by repeat (first | (with_reducible first | exact HB.out | apply below_alloc | apply pw_below_drewN | apply below_drew1) | exact HB.out)) hb); have n1_ := Aside0.mk (hbox); have n2_ := Aside0.mk ((by rw [hg]; exact (below_size (by repeat (first | (with_reducible first | exact HB.out | apply below_alloc | apply pw_below_drewN | apply below_drew1) | exact HB.out))) : w.heap.size ≤ gb101)); have n3_ := Aside0.mk ((by rw [hg]; exact (below_size (by repeat (first | (with_reducible first | exact HB.out | apply below_alloc | apply pw_below_drewN | apply below_drew1) | exact HB.out))) : w.heap.size ≤ gb101)); clear HB; have HB := n0_; have BK101 := n1_; have GW101 := n2_; have GE101 := n3_; clear n0_ n1_ n2_ n3_; clear hb hbox hg) | ((with_reducible refine gate_dst (N := 3) rfl ?_); refine box_event ?hg (N := 3) ?hd (cs := #[.string a1_0, .int .i64 a1_1, .int .i64 a1_2, .int .i64 a1_3, .int .i64 a1_4]) (t := 57) ?hr ?_; (case hd => rfl); (case hg => rfl); (case hr => first | (go_simp; done) | (go_simp; rfl)); intro gb102 hg w19 hbox hb; have n0_ := Aside0.mk (blk_below (g := gb101) (o := .cells #[.string a0_0, .int .i64 a0_1, .int .i64 a0_2, .int .i64 a0_3, .int .i64 a0_4] 57 (0, 0)) (by (with_reducible repeat (first | refine blk_drewN ?_ _ | refine blk_drew ?_ | refine blk_alloc ?_ _)); exact BK101.out) hb); have n1_ := Aside0.mk (below_step (by repeat (first | (with_reducible first | exact HB.out | apply below_alloc | apply pw_below_drewN | apply below_drew1 | refine below_set ?_ GE101.out) | exact HB.out)) hb); have n2_ := Aside0.mk (hbox); have n3_ := Aside0.mk ((by rw [hg]; exact (below_size (by repeat (first | (with_reducible first | exact HB.out | apply below_alloc | apply pw_below_drewN | apply below_drew1 | refine below_set ?_ GE101.out) | exact HB.out))) : w.heap.size ≤ gb102)); have n4_ := Aside0.mk ((by rw [hg]; exact (below_size (by repeat (first | (with_reducible first | exact HB.out | apply below_alloc | apply pw_below_drewN | apply below_drew1 | refine below_set ?_ GE101.out) | exact HB.out))) : w.heap.size ≤ gb102)); have n5_ := Aside0.mk ((by rw [hg]; exact Nat.ne_of_lt (blk_lt (g := gb101) (o := .cells #[.string a0_0, .int .i64 a0_1, .int .i64 a0_2, .int .i64 a0_3, .int .i64 a0_4] 57 (0, 0)) (by (with_reducible repeat (first | refine blk_drewN ?_ _ | refine blk_drew ?_ | refine blk_alloc ?_ _)); exact BK101.out)) : gb101 ≠ gb102)); have n6_ := Aside0.mk ((by rw [hg]; exact Nat.ne_of_gt (blk_lt (g := gb101) (o := .cells #[.string a0_0, .int .i64 a0_1, .int .i64 a0_2, .int .i64 a0_3, .int .i64 a0_4] 57 (0, 0)) (by (with_reducible repeat (first | refine blk_drewN ?_ _ | refine blk_drew ?_ | refine blk_alloc ?_ _)); exact BK101.out)) : gb102 ≠ gb101)); clear BK101; clear HB; have BK101 := n0_; have HB := n1_; have BK102 := n2_; have GW102 := n3_; have GE102 := n4_; have NB101_102 := n5_; have NB102_101 := n6_; clear n0_ n1_ n2_ n3_ n4_ n5_ n6_; clear hb hbox hg; have hnb20 := NB101_102.out; have hnc20 := NB102_101.out; have hcz21_0 : w19.cell? ⟨gb101, 0, none⟩ = some (.string a0_0) := (blk_cell BK101.out 0).trans rfl; have hcz21_1 : w19.cell? ⟨gb101, 1, none⟩ = some (.int .i64 a0_1) := (blk_cell BK101.out 1).trans rfl; have hcz21_2 : w19.cell? ⟨gb101, 2, none⟩ = some (.int .i64 a0_2) := (blk_cell BK101.out 2).trans rfl; have hcz21_3 : w19.cell? ⟨gb101, 3, none⟩ = some (.int .i64 a0_3) := (blk_cell BK101.out 3).trans rfl; have hcz21_4 : w19.cell? ⟨gb101, 4, none⟩ = some (.int .i64 a0_4) := (blk_cell BK101.out 4).trans rfl; have hfz21_0 := blk_frozen BK101.out 0; have hfz21_1 := blk_frozen BK101.out 1; have hfz21_2 := blk_frozen BK101.out 2; have hfz21_3 := blk_frozen BK101.out 3; have hfz21_4 := blk_frozen BK101.out 4; have hcz22_0 : w19.cell? ⟨gb102, 0, none⟩ = some (.string a1_0) := (blk_cell BK102.out 0).trans rfl; have hcz22_1 : w19.cell? ⟨gb102, 1, none⟩ = some (.int .i64 a1_1) := (blk_cell BK102.out 1).trans rfl; have hcz22_2 : w19.cell? ⟨gb102, 2, none⟩ = some (.int .i64 a1_2) := (blk_cell BK102.out 2).trans rfl; have hcz22_3 : w19.cell? ⟨gb102, 3, none⟩ = some (.int .i64 a1_3) := (blk_cell BK102.out 3).trans rfl; have hcz22_4 : w19.cell? ⟨gb102, 4, none⟩ = some (.int .i64 a1_4) := (blk_cell BK102.out 4).trans rfl; have hfz22_0 := blk_frozen BK102.out 0; have hfz22_1 := blk_frozen BK102.out 1; have hfz22_2 := blk_frozen BK102.out 2; have hfz22_3 := blk_frozen BK102.out 3; have hfz22_4 := blk_frozen BK102.out 4))
    go_ret
    exact ⟨by first | rfl | (simp [errW_none, errW_some] <;> rfl) | (simp [*, errW_none, errW_some] <;> rfl), by repeat (first | (with_reducible first | exact HB.out | apply below_alloc | apply pw_below_drewN | apply below_drew1 | refine below_set ?_ GE101.out | refine below_set ?_ GE102.out) | exact HB.out)⟩
  rw [if_pos c6] at H
  have c6b0 : (a0_3 == a1_3) = true := beq_iff_eq.mpr c6
  have c6b1 : (a0_3 != a1_3) = false := bne_eq_false_iff_eq.mpr c6
  clear c6
  by_cases c7 : a0_4 = a1_4
  · rw [if_pos c7] at H
    have c7b0 : (a0_4 == a1_4) = true := beq_iff_eq.mpr c7
    have c7b1 : (a0_4 != a1_4) = false := bne_eq_false_iff_eq.mpr c7
    clear c7
    obtain rfl := Option.some.inj H
    go_enter Try.func54, Try.ntmps54
    go_wp2_with (first | ((with_reducible refine gate_dst (N := 2) rfl ?_); refine box_event ?hg (N := 2) ?hd (cs := #[.string a0_0, .int .i64 a0_1, .int .i64 a0_2, .int .i64 a0_3, .int .i64 a0_4]) (t := 57) ?hr ?_; (case hd => rfl); (case hg => rfl); (case hr => first | (go_simp; done) | (go_simp; rfl)); intro gb101 hg w8 hbox hb; have n0_ := Aside0.mk (below_step (by repeat (first | (with_reducible first | exact HB.out | apply below_alloc | apply pw_below_drewN | apply below_drew1) | exact HB.out)) hb); have n1_ := Aside0.mk (hbox); have n2_ := Aside0.mk ((by rw [hg]; exact (below_size (by repeat (first | (with_reducible first | exact HB.out | apply below_alloc | apply pw_below_drewN | apply below_drew1) | exact HB.out))) : w.heap.size ≤ gb101)); have n3_ := Aside0.mk ((by rw [hg]; exact (below_size (by repeat (first | (with_reducible first | exact HB.out | apply below_alloc | apply pw_below_drewN | apply below_drew1) | exact HB.out))) : w.heap.size ≤ gb101)); clear HB; have HB := n0_; have BK101 := n1_; have GW101 := n2_; have GE101 := n3_; clear n0_ n1_ n2_ n3_; clear hb hbox hg) | ((with_reducible refine gate_dst (N := 3) rfl ?_); refine box_event ?hg (N := 3) ?hd (cs := #[.string a1_0, .int .i64 a1_1, .int .i64 a1_2, .int .i64 a1_3, .int .i64 a1_4]) (t := 57) ?hr ?_; (case hd => rfl); (case hg => rfl); (case hr => first | (go_simp; done) | (go_simp; rfl)); intro gb102 hg w9 hbox hb; have n0_ := Aside0.mk (blk_below (g := gb101) (o := .cells #[.string a0_0, .int .i64 a0_1, .int .i64 a0_2, .int .i64 a0_3, .int .i64 a0_4] 57 (0, 0)) (by (with_reducible repeat (first | refine blk_drewN ?_ _ | refine blk_drew ?_ | refine blk_alloc ?_ _)); exact BK101.out) hb); have n1_ := Aside0.mk (below_step (by repeat (first | (with_reducible first | exact HB.out | apply below_alloc | apply pw_below_drewN | apply below_drew1 | refine below_set ?_ GE101.out) | exact HB.out)) hb); have n2_ := Aside0.mk (hbox); have n3_ := Aside0.mk ((by rw [hg]; exact (below_size (by repeat (first | (with_reducible first | exact HB.out | apply below_alloc | apply pw_below_drewN | apply below_drew1 | refine below_set ?_ GE101.out) | exact HB.out))) : w.heap.size ≤ gb102)); have n4_ := Aside0.mk ((by rw [hg]; exact (below_size (by repeat (first | (with_reducible first | exact HB.out | apply below_alloc | apply pw_below_drewN | apply below_drew1 | refine below_set ?_ GE101.out) | exact HB.out))) : w.heap.size ≤ gb102)); have n5_ := Aside0.mk ((by rw [hg]; exact Nat.ne_of_lt (blk_lt (g := gb101) (o := .cells #[.string a0_0, .int .i64 a0_1, .int .i64 a0_2, .int .i64 a0_3, .int .i64 a0_4] 57 (0, 0)) (by (with_reducible repeat (first | refine blk_drewN ?_ _ | refine blk_drew ?_ | refine blk_alloc ?_ _)); exact BK101.out)) : gb101 ≠ gb102)); have n6_ := Aside0.mk ((by rw [hg]; exact Nat.ne_of_gt (blk_lt (g := gb101) (o := .cells #[.string a0_0, .int .i64 a0_1, .int .i64 a0_2, .int .i64 a0_3, .int .i64 a0_4] 57 (0, 0)) (by (with_reducible repeat (first | refine blk_drewN ?_ _ | refine blk_drew ?_ | refine blk_alloc ?_ _)); exact BK101.out)) : gb102 ≠ gb101)); clear BK101; clear HB; have BK101 := n0_; have HB := n1_; have BK102 := n2_; have GW102 := n3_; have GE102 := n4_; have NB101_102 := n5_; have NB102_101 := n6_; clear n0_ n1_ n2_ n3_ n4_ n5_ n6_; clear hb hbox hg; have hnb10 := NB101_102.out; have hnc10 := NB102_101.out; have hcz11_0 : w9.cell? ⟨gb101, 0, none⟩ = some (.string a0_0) := (blk_cell BK101.out 0).trans rfl; have hcz11_1 : w9.cell? ⟨gb101, 1, none⟩ = some (.int .i64 a0_1) := (blk_cell BK101.out 1).trans rfl; have hcz11_2 : w9.cell? ⟨gb101, 2, none⟩ = some (.int .i64 a0_2) := (blk_cell BK101.out 2).trans rfl; have hcz11_3 : w9.cell? ⟨gb101, 3, none⟩ = some (.int .i64 a0_3) := (blk_cell BK101.out 3).trans rfl; have hcz11_4 : w9.cell? ⟨gb101, 4, none⟩ = some (.int .i64 a0_4) := (blk_cell BK101.out 4).trans rfl; have hfz11_0 := blk_frozen BK101.out 0; have hfz11_1 := blk_frozen BK101.out 1; have hfz11_2 := blk_frozen BK101.out 2; have hfz11_3 := blk_frozen BK101.out 3; have hfz11_4 := blk_frozen BK101.out 4; have hcz12_0 : w9.cell? ⟨gb102, 0, none⟩ = some (.string a1_0) := (blk_cell BK102.out 0).trans rfl; have hcz12_1 : w9.cell? ⟨gb102, 1, none⟩ = some (.int .i64 a1_1) := (blk_cell BK102.out 1).trans rfl; have hcz12_2 : w9.cell? ⟨gb102, 2, none⟩ = some (.int .i64 a1_2) := (blk_cell BK102.out 2).trans rfl; have hcz12_3 : w9.cell? ⟨gb102, 3, none⟩ = some (.int .i64 a1_3) := (blk_cell BK102.out 3).trans rfl; have hcz12_4 : w9.cell? ⟨gb102, 4, none⟩ = some (.int .i64 a1_4) := (blk_cell BK102.out 4).trans rfl; have hfz12_0 := blk_frozen BK102.out 0; have hfz12_1 := blk_frozen BK102.out 1; have hfz12_2 := blk_frozen BK102.out 2; have hfz12_3 := blk_frozen BK102.out 3; have hfz12_4 := blk_frozen BK102.out 4))
    go_ret
    exact ⟨by first | rfl | (simp [errW_none, errW_some] <;> rfl) | (simp [*, errW_none, errW_some] <;> rfl), by repeat (first | (with_reducible first | exact HB.out | apply below_alloc | apply pw_below_drewN | apply below_drew1 | refine below_set ?_ GE101.out | refine below_set ?_ GE102.out) | exact HB.out)⟩
  rw [if_neg c7] at H
  have c7b0 : (a0_4 == a1_4) = false := beq_eq_false_iff_ne.mpr c7
  have c7b1 : (a0_4 != a1_4) = true := bne_iff_ne.mpr c7
  obtain rfl := Option.some.inj H
  go_enter Try.func54, Try.ntmps54
  go_wp2_with (first | ((with_reducible refine gate_dst (N := 2) rfl ?_); refine box_event ?hg (N := 2) ?hd (cs := #[.string a0_0, .int .i64 a0_1, .int .i64 a0_2, .int .i64 a0_3, .int .i64 a0_4]) (t := 57) ?hr ?_; (case hd => rfl); (case hg => rfl); (case hr => first | (go_simp; done) | (go_simp; rfl)); intro gb101 hg w13 hbox hb; have n0_ := Aside0.mk (below_step (by repeat (first | (with_reducible first | exact HB.out | apply below_alloc | apply pw_below_drewN | apply below_drew1) | exact HB.out)) hb); have n1_ := Aside0.mk (hbox); have n2_ := Aside0.mk ((by rw [hg]; exact (below_size (by repeat (first | (with_reducible first | exact HB.out | apply below_alloc | apply pw_below_drewN | apply below_drew1) | exact HB.out))) : w.heap.size ≤ gb101)); have n3_ := Aside0.mk ((by rw [hg]; exact (below_size (by repeat (first | (with_reducible first | exact HB.out | apply below_alloc | apply pw_below_drewN | apply below_drew1) | exact HB.out))) : w.heap.size ≤ gb101)); clear HB; have HB := n0_; have BK101 := n1_; have GW101 := n2_; have GE101 := n3_; clear n0_ n1_ n2_ n3_; clear hb hbox hg) | ((with_reducible refine gate_dst (N := 3) rfl ?_); refine box_event ?hg (N := 3) ?hd (cs := #[.string a1_0, .int .i64 a1_1, .int .i64 a1_2, .int .i64 a1_3, .int .i64 a1_4]) (t := 57) ?hr ?_; (case hd => rfl); (case hg => rfl); (case hr => first | (go_simp; done) | (go_simp; rfl)); intro gb102 hg w14 hbox hb; have n0_ := Aside0.mk (blk_below (g := gb101) (o := .cells #[.string a0_0, .int .i64 a0_1, .int .i64 a0_2, .int .i64 a0_3, .int .i64 a0_4] 57 (0, 0)) (by (with_reducible repeat (first | refine blk_drewN ?_ _ | refine blk_drew ?_ | refine blk_alloc ?_ _)); exact BK101.out) hb); have n1_ := Aside0.mk (below_step (by repeat (first | (with_reducible first | exact HB.out | apply below_alloc | apply pw_below_drewN | apply below_drew1 | refine below_set ?_ GE101.out) | exact HB.out)) hb); have n2_ := Aside0.mk (hbox); have n3_ := Aside0.mk ((by rw [hg]; exact (below_size (by repeat (first | (with_reducible first | exact HB.out | apply below_alloc | apply pw_below_drewN | apply below_drew1 | refine below_set ?_ GE101.out) | exact HB.out))) : w.heap.size ≤ gb102)); have n4_ := Aside0.mk ((by rw [hg]; exact (below_size (by repeat (first | (with_reducible first | exact HB.out | apply below_alloc | apply pw_below_drewN | apply below_drew1 | refine below_set ?_ GE101.out) | exact HB.out))) : w.heap.size ≤ gb102)); have n5_ := Aside0.mk ((by rw [hg]; exact Nat.ne_of_lt (blk_lt (g := gb101) (o := .cells #[.string a0_0, .int .i64 a0_1, .int .i64 a0_2, .int .i64 a0_3, .int .i64 a0_4] 57 (0, 0)) (by (with_reducible repeat (first | refine blk_drewN ?_ _ | refine blk_drew ?_ | refine blk_alloc ?_ _)); exact BK101.out)) : gb101 ≠ gb102)); have n6_ := Aside0.mk ((by rw [hg]; exact Nat.ne_of_gt (blk_lt (g := gb101) (o := .cells #[.string a0_0, .int .i64 a0_1, .int .i64 a0_2, .int .i64 a0_3, .int .i64 a0_4] 57 (0, 0)) (by (with_reducible repeat (first | refine blk_drewN ?_ _ | refine blk_drew ?_ | refine blk_alloc ?_ _)); exact BK101.out)) : gb102 ≠ gb101)); clear BK101; clear HB; have BK101 := n0_; have HB := n1_; have BK102 := n2_; have GW102 := n3_; have GE102 := n4_; have NB101_102 := n5_; have NB102_101 := n6_; clear n0_ n1_ n2_ n3_ n4_ n5_ n6_; clear hb hbox hg; have hnb15 := NB101_102.out; have hnc15 := NB102_101.out; have hcz16_0 : w14.cell? ⟨gb101, 0, none⟩ = some (.string a0_0) := (blk_cell BK101.out 0).trans rfl; have hcz16_1 : w14.cell? ⟨gb101, 1, none⟩ = some (.int .i64 a0_1) := (blk_cell BK101.out 1).trans rfl; have hcz16_2 : w14.cell? ⟨gb101, 2, none⟩ = some (.int .i64 a0_2) := (blk_cell BK101.out 2).trans rfl; have hcz16_3 : w14.cell? ⟨gb101, 3, none⟩ = some (.int .i64 a0_3) := (blk_cell BK101.out 3).trans rfl; have hcz16_4 : w14.cell? ⟨gb101, 4, none⟩ = some (.int .i64 a0_4) := (blk_cell BK101.out 4).trans rfl; have hfz16_0 := blk_frozen BK101.out 0; have hfz16_1 := blk_frozen BK101.out 1; have hfz16_2 := blk_frozen BK101.out 2; have hfz16_3 := blk_frozen BK101.out 3; have hfz16_4 := blk_frozen BK101.out 4; have hcz17_0 : w14.cell? ⟨gb102, 0, none⟩ = some (.string a1_0) := (blk_cell BK102.out 0).trans rfl; have hcz17_1 : w14.cell? ⟨gb102, 1, none⟩ = some (.int .i64 a1_1) := (blk_cell BK102.out 1).trans rfl; have hcz17_2 : w14.cell? ⟨gb102, 2, none⟩ = some (.int .i64 a1_2) := (blk_cell BK102.out 2).trans rfl; have hcz17_3 : w14.cell? ⟨gb102, 3, none⟩ = some (.int .i64 a1_3) := (blk_cell BK102.out 3).trans rfl; have hcz17_4 : w14.cell? ⟨gb102, 4, none⟩ = some (.int .i64 a1_4) := (blk_cell BK102.out 4).trans rfl; have hfz17_0 := blk_frozen BK102.out 0; have hfz17_1 := blk_frozen BK102.out 1; have hfz17_2 := blk_frozen BK102.out 2; have hfz17_3 := blk_frozen BK102.out 3; have hfz17_4 := blk_frozen BK102.out 4))
  go_ret
  exact ⟨by first | rfl | (simp [errW_none, errW_some] <;> rfl) | (simp [*, errW_none, errW_some] <;> rfl), by repeat (first | (with_reducible first | exact HB.out | apply below_alloc | apply pw_below_drewN | apply below_drew1 | refine below_set ?_ GE101.out | refine below_set ?_ GE102.out) | exact HB.out)⟩
end Go.Proofs.Yteaablbhdmkcpaa.Q
end
section
namespace Go.Proofs.Yteaablbhdmkcpaa.Q
open Go.RowKit Go.Proofs.YteaablbhdmkcpaaW.PrintWords Go.Proofs.YteaablbhdmkcpaaW.PrintLast Go.Proofs.YteaablbhdmkcpaaW.PrintMore
attribute [local go_sem] max2_int min2_int max_two min_two max_three min_three max_four min_four
set_option linter.unusedVariables false
set_option linter.unusedSimpArgs false
def laws_eqInstrS.l0 : Nat → List (S57) → List (S57) → Int → Option (Bool)
  | 0, _, _, _ => none
  | k + 1, x0, x1, x5 => if x5 < (x0.length : Int) then (if 0 ≤ x5 then (if x5 < (x1.length : Int) then ((laws_eqInstr.f ((rd_T57 x0 x5).f0) ((rd_T57 x0 x5).f1) ((rd_T57 x0 x5).f2) ((rd_T57 x0 x5).f3) ((rd_T57 x0 x5).f4) ((rd_T57 x1 x5).f0) ((rd_T57 x1 x5).f1) ((rd_T57 x1 x5).f2) ((rd_T57 x1 x5).f3) ((rd_T57 x1 x5).f4)).bind fun t103 => (if t103 = true then (laws_eqInstrS.l0 k x0 x1 (wrap64 (x5 + 1))) else (some false))) else (none)) else (none)) else (some true)
def laws_eqInstrS.f (k : Nat) (l0 : List (S57)) (l1 : List (S57)) : Option (Bool) := if (l0.length : Int) = (l1.length : Int) then (laws_eqInstrS.l0 k l0 l1 0) else (some false)
theorem laws_eqInstrS.mono_l : ∀ k, (∀ y0 y1 y2, LeO (laws_eqInstrS.l0 k y0 y1 y2) (laws_eqInstrS.l0 (k + 1) y0 y1 y2))
  | 0 => fun _ _ _ r h => by simp [laws_eqInstrS.l0] at h
  | k + 1 => by
    have ih0 := laws_eqInstrS.mono_l k
    · intro y0 y1 y2
      unfold laws_eqInstrS.l0
      repeat' first
      | (with_reducible exact ih0 _ _ _)
      | (with_reducible exact LeO.refl _)
      | (with_reducible exact LeO.none _)
      | (with_reducible refine LeO.ite ?_ ?_)
      | (with_reducible refine LeO.bind ?_ (fun _ => ?_))
      | exact ih0 _ _ _
      | exact LeO.none _
      | refine LeO.ite ?_ ?_
      | refine LeO.bind ?_ (fun _ => ?_)
theorem laws_eqInstrS.mono : ∀ a0 a1 k, LeO (laws_eqInstrS.f k a0 a1) (laws_eqInstrS.f (k + 1) a0 a1) := by
  intro a0 a1 k
  have ih0 := laws_eqInstrS.mono_l k
  unfold laws_eqInstrS.f
  repeat' first
      | (with_reducible exact ih0 _ _ _)
      | (with_reducible exact LeO.refl _)
      | (with_reducible exact LeO.none _)
      | (with_reducible refine LeO.ite ?_ ?_)
      | (with_reducible refine LeO.bind ?_ (fun _ => ?_))
      | exact ih0 _ _ _
      | exact LeO.none _
      | refine LeO.ite ?_ ?_
      | refine LeO.bind ?_ (fun _ => ?_)
def laws_eqInstrS.T6 : Bool × List (List Nat × List Nat) := (true, [([], []), ([], []), ([0, 1], [0, 1]), ([2], [2]), ([], []), ([], []), ([4, 5], [4, 5]), ([6], [6]), ([3, 7], [3, 7]), ([8], [8])])
def laws_eqInstrS.B6 : List Nat := [0, 0, 3, 7, 0, 0, 48, 112, 255, 511]
theorem laws_eqInstrS.tab6 : rtab .any (opsOf Try.f19 6) = laws_eqInstrS.T6 := by kernel_rfl
theorem laws_eqInstrS.bits6 : waitsOk laws_eqInstrS.T6.2 laws_eqInstrS.B6 = true := by kernel_rfl
set_option maxHeartbeats 8000000 in
set_option maxRecDepth 100000 in
theorem laws_eqInstrS.calls (k : Nat) (A0 : Option Addr) (c0 : Nat) (l0 : List (S57)) (A1 : Option Addr) (c1 : Nat) (l1 : List (S57)) (r : Bool) (w : World) (hr0 : Kd.C k57 w A0 l0.length l0) (hc0 : l0.length ≤ c0) (hr1 : Kd.C k57 w A1 l1.length l1) (hc1 : l1.length ≤ c1) (h : laws_eqInstrS.f k l0 l1 = some r) :
    Calls Try.prog 19 #[.slice A0 l0.length c0, .slice A1 l1.length c1] w fun e w' => e = .returned (.bool r) ∧ Below w.heap.size w w' := by
  have hu57 := Try.underlying57
  have HR0 := Aside0.mk hr0
  have HC0 := Aside0.mk hc0
  clear hr0 hc0
  have HR1 := Aside0.mk hr1
  have HC1 := Aside0.mk hc1
  clear hr1 hc1
  have HB := Aside0.mk (Below.refl w.heap.size w)
  have H : (if (l0.length : Int) = (l1.length : Int) then (laws_eqInstrS.l0 k l0 l1 0) else (some false)) = some r := h
  clear h
  by_cases c3 : (l0.length : Int) = (l1.length : Int)
  rotate_left
  · rw [if_neg c3] at H
    have c3b0 : ((l0.length : Int) == (l1.length : Int)) = false := beq_eq_false_iff_ne.mpr c3
    have c3b1 : ((l0.length : Int) != (l1.length : Int)) = true := bne_iff_ne.mpr c3
    have c3b2 : (l0.length == l1.length) = false := by first | simpa using c3 | (simp at c3 ⊢; omega)
    obtain rfl := Option.some.inj H
    go_enter Try.func19, Try.ntmps19
    go_wp2
    go_ret
    exact ⟨by first | rfl | (simp [errW_none, errW_some] <;> rfl) | (simp [*, errW_none, errW_some] <;> rfl), by repeat (first | (with_reducible first | exact HB.out | apply below_alloc | apply pw_below_drewN | apply below_drew1) | exact HB.out)⟩
  rw [if_pos c3] at H
  have c3b0 : ((l0.length : Int) == (l1.length : Int)) = true := beq_iff_eq.mpr c3
  have c3b1 : ((l0.length : Int) != (l1.length : Int)) = false := bne_eq_false_iff_eq.mpr c3
  have c3b2 : (l0.length == l1.length) = true := by first | simpa using c3 | (simp at c3 ⊢; omega)
  clear c3
  have H' := Aside0.mk H
  clear H
  go_enter Try.func19, Try.ntmps19
  go_wp2
  go_loopg [5] k (fun kq v5 w' => ∃ (x5_1 : Int), v5 = .int .i64 x5_1 ∧ Aside0 (laws_eqInstrS.l0 kq l0 l1 x5_1 = some r) ∧ Aside0 (kq ≤ k) ∧ Aside0 (Below w.heap.size w w'))
  case atStart => exact ⟨(0), (by first | rfl | (simp; done) | (simp [*]; done)), H', ⟨Nat.le_refl _⟩, ⟨by repeat (first | (with_reducible first | exact HB.out | apply below_alloc | apply pw_below_drewN | apply below_drew1) | exact HB.out)⟩⟩
  clear H'
  try clear c1
  try clear p2
  try clear c3
  try clear c3b0
  try clear c3b1
  try clear c3b2
  obtain ⟨x5_1, rfl, HA, HK1, HB⟩ := hrel
  cases gk with
  | zero => exact absurd HA.out (by simp [laws_eqInstrS.l0])
  | succ k1 =>
  have H := HA.out
  clear HA
  simp only [laws_eqInstrS.l0] at H
  by_cases c4 : x5_1 < (l0.length : Int)
  rotate_left
  · rw [if_neg c4] at H
    have c4b0 : decide (x5_1 < (l0.length : Int)) = false := decide_eq_false c4
    clear c4
    obtain rfl := Option.some.inj H
    go_wp2
    go_ret
    exact ⟨by first | rfl | (simp [errW_none, errW_some] <;> rfl) | (simp [*, errW_none, errW_some] <;> rfl), by repeat (first | (with_reducible first | exact HB.out | apply below_alloc | apply pw_below_drewN | apply below_drew1) | exact HB.out)⟩
  rw [if_pos c4] at H
  have c4b0 : decide (x5_1 < (l0.length : Int)) = true := decide_eq_true c4
  clear c4
  by_cases c5 : 0 ≤ x5_1
  rotate_left
  · rw [if_neg c5] at H
    exact absurd H (by simp)
  rw [if_pos c5] at H
  have c5b0 : decide (0 ≤ x5_1) = true := decide_eq_true c5
  clear c5
  by_cases c6 : x5_1 < (l1.length : Int)
  rotate_left
  · rw [if_neg c6] at H
    exact absurd H (by simp)
  rw [if_pos c6] at H
  have c6b0 : decide (x5_1 < (l1.length : Int)) = true := decide_eq_true c6
  clear c6
  replace H := Option.bind_eq_some_iff.mp H
  obtain ⟨t103, A70, H⟩ := H
  replace H : (if t103 = true then (laws_eqInstrS.l0 k1 l0 l1 (wrap64 (x5_1 + 1))) else (some false)) = some r := H
  have A7 := Aside0.mk A70
  clear A70
  by_cases c8 : t103 = true
  rotate_left
  · replace c8 := Bool.eq_false_iff.mpr c8
    subst c8
    have H1 : (some false) = some r := by rw [if_neg (show ¬ (false = true) by decide)] at H; exact H
    clear H
    have H := H1
    clear H1
    obtain rfl := Option.some.inj H
    try go_wp2
    have n0_ := Aside0.mk (below_drew1 HB.out)
    clear HB
    have HB := n0_
    clear n0_
    have p101 : 0 ≤ (x5_1 : Int) := of_decide_eq_true (by first | (with_reducible assumption) | assumption)
    have q101 : x5_1 < (l0.length : Int) := of_decide_eq_true (by first | (with_reducible assumption) | assumption)
    obtain ⟨ad101, e101, hx101_0, hx101_1, hx101_2, hx101_3, hx101_4⟩ := at_T57 HR0.out x5_1 p101 q101
    have hw101_4 := hx101_4
    have hw101_3 := hx101_3
    have hw101_2 := hx101_2
    have hw101_1 := hx101_1
    have hw101_0 := hx101_0
    cases e101
    replace hx101_0 := (HB.out.cell (World.block_lt_of_cell? w _ hx101_0)).trans hx101_0
    replace hx101_1 := (HB.out.cell (World.block_lt_of_cell? w _ hx101_1)).trans hx101_1
    replace hx101_2 := (HB.out.cell (World.block_lt_of_cell? w _ hx101_2)).trans hx101_2
    replace hx101_3 := (HB.out.cell (World.block_lt_of_cell? w _ hx101_3)).trans hx101_3
    replace hx101_4 := (HB.out.cell (World.block_lt_of_cell? w _ hx101_4)).trans hx101_4
    replace p101 := eq_true p101
    replace q101 := eq_true q101
    have p102 : 0 ≤ (x5_1 : Int) := of_decide_eq_true (by first | (with_reducible assumption) | assumption)
    have q102 : x5_1 < (l1.length : Int) := of_decide_eq_true (by first | (with_reducible assumption) | assumption)
    obtain ⟨ad102, e102, hx102_0, hx102_1, hx102_2, hx102_3, hx102_4⟩ := at_T57 HR1.out x5_1 p102 q102
    have hw102_4 := hx102_4
    have hw102_3 := hx102_3
    have hw102_2 := hx102_2
    have hw102_1 := hx102_1
    have hw102_0 := hx102_0
    cases e102
    replace hx102_0 := (HB.out.cell (World.block_lt_of_cell? w _ hx102_0)).trans hx102_0
    replace hx102_1 := (HB.out.cell (World.block_lt_of_cell? w _ hx102_1)).trans hx102_1
    replace hx102_2 := (HB.out.cell (World.block_lt_of_cell? w _ hx102_2)).trans hx102_2
    replace hx102_3 := (HB.out.cell (World.block_lt_of_cell? w _ hx102_3)).trans hx102_3
    replace hx102_4 := (HB.out.cell (World.block_lt_of_cell? w _ hx102_4)).trans hx102_4
    replace p102 := eq_true p102
    replace q102 := eq_true q102
    refine start_ (n := 10) (S := fun w' => w'.cell? (ad101.add ((x5_1).toNat * 5)) = some (.string ((rd_T57 l0 x5_1).f0)) ∧ w'.cell? ⟨(ad101.add ((x5_1).toNat * 5)).block, (ad101.add ((x5_1).toNat * 5)).off + 1, none⟩ = some (.int .i64 ((rd_T57 l0 x5_1).f1)) ∧ w'.cell? ⟨(ad101.add ((x5_1).toNat * 5)).block, (ad101.add ((x5_1).toNat * 5)).off + 2, none⟩ = some (.int .i64 ((rd_T57 l0 x5_1).f2)) ∧ w'.cell? ⟨(ad101.add ((x5_1).toNat * 5)).block, (ad101.add ((x5_1).toNat * 5)).off + 3, none⟩ = some (.int .i64 ((rd_T57 l0 x5_1).f3)) ∧ w'.cell? ⟨(ad101.add ((x5_1).toNat * 5)).block, (ad101.add ((x5_1).toNat * 5)).off + 4, none⟩ = some (.int .i64 ((rd_T57 l0 x5_1).f4)) ∧ w'.cell? (ad102.add ((x5_1).toNat * 5)) = some (.string ((rd_T57 l1 x5_1).f0)) ∧ w'.cell? ⟨(ad102.add ((x5_1).toNat * 5)).block, (ad102.add ((x5_1).toNat * 5)).off + 1, none⟩ = some (.int .i64 ((rd_T57 l1 x5_1).f1)) ∧ w'.cell? ⟨(ad102.add ((x5_1).toNat * 5)).block, (ad102.add ((x5_1).toNat * 5)).off + 2, none⟩ = some (.int .i64 ((rd_T57 l1 x5_1).f2)) ∧ w'.cell? ⟨(ad102.add ((x5_1).toNat * 5)).block, (ad102.add ((x5_1).toNat * 5)).off + 3, none⟩ = some (.int .i64 ((rd_T57 l1 x5_1).f3)) ∧ w'.cell? ⟨(ad102.add ((x5_1).toNat * 5)).block, (ad102.add ((x5_1).toNat * 5)).off + 4, none⟩ = some (.int .i64 ((rd_T57 l1 x5_1).f4))) (ds := []) #[false, false, false, false, false, false, false, false, false, false] (by kernel_rfl) rfl rfl ⟨((HB.out.cell (World.block_lt_of_cell? w _ hw101_0)).trans hw101_0), ((HB.out.cell (World.block_lt_of_cell? w _ hw101_1)).trans hw101_1), ((HB.out.cell (World.block_lt_of_cell? w _ hw101_2)).trans hw101_2), ((HB.out.cell (World.block_lt_of_cell? w _ hw101_3)).trans hw101_3), ((HB.out.cell (World.block_lt_of_cell? w _ hw101_4)).trans hw101_4), ((HB.out.cell (World.block_lt_of_cell? w _ hw102_0)).trans hw102_0), ((HB.out.cell (World.block_lt_of_cell? w _ hw102_1)).trans hw102_1), ((HB.out.cell (World.block_lt_of_cell? w _ hw102_2)).trans hw102_2), ((HB.out.cell (World.block_lt_of_cell? w _ hw102_3)).trans hw102_3), ((HB.out.cell (World.block_lt_of_cell? w _ hw102_4)).trans hw102_4)⟩ (fun hHeld => ?_); refine with_tabW laws_eqInstrS.tab6 laws_eqInstrS.bits6 (fun HT_ HW_ => ?_)
    generalize wr.drew = w11 at HB hx101_0 hx101_1 hx101_2 hx101_3 hx101_4 hx102_0 hx102_1 hx102_2 hx102_3 hx102_4 hHeld ⊢
    refine pure_ (i := 0) (N := some 17) (v := ?_) (a' := ?_) #[true, false, false, false, false, false, false, false, false, false] rfl rfl (any_of HT_.out (by kernel_rfl)) (fun _ _ _ h => h) (Or.inl ⟨by rfl, ?_⟩) ?_ ?_
    rotate_left
    · intro w'
      go_simp
      with_reducible rfl
    rotate_left
    · simp only [Act.put, List.setIfInBounds_toArray, List.set_cons_zero, List.set_cons_succ, i64_w, i32_w]
      rfl
    refine pure_ (i := 1) (N := some 18) (v := ?_) (a' := ?_) #[true, true, false, false, false, false, false, false, false, false] rfl rfl (any_of HT_.out (by kernel_rfl)) (fun _ _ _ h => h) (Or.inl ⟨by rfl, ?_⟩) ?_ ?_
    rotate_left
    · intro w'
      go_simp
      with_reducible rfl
    rotate_left
    · simp only [Act.put, List.setIfInBounds_toArray, List.set_cons_zero, List.set_cons_succ, i64_w, i32_w]
      rfl
    refine pure_ (i := 2) (N := some 19) (v := ?_) (a' := ?_) #[true, true, true, false, false, false, false, false, false, false] rfl rfl (any_of HT_.out (by kernel_rfl)) (fun _ _ _ h => h) (Or.inl ⟨by rfl, ?_⟩) ?_ ?_
    rotate_left
    · intro w'
      go_simp
      with_reducible rfl
    rotate_left
    · simp only [Act.put, List.setIfInBounds_toArray, List.set_cons_zero, List.set_cons_succ, i64_w, i32_w]
      rfl
    refine pure_ (i := 4) (N := some 21) (v := ?_) (a' := ?_) #[true, true, true, false, true, false, false, false, false, false] rfl rfl (any_of HT_.out (by kernel_rfl)) (fun _ _ _ h => h) (Or.inl ⟨by rfl, ?_⟩) ?_ ?_
    rotate_left
    · intro w'
      go_simp
      with_reducible rfl
    rotate_left
    · simp only [Act.put, List.setIfInBounds_toArray, List.set_cons_zero, List.set_cons_succ, i64_w, i32_w]
      rfl
    refine pure_ (i := 5) (N := some 22) (v := ?_) (a' := ?_) #[true, true, true, false, true, true, false, false, false, false] rfl rfl (any_of HT_.out (by kernel_rfl)) (fun _ _ _ h => h) (Or.inl ⟨by rfl, ?_⟩) ?_ ?_
    rotate_left
    · intro w'
      go_simp
      with_reducible rfl
    rotate_left
    · simp only [Act.put, List.setIfInBounds_toArray, List.set_cons_zero, List.set_cons_succ, i64_w, i32_w]
      rfl
    refine pure_ (i := 6) (N := some 23) (v := ?_) (a' := ?_) #[true, true, true, false, true, true, true, false, false, false] rfl rfl (any_of HT_.out (by kernel_rfl)) (fun _ _ _ h => h) (Or.inl ⟨by rfl, ?_⟩) ?_ ?_
    rotate_left
    · intro w'
      go_simp
      with_reducible rfl
    rotate_left
    · simp only [Act.put, List.setIfInBounds_toArray, List.set_cons_zero, List.set_cons_succ, i64_w, i32_w]
      rfl
    refine take_ (i := 3) (N := some 20) (v := ?_) (a' := ?_) #[true, true, true, true, true, true, true, false, false, false] rfl rfl (take_ofW HT_.out HW_.out (by kernel_rfl)) (fun _ _ _ h => h) (Or.inl ⟨by rfl, ?_⟩) hHeld ?_ ?_
    rotate_left
    · rintro w' ⟨s0, s1, s2, s3, s4, s5, s6, s7, s8, s9⟩
      go_simp
      with_reducible rfl
    rotate_left
    · simp only [Act.put, List.setIfInBounds_toArray, List.set_cons_zero, List.set_cons_succ, i64_w, i32_w]
      rfl
    refine take_ (i := 7) (N := some 24) (v := ?_) (a' := ?_) #[true, true, true, true, true, true, true, true, false, false] rfl rfl (take_ofW HT_.out HW_.out (by kernel_rfl)) (fun _ _ _ h => h) (Or.inl ⟨by rfl, ?_⟩) hHeld ?_ ?_
    rotate_left
    · rintro w' ⟨s0, s1, s2, s3, s4, s5, s6, s7, s8, s9⟩
      go_simp
      with_reducible rfl
    rotate_left
    · simp only [Act.put, List.setIfInBounds_toArray, List.set_cons_zero, List.set_cons_succ, i64_w, i32_w]
      rfl
    refine one_ (i := 8) (N := some 25) #[true, true, true, true, true, true, true, true, true, false] rfl rfl (one_of HT_.out (by kernel_rfl)) (by decide) (fun K hK => ?_)
    refine goes_ Try.func54 (by kernel_rfl) rfl #[.agg #[.string ((rd_T57 l0 x5_1).f0), .int .i64 ((rd_T57 l0 x5_1).f1), .int .i64 ((rd_T57 l0 x5_1).f2), .int .i64 ((rd_T57 l0 x5_1).f3), .int .i64 ((rd_T57 l0 x5_1).f4)], .agg #[.string ((rd_T57 l1 x5_1).f0), .int .i64 ((rd_T57 l1 x5_1).f1), .int .i64 ((rd_T57 l1 x5_1).f2), .int .i64 ((rd_T57 l1 x5_1).f3), .int .i64 ((rd_T57 l1 x5_1).f4)]] (by rfl) rfl rfl (by (try simp only [List.map_toArray, List.map_cons, List.map_nil]); first | done | rfl | (simp only [List.length_drop, List.length_take]; rfl)) ?_
    with_reducible refine (laws_eqInstr.calls ((rd_T57 l0 x5_1).f0) ((rd_T57 l0 x5_1).f1) ((rd_T57 l0 x5_1).f2) ((rd_T57 l0 x5_1).f3) ((rd_T57 l0 x5_1).f4) ((rd_T57 l1 x5_1).f0) ((rd_T57 l1 x5_1).f1) ((rd_T57 l1 x5_1).f2) ((rd_T57 l1 x5_1).f3) ((rd_T57 l1 x5_1).f4) false _ A7.out).mono ?_
    rintro e w12 ⟨rfl, hb⟩
    refine ⟨_, rfl, ?_⟩
    have n0_ := Aside0.mk (below_step (by repeat (first | (with_reducible first | exact HB.out | apply below_alloc | apply pw_below_drewN | apply below_drew1) | exact HB.out)) hb)
    clear HB
    have HB := n0_
    clear n0_
    (try clear hb)
    (try clear hb2)
    (try clear hk)
    (try clear hi)
    refine hK.out _ _ ⟨((HB.out.cell (World.block_lt_of_cell? w _ hw101_0)).trans hw101_0), ((HB.out.cell (World.block_lt_of_cell? w _ hw101_1)).trans hw101_1), ((HB.out.cell (World.block_lt_of_cell? w _ hw101_2)).trans hw101_2), ((HB.out.cell (World.block_lt_of_cell? w _ hw101_3)).trans hw101_3), ((HB.out.cell (World.block_lt_of_cell? w _ hw101_4)).trans hw101_4), ((HB.out.cell (World.block_lt_of_cell? w _ hw102_0)).trans hw102_0), ((HB.out.cell (World.block_lt_of_cell? w _ hw102_1)).trans hw102_1), ((HB.out.cell (World.block_lt_of_cell? w _ hw102_2)).trans hw102_2), ((HB.out.cell (World.block_lt_of_cell? w _ hw102_3)).trans hw102_3), ((HB.out.cell (World.block_lt_of_cell? w _ hw102_4)).trans hw102_4)⟩ (fun hHeld => ?_)
    clear hK K
    refine norm_ (a' := ?_) ?_ ?_
    rotate_left
    · show Act.put _ (some 25) _ = _
      simp only [Act.put, List.setIfInBounds_toArray, List.set_cons_zero, List.set_cons_succ, i64_w, i32_w]
      rfl
    refine pure_ (i := 9) (N := some 26) (v := ?_) (a' := ?_) #[true, true, true, true, true, true, true, true, true, true] rfl rfl (any_of HT_.out (by kernel_rfl)) (fun _ _ _ h => h) (Or.inl ⟨by rfl, ?_⟩) ?_ ?_
    rotate_left
    · intro w'
      go_simp
      with_reducible rfl
    rotate_left
    · simp only [Act.put, List.setIfInBounds_toArray, List.set_cons_zero, List.set_cons_succ, i64_w, i32_w]
      rfl
    refine done_ (done_of HT_.out (by kernel_rfl)) ?_
    try go_wp2
    go_ret
    exact ⟨by first | rfl | (simp [errW_none, errW_some] <;> rfl) | (simp [*, errW_none, errW_some] <;> rfl), by repeat (first | (with_reducible first | exact HB.out | apply below_alloc | apply pw_below_drewN | apply below_drew1) | exact HB.out)⟩
  subst c8
  have H1 : (laws_eqInstrS.l0 k1 l0 l1 (wrap64 (x5_1 + 1))) = some r := by rw [if_pos rfl] at H; exact H
  clear H
  have H := H1
  clear H1
  have H' := Aside0.mk H
  clear H
  try go_wp2
  have n0_ := Aside0.mk (below_drew1 HB.out)
  clear HB
  have HB := n0_
  clear n0_
  have p101 : 0 ≤ (x5_1 : Int) := of_decide_eq_true (by first | (with_reducible assumption) | assumption)
  have q101 : x5_1 < (l0.length : Int) := of_decide_eq_true (by first | (with_reducible assumption) | assumption)
  obtain ⟨ad101, e101, hx101_0, hx101_1, hx101_2, hx101_3, hx101_4⟩ := at_T57 HR0.out x5_1 p101 q101
  have hw101_4 := hx101_4
  have hw101_3 := hx101_3
  have hw101_2 := hx101_2
  have hw101_1 := hx101_1
  have hw101_0 := hx101_0
  cases e101
  replace hx101_0 := (HB.out.cell (World.block_lt_of_cell? w _ hx101_0)).trans hx101_0
  replace hx101_1 := (HB.out.cell (World.block_lt_of_cell? w _ hx101_1)).trans hx101_1
  replace hx101_2 := (HB.out.cell (World.block_lt_of_cell? w _ hx101_2)).trans hx101_2
  replace hx101_3 := (HB.out.cell (World.block_lt_of_cell? w _ hx101_3)).trans hx101_3
  replace hx101_4 := (HB.out.cell (World.block_lt_of_cell? w _ hx101_4)).trans hx101_4
  replace p101 := eq_true p101
  replace q101 := eq_true q101
  have p102 : 0 ≤ (x5_1 : Int) := of_decide_eq_true (by first | (with_reducible assumption) | assumption)
  have q102 : x5_1 < (l1.length : Int) := of_decide_eq_true (by first | (with_reducible assumption) | assumption)
  obtain ⟨ad102, e102, hx102_0, hx102_1, hx102_2, hx102_3, hx102_4⟩ := at_T57 HR1.out x5_1 p102 q102
  have hw102_4 := hx102_4
  have hw102_3 := hx102_3
  have hw102_2 := hx102_2
  have hw102_1 := hx102_1
  have hw102_0 := hx102_0
  cases e102
  replace hx102_0 := (HB.out.cell (World.block_lt_of_cell? w _ hx102_0)).trans hx102_0
  replace hx102_1 := (HB.out.cell (World.block_lt_of_cell? w _ hx102_1)).trans hx102_1
  replace hx102_2 := (HB.out.cell (World.block_lt_of_cell? w _ hx102_2)).trans hx102_2
  replace hx102_3 := (HB.out.cell (World.block_lt_of_cell? w _ hx102_3)).trans hx102_3
  replace hx102_4 := (HB.out.cell (World.block_lt_of_cell? w _ hx102_4)).trans hx102_4
  replace p102 := eq_true p102
  replace q102 := eq_true q102
  refine start_ (n := 10) (S := fun w' => w'.cell? (ad101.add ((x5_1).toNat * 5)) = some (.string ((rd_T57 l0 x5_1).f0)) ∧ w'.cell? ⟨(ad101.add ((x5_1).toNat * 5)).block, (ad101.add ((x5_1).toNat * 5)).off + 1, none⟩ = some (.int .i64 ((rd_T57 l0 x5_1).f1)) ∧ w'.cell? ⟨(ad101.add ((x5_1).toNat * 5)).block, (ad101.add ((x5_1).toNat * 5)).off + 2, none⟩ = some (.int .i64 ((rd_T57 l0 x5_1).f2)) ∧ w'.cell? ⟨(ad101.add ((x5_1).toNat * 5)).block, (ad101.add ((x5_1).toNat * 5)).off + 3, none⟩ = some (.int .i64 ((rd_T57 l0 x5_1).f3)) ∧ w'.cell? ⟨(ad101.add ((x5_1).toNat * 5)).block, (ad101.add ((x5_1).toNat * 5)).off + 4, none⟩ = some (.int .i64 ((rd_T57 l0 x5_1).f4)) ∧ w'.cell? (ad102.add ((x5_1).toNat * 5)) = some (.string ((rd_T57 l1 x5_1).f0)) ∧ w'.cell? ⟨(ad102.add ((x5_1).toNat * 5)).block, (ad102.add ((x5_1).toNat * 5)).off + 1, none⟩ = some (.int .i64 ((rd_T57 l1 x5_1).f1)) ∧ w'.cell? ⟨(ad102.add ((x5_1).toNat * 5)).block, (ad102.add ((x5_1).toNat * 5)).off + 2, none⟩ = some (.int .i64 ((rd_T57 l1 x5_1).f2)) ∧ w'.cell? ⟨(ad102.add ((x5_1).toNat * 5)).block, (ad102.add ((x5_1).toNat * 5)).off + 3, none⟩ = some (.int .i64 ((rd_T57 l1 x5_1).f3)) ∧ w'.cell? ⟨(ad102.add ((x5_1).toNat * 5)).block, (ad102.add ((x5_1).toNat * 5)).off + 4, none⟩ = some (.int .i64 ((rd_T57 l1 x5_1).f4))) (ds := []) #[false, false, false, false, false, false, false, false, false, false] (by kernel_rfl) rfl rfl ⟨((HB.out.cell (World.block_lt_of_cell? w _ hw101_0)).trans hw101_0), ((HB.out.cell (World.block_lt_of_cell? w _ hw101_1)).trans hw101_1), ((HB.out.cell (World.block_lt_of_cell? w _ hw101_2)).trans hw101_2), ((HB.out.cell (World.block_lt_of_cell? w _ hw101_3)).trans hw101_3), ((HB.out.cell (World.block_lt_of_cell? w _ hw101_4)).trans hw101_4), ((HB.out.cell (World.block_lt_of_cell? w _ hw102_0)).trans hw102_0), ((HB.out.cell (World.block_lt_of_cell? w _ hw102_1)).trans hw102_1), ((HB.out.cell (World.block_lt_of_cell? w _ hw102_2)).trans hw102_2), ((HB.out.cell (World.block_lt_of_cell? w _ hw102_3)).trans hw102_3), ((HB.out.cell (World.block_lt_of_cell? w _ hw102_4)).trans hw102_4)⟩ (fun hHeld => ?_); refine with_tabW laws_eqInstrS.tab6 laws_eqInstrS.bits6 (fun HT_ HW_ => ?_)
  generalize wr.drew = w9 at HB hx101_0 hx101_1 hx101_2 hx101_3 hx101_4 hx102_0 hx102_1 hx102_2 hx102_3 hx102_4 hHeld ⊢
  refine pure_ (i := 0) (N := some 17) (v := ?_) (a' := ?_) #[true, false, false, false, false, false, false, false, false, false] rfl rfl (any_of HT_.out (by kernel_rfl)) (fun _ _ _ h => h) (Or.inl ⟨by rfl, ?_⟩) ?_ ?_
  rotate_left
  · intro w'
    go_simp
    with_reducible rfl
  rotate_left
  · simp only [Act.put, List.setIfInBounds_toArray, List.set_cons_zero, List.set_cons_succ, i64_w, i32_w]
    rfl
  refine pure_ (i := 1) (N := some 18) (v := ?_) (a' := ?_) #[true, true, false, false, false, false, false, false, false, false] rfl rfl (any_of HT_.out (by kernel_rfl)) (fun _ _ _ h => h) (Or.inl ⟨by rfl, ?_⟩) ?_ ?_
  rotate_left
  · intro w'
    go_simp
    with_reducible rfl
  rotate_left
  · simp only [Act.put, List.setIfInBounds_toArray, List.set_cons_zero, List.set_cons_succ, i64_w, i32_w]
    rfl
  refine pure_ (i := 2) (N := some 19) (v := ?_) (a' := ?_) #[true, true, true, false, false, false, false, false, false, false] rfl rfl (any_of HT_.out (by kernel_rfl)) (fun _ _ _ h => h) (Or.inl ⟨by rfl, ?_⟩) ?_ ?_
  rotate_left
  · intro w'
    go_simp
    with_reducible rfl
  rotate_left
  · simp only [Act.put, List.setIfInBounds_toArray, List.set_cons_zero, List.set_cons_succ, i64_w, i32_w]
    rfl
  refine pure_ (i := 4) (N := some 21) (v := ?_) (a' := ?_) #[true, true, true, false, true, false, false, false, false, false] rfl rfl (any_of HT_.out (by kernel_rfl)) (fun _ _ _ h => h) (Or.inl ⟨by rfl, ?_⟩) ?_ ?_
  rotate_left
  · intro w'
    go_simp
    with_reducible rfl
  rotate_left
  · simp only [Act.put, List.setIfInBounds_toArray, List.set_cons_zero, List.set_cons_succ, i64_w, i32_w]
    rfl
  refine pure_ (i := 5) (N := some 22) (v := ?_) (a' := ?_) #[true, true, true, false, true, true, false, false, false, false] rfl rfl (any_of HT_.out (by kernel_rfl)) (fun _ _ _ h => h) (Or.inl ⟨by rfl, ?_⟩) ?_ ?_
  rotate_left
  · intro w'
    go_simp
    with_reducible rfl
  rotate_left
  · simp only [Act.put, List.setIfInBounds_toArray, List.set_cons_zero, List.set_cons_succ, i64_w, i32_w]
    rfl
  refine pure_ (i := 6) (N := some 23) (v := ?_) (a' := ?_) #[true, true, true, false, true, true, true, false, false, false] rfl rfl (any_of HT_.out (by kernel_rfl)) (fun _ _ _ h => h) (Or.inl ⟨by rfl, ?_⟩) ?_ ?_
  rotate_left
  · intro w'
    go_simp
    with_reducible rfl
  rotate_left
  · simp only [Act.put, List.setIfInBounds_toArray, List.set_cons_zero, List.set_cons_succ, i64_w, i32_w]
    rfl
  refine take_ (i := 3) (N := some 20) (v := ?_) (a' := ?_) #[true, true, true, true, true, true, true, false, false, false] rfl rfl (take_ofW HT_.out HW_.out (by kernel_rfl)) (fun _ _ _ h => h) (Or.inl ⟨by rfl, ?_⟩) hHeld ?_ ?_
  rotate_left
  · rintro w' ⟨s0, s1, s2, s3, s4, s5, s6, s7, s8, s9⟩
    go_simp
    with_reducible rfl
  rotate_left
  · simp only [Act.put, List.setIfInBounds_toArray, List.set_cons_zero, List.set_cons_succ, i64_w, i32_w]
    rfl
  refine take_ (i := 7) (N := some 24) (v := ?_) (a' := ?_) #[true, true, true, true, true, true, true, true, false, false] rfl rfl (take_ofW HT_.out HW_.out (by kernel_rfl)) (fun _ _ _ h => h) (Or.inl ⟨by rfl, ?_⟩) hHeld ?_ ?_
  rotate_left
  · rintro w' ⟨s0, s1, s2, s3, s4, s5, s6, s7, s8, s9⟩
    go_simp
    with_reducible rfl
  rotate_left
  · simp only [Act.put, List.setIfInBounds_toArray, List.set_cons_zero, List.set_cons_succ, i64_w, i32_w]
    rfl
  refine one_ (i := 8) (N := some 25) #[true, true, true, true, true, true, true, true, true, false] rfl rfl (one_of HT_.out (by kernel_rfl)) (by decide) (fun K hK => ?_)
  refine goes_ Try.func54 (by kernel_rfl) rfl #[.agg #[.string ((rd_T57 l0 x5_1).f0), .int .i64 ((rd_T57 l0 x5_1).f1), .int .i64 ((rd_T57 l0 x5_1).f2), .int .i64 ((rd_T57 l0 x5_1).f3), .int .i64 ((rd_T57 l0 x5_1).f4)], .agg #[.string ((rd_T57 l1 x5_1).f0), .int .i64 ((rd_T57 l1 x5_1).f1), .int .i64 ((rd_T57 l1 x5_1).f2), .int .i64 ((rd_T57 l1 x5_1).f3), .int .i64 ((rd_T57 l1 x5_1).f4)]] (by rfl) rfl rfl (by (try simp only [List.map_toArray, List.map_cons, List.map_nil]); first | done | rfl | (simp only [List.length_drop, List.length_take]; rfl)) ?_
  with_reducible refine (laws_eqInstr.calls ((rd_T57 l0 x5_1).f0) ((rd_T57 l0 x5_1).f1) ((rd_T57 l0 x5_1).f2) ((rd_T57 l0 x5_1).f3) ((rd_T57 l0 x5_1).f4) ((rd_T57 l1 x5_1).f0) ((rd_T57 l1 x5_1).f1) ((rd_T57 l1 x5_1).f2) ((rd_T57 l1 x5_1).f3) ((rd_T57 l1 x5_1).f4) true _ A7.out).mono ?_
  rintro e w10 ⟨rfl, hb⟩
  refine ⟨_, rfl, ?_⟩
  have n0_ := Aside0.mk (below_step (by repeat (first | (with_reducible first | exact HB.out | apply below_alloc | apply pw_below_drewN | apply below_drew1) | exact HB.out)) hb)
  clear HB
  have HB := n0_
  clear n0_
  (try clear hb)
  (try clear hb2)
  (try clear hk)
  (try clear hi)
  refine hK.out _ _ ⟨((HB.out.cell (World.block_lt_of_cell? w _ hw101_0)).trans hw101_0), ((HB.out.cell (World.block_lt_of_cell? w _ hw101_1)).trans hw101_1), ((HB.out.cell (World.block_lt_of_cell? w _ hw101_2)).trans hw101_2), ((HB.out.cell (World.block_lt_of_cell? w _ hw101_3)).trans hw101_3), ((HB.out.cell (World.block_lt_of_cell? w _ hw101_4)).trans hw101_4), ((HB.out.cell (World.block_lt_of_cell? w _ hw102_0)).trans hw102_0), ((HB.out.cell (World.block_lt_of_cell? w _ hw102_1)).trans hw102_1), ((HB.out.cell (World.block_lt_of_cell? w _ hw102_2)).trans hw102_2), ((HB.out.cell (World.block_lt_of_cell? w _ hw102_3)).trans hw102_3), ((HB.out.cell (World.block_lt_of_cell? w _ hw102_4)).trans hw102_4)⟩ (fun hHeld => ?_)
  clear hK K
  refine norm_ (a' := ?_) ?_ ?_
  rotate_left
  · show Act.put _ (some 25) _ = _
    simp only [Act.put, List.setIfInBounds_toArray, List.set_cons_zero, List.set_cons_succ, i64_w, i32_w]
    rfl
  refine pure_ (i := 9) (N := some 26) (v := ?_) (a' := ?_) #[true, true, true, true, true, true, true, true, true, true] rfl rfl (any_of HT_.out (by kernel_rfl)) (fun _ _ _ h => h) (Or.inl ⟨by rfl, ?_⟩) ?_ ?_
  rotate_left
  · intro w'
    go_simp
    with_reducible rfl
  rotate_left
  · simp only [Act.put, List.setIfInBounds_toArray, List.set_cons_zero, List.set_cons_succ, i64_w, i32_w]
    rfl
  refine done_ (done_of HT_.out (by kernel_rfl)) ?_
  try go_wp2
  go_roundg k1
  case measure => have := HK1.out; omega
  case rel => exact ⟨(wrap64 (x5_1 + 1)), (by first | rfl | (simp; done) | (simp [*]; done)), H', ⟨by have := HK1.out; omega⟩, ⟨by repeat (first | (with_reducible first | exact HB.out | apply below_alloc | apply pw_below_drewN | apply below_drew1) | exact HB.out)⟩⟩
end Go.Proofs.Yteaablbhdmkcpaa.Q
end
section
namespace Go.Proofs.Yteaablbhdmkcpaa.Q
open Go.RowKit Go.Proofs.YteaablbhdmkcpaaW.PrintWords Go.Proofs.YteaablbhdmkcpaaW.PrintLast Go.Proofs.YteaablbhdmkcpaaW.PrintMore
attribute [local go_sem] max2_int min2_int max_two min_two max_three min_three max_four min_four
set_option linter.unusedVariables false
set_option linter.unusedSimpArgs false
def laws_eqIntS.l0 : Nat → List Int → List Int → Int → Option (Bool)
  | 0, _, _, _ => none
  | k + 1, x0, x1, x5 => if x5 < (x0.length : Int) then (if 0 ≤ x5 then (if x5 < (x1.length : Int) then (if (rd x0 x5) = (rd x1 x5) then (laws_eqIntS.l0 k x0 x1 (wrap64 (x5 + 1))) else (some false)) else (none)) else (none)) else (some true)
def laws_eqIntS.f (k : Nat) (l0 : List Int) (l1 : List Int) : Option (Bool) := if (l0.length : Int) = (l1.length : Int) then (laws_eqIntS.l0 k l0 l1 0) else (some false)
theorem laws_eqIntS.mono_l : ∀ k, (∀ y0 y1 y2, LeO (laws_eqIntS.l0 k y0 y1 y2) (laws_eqIntS.l0 (k + 1) y0 y1 y2))
  | 0 => fun _ _ _ r h => by simp [laws_eqIntS.l0] at h
  | k + 1 => by
    have ih0 := laws_eqIntS.mono_l k
    · intro y0 y1 y2
      unfold laws_eqIntS.l0
      repeat' first
      | (with_reducible exact ih0 _ _ _)
      | (with_reducible exact LeO.refl _)
      | (with_reducible exact LeO.none _)
      | (with_reducible refine LeO.ite ?_ ?_)
      | (with_reducible refine LeO.bind ?_ (fun _ => ?_))
      | exact ih0 _ _ _
      | exact LeO.none _
      | refine LeO.ite ?_ ?_
      | refine LeO.bind ?_ (fun _ => ?_)
theorem laws_eqIntS.mono : ∀ a0 a1 k, LeO (laws_eqIntS.f k a0 a1) (laws_eqIntS.f (k + 1) a0 a1) := by
  intro a0 a1 k
  have ih0 := laws_eqIntS.mono_l k
  unfold laws_eqIntS.f
  repeat' first
      | (with_reducible exact ih0 _ _ _)
      | (with_reducible exact LeO.refl _)
      | (with_reducible exact LeO.none _)
      | (with_reducible refine LeO.ite ?_ ?_)
      | (with_reducible refine LeO.bind ?_ (fun _ => ?_))
      | exact ih0 _ _ _
      | exact LeO.none _
      | refine LeO.ite ?_ ?_
      | refine LeO.bind ?_ (fun _ => ?_)
set_option maxHeartbeats 8000000 in
set_option maxRecDepth 100000 in
theorem laws_eqIntS.calls (k : Nat) (A0 : Option Addr) (c0 : Nat) (l0 : List Int) (A1 : Option Addr) (c1 : Nat) (l1 : List Int) (r : Bool) (w : World) (hr0 : Kd.C (Kd.int .i64) w A0 l0.length l0) (hc0 : l0.length ≤ c0) (hr1 : Kd.C (Kd.int .i64) w A1 l1.length l1) (hc1 : l1.length ≤ c1) (h : laws_eqIntS.f k l0 l1 = some r) :
    Calls Try.prog 26 #[.slice A0 l0.length c0, .slice A1 l1.length c1] w fun e w' => e = .returned (.bool r) ∧ Drawn0 w w' := by
  have HR0 := Aside0.mk hr0
  have HC0 := Aside0.mk hc0
  clear hr0 hc0
  have HR1 := Aside0.mk hr1
  have HC1 := Aside0.mk hc1
  clear hr1 hc1
  have H : (if (l0.length : Int) = (l1.length : Int) then (laws_eqIntS.l0 k l0 l1 0) else (some false)) = some r := h
  clear h
  by_cases c3 : (l0.length : Int) = (l1.length : Int)
  rotate_left
  · rw [if_neg c3] at H
    have c3b0 : ((l0.length : Int) == (l1.length : Int)) = false := beq_eq_false_iff_ne.mpr c3
    have c3b1 : ((l0.length : Int) != (l1.length : Int)) = true := bne_iff_ne.mpr c3
    have c3b2 : (l0.length == l1.length) = false := by first | simpa using c3 | (simp at c3 ⊢; omega)
    obtain rfl := Option.some.inj H
    go_enter Try.func26, Try.ntmps26
    go_wp2
    repeat (go_quiet (fail); try go_wp2)
    go_ret
    exact ⟨by first | rfl | (simp; done) | (simp [*]; done), by repeat (first | exact Drawn0.refl _ | apply Drawn0.step)⟩
  rw [if_pos c3] at H
  have c3b0 : ((l0.length : Int) == (l1.length : Int)) = true := beq_iff_eq.mpr c3
  have c3b1 : ((l0.length : Int) != (l1.length : Int)) = false := bne_eq_false_iff_eq.mpr c3
  have c3b2 : (l0.length == l1.length) = true := by first | simpa using c3 | (simp at c3 ⊢; omega)
  clear c3
  have H' := Aside0.mk H
  clear H
  go_enter Try.func26, Try.ntmps26
  go_wp2
  repeat (go_quiet (fail); try go_wp2)
  go_loopg [5] k (fun kq v5 w' => ∃ (x5_1 : Int), v5 = .int .i64 x5_1 ∧ Aside0 (laws_eqIntS.l0 kq l0 l1 x5_1 = some r) ∧ Aside0 (kq ≤ k) ∧ Drawn0 w w')
  case atStart => exact ⟨(0), (by first | rfl | (simp; done) | (simp [*]; done)), H', ⟨Nat.le_refl _⟩, by repeat (first | exact Drawn0.refl _ | apply Drawn0.step)⟩
  clear H'
  try clear c1
  try clear c2
  try clear p2
  try clear c3
  try clear c3b0
  try clear c3b1
  try clear c3b2
  obtain ⟨x5_1, rfl, HA, HK1, ⟨m1, rfl⟩⟩ := hrel
  cases gk with
  | zero => exact absurd HA.out (by simp [laws_eqIntS.l0])
  | succ k1 =>
  have H := HA.out
  clear HA
  simp only [laws_eqIntS.l0] at H
  by_cases c4 : x5_1 < (l0.length : Int)
  rotate_left
  · rw [if_neg c4] at H
    have c4b0 : decide (x5_1 < (l0.length : Int)) = false := decide_eq_false c4
    clear c4
    obtain rfl := Option.some.inj H
    go_wp2
    repeat (go_quiet (fail); try go_wp2)
    go_ret
    exact ⟨by first | rfl | (simp; done) | (simp [*]; done), by repeat (first | exact Drawn0.refl _ | apply Drawn0.step)⟩
  rw [if_pos c4] at H
  have c4b0 : decide (x5_1 < (l0.length : Int)) = true := decide_eq_true c4
  clear c4
  by_cases c5 : 0 ≤ x5_1
  rotate_left
  · rw [if_neg c5] at H
    exact absurd H (by simp)
  rw [if_pos c5] at H
  have c5b0 : decide (0 ≤ x5_1) = true := decide_eq_true c5
  clear c5
  by_cases c6 : x5_1 < (l1.length : Int)
  rotate_left
  · rw [if_neg c6] at H
    exact absurd H (by simp)
  rw [if_pos c6] at H
  have c6b0 : decide (x5_1 < (l1.length : Int)) = true := decide_eq_true c6
  clear c6
  by_cases c7 : (rd l0 x5_1) = (rd l1 x5_1)
  rotate_left
  · rw [if_neg c7] at H
    have c7b0 : ((rd l0 x5_1) == (rd l1 x5_1)) = false := beq_eq_false_iff_ne.mpr c7
    have c7b1 : ((rd l0 x5_1) != (rd l1 x5_1)) = true := bne_iff_ne.mpr c7
    obtain rfl := Option.some.inj H
    have p101 : 0 ≤ (x5_1 : Int) := of_decide_eq_true (by first | (with_reducible assumption) | assumption)
    have q101 : x5_1 < (l0.length : Int) := of_decide_eq_true (by first | (with_reducible assumption) | assumption)
    obtain ⟨ad101, e101, hx101_0⟩ := Kd.at_int HR0.out x5_1 p101 q101
    cases e101
    replace p101 := eq_true p101
    replace q101 := eq_true q101
    have p102 : 0 ≤ (x5_1 : Int) := of_decide_eq_true (by first | (with_reducible assumption) | assumption)
    have q102 : x5_1 < (l1.length : Int) := of_decide_eq_true (by first | (with_reducible assumption) | assumption)
    obtain ⟨ad102, e102, hx102_0⟩ := Kd.at_int HR1.out x5_1 p102 q102
    cases e102
    replace p102 := eq_true p102
    replace q102 := eq_true q102
    go_wp2
    repeat (go_quiet (fail); try go_wp2)
    go_ret
    exact ⟨by first | rfl | (simp; done) | (simp [*]; done), by repeat (first | exact Drawn0.refl _ | apply Drawn0.step)⟩
  rw [if_pos c7] at H
  have c7b0 : ((rd l0 x5_1) == (rd l1 x5_1)) = true := beq_iff_eq.mpr c7
  have c7b1 : ((rd l0 x5_1) != (rd l1 x5_1)) = false := bne_eq_false_iff_eq.mpr c7
  clear c7
  have H' := Aside0.mk H
  clear H
  have p101 : 0 ≤ (x5_1 : Int) := of_decide_eq_true (by first | (with_reducible assumption) | assumption)
  have q101 : x5_1 < (l0.length : Int) := of_decide_eq_true (by first | (with_reducible assumption) | assumption)
  obtain ⟨ad101, e101, hx101_0⟩ := Kd.at_int HR0.out x5_1 p101 q101
  cases e101
  replace p101 := eq_true p101
  replace q101 := eq_true q101
  have p102 : 0 ≤ (x5_1 : Int) := of_decide_eq_true (by first | (with_reducible assumption) | assumption)
  have q102 : x5_1 < (l1.length : Int) := of_decide_eq_true (by first | (with_reducible assumption) | assumption)
  obtain ⟨ad102, e102, hx102_0⟩ := Kd.at_int HR1.out x5_1 p102 q102
  cases e102
  replace p102 := eq_true p102
  replace q102 := eq_true q102
  go_wp2
  repeat (go_quiet (fail); try go_wp2)
  go_roundg k1
  case measure => have := HK1.out; omega
  case rel => exact ⟨(wrap64 (x5_1 + 1)), (by first | rfl | (simp; done) | (simp [*]; done)), H', ⟨by have := HK1.out; omega⟩, by repeat (first | exact Drawn0.refl _ | apply Drawn0.step)⟩
end Go.Proofs.Yteaablbhdmkcpaa.Q
end
section
namespace Go.Proofs.Yteaablbhdmkcpaa.Q
open Go.RowKit Go.Proofs.YteaablbhdmkcpaaW.PrintWords Go.Proofs.YteaablbhdmkcpaaW.PrintLast Go.Proofs.YteaablbhdmkcpaaW.PrintMore
attribute [local go_sem] max2_int min2_int max_two min_two max_three min_three max_four min_four
set_option linter.unusedVariables false
set_option linter.unusedSimpArgs false
def laws_szInstr.f (a0_0 : ByteArray) (a0_1 : Int) (a0_2 : Int) (a0_3 : Int) (a0_4 : Int) (a1 : Int) : Option (Int) := if (wrap64 (a1 - (a0_0.size : Int))) < 0 then (some (-1)) else (some (wrap64 (a1 - (a0_0.size : Int))))
set_option maxHeartbeats 8000000 in
set_option maxRecDepth 100000 in
theorem laws_szInstr.calls (a0_0 : ByteArray) (a0_1 : Int) (a0_2 : Int) (a0_3 : Int) (a0_4 : Int) (a1 : Int) (r : Int) (w : World) (h : laws_szInstr.f a0_0 a0_1 a0_2 a0_3 a0_4 a1 = some r) :
    Calls Try.prog 48 #[.agg #[.string a0_0, .int .i64 a0_1, .int .i64 a0_2, .int .i64 a0_3, .int .i64 a0_4], .int .i64 a1] w fun e w' => e = .returned (.int .i64 r) ∧ Below w.heap.size w w' := by
  have hu54 := Try.underlying54
  have HB := Aside0.mk (Below.refl w.heap.size w)
  have H : (if (wrap64 (a1 - (a0_0.size : Int))) < 0 then (some (-1)) else (some (wrap64 (a1 - (a0_0.size : Int))))) = some r := h
  clear h
  by_cases c3 : (wrap64 (a1 - (a0_0.size : Int))) < 0
  · rw [if_pos c3] at H
    have c3b0 : decide ((wrap64 (a1 - (a0_0.size : Int))) < 0) = true := decide_eq_true c3
    clear c3
    obtain rfl := Option.some.inj H
    go_enter Try.func48, Try.ntmps48
    go_wp2_with (first | ((with_reducible refine gate_dst (N := 2) rfl ?_); refine box_event ?hg (N := 2) ?hd (cs := #[.string a0_0, .int .i64 a0_1, .int .i64 a0_2, .int .i64 a0_3, .int .i64 a0_4]) (t := 54) ?hr ?_; (case hd => rfl); (case hg => rfl); (case hr => first | (go_simp; done) | (go_simp; rfl)); intro gb101 hg w4 hbox hb; have n0_ := Aside0.mk (below_step (by repeat (first | (with_reducible first | exact HB.out | apply below_alloc | apply pw_below_drewN | apply below_drew1) | exact HB.out)) hb); have n1_ := Aside0.mk (hbox); have n2_ := Aside0.mk ((by rw [hg]; exact (below_size (by repeat (first | (with_reducible first | exact HB.out | apply below_alloc | apply pw_below_drewN | apply below_drew1) | exact HB.out))) : w.heap.size ≤ gb101)); have n3_ := Aside0.mk ((by rw [hg]; exact (below_size (by repeat (first | (with_reducible first | exact HB.out | apply below_alloc | apply pw_below_drewN | apply below_drew1) | exact HB.out))) : w.heap.size ≤ gb101)); clear HB; have HB := n0_; have BK101 := n1_; have GW101 := n2_; have GE101 := n3_; clear n0_ n1_ n2_ n3_; clear hb hbox hg; have hcz5_0 : w4.cell? ⟨gb101, 0, none⟩ = some (.string a0_0) := (blk_cell BK101.out 0).trans rfl; have hcz5_1 : w4.cell? ⟨gb101, 1, none⟩ = some (.int .i64 a0_1) := (blk_cell BK101.out 1).trans rfl; have hcz5_2 : w4.cell? ⟨gb101, 2, none⟩ = some (.int .i64 a0_2) := (blk_cell BK101.out 2).trans rfl; have hcz5_3 : w4.cell? ⟨gb101, 3, none⟩ = some (.int .i64 a0_3) := (blk_cell BK101.out 3).trans rfl; have hcz5_4 : w4.cell? ⟨gb101, 4, none⟩ = some (.int .i64 a0_4) := (blk_cell BK101.out 4).trans rfl; have hfz5_0 := blk_frozen BK101.out 0; have hfz5_1 := blk_frozen BK101.out 1; have hfz5_2 := blk_frozen BK101.out 2; have hfz5_3 := blk_frozen BK101.out 3; have hfz5_4 := blk_frozen BK101.out 4))
    go_ret
    exact ⟨by first | rfl | (simp [errW_none, errW_some] <;> rfl) | (simp [*, errW_none, errW_some] <;> rfl), by repeat (first | (with_reducible first | exact HB.out | apply below_alloc | apply pw_below_drewN | apply below_drew1 | refine below_set ?_ GE101.out) | exact HB.out)⟩
  · rw [if_neg c3] at H
    have c3b0 : decide ((wrap64 (a1 - (a0_0.size : Int))) < 0) = false := decide_eq_false c3
    clear c3
    obtain rfl := Option.some.inj H
    go_enter Try.func48, Try.ntmps48
    go_wp2_with (first | ((with_reducible refine gate_dst (N := 2) rfl ?_); refine box_event ?hg (N := 2) ?hd (cs := #[.string a0_0, .int .i64 a0_1, .int .i64 a0_2, .int .i64 a0_3, .int .i64 a0_4]) (t := 54) ?hr ?_; (case hd => rfl); (case hg => rfl); (case hr => first | (go_simp; done) | (go_simp; rfl)); intro gb101 hg w6 hbox hb; have n0_ := Aside0.mk (below_step (by repeat (first | (with_reducible first | exact HB.out | apply below_alloc | apply pw_below_drewN | apply below_drew1) | exact HB.out)) hb); have n1_ := Aside0.mk (hbox); have n2_ := Aside0.mk ((by rw [hg]; exact (below_size (by repeat (first | (with_reducible first | exact HB.out | apply below_alloc | apply pw_below_drewN | apply below_drew1) | exact HB.out))) : w.heap.size ≤ gb101)); have n3_ := Aside0.mk ((by rw [hg]; exact (below_size (by repeat (first | (with_reducible first | exact HB.out | apply below_alloc | apply pw_below_drewN | apply below_drew1) | exact HB.out))) : w.heap.size ≤ gb101)); clear HB; have HB := n0_; have BK101 := n1_; have GW101 := n2_; have GE101 := n3_; clear n0_ n1_ n2_ n3_; clear hb hbox hg; have hcz7_0 : w6.cell? ⟨gb101, 0, none⟩ = some (.string a0_0) := (blk_cell BK101.out 0).trans rfl; have hcz7_1 : w6.cell? ⟨gb101, 1, none⟩ = some (.int .i64 a0_1) := (blk_cell BK101.out 1).trans rfl; have hcz7_2 : w6.cell? ⟨gb101, 2, none⟩ = some (.int .i64 a0_2) := (blk_cell BK101.out 2).trans rfl; have hcz7_3 : w6.cell? ⟨gb101, 3, none⟩ = some (.int .i64 a0_3) := (blk_cell BK101.out 3).trans rfl; have hcz7_4 : w6.cell? ⟨gb101, 4, none⟩ = some (.int .i64 a0_4) := (blk_cell BK101.out 4).trans rfl; have hfz7_0 := blk_frozen BK101.out 0; have hfz7_1 := blk_frozen BK101.out 1; have hfz7_2 := blk_frozen BK101.out 2; have hfz7_3 := blk_frozen BK101.out 3; have hfz7_4 := blk_frozen BK101.out 4))
    go_ret
    exact ⟨by first | rfl | (simp [errW_none, errW_some] <;> rfl) | (simp [*, errW_none, errW_some] <;> rfl), by repeat (first | (with_reducible first | exact HB.out | apply below_alloc | apply pw_below_drewN | apply below_drew1 | refine below_set ?_ GE101.out) | exact HB.out)⟩
end Go.Proofs.Yteaablbhdmkcpaa.Q
end
