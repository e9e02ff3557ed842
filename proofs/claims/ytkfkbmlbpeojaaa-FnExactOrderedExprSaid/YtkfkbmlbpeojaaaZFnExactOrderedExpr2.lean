/- Proved here: contracts of functions that the law FnExactOrderedExpr reaches, and lemmas on what they compute; texts of this session and the printed words of the kit that they lean on, cut down and put together by its program link.py. Conditions: as each states. -/
import Derived.BigQuiet
import Derived.Deep.QuietTactic
import Derived.Laws.CopyOwn
import Derived.Laws.EntriesVeiled
import Derived.Laws.MathBits
import Derived.Lib.Buffer
import Derived.Test.YtkfkbmlbpeojaaaZFnExactOrderedExpr1
section
namespace Go.Proofs.Ytkfkbmlbpeojaaa.Q
open Go.RowKit Go.Proofs.YtkfkbmlbpeojaaaW.PrintWords Go.Proofs.YtkfkbmlbpeojaaaW.PrintLast Go.Proofs.YtkfkbmlbpeojaaaW.PrintMore
attribute [local go_sem] max2_int min2_int max_two min_two max_three min_three max_four min_four
set_option linter.unusedVariables false
set_option linter.unusedSimpArgs false
mutual
def impl_compareNodes.l0 : Nat → List (S72) → List Int → Int → Int → ByteArray → Int → Int → Int → Option (Int)
 | 0, _, _, _, _, _, _, _, _ => none
 | k + 1, x0, x42, x43, x44, x105000, x105001, x105002, x105003 => if x44 < x43 then (if 0 ≤ x44 then (if x44 < (x42.length : Int) then ((impl_Node_of.f k x105000 x105001 x105002 x105003).bind fun t117 => (if x44 < (t117.length : Int) then ((impl_compareNodes.f k x0 (rd x42 x44) (rd t117 x44)).bind fun t121 => (if t121 = 0 then (impl_compareNodes.l0 k x0 x42 x43 (wrap64 (x44 + 1)) x105000 x105001 x105002 x105003) else (some t121))) else (none))) else (none)) else (none)) else (some 0)
def impl_compareNodes.f : Nat → List (S72) → Int → Int → Option (Int)
 | 0, _, _, _ => none
 | k + 1, l0, a1, a2 => if a1 = a2 then (some 0) else (if 0 ≤ a1 then (if a1 < (l0.length : Int) then (if 0 ≤ a2 then (if a2 < (l0.length : Int) then ((impl_rank.f k ((rd_T72 l0 a1).f0)).bind fun t105 => ((impl_rank.f k ((rd_T72 l0 a2).f0)).bind fun t106 => ((cmp_Compare_int.f t105 t106).bind fun t107 => ((cmp_Compare_int.f ((rd_T72 l0 a1).f3) ((rd_T72 l0 a2).f3)).bind fun t108 => ((cmp_Or_int.f k (([t107, t108] : List Int))).bind fun t112 => (if t112 = 0 then ((impl_Node_of.f k ((rd_T72 l0 a1).f0) ((rd_T72 l0 a1).f1) ((rd_T72 l0 a1).f2) ((rd_T72 l0 a1).f3)).bind fun t113 => (impl_compareNodes.l0 k l0 t113 (t113.length : Int) 0 ((rd_T72 l0 a2).f0) ((rd_T72 l0 a2).f1) ((rd_T72 l0 a2).f2) ((rd_T72 l0 a2).f3))) else (some t112))))))) else (none)) else (none)) else (none)) else (none))
end
theorem impl_compareNodes.mono_l : ∀ k, (∀ y0 y1 y2, LeO (impl_compareNodes.f k y0 y1 y2) (impl_compareNodes.f (k + 1) y0 y1 y2)) ∧ (∀ y0 y1 y2 y3 y4 y5 y6 y7, LeO (impl_compareNodes.l0 k y0 y1 y2 y3 y4 y5 y6 y7) (impl_compareNodes.l0 (k + 1) y0 y1 y2 y3 y4 y5 y6 y7))
 | 0 => ⟨fun _ _ _ r h => by simp [impl_compareNodes.f] at h, fun _ _ _ _ _ _ _ _ r h => by simp [impl_compareNodes.l0] at h⟩
 | k + 1 => by
   obtain ⟨ih0, ih1⟩ := impl_compareNodes.mono_l k
   refine ⟨?_, ?_⟩
   · intro y0 y1 y2
     unfold impl_compareNodes.f
     repeat' first
     | (with_reducible first | exact ih0 _ _ _ | exact ih1 _ _ _ _ _ _ _ _ | exact cmp_Or_int.mono _ _ | exact impl_Node_of.mono _ _ _ _ _ | exact impl_rank.mono _ _ | exact LeO.refl _ | exact LeO.none _ | refine LeO.ite ?_ ?_ | refine LeO.bind ?_ (fun _ => ?_))
     | exact LeO.none _
     | refine LeO.ite ?_ ?_
     | refine LeO.bind ?_ (fun _ => ?_)
   · intro y0 y1 y2 y3 y4 y5 y6 y7
     unfold impl_compareNodes.l0
     repeat' first
     | (with_reducible first | exact ih0 _ _ _ | exact ih1 _ _ _ _ _ _ _ _ | exact cmp_Or_int.mono _ _ | exact impl_Node_of.mono _ _ _ _ _ | exact impl_rank.mono _ _ | exact LeO.refl _ | exact LeO.none _ | refine LeO.ite ?_ ?_ | refine LeO.bind ?_ (fun _ => ?_))
     | exact LeO.none _
     | refine LeO.ite ?_ ?_
     | refine LeO.bind ?_ (fun _ => ?_)
theorem impl_compareNodes.mono : ∀ a0 a1 a2 k, LeO (impl_compareNodes.f k a0 a1 a2) (impl_compareNodes.f (k + 1) a0 a1 a2) := by
 intro a0 a1 a2 k
 obtain ⟨ih0, ih1⟩ := impl_compareNodes.mono_l k
 exact ih0 a0 a1 a2
def impl_compareNodes.T3 : Bool × List (List Nat × List Nat) := (true, [([], []), ([], []), ([0, 1], [0, 1]), ([2], [2]), ([], []), ([], []), ([4, 5], [4, 5]), ([6], [6]), ([], []), ([], []), ([8, 3, 0, 1, 2, 3, 8, 9], [3, 8]), ([9, 7, 10, 0, 1, 2, 3, 4, 5, 6, 7, 8, 9, 10], [7, 9])])
def impl_compareNodes.B3 : List Nat := [0, 0, 3, 7, 0, 0, 48, 112, 0, 0, 783, 2047]
theorem impl_compareNodes.tab3 : rtab .any (opsOf Try.f103 3) = impl_compareNodes.T3 := by kernel_rfl
theorem impl_compareNodes.bits3 : waitsOk impl_compareNodes.T3.2 impl_compareNodes.B3 = true := by kernel_rfl
def impl_compareNodes.T4 : Bool × List (List Nat × List Nat) := (true, [([], []), ([0], [0]), ([1], [1]), ([], []), ([3], [3]), ([4, 2], [4]), ([2, 5, 5], [2, 5]), ([], []), ([7], [7]), ([], []), ([9], [9]), ([8, 10, 6], [8, 10]), ([6, 11], [6, 11]), ([12, 11], [12]), ([13, 13, 0, 1, 2, 3, 4, 5, 6, 7, 8, 9, 10, 11, 12, 13], [13])])
def impl_compareNodes.B4 : List Nat := [0, 1, 3, 0, 8, 31, 63, 0, 128, 0, 512, 2047, 4095, 8191, 16383]
theorem impl_compareNodes.tab4 : rtab .any (opsOf Try.f103 4) = impl_compareNodes.T4 := by kernel_rfl
theorem impl_compareNodes.bits4 : waitsOk impl_compareNodes.T4.2 impl_compareNodes.B4 = true := by kernel_rfl
set_option maxHeartbeats 8000000 in
set_option maxRecDepth 100000 in
theorem impl_compareNodes.calls (k : Nat) : ∀ (A0 : Option Addr) (c0 : Nat) (l0 : List (S72)) (a1 : Int) (a2 : Int) (r : Int) (w : World) (hr0 : Kd.C k72 w A0 l0.length l0) (hc0 : l0.length ≤ c0) (h : impl_compareNodes.f k l0 a1 a2 = some r),
   Calls Try.prog 103 #[.slice A0 l0.length c0, .int .i64 a1, .int .i64 a2] w fun e w' => e = .returned (.int .i64 r) ∧ Below w.heap.size w w' := by
 induction k using Nat.strongRecOn with
 | _ k ih =>
 intro A0 c0 l0 a1 a2 r w hr0 hc0 h
 cases k with
 | zero => exact absurd h (by simp [impl_compareNodes.f])
 | succ k =>
 simp only [impl_compareNodes.f] at h
 have hu72 := Try.underlying72
 have HR0 := zA hr0
 have HC0 := zA hc0
 clear hr0 hc0
 have HB := zA (Below.refl w.heap.size w)
 have H : (if a1 = a2 then (some 0) else (if 0 ≤ a1 then (if a1 < (l0.length : Int) then (if 0 ≤ a2 then (if a2 < (l0.length : Int) then ((impl_rank.f k ((rd_T72 l0 a1).f0)).bind fun t105 => ((impl_rank.f k ((rd_T72 l0 a2).f0)).bind fun t106 => ((cmp_Compare_int.f t105 t106).bind fun t107 => ((cmp_Compare_int.f ((rd_T72 l0 a1).f3) ((rd_T72 l0 a2).f3)).bind fun t108 => ((cmp_Or_int.f k (([t107, t108] : List Int))).bind fun t112 => (if t112 = 0 then ((impl_Node_of.f k ((rd_T72 l0 a1).f0) ((rd_T72 l0 a1).f1) ((rd_T72 l0 a1).f2) ((rd_T72 l0 a1).f3)).bind fun t113 => (impl_compareNodes.l0 k l0 t113 (t113.length : Int) 0 ((rd_T72 l0 a2).f0) ((rd_T72 l0 a2).f1) ((rd_T72 l0 a2).f2) ((rd_T72 l0 a2).f3))) else (some t112))))))) else (none)) else (none)) else (none)) else (none))) = some r := h
 clear h
 by_cases c4 : a1 = a2
 · rw [if_pos c4] at H
   have c4b0 : (a1 == a2) = true := beq_iff_eq.mpr c4
   have c4b1 : (a1 != a2) = false := bne_eq_false_iff_eq.mpr c4
   clear c4
   obtain rfl := zsi H
   go_enter Try.func103, Try.ntmps103
   go_wp2
   go_ret
   exact ⟨by first | rfl | (simp [errW_none, errW_some] <;> rfl) | (simp [*, errW_none, errW_some] <;> rfl), by repeat (first | (with_reducible first | exact HB.out | apply zba | apply zbn | apply zbd) | exact HB.out)⟩
 rw [if_neg c4] at H
 have c4b0 : (a1 == a2) = false := beq_eq_false_iff_ne.mpr c4
 have c4b1 : (a1 != a2) = true := bne_iff_ne.mpr c4
 by_cases c5 : 0 ≤ a1
 rotate_left
 · rw [if_neg c5] at H
   exact absurd H (by simp)
 rw [if_pos c5] at H
 have c5b0 : decide (0 ≤ a1) = true := zdt c5
 clear c5
 by_cases c6 : a1 < (l0.length : Int)
 rotate_left
 · rw [if_neg c6] at H
   exact absurd H (by simp)
 rw [if_pos c6] at H
 have c6b0 : decide (a1 < (l0.length : Int)) = true := zdt c6
 clear c6
 by_cases c7 : 0 ≤ a2
 rotate_left
 · rw [if_neg c7] at H
   exact absurd H (by simp)
 rw [if_pos c7] at H
 have c7b0 : decide (0 ≤ a2) = true := zdt c7
 clear c7
 by_cases c8 : a2 < (l0.length : Int)
 rotate_left
 · rw [if_neg c8] at H
   exact absurd H (by simp)
 rw [if_pos c8] at H
 have c8b0 : decide (a2 < (l0.length : Int)) = true := zdt c8
 clear c8
 replace H := zob H
 obtain ⟨t105, A90, H⟩ := H
 replace H : ((impl_rank.f k ((rd_T72 l0 a2).f0)).bind fun t106 => ((cmp_Compare_int.f t105 t106).bind fun t107 => ((cmp_Compare_int.f ((rd_T72 l0 a1).f3) ((rd_T72 l0 a2).f3)).bind fun t108 => ((cmp_Or_int.f k (([t107, t108] : List Int))).bind fun t112 => (if t112 = 0 then ((impl_Node_of.f k ((rd_T72 l0 a1).f0) ((rd_T72 l0 a1).f1) ((rd_T72 l0 a1).f2) ((rd_T72 l0 a1).f3)).bind fun t113 => (impl_compareNodes.l0 k l0 t113 (t113.length : Int) 0 ((rd_T72 l0 a2).f0) ((rd_T72 l0 a2).f1) ((rd_T72 l0 a2).f2) ((rd_T72 l0 a2).f3))) else (some t112)))))) = some r := H
 have A9 := zA A90
 clear A90
 replace H := zob H
 obtain ⟨t106, A100, H⟩ := H
 replace H : ((cmp_Compare_int.f t105 t106).bind fun t107 => ((cmp_Compare_int.f ((rd_T72 l0 a1).f3) ((rd_T72 l0 a2).f3)).bind fun t108 => ((cmp_Or_int.f k (([t107, t108] : List Int))).bind fun t112 => (if t112 = 0 then ((impl_Node_of.f k ((rd_T72 l0 a1).f0) ((rd_T72 l0 a1).f1) ((rd_T72 l0 a1).f2) ((rd_T72 l0 a1).f3)).bind fun t113 => (impl_compareNodes.l0 k l0 t113 (t113.length : Int) 0 ((rd_T72 l0 a2).f0) ((rd_T72 l0 a2).f1) ((rd_T72 l0 a2).f2) ((rd_T72 l0 a2).f3))) else (some t112))))) = some r := H
 have A10 := zA A100
 clear A100
 replace H := zob H
 obtain ⟨t107, A110, H⟩ := H
 replace H : ((cmp_Compare_int.f ((rd_T72 l0 a1).f3) ((rd_T72 l0 a2).f3)).bind fun t108 => ((cmp_Or_int.f k (([t107, t108] : List Int))).bind fun t112 => (if t112 = 0 then ((impl_Node_of.f k ((rd_T72 l0 a1).f0) ((rd_T72 l0 a1).f1) ((rd_T72 l0 a1).f2) ((rd_T72 l0 a1).f3)).bind fun t113 => (impl_compareNodes.l0 k l0 t113 (t113.length : Int) 0 ((rd_T72 l0 a2).f0) ((rd_T72 l0 a2).f1) ((rd_T72 l0 a2).f2) ((rd_T72 l0 a2).f3))) else (some t112)))) = some r := H
 have A11 := zA A110
 clear A110
 replace H := zob H
 obtain ⟨t108, A120, H⟩ := H
 replace H : ((cmp_Or_int.f k (([t107, t108] : List Int))).bind fun t112 => (if t112 = 0 then ((impl_Node_of.f k ((rd_T72 l0 a1).f0) ((rd_T72 l0 a1).f1) ((rd_T72 l0 a1).f2) ((rd_T72 l0 a1).f3)).bind fun t113 => (impl_compareNodes.l0 k l0 t113 (t113.length : Int) 0 ((rd_T72 l0 a2).f0) ((rd_T72 l0 a2).f1) ((rd_T72 l0 a2).f2) ((rd_T72 l0 a2).f3))) else (some t112))) = some r := H
 have A12 := zA A120
 clear A120
 obtain ⟨y109, hy109⟩ : ∃ y_ : List Int, y_ = (([t107, t108] : List Int)) := ⟨_, rfl⟩
 replace H : ((cmp_Or_int.f k y109).bind fun t112 => (if t112 = 0 then ((impl_Node_of.f k ((rd_T72 l0 a1).f0) ((rd_T72 l0 a1).f1) ((rd_T72 l0 a1).f2) ((rd_T72 l0 a1).f3)).bind fun t113 => (impl_compareNodes.l0 k l0 t113 (t113.length : Int) 0 ((rd_T72 l0 a2).f0) ((rd_T72 l0 a2).f1) ((rd_T72 l0 a2).f2) ((rd_T72 l0 a2).f3))) else (some t112))) = some r := by first | (rw [hy109]; with_reducible exact H) | (have H2_ := (Option.bind_some _ _).symm.trans H; rw [hy109]; with_reducible exact H2_) | (have H2_ := (Option.bind_some _ _).symm.trans H; with_reducible exact H2_) | with_reducible exact H | (rw [hy109]; exact H) | exact H
 have Ny109 := zA hy109
 clear hy109
 replace H := zob H
 obtain ⟨t112, A130, H⟩ := H
 replace H : (if t112 = 0 then ((impl_Node_of.f k ((rd_T72 l0 a1).f0) ((rd_T72 l0 a1).f1) ((rd_T72 l0 a1).f2) ((rd_T72 l0 a1).f3)).bind fun t113 => (impl_compareNodes.l0 k l0 t113 (t113.length : Int) 0 ((rd_T72 l0 a2).f0) ((rd_T72 l0 a2).f1) ((rd_T72 l0 a2).f2) ((rd_T72 l0 a2).f3))) else (some t112)) = some r := H
 have A13 := zA A130
 clear A130
 by_cases c14 : t112 = 0
 rotate_left
 · rw [if_neg c14] at H
   have c14b0 : (t112 == 0) = false := beq_eq_false_iff_ne.mpr c14
   have c14b1 : (t112 != 0) = true := bne_iff_ne.mpr c14
   obtain rfl := zsi H
   go_enter Try.func103, Try.ntmps103
   try go_wp2
   have n0_ := zA (zbd HB.out)
   clear HB
   have HB := n0_
   clear n0_
   have p101 : 0 ≤ (a1 : Int) := zde (by assumption)
   have q101 : a1 < (l0.length : Int) := zde (by assumption)
   obtain ⟨ad101, e101, hx101_0, hx101_1, hx101_2, hx101_3⟩ := at_T72 HR0.out a1 p101 q101
   have hw101_3 := hx101_3
   have hw101_2 := hx101_2
   have hw101_1 := hx101_1
   have hw101_0 := hx101_0
   cases e101
   replace hx101_0 := zkep HB.out hx101_0
   replace hx101_1 := zkep HB.out hx101_1
   replace hx101_2 := zkep HB.out hx101_2
   replace hx101_3 := zkep HB.out hx101_3
   replace p101 := eq_true p101
   replace q101 := eq_true q101
   have p102 : 0 ≤ (a2 : Int) := zde (by assumption)
   have q102 : a2 < (l0.length : Int) := zde (by assumption)
   obtain ⟨ad102, e102, hx102_0, hx102_1, hx102_2, hx102_3⟩ := at_T72 HR0.out a2 p102 q102
   have hw102_3 := hx102_3
   have hw102_2 := hx102_2
   have hw102_1 := hx102_1
   have hw102_0 := hx102_0
   obtain rfl : ad101 = ad102 := (by injection e102)
   replace hx102_0 := zkep HB.out hx102_0
   replace hx102_1 := zkep HB.out hx102_1
   replace hx102_2 := zkep HB.out hx102_2
   replace hx102_3 := zkep HB.out hx102_3
   replace p102 := eq_true p102
   replace q102 := eq_true q102
   refine start_ (n := 12) (S := fun w' => w'.cell? (ad101.add ((a1).toNat * 4)) = some (.string ((rd_T72 l0 a1).f0)) ∧ w'.cell? ⟨(ad101.add ((a1).toNat * 4)).block, (ad101.add ((a1).toNat * 4)).off + 1, none⟩ = some (.int .i64 ((rd_T72 l0 a1).f1)) ∧ w'.cell? ⟨(ad101.add ((a1).toNat * 4)).block, (ad101.add ((a1).toNat * 4)).off + 2, none⟩ = some (.int .i64 ((rd_T72 l0 a1).f2)) ∧ w'.cell? ⟨(ad101.add ((a1).toNat * 4)).block, (ad101.add ((a1).toNat * 4)).off + 3, none⟩ = some (.int .i64 ((rd_T72 l0 a1).f3)) ∧ w'.cell? (ad101.add ((a2).toNat * 4)) = some (.string ((rd_T72 l0 a2).f0)) ∧ w'.cell? ⟨(ad101.add ((a2).toNat * 4)).block, (ad101.add ((a2).toNat * 4)).off + 1, none⟩ = some (.int .i64 ((rd_T72 l0 a2).f1)) ∧ w'.cell? ⟨(ad101.add ((a2).toNat * 4)).block, (ad101.add ((a2).toNat * 4)).off + 2, none⟩ = some (.int .i64 ((rd_T72 l0 a2).f2)) ∧ w'.cell? ⟨(ad101.add ((a2).toNat * 4)).block, (ad101.add ((a2).toNat * 4)).off + 3, none⟩ = some (.int .i64 ((rd_T72 l0 a2).f3))) (ds := []) #[false, false, false, false, false, false, false, false, false, false, false, false] (by kernel_rfl) rfl rfl ⟨(zkep HB.out hw101_0), (zkep HB.out hw101_1), (zkep HB.out hw101_2), (zkep HB.out hw101_3), (zkep HB.out hw102_0), (zkep HB.out hw102_1), (zkep HB.out hw102_2), (zkep HB.out hw102_3)⟩ (fun hHeld => ?_); refine with_tabW impl_compareNodes.tab3 impl_compareNodes.bits3 (fun HT_ HW_ => ?_)
   generalize w.drew = w56 at HB hx101_0 hx101_1 hx101_2 hx101_3 hx102_0 hx102_1 hx102_2 hx102_3 hHeld ⊢
   refine pure_ (i := 0) (N := some 16) (v := ?_) (a' := ?_) #[true, false, false, false, false, false, false, false, false, false, false, false] rfl rfl (any_of HT_.out (by kernel_rfl)) (fun _ _ _ h => h) (Or.inl ⟨by rfl, ?_⟩) ?_ ?_
   rotate_left
   · intro w'
     go_simp
     with_reducible rfl
   rotate_left
   · simp only [Act.put, List.setIfInBounds_toArray, List.set_cons_zero, List.set_cons_succ, i64_w, i32_w]
     rfl
   refine pure_ (i := 1) (N := some 17) (v := ?_) (a' := ?_) #[true, true, false, false, false, false, false, false, false, false, false, false] rfl rfl (any_of HT_.out (by kernel_rfl)) (fun _ _ _ h => h) (Or.inl ⟨by rfl, ?_⟩) ?_ ?_
   rotate_left
   · intro w'
     go_simp
     with_reducible rfl
   rotate_left
   · simp only [Act.put, List.setIfInBounds_toArray, List.set_cons_zero, List.set_cons_succ, i64_w, i32_w]
     rfl
   refine pure_ (i := 2) (N := some 18) (v := ?_) (a' := ?_) #[true, true, true, false, false, false, false, false, false, false, false, false] rfl rfl (any_of HT_.out (by kernel_rfl)) (fun _ _ _ h => h) (Or.inl ⟨by rfl, ?_⟩) ?_ ?_
   rotate_left
   · intro w'
     go_simp
     with_reducible rfl
   rotate_left
   · simp only [Act.put, List.setIfInBounds_toArray, List.set_cons_zero, List.set_cons_succ, i64_w, i32_w]
     rfl
   refine pure_ (i := 4) (N := some 20) (v := ?_) (a' := ?_) #[true, true, true, false, true, false, false, false, false, false, false, false] rfl rfl (any_of HT_.out (by kernel_rfl)) (fun _ _ _ h => h) (Or.inl ⟨by rfl, ?_⟩) ?_ ?_
   rotate_left
   · intro w'
     go_simp
     with_reducible rfl
   rotate_left
   · simp only [Act.put, List.setIfInBounds_toArray, List.set_cons_zero, List.set_cons_succ, i64_w, i32_w]
     rfl
   refine pure_ (i := 5) (N := some 21) (v := ?_) (a' := ?_) #[true, true, true, false, true, true, false, false, false, false, false, false] rfl rfl (any_of HT_.out (by kernel_rfl)) (fun _ _ _ h => h) (Or.inl ⟨by rfl, ?_⟩) ?_ ?_
   rotate_left
   · intro w'
     go_simp
     with_reducible rfl
   rotate_left
   · simp only [Act.put, List.setIfInBounds_toArray, List.set_cons_zero, List.set_cons_succ, i64_w, i32_w]
     rfl
   refine pure_ (i := 6) (N := some 22) (v := ?_) (a' := ?_) #[true, true, true, false, true, true, true, false, false, false, false, false] rfl rfl (any_of HT_.out (by kernel_rfl)) (fun _ _ _ h => h) (Or.inl ⟨by rfl, ?_⟩) ?_ ?_
   rotate_left
   · intro w'
     go_simp
     with_reducible rfl
   rotate_left
   · simp only [Act.put, List.setIfInBounds_toArray, List.set_cons_zero, List.set_cons_succ, i64_w, i32_w]
     rfl
   refine take_ (i := 3) (N := some 19) (v := ?_) (a' := ?_) #[true, true, true, true, true, true, true, false, false, false, false, false] rfl rfl (take_ofW HT_.out HW_.out (by kernel_rfl)) (fun _ _ _ h => h) (Or.inl ⟨by rfl, ?_⟩) hHeld ?_ ?_
   rotate_left
   · rintro w' ⟨s0, s1, s2, s3, s4, s5, s6, s7⟩
     go_simp
     with_reducible rfl
   rotate_left
   · simp only [Act.put, List.setIfInBounds_toArray, List.set_cons_zero, List.set_cons_succ, i64_w, i32_w]
     rfl
   refine take_ (i := 7) (N := some 23) (v := ?_) (a' := ?_) #[true, true, true, true, true, true, true, true, false, false, false, false] rfl rfl (take_ofW HT_.out HW_.out (by kernel_rfl)) (fun _ _ _ h => h) (Or.inl ⟨by rfl, ?_⟩) hHeld ?_ ?_
   rotate_left
   · rintro w' ⟨s0, s1, s2, s3, s4, s5, s6, s7⟩
     go_simp
     with_reducible rfl
   rotate_left
   · simp only [Act.put, List.setIfInBounds_toArray, List.set_cons_zero, List.set_cons_succ, i64_w, i32_w]
     rfl
   refine join_ (σ := Nat × Nat) 2 #[true, true, true, true, true, true, true, true, true, true, false, false] (fun s_ => [(7, .pointer (some ⟨s_.1, 0, none⟩)), (8, .pointer (some ⟨s_.2, 0, none⟩))]) (fun s_ w' => (w'.cell? (ad101.add ((a1).toNat * 4)) = some (.string ((rd_T72 l0 a1).f0)) ∧ w'.cell? ⟨(ad101.add ((a1).toNat * 4)).block, (ad101.add ((a1).toNat * 4)).off + 1, none⟩ = some (.int .i64 ((rd_T72 l0 a1).f1)) ∧ w'.cell? ⟨(ad101.add ((a1).toNat * 4)).block, (ad101.add ((a1).toNat * 4)).off + 2, none⟩ = some (.int .i64 ((rd_T72 l0 a1).f2)) ∧ w'.cell? ⟨(ad101.add ((a1).toNat * 4)).block, (ad101.add ((a1).toNat * 4)).off + 3, none⟩ = some (.int .i64 ((rd_T72 l0 a1).f3)) ∧ w'.cell? (ad101.add ((a2).toNat * 4)) = some (.string ((rd_T72 l0 a2).f0)) ∧ w'.cell? ⟨(ad101.add ((a2).toNat * 4)).block, (ad101.add ((a2).toNat * 4)).off + 1, none⟩ = some (.int .i64 ((rd_T72 l0 a2).f1)) ∧ w'.cell? ⟨(ad101.add ((a2).toNat * 4)).block, (ad101.add ((a2).toNat * 4)).off + 2, none⟩ = some (.int .i64 ((rd_T72 l0 a2).f2)) ∧ w'.cell? ⟨(ad101.add ((a2).toNat * 4)).block, (ad101.add ((a2).toNat * 4)).off + 3, none⟩ = some (.int .i64 ((rd_T72 l0 a2).f3))) ∧ (w'.heap[s_.1]? = some (.cells #[.string (⟨#[]⟩ : ByteArray), .int .i64 0, .int .i64 0, .int .i64 0] 72 (0, 0))) ∧ (w'.heap[s_.2]? = some (.cells #[.string (⟨#[]⟩ : ByteArray), .int .i64 0, .int .i64 0, .int .i64 0] 72 (0, 0))) ∧ (w.heap.size ≤ s_.1) ∧ (w.heap.size ≤ s_.1) ∧ (s_.2 ≠ s_.1) ∧ (s_.1 ≠ s_.2) ∧ (w.heap.size ≤ s_.2) ∧ (w.heap.size ≤ s_.2) ∧ (Below w.heap.size w w')) ?_ ?_
   rotate_left
   · intro hCont
     refine two_ (i := 8) (j := 9) (Ni := some 7) (Nj := some 8) #[true, true, true, true, true, true, true, true, true, false, false, false] #[true, true, true, true, true, true, true, true, false, true, false, false] rfl rfl rfl rfl (two_of HT_.out (by kernel_rfl)) (by decide) (by decide) (fun K hK => ?_) (fun K hK => ?_)
     · skip
       refine box_step ?hg (N := 7) ?hd (cs := #[.string (⟨#[]⟩ : ByteArray), .int .i64 0, .int .i64 0, .int .i64 0]) (t := 72) ?hr ?_; (case hd => rfl); (case hg => rfl); (case hr => go_simp <;> rfl)
       intro gb103 hg w57 hbox hb
       have n0_ := zA (below_step (by repeat (first | (with_reducible first | exact HB.out | apply zba | apply zbn | apply zbd) | exact HB.out)) hb)
       have n1_ := zA (hbox)
       have n2_ := zA ((by rw [hg]; exact (below_size (by repeat (first | (with_reducible first | exact HB.out | apply zba | apply zbn | apply zbd) | exact HB.out))) : w.heap.size ≤ gb103))
       have n3_ := zA ((by rw [hg]; exact (below_size (by repeat (first | (with_reducible first | exact HB.out | apply zba | apply zbn | apply zbd) | exact HB.out))) : w.heap.size ≤ gb103))
       clear HB
       have HB := n0_
       have BK103 := n1_
       have GW103 := n2_
       have GE103 := n3_
       clear n0_ n1_ n2_ n3_
       clear hb hbox hg
       refine hK.out _ _ ⟨(zkep HB.out hw101_0), (zkep HB.out hw101_1), (zkep HB.out hw101_2), (zkep HB.out hw101_3), (zkep HB.out hw102_0), (zkep HB.out hw102_1), (zkep HB.out hw102_2), (zkep HB.out hw102_3)⟩ (fun hHeld => ?_)
       clear hK K
       refine norm_ (a' := ?_) ?_ ?_
       rotate_left
       · show Act.put _ (some 7) _ = _
         simp only [Act.put, List.setIfInBounds_toArray, List.set_cons_zero, List.set_cons_succ, i64_w, i32_w]
         rfl
       refine one_ (i := 9) (N := some 8) #[true, true, true, true, true, true, true, true, true, true, false, false] rfl rfl (one_of HT_.out (by kernel_rfl)) (by decide) (fun K hK => ?_)
       refine box_step ?hg (N := 8) ?hd (cs := #[.string (⟨#[]⟩ : ByteArray), .int .i64 0, .int .i64 0, .int .i64 0]) (t := 72) ?hr ?_; (case hd => rfl); (case hg => rfl); (case hr => go_simp <;> rfl)
       intro gb104 hg w58 hbox hb
       have n0_ := zA (blk_below (g := gb103) (o := .cells #[.string (⟨#[]⟩ : ByteArray), .int .i64 0, .int .i64 0, .int .i64 0] 72 (0, 0)) (by (with_reducible repeat (first | refine zkn ?_ _ | refine zkd ?_ | refine zka ?_ _)); exact BK103.out) hb)
       have n1_ := zA (below_step (by repeat (first | (with_reducible first | exact HB.out | apply zba | apply zbn | apply zbd | refine below_set ?_ GE103.out) | exact HB.out)) hb)
       have n2_ := zA (hbox)
       have n3_ := zA ((by rw [hg]; exact (below_size (by repeat (first | (with_reducible first | exact HB.out | apply zba | apply zbn | apply zbd | refine below_set ?_ GE103.out) | exact HB.out))) : w.heap.size ≤ gb104))
       have n4_ := zA ((by rw [hg]; exact (below_size (by repeat (first | (with_reducible first | exact HB.out | apply zba | apply zbn | apply zbd | refine below_set ?_ GE103.out) | exact HB.out))) : w.heap.size ≤ gb104))
       have n5_ := zA ((by rw [hg]; exact Nat.ne_of_lt (zlt BK103.out (fun h => by (with_reducible repeat (first | refine zkn ?_ _ | refine zkd ?_ | refine zka ?_ _)); exact h)) : gb103 ≠ gb104))
       have n6_ := zA ((by rw [hg]; exact Nat.ne_of_gt (zlt BK103.out (fun h => by (with_reducible repeat (first | refine zkn ?_ _ | refine zkd ?_ | refine zka ?_ _)); exact h)) : gb104 ≠ gb103))
       clear BK103
       clear HB
       have BK103 := n0_
       have HB := n1_
       have BK104 := n2_
       have GW104 := n3_
       have GE104 := n4_
       have NB103_104 := n5_
       have NB104_103 := n6_
       clear n0_ n1_ n2_ n3_ n4_ n5_ n6_
       clear hb hbox hg
       refine hK.out _ _ ⟨(zkep HB.out hw101_0), (zkep HB.out hw101_1), (zkep HB.out hw101_2), (zkep HB.out hw101_3), (zkep HB.out hw102_0), (zkep HB.out hw102_1), (zkep HB.out hw102_2), (zkep HB.out hw102_3)⟩ (fun hHeld => ?_)
       clear hK K
       refine norm_ (a' := ?_) ?_ ?_
       rotate_left
       · show Act.put _ (some 8) _ = _
         simp only [Act.put, List.setIfInBounds_toArray, List.set_cons_zero, List.set_cons_succ, i64_w, i32_w]
         rfl
       exact norm_ (by simp only [putAll, Act.put, List.setIfInBounds_toArray, List.set_cons_zero, List.set_cons_succ]) (hCont (gb103, gb104) _ ⟨hHeld, (by (with_reducible repeat (first | refine zkn ?_ _ | refine zkd ?_ | refine zka ?_ _)); exact BK103.out), (by (with_reducible repeat (first | refine zkn ?_ _ | refine zkd ?_ | refine zka ?_ _)); exact BK104.out), GW103.out, GE103.out, NB104_103.out, NB103_104.out, GW104.out, GE104.out, (by repeat (first | (with_reducible first | exact HB.out | apply zba | apply zbn | apply zbd | refine below_set ?_ GE103.out | refine below_set ?_ GE104.out) | exact HB.out))⟩)
     skip
     refine box_step ?hg (N := 8) ?hd (cs := #[.string (⟨#[]⟩ : ByteArray), .int .i64 0, .int .i64 0, .int .i64 0]) (t := 72) ?hr ?_; (case hd => rfl); (case hg => rfl); (case hr => go_simp <;> rfl)
     intro gb104 hg w57 hbox hb
     have n0_ := zA (below_step (by repeat (first | (with_reducible first | exact HB.out | apply zba | apply zbn | apply zbd) | exact HB.out)) hb)
     have n1_ := zA (hbox)
     have n2_ := zA ((by rw [hg]; exact (below_size (by repeat (first | (with_reducible first | exact HB.out | apply zba | apply zbn | apply zbd) | exact HB.out))) : w.heap.size ≤ gb104))
     have n3_ := zA ((by rw [hg]; exact (below_size (by repeat (first | (with_reducible first | exact HB.out | apply zba | apply zbn | apply zbd) | exact HB.out))) : w.heap.size ≤ gb104))
     clear HB
     have HB := n0_
     have BK104 := n1_
     have GW104 := n2_
     have GE104 := n3_
     clear n0_ n1_ n2_ n3_
     clear hb hbox hg
     refine hK.out _ _ ⟨(zkep HB.out hw101_0), (zkep HB.out hw101_1), (zkep HB.out hw101_2), (zkep HB.out hw101_3), (zkep HB.out hw102_0), (zkep HB.out hw102_1), (zkep HB.out hw102_2), (zkep HB.out hw102_3)⟩ (fun hHeld => ?_)
     clear hK K
     refine norm_ (a' := ?_) ?_ ?_
     rotate_left
     · show Act.put _ (some 8) _ = _
       simp only [Act.put, List.setIfInBounds_toArray, List.set_cons_zero, List.set_cons_succ, i64_w, i32_w]
       rfl
     refine one_ (i := 8) (N := some 7) #[true, true, true, true, true, true, true, true, true, true, false, false] rfl rfl (one_of HT_.out (by kernel_rfl)) (by decide) (fun K hK => ?_)
     refine box_step ?hg (N := 7) ?hd (cs := #[.string (⟨#[]⟩ : ByteArray), .int .i64 0, .int .i64 0, .int .i64 0]) (t := 72) ?hr ?_; (case hd => rfl); (case hg => rfl); (case hr => go_simp <;> rfl)
     intro gb103 hg w58 hbox hb
     have n0_ := zA (blk_below (g := gb104) (o := .cells #[.string (⟨#[]⟩ : ByteArray), .int .i64 0, .int .i64 0, .int .i64 0] 72 (0, 0)) (by (with_reducible repeat (first | refine zkn ?_ _ | refine zkd ?_ | refine zka ?_ _)); exact BK104.out) hb)
     have n1_ := zA (below_step (by repeat (first | (with_reducible first | exact HB.out | apply zba | apply zbn | apply zbd | refine below_set ?_ GE104.out) | exact HB.out)) hb)
     have n2_ := zA (hbox)
     have n3_ := zA ((by rw [hg]; exact (below_size (by repeat (first | (with_reducible first | exact HB.out | apply zba | apply zbn | apply zbd | refine below_set ?_ GE104.out) | exact HB.out))) : w.heap.size ≤ gb103))
     have n4_ := zA ((by rw [hg]; exact (below_size (by repeat (first | (with_reducible first | exact HB.out | apply zba | apply zbn | apply zbd | refine below_set ?_ GE104.out) | exact HB.out))) : w.heap.size ≤ gb103))
     have n5_ := zA ((by rw [hg]; exact Nat.ne_of_lt (zlt BK104.out (fun h => by (with_reducible repeat (first | refine zkn ?_ _ | refine zkd ?_ | refine zka ?_ _)); exact h)) : gb104 ≠ gb103))
     have n6_ := zA ((by rw [hg]; exact Nat.ne_of_gt (zlt BK104.out (fun h => by (with_reducible repeat (first | refine zkn ?_ _ | refine zkd ?_ | refine zka ?_ _)); exact h)) : gb103 ≠ gb104))
     clear BK104
     clear HB
     have BK104 := n0_
     have HB := n1_
     have BK103 := n2_
     have GW103 := n3_
     have GE103 := n4_
     have NB104_103 := n5_
     have NB103_104 := n6_
     clear n0_ n1_ n2_ n3_ n4_ n5_ n6_
     clear hb hbox hg
     refine hK.out _ _ ⟨(zkep HB.out hw101_0), (zkep HB.out hw101_1), (zkep HB.out hw101_2), (zkep HB.out hw101_3), (zkep HB.out hw102_0), (zkep HB.out hw102_1), (zkep HB.out hw102_2), (zkep HB.out hw102_3)⟩ (fun hHeld => ?_)
     clear hK K
     refine norm_ (a' := ?_) ?_ ?_
     rotate_left
     · show Act.put _ (some 7) _ = _
       simp only [Act.put, List.setIfInBounds_toArray, List.set_cons_zero, List.set_cons_succ, i64_w, i32_w]
       rfl
     exact norm_ (by simp only [putAll, Act.put, List.setIfInBounds_toArray, List.set_cons_zero, List.set_cons_succ]) (hCont (gb103, gb104) _ ⟨hHeld, (by (with_reducible repeat (first | refine zkn ?_ _ | refine zkd ?_ | refine zka ?_ _)); exact BK103.out), (by (with_reducible repeat (first | refine zkn ?_ _ | refine zkd ?_ | refine zka ?_ _)); exact BK104.out), GW103.out, GE103.out, NB104_103.out, NB103_104.out, GW104.out, GE104.out, (by repeat (first | (with_reducible first | exact HB.out | apply zba | apply zbn | apply zbd | refine below_set ?_ GE104.out | refine below_set ?_ GE103.out) | exact HB.out))⟩)
   rintro ⟨gb103, gb104⟩ w59 ⟨hS_, h0_, h1_, h2_, h3_, h4_, h5_, h6_, h7_, h8_⟩
   have n0_ : Aside0 (w59.heap[gb103]? = some (.cells #[.string (⟨#[]⟩ : ByteArray), .int .i64 0, .int .i64 0, .int .i64 0] 72 (0, 0))) := ⟨h0_⟩
   have n1_ : Aside0 (w59.heap[gb104]? = some (.cells #[.string (⟨#[]⟩ : ByteArray), .int .i64 0, .int .i64 0, .int .i64 0] 72 (0, 0))) := ⟨h1_⟩
   have n2_ : Aside0 (w.heap.size ≤ gb103) := ⟨h2_⟩
   have n3_ : Aside0 (w.heap.size ≤ gb103) := ⟨h3_⟩
   have n4_ : Aside0 (gb104 ≠ gb103) := ⟨h4_⟩
   have n5_ : Aside0 (gb103 ≠ gb104) := ⟨h5_⟩
   have n6_ : Aside0 (w.heap.size ≤ gb104) := ⟨h6_⟩
   have n7_ : Aside0 (w.heap.size ≤ gb104) := ⟨h7_⟩
   have n8_ : Aside0 (Below w.heap.size w w59) := ⟨h8_⟩
   clear HB
   clear h0_ h1_ h2_ h3_ h4_ h5_ h6_ h7_ h8_
   have BK103 := n0_
   have BK104 := n1_
   have GW103 := n2_
   have GE103 := n3_
   have NB104_103 := n4_
   have NB103_104 := n5_
   have GW104 := n6_
   have GE104 := n7_
   have HB := n8_
   clear n0_ n1_ n2_ n3_ n4_ n5_ n6_ n7_ n8_
   have hHeld : w59.cell? (ad101.add ((a1).toNat * 4)) = some (.string ((rd_T72 l0 a1).f0)) ∧ w59.cell? ⟨(ad101.add ((a1).toNat * 4)).block, (ad101.add ((a1).toNat * 4)).off + 1, none⟩ = some (.int .i64 ((rd_T72 l0 a1).f1)) ∧ w59.cell? ⟨(ad101.add ((a1).toNat * 4)).block, (ad101.add ((a1).toNat * 4)).off + 2, none⟩ = some (.int .i64 ((rd_T72 l0 a1).f2)) ∧ w59.cell? ⟨(ad101.add ((a1).toNat * 4)).block, (ad101.add ((a1).toNat * 4)).off + 3, none⟩ = some (.int .i64 ((rd_T72 l0 a1).f3)) ∧ w59.cell? (ad101.add ((a2).toNat * 4)) = some (.string ((rd_T72 l0 a2).f0)) ∧ w59.cell? ⟨(ad101.add ((a2).toNat * 4)).block, (ad101.add ((a2).toNat * 4)).off + 1, none⟩ = some (.int .i64 ((rd_T72 l0 a2).f1)) ∧ w59.cell? ⟨(ad101.add ((a2).toNat * 4)).block, (ad101.add ((a2).toNat * 4)).off + 2, none⟩ = some (.int .i64 ((rd_T72 l0 a2).f2)) ∧ w59.cell? ⟨(ad101.add ((a2).toNat * 4)).block, (ad101.add ((a2).toNat * 4)).off + 3, none⟩ = some (.int .i64 ((rd_T72 l0 a2).f3)) := hS_
   refine norm_ (a' := ?_) ?_ ?_
   rotate_left
   · simp only [putAll, Act.put, List.setIfInBounds_toArray, List.set_cons_zero, List.set_cons_succ]
     rfl
   refine one_ (i := 10) (N := none) #[true, true, true, true, true, true, true, true, true, true, true, false] rfl rfl (one_of HT_.out (by kernel_rfl)) (by decide) (fun K hK => ?_)
   have hs60 : w59.cell? ⟨gb103, 0, none⟩ = some (.string (⟨#[]⟩ : ByteArray)) := (blk_cell BK103.out 0).trans rfl
   have hfs60 := blk_frozen BK103.out 0
   have hns60_1 := NB104_103.out
   have hms60_1 := NB103_104.out
   have hs61 : w59.cell? ⟨gb103, 1, none⟩ = some (.int .i64 0) := (blk_cell BK103.out 1).trans rfl
   have hfs61 := blk_frozen BK103.out 1
   have hns61_1 := NB104_103.out
   have hms61_1 := NB103_104.out
   have hs62 : w59.cell? ⟨gb103, 2, none⟩ = some (.int .i64 0) := (blk_cell BK103.out 2).trans rfl
   have hfs62 := blk_frozen BK103.out 2
   have hns62_1 := NB104_103.out
   have hms62_1 := NB103_104.out
   have hs63 : w59.cell? ⟨gb103, 3, none⟩ = some (.int .i64 0) := (blk_cell BK103.out 3).trans rfl
   have hfs63 := blk_frozen BK103.out 3
   have hns63_1 := NB104_103.out
   have hms63_1 := NB103_104.out
   refine skip_ (w1 := ?_) (by rfl) rfl ?_ ?_
   rotate_left
   · go_simp
     rfl
   refine hK.out _ _ ⟨((cell_far (p := ⟨gb103, _, none⟩) (zfar hw101_0 GW103.out :) _).trans (((cell_far (p := ⟨gb103, _, none⟩) (zfar hw101_0 GW103.out :) _).trans (((cell_far (p := ⟨gb103, _, none⟩) (zfar hw101_0 GW103.out :) _).trans (((cell_far (p := ⟨gb103, _, none⟩) (zfar hw101_0 GW103.out :) _).trans (hHeld.1)))))))), ((cell_far (p := ⟨gb103, _, none⟩) (zfar hw101_1 GW103.out :) _).trans (((cell_far (p := ⟨gb103, _, none⟩) (zfar hw101_1 GW103.out :) _).trans (((cell_far (p := ⟨gb103, _, none⟩) (zfar hw101_1 GW103.out :) _).trans (((cell_far (p := ⟨gb103, _, none⟩) (zfar hw101_1 GW103.out :) _).trans (hHeld.2.1)))))))), ((cell_far (p := ⟨gb103, _, none⟩) (zfar hw101_2 GW103.out :) _).trans (((cell_far (p := ⟨gb103, _, none⟩) (zfar hw101_2 GW103.out :) _).trans (((cell_far (p := ⟨gb103, _, none⟩) (zfar hw101_2 GW103.out :) _).trans (((cell_far (p := ⟨gb103, _, none⟩) (zfar hw101_2 GW103.out :) _).trans (hHeld.2.2.1)))))))), ((cell_far (p := ⟨gb103, _, none⟩) (zfar hw101_3 GW103.out :) _).trans (((cell_far (p := ⟨gb103, _, none⟩) (zfar hw101_3 GW103.out :) _).trans (((cell_far (p := ⟨gb103, _, none⟩) (zfar hw101_3 GW103.out :) _).trans (((cell_far (p := ⟨gb103, _, none⟩) (zfar hw101_3 GW103.out :) _).trans (hHeld.2.2.2.1)))))))), ((cell_far (p := ⟨gb103, _, none⟩) (zfar hw102_0 GW103.out :) _).trans (((cell_far (p := ⟨gb103, _, none⟩) (zfar hw102_0 GW103.out :) _).trans (((cell_far (p := ⟨gb103, _, none⟩) (zfar hw102_0 GW103.out :) _).trans (((cell_far (p := ⟨gb103, _, none⟩) (zfar hw102_0 GW103.out :) _).trans (hHeld.2.2.2.2.1)))))))), ((cell_far (p := ⟨gb103, _, none⟩) (zfar hw102_1 GW103.out :) _).trans (((cell_far (p := ⟨gb103, _, none⟩) (zfar hw102_1 GW103.out :) _).trans (((cell_far (p := ⟨gb103, _, none⟩) (zfar hw102_1 GW103.out :) _).trans (((cell_far (p := ⟨gb103, _, none⟩) (zfar hw102_1 GW103.out :) _).trans (hHeld.2.2.2.2.2.1)))))))), ((cell_far (p := ⟨gb103, _, none⟩) (zfar hw102_2 GW103.out :) _).trans (((cell_far (p := ⟨gb103, _, none⟩) (zfar hw102_2 GW103.out :) _).trans (((cell_far (p := ⟨gb103, _, none⟩) (zfar hw102_2 GW103.out :) _).trans (((cell_far (p := ⟨gb103, _, none⟩) (zfar hw102_2 GW103.out :) _).trans (hHeld.2.2.2.2.2.2.1)))))))), ((cell_far (p := ⟨gb103, _, none⟩) (zfar hw102_3 GW103.out :) _).trans (((cell_far (p := ⟨gb103, _, none⟩) (zfar hw102_3 GW103.out :) _).trans (((cell_far (p := ⟨gb103, _, none⟩) (zfar hw102_3 GW103.out :) _).trans (((cell_far (p := ⟨gb103, _, none⟩) (zfar hw102_3 GW103.out :) _).trans (hHeld.2.2.2.2.2.2.2))))))))⟩ (fun hHeld => ?_)
   clear hK K
   refine one_ (i := 11) (N := none) #[true, true, true, true, true, true, true, true, true, true, true, true] rfl rfl (one_of HT_.out (by kernel_rfl)) (by decide) (fun K hK => ?_)
   have hs64 : w59.cell? ⟨gb104, 0, none⟩ = some (.string (⟨#[]⟩ : ByteArray)) := (blk_cell BK104.out 0).trans rfl
   have hfs64 := blk_frozen BK104.out 0
   have hns64_0 := NB103_104.out
   have hms64_0 := NB104_103.out
   have hs65 : w59.cell? ⟨gb104, 1, none⟩ = some (.int .i64 0) := (blk_cell BK104.out 1).trans rfl
   have hfs65 := blk_frozen BK104.out 1
   have hns65_0 := NB103_104.out
   have hms65_0 := NB104_103.out
   have hs66 : w59.cell? ⟨gb104, 2, none⟩ = some (.int .i64 0) := (blk_cell BK104.out 2).trans rfl
   have hfs66 := blk_frozen BK104.out 2
   have hns66_0 := NB103_104.out
   have hms66_0 := NB104_103.out
   have hs67 : w59.cell? ⟨gb104, 3, none⟩ = some (.int .i64 0) := (blk_cell BK104.out 3).trans rfl
   have hfs67 := blk_frozen BK104.out 3
   have hns67_0 := NB103_104.out
   have hms67_0 := NB104_103.out
   refine skip_ (w1 := ?_) (by rfl) rfl ?_ ?_
   rotate_left
   · go_simp
     rfl
   refine hK.out _ _ ⟨((cell_far (p := ⟨gb104, _, none⟩) (zfar hw101_0 GW104.out :) _).trans (((cell_far (p := ⟨gb104, _, none⟩) (zfar hw101_0 GW104.out :) _).trans (((cell_far (p := ⟨gb104, _, none⟩) (zfar hw101_0 GW104.out :) _).trans (((cell_far (p := ⟨gb104, _, none⟩) (zfar hw101_0 GW104.out :) _).trans (hHeld.1)))))))), ((cell_far (p := ⟨gb104, _, none⟩) (zfar hw101_1 GW104.out :) _).trans (((cell_far (p := ⟨gb104, _, none⟩) (zfar hw101_1 GW104.out :) _).trans (((cell_far (p := ⟨gb104, _, none⟩) (zfar hw101_1 GW104.out :) _).trans (((cell_far (p := ⟨gb104, _, none⟩) (zfar hw101_1 GW104.out :) _).trans (hHeld.2.1)))))))), ((cell_far (p := ⟨gb104, _, none⟩) (zfar hw101_2 GW104.out :) _).trans (((cell_far (p := ⟨gb104, _, none⟩) (zfar hw101_2 GW104.out :) _).trans (((cell_far (p := ⟨gb104, _, none⟩) (zfar hw101_2 GW104.out :) _).trans (((cell_far (p := ⟨gb104, _, none⟩) (zfar hw101_2 GW104.out :) _).trans (hHeld.2.2.1)))))))), ((cell_far (p := ⟨gb104, _, none⟩) (zfar hw101_3 GW104.out :) _).trans (((cell_far (p := ⟨gb104, _, none⟩) (zfar hw101_3 GW104.out :) _).trans (((cell_far (p := ⟨gb104, _, none⟩) (zfar hw101_3 GW104.out :) _).trans (((cell_far (p := ⟨gb104, _, none⟩) (zfar hw101_3 GW104.out :) _).trans (hHeld.2.2.2.1)))))))), ((cell_far (p := ⟨gb104, _, none⟩) (zfar hw102_0 GW104.out :) _).trans (((cell_far (p := ⟨gb104, _, none⟩) (zfar hw102_0 GW104.out :) _).trans (((cell_far (p := ⟨gb104, _, none⟩) (zfar hw102_0 GW104.out :) _).trans (((cell_far (p := ⟨gb104, _, none⟩) (zfar hw102_0 GW104.out :) _).trans (hHeld.2.2.2.2.1)))))))), ((cell_far (p := ⟨gb104, _, none⟩) (zfar hw102_1 GW104.out :) _).trans (((cell_far (p := ⟨gb104, _, none⟩) (zfar hw102_1 GW104.out :) _).trans (((cell_far (p := ⟨gb104, _, none⟩) (zfar hw102_1 GW104.out :) _).trans (((cell_far (p := ⟨gb104, _, none⟩) (zfar hw102_1 GW104.out :) _).trans (hHeld.2.2.2.2.2.1)))))))), ((cell_far (p := ⟨gb104, _, none⟩) (zfar hw102_2 GW104.out :) _).trans (((cell_far (p := ⟨gb104, _, none⟩) (zfar hw102_2 GW104.out :) _).trans (((cell_far (p := ⟨gb104, _, none⟩) (zfar hw102_2 GW104.out :) _).trans (((cell_far (p := ⟨gb104, _, none⟩) (zfar hw102_2 GW104.out :) _).trans (hHeld.2.2.2.2.2.2.1)))))))), ((cell_far (p := ⟨gb104, _, none⟩) (zfar hw102_3 GW104.out :) _).trans (((cell_far (p := ⟨gb104, _, none⟩) (zfar hw102_3 GW104.out :) _).trans (((cell_far (p := ⟨gb104, _, none⟩) (zfar hw102_3 GW104.out :) _).trans (((cell_far (p := ⟨gb104, _, none⟩) (zfar hw102_3 GW104.out :) _).trans (hHeld.2.2.2.2.2.2.2))))))))⟩ (fun hHeld => ?_)
   clear hK K
   refine done_ (done_of HT_.out (by kernel_rfl)) ?_
   try go_wp2
   have n0_ : Aside0 (((((((((w59.setCell ⟨gb103, 0, none⟩ (.string ((rd_T72 l0 a1).f0))).setCell ⟨gb103, 1, none⟩ (.int .i64 ((rd_T72 l0 a1).f1))).setCell ⟨gb103, 2, none⟩ (.int .i64 ((rd_T72 l0 a1).f2))).setCell ⟨gb103, 3, none⟩ (.int .i64 ((rd_T72 l0 a1).f3))).setCell ⟨gb104, 0, none⟩ (.string ((rd_T72 l0 a2).f0))).setCell ⟨gb104, 1, none⟩ (.int .i64 ((rd_T72 l0 a2).f1))).setCell ⟨gb104, 2, none⟩ (.int .i64 ((rd_T72 l0 a2).f2))).setCell ⟨gb104, 3, none⟩ (.int .i64 ((rd_T72 l0 a2).f3))).heap[gb103]? = some (.cells #[.string ((rd_T72 l0 a1).f0), .int .i64 ((rd_T72 l0 a1).f1), .int .i64 ((rd_T72 l0 a1).f2), .int .i64 ((rd_T72 l0 a1).f3)] 72 (0, 0))) := ⟨by (with_reducible repeat (first | refine zkn ?_ _ | refine zkd ?_ | refine zka ?_ _)); refine blk_far ?_ NB103_104.out _; (with_reducible repeat (first | refine zkn ?_ _ | refine zkd ?_ | refine zka ?_ _)); refine blk_far ?_ NB103_104.out _; (with_reducible repeat (first | refine zkn ?_ _ | refine zkd ?_ | refine zka ?_ _)); refine blk_far ?_ NB103_104.out _; (with_reducible repeat (first | refine zkn ?_ _ | refine zkd ?_ | refine zka ?_ _)); refine blk_far ?_ NB103_104.out _; (with_reducible repeat (first | refine zkn ?_ _ | refine zkd ?_ | refine zka ?_ _)); refine blk_put (cs := #[.string ((rd_T72 l0 a1).f0), .int .i64 ((rd_T72 l0 a1).f1), .int .i64 ((rd_T72 l0 a1).f2), .int .i64 0]) ?_ 3 _ rfl; (with_reducible repeat (first | refine zkn ?_ _ | refine zkd ?_ | refine zka ?_ _)); refine blk_put (cs := #[.string ((rd_T72 l0 a1).f0), .int .i64 ((rd_T72 l0 a1).f1), .int .i64 0, .int .i64 0]) ?_ 2 _ rfl; (with_reducible repeat (first | refine zkn ?_ _ | refine zkd ?_ | refine zka ?_ _)); refine blk_put (cs := #[.string ((rd_T72 l0 a1).f0), .int .i64 0, .int .i64 0, .int .i64 0]) ?_ 1 _ rfl; (with_reducible repeat (first | refine zkn ?_ _ | refine zkd ?_ | refine zka ?_ _)); refine blk_put (cs := #[.string (⟨#[]⟩ : ByteArray), .int .i64 0, .int .i64 0, .int .i64 0]) ?_ 0 _ rfl; (with_reducible repeat (first | refine zkn ?_ _ | refine zkd ?_ | refine zka ?_ _)); exact BK103.out⟩
   have n1_ : Aside0 (((((((((w59.setCell ⟨gb103, 0, none⟩ (.string ((rd_T72 l0 a1).f0))).setCell ⟨gb103, 1, none⟩ (.int .i64 ((rd_T72 l0 a1).f1))).setCell ⟨gb103, 2, none⟩ (.int .i64 ((rd_T72 l0 a1).f2))).setCell ⟨gb103, 3, none⟩ (.int .i64 ((rd_T72 l0 a1).f3))).setCell ⟨gb104, 0, none⟩ (.string ((rd_T72 l0 a2).f0))).setCell ⟨gb104, 1, none⟩ (.int .i64 ((rd_T72 l0 a2).f1))).setCell ⟨gb104, 2, none⟩ (.int .i64 ((rd_T72 l0 a2).f2))).setCell ⟨gb104, 3, none⟩ (.int .i64 ((rd_T72 l0 a2).f3))).heap[gb104]? = some (.cells #[.string ((rd_T72 l0 a2).f0), .int .i64 ((rd_T72 l0 a2).f1), .int .i64 ((rd_T72 l0 a2).f2), .int .i64 ((rd_T72 l0 a2).f3)] 72 (0, 0))) := ⟨by (with_reducible repeat (first | refine zkn ?_ _ | refine zkd ?_ | refine zka ?_ _)); refine blk_put (cs := #[.string ((rd_T72 l0 a2).f0), .int .i64 ((rd_T72 l0 a2).f1), .int .i64 ((rd_T72 l0 a2).f2), .int .i64 0]) ?_ 3 _ rfl; (with_reducible repeat (first | refine zkn ?_ _ | refine zkd ?_ | refine zka ?_ _)); refine blk_put (cs := #[.string ((rd_T72 l0 a2).f0), .int .i64 ((rd_T72 l0 a2).f1), .int .i64 0, .int .i64 0]) ?_ 2 _ rfl; (with_reducible repeat (first | refine zkn ?_ _ | refine zkd ?_ | refine zka ?_ _)); refine blk_put (cs := #[.string ((rd_T72 l0 a2).f0), .int .i64 0, .int .i64 0, .int .i64 0]) ?_ 1 _ rfl; (with_reducible repeat (first | refine zkn ?_ _ | refine zkd ?_ | refine zka ?_ _)); refine blk_put (cs := #[.string (⟨#[]⟩ : ByteArray), .int .i64 0, .int .i64 0, .int .i64 0]) ?_ 0 _ rfl; (with_reducible repeat (first | refine zkn ?_ _ | refine zkd ?_ | refine zka ?_ _)); refine blk_far ?_ NB104_103.out _; (with_reducible repeat (first | refine zkn ?_ _ | refine zkd ?_ | refine zka ?_ _)); refine blk_far ?_ NB104_103.out _; (with_reducible repeat (first | refine zkn ?_ _ | refine zkd ?_ | refine zka ?_ _)); refine blk_far ?_ NB104_103.out _; (with_reducible repeat (first | refine zkn ?_ _ | refine zkd ?_ | refine zka ?_ _)); refine blk_far ?_ NB104_103.out _; (with_reducible repeat (first | refine zkn ?_ _ | refine zkd ?_ | refine zka ?_ _)); exact BK104.out⟩
   have n2_ : Aside0 (Below w.heap.size w ((((((((w59.setCell ⟨gb103, 0, none⟩ (.string ((rd_T72 l0 a1).f0))).setCell ⟨gb103, 1, none⟩ (.int .i64 ((rd_T72 l0 a1).f1))).setCell ⟨gb103, 2, none⟩ (.int .i64 ((rd_T72 l0 a1).f2))).setCell ⟨gb103, 3, none⟩ (.int .i64 ((rd_T72 l0 a1).f3))).setCell ⟨gb104, 0, none⟩ (.string ((rd_T72 l0 a2).f0))).setCell ⟨gb104, 1, none⟩ (.int .i64 ((rd_T72 l0 a2).f1))).setCell ⟨gb104, 2, none⟩ (.int .i64 ((rd_T72 l0 a2).f2))).setCell ⟨gb104, 3, none⟩ (.int .i64 ((rd_T72 l0 a2).f3)))) := ⟨by repeat (first | (with_reducible first | exact HB.out | apply zba | apply zbn | apply zbd | refine below_set ?_ GE103.out | refine below_set ?_ GE104.out) | exact HB.out)⟩
   (try clear BK103)
   (try clear BK104)
   (try clear HB)
   generalize ((((((((w59.setCell ⟨gb103, 0, none⟩ (.string ((rd_T72 l0 a1).f0))).setCell ⟨gb103, 1, none⟩ (.int .i64 ((rd_T72 l0 a1).f1))).setCell ⟨gb103, 2, none⟩ (.int .i64 ((rd_T72 l0 a1).f2))).setCell ⟨gb103, 3, none⟩ (.int .i64 ((rd_T72 l0 a1).f3))).setCell ⟨gb104, 0, none⟩ (.string ((rd_T72 l0 a2).f0))).setCell ⟨gb104, 1, none⟩ (.int .i64 ((rd_T72 l0 a2).f1))).setCell ⟨gb104, 2, none⟩ (.int .i64 ((rd_T72 l0 a2).f2))).setCell ⟨gb104, 3, none⟩ (.int .i64 ((rd_T72 l0 a2).f3))) = w68 at n0_ n1_ n2_ ⊢
   have BK103 := n0_
   have BK104 := n1_
   have HB := n2_
   clear n0_ n1_ n2_
   have n0_ := zA (zkd BK103.out)
   have n1_ := zA (zkd BK104.out)
   have n2_ := zA (zbd HB.out)
   clear BK103
   clear BK104
   clear HB
   have BK103 := n0_
   have BK104 := n1_
   have HB := n2_
   clear n0_ n1_ n2_
   refine start_ (n := 15) (S := fun w' => w'.cell? ⟨gb103, 0, none⟩ = some (.string ((rd_T72 l0 a1).f0)) ∧ w'.cell? ⟨gb103, 1, none⟩ = some (.int .i64 ((rd_T72 l0 a1).f1)) ∧ w'.cell? ⟨gb103, 2, none⟩ = some (.int .i64 ((rd_T72 l0 a1).f2)) ∧ w'.cell? ⟨gb103, 3, none⟩ = some (.int .i64 ((rd_T72 l0 a1).f3)) ∧ w'.cell? ⟨gb104, 0, none⟩ = some (.string ((rd_T72 l0 a2).f0)) ∧ w'.cell? ⟨gb104, 1, none⟩ = some (.int .i64 ((rd_T72 l0 a2).f1)) ∧ w'.cell? ⟨gb104, 2, none⟩ = some (.int .i64 ((rd_T72 l0 a2).f2)) ∧ w'.cell? ⟨gb104, 3, none⟩ = some (.int .i64 ((rd_T72 l0 a2).f3))) (ds := []) #[false, false, false, false, false, false, false, false, false, false, false, false, false, false, false] (by kernel_rfl) rfl rfl ⟨(blk_cell BK103.out 0).trans rfl, (blk_cell BK103.out 1).trans rfl, (blk_cell BK103.out 2).trans rfl, (blk_cell BK103.out 3).trans rfl, (blk_cell BK104.out 0).trans rfl, (blk_cell BK104.out 1).trans rfl, (blk_cell BK104.out 2).trans rfl, (blk_cell BK104.out 3).trans rfl⟩ (fun hHeld => ?_); refine with_tabW impl_compareNodes.tab4 impl_compareNodes.bits4 (fun HT_ HW_ => ?_)
   generalize w68.drew = w69 at BK103 BK104 HB hHeld ⊢
   refine pure_ (i := 0) (N := some 24) (v := ?_) (a' := ?_) #[true, false, false, false, false, false, false, false, false, false, false, false, false, false, false] rfl rfl (any_of HT_.out (by kernel_rfl)) (fun _ _ _ h => h) (Or.inl ⟨by rfl, ?_⟩) ?_ ?_
   rotate_left
   · intro w'
     go_simp
     with_reducible rfl
   rotate_left
   · simp only [Act.put, List.setIfInBounds_toArray, List.set_cons_zero, List.set_cons_succ, i64_w, i32_w]
     rfl
   refine pure_ (i := 3) (N := some 27) (v := ?_) (a' := ?_) #[true, false, false, true, false, false, false, false, false, false, false, false, false, false, false] rfl rfl (any_of HT_.out (by kernel_rfl)) (fun _ _ _ h => h) (Or.inl ⟨by rfl, ?_⟩) ?_ ?_
   rotate_left
   · intro w'
     go_simp
     with_reducible rfl
   rotate_left
   · simp only [Act.put, List.setIfInBounds_toArray, List.set_cons_zero, List.set_cons_succ, i64_w, i32_w]
     rfl
   refine pure_ (i := 7) (N := some 31) (v := ?_) (a' := ?_) #[true, false, false, true, false, false, false, true, false, false, false, false, false, false, false] rfl rfl (any_of HT_.out (by kernel_rfl)) (fun _ _ _ h => h) (Or.inl ⟨by rfl, ?_⟩) ?_ ?_
   rotate_left
   · intro w'
     go_simp
     with_reducible rfl
   rotate_left
   · simp only [Act.put, List.setIfInBounds_toArray, List.set_cons_zero, List.set_cons_succ, i64_w, i32_w]
     rfl
   refine pure_ (i := 9) (N := some 33) (v := ?_) (a' := ?_) #[true, false, false, true, false, false, false, true, false, true, false, false, false, false, false] rfl rfl (any_of HT_.out (by kernel_rfl)) (fun _ _ _ h => h) (Or.inl ⟨by rfl, ?_⟩) ?_ ?_
   rotate_left
   · intro w'
     go_simp
     with_reducible rfl
   rotate_left
   · simp only [Act.put, List.setIfInBounds_toArray, List.set_cons_zero, List.set_cons_succ, i64_w, i32_w]
     rfl
   refine take_ (i := 1) (N := some 25) (v := ?_) (a' := ?_) #[true, true, false, true, false, false, false, true, false, true, false, false, false, false, false] rfl rfl (take_ofW HT_.out HW_.out (by kernel_rfl)) (fun _ _ _ h => h) (Or.inl ⟨by rfl, ?_⟩) hHeld ?_ ?_
   rotate_left
   · rintro w' ⟨s0, s1, s2, s3, s4, s5, s6, s7⟩
     go_simp
     with_reducible rfl
   rotate_left
   · simp only [Act.put, List.setIfInBounds_toArray, List.set_cons_zero, List.set_cons_succ, i64_w, i32_w]
     rfl
   refine take_ (i := 4) (N := some 28) (v := ?_) (a' := ?_) #[true, true, false, true, true, false, false, true, false, true, false, false, false, false, false] rfl rfl (take_ofW HT_.out HW_.out (by kernel_rfl)) (fun _ _ _ h => h) (Or.inl ⟨by rfl, ?_⟩) hHeld ?_ ?_
   rotate_left
   · rintro w' ⟨s0, s1, s2, s3, s4, s5, s6, s7⟩
     go_simp
     with_reducible rfl
   rotate_left
   · simp only [Act.put, List.setIfInBounds_toArray, List.set_cons_zero, List.set_cons_succ, i64_w, i32_w]
     rfl
   refine take_ (i := 8) (N := some 32) (v := ?_) (a' := ?_) #[true, true, false, true, true, false, false, true, true, true, false, false, false, false, false] rfl rfl (take_ofW HT_.out HW_.out (by kernel_rfl)) (fun _ _ _ h => h) (Or.inl ⟨by rfl, ?_⟩) hHeld ?_ ?_
   rotate_left
   · rintro w' ⟨s0, s1, s2, s3, s4, s5, s6, s7⟩
     go_simp
     with_reducible rfl
   rotate_left
   · simp only [Act.put, List.setIfInBounds_toArray, List.set_cons_zero, List.set_cons_succ, i64_w, i32_w]
     rfl
   refine take_ (i := 10) (N := some 34) (v := ?_) (a' := ?_) #[true, true, false, true, true, false, false, true, true, true, true, false, false, false, false] rfl rfl (take_ofW HT_.out HW_.out (by kernel_rfl)) (fun _ _ _ h => h) (Or.inl ⟨by rfl, ?_⟩) hHeld ?_ ?_
   rotate_left
   · rintro w' ⟨s0, s1, s2, s3, s4, s5, s6, s7⟩
     go_simp
     with_reducible rfl
   rotate_left
   · simp only [Act.put, List.setIfInBounds_toArray, List.set_cons_zero, List.set_cons_succ, i64_w, i32_w]
     rfl
   refine one_ (i := 2) (N := some 26) #[true, true, true, true, true, false, false, true, true, true, true, false, false, false, false] rfl rfl (one_of HT_.out (by kernel_rfl)) (by decide) (fun K hK => ?_)
   refine goes_ Try.func156 (by kernel_rfl) rfl #[.string ((rd_T72 l0 a1).f0)] (by rfl) rfl rfl (by (try simp only [List.map_toArray, List.map_cons, List.map_nil]); first | done | rfl | (simp only [List.length_drop, List.length_take]; rfl)) ?_
   with_reducible refine (impl_rank.calls k ((rd_T72 l0 a1).f0) t105 _ A9.out).mono ?_
   rintro e w70 ⟨rfl, hb⟩
   refine ⟨_, rfl, ?_⟩
   have n0_ := zA (blk_below (g := gb103) (o := .cells #[.string ((rd_T72 l0 a1).f0), .int .i64 ((rd_T72 l0 a1).f1), .int .i64 ((rd_T72 l0 a1).f2), .int .i64 ((rd_T72 l0 a1).f3)] 72 (0, 0)) (by (with_reducible repeat (first | refine zkn ?_ _ | refine zkd ?_ | refine zka ?_ _)); exact BK103.out) hb)
   have n1_ := zA (blk_below (g := gb104) (o := .cells #[.string ((rd_T72 l0 a2).f0), .int .i64 ((rd_T72 l0 a2).f1), .int .i64 ((rd_T72 l0 a2).f2), .int .i64 ((rd_T72 l0 a2).f3)] 72 (0, 0)) (by (with_reducible repeat (first | refine zkn ?_ _ | refine zkd ?_ | refine zka ?_ _)); exact BK104.out) hb)
   have n2_ := zA (below_step (by repeat (first | (with_reducible first | exact HB.out | apply zba | apply zbn | apply zbd | refine below_set ?_ GE103.out | refine below_set ?_ GE104.out) | exact HB.out)) hb)
   clear BK103
   clear BK104
   clear HB
   have BK103 := n0_
   have BK104 := n1_
   have HB := n2_
   clear n0_ n1_ n2_
   (try clear hb)
   (try clear hb2)
   (try clear hk)
   (try clear hi)
   refine hK.out _ _ ⟨(blk_cell BK103.out 0).trans rfl, (blk_cell BK103.out 1).trans rfl, (blk_cell BK103.out 2).trans rfl, (blk_cell BK103.out 3).trans rfl, (blk_cell BK104.out 0).trans rfl, (blk_cell BK104.out 1).trans rfl, (blk_cell BK104.out 2).trans rfl, (blk_cell BK104.out 3).trans rfl⟩ (fun hHeld => ?_)
   clear hK K
   refine norm_ (a' := ?_) ?_ ?_
   rotate_left
   · show Act.put _ (some 26) _ = _
     simp only [Act.put, List.setIfInBounds_toArray, List.set_cons_zero, List.set_cons_succ, i64_w, i32_w]
     rfl
   refine one_ (i := 5) (N := some 29) #[true, true, true, true, true, true, false, true, true, true, true, false, false, false, false] rfl rfl (one_of HT_.out (by kernel_rfl)) (by decide) (fun K hK => ?_)
   refine goes_ Try.func156 (by kernel_rfl) rfl #[.string ((rd_T72 l0 a2).f0)] (by rfl) rfl rfl (by (try simp only [List.map_toArray, List.map_cons, List.map_nil]); first | done | rfl | (simp only [List.length_drop, List.length_take]; rfl)) ?_
   with_reducible refine (impl_rank.calls k ((rd_T72 l0 a2).f0) t106 _ A10.out).mono ?_
   rintro e w71 ⟨rfl, hb⟩
   refine ⟨_, rfl, ?_⟩
   have n0_ := zA (blk_below (g := gb103) (o := .cells #[.string ((rd_T72 l0 a1).f0), .int .i64 ((rd_T72 l0 a1).f1), .int .i64 ((rd_T72 l0 a1).f2), .int .i64 ((rd_T72 l0 a1).f3)] 72 (0, 0)) (by (with_reducible repeat (first | refine zkn ?_ _ | refine zkd ?_ | refine zka ?_ _)); exact BK103.out) hb)
   have n1_ := zA (blk_below (g := gb104) (o := .cells #[.string ((rd_T72 l0 a2).f0), .int .i64 ((rd_T72 l0 a2).f1), .int .i64 ((rd_T72 l0 a2).f2), .int .i64 ((rd_T72 l0 a2).f3)] 72 (0, 0)) (by (with_reducible repeat (first | refine zkn ?_ _ | refine zkd ?_ | refine zka ?_ _)); exact BK104.out) hb)
   have n2_ := zA (below_step (by repeat (first | (with_reducible first | exact HB.out | apply zba | apply zbn | apply zbd | refine below_set ?_ GE103.out | refine below_set ?_ GE104.out) | exact HB.out)) hb)
   clear BK103
   clear BK104
   clear HB
   have BK103 := n0_
   have BK104 := n1_
   have HB := n2_
   clear n0_ n1_ n2_
   (try clear hb)
   (try clear hb2)
   (try clear hk)
   (try clear hi)
   refine hK.out _ _ ⟨(blk_cell BK103.out 0).trans rfl, (blk_cell BK103.out 1).trans rfl, (blk_cell BK103.out 2).trans rfl, (blk_cell BK103.out 3).trans rfl, (blk_cell BK104.out 0).trans rfl, (blk_cell BK104.out 1).trans rfl, (blk_cell BK104.out 2).trans rfl, (blk_cell BK104.out 3).trans rfl⟩ (fun hHeld => ?_)
   clear hK K
   refine norm_ (a' := ?_) ?_ ?_
   rotate_left
   · show Act.put _ (some 29) _ = _
     simp only [Act.put, List.setIfInBounds_toArray, List.set_cons_zero, List.set_cons_succ, i64_w, i32_w]
     rfl
   refine one_ (i := 6) (N := some 30) #[true, true, true, true, true, true, true, true, true, true, true, false, false, false, false] rfl rfl (one_of HT_.out (by kernel_rfl)) (by decide) (fun K hK => ?_)
   refine goes_ Try.func155 (by kernel_rfl) rfl #[.int .i64 t105, .int .i64 t106] (by rfl) rfl rfl (by (try simp only [List.map_toArray, List.map_cons, List.map_nil]); first | done | rfl | (simp only [List.length_drop, List.length_take]; rfl)) ?_
   with_reducible refine (cmp_Compare_int.calls t105 t106 t107 _ A11.out).mono ?_
   rintro e w' ⟨rfl, ⟨nd, rfl⟩⟩
   refine ⟨_, rfl, ?_⟩
   refine hK.out _ _ ⟨(blk_cell BK103.out 0).trans rfl, (blk_cell BK103.out 1).trans rfl, (blk_cell BK103.out 2).trans rfl, (blk_cell BK103.out 3).trans rfl, (blk_cell BK104.out 0).trans rfl, (blk_cell BK104.out 1).trans rfl, (blk_cell BK104.out 2).trans rfl, (blk_cell BK104.out 3).trans rfl⟩ (fun hHeld => ?_)
   clear hK K
   refine norm_ (a' := ?_) ?_ ?_
   rotate_left
   · show Act.put _ (some 30) _ = _
     simp only [Act.put, List.setIfInBounds_toArray, List.set_cons_zero, List.set_cons_succ, i64_w, i32_w]
     rfl
   refine one_ (i := 11) (N := some 35) #[true, true, true, true, true, true, true, true, true, true, true, true, false, false, false] rfl rfl (one_of HT_.out (by kernel_rfl)) (by decide) (fun K hK => ?_)
   refine goes_ Try.func155 (by kernel_rfl) rfl #[.int .i64 ((rd_T72 l0 a1).f3), .int .i64 ((rd_T72 l0 a2).f3)] (by rfl) rfl rfl (by (try simp only [List.map_toArray, List.map_cons, List.map_nil]); first | done | rfl | (simp only [List.length_drop, List.length_take]; rfl)) ?_
   with_reducible refine (cmp_Compare_int.calls ((rd_T72 l0 a1).f3) ((rd_T72 l0 a2).f3) t108 _ A12.out).mono ?_
   rintro e w' ⟨rfl, ⟨nd, rfl⟩⟩
   refine ⟨_, rfl, ?_⟩
   refine hK.out _ _ ⟨(blk_cell BK103.out 0).trans rfl, (blk_cell BK103.out 1).trans rfl, (blk_cell BK103.out 2).trans rfl, (blk_cell BK103.out 3).trans rfl, (blk_cell BK104.out 0).trans rfl, (blk_cell BK104.out 1).trans rfl, (blk_cell BK104.out 2).trans rfl, (blk_cell BK104.out 3).trans rfl⟩ (fun hHeld => ?_)
   clear hK K
   refine norm_ (a' := ?_) ?_ ?_
   rotate_left
   · show Act.put _ (some 35) _ = _
     simp only [Act.put, List.setIfInBounds_toArray, List.set_cons_zero, List.set_cons_succ, i64_w, i32_w]
     rfl
   refine one_ (i := 12) (N := some 36) #[true, true, true, true, true, true, true, true, true, true, true, true, true, false, false] rfl rfl (one_of HT_.out (by kernel_rfl)) (by decide) (fun K hK => ?_)
   refine Kd.R_lit_step (Kd.int .i64) _ 3 ?hg (N := 36) ?hd (xs := ([t107, t108] : List Int)) (inner := [.int .i64 t107, .int .i64 t108]) (ok := fun _ => True) (okp := fun _ => True) ?hr ?hp (fun _ hk => hk) trivial (Below.refl _ _) (zlr _) (by simp) ?_; (case hd => rfl); (case hg => rfl); (case hr => go_simp <;> rfl); (case hp => exact (Reps.one (show Kd.M (Kd.int .i64) _ _ _ t107 [.int .i64 t107] from rfl) (Reps.one (show Kd.M (Kd.int .i64) _ _ _ t108 [.int .i64 t108] from rfl) (Reps.none _ _))))
   intro v110 w72 ho73 hb hg_ hnew_
   clear hg_ hnew_
   (first | rw [← Ny109.out] at ho73 | (simp only [Int.reduceToNat] at ho73; rw [← Ny109.out] at ho73))
   have n0_ := zA (Kd.R_lower ho73 (below_size (by repeat (first | (with_reducible first | exact HB.out | apply zba | apply zbn | apply zbd | refine below_set ?_ GE103.out | refine below_set ?_ GE104.out) | exact HB.out))))
   have n1_ := zA (blk_below (g := gb103) (o := .cells #[.string ((rd_T72 l0 a1).f0), .int .i64 ((rd_T72 l0 a1).f1), .int .i64 ((rd_T72 l0 a1).f2), .int .i64 ((rd_T72 l0 a1).f3)] 72 (0, 0)) (by (with_reducible repeat (first | refine zkn ?_ _ | refine zkd ?_ | refine zka ?_ _)); exact BK103.out) hb)
   have n2_ := zA (blk_below (g := gb104) (o := .cells #[.string ((rd_T72 l0 a2).f0), .int .i64 ((rd_T72 l0 a2).f1), .int .i64 ((rd_T72 l0 a2).f2), .int .i64 ((rd_T72 l0 a2).f3)] 72 (0, 0)) (by (with_reducible repeat (first | refine zkn ?_ _ | refine zkd ?_ | refine zka ?_ _)); exact BK104.out) hb)
   have n3_ := zA (below_step (by repeat (first | (with_reducible first | exact HB.out | apply zba | apply zbn | apply zbd | refine below_set ?_ GE103.out | refine below_set ?_ GE104.out) | exact HB.out)) hb)
   clear BK103
   clear BK104
   clear HB
   have HO111 := n0_
   have BK103 := n1_
   have BK104 := n2_
   have HB := n3_
   clear n0_ n1_ n2_ n3_
   clear hb ho73
   obtain ⟨Ao74, co74, eo74⟩ := Kd.R_slice HO111.out
   (first | subst eo74 | (injection eo74 with f1_ f2_ f3_; have f4_ := f1_.symm; have f5_ := f3_.symm; clear f1_ f2_ f3_; subst f4_; subst f5_))
   refine hK.out _ _ ⟨(blk_cell BK103.out 0).trans rfl, (blk_cell BK103.out 1).trans rfl, (blk_cell BK103.out 2).trans rfl, (blk_cell BK103.out 3).trans rfl, (blk_cell BK104.out 0).trans rfl, (blk_cell BK104.out 1).trans rfl, (blk_cell BK104.out 2).trans rfl, (blk_cell BK104.out 3).trans rfl⟩ (fun hHeld => ?_)
   clear hK K
   refine norm_ (a' := ?_) ?_ ?_
   rotate_left
   · show Act.put _ (some 36) _ = _
     simp only [Act.put, List.setIfInBounds_toArray, List.set_cons_zero, List.set_cons_succ, i64_w, i32_w]
     rfl
   refine one_ (i := 13) (N := some 37) #[true, true, true, true, true, true, true, true, true, true, true, true, true, true, false] rfl rfl (one_of HT_.out (by kernel_rfl)) (by decide) (fun K hK => ?_)
   refine goes_ Try.func154 (by kernel_rfl) rfl #[.slice Ao74 y109.length co74] (by rfl) rfl rfl (by (try simp only [List.map_toArray, List.map_cons, List.map_nil]); first | done | rfl | (simp only [List.length_drop, List.length_take]; rfl)) ?_
   with_reducible refine (cmp_Or_int.calls k _ _ y109 t112 _ ?side1 ?side2 A13.out).mono ?_
   (case side1 => repeat (first | exact (zRr HO111.out).2.2 | (with_reducible first | refine zCa ?_ _ | refine zCn ?_ _ | refine zCd ?_)))
   (case side2 => exact (zRr HO111.out).2.1)
   rintro e w' ⟨rfl, ⟨nd, rfl⟩⟩
   refine ⟨_, rfl, ?_⟩
   refine hK.out _ _ ⟨(blk_cell BK103.out 0).trans rfl, (blk_cell BK103.out 1).trans rfl, (blk_cell BK103.out 2).trans rfl, (blk_cell BK103.out 3).trans rfl, (blk_cell BK104.out 0).trans rfl, (blk_cell BK104.out 1).trans rfl, (blk_cell BK104.out 2).trans rfl, (blk_cell BK104.out 3).trans rfl⟩ (fun hHeld => ?_)
   clear hK K
   refine norm_ (a' := ?_) ?_ ?_
   rotate_left
   · show Act.put _ (some 37) _ = _
     simp only [Act.put, List.setIfInBounds_toArray, List.set_cons_zero, List.set_cons_succ, i64_w, i32_w]
     rfl
   refine pure_ (i := 14) (N := some 9) (v := ?_) (a' := ?_) #[true, true, true, true, true, true, true, true, true, true, true, true, true, true, true] rfl rfl (any_of HT_.out (by kernel_rfl)) (fun _ _ _ h => h) (Or.inl ⟨by rfl, ?_⟩) ?_ ?_
   rotate_left
   · intro w'
     go_simp
     with_reducible rfl
   rotate_left
   · simp only [Act.put, List.setIfInBounds_toArray, List.set_cons_zero, List.set_cons_succ, i64_w, i32_w]
     rfl
   refine done_ (done_of HT_.out (by kernel_rfl)) ?_
   (try (rw [drewN_self w72]; generalize hq_ : World.drewN w72 _ = w72; have n0_ := zA (Kd.R_at hq_ HO111.out); have n1_ := zA (blk_at hq_ BK103.out); have n2_ := zA (blk_at hq_ BK104.out); have n3_ := zA (below_at hq_ HB.out); clear hq_ HO111 BK103 BK104 HB; have HO111 := n0_; have BK103 := n1_; have BK104 := n2_; have HB := n3_; clear n0_ n1_ n2_ n3_))
   try go_wp2
   go_ret
   exact ⟨by first | rfl | (simp [errW_none, errW_some] <;> rfl) | (simp [*, errW_none, errW_some] <;> rfl), by repeat (first | (with_reducible first | exact HB.out | apply zba | apply zbn | apply zbd | refine below_set ?_ GE103.out | refine below_set ?_ GE104.out) | exact HB.out)⟩
 rw [if_pos c14] at H
 have c14b0 : (t112 == 0) = true := beq_iff_eq.mpr c14
 have c14b1 : (t112 != 0) = false := bne_eq_false_iff_eq.mpr c14
 clear c14
 replace H := zob H
 obtain ⟨t113, A150, H⟩ := H
 replace H : (impl_compareNodes.l0 k l0 t113 (t113.length : Int) 0 ((rd_T72 l0 a2).f0) ((rd_T72 l0 a2).f1) ((rd_T72 l0 a2).f2) ((rd_T72 l0 a2).f3)) = some r := H
 have A15 := zA A150
 clear A150
 have H' := zA H
 clear H
 go_enter Try.func103, Try.ntmps103
 try go_wp2
 have n0_ := zA (zbd HB.out)
 clear HB
 have HB := n0_
 clear n0_
 have p101 : 0 ≤ (a1 : Int) := zde (by assumption)
 have q101 : a1 < (l0.length : Int) := zde (by assumption)
 obtain ⟨ad101, e101, hx101_0, hx101_1, hx101_2, hx101_3⟩ := at_T72 HR0.out a1 p101 q101
 have hw101_3 := hx101_3
 have hw101_2 := hx101_2
 have hw101_1 := hx101_1
 have hw101_0 := hx101_0
 cases e101
 replace hx101_0 := zkep HB.out hx101_0
 replace hx101_1 := zkep HB.out hx101_1
 replace hx101_2 := zkep HB.out hx101_2
 replace hx101_3 := zkep HB.out hx101_3
 replace p101 := eq_true p101
 replace q101 := eq_true q101
 have p102 : 0 ≤ (a2 : Int) := zde (by assumption)
 have q102 : a2 < (l0.length : Int) := zde (by assumption)
 obtain ⟨ad102, e102, hx102_0, hx102_1, hx102_2, hx102_3⟩ := at_T72 HR0.out a2 p102 q102
 have hw102_3 := hx102_3
 have hw102_2 := hx102_2
 have hw102_1 := hx102_1
 have hw102_0 := hx102_0
 obtain rfl : ad101 = ad102 := (by injection e102)
 replace hx102_0 := zkep HB.out hx102_0
 replace hx102_1 := zkep HB.out hx102_1
 replace hx102_2 := zkep HB.out hx102_2
 replace hx102_3 := zkep HB.out hx102_3
 replace p102 := eq_true p102
 replace q102 := eq_true q102
 refine start_ (n := 12) (S := fun w' => w'.cell? (ad101.add ((a1).toNat * 4)) = some (.string ((rd_T72 l0 a1).f0)) ∧ w'.cell? ⟨(ad101.add ((a1).toNat * 4)).block, (ad101.add ((a1).toNat * 4)).off + 1, none⟩ = some (.int .i64 ((rd_T72 l0 a1).f1)) ∧ w'.cell? ⟨(ad101.add ((a1).toNat * 4)).block, (ad101.add ((a1).toNat * 4)).off + 2, none⟩ = some (.int .i64 ((rd_T72 l0 a1).f2)) ∧ w'.cell? ⟨(ad101.add ((a1).toNat * 4)).block, (ad101.add ((a1).toNat * 4)).off + 3, none⟩ = some (.int .i64 ((rd_T72 l0 a1).f3)) ∧ w'.cell? (ad101.add ((a2).toNat * 4)) = some (.string ((rd_T72 l0 a2).f0)) ∧ w'.cell? ⟨(ad101.add ((a2).toNat * 4)).block, (ad101.add ((a2).toNat * 4)).off + 1, none⟩ = some (.int .i64 ((rd_T72 l0 a2).f1)) ∧ w'.cell? ⟨(ad101.add ((a2).toNat * 4)).block, (ad101.add ((a2).toNat * 4)).off + 2, none⟩ = some (.int .i64 ((rd_T72 l0 a2).f2)) ∧ w'.cell? ⟨(ad101.add ((a2).toNat * 4)).block, (ad101.add ((a2).toNat * 4)).off + 3, none⟩ = some (.int .i64 ((rd_T72 l0 a2).f3))) (ds := []) #[false, false, false, false, false, false, false, false, false, false, false, false] (by kernel_rfl) rfl rfl ⟨(zkep HB.out hw101_0), (zkep HB.out hw101_1), (zkep HB.out hw101_2), (zkep HB.out hw101_3), (zkep HB.out hw102_0), (zkep HB.out hw102_1), (zkep HB.out hw102_2), (zkep HB.out hw102_3)⟩ (fun hHeld => ?_); refine with_tabW impl_compareNodes.tab3 impl_compareNodes.bits3 (fun HT_ HW_ => ?_)
 generalize w.drew = w16 at HB hx101_0 hx101_1 hx101_2 hx101_3 hx102_0 hx102_1 hx102_2 hx102_3 hHeld ⊢
 refine pure_ (i := 0) (N := some 16) (v := ?_) (a' := ?_) #[true, false, false, false, false, false, false, false, false, false, false, false] rfl rfl (any_of HT_.out (by kernel_rfl)) (fun _ _ _ h => h) (Or.inl ⟨by rfl, ?_⟩) ?_ ?_
 rotate_left
 · intro w'
   go_simp
   with_reducible rfl
 rotate_left
 · simp only [Act.put, List.setIfInBounds_toArray, List.set_cons_zero, List.set_cons_succ, i64_w, i32_w]
   rfl
 refine pure_ (i := 1) (N := some 17) (v := ?_) (a' := ?_) #[true, true, false, false, false, false, false, false, false, false, false, false] rfl rfl (any_of HT_.out (by kernel_rfl)) (fun _ _ _ h => h) (Or.inl ⟨by rfl, ?_⟩) ?_ ?_
 rotate_left
 · intro w'
   go_simp
   with_reducible rfl
 rotate_left
 · simp only [Act.put, List.setIfInBounds_toArray, List.set_cons_zero, List.set_cons_succ, i64_w, i32_w]
   rfl
 refine pure_ (i := 2) (N := some 18) (v := ?_) (a' := ?_) #[true, true, true, false, false, false, false, false, false, false, false, false] rfl rfl (any_of HT_.out (by kernel_rfl)) (fun _ _ _ h => h) (Or.inl ⟨by rfl, ?_⟩) ?_ ?_
 rotate_left
 · intro w'
   go_simp
   with_reducible rfl
 rotate_left
 · simp only [Act.put, List.setIfInBounds_toArray, List.set_cons_zero, List.set_cons_succ, i64_w, i32_w]
   rfl
 refine pure_ (i := 4) (N := some 20) (v := ?_) (a' := ?_) #[true, true, true, false, true, false, false, false, false, false, false, false] rfl rfl (any_of HT_.out (by kernel_rfl)) (fun _ _ _ h => h) (Or.inl ⟨by rfl, ?_⟩) ?_ ?_
 rotate_left
 · intro w'
   go_simp
   with_reducible rfl
 rotate_left
 · simp only [Act.put, List.setIfInBounds_toArray, List.set_cons_zero, List.set_cons_succ, i64_w, i32_w]
   rfl
 refine pure_ (i := 5) (N := some 21) (v := ?_) (a' := ?_) #[true, true, true, false, true, true, false, false, false, false, false, false] rfl rfl (any_of HT_.out (by kernel_rfl)) (fun _ _ _ h => h) (Or.inl ⟨by rfl, ?_⟩) ?_ ?_
 rotate_left
 · intro w'
   go_simp
   with_reducible rfl
 rotate_left
 · simp only [Act.put, List.setIfInBounds_toArray, List.set_cons_zero, List.set_cons_succ, i64_w, i32_w]
   rfl
 refine pure_ (i := 6) (N := some 22) (v := ?_) (a' := ?_) #[true, true, true, false, true, true, true, false, false, false, false, false] rfl rfl (any_of HT_.out (by kernel_rfl)) (fun _ _ _ h => h) (Or.inl ⟨by rfl, ?_⟩) ?_ ?_
 rotate_left
 · intro w'
   go_simp
   with_reducible rfl
 rotate_left
 · simp only [Act.put, List.setIfInBounds_toArray, List.set_cons_zero, List.set_cons_succ, i64_w, i32_w]
   rfl
 refine take_ (i := 3) (N := some 19) (v := ?_) (a' := ?_) #[true, true, true, true, true, true, true, false, false, false, false, false] rfl rfl (take_ofW HT_.out HW_.out (by kernel_rfl)) (fun _ _ _ h => h) (Or.inl ⟨by rfl, ?_⟩) hHeld ?_ ?_
 rotate_left
 · rintro w' ⟨s0, s1, s2, s3, s4, s5, s6, s7⟩
   go_simp
   with_reducible rfl
 rotate_left
 · simp only [Act.put, List.setIfInBounds_toArray, List.set_cons_zero, List.set_cons_succ, i64_w, i32_w]
   rfl
 refine take_ (i := 7) (N := some 23) (v := ?_) (a' := ?_) #[true, true, true, true, true, true, true, true, false, false, false, false] rfl rfl (take_ofW HT_.out HW_.out (by kernel_rfl)) (fun _ _ _ h => h) (Or.inl ⟨by rfl, ?_⟩) hHeld ?_ ?_
 rotate_left
 · rintro w' ⟨s0, s1, s2, s3, s4, s5, s6, s7⟩
   go_simp
   with_reducible rfl
 rotate_left
 · simp only [Act.put, List.setIfInBounds_toArray, List.set_cons_zero, List.set_cons_succ, i64_w, i32_w]
   rfl
 refine join_ (σ := Nat × Nat) 2 #[true, true, true, true, true, true, true, true, true, true, false, false] (fun s_ => [(7, .pointer (some ⟨s_.1, 0, none⟩)), (8, .pointer (some ⟨s_.2, 0, none⟩))]) (fun s_ w' => (w'.cell? (ad101.add ((a1).toNat * 4)) = some (.string ((rd_T72 l0 a1).f0)) ∧ w'.cell? ⟨(ad101.add ((a1).toNat * 4)).block, (ad101.add ((a1).toNat * 4)).off + 1, none⟩ = some (.int .i64 ((rd_T72 l0 a1).f1)) ∧ w'.cell? ⟨(ad101.add ((a1).toNat * 4)).block, (ad101.add ((a1).toNat * 4)).off + 2, none⟩ = some (.int .i64 ((rd_T72 l0 a1).f2)) ∧ w'.cell? ⟨(ad101.add ((a1).toNat * 4)).block, (ad101.add ((a1).toNat * 4)).off + 3, none⟩ = some (.int .i64 ((rd_T72 l0 a1).f3)) ∧ w'.cell? (ad101.add ((a2).toNat * 4)) = some (.string ((rd_T72 l0 a2).f0)) ∧ w'.cell? ⟨(ad101.add ((a2).toNat * 4)).block, (ad101.add ((a2).toNat * 4)).off + 1, none⟩ = some (.int .i64 ((rd_T72 l0 a2).f1)) ∧ w'.cell? ⟨(ad101.add ((a2).toNat * 4)).block, (ad101.add ((a2).toNat * 4)).off + 2, none⟩ = some (.int .i64 ((rd_T72 l0 a2).f2)) ∧ w'.cell? ⟨(ad101.add ((a2).toNat * 4)).block, (ad101.add ((a2).toNat * 4)).off + 3, none⟩ = some (.int .i64 ((rd_T72 l0 a2).f3))) ∧ (w'.heap[s_.1]? = some (.cells #[.string (⟨#[]⟩ : ByteArray), .int .i64 0, .int .i64 0, .int .i64 0] 72 (0, 0))) ∧ (w'.heap[s_.2]? = some (.cells #[.string (⟨#[]⟩ : ByteArray), .int .i64 0, .int .i64 0, .int .i64 0] 72 (0, 0))) ∧ (w.heap.size ≤ s_.1) ∧ (w.heap.size ≤ s_.1) ∧ (s_.2 ≠ s_.1) ∧ (s_.1 ≠ s_.2) ∧ (w.heap.size ≤ s_.2) ∧ (w.heap.size ≤ s_.2) ∧ (Below w.heap.size w w')) ?_ ?_
 rotate_left
 · intro hCont
   refine two_ (i := 8) (j := 9) (Ni := some 7) (Nj := some 8) #[true, true, true, true, true, true, true, true, true, false, false, false] #[true, true, true, true, true, true, true, true, false, true, false, false] rfl rfl rfl rfl (two_of HT_.out (by kernel_rfl)) (by decide) (by decide) (fun K hK => ?_) (fun K hK => ?_)
   · skip
     refine box_step ?hg (N := 7) ?hd (cs := #[.string (⟨#[]⟩ : ByteArray), .int .i64 0, .int .i64 0, .int .i64 0]) (t := 72) ?hr ?_; (case hd => rfl); (case hg => rfl); (case hr => go_simp <;> rfl)
     intro gb103 hg w17 hbox hb
     have n0_ := zA (below_step (by repeat (first | (with_reducible first | exact HB.out | apply zba | apply zbn | apply zbd) | exact HB.out)) hb)
     have n1_ := zA (hbox)
     have n2_ := zA ((by rw [hg]; exact (below_size (by repeat (first | (with_reducible first | exact HB.out | apply zba | apply zbn | apply zbd) | exact HB.out))) : w.heap.size ≤ gb103))
     have n3_ := zA ((by rw [hg]; exact (below_size (by repeat (first | (with_reducible first | exact HB.out | apply zba | apply zbn | apply zbd) | exact HB.out))) : w.heap.size ≤ gb103))
     clear HB
     have HB := n0_
     have BK103 := n1_
     have GW103 := n2_
     have GE103 := n3_
     clear n0_ n1_ n2_ n3_
     clear hb hbox hg
     refine hK.out _ _ ⟨(zkep HB.out hw101_0), (zkep HB.out hw101_1), (zkep HB.out hw101_2), (zkep HB.out hw101_3), (zkep HB.out hw102_0), (zkep HB.out hw102_1), (zkep HB.out hw102_2), (zkep HB.out hw102_3)⟩ (fun hHeld => ?_)
     clear hK K
     refine norm_ (a' := ?_) ?_ ?_
     rotate_left
     · show Act.put _ (some 7) _ = _
       simp only [Act.put, List.setIfInBounds_toArray, List.set_cons_zero, List.set_cons_succ, i64_w, i32_w]
       rfl
     refine one_ (i := 9) (N := some 8) #[true, true, true, true, true, true, true, true, true, true, false, false] rfl rfl (one_of HT_.out (by kernel_rfl)) (by decide) (fun K hK => ?_)
     refine box_step ?hg (N := 8) ?hd (cs := #[.string (⟨#[]⟩ : ByteArray), .int .i64 0, .int .i64 0, .int .i64 0]) (t := 72) ?hr ?_; (case hd => rfl); (case hg => rfl); (case hr => go_simp <;> rfl)
     intro gb104 hg w18 hbox hb
     have n0_ := zA (blk_below (g := gb103) (o := .cells #[.string (⟨#[]⟩ : ByteArray), .int .i64 0, .int .i64 0, .int .i64 0] 72 (0, 0)) (by (with_reducible repeat (first | refine zkn ?_ _ | refine zkd ?_ | refine zka ?_ _)); exact BK103.out) hb)
     have n1_ := zA (below_step (by repeat (first | (with_reducible first | exact HB.out | apply zba | apply zbn | apply zbd | refine below_set ?_ GE103.out) | exact HB.out)) hb)
     have n2_ := zA (hbox)
     have n3_ := zA ((by rw [hg]; exact (below_size (by repeat (first | (with_reducible first | exact HB.out | apply zba | apply zbn | apply zbd | refine below_set ?_ GE103.out) | exact HB.out))) : w.heap.size ≤ gb104))
     have n4_ := zA ((by rw [hg]; exact (below_size (by repeat (first | (with_reducible first | exact HB.out | apply zba | apply zbn | apply zbd | refine below_set ?_ GE103.out) | exact HB.out))) : w.heap.size ≤ gb104))
     have n5_ := zA ((by rw [hg]; exact Nat.ne_of_lt (zlt BK103.out (fun h => by (with_reducible repeat (first | refine zkn ?_ _ | refine zkd ?_ | refine zka ?_ _)); exact h)) : gb103 ≠ gb104))
     have n6_ := zA ((by rw [hg]; exact Nat.ne_of_gt (zlt BK103.out (fun h => by (with_reducible repeat (first | refine zkn ?_ _ | refine zkd ?_ | refine zka ?_ _)); exact h)) : gb104 ≠ gb103))
     clear BK103
     clear HB
     have BK103 := n0_
     have HB := n1_
     have BK104 := n2_
     have GW104 := n3_
     have GE104 := n4_
     have NB103_104 := n5_
     have NB104_103 := n6_
     clear n0_ n1_ n2_ n3_ n4_ n5_ n6_
     clear hb hbox hg
     refine hK.out _ _ ⟨(zkep HB.out hw101_0), (zkep HB.out hw101_1), (zkep HB.out hw101_2), (zkep HB.out hw101_3), (zkep HB.out hw102_0), (zkep HB.out hw102_1), (zkep HB.out hw102_2), (zkep HB.out hw102_3)⟩ (fun hHeld => ?_)
     clear hK K
     refine norm_ (a' := ?_) ?_ ?_
     rotate_left
     · show Act.put _ (some 8) _ = _
       simp only [Act.put, List.setIfInBounds_toArray, List.set_cons_zero, List.set_cons_succ, i64_w, i32_w]
       rfl
     exact norm_ (by simp only [putAll, Act.put, List.setIfInBounds_toArray, List.set_cons_zero, List.set_cons_succ]) (hCont (gb103, gb104) _ ⟨hHeld, (by (with_reducible repeat (first | refine zkn ?_ _ | refine zkd ?_ | refine zka ?_ _)); exact BK103.out), (by (with_reducible repeat (first | refine zkn ?_ _ | refine zkd ?_ | refine zka ?_ _)); exact BK104.out), GW103.out, GE103.out, NB104_103.out, NB103_104.out, GW104.out, GE104.out, (by repeat (first | (with_reducible first | exact HB.out | apply zba | apply zbn | apply zbd | refine below_set ?_ GE103.out | refine below_set ?_ GE104.out) | exact HB.out))⟩)
   skip
   refine box_step ?hg (N := 8) ?hd (cs := #[.string (⟨#[]⟩ : ByteArray), .int .i64 0, .int .i64 0, .int .i64 0]) (t := 72) ?hr ?_; (case hd => rfl); (case hg => rfl); (case hr => go_simp <;> rfl)
   intro gb104 hg w17 hbox hb
   have n0_ := zA (below_step (by repeat (first | (with_reducible first | exact HB.out | apply zba | apply zbn | apply zbd) | exact HB.out)) hb)
   have n1_ := zA (hbox)
   have n2_ := zA ((by rw [hg]; exact (below_size (by repeat (first | (with_reducible first | exact HB.out | apply zba | apply zbn | apply zbd) | exact HB.out))) : w.heap.size ≤ gb104))
   have n3_ := zA ((by rw [hg]; exact (below_size (by repeat (first | (with_reducible first | exact HB.out | apply zba | apply zbn | apply zbd) | exact HB.out))) : w.heap.size ≤ gb104))
   clear HB
   have HB := n0_
   have BK104 := n1_
   have GW104 := n2_
   have GE104 := n3_
   clear n0_ n1_ n2_ n3_
   clear hb hbox hg
   refine hK.out _ _ ⟨(zkep HB.out hw101_0), (zkep HB.out hw101_1), (zkep HB.out hw101_2), (zkep HB.out hw101_3), (zkep HB.out hw102_0), (zkep HB.out hw102_1), (zkep HB.out hw102_2), (zkep HB.out hw102_3)⟩ (fun hHeld => ?_)
   clear hK K
   refine norm_ (a' := ?_) ?_ ?_
   rotate_left
   · show Act.put _ (some 8) _ = _
     simp only [Act.put, List.setIfInBounds_toArray, List.set_cons_zero, List.set_cons_succ, i64_w, i32_w]
     rfl
   refine one_ (i := 8) (N := some 7) #[true, true, true, true, true, true, true, true, true, true, false, false] rfl rfl (one_of HT_.out (by kernel_rfl)) (by decide) (fun K hK => ?_)
   refine box_step ?hg (N := 7) ?hd (cs := #[.string (⟨#[]⟩ : ByteArray), .int .i64 0, .int .i64 0, .int .i64 0]) (t := 72) ?hr ?_; (case hd => rfl); (case hg => rfl); (case hr => go_simp <;> rfl)
   intro gb103 hg w18 hbox hb
   have n0_ := zA (blk_below (g := gb104) (o := .cells #[.string (⟨#[]⟩ : ByteArray), .int .i64 0, .int .i64 0, .int .i64 0] 72 (0, 0)) (by (with_reducible repeat (first | refine zkn ?_ _ | refine zkd ?_ | refine zka ?_ _)); exact BK104.out) hb)
   have n1_ := zA (below_step (by repeat (first | (with_reducible first | exact HB.out | apply zba | apply zbn | apply zbd | refine below_set ?_ GE104.out) | exact HB.out)) hb)
   have n2_ := zA (hbox)
   have n3_ := zA ((by rw [hg]; exact (below_size (by repeat (first | (with_reducible first | exact HB.out | apply zba | apply zbn | apply zbd | refine below_set ?_ GE104.out) | exact HB.out))) : w.heap.size ≤ gb103))
   have n4_ := zA ((by rw [hg]; exact (below_size (by repeat (first | (with_reducible first | exact HB.out | apply zba | apply zbn | apply zbd | refine below_set ?_ GE104.out) | exact HB.out))) : w.heap.size ≤ gb103))
   have n5_ := zA ((by rw [hg]; exact Nat.ne_of_lt (zlt BK104.out (fun h => by (with_reducible repeat (first | refine zkn ?_ _ | refine zkd ?_ | refine zka ?_ _)); exact h)) : gb104 ≠ gb103))
   have n6_ := zA ((by rw [hg]; exact Nat.ne_of_gt (zlt BK104.out (fun h => by (with_reducible repeat (first | refine zkn ?_ _ | refine zkd ?_ | refine zka ?_ _)); exact h)) : gb103 ≠ gb104))
   clear BK104
   clear HB
   have BK104 := n0_
   have HB := n1_
   have BK103 := n2_
   have GW103 := n3_
   have GE103 := n4_
   have NB104_103 := n5_
   have NB103_104 := n6_
   clear n0_ n1_ n2_ n3_ n4_ n5_ n6_
   clear hb hbox hg
   refine hK.out _ _ ⟨(zkep HB.out hw101_0), (zkep HB.out hw101_1), (zkep HB.out hw101_2), (zkep HB.out hw101_3), (zkep HB.out hw102_0), (zkep HB.out hw102_1), (zkep HB.out hw102_2), (zkep HB.out hw102_3)⟩ (fun hHeld => ?_)
   clear hK K
   refine norm_ (a' := ?_) ?_ ?_
   rotate_left
   · show Act.put _ (some 7) _ = _
     simp only [Act.put, List.setIfInBounds_toArray, List.set_cons_zero, List.set_cons_succ, i64_w, i32_w]
     rfl
   exact norm_ (by simp only [putAll, Act.put, List.setIfInBounds_toArray, List.set_cons_zero, List.set_cons_succ]) (hCont (gb103, gb104) _ ⟨hHeld, (by (with_reducible repeat (first | refine zkn ?_ _ | refine zkd ?_ | refine zka ?_ _)); exact BK103.out), (by (with_reducible repeat (first | refine zkn ?_ _ | refine zkd ?_ | refine zka ?_ _)); exact BK104.out), GW103.out, GE103.out, NB104_103.out, NB103_104.out, GW104.out, GE104.out, (by repeat (first | (with_reducible first | exact HB.out | apply zba | apply zbn | apply zbd | refine below_set ?_ GE104.out | refine below_set ?_ GE103.out) | exact HB.out))⟩)
 rintro ⟨gb103, gb104⟩ w19 ⟨hS_, h0_, h1_, h2_, h3_, h4_, h5_, h6_, h7_, h8_⟩
 have n0_ : Aside0 (w19.heap[gb103]? = some (.cells #[.string (⟨#[]⟩ : ByteArray), .int .i64 0, .int .i64 0, .int .i64 0] 72 (0, 0))) := ⟨h0_⟩
 have n1_ : Aside0 (w19.heap[gb104]? = some (.cells #[.string (⟨#[]⟩ : ByteArray), .int .i64 0, .int .i64 0, .int .i64 0] 72 (0, 0))) := ⟨h1_⟩
 have n2_ : Aside0 (w.heap.size ≤ gb103) := ⟨h2_⟩
 have n3_ : Aside0 (w.heap.size ≤ gb103) := ⟨h3_⟩
 have n4_ : Aside0 (gb104 ≠ gb103) := ⟨h4_⟩
 have n5_ : Aside0 (gb103 ≠ gb104) := ⟨h5_⟩
 have n6_ : Aside0 (w.heap.size ≤ gb104) := ⟨h6_⟩
 have n7_ : Aside0 (w.heap.size ≤ gb104) := ⟨h7_⟩
 have n8_ : Aside0 (Below w.heap.size w w19) := ⟨h8_⟩
 clear HB
 clear h0_ h1_ h2_ h3_ h4_ h5_ h6_ h7_ h8_
 have BK103 := n0_
 have BK104 := n1_
 have GW103 := n2_
 have GE103 := n3_
 have NB104_103 := n4_
 have NB103_104 := n5_
 have GW104 := n6_
 have GE104 := n7_
 have HB := n8_
 clear n0_ n1_ n2_ n3_ n4_ n5_ n6_ n7_ n8_
 have hHeld : w19.cell? (ad101.add ((a1).toNat * 4)) = some (.string ((rd_T72 l0 a1).f0)) ∧ w19.cell? ⟨(ad101.add ((a1).toNat * 4)).block, (ad101.add ((a1).toNat * 4)).off + 1, none⟩ = some (.int .i64 ((rd_T72 l0 a1).f1)) ∧ w19.cell? ⟨(ad101.add ((a1).toNat * 4)).block, (ad101.add ((a1).toNat * 4)).off + 2, none⟩ = some (.int .i64 ((rd_T72 l0 a1).f2)) ∧ w19.cell? ⟨(ad101.add ((a1).toNat * 4)).block, (ad101.add ((a1).toNat * 4)).off + 3, none⟩ = some (.int .i64 ((rd_T72 l0 a1).f3)) ∧ w19.cell? (ad101.add ((a2).toNat * 4)) = some (.string ((rd_T72 l0 a2).f0)) ∧ w19.cell? ⟨(ad101.add ((a2).toNat * 4)).block, (ad101.add ((a2).toNat * 4)).off + 1, none⟩ = some (.int .i64 ((rd_T72 l0 a2).f1)) ∧ w19.cell? ⟨(ad101.add ((a2).toNat * 4)).block, (ad101.add ((a2).toNat * 4)).off + 2, none⟩ = some (.int .i64 ((rd_T72 l0 a2).f2)) ∧ w19.cell? ⟨(ad101.add ((a2).toNat * 4)).block, (ad101.add ((a2).toNat * 4)).off + 3, none⟩ = some (.int .i64 ((rd_T72 l0 a2).f3)) := hS_
 refine norm_ (a' := ?_) ?_ ?_
 rotate_left
 · simp only [putAll, Act.put, List.setIfInBounds_toArray, List.set_cons_zero, List.set_cons_succ]
   rfl
 refine one_ (i := 10) (N := none) #[true, true, true, true, true, true, true, true, true, true, true, false] rfl rfl (one_of HT_.out (by kernel_rfl)) (by decide) (fun K hK => ?_)
 have hs20 : w19.cell? ⟨gb103, 0, none⟩ = some (.string (⟨#[]⟩ : ByteArray)) := (blk_cell BK103.out 0).trans rfl
 have hfs20 := blk_frozen BK103.out 0
 have hns20_1 := NB104_103.out
 have hms20_1 := NB103_104.out
 have hs21 : w19.cell? ⟨gb103, 1, none⟩ = some (.int .i64 0) := (blk_cell BK103.out 1).trans rfl
 have hfs21 := blk_frozen BK103.out 1
 have hns21_1 := NB104_103.out
 have hms21_1 := NB103_104.out
 have hs22 : w19.cell? ⟨gb103, 2, none⟩ = some (.int .i64 0) := (blk_cell BK103.out 2).trans rfl
 have hfs22 := blk_frozen BK103.out 2
 have hns22_1 := NB104_103.out
 have hms22_1 := NB103_104.out
 have hs23 : w19.cell? ⟨gb103, 3, none⟩ = some (.int .i64 0) := (blk_cell BK103.out 3).trans rfl
 have hfs23 := blk_frozen BK103.out 3
 have hns23_1 := NB104_103.out
 have hms23_1 := NB103_104.out
 refine skip_ (w1 := ?_) (by rfl) rfl ?_ ?_
 rotate_left
 · go_simp
   rfl
 refine hK.out _ _ ⟨((cell_far (p := ⟨gb103, _, none⟩) (zfar hw101_0 GW103.out :) _).trans (((cell_far (p := ⟨gb103, _, none⟩) (zfar hw101_0 GW103.out :) _).trans (((cell_far (p := ⟨gb103, _, none⟩) (zfar hw101_0 GW103.out :) _).trans (((cell_far (p := ⟨gb103, _, none⟩) (zfar hw101_0 GW103.out :) _).trans (hHeld.1)))))))), ((cell_far (p := ⟨gb103, _, none⟩) (zfar hw101_1 GW103.out :) _).trans (((cell_far (p := ⟨gb103, _, none⟩) (zfar hw101_1 GW103.out :) _).trans (((cell_far (p := ⟨gb103, _, none⟩) (zfar hw101_1 GW103.out :) _).trans (((cell_far (p := ⟨gb103, _, none⟩) (zfar hw101_1 GW103.out :) _).trans (hHeld.2.1)))))))), ((cell_far (p := ⟨gb103, _, none⟩) (zfar hw101_2 GW103.out :) _).trans (((cell_far (p := ⟨gb103, _, none⟩) (zfar hw101_2 GW103.out :) _).trans (((cell_far (p := ⟨gb103, _, none⟩) (zfar hw101_2 GW103.out :) _).trans (((cell_far (p := ⟨gb103, _, none⟩) (zfar hw101_2 GW103.out :) _).trans (hHeld.2.2.1)))))))), ((cell_far (p := ⟨gb103, _, none⟩) (zfar hw101_3 GW103.out :) _).trans (((cell_far (p := ⟨gb103, _, none⟩) (zfar hw101_3 GW103.out :) _).trans (((cell_far (p := ⟨gb103, _, none⟩) (zfar hw101_3 GW103.out :) _).trans (((cell_far (p := ⟨gb103, _, none⟩) (zfar hw101_3 GW103.out :) _).trans (hHeld.2.2.2.1)))))))), ((cell_far (p := ⟨gb103, _, none⟩) (zfar hw102_0 GW103.out :) _).trans (((cell_far (p := ⟨gb103, _, none⟩) (zfar hw102_0 GW103.out :) _).trans (((cell_far (p := ⟨gb103, _, none⟩) (zfar hw102_0 GW103.out :) _).trans (((cell_far (p := ⟨gb103, _, none⟩) (zfar hw102_0 GW103.out :) _).trans (hHeld.2.2.2.2.1)))))))), ((cell_far (p := ⟨gb103, _, none⟩) (zfar hw102_1 GW103.out :) _).trans (((cell_far (p := ⟨gb103, _, none⟩) (zfar hw102_1 GW103.out :) _).trans (((cell_far (p := ⟨gb103, _, none⟩) (zfar hw102_1 GW103.out :) _).trans (((cell_far (p := ⟨gb103, _, none⟩) (zfar hw102_1 GW103.out :) _).trans (hHeld.2.2.2.2.2.1)))))))), ((cell_far (p := ⟨gb103, _, none⟩) (zfar hw102_2 GW103.out :) _).trans (((cell_far (p := ⟨gb103, _, none⟩) (zfar hw102_2 GW103.out :) _).trans (((cell_far (p := ⟨gb103, _, none⟩) (zfar hw102_2 GW103.out :) _).trans (((cell_far (p := ⟨gb103, _, none⟩) (zfar hw102_2 GW103.out :) _).trans (hHeld.2.2.2.2.2.2.1)))))))), ((cell_far (p := ⟨gb103, _, none⟩) (zfar hw102_3 GW103.out :) _).trans (((cell_far (p := ⟨gb103, _, none⟩) (zfar hw102_3 GW103.out :) _).trans (((cell_far (p := ⟨gb103, _, none⟩) (zfar hw102_3 GW103.out :) _).trans (((cell_far (p := ⟨gb103, _, none⟩) (zfar hw102_3 GW103.out :) _).trans (hHeld.2.2.2.2.2.2.2))))))))⟩ (fun hHeld => ?_)
 clear hK K
 refine one_ (i := 11) (N := none) #[true, true, true, true, true, true, true, true, true, true, true, true] rfl rfl (one_of HT_.out (by kernel_rfl)) (by decide) (fun K hK => ?_)
 have hs24 : w19.cell? ⟨gb104, 0, none⟩ = some (.string (⟨#[]⟩ : ByteArray)) := (blk_cell BK104.out 0).trans rfl
 have hfs24 := blk_frozen BK104.out 0
 have hns24_0 := NB103_104.out
 have hms24_0 := NB104_103.out
 have hs25 : w19.cell? ⟨gb104, 1, none⟩ = some (.int .i64 0) := (blk_cell BK104.out 1).trans rfl
 have hfs25 := blk_frozen BK104.out 1
 have hns25_0 := NB103_104.out
 have hms25_0 := NB104_103.out
 have hs26 : w19.cell? ⟨gb104, 2, none⟩ = some (.int .i64 0) := (blk_cell BK104.out 2).trans rfl
 have hfs26 := blk_frozen BK104.out 2
 have hns26_0 := NB103_104.out
 have hms26_0 := NB104_103.out
 have hs27 : w19.cell? ⟨gb104, 3, none⟩ = some (.int .i64 0) := (blk_cell BK104.out 3).trans rfl
 have hfs27 := blk_frozen BK104.out 3
 have hns27_0 := NB103_104.out
 have hms27_0 := NB104_103.out
 refine skip_ (w1 := ?_) (by rfl) rfl ?_ ?_
 rotate_left
 · go_simp
   rfl
 refine hK.out _ _ ⟨((cell_far (p := ⟨gb104, _, none⟩) (zfar hw101_0 GW104.out :) _).trans (((cell_far (p := ⟨gb104, _, none⟩) (zfar hw101_0 GW104.out :) _).trans (((cell_far (p := ⟨gb104, _, none⟩) (zfar hw101_0 GW104.out :) _).trans (((cell_far (p := ⟨gb104, _, none⟩) (zfar hw101_0 GW104.out :) _).trans (hHeld.1)))))))), ((cell_far (p := ⟨gb104, _, none⟩) (zfar hw101_1 GW104.out :) _).trans (((cell_far (p := ⟨gb104, _, none⟩) (zfar hw101_1 GW104.out :) _).trans (((cell_far (p := ⟨gb104, _, none⟩) (zfar hw101_1 GW104.out :) _).trans (((cell_far (p := ⟨gb104, _, none⟩) (zfar hw101_1 GW104.out :) _).trans (hHeld.2.1)))))))), ((cell_far (p := ⟨gb104, _, none⟩) (zfar hw101_2 GW104.out :) _).trans (((cell_far (p := ⟨gb104, _, none⟩) (zfar hw101_2 GW104.out :) _).trans (((cell_far (p := ⟨gb104, _, none⟩) (zfar hw101_2 GW104.out :) _).trans (((cell_far (p := ⟨gb104, _, none⟩) (zfar hw101_2 GW104.out :) _).trans (hHeld.2.2.1)))))))), ((cell_far (p := ⟨gb104, _, none⟩) (zfar hw101_3 GW104.out :) _).trans (((cell_far (p := ⟨gb104, _, none⟩) (zfar hw101_3 GW104.out :) _).trans (((cell_far (p := ⟨gb104, _, none⟩) (zfar hw101_3 GW104.out :) _).trans (((cell_far (p := ⟨gb104, _, none⟩) (zfar hw101_3 GW104.out :) _).trans (hHeld.2.2.2.1)))))))), ((cell_far (p := ⟨gb104, _, none⟩) (zfar hw102_0 GW104.out :) _).trans (((cell_far (p := ⟨gb104, _, none⟩) (zfar hw102_0 GW104.out :) _).trans (((cell_far (p := ⟨gb104, _, none⟩) (zfar hw102_0 GW104.out :) _).trans (((cell_far (p := ⟨gb104, _, none⟩) (zfar hw102_0 GW104.out :) _).trans (hHeld.2.2.2.2.1)))))))), ((cell_far (p := ⟨gb104, _, none⟩) (zfar hw102_1 GW104.out :) _).trans (((cell_far (p := ⟨gb104, _, none⟩) (zfar hw102_1 GW104.out :) _).trans (((cell_far (p := ⟨gb104, _, none⟩) (zfar hw102_1 GW104.out :) _).trans (((cell_far (p := ⟨gb104, _, none⟩) (zfar hw102_1 GW104.out :) _).trans (hHeld.2.2.2.2.2.1)))))))), ((cell_far (p := ⟨gb104, _, none⟩) (zfar hw102_2 GW104.out :) _).trans (((cell_far (p := ⟨gb104, _, none⟩) (zfar hw102_2 GW104.out :) _).trans (((cell_far (p := ⟨gb104, _, none⟩) (zfar hw102_2 GW104.out :) _).trans (((cell_far (p := ⟨gb104, _, none⟩) (zfar hw102_2 GW104.out :) _).trans (hHeld.2.2.2.2.2.2.1)))))))), ((cell_far (p := ⟨gb104, _, none⟩) (zfar hw102_3 GW104.out :) _).trans (((cell_far (p := ⟨gb104, _, none⟩) (zfar hw102_3 GW104.out :) _).trans (((cell_far (p := ⟨gb104, _, none⟩) (zfar hw102_3 GW104.out :) _).trans (((cell_far (p := ⟨gb104, _, none⟩) (zfar hw102_3 GW104.out :) _).trans (hHeld.2.2.2.2.2.2.2))))))))⟩ (fun hHeld => ?_)
 clear hK K
 refine done_ (done_of HT_.out (by kernel_rfl)) ?_
 try go_wp2
 have n0_ : Aside0 (((((((((w19.setCell ⟨gb103, 0, none⟩ (.string ((rd_T72 l0 a1).f0))).setCell ⟨gb103, 1, none⟩ (.int .i64 ((rd_T72 l0 a1).f1))).setCell ⟨gb103, 2, none⟩ (.int .i64 ((rd_T72 l0 a1).f2))).setCell ⟨gb103, 3, none⟩ (.int .i64 ((rd_T72 l0 a1).f3))).setCell ⟨gb104, 0, none⟩ (.string ((rd_T72 l0 a2).f0))).setCell ⟨gb104, 1, none⟩ (.int .i64 ((rd_T72 l0 a2).f1))).setCell ⟨gb104, 2, none⟩ (.int .i64 ((rd_T72 l0 a2).f2))).setCell ⟨gb104, 3, none⟩ (.int .i64 ((rd_T72 l0 a2).f3))).heap[gb103]? = some (.cells #[.string ((rd_T72 l0 a1).f0), .int .i64 ((rd_T72 l0 a1).f1), .int .i64 ((rd_T72 l0 a1).f2), .int .i64 ((rd_T72 l0 a1).f3)] 72 (0, 0))) := ⟨by (with_reducible repeat (first | refine zkn ?_ _ | refine zkd ?_ | refine zka ?_ _)); refine blk_far ?_ NB103_104.out _; (with_reducible repeat (first | refine zkn ?_ _ | refine zkd ?_ | refine zka ?_ _)); refine blk_far ?_ NB103_104.out _; (with_reducible repeat (first | refine zkn ?_ _ | refine zkd ?_ | refine zka ?_ _)); refine blk_far ?_ NB103_104.out _; (with_reducible repeat (first | refine zkn ?_ _ | refine zkd ?_ | refine zka ?_ _)); refine blk_far ?_ NB103_104.out _; (with_reducible repeat (first | refine zkn ?_ _ | refine zkd ?_ | refine zka ?_ _)); refine blk_put (cs := #[.string ((rd_T72 l0 a1).f0), .int .i64 ((rd_T72 l0 a1).f1), .int .i64 ((rd_T72 l0 a1).f2), .int .i64 0]) ?_ 3 _ rfl; (with_reducible repeat (first | refine zkn ?_ _ | refine zkd ?_ | refine zka ?_ _)); refine blk_put (cs := #[.string ((rd_T72 l0 a1).f0), .int .i64 ((rd_T72 l0 a1).f1), .int .i64 0, .int .i64 0]) ?_ 2 _ rfl; (with_reducible repeat (first | refine zkn ?_ _ | refine zkd ?_ | refine zka ?_ _)); refine blk_put (cs := #[.string ((rd_T72 l0 a1).f0), .int .i64 0, .int .i64 0, .int .i64 0]) ?_ 1 _ rfl; (with_reducible repeat (first | refine zkn ?_ _ | refine zkd ?_ | refine zka ?_ _)); refine blk_put (cs := #[.string (⟨#[]⟩ : ByteArray), .int .i64 0, .int .i64 0, .int .i64 0]) ?_ 0 _ rfl; (with_reducible repeat (first | refine zkn ?_ _ | refine zkd ?_ | refine zka ?_ _)); exact BK103.out⟩
 have n1_ : Aside0 (((((((((w19.setCell ⟨gb103, 0, none⟩ (.string ((rd_T72 l0 a1).f0))).setCell ⟨gb103, 1, none⟩ (.int .i64 ((rd_T72 l0 a1).f1))).setCell ⟨gb103, 2, none⟩ (.int .i64 ((rd_T72 l0 a1).f2))).setCell ⟨gb103, 3, none⟩ (.int .i64 ((rd_T72 l0 a1).f3))).setCell ⟨gb104, 0, none⟩ (.string ((rd_T72 l0 a2).f0))).setCell ⟨gb104, 1, none⟩ (.int .i64 ((rd_T72 l0 a2).f1))).setCell ⟨gb104, 2, none⟩ (.int .i64 ((rd_T72 l0 a2).f2))).setCell ⟨gb104, 3, none⟩ (.int .i64 ((rd_T72 l0 a2).f3))).heap[gb104]? = some (.cells #[.string ((rd_T72 l0 a2).f0), .int .i64 ((rd_T72 l0 a2).f1), .int .i64 ((rd_T72 l0 a2).f2), .int .i64 ((rd_T72 l0 a2).f3)] 72 (0, 0))) := ⟨by (with_reducible repeat (first | refine zkn ?_ _ | refine zkd ?_ | refine zka ?_ _)); refine blk_put (cs := #[.string ((rd_T72 l0 a2).f0), .int .i64 ((rd_T72 l0 a2).f1), .int .i64 ((rd_T72 l0 a2).f2), .int .i64 0]) ?_ 3 _ rfl; (with_reducible repeat (first | refine zkn ?_ _ | refine zkd ?_ | refine zka ?_ _)); refine blk_put (cs := #[.string ((rd_T72 l0 a2).f0), .int .i64 ((rd_T72 l0 a2).f1), .int .i64 0, .int .i64 0]) ?_ 2 _ rfl; (with_reducible repeat (first | refine zkn ?_ _ | refine zkd ?_ | refine zka ?_ _)); refine blk_put (cs := #[.string ((rd_T72 l0 a2).f0), .int .i64 0, .int .i64 0, .int .i64 0]) ?_ 1 _ rfl; (with_reducible repeat (first | refine zkn ?_ _ | refine zkd ?_ | refine zka ?_ _)); refine blk_put (cs := #[.string (⟨#[]⟩ : ByteArray), .int .i64 0, .int .i64 0, .int .i64 0]) ?_ 0 _ rfl; (with_reducible repeat (first | refine zkn ?_ _ | refine zkd ?_ | refine zka ?_ _)); refine blk_far ?_ NB104_103.out _; (with_reducible repeat (first | refine zkn ?_ _ | refine zkd ?_ | refine zka ?_ _)); refine blk_far ?_ NB104_103.out _; (with_reducible repeat (first | refine zkn ?_ _ | refine zkd ?_ | refine zka ?_ _)); refine blk_far ?_ NB104_103.out _; (with_reducible repeat (first | refine zkn ?_ _ | refine zkd ?_ | refine zka ?_ _)); refine blk_far ?_ NB104_103.out _; (with_reducible repeat (first | refine zkn ?_ _ | refine zkd ?_ | refine zka ?_ _)); exact BK104.out⟩
 have n2_ : Aside0 (Below w.heap.size w ((((((((w19.setCell ⟨gb103, 0, none⟩ (.string ((rd_T72 l0 a1).f0))).setCell ⟨gb103, 1, none⟩ (.int .i64 ((rd_T72 l0 a1).f1))).setCell ⟨gb103, 2, none⟩ (.int .i64 ((rd_T72 l0 a1).f2))).setCell ⟨gb103, 3, none⟩ (.int .i64 ((rd_T72 l0 a1).f3))).setCell ⟨gb104, 0, none⟩ (.string ((rd_T72 l0 a2).f0))).setCell ⟨gb104, 1, none⟩ (.int .i64 ((rd_T72 l0 a2).f1))).setCell ⟨gb104, 2, none⟩ (.int .i64 ((rd_T72 l0 a2).f2))).setCell ⟨gb104, 3, none⟩ (.int .i64 ((rd_T72 l0 a2).f3)))) := ⟨by repeat (first | (with_reducible first | exact HB.out | apply zba | apply zbn | apply zbd | refine below_set ?_ GE103.out | refine below_set ?_ GE104.out) | exact HB.out)⟩
 (try clear BK103)
 (try clear BK104)
 (try clear HB)
 generalize ((((((((w19.setCell ⟨gb103, 0, none⟩ (.string ((rd_T72 l0 a1).f0))).setCell ⟨gb103, 1, none⟩ (.int .i64 ((rd_T72 l0 a1).f1))).setCell ⟨gb103, 2, none⟩ (.int .i64 ((rd_T72 l0 a1).f2))).setCell ⟨gb103, 3, none⟩ (.int .i64 ((rd_T72 l0 a1).f3))).setCell ⟨gb104, 0, none⟩ (.string ((rd_T72 l0 a2).f0))).setCell ⟨gb104, 1, none⟩ (.int .i64 ((rd_T72 l0 a2).f1))).setCell ⟨gb104, 2, none⟩ (.int .i64 ((rd_T72 l0 a2).f2))).setCell ⟨gb104, 3, none⟩ (.int .i64 ((rd_T72 l0 a2).f3))) = w28 at n0_ n1_ n2_ ⊢
 have BK103 := n0_
 have BK104 := n1_
 have HB := n2_
 clear n0_ n1_ n2_
 have n0_ := zA (zkd BK103.out)
 have n1_ := zA (zkd BK104.out)
 have n2_ := zA (zbd HB.out)
 clear BK103
 clear BK104
 clear HB
 have BK103 := n0_
 have BK104 := n1_
 have HB := n2_
 clear n0_ n1_ n2_
 refine start_ (n := 15) (S := fun w' => w'.cell? ⟨gb103, 0, none⟩ = some (.string ((rd_T72 l0 a1).f0)) ∧ w'.cell? ⟨gb103, 1, none⟩ = some (.int .i64 ((rd_T72 l0 a1).f1)) ∧ w'.cell? ⟨gb103, 2, none⟩ = some (.int .i64 ((rd_T72 l0 a1).f2)) ∧ w'.cell? ⟨gb103, 3, none⟩ = some (.int .i64 ((rd_T72 l0 a1).f3)) ∧ w'.cell? ⟨gb104, 0, none⟩ = some (.string ((rd_T72 l0 a2).f0)) ∧ w'.cell? ⟨gb104, 1, none⟩ = some (.int .i64 ((rd_T72 l0 a2).f1)) ∧ w'.cell? ⟨gb104, 2, none⟩ = some (.int .i64 ((rd_T72 l0 a2).f2)) ∧ w'.cell? ⟨gb104, 3, none⟩ = some (.int .i64 ((rd_T72 l0 a2).f3))) (ds := []) #[false, false, false, false, false, false, false, false, false, false, false, false, false, false, false] (by kernel_rfl) rfl rfl ⟨(blk_cell BK103.out 0).trans rfl, (blk_cell BK103.out 1).trans rfl, (blk_cell BK103.out 2).trans rfl, (blk_cell BK103.out 3).trans rfl, (blk_cell BK104.out 0).trans rfl, (blk_cell BK104.out 1).trans rfl, (blk_cell BK104.out 2).trans rfl, (blk_cell BK104.out 3).trans rfl⟩ (fun hHeld => ?_); refine with_tabW impl_compareNodes.tab4 impl_compareNodes.bits4 (fun HT_ HW_ => ?_)
 generalize w28.drew = w29 at BK103 BK104 HB hHeld ⊢
 refine pure_ (i := 0) (N := some 24) (v := ?_) (a' := ?_) #[true, false, false, false, false, false, false, false, false, false, false, false, false, false, false] rfl rfl (any_of HT_.out (by kernel_rfl)) (fun _ _ _ h => h) (Or.inl ⟨by rfl, ?_⟩) ?_ ?_
 rotate_left
 · intro w'
   go_simp
   with_reducible rfl
 rotate_left
 · simp only [Act.put, List.setIfInBounds_toArray, List.set_cons_zero, List.set_cons_succ, i64_w, i32_w]
   rfl
 refine pure_ (i := 3) (N := some 27) (v := ?_) (a' := ?_) #[true, false, false, true, false, false, false, false, false, false, false, false, false, false, false] rfl rfl (any_of HT_.out (by kernel_rfl)) (fun _ _ _ h => h) (Or.inl ⟨by rfl, ?_⟩) ?_ ?_
 rotate_left
 · intro w'
   go_simp
   with_reducible rfl
 rotate_left
 · simp only [Act.put, List.setIfInBounds_toArray, List.set_cons_zero, List.set_cons_succ, i64_w, i32_w]
   rfl
 refine pure_ (i := 7) (N := some 31) (v := ?_) (a' := ?_) #[true, false, false, true, false, false, false, true, false, false, false, false, false, false, false] rfl rfl (any_of HT_.out (by kernel_rfl)) (fun _ _ _ h => h) (Or.inl ⟨by rfl, ?_⟩) ?_ ?_
 rotate_left
 · intro w'
   go_simp
   with_reducible rfl
 rotate_left
 · simp only [Act.put, List.setIfInBounds_toArray, List.set_cons_zero, List.set_cons_succ, i64_w, i32_w]
   rfl
 refine pure_ (i := 9) (N := some 33) (v := ?_) (a' := ?_) #[true, false, false, true, false, false, false, true, false, true, false, false, false, false, false] rfl rfl (any_of HT_.out (by kernel_rfl)) (fun _ _ _ h => h) (Or.inl ⟨by rfl, ?_⟩) ?_ ?_
 rotate_left
 · intro w'
   go_simp
   with_reducible rfl
 rotate_left
 · simp only [Act.put, List.setIfInBounds_toArray, List.set_cons_zero, List.set_cons_succ, i64_w, i32_w]
   rfl
 refine take_ (i := 1) (N := some 25) (v := ?_) (a' := ?_) #[true, true, false, true, false, false, false, true, false, true, false, false, false, false, false] rfl rfl (take_ofW HT_.out HW_.out (by kernel_rfl)) (fun _ _ _ h => h) (Or.inl ⟨by rfl, ?_⟩) hHeld ?_ ?_
 rotate_left
 · rintro w' ⟨s0, s1, s2, s3, s4, s5, s6, s7⟩
   go_simp
   with_reducible rfl
 rotate_left
 · simp only [Act.put, List.setIfInBounds_toArray, List.set_cons_zero, List.set_cons_succ, i64_w, i32_w]
   rfl
 refine take_ (i := 4) (N := some 28) (v := ?_) (a' := ?_) #[true, true, false, true, true, false, false, true, false, true, false, false, false, false, false] rfl rfl (take_ofW HT_.out HW_.out (by kernel_rfl)) (fun _ _ _ h => h) (Or.inl ⟨by rfl, ?_⟩) hHeld ?_ ?_
 rotate_left
 · rintro w' ⟨s0, s1, s2, s3, s4, s5, s6, s7⟩
   go_simp
   with_reducible rfl
 rotate_left
 · simp only [Act.put, List.setIfInBounds_toArray, List.set_cons_zero, List.set_cons_succ, i64_w, i32_w]
   rfl
 refine take_ (i := 8) (N := some 32) (v := ?_) (a' := ?_) #[true, true, false, true, true, false, false, true, true, true, false, false, false, false, false] rfl rfl (take_ofW HT_.out HW_.out (by kernel_rfl)) (fun _ _ _ h => h) (Or.inl ⟨by rfl, ?_⟩) hHeld ?_ ?_
 rotate_left
 · rintro w' ⟨s0, s1, s2, s3, s4, s5, s6, s7⟩
   go_simp
   with_reducible rfl
 rotate_left
 · simp only [Act.put, List.setIfInBounds_toArray, List.set_cons_zero, List.set_cons_succ, i64_w, i32_w]
   rfl
 refine take_ (i := 10) (N := some 34) (v := ?_) (a' := ?_) #[true, true, false, true, true, false, false, true, true, true, true, false, false, false, false] rfl rfl (take_ofW HT_.out HW_.out (by kernel_rfl)) (fun _ _ _ h => h) (Or.inl ⟨by rfl, ?_⟩) hHeld ?_ ?_
 rotate_left
 · rintro w' ⟨s0, s1, s2, s3, s4, s5, s6, s7⟩
   go_simp
   with_reducible rfl
 rotate_left
 · simp only [Act.put, List.setIfInBounds_toArray, List.set_cons_zero, List.set_cons_succ, i64_w, i32_w]
   rfl
 refine one_ (i := 2) (N := some 26) #[true, true, true, true, true, false, false, true, true, true, true, false, false, false, false] rfl rfl (one_of HT_.out (by kernel_rfl)) (by decide) (fun K hK => ?_)
 refine goes_ Try.func156 (by kernel_rfl) rfl #[.string ((rd_T72 l0 a1).f0)] (by rfl) rfl rfl (by (try simp only [List.map_toArray, List.map_cons, List.map_nil]); first | done | rfl | (simp only [List.length_drop, List.length_take]; rfl)) ?_
 with_reducible refine (impl_rank.calls k ((rd_T72 l0 a1).f0) t105 _ A9.out).mono ?_
 rintro e w30 ⟨rfl, hb⟩
 refine ⟨_, rfl, ?_⟩
 have n0_ := zA (blk_below (g := gb103) (o := .cells #[.string ((rd_T72 l0 a1).f0), .int .i64 ((rd_T72 l0 a1).f1), .int .i64 ((rd_T72 l0 a1).f2), .int .i64 ((rd_T72 l0 a1).f3)] 72 (0, 0)) (by (with_reducible repeat (first | refine zkn ?_ _ | refine zkd ?_ | refine zka ?_ _)); exact BK103.out) hb)
 have n1_ := zA (blk_below (g := gb104) (o := .cells #[.string ((rd_T72 l0 a2).f0), .int .i64 ((rd_T72 l0 a2).f1), .int .i64 ((rd_T72 l0 a2).f2), .int .i64 ((rd_T72 l0 a2).f3)] 72 (0, 0)) (by (with_reducible repeat (first | refine zkn ?_ _ | refine zkd ?_ | refine zka ?_ _)); exact BK104.out) hb)
 have n2_ := zA (below_step (by repeat (first | (with_reducible first | exact HB.out | apply zba | apply zbn | apply zbd | refine below_set ?_ GE103.out | refine below_set ?_ GE104.out) | exact HB.out)) hb)
 clear BK103
 clear BK104
 clear HB
 have BK103 := n0_
 have BK104 := n1_
 have HB := n2_
 clear n0_ n1_ n2_
 (try clear hb)
 (try clear hb2)
 (try clear hk)
 (try clear hi)
 refine hK.out _ _ ⟨(blk_cell BK103.out 0).trans rfl, (blk_cell BK103.out 1).trans rfl, (blk_cell BK103.out 2).trans rfl, (blk_cell BK103.out 3).trans rfl, (blk_cell BK104.out 0).trans rfl, (blk_cell BK104.out 1).trans rfl, (blk_cell BK104.out 2).trans rfl, (blk_cell BK104.out 3).trans rfl⟩ (fun hHeld => ?_)
 clear hK K
 refine norm_ (a' := ?_) ?_ ?_
 rotate_left
 · show Act.put _ (some 26) _ = _
   simp only [Act.put, List.setIfInBounds_toArray, List.set_cons_zero, List.set_cons_succ, i64_w, i32_w]
   rfl
 refine one_ (i := 5) (N := some 29) #[true, true, true, true, true, true, false, true, true, true, true, false, false, false, false] rfl rfl (one_of HT_.out (by kernel_rfl)) (by decide) (fun K hK => ?_)
 refine goes_ Try.func156 (by kernel_rfl) rfl #[.string ((rd_T72 l0 a2).f0)] (by rfl) rfl rfl (by (try simp only [List.map_toArray, List.map_cons, List.map_nil]); first | done | rfl | (simp only [List.length_drop, List.length_take]; rfl)) ?_
 with_reducible refine (impl_rank.calls k ((rd_T72 l0 a2).f0) t106 _ A10.out).mono ?_
 rintro e w31 ⟨rfl, hb⟩
 refine ⟨_, rfl, ?_⟩
 have n0_ := zA (blk_below (g := gb103) (o := .cells #[.string ((rd_T72 l0 a1).f0), .int .i64 ((rd_T72 l0 a1).f1), .int .i64 ((rd_T72 l0 a1).f2), .int .i64 ((rd_T72 l0 a1).f3)] 72 (0, 0)) (by (with_reducible repeat (first | refine zkn ?_ _ | refine zkd ?_ | refine zka ?_ _)); exact BK103.out) hb)
 have n1_ := zA (blk_below (g := gb104) (o := .cells #[.string ((rd_T72 l0 a2).f0), .int .i64 ((rd_T72 l0 a2).f1), .int .i64 ((rd_T72 l0 a2).f2), .int .i64 ((rd_T72 l0 a2).f3)] 72 (0, 0)) (by (with_reducible repeat (first | refine zkn ?_ _ | refine zkd ?_ | refine zka ?_ _)); exact BK104.out) hb)
 have n2_ := zA (below_step (by repeat (first | (with_reducible first | exact HB.out | apply zba | apply zbn | apply zbd | refine below_set ?_ GE103.out | refine below_set ?_ GE104.out) | exact HB.out)) hb)
 clear BK103
 clear BK104
 clear HB
 have BK103 := n0_
 have BK104 := n1_
 have HB := n2_
 clear n0_ n1_ n2_
 (try clear hb)
 (try clear hb2)
 (try clear hk)
 (try clear hi)
 refine hK.out _ _ ⟨(blk_cell BK103.out 0).trans rfl, (blk_cell BK103.out 1).trans rfl, (blk_cell BK103.out 2).trans rfl, (blk_cell BK103.out 3).trans rfl, (blk_cell BK104.out 0).trans rfl, (blk_cell BK104.out 1).trans rfl, (blk_cell BK104.out 2).trans rfl, (blk_cell BK104.out 3).trans rfl⟩ (fun hHeld => ?_)
 clear hK K
 refine norm_ (a' := ?_) ?_ ?_
 rotate_left
 · show Act.put _ (some 29) _ = _
   simp only [Act.put, List.setIfInBounds_toArray, List.set_cons_zero, List.set_cons_succ, i64_w, i32_w]
   rfl
 refine one_ (i := 6) (N := some 30) #[true, true, true, true, true, true, true, true, true, true, true, false, false, false, false] rfl rfl (one_of HT_.out (by kernel_rfl)) (by decide) (fun K hK => ?_)
 refine goes_ Try.func155 (by kernel_rfl) rfl #[.int .i64 t105, .int .i64 t106] (by rfl) rfl rfl (by (try simp only [List.map_toArray, List.map_cons, List.map_nil]); first | done | rfl | (simp only [List.length_drop, List.length_take]; rfl)) ?_
 with_reducible refine (cmp_Compare_int.calls t105 t106 t107 _ A11.out).mono ?_
 rintro e w' ⟨rfl, ⟨nd, rfl⟩⟩
 refine ⟨_, rfl, ?_⟩
 refine hK.out _ _ ⟨(blk_cell BK103.out 0).trans rfl, (blk_cell BK103.out 1).trans rfl, (blk_cell BK103.out 2).trans rfl, (blk_cell BK103.out 3).trans rfl, (blk_cell BK104.out 0).trans rfl, (blk_cell BK104.out 1).trans rfl, (blk_cell BK104.out 2).trans rfl, (blk_cell BK104.out 3).trans rfl⟩ (fun hHeld => ?_)
 clear hK K
 refine norm_ (a' := ?_) ?_ ?_
 rotate_left
 · show Act.put _ (some 30) _ = _
   simp only [Act.put, List.setIfInBounds_toArray, List.set_cons_zero, List.set_cons_succ, i64_w, i32_w]
   rfl
 refine one_ (i := 11) (N := some 35) #[true, true, true, true, true, true, true, true, true, true, true, true, false, false, false] rfl rfl (one_of HT_.out (by kernel_rfl)) (by decide) (fun K hK => ?_)
 refine goes_ Try.func155 (by kernel_rfl) rfl #[.int .i64 ((rd_T72 l0 a1).f3), .int .i64 ((rd_T72 l0 a2).f3)] (by rfl) rfl rfl (by (try simp only [List.map_toArray, List.map_cons, List.map_nil]); first | done | rfl | (simp only [List.length_drop, List.length_take]; rfl)) ?_
 with_reducible refine (cmp_Compare_int.calls ((rd_T72 l0 a1).f3) ((rd_T72 l0 a2).f3) t108 _ A12.out).mono ?_
 rintro e w' ⟨rfl, ⟨nd, rfl⟩⟩
 refine ⟨_, rfl, ?_⟩
 refine hK.out _ _ ⟨(blk_cell BK103.out 0).trans rfl, (blk_cell BK103.out 1).trans rfl, (blk_cell BK103.out 2).trans rfl, (blk_cell BK103.out 3).trans rfl, (blk_cell BK104.out 0).trans rfl, (blk_cell BK104.out 1).trans rfl, (blk_cell BK104.out 2).trans rfl, (blk_cell BK104.out 3).trans rfl⟩ (fun hHeld => ?_)
 clear hK K
 refine norm_ (a' := ?_) ?_ ?_
 rotate_left
 · show Act.put _ (some 35) _ = _
   simp only [Act.put, List.setIfInBounds_toArray, List.set_cons_zero, List.set_cons_succ, i64_w, i32_w]
   rfl
 refine one_ (i := 12) (N := some 36) #[true, true, true, true, true, true, true, true, true, true, true, true, true, false, false] rfl rfl (one_of HT_.out (by kernel_rfl)) (by decide) (fun K hK => ?_)
 refine Kd.R_lit_step (Kd.int .i64) _ 3 ?hg (N := 36) ?hd (xs := ([t107, t108] : List Int)) (inner := [.int .i64 t107, .int .i64 t108]) (ok := fun _ => True) (okp := fun _ => True) ?hr ?hp (fun _ hk => hk) trivial (Below.refl _ _) (zlr _) (by simp) ?_; (case hd => rfl); (case hg => rfl); (case hr => go_simp <;> rfl); (case hp => exact (Reps.one (show Kd.M (Kd.int .i64) _ _ _ t107 [.int .i64 t107] from rfl) (Reps.one (show Kd.M (Kd.int .i64) _ _ _ t108 [.int .i64 t108] from rfl) (Reps.none _ _))))
 intro v110 w32 ho33 hb hg_ hnew_
 clear hg_ hnew_
 (first | rw [← Ny109.out] at ho33 | (simp only [Int.reduceToNat] at ho33; rw [← Ny109.out] at ho33))
 have n0_ := zA (Kd.R_lower ho33 (below_size (by repeat (first | (with_reducible first | exact HB.out | apply zba | apply zbn | apply zbd | refine below_set ?_ GE103.out | refine below_set ?_ GE104.out) | exact HB.out))))
 have n1_ := zA (blk_below (g := gb103) (o := .cells #[.string ((rd_T72 l0 a1).f0), .int .i64 ((rd_T72 l0 a1).f1), .int .i64 ((rd_T72 l0 a1).f2), .int .i64 ((rd_T72 l0 a1).f3)] 72 (0, 0)) (by (with_reducible repeat (first | refine zkn ?_ _ | refine zkd ?_ | refine zka ?_ _)); exact BK103.out) hb)
 have n2_ := zA (blk_below (g := gb104) (o := .cells #[.string ((rd_T72 l0 a2).f0), .int .i64 ((rd_T72 l0 a2).f1), .int .i64 ((rd_T72 l0 a2).f2), .int .i64 ((rd_T72 l0 a2).f3)] 72 (0, 0)) (by (with_reducible repeat (first | refine zkn ?_ _ | refine zkd ?_ | refine zka ?_ _)); exact BK104.out) hb)
 have n3_ := zA (below_step (by repeat (first | (with_reducible first | exact HB.out | apply zba | apply zbn | apply zbd | refine below_set ?_ GE103.out | refine below_set ?_ GE104.out) | exact HB.out)) hb)
 clear BK103
 clear BK104
 clear HB
 have HO111 := n0_
 have BK103 := n1_
 have BK104 := n2_
 have HB := n3_
 clear n0_ n1_ n2_ n3_
 clear hb ho33
 obtain ⟨Ao34, co34, eo34⟩ := Kd.R_slice HO111.out
 (first | subst eo34 | (injection eo34 with f1_ f2_ f3_; have f4_ := f1_.symm; have f5_ := f3_.symm; clear f1_ f2_ f3_; subst f4_; subst f5_))
 refine hK.out _ _ ⟨(blk_cell BK103.out 0).trans rfl, (blk_cell BK103.out 1).trans rfl, (blk_cell BK103.out 2).trans rfl, (blk_cell BK103.out 3).trans rfl, (blk_cell BK104.out 0).trans rfl, (blk_cell BK104.out 1).trans rfl, (blk_cell BK104.out 2).trans rfl, (blk_cell BK104.out 3).trans rfl⟩ (fun hHeld => ?_)
 clear hK K
 refine norm_ (a' := ?_) ?_ ?_
 rotate_left
 · show Act.put _ (some 36) _ = _
   simp only [Act.put, List.setIfInBounds_toArray, List.set_cons_zero, List.set_cons_succ, i64_w, i32_w]
   rfl
 refine one_ (i := 13) (N := some 37) #[true, true, true, true, true, true, true, true, true, true, true, true, true, true, false] rfl rfl (one_of HT_.out (by kernel_rfl)) (by decide) (fun K hK => ?_)
 refine goes_ Try.func154 (by kernel_rfl) rfl #[.slice Ao34 y109.length co34] (by rfl) rfl rfl (by (try simp only [List.map_toArray, List.map_cons, List.map_nil]); first | done | rfl | (simp only [List.length_drop, List.length_take]; rfl)) ?_
 with_reducible refine (cmp_Or_int.calls k _ _ y109 t112 _ ?side1 ?side2 A13.out).mono ?_
 (case side1 => repeat (first | exact (zRr HO111.out).2.2 | (with_reducible first | refine zCa ?_ _ | refine zCn ?_ _ | refine zCd ?_)))
 (case side2 => exact (zRr HO111.out).2.1)
 rintro e w' ⟨rfl, ⟨nd, rfl⟩⟩
 refine ⟨_, rfl, ?_⟩
 refine hK.out _ _ ⟨(blk_cell BK103.out 0).trans rfl, (blk_cell BK103.out 1).trans rfl, (blk_cell BK103.out 2).trans rfl, (blk_cell BK103.out 3).trans rfl, (blk_cell BK104.out 0).trans rfl, (blk_cell BK104.out 1).trans rfl, (blk_cell BK104.out 2).trans rfl, (blk_cell BK104.out 3).trans rfl⟩ (fun hHeld => ?_)
 clear hK K
 refine norm_ (a' := ?_) ?_ ?_
 rotate_left
 · show Act.put _ (some 37) _ = _
   simp only [Act.put, List.setIfInBounds_toArray, List.set_cons_zero, List.set_cons_succ, i64_w, i32_w]
   rfl
 refine pure_ (i := 14) (N := some 9) (v := ?_) (a' := ?_) #[true, true, true, true, true, true, true, true, true, true, true, true, true, true, true] rfl rfl (any_of HT_.out (by kernel_rfl)) (fun _ _ _ h => h) (Or.inl ⟨by rfl, ?_⟩) ?_ ?_
 rotate_left
 · intro w'
   go_simp
   with_reducible rfl
 rotate_left
 · simp only [Act.put, List.setIfInBounds_toArray, List.set_cons_zero, List.set_cons_succ, i64_w, i32_w]
   rfl
 refine done_ (done_of HT_.out (by kernel_rfl)) ?_
 (try (rw [drewN_self w32]; generalize hq_ : World.drewN w32 _ = w32; have n0_ := zA (Kd.R_at hq_ HO111.out); have n1_ := zA (blk_at hq_ BK103.out); have n2_ := zA (blk_at hq_ BK104.out); have n3_ := zA (below_at hq_ HB.out); clear hq_ HO111 BK103 BK104 HB; have HO111 := n0_; have BK103 := n1_; have BK104 := n2_; have HB := n3_; clear n0_ n1_ n2_ n3_))
 have hnb35 := NB103_104.out
 have hnc35 := NB104_103.out
 obtain ⟨hcz36_0, hcz36_1, hcz36_2, hcz36_3⟩ := zc4 w32 (.string ((rd_T72 l0 a1).f0)) (.int .i64 ((rd_T72 l0 a1).f1)) (.int .i64 ((rd_T72 l0 a1).f2)) (.int .i64 ((rd_T72 l0 a1).f3)) BK103.out
 obtain ⟨hfz36_0, hfz36_1, hfz36_2, hfz36_3⟩ := zf4 BK103.out
 try go_wp2_with (first | ((with_reducible refine gate_callee (f := 148) rfl ?_); refine goesL_ (some 42) rfl rfl Try.func148 (by kernel_rfl) rfl #[.agg #[.string ((rd_T72 l0 a1).f0), .int .i64 ((rd_T72 l0 a1).f1), .int .i64 ((rd_T72 l0 a1).f2), .int .i64 ((rd_T72 l0 a1).f3)]] rfl (by (try simp only [List.map_toArray, List.map_cons, List.map_nil]); first | done | rfl | (simp only [List.length_drop, List.length_take]; rfl)) ?_; (with_reducible refine (impl_Node_of.calls k ((rd_T72 l0 a1).f0) ((rd_T72 l0 a1).f1) ((rd_T72 l0 a1).f2) ((rd_T72 l0 a1).f3) t113 _ A15.out).mono ?_); rintro e w37 ⟨v114, rfl, ho0, hb⟩; refine ⟨_, rfl, ?_⟩; have n0_ := zA (Kd.R_elder' (by (with_reducible repeat (first | apply zRa | apply zRn | apply zRd)); exact HO111.out) (Kd.R_base ho0) hb); have n1_ := zA (Kd.R_lower (Kd.R_new' ho0 (Kd.R_lt (by (with_reducible repeat (first | apply zRa | apply zRn | apply zRd)); exact HO111.out))) (below_size (by repeat (first | (with_reducible first | exact HB.out | apply zba | apply zbn | apply zbd | refine below_set ?_ GE103.out | refine below_set ?_ GE104.out) | exact HB.out)))); have n2_ := zA (blk_below (g := gb103) (o := .cells #[.string ((rd_T72 l0 a1).f0), .int .i64 ((rd_T72 l0 a1).f1), .int .i64 ((rd_T72 l0 a1).f2), .int .i64 ((rd_T72 l0 a1).f3)] 72 (0, 0)) (by (with_reducible repeat (first | refine zkn ?_ _ | refine zkd ?_ | refine zka ?_ _)); exact BK103.out) hb); have n3_ := zA (blk_below (g := gb104) (o := .cells #[.string ((rd_T72 l0 a2).f0), .int .i64 ((rd_T72 l0 a2).f1), .int .i64 ((rd_T72 l0 a2).f2), .int .i64 ((rd_T72 l0 a2).f3)] 72 (0, 0)) (by (with_reducible repeat (first | refine zkn ?_ _ | refine zkd ?_ | refine zka ?_ _)); exact BK104.out) hb); have n4_ := zA (below_step (by repeat (first | (with_reducible first | exact HB.out | apply zba | apply zbn | apply zbd | refine below_set ?_ GE103.out | refine below_set ?_ GE104.out) | exact HB.out)) hb); clear HO111 BK103; clear BK104 HB; have HO111 := n0_; have HO115 := n1_; have BK103 := n2_; have BK104 := n3_; have HB := n4_; clear n0_ n1_ n2_ n3_ n4_; (try clear hb); (try clear ho0); obtain ⟨Ao38, co38, eo38⟩ := Kd.R_slice HO115.out; subst eo38))
 go_loopg [44] k (fun kq v44 w' => ∃ (x44_1 : Int), v44 = .int .i64 x44_1 ∧ Aside0 (impl_compareNodes.l0 kq l0 t113 (t113.length : Int) x44_1 ((rd_T72 l0 a2).f0) ((rd_T72 l0 a2).f1) ((rd_T72 l0 a2).f2) ((rd_T72 l0 a2).f3) = some r) ∧ Aside0 (kq ≤ k) ∧ Aside0 (Kd.R (Kd.int .i64) 3 w' w.heap.size (fun _ => True) (.slice Ao38 t113.length co38) t113) ∧ Aside0 (w'.heap[gb103]? = some (.cells #[.string ((rd_T72 l0 a1).f0), .int .i64 ((rd_T72 l0 a1).f1), .int .i64 ((rd_T72 l0 a1).f2), .int .i64 ((rd_T72 l0 a1).f3)] 72 (0, 0))) ∧ Aside0 (w'.heap[gb104]? = some (.cells #[.string ((rd_T72 l0 a2).f0), .int .i64 ((rd_T72 l0 a2).f1), .int .i64 ((rd_T72 l0 a2).f2), .int .i64 ((rd_T72 l0 a2).f3)] 72 (0, 0))) ∧ Aside0 (Below w.heap.size w w'))
 case atStart => exact ⟨(0), (by first | rfl | (simp; done) | (simp [*]; done)), H', ⟨zlr _⟩, ⟨by (with_reducible repeat (first | apply zRa | apply zRn | apply zRd)); exact Kd.R_mono HO115.out (fun _ hk => trivial)⟩, ⟨by (with_reducible repeat (first | refine zkn ?_ _ | refine zkd ?_ | refine zka ?_ _)); exact BK103.out⟩, ⟨by (with_reducible repeat (first | refine zkn ?_ _ | refine zkd ?_ | refine zka ?_ _)); exact BK104.out⟩, ⟨by repeat (first | (with_reducible first | exact HB.out | apply zba | apply zbn | apply zbd | refine below_set ?_ GE103.out | refine below_set ?_ GE104.out) | exact HB.out)⟩⟩
 clear H'
 try clear c1
 try clear p1
 try clear q1
 try clear hx1
 try clear p2
 try clear c3
 try clear c4
 try clear c4b0
 try clear c4b1
 try clear c5
 try clear c5b0
 try clear c6
 try clear c6b0
 try clear c7
 try clear c7b0
 try clear c8
 try clear c8b0
 try clear c10
 try clear p10
 try clear q10
 try clear hx10
 try clear c14
 try clear c14b0
 try clear c14b1
 try clear c15
 try clear c35
 try clear hcz36_0
 try clear hcz36_1
 try clear hcz36_2
 try clear hcz36_3
 try clear hfz36_0
 try clear hfz36_1
 try clear hfz36_2
 try clear hfz36_3
 try clear hx101_0
 try clear hx101_1
 try clear hx101_2
 try clear hx101_3
 try clear hx102_0
 try clear hx102_1
 try clear hx102_2
 try clear hx102_3
 try clear p101
 try clear p102
 try clear q101
 try clear q102
 obtain ⟨x44_1, rfl, HA, HK1, HO_42, BK103, BK104, HB⟩ := hrel
 cases gk with
 | zero => exact absurd HA.out (by simp [impl_compareNodes.l0])
 | succ k1 =>
 have H := HA.out
 clear HA
 simp only [impl_compareNodes.l0] at H
 by_cases c39 : x44_1 < (t113.length : Int)
 rotate_left
 · rw [if_neg c39] at H
   have c39b0 : decide (x44_1 < (t113.length : Int)) = false := zdf c39
   clear c39
   obtain rfl := zsi H
   go_wp2
   go_ret
   exact ⟨by first | rfl | (simp [errW_none, errW_some] <;> rfl) | (simp [*, errW_none, errW_some] <;> rfl), by repeat (first | (with_reducible first | exact HB.out | apply zba | apply zbn | apply zbd | refine below_set ?_ GE103.out | refine below_set ?_ GE104.out) | exact HB.out)⟩
 rw [if_pos c39] at H
 have c39b0 : decide (x44_1 < (t113.length : Int)) = true := zdt c39
 clear c39
 by_cases c40 : 0 ≤ x44_1
 rotate_left
 · rw [if_neg c40] at H
   exact absurd H (by simp)
 rw [if_pos c40] at H
 have c40b0 : decide (0 ≤ x44_1) = true := zdt c40
 clear c40
 by_cases c41 : x44_1 < (t113.length : Int)
 rotate_left
 · rw [if_neg c41] at H
   exact absurd H (by simp)
 rw [if_pos c41] at H
 have c41b0 : decide (x44_1 < (t113.length : Int)) = true := zdt c41
 clear c41
 replace H := zob H
 obtain ⟨t117, A420, H⟩ := H
 replace H : (if x44_1 < (t117.length : Int) then ((impl_compareNodes.f k1 l0 (rd t113 x44_1) (rd t117 x44_1)).bind fun t121 => (if t121 = 0 then (impl_compareNodes.l0 k1 l0 t113 (t113.length : Int) (wrap64 (x44_1 + 1)) ((rd_T72 l0 a2).f0) ((rd_T72 l0 a2).f1) ((rd_T72 l0 a2).f2) ((rd_T72 l0 a2).f3)) else (some t121))) else (none)) = some r := H
 have A42 := zA A420
 clear A420
 by_cases c43 : x44_1 < (t117.length : Int)
 rotate_left
 · rw [if_neg c43] at H
   exact absurd H (by simp)
 rw [if_pos c43] at H
 have c43b0 : decide (x44_1 < (t117.length : Int)) = true := zdt c43
 clear c43
 replace H := zob H
 obtain ⟨t121, A440, H⟩ := H
 replace H : (if t121 = 0 then (impl_compareNodes.l0 k1 l0 t113 (t113.length : Int) (wrap64 (x44_1 + 1)) ((rd_T72 l0 a2).f0) ((rd_T72 l0 a2).f1) ((rd_T72 l0 a2).f2) ((rd_T72 l0 a2).f3)) else (some t121)) = some r := H
 have A44 := zA A440
 clear A440
 by_cases c45 : t121 = 0
 rotate_left
 · rw [if_neg c45] at H
   have c45b0 : (t121 == 0) = false := beq_eq_false_iff_ne.mpr c45
   have c45b1 : (t121 != 0) = true := bne_iff_ne.mpr c45
   obtain rfl := zsi H
   have p116 : 0 ≤ (x44_1 : Int) := zde (by assumption)
   have q116 : x44_1 < (t113.length : Int) := zde (by assumption)
   obtain ⟨ad116, e116, hx116_0⟩ := Kd.at_int (zRr HO_42.out).2.2 x44_1 p116 q116
   cases e116
   replace p116 := eq_true p116
   replace q116 := eq_true q116
   have hnb51 := NB104_103.out
   have hnc51 := NB103_104.out
   obtain ⟨hcz52_0, hcz52_1, hcz52_2, hcz52_3⟩ := zc4 wr (.string ((rd_T72 l0 a2).f0)) (.int .i64 ((rd_T72 l0 a2).f1)) (.int .i64 ((rd_T72 l0 a2).f2)) (.int .i64 ((rd_T72 l0 a2).f3)) BK104.out
   obtain ⟨hfz52_0, hfz52_1, hfz52_2, hfz52_3⟩ := zf4 BK104.out
   go_wp2_with (first | ((with_reducible refine gate_callee (f := 148) rfl ?_); refine goesL_ (some 52) rfl rfl Try.func148 (by kernel_rfl) rfl #[.agg #[.string ((rd_T72 l0 a2).f0), .int .i64 ((rd_T72 l0 a2).f1), .int .i64 ((rd_T72 l0 a2).f2), .int .i64 ((rd_T72 l0 a2).f3)]] rfl (by (try simp only [List.map_toArray, List.map_cons, List.map_nil]); first | done | rfl | (simp only [List.length_drop, List.length_take]; rfl)) ?_; (with_reducible refine (impl_Node_of.calls k1 ((rd_T72 l0 a2).f0) ((rd_T72 l0 a2).f1) ((rd_T72 l0 a2).f2) ((rd_T72 l0 a2).f3) t117 _ A42.out).mono ?_); rintro e w53 ⟨v118, rfl, ho0, hb⟩; refine ⟨_, rfl, ?_⟩; have n0_ := zA (Kd.R_elder' (by (with_reducible repeat (first | apply zRa | apply zRn | apply zRd)); exact HO_42.out) (Kd.R_base ho0) hb); have n1_ := zA (Kd.R_lower (Kd.R_new' ho0 (Kd.R_lt (by (with_reducible repeat (first | apply zRa | apply zRn | apply zRd)); exact HO_42.out))) (below_size (by repeat (first | (with_reducible first | exact HB.out | apply zba | apply zbn | apply zbd | refine below_set ?_ GE103.out | refine below_set ?_ GE104.out) | exact HB.out)))); have n2_ := zA (blk_below (g := gb103) (o := .cells #[.string ((rd_T72 l0 a1).f0), .int .i64 ((rd_T72 l0 a1).f1), .int .i64 ((rd_T72 l0 a1).f2), .int .i64 ((rd_T72 l0 a1).f3)] 72 (0, 0)) (by (with_reducible repeat (first | refine zkn ?_ _ | refine zkd ?_ | refine zka ?_ _)); exact BK103.out) hb); have n3_ := zA (blk_below (g := gb104) (o := .cells #[.string ((rd_T72 l0 a2).f0), .int .i64 ((rd_T72 l0 a2).f1), .int .i64 ((rd_T72 l0 a2).f2), .int .i64 ((rd_T72 l0 a2).f3)] 72 (0, 0)) (by (with_reducible repeat (first | refine zkn ?_ _ | refine zkd ?_ | refine zka ?_ _)); exact BK104.out) hb); have n4_ := zA (below_step (by repeat (first | (with_reducible first | exact HB.out | apply zba | apply zbn | apply zbd | refine below_set ?_ GE103.out | refine below_set ?_ GE104.out) | exact HB.out)) hb); clear HO_42 BK103; clear BK104 HB; have HO_42 := n0_; have HO119 := n1_; have BK103 := n2_; have BK104 := n3_; have HB := n4_; clear n0_ n1_ n2_ n3_ n4_; (try clear hb); (try clear ho0); obtain ⟨Ao54, co54, eo54⟩ := Kd.R_slice HO119.out; subst eo54; have p120 : 0 ≤ (x44_1 : Int) := zde (by assumption); have q120 : x44_1 < (t117.length : Int) := zde (by assumption); obtain ⟨ad120, e120, hx120_0⟩ := Kd.at_int (zRr HO119.out).2.2 x44_1 p120 q120; cases e120; replace p120 := eq_true p120; replace q120 := eq_true q120) | ((with_reducible refine gate_callee (f := 103) rfl ?_); refine goesL_ (some 56) rfl rfl Try.func103 (by kernel_rfl) rfl #[.slice (some ad101) l0.length c0, .int .i64 (rd t113 x44_1), .int .i64 (rd t117 x44_1)] rfl (by (try simp only [List.map_toArray, List.map_cons, List.map_nil]); first | done | rfl | (simp only [List.length_drop, List.length_take]; rfl)) ?_; (with_reducible refine (ih k1 (by have := HK1.out; omega) _ _ l0 (rd t113 x44_1) (rd t117 x44_1) t121 _ ?side1 ?side2 A44.out).mono ?_); (case side1 => repeat (first | exact (zCb HR0.out HB.out) | (with_reducible first | refine zCa ?_ _ | refine zCn ?_ _ | refine zCd ?_))); (case side2 => exact HC0.out); rintro e w55 ⟨rfl, hb⟩; refine ⟨_, rfl, ?_⟩; have n0_ := zA (zRb (by (with_reducible repeat (first | apply zRa | apply zRn | apply zRd)); exact HO_42.out) hb); have n1_ := zA (zRb (by (with_reducible repeat (first | apply zRa | apply zRn | apply zRd)); exact HO119.out) hb); have n2_ := zA (blk_below (g := gb103) (o := .cells #[.string ((rd_T72 l0 a1).f0), .int .i64 ((rd_T72 l0 a1).f1), .int .i64 ((rd_T72 l0 a1).f2), .int .i64 ((rd_T72 l0 a1).f3)] 72 (0, 0)) (by (with_reducible repeat (first | refine zkn ?_ _ | refine zkd ?_ | refine zka ?_ _)); exact BK103.out) hb); have n3_ := zA (blk_below (g := gb104) (o := .cells #[.string ((rd_T72 l0 a2).f0), .int .i64 ((rd_T72 l0 a2).f1), .int .i64 ((rd_T72 l0 a2).f2), .int .i64 ((rd_T72 l0 a2).f3)] 72 (0, 0)) (by (with_reducible repeat (first | refine zkn ?_ _ | refine zkd ?_ | refine zka ?_ _)); exact BK104.out) hb); have n4_ := zA (below_step (by repeat (first | (with_reducible first | exact HB.out | apply zba | apply zbn | apply zbd | refine below_set ?_ GE103.out | refine below_set ?_ GE104.out) | exact HB.out)) hb); clear HO_42 HO119; clear BK103 BK104 HB; have HO_42 := n0_; have HO119 := n1_; have BK103 := n2_; have BK104 := n3_; have HB := n4_; clear n0_ n1_ n2_ n3_ n4_; (try clear hb)))
   go_ret
   exact ⟨by first | rfl | (simp [errW_none, errW_some] <;> rfl) | (simp [*, errW_none, errW_some] <;> rfl), by repeat (first | (with_reducible first | exact HB.out | apply zba | apply zbn | apply zbd | refine below_set ?_ GE103.out | refine below_set ?_ GE104.out) | exact HB.out)⟩
 rw [if_pos c45] at H
 have c45b0 : (t121 == 0) = true := beq_iff_eq.mpr c45
 have c45b1 : (t121 != 0) = false := bne_eq_false_iff_eq.mpr c45
 clear c45
 have H' := zA H
 clear H
 have p116 : 0 ≤ (x44_1 : Int) := zde (by assumption)
 have q116 : x44_1 < (t113.length : Int) := zde (by assumption)
 obtain ⟨ad116, e116, hx116_0⟩ := Kd.at_int (zRr HO_42.out).2.2 x44_1 p116 q116
 cases e116
 replace p116 := eq_true p116
 replace q116 := eq_true q116
 have hnb46 := NB104_103.out
 have hnc46 := NB103_104.out
 obtain ⟨hcz47_0, hcz47_1, hcz47_2, hcz47_3⟩ := zc4 wr (.string ((rd_T72 l0 a2).f0)) (.int .i64 ((rd_T72 l0 a2).f1)) (.int .i64 ((rd_T72 l0 a2).f2)) (.int .i64 ((rd_T72 l0 a2).f3)) BK104.out
 obtain ⟨hfz47_0, hfz47_1, hfz47_2, hfz47_3⟩ := zf4 BK104.out
 go_wp2_with (first | ((with_reducible refine gate_callee (f := 148) rfl ?_); refine goesL_ (some 52) rfl rfl Try.func148 (by kernel_rfl) rfl #[.agg #[.string ((rd_T72 l0 a2).f0), .int .i64 ((rd_T72 l0 a2).f1), .int .i64 ((rd_T72 l0 a2).f2), .int .i64 ((rd_T72 l0 a2).f3)]] rfl (by (try simp only [List.map_toArray, List.map_cons, List.map_nil]); first | done | rfl | (simp only [List.length_drop, List.length_take]; rfl)) ?_; (with_reducible refine (impl_Node_of.calls k1 ((rd_T72 l0 a2).f0) ((rd_T72 l0 a2).f1) ((rd_T72 l0 a2).f2) ((rd_T72 l0 a2).f3) t117 _ A42.out).mono ?_); rintro e w48 ⟨v118, rfl, ho0, hb⟩; refine ⟨_, rfl, ?_⟩; have n0_ := zA (Kd.R_elder' (by (with_reducible repeat (first | apply zRa | apply zRn | apply zRd)); exact HO_42.out) (Kd.R_base ho0) hb); have n1_ := zA (Kd.R_lower (Kd.R_new' ho0 (Kd.R_lt (by (with_reducible repeat (first | apply zRa | apply zRn | apply zRd)); exact HO_42.out))) (below_size (by repeat (first | (with_reducible first | exact HB.out | apply zba | apply zbn | apply zbd | refine below_set ?_ GE103.out | refine below_set ?_ GE104.out) | exact HB.out)))); have n2_ := zA (blk_below (g := gb103) (o := .cells #[.string ((rd_T72 l0 a1).f0), .int .i64 ((rd_T72 l0 a1).f1), .int .i64 ((rd_T72 l0 a1).f2), .int .i64 ((rd_T72 l0 a1).f3)] 72 (0, 0)) (by (with_reducible repeat (first | refine zkn ?_ _ | refine zkd ?_ | refine zka ?_ _)); exact BK103.out) hb); have n3_ := zA (blk_below (g := gb104) (o := .cells #[.string ((rd_T72 l0 a2).f0), .int .i64 ((rd_T72 l0 a2).f1), .int .i64 ((rd_T72 l0 a2).f2), .int .i64 ((rd_T72 l0 a2).f3)] 72 (0, 0)) (by (with_reducible repeat (first | refine zkn ?_ _ | refine zkd ?_ | refine zka ?_ _)); exact BK104.out) hb); have n4_ := zA (below_step (by repeat (first | (with_reducible first | exact HB.out | apply zba | apply zbn | apply zbd | refine below_set ?_ GE103.out | refine below_set ?_ GE104.out) | exact HB.out)) hb); clear HO_42 BK103; clear BK104 HB; have HO_42 := n0_; have HO119 := n1_; have BK103 := n2_; have BK104 := n3_; have HB := n4_; clear n0_ n1_ n2_ n3_ n4_; (try clear hb); (try clear ho0); obtain ⟨Ao49, co49, eo49⟩ := Kd.R_slice HO119.out; subst eo49; have p120 : 0 ≤ (x44_1 : Int) := zde (by assumption); have q120 : x44_1 < (t117.length : Int) := zde (by assumption); obtain ⟨ad120, e120, hx120_0⟩ := Kd.at_int (zRr HO119.out).2.2 x44_1 p120 q120; cases e120; replace p120 := eq_true p120; replace q120 := eq_true q120) | ((with_reducible refine gate_callee (f := 103) rfl ?_); refine goesL_ (some 56) rfl rfl Try.func103 (by kernel_rfl) rfl #[.slice (some ad101) l0.length c0, .int .i64 (rd t113 x44_1), .int .i64 (rd t117 x44_1)] rfl (by (try simp only [List.map_toArray, List.map_cons, List.map_nil]); first | done | rfl | (simp only [List.length_drop, List.length_take]; rfl)) ?_; (with_reducible refine (ih k1 (by have := HK1.out; omega) _ _ l0 (rd t113 x44_1) (rd t117 x44_1) t121 _ ?side1 ?side2 A44.out).mono ?_); (case side1 => repeat (first | exact (zCb HR0.out HB.out) | (with_reducible first | refine zCa ?_ _ | refine zCn ?_ _ | refine zCd ?_))); (case side2 => exact HC0.out); rintro e w50 ⟨rfl, hb⟩; refine ⟨_, rfl, ?_⟩; have n0_ := zA (zRb (by (with_reducible repeat (first | apply zRa | apply zRn | apply zRd)); exact HO_42.out) hb); have n1_ := zA (zRb (by (with_reducible repeat (first | apply zRa | apply zRn | apply zRd)); exact HO119.out) hb); have n2_ := zA (blk_below (g := gb103) (o := .cells #[.string ((rd_T72 l0 a1).f0), .int .i64 ((rd_T72 l0 a1).f1), .int .i64 ((rd_T72 l0 a1).f2), .int .i64 ((rd_T72 l0 a1).f3)] 72 (0, 0)) (by (with_reducible repeat (first | refine zkn ?_ _ | refine zkd ?_ | refine zka ?_ _)); exact BK103.out) hb); have n3_ := zA (blk_below (g := gb104) (o := .cells #[.string ((rd_T72 l0 a2).f0), .int .i64 ((rd_T72 l0 a2).f1), .int .i64 ((rd_T72 l0 a2).f2), .int .i64 ((rd_T72 l0 a2).f3)] 72 (0, 0)) (by (with_reducible repeat (first | refine zkn ?_ _ | refine zkd ?_ | refine zka ?_ _)); exact BK104.out) hb); have n4_ := zA (below_step (by repeat (first | (with_reducible first | exact HB.out | apply zba | apply zbn | apply zbd | refine below_set ?_ GE103.out | refine below_set ?_ GE104.out) | exact HB.out)) hb); clear HO_42 HO119; clear BK103 BK104 HB; have HO_42 := n0_; have HO119 := n1_; have BK103 := n2_; have BK104 := n3_; have HB := n4_; clear n0_ n1_ n2_ n3_ n4_; (try clear hb)))
 go_roundg k1
 case measure => have := HK1.out; omega
 case rel => exact ⟨(wrap64 (x44_1 + 1)), (by first | rfl | (simp; done) | (simp [*]; done)), H', ⟨by have := HK1.out; omega⟩, ⟨by (with_reducible repeat (first | apply zRa | apply zRn | apply zRd)); exact Kd.R_mono HO_42.out (fun _ hk => trivial)⟩, ⟨by (with_reducible repeat (first | refine zkn ?_ _ | refine zkd ?_ | refine zka ?_ _)); exact BK103.out⟩, ⟨by (with_reducible repeat (first | refine zkn ?_ _ | refine zkd ?_ | refine zka ?_ _)); exact BK104.out⟩, ⟨by repeat (first | (with_reducible first | exact HB.out | apply zba | apply zbn | apply zbd | refine below_set ?_ GE103.out | refine below_set ?_ GE104.out) | exact HB.out)⟩⟩
end Go.Proofs.Ytkfkbmlbpeojaaa.Q
end
section
namespace Go.Proofs.Ytkfkbmlbpeojaaa.Q
open Go.RowKit Go.Proofs.YtkfkbmlbpeojaaaW.PrintWords Go.Proofs.YtkfkbmlbpeojaaaW.PrintLast Go.Proofs.YtkfkbmlbpeojaaaW.PrintMore
set_option linter.unusedVariables false
set_option linter.unusedSimpArgs false
structure ShFr (go r : Nat) (vo : Value) (W : World) (vo' : Value) (W' : World) : Prop where
  size : W.heap.size ≤ W'.heap.size
  keep : ∀ k, k < W.heap.size → k ≠ r → k ≠ go → some k ≠ vo.ownBlock → W'.heap[k]? = W.heap[k]?
  own : ∀ k, vo'.ownBlock = some k → vo.ownBlock = some k ∨ W.heap.size ≤ k
theorem ShFr.refl (go r : Nat) (vo : Value) (W : World) : ShFr go r vo W vo W := ⟨Nat.le_refl _, fun _ _ _ _ _ => rfl, fun _ h => .inl h⟩
theorem ShFr.trans {go r : Nat} {v1 v2 v3 : Value} {W1 W2 W3 : World} (h : ShFr go r v1 W1 v2 W2) (h' : ShFr go r v2 W2 v3 W3) : ShFr go r v1 W1 v3 W3 := by
  refine ⟨Nat.le_trans h.size h'.size, fun k hk h1 h2 h3 => ?_, fun k hk => ?_⟩
  · rw [h'.keep k (Nat.lt_of_lt_of_le hk h.size) h1 h2 (fun e => ?_), h.keep k hk h1 h2 h3]
    rcases h.own k e.symm with e' | e'
    · exact h3 e'.symm
    · omega
  · rcases h'.own k hk with e | e
    · exact h.own k e
    · have := h.size
      exact .inr (by omega)
theorem ShFr.step {go r : Nat} {vo v1 : Value} {W W1 W2 : World} (h : ShFr go r vo W v1 W1) (hb : Below W1.heap.size W1 W2) : ShFr go r vo W v1 W2 :=
  h.trans ⟨hb.size, fun k hk _ _ _ => hb.block k hk, fun _ e => .inl e⟩
section
variable {go r : Nat} {vo v : Value} {W W1 : World}
theorem ShFr.setn (h : ShFr go r vo W v W1) (i : Nat) (u : Value) : ShFr go r vo W v (W1.setCell ⟨r, i, none⟩ u) :=
  h.trans ⟨((Below.refl 0 W1).setCell (p := ⟨r, i, none⟩) (Nat.zero_le _) u).size, fun k _ hk _ _ => Below.heap_setCell W1 ⟨r, i, none⟩ u k hk, fun _ e => .inl e⟩
theorem ShFr.append (h : ShFr go r vo W v W1) {W2 : World} {v' : Value} (hg : W1.grownBy W2 v.ownBlock) (hat : v'.ownBlock = v.ownBlock ∨ ∃ b, v'.ownBlock = some b ∧ W1.heap.size ≤ b) : ShFr go r vo W v' (W2.setCell ⟨go, 0, none⟩ v') := by
  refine h.trans ⟨Nat.le_trans hg.size ((Below.refl 0 W2).setCell (p := ⟨go, 0, none⟩) (Nat.zero_le _) v').size, fun k hk _ h2 h3 => (Below.heap_setCell W2 ⟨go, 0, none⟩ v' k h2).trans (hg.block k hk h3), fun k hk => ?_⟩
  rcases hat with e | ⟨b, e, hb⟩
  · exact .inl (e ▸ hk)
  · rw [e] at hk
    obtain rfl := Option.some.inj hk
    exact .inr hb
end
end Go.Proofs.Ytkfkbmlbpeojaaa.Q
end
section
namespace Go.Proofs.Ytkfkbmlbpeojaaa.Q
open Go.RowKit Go.Proofs.YtkfkbmlbpeojaaaW.PrintWords Go.Proofs.YtkfkbmlbpeojaaaW.PrintLast Go.Proofs.YtkfkbmlbpeojaaaW.PrintMore
attribute [local go_sem] max2_int min2_int max_two min_two max_three min_three max_four min_four
set_option linter.unusedVariables false
set_option linter.unusedSimpArgs false
theorem eqA72 (d : Nat) (w : World) (x0 y0 : ByteArray) (x1 y1 : Int) (x2 y2 : Int) (x3 y3 : Int) :
   (Op.equalIn (d + 2) 72 (.agg #[.string x0, .int .i64 x1, .int .i64 x2, .int .i64 x3]) (.agg #[.string y0, .int .i64 y1, .int .i64 y2, .int .i64 y3])).run Try.prog w = .ok (x0.toList == y0.toList && (x1 == y1 && (x2 == y2 && (x3 == y3)))) w := by
 refine eqA_of Try.underlying72 (by kernel_rfl) ?_
 refine eqf_cons (by rfl) (by go_simp; rfl) (by go_simp; rfl) (by go_simp) ?_
 refine eqf_cons (by rfl) (by go_simp; rfl) (by go_simp; rfl) (by go_simp) ?_
 refine eqf_cons (by rfl) (by go_simp; rfl) (by go_simp; rfl) (by go_simp) ?_
 exact eqf_last (by rfl) (by go_simp; rfl) (by go_simp; rfl) (by go_simp)
end Go.Proofs.Ytkfkbmlbpeojaaa.Q
end
section
namespace Go.Proofs.Ytkfkbmlbpeojaaa.Q
open Go.RowKit Go.Proofs.YtkfkbmlbpeojaaaW.PrintWords Go.Proofs.YtkfkbmlbpeojaaaW.PrintLast Go.Proofs.YtkfkbmlbpeojaaaW.PrintMore
attribute [local go_sem] max2_int min2_int max_two min_two max_three min_three max_four min_four
set_option linter.unusedVariables false
set_option linter.unusedSimpArgs false
attribute [local go_sem high] eqA72
def impl_Node_152.l0 : Nat → List (S72) → Int → Int → ByteArray → Int → Int → Int → Option (Int)
 | 0, _, _, _, _, _, _, _ => none
 | k + 1, x0, x7, x8, x102000, x102001, x102002, x102003 => if x8 < x7 then (if 0 ≤ x8 then (if x8 < (x0.length : Int) then (if (x102000.toList == (((rd_T72 x0 x8).f0).toList) && (x102001 == ((rd_T72 x0 x8).f1) && (x102002 == ((rd_T72 x0 x8).f2) && (x102003 == ((rd_T72 x0 x8).f3))))) = true then (some x8) else (impl_Node_152.l0 k x0 x7 (wrap64 (x8 + 1)) x102000 x102001 x102002 x102003)) else (none)) else (none)) else (some (-1))
def impl_Node_152.f (k : Nat) (l0 : List (S72)) (a1_0 : ByteArray) (a1_1 : Int) (a1_2 : Int) (a1_3 : Int) : Option (Int) := impl_Node_152.l0 k l0 (l0.length : Int) 0 a1_0 a1_1 a1_2 a1_3
theorem impl_Node_152.mono_l : ∀ k, (∀ y0 y1 y2 y3 y4 y5 y6, LeO (impl_Node_152.l0 k y0 y1 y2 y3 y4 y5 y6) (impl_Node_152.l0 (k + 1) y0 y1 y2 y3 y4 y5 y6))
 | 0 => fun _ _ _ _ _ _ _ r h => by simp [impl_Node_152.l0] at h
 | k + 1 => by
   have ih0 := impl_Node_152.mono_l k
   · intro y0 y1 y2 y3 y4 y5 y6
     unfold impl_Node_152.l0
     repeat' first
     | (with_reducible first | exact ih0 _ _ _ _ _ _ _ | exact LeO.refl _ | exact LeO.none _ | refine LeO.ite ?_ ?_ | refine LeO.bind ?_ (fun _ => ?_))
     | exact LeO.none _
     | refine LeO.ite ?_ ?_
     | refine LeO.bind ?_ (fun _ => ?_)
theorem impl_Node_152.mono : ∀ a0 a1 a2 a3 a4 k, LeO (impl_Node_152.f k a0 a1 a2 a3 a4) (impl_Node_152.f (k + 1) a0 a1 a2 a3 a4) := by
 intro a0 a1 a2 a3 a4 k
 have ih0 := impl_Node_152.mono_l k
 unfold impl_Node_152.f
 repeat' first
     | (with_reducible first | exact ih0 _ _ _ _ _ _ _ | exact LeO.refl _ | exact LeO.none _ | refine LeO.ite ?_ ?_ | refine LeO.bind ?_ (fun _ => ?_))
     | exact LeO.none _
     | refine LeO.ite ?_ ?_
     | refine LeO.bind ?_ (fun _ => ?_)
set_option maxHeartbeats 8000000 in
set_option maxRecDepth 100000 in
theorem impl_Node_152.calls (k : Nat) (A0 : Option Addr) (c0 : Nat) (l0 : List (S72)) (a1_0 : ByteArray) (a1_1 : Int) (a1_2 : Int) (a1_3 : Int) (r : Int) (w : World) (hr0 : Kd.C k72 w A0 l0.length l0) (hc0 : l0.length ≤ c0) (h : impl_Node_152.f k l0 a1_0 a1_1 a1_2 a1_3 = some r) :
   Calls Try.prog 152 #[.slice A0 l0.length c0, .agg #[.string a1_0, .int .i64 a1_1, .int .i64 a1_2, .int .i64 a1_3]] w fun e w' => e = .returned (.int .i64 r) ∧ Below w.heap.size w w' := by
 have hu72 := Try.underlying72
 have HR0 := zA hr0
 have HC0 := zA hc0
 clear hr0 hc0
 have HB := zA (Below.refl w.heap.size w)
 have H : (impl_Node_152.l0 k l0 (l0.length : Int) 0 a1_0 a1_1 a1_2 a1_3) = some r := h
 clear h
 have H' := zA H
 clear H
 go_enter Try.func152, Try.ntmps152
 go_wp2_with (first | ((with_reducible refine gate_dst (N := 3) rfl ?_); refine box_event ?hg (N := 3) ?hd (cs := #[.string a1_0, .int .i64 a1_1, .int .i64 a1_2, .int .i64 a1_3]) (t := 72) ?hr ?_; (case hd => rfl); (case hg => rfl); (case hr => go_simp <;> rfl); intro gb101 hg w3 hbox hb; have zs := zpair (by repeat (first | (with_reducible first | exact HB.out | apply zba | apply zbn | apply zbd) | exact HB.out)) hb; have n0_ := zA (zs.1); have n1_ := zA (hbox); have n2_ := zA ((by rw [hg]; exact zs.2 : w.heap.size ≤ gb101)); have n3_ := n2_; clear HB; have HB := n0_; have BK101 := n1_; have GW101 := n2_; have GE101 := n3_; clear n0_ n1_ n2_ n3_; clear zs hb hbox hg))
 repeat (go_quiet (first | ((with_reducible refine gate_dst (N := 3) rfl ?_); refine box_event ?hg (N := 3) ?hd (cs := #[.string a1_0, .int .i64 a1_1, .int .i64 a1_2, .int .i64 a1_3]) (t := 72) ?hr ?_; (case hd => rfl); (case hg => rfl); (case hr => go_simp <;> rfl); intro gb101 hg w3 hbox hb; have zs := zpair (by repeat (first | (with_reducible first | exact HB.out | apply zba | apply zbn | apply zbd) | exact HB.out)) hb; have n0_ := zA (zs.1); have n1_ := zA (hbox); have n2_ := zA ((by rw [hg]; exact zs.2 : w.heap.size ≤ gb101)); have n3_ := n2_; clear HB; have HB := n0_; have BK101 := n1_; have GW101 := n2_; have GE101 := n3_; clear n0_ n1_ n2_ n3_; clear zs hb hbox hg)); try go_wp2_with (first | ((with_reducible refine gate_dst (N := 3) rfl ?_); refine box_event ?hg (N := 3) ?hd (cs := #[.string a1_0, .int .i64 a1_1, .int .i64 a1_2, .int .i64 a1_3]) (t := 72) ?hr ?_; (case hd => rfl); (case hg => rfl); (case hr => go_simp <;> rfl); intro gb101 hg w3 hbox hb; have zs := zpair (by repeat (first | (with_reducible first | exact HB.out | apply zba | apply zbn | apply zbd) | exact HB.out)) hb; have n0_ := zA (zs.1); have n1_ := zA (hbox); have n2_ := zA ((by rw [hg]; exact zs.2 : w.heap.size ≤ gb101)); have n3_ := n2_; clear HB; have HB := n0_; have BK101 := n1_; have GW101 := n2_; have GE101 := n3_; clear n0_ n1_ n2_ n3_; clear zs hb hbox hg)))
 go_loopg [8] k (fun kq v8 w' => ∃ (x8_1 : Int), v8 = .int .i64 x8_1 ∧ Aside0 (impl_Node_152.l0 kq l0 (l0.length : Int) x8_1 a1_0 a1_1 a1_2 a1_3 = some r) ∧ Aside0 (kq ≤ k) ∧ Aside0 (w'.heap[gb101]? = some (.cells #[.string a1_0, .int .i64 a1_1, .int .i64 a1_2, .int .i64 a1_3] 72 (0, 0))) ∧ Aside0 (Below w.heap.size w w'))
 case atStart => exact ⟨(0), (by first | rfl | (simp; done) | (simp [*]; done)), H', ⟨zlr _⟩, ⟨by (with_reducible repeat (first | refine zkn ?_ _ | refine zkd ?_ | refine zka ?_ _)); exact BK101.out⟩, ⟨by repeat (first | (with_reducible first | exact HB.out | apply zba | apply zbn | apply zbd | refine below_set ?_ GE101.out) | exact HB.out)⟩⟩
 clear H'
 try clear c1
 try clear p2
 obtain ⟨x8_1, rfl, HA, HK1, BK101, HB⟩ := hrel
 cases gk with
 | zero => exact absurd HA.out (by simp [impl_Node_152.l0])
 | succ k1 =>
 have H := HA.out
 clear HA
 simp only [impl_Node_152.l0] at H
 by_cases c4 : x8_1 < (l0.length : Int)
 rotate_left
 · rw [if_neg c4] at H
   have c4b0 : decide (x8_1 < (l0.length : Int)) = false := zdf c4
   clear c4
   obtain rfl := zsi H
   go_wp2
   repeat (go_quiet (fail); try go_wp2)
   go_ret
   exact ⟨by first | rfl | (simp [errW_none, errW_some] <;> rfl) | (simp [*, errW_none, errW_some] <;> rfl), by repeat (first | (with_reducible first | exact HB.out | apply zba | apply zbn | apply zbd | refine below_set ?_ GE101.out) | exact HB.out)⟩
 rw [if_pos c4] at H
 have c4b0 : decide (x8_1 < (l0.length : Int)) = true := zdt c4
 clear c4
 by_cases c5 : 0 ≤ x8_1
 rotate_left
 · rw [if_neg c5] at H
   exact absurd H (by simp)
 rw [if_pos c5] at H
 have c5b0 : decide (0 ≤ x8_1) = true := zdt c5
 clear c5
 by_cases c6 : x8_1 < (l0.length : Int)
 rotate_left
 · rw [if_neg c6] at H
   exact absurd H (by simp)
 rw [if_pos c6] at H
 have c6b0 : decide (x8_1 < (l0.length : Int)) = true := zdt c6
 clear c6
 by_cases c7 : (a1_0.toList == (((rd_T72 l0 x8_1).f0).toList) && (a1_1 == ((rd_T72 l0 x8_1).f1) && (a1_2 == ((rd_T72 l0 x8_1).f2) && (a1_3 == ((rd_T72 l0 x8_1).f3))))) = true
 · rw [if_pos c7] at H
   have c7b0 : (a1_0.toList == (((rd_T72 l0 x8_1).f0).toList) && (a1_1 == ((rd_T72 l0 x8_1).f1) && (a1_2 == ((rd_T72 l0 x8_1).f2) && (a1_3 == ((rd_T72 l0 x8_1).f3))))) = true := c7
   (try (have c7b1 : decide (a1_0.toList = (((rd_T72 l0 x8_1).f0).toList) && (a1_1 == ((rd_T72 l0 x8_1).f1) && (a1_2 == ((rd_T72 l0 x8_1).f2) && (a1_3 == ((rd_T72 l0 x8_1).f3))))) = true := by simpa using c7))
   (try (have c7b2 : (a1_0.toList == (((rd_T72 l0 x8_1).f0).toList) && (a1_1 == ((rd_T72 l0 x8_1).f1) && (a1_2 == ((rd_T72 l0 x8_1).f2) && (a1_3 == ((rd_T72 l0 x8_1).f3))))) = true := by simpa using c7))
   clear c7
   obtain rfl := zsi H
   obtain ⟨hcz8_0, hcz8_1, hcz8_2, hcz8_3⟩ := zc4 wr (.string a1_0) (.int .i64 a1_1) (.int .i64 a1_2) (.int .i64 a1_3) BK101.out
   obtain ⟨hfz8_0, hfz8_1, hfz8_2, hfz8_3⟩ := zf4 BK101.out
   have p102 : 0 ≤ (x8_1 : Int) := zde (by assumption)
   have q102 : x8_1 < (l0.length : Int) := zde (by assumption)
   obtain ⟨ad102, e102, hx102_0, hx102_1, hx102_2, hx102_3⟩ := at_T72 HR0.out x8_1 p102 q102
   cases e102
   replace hx102_0 := zkep HB.out hx102_0
   replace hx102_1 := zkep HB.out hx102_1
   replace hx102_2 := zkep HB.out hx102_2
   replace hx102_3 := zkep HB.out hx102_3
   replace p102 := eq_true p102
   replace q102 := eq_true q102
   go_wp2
   repeat (go_quiet (fail); try go_wp2)
   go_ret
   exact ⟨by first | rfl | (simp [errW_none, errW_some] <;> rfl) | (simp [*, errW_none, errW_some] <;> rfl), by repeat (first | (with_reducible first | exact HB.out | apply zba | apply zbn | apply zbd | refine below_set ?_ GE101.out) | exact HB.out)⟩
 rw [if_neg c7] at H
 have c7b0 : (a1_0.toList == (((rd_T72 l0 x8_1).f0).toList) && (a1_1 == ((rd_T72 l0 x8_1).f1) && (a1_2 == ((rd_T72 l0 x8_1).f2) && (a1_3 == ((rd_T72 l0 x8_1).f3))))) = false := by simpa using c7
 (try (have c7b1 : decide (a1_0.toList = (((rd_T72 l0 x8_1).f0).toList) && (a1_1 == ((rd_T72 l0 x8_1).f1) && (a1_2 == ((rd_T72 l0 x8_1).f2) && (a1_3 == ((rd_T72 l0 x8_1).f3))))) = false := by simpa using c7))
 (try (have c7b2 : (a1_0.toList == (((rd_T72 l0 x8_1).f0).toList) && (a1_1 == ((rd_T72 l0 x8_1).f1) && (a1_2 == ((rd_T72 l0 x8_1).f2) && (a1_3 == ((rd_T72 l0 x8_1).f3))))) = false := by simpa using c7))
 (try (have c7b3 : ¬ (a1_0.toList = (((rd_T72 l0 x8_1).f0).toList) && (a1_1 == ((rd_T72 l0 x8_1).f1) && (a1_2 == ((rd_T72 l0 x8_1).f2) && (a1_3 == ((rd_T72 l0 x8_1).f3))))) := by simpa using c7))
 clear c7
 have H' := zA H
 clear H
 obtain ⟨hcz9_0, hcz9_1, hcz9_2, hcz9_3⟩ := zc4 wr (.string a1_0) (.int .i64 a1_1) (.int .i64 a1_2) (.int .i64 a1_3) BK101.out
 obtain ⟨hfz9_0, hfz9_1, hfz9_2, hfz9_3⟩ := zf4 BK101.out
 have p102 : 0 ≤ (x8_1 : Int) := zde (by assumption)
 have q102 : x8_1 < (l0.length : Int) := zde (by assumption)
 obtain ⟨ad102, e102, hx102_0, hx102_1, hx102_2, hx102_3⟩ := at_T72 HR0.out x8_1 p102 q102
 cases e102
 replace hx102_0 := zkep HB.out hx102_0
 replace hx102_1 := zkep HB.out hx102_1
 replace hx102_2 := zkep HB.out hx102_2
 replace hx102_3 := zkep HB.out hx102_3
 replace p102 := eq_true p102
 replace q102 := eq_true q102
 go_wp2
 repeat (go_quiet (fail); try go_wp2)
 go_roundg k1
 case measure => have := HK1.out; omega
 case rel => exact ⟨(wrap64 (x8_1 + 1)), (by first | rfl | (simp; done) | (simp [*]; done)), H', ⟨by have := HK1.out; omega⟩, ⟨by (with_reducible repeat (first | refine zkn ?_ _ | refine zkd ?_ | refine zka ?_ _)); exact BK101.out⟩, ⟨by repeat (first | (with_reducible first | exact HB.out | apply zba | apply zbn | apply zbd | refine below_set ?_ GE101.out) | exact HB.out)⟩⟩
end Go.Proofs.Ytkfkbmlbpeojaaa.Q
end
section
namespace Go.Proofs.Ytkfkbmlbpeojaaa.Q
open Go.RowKit Go.Proofs.YtkfkbmlbpeojaaaW.PrintWords Go.Proofs.YtkfkbmlbpeojaaaW.PrintLast Go.Proofs.YtkfkbmlbpeojaaaW.PrintMore
attribute [local go_sem] max2_int min2_int max_two min_two max_three min_three max_four min_four
set_option linter.unusedVariables false
set_option linter.unusedSimpArgs false
def impl_Node_renamed.f (k : Nat) (a0_0 : ByteArray) (a0_1 : Int) (a0_2 : Int) (a0_3 : Int) (l1 : List Int) : Option (ByteArray × Int × Int × Int) := (impl_operands.f k a0_0).bind fun t103 => (if t103 > 0 then (if 0 ≤ a0_1 then (if a0_1 < (l1.length : Int) then (if t103 > 1 then (if 0 ≤ a0_2 then (if a0_2 < (l1.length : Int) then (some (a0_0, rd l1 a0_1, rd l1 a0_2, a0_3)) else (none)) else (none)) else (some (a0_0, rd l1 a0_1, a0_2, a0_3))) else (none)) else (none)) else (if t103 > 1 then (if 0 ≤ a0_2 then (if a0_2 < (l1.length : Int) then (some (a0_0, a0_1, rd l1 a0_2, a0_3)) else (none)) else (none)) else (some (a0_0, a0_1, a0_2, a0_3))))
theorem impl_Node_renamed.mono : ∀ a0 a1 a2 a3 a4 k, LeO (impl_Node_renamed.f k a0 a1 a2 a3 a4) (impl_Node_renamed.f (k + 1) a0 a1 a2 a3 a4) := by
 intro a0 a1 a2 a3 a4 k
 unfold impl_Node_renamed.f
 repeat' first
     | (with_reducible first | exact impl_operands.mono _ _ | exact LeO.refl _ | exact LeO.none _ | refine LeO.ite ?_ ?_ | refine LeO.bind ?_ (fun _ => ?_))
     | exact LeO.none _
     | refine LeO.ite ?_ ?_
     | refine LeO.bind ?_ (fun _ => ?_)
set_option maxHeartbeats 8000000 in
set_option maxRecDepth 100000 in
theorem impl_Node_renamed.calls (k : Nat) (a0_0 : ByteArray) (a0_1 : Int) (a0_2 : Int) (a0_3 : Int) (A1 : Option Addr) (c1 : Nat) (l1 : List Int) (r1 : ByteArray) (r2 : Int) (r3 : Int) (r4 : Int) (w : World) (hr1 : Kd.C (Kd.int .i64) w A1 l1.length l1) (hc1 : l1.length ≤ c1) (h : impl_Node_renamed.f k a0_0 a0_1 a0_2 a0_3 l1 = some (r1, r2, r3, r4)) :
   Calls Try.prog 151 #[.agg #[.string a0_0, .int .i64 a0_1, .int .i64 a0_2, .int .i64 a0_3], .slice A1 l1.length c1] w fun e w' => e = .returned (.agg #[.string r1, .int .i64 r2, .int .i64 r3, .int .i64 r4]) ∧ Below w.heap.size w w' := by
 have hu72 := Try.underlying72
 have HR1 := zA hr1
 have HC1 := zA hc1
 clear hr1 hc1
 have HB := zA (Below.refl w.heap.size w)
 have H : ((impl_operands.f k a0_0).bind fun t103 => (if t103 > 0 then (if 0 ≤ a0_1 then (if a0_1 < (l1.length : Int) then (if t103 > 1 then (if 0 ≤ a0_2 then (if a0_2 < (l1.length : Int) then (some (a0_0, rd l1 a0_1, rd l1 a0_2, a0_3)) else (none)) else (none)) else (some (a0_0, rd l1 a0_1, a0_2, a0_3))) else (none)) else (none)) else (if t103 > 1 then (if 0 ≤ a0_2 then (if a0_2 < (l1.length : Int) then (some (a0_0, a0_1, rd l1 a0_2, a0_3)) else (none)) else (none)) else (some (a0_0, a0_1, a0_2, a0_3))))) = some (r1, r2, r3, r4) := h
 clear h
 replace H := zob H
 obtain ⟨t103, A30, H⟩ := H
 replace H : (if t103 > 0 then (if 0 ≤ a0_1 then (if a0_1 < (l1.length : Int) then (if t103 > 1 then (if 0 ≤ a0_2 then (if a0_2 < (l1.length : Int) then (some (a0_0, rd l1 a0_1, rd l1 a0_2, a0_3)) else (none)) else (none)) else (some (a0_0, rd l1 a0_1, a0_2, a0_3))) else (none)) else (none)) else (if t103 > 1 then (if 0 ≤ a0_2 then (if a0_2 < (l1.length : Int) then (some (a0_0, a0_1, rd l1 a0_2, a0_3)) else (none)) else (none)) else (some (a0_0, a0_1, a0_2, a0_3)))) = some (r1, r2, r3, r4) := H
 have A3 := zA A30
 clear A30
 by_cases c4 : t103 > 0
 rotate_left
 · rw [if_neg c4] at H
   have c4b0 : decide (0 < t103) = false := zdf c4
   clear c4
   by_cases c24 : t103 > 1
   rotate_left
   · rw [if_neg c24] at H
     have c24b0 : decide (1 < t103) = false := zdf c24
     clear c24
     simp only [Option.some.injEq, Prod.mk.injEq] at H
     obtain ⟨rfl, rfl, rfl, rfl⟩ := H
     go_enter Try.func151, Try.ntmps151
     go_wp2_with (first | ((with_reducible refine gate_dst (N := 2) rfl ?_); refine box_event ?hg (N := 2) ?hd (cs := #[.string a0_0, .int .i64 a0_1, .int .i64 a0_2, .int .i64 a0_3]) (t := 72) ?hr ?_; (case hd => rfl); (case hg => rfl); (case hr => go_simp <;> rfl); intro gb101 hg w34 hbox hb; have zs := zpair (by repeat (first | (with_reducible first | exact HB.out | apply zba | apply zbn | apply zbd) | exact HB.out)) hb; have n0_ := zA (zs.1); have n1_ := zA (hbox); have n2_ := zA ((by rw [hg]; exact zs.2 : w.heap.size ≤ gb101)); have n3_ := n2_; clear HB; have HB := n0_; have BK101 := n1_; have GW101 := n2_; have GE101 := n3_; clear n0_ n1_ n2_ n3_; clear zs hb hbox hg) | ((with_reducible refine gate_dst (N := 4) rfl ?_); refine box_event ?hg (N := 4) ?hd (cs := #[.string (⟨#[]⟩ : ByteArray), .int .i64 0, .int .i64 0, .int .i64 0]) (t := 72) ?hr ?_; (case hd => rfl); (case hg => rfl); (case hr => go_simp <;> rfl); intro gb102 hg w35 hbox hb; have n0_ := zA (blk_below (g := gb101) (o := .cells #[.string a0_0, .int .i64 a0_1, .int .i64 a0_2, .int .i64 a0_3] 72 (0, 0)) (by (with_reducible repeat (first | refine zkn ?_ _ | refine zkd ?_ | refine zka ?_ _)); exact BK101.out) hb); have zs := zpair (by repeat (first | (with_reducible first | exact HB.out | apply zba | apply zbn | apply zbd | refine below_set ?_ GE101.out) | exact HB.out)) hb; have n1_ := zA (zs.1); have n2_ := zA (hbox); have n3_ := zA ((by rw [hg]; exact zs.2 : w.heap.size ≤ gb102)); have n4_ := n3_; have n5_ := zA ((by rw [hg]; exact Nat.ne_of_lt (zlt BK101.out (fun h => by (with_reducible repeat (first | refine zkn ?_ _ | refine zkd ?_ | refine zka ?_ _)); exact h)) : gb101 ≠ gb102)); have n6_ := zA (Ne.symm n5_.out); clear BK101 HB; have BK101 := n0_; have HB := n1_; have BK102 := n2_; have GW102 := n3_; have GE102 := n4_; have NB101_102 := n5_; have NB102_101 := n6_; clear n0_ n1_ n2_ n3_ n4_ n5_ n6_; clear zs hb hbox hg; have hnb36 := NB101_102.out; have hnc36 := NB102_101.out; obtain ⟨hcz37_0, hcz37_1, hcz37_2, hcz37_3⟩ := zc4 w35 (.string a0_0) (.int .i64 a0_1) (.int .i64 a0_2) (.int .i64 a0_3) BK101.out; obtain ⟨hfz37_0, hfz37_1, hfz37_2, hfz37_3⟩ := zf4 BK101.out) | ((with_reducible refine gate_callee (f := 146) rfl ?_); refine goesL_ (some 8) rfl rfl Try.func146 (by kernel_rfl) rfl #[.string a0_0] rfl (by (try simp only [List.map_toArray, List.map_cons, List.map_nil]); first | done | rfl | (simp only [List.length_drop, List.length_take]; rfl)) ?_; (with_reducible refine (impl_operands.calls k a0_0 t103 _ A3.out).mono ?_); rintro e w38 ⟨rfl, hb⟩; refine ⟨_, rfl, ?_⟩; have n0_ := zA (blk_below (g := gb101) (o := .cells #[.string a0_0, .int .i64 a0_1, .int .i64 a0_2, .int .i64 a0_3] 72 (0, 0)) (by (with_reducible repeat (first | refine zkn ?_ _ | refine zkd ?_ | refine zka ?_ _)); exact BK101.out) hb); have n1_ := zA (blk_below (g := gb102) (o := .cells #[.string (⟨#[]⟩ : ByteArray), .int .i64 0, .int .i64 0, .int .i64 0] 72 (0, 0)) (by (with_reducible repeat (first | refine zkn ?_ _ | refine zkd ?_ | refine zka ?_ _)); exact BK102.out) hb); have n2_ := zA (below_step (by repeat (first | (with_reducible first | exact HB.out | apply zba | apply zbn | apply zbd | refine below_set ?_ GE101.out | refine below_set ?_ GE102.out) | exact HB.out)) hb); clear BK101 BK102 HB; have BK101 := n0_; have BK102 := n1_; have HB := n2_; clear n0_ n1_ n2_; (try clear hb); obtain ⟨hcz39_0, hcz39_1, hcz39_2, hcz39_3⟩ := zc4 w38 (.string a0_0) (.int .i64 a0_1) (.int .i64 a0_2) (.int .i64 a0_3) BK101.out; obtain ⟨hfz39_0, hfz39_1, hfz39_2, hfz39_3⟩ := zf4 BK101.out; obtain ⟨hcz40_0, hcz40_1, hcz40_2, hcz40_3⟩ := zc4 w38 (.string (⟨#[]⟩ : ByteArray)) (.int .i64 0) (.int .i64 0) (.int .i64 0) BK102.out; obtain ⟨hfz40_0, hfz40_1, hfz40_2, hfz40_3⟩ := zf4 BK102.out))
     refine bodyPost_ret (results_cell_row rfl _ _ gb102 72 #[.string a0_0, .int .i64 a0_1, .int .i64 a0_2, .int .i64 a0_3] (0, 0) _ rfl (by (with_reducible repeat (first | refine zkn ?_ _ | refine zkd ?_ | refine zka ?_ _)); refine blk_put (cs := #[.string a0_0, .int .i64 a0_1, .int .i64 a0_2, .int .i64 0]) ?_ 3 _ rfl; (with_reducible repeat (first | refine zkn ?_ _ | refine zkd ?_ | refine zka ?_ _)); refine blk_put (cs := #[.string a0_0, .int .i64 a0_1, .int .i64 0, .int .i64 0]) ?_ 2 _ rfl; (with_reducible repeat (first | refine zkn ?_ _ | refine zkd ?_ | refine zka ?_ _)); refine blk_put (cs := #[.string a0_0, .int .i64 0, .int .i64 0, .int .i64 0]) ?_ 1 _ rfl; (with_reducible repeat (first | refine zkn ?_ _ | refine zkd ?_ | refine zka ?_ _)); refine blk_put (cs := #[.string (⟨#[]⟩ : ByteArray), .int .i64 0, .int .i64 0, .int .i64 0]) ?_ 0 _ rfl; (with_reducible repeat (first | refine zkn ?_ _ | refine zkd ?_ | refine zka ?_ _)); exact BK102.out) Try.underlying72 rfl (by kernel_rfl)) rfl ?_
     exact ⟨by first | rfl | (simp [errW_none, errW_some] <;> rfl) | (simp [*, errW_none, errW_some] <;> rfl), by repeat (first | (with_reducible first | exact HB.out | apply zba | apply zbn | apply zbd | refine below_set ?_ GE101.out | refine below_set ?_ GE102.out) | exact HB.out)⟩
   rw [if_pos c24] at H
   have c24b0 : decide (1 < t103) = true := zdt c24
   clear c24
   by_cases c25 : 0 ≤ a0_2
   rotate_left
   · rw [if_neg c25] at H
     exact absurd H (by simp)
   rw [if_pos c25] at H
   have c25b0 : decide (0 ≤ a0_2) = true := zdt c25
   clear c25
   by_cases c26 : a0_2 < (l1.length : Int)
   rotate_left
   · rw [if_neg c26] at H
     exact absurd H (by simp)
   rw [if_pos c26] at H
   have c26b0 : decide (a0_2 < (l1.length : Int)) = true := zdt c26
   clear c26
   simp only [Option.some.injEq, Prod.mk.injEq] at H
   obtain ⟨rfl, rfl, rfl, rfl⟩ := H
   go_enter Try.func151, Try.ntmps151
   go_wp2_with (first | ((with_reducible refine gate_dst (N := 2) rfl ?_); refine box_event ?hg (N := 2) ?hd (cs := #[.string a0_0, .int .i64 a0_1, .int .i64 a0_2, .int .i64 a0_3]) (t := 72) ?hr ?_; (case hd => rfl); (case hg => rfl); (case hr => go_simp <;> rfl); intro gb101 hg w27 hbox hb; have zs := zpair (by repeat (first | (with_reducible first | exact HB.out | apply zba | apply zbn | apply zbd) | exact HB.out)) hb; have n0_ := zA (zs.1); have n1_ := zA (hbox); have n2_ := zA ((by rw [hg]; exact zs.2 : w.heap.size ≤ gb101)); have n3_ := n2_; clear HB; have HB := n0_; have BK101 := n1_; have GW101 := n2_; have GE101 := n3_; clear n0_ n1_ n2_ n3_; clear zs hb hbox hg) | ((with_reducible refine gate_dst (N := 4) rfl ?_); refine box_event ?hg (N := 4) ?hd (cs := #[.string (⟨#[]⟩ : ByteArray), .int .i64 0, .int .i64 0, .int .i64 0]) (t := 72) ?hr ?_; (case hd => rfl); (case hg => rfl); (case hr => go_simp <;> rfl); intro gb102 hg w28 hbox hb; have n0_ := zA (blk_below (g := gb101) (o := .cells #[.string a0_0, .int .i64 a0_1, .int .i64 a0_2, .int .i64 a0_3] 72 (0, 0)) (by (with_reducible repeat (first | refine zkn ?_ _ | refine zkd ?_ | refine zka ?_ _)); exact BK101.out) hb); have zs := zpair (by repeat (first | (with_reducible first | exact HB.out | apply zba | apply zbn | apply zbd | refine below_set ?_ GE101.out) | exact HB.out)) hb; have n1_ := zA (zs.1); have n2_ := zA (hbox); have n3_ := zA ((by rw [hg]; exact zs.2 : w.heap.size ≤ gb102)); have n4_ := n3_; have n5_ := zA ((by rw [hg]; exact Nat.ne_of_lt (zlt BK101.out (fun h => by (with_reducible repeat (first | refine zkn ?_ _ | refine zkd ?_ | refine zka ?_ _)); exact h)) : gb101 ≠ gb102)); have n6_ := zA (Ne.symm n5_.out); clear BK101 HB; have BK101 := n0_; have HB := n1_; have BK102 := n2_; have GW102 := n3_; have GE102 := n4_; have NB101_102 := n5_; have NB102_101 := n6_; clear n0_ n1_ n2_ n3_ n4_ n5_ n6_; clear zs hb hbox hg; have hnb29 := NB101_102.out; have hnc29 := NB102_101.out; obtain ⟨hcz30_0, hcz30_1, hcz30_2, hcz30_3⟩ := zc4 w28 (.string a0_0) (.int .i64 a0_1) (.int .i64 a0_2) (.int .i64 a0_3) BK101.out; obtain ⟨hfz30_0, hfz30_1, hfz30_2, hfz30_3⟩ := zf4 BK101.out) | ((with_reducible refine gate_callee (f := 146) rfl ?_); refine goesL_ (some 8) rfl rfl Try.func146 (by kernel_rfl) rfl #[.string a0_0] rfl (by (try simp only [List.map_toArray, List.map_cons, List.map_nil]); first | done | rfl | (simp only [List.length_drop, List.length_take]; rfl)) ?_; (with_reducible refine (impl_operands.calls k a0_0 t103 _ A3.out).mono ?_); rintro e w31 ⟨rfl, hb⟩; refine ⟨_, rfl, ?_⟩; have n0_ := zA (blk_below (g := gb101) (o := .cells #[.string a0_0, .int .i64 a0_1, .int .i64 a0_2, .int .i64 a0_3] 72 (0, 0)) (by (with_reducible repeat (first | refine zkn ?_ _ | refine zkd ?_ | refine zka ?_ _)); exact BK101.out) hb); have n1_ := zA (blk_below (g := gb102) (o := .cells #[.string (⟨#[]⟩ : ByteArray), .int .i64 0, .int .i64 0, .int .i64 0] 72 (0, 0)) (by (with_reducible repeat (first | refine zkn ?_ _ | refine zkd ?_ | refine zka ?_ _)); exact BK102.out) hb); have n2_ := zA (below_step (by repeat (first | (with_reducible first | exact HB.out | apply zba | apply zbn | apply zbd | refine below_set ?_ GE101.out | refine below_set ?_ GE102.out) | exact HB.out)) hb); clear BK101 BK102 HB; have BK101 := n0_; have BK102 := n1_; have HB := n2_; clear n0_ n1_ n2_; (try clear hb); obtain ⟨hcz32_0, hcz32_1, hcz32_2, hcz32_3⟩ := zc4 w31 (.string a0_0) (.int .i64 a0_1) (.int .i64 a0_2) (.int .i64 a0_3) BK101.out; obtain ⟨hfz32_0, hfz32_1, hfz32_2, hfz32_3⟩ := zf4 BK101.out; have p106 : 0 ≤ (a0_2 : Int) := zde (by assumption); have q106 : a0_2 < (l1.length : Int) := zde (by assumption); obtain ⟨ad106, e106, hx106_0⟩ := Kd.at_int HR1.out a0_2 p106 q106; cases e106; replace hx106_0 := zkep HB.out hx106_0; replace p106 := eq_true p106; replace q106 := eq_true q106; obtain ⟨hcz33_0, hcz33_1, hcz33_2, hcz33_3⟩ := zc4 w31 (.string (⟨#[]⟩ : ByteArray)) (.int .i64 0) (.int .i64 0) (.int .i64 0) BK102.out; obtain ⟨hfz33_0, hfz33_1, hfz33_2, hfz33_3⟩ := zf4 BK102.out))
   refine bodyPost_ret (results_cell_row rfl _ _ gb102 72 #[.string a0_0, .int .i64 a0_1, .int .i64 (rd l1 a0_2), .int .i64 a0_3] (0, 0) _ rfl (by (with_reducible repeat (first | refine zkn ?_ _ | refine zkd ?_ | refine zka ?_ _)); refine blk_put (cs := #[.string a0_0, .int .i64 a0_1, .int .i64 (rd l1 a0_2), .int .i64 0]) ?_ 3 _ rfl; (with_reducible repeat (first | refine zkn ?_ _ | refine zkd ?_ | refine zka ?_ _)); refine blk_put (cs := #[.string a0_0, .int .i64 a0_1, .int .i64 0, .int .i64 0]) ?_ 2 _ rfl; (with_reducible repeat (first | refine zkn ?_ _ | refine zkd ?_ | refine zka ?_ _)); refine blk_put (cs := #[.string a0_0, .int .i64 0, .int .i64 0, .int .i64 0]) ?_ 1 _ rfl; (with_reducible repeat (first | refine zkn ?_ _ | refine zkd ?_ | refine zka ?_ _)); refine blk_put (cs := #[.string (⟨#[]⟩ : ByteArray), .int .i64 0, .int .i64 0, .int .i64 0]) ?_ 0 _ rfl; (with_reducible repeat (first | refine zkn ?_ _ | refine zkd ?_ | refine zka ?_ _)); refine blk_far ?_ NB102_101.out _; (with_reducible repeat (first | refine zkn ?_ _ | refine zkd ?_ | refine zka ?_ _)); exact BK102.out) Try.underlying72 rfl (by kernel_rfl)) rfl ?_
   exact ⟨by first | rfl | (simp [errW_none, errW_some] <;> rfl) | (simp [*, errW_none, errW_some] <;> rfl), by repeat (first | (with_reducible first | exact HB.out | apply zba | apply zbn | apply zbd | refine below_set ?_ GE101.out | refine below_set ?_ GE102.out) | exact HB.out)⟩
 rw [if_pos c4] at H
 have c4b0 : decide (0 < t103) = true := zdt c4
 clear c4
 by_cases c5 : 0 ≤ a0_1
 rotate_left
 · rw [if_neg c5] at H
   exact absurd H (by simp)
 rw [if_pos c5] at H
 have c5b0 : decide (0 ≤ a0_1) = true := zdt c5
 clear c5
 by_cases c6 : a0_1 < (l1.length : Int)
 rotate_left
 · rw [if_neg c6] at H
   exact absurd H (by simp)
 rw [if_pos c6] at H
 have c6b0 : decide (a0_1 < (l1.length : Int)) = true := zdt c6
 clear c6
 by_cases c7 : t103 > 1
 rotate_left
 · rw [if_neg c7] at H
   have c7b0 : decide (1 < t103) = false := zdf c7
   clear c7
   simp only [Option.some.injEq, Prod.mk.injEq] at H
   obtain ⟨rfl, rfl, rfl, rfl⟩ := H
   go_enter Try.func151, Try.ntmps151
   go_wp2_with (first | ((with_reducible refine gate_dst (N := 2) rfl ?_); refine box_event ?hg (N := 2) ?hd (cs := #[.string a0_0, .int .i64 a0_1, .int .i64 a0_2, .int .i64 a0_3]) (t := 72) ?hr ?_; (case hd => rfl); (case hg => rfl); (case hr => go_simp <;> rfl); intro gb101 hg w17 hbox hb; have zs := zpair (by repeat (first | (with_reducible first | exact HB.out | apply zba | apply zbn | apply zbd) | exact HB.out)) hb; have n0_ := zA (zs.1); have n1_ := zA (hbox); have n2_ := zA ((by rw [hg]; exact zs.2 : w.heap.size ≤ gb101)); have n3_ := n2_; clear HB; have HB := n0_; have BK101 := n1_; have GW101 := n2_; have GE101 := n3_; clear n0_ n1_ n2_ n3_; clear zs hb hbox hg) | ((with_reducible refine gate_dst (N := 4) rfl ?_); refine box_event ?hg (N := 4) ?hd (cs := #[.string (⟨#[]⟩ : ByteArray), .int .i64 0, .int .i64 0, .int .i64 0]) (t := 72) ?hr ?_; (case hd => rfl); (case hg => rfl); (case hr => go_simp <;> rfl); intro gb102 hg w18 hbox hb; have n0_ := zA (blk_below (g := gb101) (o := .cells #[.string a0_0, .int .i64 a0_1, .int .i64 a0_2, .int .i64 a0_3] 72 (0, 0)) (by (with_reducible repeat (first | refine zkn ?_ _ | refine zkd ?_ | refine zka ?_ _)); exact BK101.out) hb); have zs := zpair (by repeat (first | (with_reducible first | exact HB.out | apply zba | apply zbn | apply zbd | refine below_set ?_ GE101.out) | exact HB.out)) hb; have n1_ := zA (zs.1); have n2_ := zA (hbox); have n3_ := zA ((by rw [hg]; exact zs.2 : w.heap.size ≤ gb102)); have n4_ := n3_; have n5_ := zA ((by rw [hg]; exact Nat.ne_of_lt (zlt BK101.out (fun h => by (with_reducible repeat (first | refine zkn ?_ _ | refine zkd ?_ | refine zka ?_ _)); exact h)) : gb101 ≠ gb102)); have n6_ := zA (Ne.symm n5_.out); clear BK101 HB; have BK101 := n0_; have HB := n1_; have BK102 := n2_; have GW102 := n3_; have GE102 := n4_; have NB101_102 := n5_; have NB102_101 := n6_; clear n0_ n1_ n2_ n3_ n4_ n5_ n6_; clear zs hb hbox hg; have hnb19 := NB101_102.out; have hnc19 := NB102_101.out; obtain ⟨hcz20_0, hcz20_1, hcz20_2, hcz20_3⟩ := zc4 w18 (.string a0_0) (.int .i64 a0_1) (.int .i64 a0_2) (.int .i64 a0_3) BK101.out; obtain ⟨hfz20_0, hfz20_1, hfz20_2, hfz20_3⟩ := zf4 BK101.out) | ((with_reducible refine gate_callee (f := 146) rfl ?_); refine goesL_ (some 8) rfl rfl Try.func146 (by kernel_rfl) rfl #[.string a0_0] rfl (by (try simp only [List.map_toArray, List.map_cons, List.map_nil]); first | done | rfl | (simp only [List.length_drop, List.length_take]; rfl)) ?_; (with_reducible refine (impl_operands.calls k a0_0 t103 _ A3.out).mono ?_); rintro e w21 ⟨rfl, hb⟩; refine ⟨_, rfl, ?_⟩; have n0_ := zA (blk_below (g := gb101) (o := .cells #[.string a0_0, .int .i64 a0_1, .int .i64 a0_2, .int .i64 a0_3] 72 (0, 0)) (by (with_reducible repeat (first | refine zkn ?_ _ | refine zkd ?_ | refine zka ?_ _)); exact BK101.out) hb); have n1_ := zA (blk_below (g := gb102) (o := .cells #[.string (⟨#[]⟩ : ByteArray), .int .i64 0, .int .i64 0, .int .i64 0] 72 (0, 0)) (by (with_reducible repeat (first | refine zkn ?_ _ | refine zkd ?_ | refine zka ?_ _)); exact BK102.out) hb); have n2_ := zA (below_step (by repeat (first | (with_reducible first | exact HB.out | apply zba | apply zbn | apply zbd | refine below_set ?_ GE101.out | refine below_set ?_ GE102.out) | exact HB.out)) hb); clear BK101 BK102 HB; have BK101 := n0_; have BK102 := n1_; have HB := n2_; clear n0_ n1_ n2_; (try clear hb); obtain ⟨hcz22_0, hcz22_1, hcz22_2, hcz22_3⟩ := zc4 w21 (.string a0_0) (.int .i64 a0_1) (.int .i64 a0_2) (.int .i64 a0_3) BK101.out; obtain ⟨hfz22_0, hfz22_1, hfz22_2, hfz22_3⟩ := zf4 BK101.out; have p104 : 0 ≤ (a0_1 : Int) := zde (by assumption); have q104 : a0_1 < (l1.length : Int) := zde (by assumption); obtain ⟨ad104, e104, hx104_0⟩ := Kd.at_int HR1.out a0_1 p104 q104; cases e104; replace hx104_0 := zkep HB.out hx104_0; replace p104 := eq_true p104; replace q104 := eq_true q104; obtain ⟨hcz23_0, hcz23_1, hcz23_2, hcz23_3⟩ := zc4 w21 (.string (⟨#[]⟩ : ByteArray)) (.int .i64 0) (.int .i64 0) (.int .i64 0) BK102.out; obtain ⟨hfz23_0, hfz23_1, hfz23_2, hfz23_3⟩ := zf4 BK102.out))
   refine bodyPost_ret (results_cell_row rfl _ _ gb102 72 #[.string a0_0, .int .i64 (rd l1 a0_1), .int .i64 a0_2, .int .i64 a0_3] (0, 0) _ rfl (by (with_reducible repeat (first | refine zkn ?_ _ | refine zkd ?_ | refine zka ?_ _)); refine blk_put (cs := #[.string a0_0, .int .i64 (rd l1 a0_1), .int .i64 a0_2, .int .i64 0]) ?_ 3 _ rfl; (with_reducible repeat (first | refine zkn ?_ _ | refine zkd ?_ | refine zka ?_ _)); refine blk_put (cs := #[.string a0_0, .int .i64 (rd l1 a0_1), .int .i64 0, .int .i64 0]) ?_ 2 _ rfl; (with_reducible repeat (first | refine zkn ?_ _ | refine zkd ?_ | refine zka ?_ _)); refine blk_put (cs := #[.string a0_0, .int .i64 0, .int .i64 0, .int .i64 0]) ?_ 1 _ rfl; (with_reducible repeat (first | refine zkn ?_ _ | refine zkd ?_ | refine zka ?_ _)); refine blk_put (cs := #[.string (⟨#[]⟩ : ByteArray), .int .i64 0, .int .i64 0, .int .i64 0]) ?_ 0 _ rfl; (with_reducible repeat (first | refine zkn ?_ _ | refine zkd ?_ | refine zka ?_ _)); refine blk_far ?_ NB102_101.out _; (with_reducible repeat (first | refine zkn ?_ _ | refine zkd ?_ | refine zka ?_ _)); exact BK102.out) Try.underlying72 rfl (by kernel_rfl)) rfl ?_
   exact ⟨by first | rfl | (simp [errW_none, errW_some] <;> rfl) | (simp [*, errW_none, errW_some] <;> rfl), by repeat (first | (with_reducible first | exact HB.out | apply zba | apply zbn | apply zbd | refine below_set ?_ GE101.out | refine below_set ?_ GE102.out) | exact HB.out)⟩
 rw [if_pos c7] at H
 have c7b0 : decide (1 < t103) = true := zdt c7
 clear c7
 by_cases c8 : 0 ≤ a0_2
 rotate_left
 · rw [if_neg c8] at H
   exact absurd H (by simp)
 rw [if_pos c8] at H
 have c8b0 : decide (0 ≤ a0_2) = true := zdt c8
 clear c8
 by_cases c9 : a0_2 < (l1.length : Int)
 rotate_left
 · rw [if_neg c9] at H
   exact absurd H (by simp)
 rw [if_pos c9] at H
 have c9b0 : decide (a0_2 < (l1.length : Int)) = true := zdt c9
 clear c9
 simp only [Option.some.injEq, Prod.mk.injEq] at H
 obtain ⟨rfl, rfl, rfl, rfl⟩ := H
 go_enter Try.func151, Try.ntmps151
 go_wp2_with (first | ((with_reducible refine gate_dst (N := 2) rfl ?_); refine box_event ?hg (N := 2) ?hd (cs := #[.string a0_0, .int .i64 a0_1, .int .i64 a0_2, .int .i64 a0_3]) (t := 72) ?hr ?_; (case hd => rfl); (case hg => rfl); (case hr => go_simp <;> rfl); intro gb101 hg w10 hbox hb; have zs := zpair (by repeat (first | (with_reducible first | exact HB.out | apply zba | apply zbn | apply zbd) | exact HB.out)) hb; have n0_ := zA (zs.1); have n1_ := zA (hbox); have n2_ := zA ((by rw [hg]; exact zs.2 : w.heap.size ≤ gb101)); have n3_ := n2_; clear HB; have HB := n0_; have BK101 := n1_; have GW101 := n2_; have GE101 := n3_; clear n0_ n1_ n2_ n3_; clear zs hb hbox hg) | ((with_reducible refine gate_dst (N := 4) rfl ?_); refine box_event ?hg (N := 4) ?hd (cs := #[.string (⟨#[]⟩ : ByteArray), .int .i64 0, .int .i64 0, .int .i64 0]) (t := 72) ?hr ?_; (case hd => rfl); (case hg => rfl); (case hr => go_simp <;> rfl); intro gb102 hg w11 hbox hb; have n0_ := zA (blk_below (g := gb101) (o := .cells #[.string a0_0, .int .i64 a0_1, .int .i64 a0_2, .int .i64 a0_3] 72 (0, 0)) (by (with_reducible repeat (first | refine zkn ?_ _ | refine zkd ?_ | refine zka ?_ _)); exact BK101.out) hb); have zs := zpair (by repeat (first | (with_reducible first | exact HB.out | apply zba | apply zbn | apply zbd | refine below_set ?_ GE101.out) | exact HB.out)) hb; have n1_ := zA (zs.1); have n2_ := zA (hbox); have n3_ := zA ((by rw [hg]; exact zs.2 : w.heap.size ≤ gb102)); have n4_ := n3_; have n5_ := zA ((by rw [hg]; exact Nat.ne_of_lt (zlt BK101.out (fun h => by (with_reducible repeat (first | refine zkn ?_ _ | refine zkd ?_ | refine zka ?_ _)); exact h)) : gb101 ≠ gb102)); have n6_ := zA (Ne.symm n5_.out); clear BK101 HB; have BK101 := n0_; have HB := n1_; have BK102 := n2_; have GW102 := n3_; have GE102 := n4_; have NB101_102 := n5_; have NB102_101 := n6_; clear n0_ n1_ n2_ n3_ n4_ n5_ n6_; clear zs hb hbox hg; have hnb12 := NB101_102.out; have hnc12 := NB102_101.out; obtain ⟨hcz13_0, hcz13_1, hcz13_2, hcz13_3⟩ := zc4 w11 (.string a0_0) (.int .i64 a0_1) (.int .i64 a0_2) (.int .i64 a0_3) BK101.out; obtain ⟨hfz13_0, hfz13_1, hfz13_2, hfz13_3⟩ := zf4 BK101.out) | ((with_reducible refine gate_callee (f := 146) rfl ?_); refine goesL_ (some 8) rfl rfl Try.func146 (by kernel_rfl) rfl #[.string a0_0] rfl (by (try simp only [List.map_toArray, List.map_cons, List.map_nil]); first | done | rfl | (simp only [List.length_drop, List.length_take]; rfl)) ?_; (with_reducible refine (impl_operands.calls k a0_0 t103 _ A3.out).mono ?_); rintro e w14 ⟨rfl, hb⟩; refine ⟨_, rfl, ?_⟩; have n0_ := zA (blk_below (g := gb101) (o := .cells #[.string a0_0, .int .i64 a0_1, .int .i64 a0_2, .int .i64 a0_3] 72 (0, 0)) (by (with_reducible repeat (first | refine zkn ?_ _ | refine zkd ?_ | refine zka ?_ _)); exact BK101.out) hb); have n1_ := zA (blk_below (g := gb102) (o := .cells #[.string (⟨#[]⟩ : ByteArray), .int .i64 0, .int .i64 0, .int .i64 0] 72 (0, 0)) (by (with_reducible repeat (first | refine zkn ?_ _ | refine zkd ?_ | refine zka ?_ _)); exact BK102.out) hb); have n2_ := zA (below_step (by repeat (first | (with_reducible first | exact HB.out | apply zba | apply zbn | apply zbd | refine below_set ?_ GE101.out | refine below_set ?_ GE102.out) | exact HB.out)) hb); clear BK101 BK102 HB; have BK101 := n0_; have BK102 := n1_; have HB := n2_; clear n0_ n1_ n2_; (try clear hb); obtain ⟨hcz15_0, hcz15_1, hcz15_2, hcz15_3⟩ := zc4 w14 (.string a0_0) (.int .i64 a0_1) (.int .i64 a0_2) (.int .i64 a0_3) BK101.out; obtain ⟨hfz15_0, hfz15_1, hfz15_2, hfz15_3⟩ := zf4 BK101.out; have p104 : 0 ≤ (a0_1 : Int) := zde (by assumption); have q104 : a0_1 < (l1.length : Int) := zde (by assumption); obtain ⟨ad104, e104, hx104_0⟩ := Kd.at_int HR1.out a0_1 p104 q104; cases e104; replace hx104_0 := zkep HB.out hx104_0; replace p104 := eq_true p104; replace q104 := eq_true q104; have p105 : 0 ≤ (a0_2 : Int) := zde (by assumption); have q105 : a0_2 < (l1.length : Int) := zde (by assumption); obtain ⟨ad105, e105, hx105_0⟩ := Kd.at_int HR1.out a0_2 p105 q105; obtain rfl : ad104 = ad105 := (by injection e105); have hn105_0 : ad104.block ≠ gb101 := Nat.ne_of_lt (Nat.lt_of_lt_of_le (by have := World.block_lt_of_cell? _ _ hx105_0; first | rwa [add_block] at this | exact this) GW101.out); replace hx105_0 := zkep HB.out hx105_0; replace hx105_0 := (cell_far (p := ⟨gb101, 1, none⟩) (by first | (rw [add_block]; exact hn105_0) | (show (Addr.add _ _).block ≠ _; rw [add_block]; exact hn105_0) | exact hn105_0) (.int .i64 (rd l1 a0_1))).trans hx105_0; clear hn105_0; replace p105 := eq_true p105; replace q105 := eq_true q105; obtain ⟨hcz16_0, hcz16_1, hcz16_2, hcz16_3⟩ := zc4 w14 (.string (⟨#[]⟩ : ByteArray)) (.int .i64 0) (.int .i64 0) (.int .i64 0) BK102.out; obtain ⟨hfz16_0, hfz16_1, hfz16_2, hfz16_3⟩ := zf4 BK102.out))
 refine bodyPost_ret (results_cell_row rfl _ _ gb102 72 #[.string a0_0, .int .i64 (rd l1 a0_1), .int .i64 (rd l1 a0_2), .int .i64 a0_3] (0, 0) _ rfl (by (with_reducible repeat (first | refine zkn ?_ _ | refine zkd ?_ | refine zka ?_ _)); refine blk_put (cs := #[.string a0_0, .int .i64 (rd l1 a0_1), .int .i64 (rd l1 a0_2), .int .i64 0]) ?_ 3 _ rfl; (with_reducible repeat (first | refine zkn ?_ _ | refine zkd ?_ | refine zka ?_ _)); refine blk_put (cs := #[.string a0_0, .int .i64 (rd l1 a0_1), .int .i64 0, .int .i64 0]) ?_ 2 _ rfl; (with_reducible repeat (first | refine zkn ?_ _ | refine zkd ?_ | refine zka ?_ _)); refine blk_put (cs := #[.string a0_0, .int .i64 0, .int .i64 0, .int .i64 0]) ?_ 1 _ rfl; (with_reducible repeat (first | refine zkn ?_ _ | refine zkd ?_ | refine zka ?_ _)); refine blk_put (cs := #[.string (⟨#[]⟩ : ByteArray), .int .i64 0, .int .i64 0, .int .i64 0]) ?_ 0 _ rfl; (with_reducible repeat (first | refine zkn ?_ _ | refine zkd ?_ | refine zka ?_ _)); refine blk_far ?_ NB102_101.out _; (with_reducible repeat (first | refine zkn ?_ _ | refine zkd ?_ | refine zka ?_ _)); refine blk_far ?_ NB102_101.out _; (with_reducible repeat (first | refine zkn ?_ _ | refine zkd ?_ | refine zka ?_ _)); exact BK102.out) Try.underlying72 rfl (by kernel_rfl)) rfl ?_
 exact ⟨by first | rfl | (simp [errW_none, errW_some] <;> rfl) | (simp [*, errW_none, errW_some] <;> rfl), by repeat (first | (with_reducible first | exact HB.out | apply zba | apply zbn | apply zbd | refine below_set ?_ GE101.out | refine below_set ?_ GE102.out) | exact HB.out)⟩
def bits_Mul64.f (a0 : Int) (a1 : Int) : Option (Int × Int) := some (IntKind.u64.wrap ((IntKind.u64.wrap ((IntKind.u64.wrap ((a0 / 4294967296) * (a1 / 4294967296))) + ((IntKind.u64.wrap ((IntKind.u64.wrap ((a0 / 4294967296) * (Go.bits .and .u64 a1 4294967295))) + ((IntKind.u64.wrap ((Go.bits .and .u64 a0 4294967295) * (Go.bits .and .u64 a1 4294967295))) / 4294967296))) / 4294967296))) + ((IntKind.u64.wrap ((Go.bits .and .u64 (IntKind.u64.wrap ((IntKind.u64.wrap ((a0 / 4294967296) * (Go.bits .and .u64 a1 4294967295))) + ((IntKind.u64.wrap ((Go.bits .and .u64 a0 4294967295) * (Go.bits .and .u64 a1 4294967295))) / 4294967296))) 4294967295) + (IntKind.u64.wrap ((Go.bits .and .u64 a0 4294967295) * (a1 / 4294967296))))) / 4294967296)), IntKind.u64.wrap (a0 * a1))
set_option maxHeartbeats 8000000 in
set_option maxRecDepth 100000 in
theorem bits_Mul64.calls (a0 : Int) (a1 : Int) (r1 : Int) (r2 : Int) (w : World) (h : bits_Mul64.f a0 a1 = some (r1, r2)) :
   Calls Try.prog 187 #[.int .u64 a0, .int .u64 a1] w fun e w' => e = .returned (.tuple #[.int .u64 r1, .int .u64 r2]) ∧ Drawn0 w w' := by
 have H : (some (IntKind.u64.wrap ((IntKind.u64.wrap ((IntKind.u64.wrap ((a0 / 4294967296) * (a1 / 4294967296))) + ((IntKind.u64.wrap ((IntKind.u64.wrap ((a0 / 4294967296) * (Go.bits .and .u64 a1 4294967295))) + ((IntKind.u64.wrap ((Go.bits .and .u64 a0 4294967295) * (Go.bits .and .u64 a1 4294967295))) / 4294967296))) / 4294967296))) + ((IntKind.u64.wrap ((Go.bits .and .u64 (IntKind.u64.wrap ((IntKind.u64.wrap ((a0 / 4294967296) * (Go.bits .and .u64 a1 4294967295))) + ((IntKind.u64.wrap ((Go.bits .and .u64 a0 4294967295) * (Go.bits .and .u64 a1 4294967295))) / 4294967296))) 4294967295) + (IntKind.u64.wrap ((Go.bits .and .u64 a0 4294967295) * (a1 / 4294967296))))) / 4294967296)), IntKind.u64.wrap (a0 * a1))) = some (r1, r2) := h
 clear h
 simp only [Option.some.injEq, Prod.mk.injEq] at H
 obtain ⟨rfl, rfl⟩ := H
 go_enter Try.func187, Try.ntmps187
 go_wp2
 go_ret2
 exact ⟨by first | rfl | (simp; done) | (simp [*]; done), by repeat (first | exact Drawn0.refl _ | apply Drawn0.step)⟩
def bits_Mul.f (a0 : Int) (a1 : Int) : Option (Int × Int) := (bits_Mul64.f a0 a1).bind fun bt101 => (some (bt101.1, bt101.2))
set_option maxHeartbeats 8000000 in
set_option maxRecDepth 100000 in
theorem bits_Mul.calls (a0 : Int) (a1 : Int) (r1 : Int) (r2 : Int) (w : World) (h : bits_Mul.f a0 a1 = some (r1, r2)) :
   Calls Try.prog 179 #[.int .u64 a0, .int .u64 a1] w fun e w' => e = .returned (.tuple #[.int .u64 r1, .int .u64 r2]) ∧ Drawn0 w w' := by
 have H : ((bits_Mul64.f a0 a1).bind fun bt101 => (some (bt101.1, bt101.2))) = some (r1, r2) := h
 clear h
 replace H := zob H
 obtain ⟨⟨t101, t102⟩, A30, H⟩ := H
 replace H : (some (t101, t102)) = some (r1, r2) := H
 have A3 := zA A30
 clear A30
 simp only [Option.some.injEq, Prod.mk.injEq] at H
 obtain ⟨rfl, rfl⟩ := H
 go_enter Try.func179, Try.ntmps179
 go_wp2_with (first | ((with_reducible refine gate_callee (f := 187) rfl ?_); refine goesL_ (some 25) rfl rfl Try.func187 (by kernel_rfl) rfl #[.int .u64 a0, .int .u64 a1] rfl (by (try simp only [List.map_toArray, List.map_cons, List.map_nil]); first | done | rfl | (simp only [List.length_drop, List.length_take]; rfl)) ?_; (with_reducible refine (bits_Mul64.calls a0 a1 t101 t102 _ A3.out).mono ?_); rintro e w' ⟨rfl, ⟨nd, rfl⟩⟩; refine ⟨_, rfl, ?_⟩))
 go_ret2
 exact ⟨by first | rfl | (simp; done) | (simp [*]; done), by repeat (first | exact Drawn0.refl _ | apply Drawn0.step)⟩
def slices_Repeat_int_int.f (l0 : List Int) (a1 : Int) : Option (List Int) :=
 if l0.length = 1 ∧ 0 ≤ a1 ∧ a1 ≤ 1048576 then some (List.replicate a1.toNat (rd l0 0)) else none
theorem mul_one_ (n : Nat) (h : n ≤ 1048576) : bits_Mul.f 1 n = some (0, (n : Int)) := by
 have e1 : (Go.bits .and .u64 1 4294967295) = 1 := by rw [Go.and_low32 _ (by decide) (by decide)]; rfl
 have e2 : (Go.bits .and .u64 (n : Int) 4294967295) = n := by rw [Go.and_low32 _ (by omega) (by omega)]; omega
 have e3 : (Go.bits .and .u64 0 4294967295) = 0 := by rw [Go.and_low32 _ (by decide) (by decide)]; rfl
 have d1 : (1 : Int) / 4294967296 = 0 := by decide
 have d2 : (n : Int) / 4294967296 = 0 := by omega
 have w0 : IntKind.u64.wrap 0 = 0 := by decide
 have dz : (0 : Int) / 4294967296 = 0 := by decide
 have wn : IntKind.u64.wrap (n : Int) = n := by rw [IntKind.wrap_u64]; omega
 unfold bits_Mul.f bits_Mul64.f
 simp only [e1, e2, d1, d2, Int.zero_mul, Int.one_mul, Int.mul_zero, w0, wn, Int.zero_add, Int.add_zero, e3, dz, Option.bind_some]
theorem copy_fill (g o dl dc sl sc k : Nat) (ad : Addr) (cur : Array Value) (x : Value) (W : World) (hk : k = Nat.min sl dl) (hg : W.heap[g]? = some (.cells cur 3 (0, 0))) (hs : ∀ j, j < k → W.cell? (ad.add j) = some x) (hfit : o + k ≤ cur.size) (hx : x.oneCell' = true) :
   ∃ cur', (Builtin.copy_ #[51, 51] 3 #[.slice (some ⟨g, o, none⟩) dl dc, .slice (some ad) sl sc]).run Try.prog W = .ok (.int .i64 (k : Int)) (W.setRow g cur') ∧ cur'.size = cur.size ∧ (∀ j, j < o → cur'[j]? = cur[j]?) ∧ (∀ j, o ≤ j → j < o + k → cur'[j]? = some x) := by
 subst hk
 refine ⟨(cur.toList.take o ++ List.replicate (Nat.min sl dl) x ++ cur.toList.drop (o + Nat.min sl dl)).toArray, ?_, ?_, ?_, ?_⟩
 · have h := run_copy_row (P := Try.prog) W 51 51 3 3 g o dl dc ad sl sc cur 3 (List.replicate (Nat.min sl dl) x) Try.underlying51 (by kernel_rfl) hg (by simp) (fun j v hj => by
     rw [List.getElem?_replicate] at hj
     split at hj
     · rename_i hlt
       injection hj with hj
       rw [← hj]
       exact hs j hlt
     · cases hj) (by simpa using hfit) (fun v hv => by rw [List.eq_of_mem_replicate hv]; exact hx)
   simpa [goInt] using h
 · simp; omega
 · intro j hj
   simp only [List.getElem?_toArray]
   rw [List.append_assoc, List.getElem?_append_left (by simp; omega), List.getElem?_take, if_pos hj]
   simp
 · intro j h1 h2
   have hl : (cur.toList.take o).length = o := by simp; omega
   simp only [List.getElem?_toArray]
   rw [List.append_assoc, List.getElem?_append_right (by omega), hl, List.getElem?_append_left (by simp; omega), List.getElem?_replicate, if_pos (by omega)]
theorem step_fill {opsq : Array Oper} {o : Oper} {a : Act} {w : World} {K : Act → World → Prop} {Q : Exit → Act → World → Prop} {E : Prop} (hgd : o.guard = none) (d s : Operand)
   (ho : o.op = .call { callee := .builtin .copy, args := #[d, s], argTypes := #[51, 51] }) (hty : o.type = 3) {x y : Value} (hd : a.eval d = x) (hs : a.eval s = y) {k : Int} (w' : World)
   (hrun : (Builtin.copy_ #[51, 51] 3 #[x, y]).run Try.prog w = .ok (.int .i64 k) w') (h : K (a.put o.dst (.int .i64 k)) w') :
   if Region.wanted o (yielded opsq a.tmps) = true then Oper.wp Try.prog o a w K Q else E := by
 have hw : Region.wanted o (yielded opsq a.tmps) = true := by simp [Region.wanted, hgd]
 rw [if_pos hw]
 unfold Oper.wp
 simp [execOp, ho, hty, resolve, invoke, builtin, hd, hs, hrun, Result.andThen]
 exact h
theorem rep_raw {w : World} {base g n cap : Nat} {ok : Nat → Prop} {xs : List Int} (h : Kd.R (Kd.int .i64) 3 w base ok (.slice (some ⟨g, 0, none⟩) n cap) xs) : n ≤ cap ∧ cap ≤ maxLen ∧ base ≤ g ∧ ∃ cur, w.heap[g]? = some (.cells cur 3 (0, 0)) ∧ cur.size = cap := by
 obtain ⟨_, inner, ho, _⟩ := h
 rcases ho.2 with ⟨he, _⟩ | ⟨g', cap', cur, he, hb, hh, h1, h2, h3, _⟩
 · cases he
 · injection he with ha hn hc
   injection ha with ha
   injection ha with ha
   subst ha; subst hc; subst hn
   exact ⟨h1, h2, hb, cur, hh, by rw [h3]; exact Nat.mul_one _⟩
theorem rep_row {w : World} {base g n cap : Nat} {x : Int} {cur : Array Value} (hb : base ≤ g) (hg : w.heap[g]? = some (.cells cur 3 (0, 0))) (hc : cur.size = cap) (h1 : n ≤ cap) (h2 : cap ≤ maxLen) (hx : ∀ j, j < n → cur[j]? = some (.int .i64 x)) :
   Kd.R (Kd.int .i64) 3 w base (fun _ => True) (.slice (some ⟨g, 0, none⟩) n cap) (List.replicate n x) := by
 refine Kd.R_of_own ?_ (fun _ _ => trivial)
 refine ⟨by simp [encs], .inr ⟨g, cap, cur, by simp, hb, hg, by simpa using h1, h2, by simpa using hc, ?_⟩⟩
 apply List.ext_getElem?
 intro j
 by_cases hj : j < n
 · rw [List.getElem?_take, if_pos (by simpa using hj)]
   have := hx j hj
   rw [Array.getElem?_toList, this]
   simp [encs, hj]
 · rw [List.getElem?_eq_none (by simp; omega), List.getElem?_eq_none (by simp [encs]; omega)]
set_option maxHeartbeats 1600000 in
set_option maxRecDepth 100000 in
theorem slices_Repeat_int_int.calls (A0 : Option Addr) (c0 : Nat) (l0 : List Int) (a1 : Int) (r : List Int) (w : World) (hr0 : Kd.C (Kd.int .i64) w A0 l0.length l0) (hc0 : l0.length ≤ c0) (h : slices_Repeat_int_int.f l0 a1 = some r) :
   Calls Try.prog 149 #[.slice A0 l0.length c0, .int .i64 a1] w fun e w' => ∃ v0_ : Value, e = .returned (v0_) ∧ Kd.R (Kd.int .i64) 3 w' w.heap.size (fun _ => True) v0_ r ∧ Below w.heap.size w w' := by
 unfold slices_Repeat_int_int.f at h
 by_cases hp : l0.length = 1 ∧ 0 ≤ a1 ∧ a1 ≤ 1048576
 rotate_left
 · rw [if_neg hp] at h
   cases h
 rw [if_pos hp] at h
 obtain ⟨hl, h0, h1⟩ := hp
 obtain rfl := zsi h
 clear h
 obtain ⟨n, rfl⟩ := Int.eq_ofNat_of_zero_le h0
 obtain ⟨ad, rfl, hx⟩ := Kd.at_int hr0 0 (by decide) (by omega)
 obtain ⟨x, hxx⟩ : ∃ x, x = rd l0 0 := ⟨_, rfl⟩
 rw [← hxx] at hx ⊢
 have hn : n ≤ 1048576 := by omega
 have hx' : w.cell? ad = some (.int .i64 x) := by simpa [Addr.add] using hx
 rw [hl]
 have HX := zA hx'
 have HMU := zA (mul_one_ n hn)
 have d1 : decide ((n : Int) < 0) = false := zdf (by omega)
 have d2 : decide ((9223372036854775807 : Int) < n) = false := zdf (by omega)
 have hlt := World.block_lt_of_cell? w _ hx'
 have HL := zA hlt
 have b0 : (0 : Int) ≤ n := by omega
 have b1 : (n : Int).toNat * 8 ≤ 281474976710656 := by simp; omega
 clear hr0 hx hx' hxx h0 h1 hlt
 rcases Nat.eq_zero_or_pos n with hz | hpos
 · subst hz
   go_enter Try.func149, Try.ntmps149
   go_wp2_with (first
     | (go_at_call 179; refine (bits_Mul.calls 1 0 0 0 _ HMU.out).mono ?_; rintro e w' ⟨rfl, ⟨nd, rfl⟩⟩)
     | ((with_reducible refine gate_dst (N := 30) rfl ?_); refine Kd.R_make (Kd.int .i64) w.heap.size 3 rfl (N := 30) rfl 51 _ _ rfl (0 : Int) rfl rfl Try.underlying51 (.int .i64 0) 8 info3 rfl (by decide) (by omega) 0 (ok := fun _ => True) (okp := fun _ => True) rfl (fun _ hk => hk) trivial (by omega) (by decide) (zbn (Below.refl _ _) _) (zlr _) ?_; intro v102 w4 ho hb hg_ hnew_; clear hg_ hnew_; obtain ⟨A, c, e, hl_, hr_⟩ := Kd.R_reads ho; cases e; have HO := zA ho; have HB := zA hb; clear hl_ hr_ ho hb; have hcopy := run_copy_none (P := Try.prog) w4 51 51 3 3 A (some ad) 0 c 1 c0 Try.underlying51 (by kernel_rfl) rfl))
   clear hcopy
   go_loopw [8] (fun i wr => i = .int .i64 0 ∧ wr = w4) (fun _ _ => 0)
   case atStart => exact ⟨rfl, rfl⟩
   obtain ⟨rfl, rfl⟩ := hrel
   go_wp2
   go_ret
   exact ⟨_, rfl, HO.out, HB.out⟩
 have hnp : 0 < (List.replicate (n : Int).toNat (0 : Int)).length := by simp; omega
 go_enter Try.func149, Try.ntmps149
 go_wp2_with (first
   | (go_at_call 179; refine (bits_Mul.calls 1 n 0 n _ HMU.out).mono ?_; rintro e w' ⟨rfl, ⟨nd, rfl⟩⟩)
   | ((with_reducible refine gate_dst (N := 30) rfl ?_); refine Kd.R_make (Kd.int .i64) w.heap.size 3 rfl (N := 30) rfl 51 _ _ rfl (n : Int) rfl rfl Try.underlying51 (.int .i64 0) 8 info3 rfl (by decide) (by omega) 0 (ok := fun _ => True) (okp := fun _ => True) rfl (fun _ hk => hk) trivial b0 b1 (zbn (Below.refl _ _) _) (zlr _) ?_; intro v102 w4 ho hb hg_ hnew_; clear hg_ hnew_; obtain ⟨g, cap, rfl, hgb, hgl, cells_, hcells_⟩ := Kd.R_form ho hnp; obtain ⟨hc1, hc2, _, cur, hcur, hcs⟩ := rep_raw ho; rw [show (List.replicate (n : Int).toNat (0 : Int)).length = n by simp] at hc1 ⊢; clear hcells_ ho; obtain ⟨cur', hcopy, hs', _, hhi⟩ := copy_fill g 0 n cap 1 c0 1 ad cur (.int .i64 x) w4 (Nat.min_eq_left hpos).symm hcur (fun j hj => by rw [show j = 0 by omega]; exact (hb.cell HL.out).trans HX.out) (by omega) rfl; have HB := zA hb; have HG := zA hgb; have HH := zA (setRow_heap _ _ _ cur' _ _ hcur); have HI := zA hhi; have HS := zA (hs'.trans hcs); clear hb hgb hcur hhi hs' hcs))
 clear hcopy hnp b0 b1 hgl
 have HI1 := zA (show ∀ j, j < 1 → cur'[j]? = some (.int .i64 x) from fun j hj => HI.out j (by omega) (by omega))
 have HB1 := zA (below_setRow HB.out HG.out cur')
 clear HI HB
 go_loopw [8] (fun i wr => ∃ (m : Nat) (cu : Array Value), i = .int .i64 (m : Int) ∧ 1 ≤ m ∧ m ≤ n ∧ Aside0 (wr.heap[g]? = some (.cells cu 3 (0, 0))) ∧ Aside0 (cu.size = cap) ∧ Aside0 (∀ j, j < m → cu[j]? = some (.int .i64 x)) ∧ Aside0 (Below w.heap.size w wr)) (fun i _ => n - (intOf i).toNat)
 case atStart => exact ⟨1, cur', rfl, by omega, by omega, HH, HS, HI1, HB1⟩
 clear HH HS HI1 HB1
 obtain ⟨m, cu, rfl, m1, mn, HH, HS, HI, HB⟩ := hrel
 by_cases hm : m < n
 rotate_left
 · have e1 : decide ((m : Int) < n) = false := zdf (by omega)
   obtain rfl : m = n := by omega
   go_wp2
   go_ret
   exact ⟨_, rfl, rep_row HG.out HH.out HS.out hc1 hc2 HI.out, HB.out⟩
 have e1 : decide ((m : Int) < n) = true := zdt (by omega)
 have e2 : decide ((0 : Int) ≤ m) = true := zdt (by omega)
 have e3 : decide ((m : Int) ≤ n) = true := zdt (by omega)
 have e4 : decide ((m : Int) ≤ cap) = true := zdt (by omega)
 obtain ⟨k, hk⟩ : ∃ k, k = Nat.min m (n - m) := ⟨_, rfl⟩
 have hk' : k = min m (n - m) := hk
 have k1 : 1 ≤ k ∧ m + k ≤ n ∧ k ≤ m := by omega
 have hf : ∀ W : World, W.heap = wr.heap → ∃ cu', (Builtin.copy_ #[51, 51] 3 #[.slice (some ⟨g, m, none⟩) (n - m) (cap - m), .slice (some ⟨g, 0, none⟩) m cap]).run Try.prog W = .ok (.int .i64 (k : Int)) (W.setRow g cu') ∧ cu'.size = cu.size ∧ (∀ j, j < m → cu'[j]? = cu[j]?) ∧ (∀ j, m ≤ j → j < m + k → cu'[j]? = some (.int .i64 x)) := fun W hW =>
   copy_fill g m (n - m) (cap - m) m cap k ⟨g, 0, none⟩ cu (.int .i64 x) W hk (by rw [hW]; exact HH.out) (fun j hj => by
     have hjm : j < m := by omega
     have := Go.Lib.cells_of_row (w := W) (by rw [hW]; exact HH.out) m j (.int .i64 x) (by rw [List.getElem?_take, if_pos hjm, Array.getElem?_toList]; exact HI.out j hjm)
     exact this) (by rw [HS.out]; omega) rfl
 have HC := zA hf
 clear hf hk hk'
 have e5 : m ≤ cap := by omega
 have e6 : ¬ cap = m := by omega
 go_wp2
 go_region_law (obtain ⟨cu', hrun, q1, q2, q3⟩ := HC.out wr.drew rfl; refine step_fill rfl (.tmp 41) (.tmp 44) rfl rfl (x := .slice (some ⟨g, m, none⟩) (n - m) (cap - m)) (y := .slice (some ⟨g, 0, none⟩) m cap) (by simp [Act.eval, Act.put, e6]) (by simp [Act.eval, Act.put]) _ hrun ?_)
 go_simp
 rw [show IntKind.i64.wrap ((m : Int) + (k : Int)) = ((m + k : Nat) : Int) from by rw [IntKind.wrap_i64]; omega]
 go_roundw
 case rel =>
   refine ⟨_, _, _, _, _, _, _, _, _, _, _, _, _, _, ⟨m + k, cu', rfl, by omega, by omega, ⟨setRow_heap _ _ _ cu' _ _ (by exact HH.out)⟩, ⟨q1.trans HS.out⟩, ⟨fun j hj => ?_⟩, ⟨below_setRow (below_drew HB.out) HG.out cu'⟩⟩, rfl⟩
   · by_cases hjm : j < m
     · rw [q2 j hjm]; exact HI.out j hjm
     · exact q3 j (by omega) hj
 case measure => simp [intOf]; omega
end Go.Proofs.Ytkfkbmlbpeojaaa.Q
end
section
namespace Go.Proofs.Ytkfkbmlbpeojaaa.Q
open Go.RowKit Go.Proofs.YtkfkbmlbpeojaaaW.PrintWords Go.Proofs.YtkfkbmlbpeojaaaW.PrintLast Go.Proofs.YtkfkbmlbpeojaaaW.PrintMore
attribute [local go_sem] max2_int min2_int max_two min_two max_three min_three max_four min_four
set_option linter.unusedVariables false
set_option linter.unusedSimpArgs false
set_option linter.unusedVariables false
set_option linter.unusedSimpArgs false
def shL (g : Int → List S72 × List Int → Option (List S72 × List Int)) : List Int → List S72 × List Int → Option (List S72 × List Int)
 | [], s => some s
 | x :: xs, s => (g x s).bind fun s1 => shL g xs s1
def shPut (k : Nat) (i : Int) (n : S72) (s : List S72 × List Int) : Option (List S72 × List Int) := if s.1.length < 3518437208883 then (impl_Node_152.f k s.1 n.f0 n.f1 n.f2 n.f3).bind fun m => some (if m < 0 then (s.1 ++ [n], s.2.set i.toNat s.1.length) else (s.1, s.2.set i.toNat m)) else none
def shW (k : Nat) (e : List S72) : Nat → Int → List S72 × List Int → Option (List S72 × List Int)
 | 0, _, _ => none
 | d + 1, i, s => if 0 ≤ i ∧ i < e.length then (if rd s.2 i ≥ 0 then some s else (impl_Node_of.f k (rd_T72 e i).f0 (rd_T72 e i).f1 (rd_T72 e i).f2 (rd_T72 e i).f3).bind fun ks => if ks.length < 1048576 then (shL (shW k e d) ks s).bind fun s1 => (impl_Node_renamed.f k (rd_T72 e i).f0 (rd_T72 e i).f1 (rd_T72 e i).f2 (rd_T72 e i).f3 s1.2).bind fun n => shPut k i ⟨n.1, n.2.1, n.2.2.1, n.2.2.2⟩ s1 else none) else none
structure ShX (w0 : World) (A0 : Option Addr) (c0 : Nat) (e : List S72) (gn ge gw go r cr : Nat) (s : List S72 × List Int) (vo : Value) (W : World) : Prop where
 below : Below w0.heap.size w0 W
 bn : W.heap[gn]? = some (.cells #[.slice (some ⟨r, 0, none⟩) e.length cr] 51 (0, 0))
 be : W.heap[ge]? = some (.cells #[.slice A0 e.length c0] 24 (0, 0))
 bw : W.heap[gw]? = some (.cells #[.func (.func 150) #[] #[.pointer (some ⟨gn, 0, none⟩), .pointer (some ⟨ge, 0, none⟩), .pointer (some ⟨gw, 0, none⟩), .pointer (some ⟨go, 0, none⟩)]] 152 (0, 0))
 bo : W.heap[go]? = some (.cells #[vo] 24 (0, 0))
 out : Kd.R k72 72 W w0.heap.size (fun k => k ≠ gn ∧ k ≠ ge ∧ k ≠ gw ∧ k ≠ go ∧ k ≠ r) vo s.1
 rne : r ≠ gn ∧ r ≠ ge ∧ r ≠ gw ∧ r ≠ go
 nam : Kd.R (Kd.int .i64) 3 W w0.heap.size (fun k => k = r) (.slice (some ⟨r, 0, none⟩) e.length cr) s.2
structure ShF (w0 : World) (gn ge gw go : Nat) : Prop where
 lo : w0.heap.size ≤ go
 n : gn ≠ go
 e : ge ≠ go
 w : gw ≠ go
section
variable {w0 : World} {A0 : Option Addr} {c0 : Nat} {e : List S72} {gn ge gw go r cr : Nat} {s : List S72 × List Int} {vo v : Value} {W W1 : World}
theorem ShX.step (h : ShX w0 A0 c0 e gn ge gw go r cr s vo W) (hb : Below W.heap.size W W1) : ShX w0 A0 c0 e gn ge gw go r cr s vo W1 :=
 ⟨below_step h.below hb, blk_below h.bn hb, blk_below h.be hb, blk_below h.bw hb, blk_below h.bo hb, zRb h.out hb, h.rne, zRb h.nam hb⟩
theorem ShX.setn (h : ShX w0 A0 c0 e gn ge gw go r cr s vo W) (i x : Int) : ShX w0 A0 c0 e gn ge gw go r cr (s.1, s.2.set i.toNat x) vo (W.setCell ⟨r, i.toNat, none⟩ (.int .i64 x)) := by
 have hr := h.rne
 have hb := Kd.R_base h.nam r rfl
 exact ⟨h.below.setCell (p := ⟨r, i.toNat, none⟩) hb _, blk_far h.bn (fun e => hr.1 (by simpa using e.symm)) _, blk_far h.be (fun e => hr.2.1 (by simpa using e.symm)) _, blk_far h.bw (fun e => hr.2.2.1 (by simpa using e.symm)) _, blk_far h.bo (fun e => hr.2.2.2 (by simpa using e.symm)) _,
   Kd.R_far h.out (p := ⟨r, i.toNat, none⟩) (fun k hk => hk.2.2.2.2) _, h.rne, Kd.R_putn h.nam i x⟩
theorem ShX.append (F : ShF w0 gn ge gw go) (h : ShX w0 A0 c0 e gn ge gw go r cr s vo W) {W1 : World} {vo' : Value} {ys : List S72} (hR : Kd.R k72 72 W1 w0.heap.size (fun k => k ≠ gn ∧ k ≠ ge ∧ k ≠ gw ∧ k ≠ go ∧ k ≠ r) vo' ys) (hb : Below w0.heap.size w0 W1) (hg : W.grownBy W1 vo.ownBlock) : ShX w0 A0 c0 e gn ge gw go r cr (ys, s.2) vo' (W1.setCell ⟨go, 0, none⟩ vo') := by
 have bn : W1.heap[gn]? = _ := (hg.block gn (blk_lt h.bn) (fun e => (h.out.1 gn e.symm).1 rfl)).trans h.bn
 have be : W1.heap[ge]? = _ := (hg.block ge (blk_lt h.be) (fun e => (h.out.1 ge e.symm).2.1 rfl)).trans h.be
 have bw : W1.heap[gw]? = _ := (hg.block gw (blk_lt h.bw) (fun e => (h.out.1 gw e.symm).2.2.1 rfl)).trans h.bw
 have bo : W1.heap[go]? = _ := (hg.block go (blk_lt h.bo) (fun e => (h.out.1 go e.symm).2.2.2.1 rfl)).trans h.bo
 exact ⟨hb.setCell (p := ⟨go, 0, none⟩) F.lo _, blk_far bn (fun e => F.n (by simpa using e)) _, blk_far be (fun e => F.e (by simpa using e)) _, blk_far bw (fun e => F.w (by simpa using e)) _, by simpa using blk_set bo 0 vo',
   Kd.R_far hR (p := ⟨go, 0, none⟩) (fun k hk => hk.2.2.2.1) _, h.rne, Kd.R_far (Kd.R_grown h.nam hg (fun k hk e => (h.out.1 k e.symm).2.2.2.2 hk)) (p := ⟨go, 0, none⟩) (fun k hk => by rw [hk]; exact h.rne.2.2.2) _⟩
end
set_option maxHeartbeats 4000000 in
set_option maxRecDepth 100000 in
theorem shWalk (k : Nat) {w0 : World} {A0 : Option Addr} {c0 : Nat} {e : List S72} {gn ge gw go r cr : Nat} (F : ShF w0 gn ge gw go) (hC : Kd.C k72 w0 A0 e.length e) (hc0 : e.length ≤ c0) : ∀ (d : Nat) (i : Int) (s s' : List S72 × List Int) (vo : Value) (W : World), ShX w0 A0 c0 e gn ge gw go r cr s vo W → shW k e d i s = some s' →
   Calls Try.prog 150 #[.int .i64 i, .pointer (some ⟨gn, 0, none⟩), .pointer (some ⟨ge, 0, none⟩), .pointer (some ⟨gw, 0, none⟩), .pointer (some ⟨go, 0, none⟩)] W fun x W' => x = .returned (.tuple #[]) ∧ ∃ vo', ShX w0 A0 c0 e gn ge gw go r cr s' vo' W' ∧ ShFr go r vo W vo' W' := by
 have HF := zA F
 have HC := zA hC
 have HC0 := zA hc0
 clear F hC hc0
 intro d
 induction d with
 | zero => intro i s s' vo W hX h; cases h
 | succ d ih =>
 intro i s s' vo W hX h
 have HIH := zA ih
 clear ih
 unfold shW at h
 by_cases c1 : 0 ≤ i ∧ i < e.length
 rotate_left
 · rw [if_neg c1] at h
   cases h
 rw [if_pos c1] at h
 obtain ⟨c2, c3⟩ := c1
 have q1 := blk_cell hX.bn 0
 have q2 := blk_cell hX.be 0
 obtain ⟨p0, p1⟩ := Kd.R_celln 0 hX.nam i c2 c3
 have HX := zA hX
 clear hX
 by_cases hn : rd s.2 i ≥ 0
 · rw [if_pos hn] at h
   obtain rfl := zsi h
   clear h
   have d1 : decide (0 ≤ rdOf 0 s.2 i) = true := zdt hn
   clear hn
   go_enter Try.func150, Try.ntmps150
   go_wp2_with fail
   first | go_end0 | ((try simp only [Exit.inBlock, Exit.then]); refine bodyPost_ret (results_none rfl _ _ _) rfl ?_)
   exact ⟨rfl, vo, HX.out, ShFr.refl _ _ _ _⟩
 rw [if_neg hn] at h
 have d1 : decide (0 ≤ rdOf 0 s.2 i) = false := zdf hn
 clear hn
 obtain ⟨ks, hks, h⟩ := Option.bind_eq_some_iff.1 h
 by_cases hkl : ks.length < 1048576
 rotate_left
 · rw [if_neg hkl] at h
   cases h
 rw [if_pos hkl] at h
 obtain ⟨s1, hs1, h⟩ := Option.bind_eq_some_iff.1 h
 obtain ⟨nn, hnn, h⟩ := Option.bind_eq_some_iff.1 h
 have HKS := zA hks
 have HS1 := zA hs1
 have HNN := zA hnn
 have HH := zA h
 clear hks hs1 hnn h
 obtain ⟨ad, eA, x0, x1, x2, x3⟩ := at_T72 (zCb HC.out HX.out.below) i c2 c3
 subst eA
 go_enter Try.func150, Try.ntmps150
 go_wp2_with (go_at_call 148; (with_reducible refine (impl_Node_of.calls k _ _ _ _ ks _ HKS.out).mono ?_); rintro x w1 ⟨vk, rfl, hk, hb⟩; obtain ⟨Ak, ck, rfl⟩ := Kd.R_slice hk; have HK1 := zA hk; have HB1 := zA hb; clear hk hb)
 have hks := HK1.out
 have hrr := Kd.R_lt HX.out.nam r rfl
 have hgo := blk_lt HX.out.bo
 go_loopw [7, 20] (fun v7 v20 wr => ∃ (u : Nat) (su : List S72 × List Int) (vu : Value), v20 = .int .i64 (u : Int) ∧ u ≤ ks.length ∧ Aside0 (ShX w0 (some ad) c0 e gn ge gw go r cr su vu wr) ∧ Aside0 (shL (shW k e d) (ks.drop u) su = some s1) ∧ Aside0 (ShFr go r vo W vu wr) ∧
   Aside0 (Kd.R (Kd.int .i64) 3 wr W.heap.size (fun k => k ≠ r ∧ k ≠ go ∧ some k ≠ vu.ownBlock) (.slice Ak ks.length ck) ks)) (fun _ v20 _ => ks.length - (intOf v20).toNat)
 case atStart =>
   refine ⟨0, s, vo, rfl, Nat.zero_le _, ⟨HX.out.step HB1.out⟩, ⟨by rw [List.drop_zero]; exact HS1.out⟩, ⟨(ShFr.refl go r vo W).step HB1.out⟩, ⟨Kd.R_mono (Kd.R_bound hks) (fun k hk => ⟨by have := hk.2.1; omega, by have := hk.2.1; omega, fun he => ?_⟩)⟩⟩
   have h1 := Kd.R_lt HX.out.out k he.symm
   have h2 := hk.2.1
   omega
 clear hks HK1 HB1 HS1 HX
 obtain ⟨u, su, vu, rfl, hu, HXu, HSu, HFu, HKu⟩ := hrel
 by_cases hlt : u < ks.length
 · obtain ⟨adk, ek, hck⟩ := Kd.at_int (zRr HKu.out).2.2 (u : Int) (by omega) (by omega)
   rw [Int.toNat_natCast] at hck
   subst ek
   have d2 : decide ((u : Int) < ks.length) = true := zdt (by omega)
   have d3 : (0 : Int) ≤ (u : Int) := by omega
   have d4 : (u : Int) < ks.length := by omega
   have qw := blk_cell HXu.out.bw 0
   have hs := HSu.out
   rw [List.drop_eq_getElem_cons hlt] at hs
   unfold shL at hs
   obtain ⟨s2, hs2, hs3⟩ := Option.bind_eq_some_iff.1 hs
   have hv : rd ks (u : Int) = ks[u] := by
     unfold rd
     rw [Int.toNat_natCast, List.getD_eq_getElem?_getD, List.getElem?_eq_getElem hlt]
     rfl
   rw [← hv] at hs2
   have HS2 := zA hs2
   have HS3 := zA hs3
   clear hs hs2 hs3 hv HSu
   go_wp2_with fail
   refine (HIH.out (rd ks (u : Int)) su s2 vu wr HXu.out HS2.out).mono ?_
   rintro x w3 ⟨rfl, v3, hX3, hF3⟩
   have HX3 := zA hX3
   have HF3 := zA hF3
   clear hX3 hF3
   go_wp2_with fail
   go_roundw
   case rel =>
     refine ⟨u + 1, s2, v3, by go_num, by omega, HX3, HS3, ⟨HFu.out.trans HF3.out⟩, ⟨Kd.R_mono (Kd.R_step (Kd.R_bound HKu.out) (fun k hk hl => HF3.out.keep k hl hk.1.1 hk.1.2.1 hk.1.2.2)) (fun k hk => ⟨hk.1.1, hk.1.2.1, fun he => ?_⟩)⟩⟩
     rcases HF3.out.own k he.symm with e' | e'
     · exact hk.1.2.2 e'.symm
     · have := hk.2.2.1
       omega
   case measure => simp [intOf]; omega
 obtain rfl : u = ks.length := by omega
 have d2 : decide ((ks.length : Int) < ks.length) = false := zdf (by omega)
 have hs := HSu.out
 rw [List.drop_length] at hs
 obtain rfl := zsi hs
 clear hs HSu HKu
 go_wp2_with fail
 obtain ⟨n0, n1, n2, n3⟩ := nn
 have hcr := (zRr HXu.out.nam).2.1
 have HLEN := zA (zRr HXu.out.nam).1
 have hrw := Kd.R_lt HXu.out.nam r rfl
 refine ri_region [[], [], [0, 1], [0, 1, 2], [], [0, 1, 2, 3, 4], [], [0, 1, 2, 3, 4, 5, 6]] [[2, 3, 5, 7], [2, 3, 5, 7], [3, 5, 7], [5, 7], [5, 7], [7], [7], []]
   (fun L s V => Below wr.heap.size wr V ∧ (L 0 = true → s 0 = .slice (some ad) e.length c0) ∧ (L 1 = true → s 1 = .int .i64 i) ∧ (L 2 = true → s 2 = .pointer (some (ad.add (i.toNat * 4)))) ∧ (L 3 = true → s 3 = .agg #[.string (rd_T72 e i).f0, .int .i64 (rd_T72 e i).f1, .int .i64 (rd_T72 e i).f2, .int .i64 (rd_T72 e i).f3]) ∧
     (L 4 = true → s 4 = .slice (some ⟨r, 0, none⟩) e.length cr) ∧ (L 5 = true → s 5 = .agg #[.string n0, .int .i64 n1, .int .i64 n2, .int .i64 n3]) ∧ (L 6 = true → ∃ g cs, s 6 = .pointer (some ⟨g, 0, none⟩) ∧ V.heap[g]? = some (.cells cs 72 (0, 0)) ∧ cs.size = 4 ∧ wr.heap.size ≤ g ∧ (L 7 = true → cs = #[.string n0, .int .i64 n1, .int .i64 n2, .int .i64 n3])))
   rfl (fun _ _ _ _ _ h => h) (by kernel_rfl) ?_ ⟨?_, ?_, ?_, ?_, ?_, ?_, ?_, ?_, trivial⟩ ?_
 · exact ⟨below_drew (Below.refl _ _), (fun h => Bool.noConfusion h), (fun h => Bool.noConfusion h), (fun h => Bool.noConfusion h), (fun h => Bool.noConfusion h), (fun h => Bool.noConfusion h), (fun h => Bool.noConfusion h), (fun h => Bool.noConfusion h)⟩
 · rintro L s V hu hd hn ⟨hB, g0, g1, g2, g3, g4, g5, g6⟩ K hK
   have hc := blk_cell (HXu.out.step hB).be 0
   refine value_ (N := some 28) (v := .slice (some ad) e.length c0) (w1 := V) (by rfl) rfl ?_ (hK _ _ ⟨hB, fun _ => rfl, g1, g2, g3, g4, g5, g6⟩)
   simp only [riFill, riGo, riCell, riFind, riMem, riNth, Nat.reduceBEq, Nat.reduceAdd, List.headD, List.tail, List.getD, List.getElem?_cons_zero, List.getElem?_cons_succ, Option.getD_some, cond_true, cond_false]
   go_simp
 · rintro L s V hu hd hn ⟨hB, g0, g1, g2, g3, g4, g5, g6⟩ K hK
   refine value_ (N := some 29) (v := .int .i64 i) (w1 := V) (by rfl) rfl ?_ (hK _ _ ⟨hB, g0, fun _ => rfl, g2, g3, g4, g5, g6⟩)
   simp only [riFill, riGo, riCell, riFind, riMem, riNth, Nat.reduceBEq, Nat.reduceAdd, List.headD, List.tail, List.getD, List.getElem?_cons_zero, List.getElem?_cons_succ, Option.getD_some, cond_true, cond_false]
   go_simp
 · rintro L s V hu hd hn ⟨hB, g0, g1, g2, g3, g4, g5, g6⟩ K hK
   have e0 := g0 hd.1
   have e1 := g1 hd.2
   refine value_ (N := some 30) (v := .pointer (some (ad.add (i.toNat * 4)))) (w1 := V) (by rfl) rfl ?_ (hK _ _ ⟨hB, g0, g1, fun _ => rfl, g3, g4, g5, g6⟩)
   simp only [riFill, riGo, riCell, riFind, riMem, riNth, Nat.reduceBEq, Nat.reduceAdd, List.headD, List.tail, List.getD, List.getElem?_cons_zero, List.getElem?_cons_succ, Option.getD_some, cond_true, cond_false]
   rw [e0, e1]
   go_simp
 · rintro L s V hu hd hn ⟨hB, g0, g1, g2, g3, g4, g5, g6⟩ K hK
   have e2 := g2 hd.2.2
   obtain ⟨ad', ea, y0, y1, y2, y3⟩ := at_T72 (zCb HC.out (HXu.out.step hB).below) i c2 c3
   cases ea
   refine value_ (N := some 31) (v := .agg #[.string (rd_T72 e i).f0, .int .i64 (rd_T72 e i).f1, .int .i64 (rd_T72 e i).f2, .int .i64 (rd_T72 e i).f3]) (w1 := V) (by rfl) rfl ?_ (hK _ _ ⟨hB, g0, g1, g2, fun _ => rfl, g4, g5, g6⟩)
   simp only [riFill, riGo, riCell, riFind, riMem, riNth, Nat.reduceBEq, Nat.reduceAdd, List.headD, List.tail, List.getD, List.getElem?_cons_zero, List.getElem?_cons_succ, Option.getD_some, cond_true, cond_false]
   rw [e2]
   clear x0 x1 x2 x3
   go_simp
 · rintro L s V hu hd hn ⟨hB, g0, g1, g2, g3, g4, g5, g6⟩ K hK
   have hc := blk_cell (HXu.out.step hB).bn 0
   refine value_ (N := some 32) (v := .slice (some ⟨r, 0, none⟩) e.length cr) (w1 := V) (by rfl) rfl ?_ (hK _ _ ⟨hB, g0, g1, g2, g3, fun _ => rfl, g5, g6⟩)
   simp only [riFill, riGo, riCell, riFind, riMem, riNth, Nat.reduceBEq, Nat.reduceAdd, List.headD, List.tail, List.getD, List.getElem?_cons_zero, List.getElem?_cons_succ, Option.getD_some, cond_true, cond_false]
   go_simp
 · rintro L s V hu hd hn ⟨hB, g0, g1, g2, g3, g4, g5, g6⟩ K hK
   have e3 := g3 hd.2.2.2.1
   have e4 := g4 hd.2.2.2.2
   have hCn := (zRr (HXu.out.step hB).nam).2.2
   have e34 : (#[s 3, s 4] : Array Value) = #[.agg #[.string (rd_T72 e i).f0, .int .i64 (rd_T72 e i).f1, .int .i64 (rd_T72 e i).f2, .int .i64 (rd_T72 e i).f3], .slice (some ⟨r, 0, none⟩) e.length cr] := by rw [e3, e4]
   have hcall := impl_Node_renamed.calls k _ _ _ _ (some ⟨r, 0, none⟩) cr su.2 n0 n1 n2 n3 V hCn (HLEN.out ▸ hcr) HNN.out
   rw [← HLEN.out] at hcall
   refine goes_ Try.func151 (by kernel_rfl) rfl #[.agg #[.string (rd_T72 e i).f0, .int .i64 (rd_T72 e i).f1, .int .i64 (rd_T72 e i).f2, .int .i64 (rd_T72 e i).f3], .slice (some ⟨r, 0, none⟩) e.length cr] (by rfl) rfl rfl (by simp only [List.map_toArray, List.map_cons, List.map_nil]; exact e34) ?_
   refine hcall.mono ?_
   rintro x w4 ⟨rfl, hb⟩
   exact ⟨_, rfl, hK _ _ ⟨below_step hB hb, g0, g1, g2, g3, g4, fun _ => rfl, fun h => by obtain ⟨g, cs, a1, a2, a3, a4, a5⟩ := g6 h; exact ⟨g, cs, a1, blk_below a2 hb, a3, a4, a5⟩⟩⟩
 · rintro L s V hu hd hn ⟨hB, g0, g1, g2, g3, g4, g5, g6⟩ K hK
   refine value_ (N := some 8) (v := .pointer (some ⟨V.heap.size, 0, none⟩)) (w1 := V.alloc (.cells #[.string ⟨#[]⟩, .int .i64 0, .int .i64 0, .int .i64 0] 72)) (by rfl) rfl ?_ (hK _ _ ⟨zba hB _, g0, g1, g2, g3, g4, g5, fun _ => ⟨V.heap.size, _, rfl, blk_new V _, rfl, hB.size, fun h => absurd (h.symm.trans hn) (by simp)⟩⟩)
   simp only [riFill, riGo, riCell, riFind, riMem, riNth, Nat.reduceBEq, Nat.reduceAdd, List.headD, List.tail, List.getD, List.getElem?_cons_zero, List.getElem?_cons_succ, Option.getD_some, cond_true, cond_false]
   go_simp
 · rintro L s V hu hd hn ⟨hB, g0, g1, g2, g3, g4, g5, g6⟩ K hK
   obtain ⟨g, cs, a1, a2, a3, a4, _⟩ := g6 hd.2.2.2.2.2.2
   have e5 := g5 hd.2.2.2.2.2.1
   have hst := run_store_run (P := Try.prog) (w := V) (o := 0) 72 (.agg #[.string n0, .int .i64 n1, .int .i64 n2, .int .i64 n3]) [.string n0, .int .i64 n1, .int .i64 n2, .int .i64 n3] a2 rfl rfl (by simp [a3]) (by simp [Value.oneCell'])
   refine skip_ (w1 := V.setCells g 0 [.string n0, .int .i64 n1, .int .i64 n2, .int .i64 n3]) (by rfl) rfl ?_ (hK undef _ ⟨?_, g0, g1, g2, g3, g4, g5, fun _ => ?_⟩)
   · simp only [riFill, riGo, riCell, riFind, riMem, riNth, Nat.reduceBEq, Nat.reduceAdd, List.headD, List.tail, List.getD, List.getElem?_cons_zero, List.getElem?_cons_succ, Option.getD_some, cond_true, cond_false]
     rw [a1, e5]
     unfold execOp
     simp only [Sem.run_bind, Sem.run_pure]
     exact (congrArg (fun r => Result.andThen r _) hst).trans rfl
   · have hs := setCells_same g [.string n0, .int .i64 n1, .int .i64 n2, .int .i64 n3] 0 V
     exact hB.trans ⟨hs.1, hs.2.1, hs.2.2.1, Nat.le_of_eq hs.2.2.2.symm, fun k hk => setCells_far _ _ k (by omega)⟩
   · obtain ⟨cur', b1, b2, b3⟩ := setCells_row (e := 72) [.string n0, .int .i64 n1, .int .i64 n2, .int .i64 n3] 0 V cs a2 (by simp [a3])
     refine ⟨g, cur', a1, b1, b2.trans a3, a4, fun _ => ?_⟩
     apply Array.ext'
     have hd4 : cs.toList.drop (0 + 4) = [] := List.drop_of_length_le (by simp [a3])
     rw [b3]
     show cs.toList.take 0 ++ [.string n0, .int .i64 n1, .int .i64 n2, .int .i64 n3] ++ cs.toList.drop (0 + 4) = _
     rw [hd4]
     rfl
 · rintro L s V hL ⟨hB, g0, g1, g2, g3, g4, g5, g6⟩
   obtain ⟨g, cs, a1, a2, a3, a4, a5⟩ := g6 (hL 6 rfl)
   obtain rfl := a5 (hL 7 rfl)
   have e5 := g5 (hL 5 rfl)
   have HX6 := zA (HXu.out.step hB)
   have HF6 := zA (HFu.out.step hB)
   have HG := zA a2
   have HGE := zA a4
   clear a2 a3 a4 a5 g0 g1 g2 g3 g4 g5 g6 hB
   simp only [riFill, riGo, riCell, riFind, riMem, riNth, Nat.reduceBEq, Nat.reduceAdd, List.headD, List.tail, List.getD, List.getElem?_cons_zero, List.getElem?_cons_succ, Option.getD_some, cond_true, cond_false]
   rw [a1, e5]
   clear a1 e5
   clear x0 x1 x2 x3 q1 q2 p0 p1
   go_wp2_with fail
   have h := HH.out
   unfold shPut at h
   by_cases hsl : su.1.length < 3518437208883
   rotate_left
   · rw [if_neg hsl] at h
     cases h
   rw [if_pos hsl] at h
   obtain ⟨m, hm, h⟩ := Option.bind_eq_some_iff.1 h
   have HM := zA hm
   have HS' := zA (zsi h)
   clear hm h HH HNN
   obtain ⟨Ao, co, eo⟩ := Kd.R_slice HX6.out.out
   have EO := zA eo
   clear eo
   refine ri_region [[], [], [], [], [2, 3], [0, 1, 2, 3, 4], [0, 1, 2, 3, 4, 5]] [[5, 6], [5, 6], [4, 5, 6], [4, 5, 6], [5, 6], [6], []]
     (fun L s X => (L 6 = false → Below V.heap.size V X) ∧ (L 6 = true → ∃ X', Below V.heap.size V X' ∧ X = X'.setCell ⟨r, i.toNat, none⟩ (.int .i64 m)) ∧ (L 0 = true → s 0 = .slice (some ⟨r, 0, none⟩) e.length cr) ∧ (L 1 = true → s 1 = .int .i64 i) ∧ (L 2 = true → s 2 = .slice Ao su.1.length co) ∧ (L 3 = true → s 3 = .agg #[.string n0, .int .i64 n1, .int .i64 n2, .int .i64 n3]) ∧
       (L 4 = true → s 4 = .int .i64 m) ∧ (L 5 = true → s 5 = .pointer (some ⟨r, i.toNat, none⟩)))
     rfl (fun _ _ _ _ _ h => h) (by kernel_rfl) ?_ ⟨?_, ?_, ?_, ?_, ?_, ?_, ?_, trivial⟩ ?_
   · exact ⟨fun _ => below_drew (Below.refl _ _), (fun h => Bool.noConfusion h), (fun h => Bool.noConfusion h), (fun h => Bool.noConfusion h), (fun h => Bool.noConfusion h), (fun h => Bool.noConfusion h), (fun h => Bool.noConfusion h), (fun h => Bool.noConfusion h)⟩
   · rintro L s X hu hd hn ⟨hB, hS, g0, g1, g2, g3, g4, g5⟩ K hK
     have hb := hB hn.2
     have hc := blk_cell (HX6.out.step hb).bn 0
     refine value_ (N := some 34) (v := .slice (some ⟨r, 0, none⟩) e.length cr) (w1 := X) (by rfl) rfl ?_ (hK _ _ ⟨hB, hS, fun _ => rfl, g1, g2, g3, g4, g5⟩)
     simp only [riFill, riGo, riCell, riFind, riMem, riNth, Nat.reduceBEq, Nat.reduceAdd, List.headD, List.tail, List.getD, List.getElem?_cons_zero, List.getElem?_cons_succ, Option.getD_some, cond_true, cond_false]
     go_simp
   · rintro L s X hu hd hn ⟨hB, hS, g0, g1, g2, g3, g4, g5⟩ K hK
     refine value_ (N := some 35) (v := .int .i64 i) (w1 := X) (by rfl) rfl ?_ (hK _ _ ⟨hB, hS, g0, fun _ => rfl, g2, g3, g4, g5⟩)
     simp only [riFill, riGo, riCell, riFind, riMem, riNth, Nat.reduceBEq, Nat.reduceAdd, List.headD, List.tail, List.getD, List.getElem?_cons_zero, List.getElem?_cons_succ, Option.getD_some, cond_true, cond_false]
     go_simp
   · rintro L s X hu hd hn ⟨hB, hS, g0, g1, g2, g3, g4, g5⟩ K hK
     have hb := hB hn.2.2
     have hc := blk_cell (HX6.out.step hb).bo 0
     rw [EO.out] at hc
     refine value_ (N := some 36) (v := .slice Ao su.1.length co) (w1 := X) (by rfl) rfl ?_ (hK _ _ ⟨hB, hS, g0, g1, fun _ => rfl, g3, g4, g5⟩)
     simp only [riFill, riGo, riCell, riFind, riMem, riNth, Nat.reduceBEq, Nat.reduceAdd, List.headD, List.tail, List.getD, List.getElem?_cons_zero, List.getElem?_cons_succ, Option.getD_some, cond_true, cond_false]
     go_simp
   · rintro L s X hu hd hn ⟨hB, hS, g0, g1, g2, g3, g4, g5⟩ K hK
     have hb := hB hn.2.2
     have hg' := blk_below HG.out hb
     have y0 : X.cell? ⟨g, 0, none⟩ = some (.string n0) := blk_cell hg' 0
     have y1 : X.cell? ⟨g, 1, none⟩ = some (.int .i64 n1) := blk_cell hg' 1
     have y2 : X.cell? ⟨g, 2, none⟩ = some (.int .i64 n2) := blk_cell hg' 2
     have y3 : X.cell? ⟨g, 3, none⟩ = some (.int .i64 n3) := blk_cell hg' 3
     clear hg'
     refine value_ (N := some 37) (v := .agg #[.string n0, .int .i64 n1, .int .i64 n2, .int .i64 n3]) (w1 := X) (by rfl) rfl ?_ (hK _ _ ⟨hB, hS, g0, g1, g2, fun _ => rfl, g4, g5⟩)
     simp only [riFill, riGo, riCell, riFind, riMem, riNth, Nat.reduceBEq, Nat.reduceAdd, List.headD, List.tail, List.getD, List.getElem?_cons_zero, List.getElem?_cons_succ, Option.getD_some, cond_true, cond_false]
     go_simp
   · rintro L s X hu hd hn ⟨hB, hS, g0, g1, g2, g3, g4, g5⟩ K hK
     have hb := hB hn.2
     have e2 := g2 hd.1
     have e3 := g3 hd.2
     have hR6 := (HX6.out.step hb).out
     rw [EO.out] at hR6
     have hCo := zRr hR6
     have e23 : (#[s 2, s 3] : Array Value) = #[.slice Ao su.1.length co, .agg #[.string n0, .int .i64 n1, .int .i64 n2, .int .i64 n3]] := by rw [e2, e3]
     refine goes_ Try.func152 (by kernel_rfl) rfl #[.slice Ao su.1.length co, .agg #[.string n0, .int .i64 n1, .int .i64 n2, .int .i64 n3]] (by rfl) rfl rfl (by simp only [List.map_toArray, List.map_cons, List.map_nil]; exact e23) ?_
     refine (impl_Node_152.calls k Ao co su.1 n0 n1 n2 n3 m X hCo.2.2 hCo.2.1 HM.out).mono ?_
     rintro x w4 ⟨rfl, hb4⟩
     exact ⟨_, rfl, hK _ _ ⟨fun _ => below_step hb hb4, fun h => absurd (h.symm.trans hn.2) (by simp), g0, g1, g2, g3, fun _ => rfl, g5⟩⟩
   · rintro L s X hu hd hn ⟨hB, hS, g0, g1, g2, g3, g4, g5⟩ K hK
     have e0 := g0 hd.1
     have e1 := g1 hd.2.1
     refine value_ (N := some 39) (v := .pointer (some ⟨r, i.toNat, none⟩)) (w1 := X) (by rfl) rfl ?_ (hK _ _ ⟨hB, hS, g0, g1, g2, g3, g4, fun _ => rfl⟩)
     simp only [riFill, riGo, riCell, riFind, riMem, riNth, Nat.reduceBEq, Nat.reduceAdd, List.headD, List.tail, List.getD, List.getElem?_cons_zero, List.getElem?_cons_succ, Option.getD_some, cond_true, cond_false]
     rw [e0, e1]
     go_simp
   · rintro L s X hu hd hn ⟨hB, hS, g0, g1, g2, g3, g4, g5⟩ K hK
     have hb := hB hu
     have e4 := g4 hd.2.2.2.2.1
     have e5 := g5 hd.2.2.2.2.2
     obtain ⟨p2, p3⟩ := Kd.R_celln 0 (HX6.out.step hb).nam i c2 c3
     refine skip_ (w1 := X.setCell ⟨r, i.toNat, none⟩ (.int .i64 m)) (by rfl) rfl ?_ (hK undef _ ⟨fun h => absurd h (by simp [riUp]), fun _ => ⟨X, hb, rfl⟩, g0, g1, g2, g3, g4, g5⟩)
     simp only [riFill, riGo, riCell, riFind, riMem, riNth, Nat.reduceBEq, Nat.reduceAdd, List.headD, List.tail, List.getD, List.getElem?_cons_zero, List.getElem?_cons_succ, Option.getD_some, cond_true, cond_false]
     rw [e4, e5]
     go_simp
   · rintro L s X hL ⟨hB, hS, g0, g1, g2, g3, g4, g5⟩
     obtain ⟨X', hb, rfl⟩ := hS (hL 6 rfl)
     have HX7 := zA ((HX6.out.step hb).setn i m)
     have HF7 := zA ((HF6.out.step hb).setn i.toNat (.int .i64 m))
     have hgr : g ≠ r := by have := HGE.out; omega
     have HG7 := zA (blk_far (blk_below HG.out hb) (fun e => hgr (by simpa using e)) (p := ⟨r, i.toNat, none⟩) (.int .i64 m))
     have e4 := g4 (hL 4 rfl)
     have e5 := g5 (hL 5 rfl)
     clear hB hS g0 g1 g2 g3 g4 g5 hb
     simp only [riFill, riGo, riCell, riFind, riMem, riNth, Nat.reduceBEq, Nat.reduceAdd, List.headD, List.tail, List.getD, List.getElem?_cons_zero, List.getElem?_cons_succ, Option.getD_some, cond_true, cond_false]
     rw [e4, e5]
     clear e4 e5
     generalize X'.setCell ⟨r, i.toNat, none⟩ (.int .i64 m) = X at HX7 HF7 HG7 ⊢
     have q1 := blk_cell HX7.out.bn 0
     obtain ⟨p2, p3⟩ := Kd.R_celln 0 HX7.out.nam i c2 c3
     have hv : rdOf 0 (su.2.set i.toNat m) i = m := by
       have := HLEN.out
       unfold rdOf
       rw [List.getD_eq_getElem?_getD, List.getElem?_set_self (by omega), Option.getD_some]
     rw [show ((su.1, su.2.set i.toNat m) : List S72 × List Int).2 = su.2.set i.toNat m from rfl, hv] at p2
     clear hv
     by_cases hm : m < 0
     rotate_left
     · have d3 : decide (m < 0) = false := zdf hm
       have hs' := HS'.out
       rw [if_neg hm] at hs'
       subst hs'
       clear hm HS'
       go_wp2_with fail
       first | go_end0 | ((try simp only [Exit.inBlock, Exit.then]); refine bodyPost_ret (results_none rfl _ _ _) rfl ?_)
       exact ⟨rfl, vu, HX7.out, HF7.out⟩
     have d3 : decide (m < 0) = true := zdt hm
     have hs' := HS'.out
     rw [if_pos hm] at hs'
     have HS2 := zA hs'
     clear hm HS' hs'
     have HSZ := zA (show (X.setCell ⟨r, i.toNat, none⟩ (.int .i64 su.1.length)).heap.size = X.heap.size by simp)
     have q2 := blk_cell HX7.out.bo 0
     rw [EO.out] at q2
     have hX8 := HX7.out.setn i su.1.length
     rw [show (((su.1, su.2.set i.toNat m) : List S72 × List Int).1, (((su.1, su.2.set i.toNat m) : List S72 × List Int).2).set i.toNat (su.1.length : Int)) = (su.1, su.2.set i.toNat su.1.length) from by simp only [List.set_set]] at hX8
     have t0 := blk_cell hX8.bo 0
     rw [EO.out] at t0
     have hg8 := blk_far HG7.out (fun e => hgr (by simpa using e)) (p := ⟨r, i.toNat, none⟩) (.int .i64 su.1.length)
     have y0 : (X.setCell ⟨r, i.toNat, none⟩ (.int .i64 su.1.length)).cell? ⟨g, 0, none⟩ = some (.string n0) := blk_cell hg8 0
     have y1 : (X.setCell ⟨r, i.toNat, none⟩ (.int .i64 su.1.length)).cell? ⟨g, 1, none⟩ = some (.int .i64 n1) := blk_cell hg8 1
     have y2 : (X.setCell ⟨r, i.toNat, none⟩ (.int .i64 su.1.length)).cell? ⟨g, 2, none⟩ = some (.int .i64 n2) := blk_cell hg8 2
     have y3 : (X.setCell ⟨r, i.toNat, none⟩ (.int .i64 su.1.length)).cell? ⟨g, 3, none⟩ = some (.int .i64 n3) := blk_cell hg8 3
     have HX8 := zA hX8
     have HF8 := zA (HF7.out.setn i.toNat (.int .i64 su.1.length))
     clear hX8 hg8
     go_wp2_with ((with_reducible refine gate_builtin (b := .append) (xs := #[.tmp 50, .tmp 52]) rfl ?_); at_builtin; refine Kd.R_append k72 (w0 := w0) w0.heap.size rfl (.tmp 50) (.tmp 52) 24 72 (.agg #[(.string ⟨#[]⟩), (.int .i64 0), (.int .i64 0), (.int .i64 0)]) 40 rfl Try.underlying24 info72 rfl (by decide) (by omega) (.slice Ao su.1.length co) su.1 (⟨n0, n1, n2, n3⟩ : S72) [.string n0, .int .i64 n1, .int .i64 n2, .int .i64 n3] (fun k => k ≠ gn ∧ k ≠ ge ∧ k ≠ gw ∧ k ≠ go ∧ k ≠ r) (fun _ => False) rfl ?aX (k72_mkM _ _ _ (⟨n0, n1, n2, n3⟩ : S72)) (fun _ hk => hk.elim) ?aF ?aO ?aB ?aS ?aL ?_; (case aX => exact congrArg (fun n => Value.slice (some ⟨n, 0, none⟩) 1 1) HSZ.out.symm); (case aO => have := HX8.out.out; rw [EO.out] at this; exact this); (case aB => exact HX8.out.below); (case aS => exact HX8.out.below.size); (case aF => (have a1 := blk_lt HX8.out.bn; have a2 := blk_lt HX8.out.be; have a3 := blk_lt HX8.out.bw; have a4 := blk_lt HX8.out.bo; have a5 := Kd.R_lt HX8.out.nam r rfl; exact fun k hk => ⟨by omega, by omega, by omega, by omega, by omega⟩)); (case aL => omega); intro v1 w10 ho hb hg hat; obtain ⟨A1, c1', e1⟩ := Kd.R_slice ho; rw [List.length_append, List.length_singleton] at e1; subst e1; have t1 : w10.heap[go]? = _ := (hg.block go (blk_lt HX8.out.bo) (fun e => (HX8.out.out.1 go (by rw [EO.out]; exact e.symm)).2.2.2.1 rfl)).trans HX8.out.bo; have HX9 := zA (HX8.out.append HF.out ho hb (by rw [EO.out]; exact hg)); have HF9 := zA (HF8.out.append (by rw [EO.out]; exact hg) (by rw [EO.out]; exact hat)); have t2 := blk_cell t1 0; have t3 := blk_frozen t1 0; clear t1 ho hb hg hat)
     first | go_end0 | ((try simp only [Exit.inBlock, Exit.then]); refine bodyPost_ret (results_none rfl _ _ _) rfl ?_)
     rw [← HS2.out]
     exact ⟨rfl, _, HX9.out, HF9.out⟩
theorem shNil (w : World) (base : Nat) (h : base ≤ w.heap.size) : Kd.R k72 72 (w.alloc (.cells #[] 72)) base (fun k => k = w.heap.size) (.slice (some ⟨w.heap.size, 0, none⟩) 0 0) [] :=
 ⟨fun k hk => by simpa [Value.ownBlock] using hk.symm, [], by have := World.ownsRow_lit (base := base) (e := 72) (size := k72.sz) w #[] 0 h (by simp [maxLen]) (by simp); simpa using this, Reps.none _ _⟩
def impl_share.f (k : Nat) (l0 : List S72) : Option (List S72) := if 0 < l0.length ∧ l0.length ≤ 1048576 then (slices_Repeat_int_int.f [-1] l0.length).bind fun names => if names.length = l0.length then (shW k l0 k ((l0.length : Int) - 1) ([], names)).bind fun s => some s.1 else none else none
set_option maxHeartbeats 4000000 in
set_option maxRecDepth 100000 in
theorem impl_share.calls (k : Nat) (A0 : Option Addr) (c0 : Nat) (l0 : List S72) (r : List S72) (w : World) (hr0 : Kd.C k72 w A0 l0.length l0) (hc0 : l0.length ≤ c0) (h : impl_share.f k l0 = some r) :
   Calls Try.prog 101 #[.slice A0 l0.length c0] w fun e w' => ∃ v0_ : Value, e = .returned (v0_) ∧ Kd.R k72 72 w' w.heap.size (fun _ => True) v0_ r ∧ Below w.heap.size w w' := by
 unfold impl_share.f at h
 by_cases hl : 0 < l0.length ∧ l0.length ≤ 1048576
 rotate_left
 · rw [if_neg hl] at h
   cases h
 rw [if_pos hl] at h
 obtain ⟨names, hn, h⟩ := Option.bind_eq_some_iff.1 h
 by_cases hnl : names.length = l0.length
 rotate_left
 · rw [if_neg hnl] at h
   cases h
 rw [if_pos hnl] at h
 obtain ⟨s, hs, h⟩ := Option.bind_eq_some_iff.1 h
 obtain rfl := zsi h
 have HN := zA hn
 have HNL := zA hnl
 have HS := zA hs
 have HR := zA hr0
 have HC := zA hc0
 clear h hn hnl hs hr0 hc0
 go_enter Try.func101, Try.ntmps101
 have hc1 : ∀ V : World, V.heap[w.heap.size + 1 + 1]? = some (.cells #[.int .i64 (-1)] 3 (0, 0)) → (Kd.int .i64).C V (some ⟨w.heap.size + 1 + 1, 0, none⟩) [(-1 : Int)].length [-1] := fun V hV => box_C (d := Kd.int .i64) hV (cs := [.int .i64 (-1)]) rfl rfl
 have HC1 := zA hc1
 clear hc1
 go_wp2_with (go_at_call 149; refine (slices_Repeat_int_int.calls (some ⟨w.heap.size + 1 + 1, 0, none⟩) 1 [-1] l0.length names _ (HC1.out _ ?s1) (zlr _) HN.out).mono ?_; (case s1 => simpa using blk_new ((w.alloc (Obj.cells #[Value.slice A0 l0.length c0] 24)).alloc (Obj.cells #[] 72)) (Obj.cells #[Value.int IntKind.i64 (-1)] 3)); rintro e w4 ⟨v4, rfl, hv4, hb4⟩; obtain ⟨r, cr, e4, hrb, _⟩ := Kd.R_form hv4 (by rw [HNL.out]; exact hl.1); rw [HNL.out] at e4; subst e4; have HRB := zA hrb; clear hrb; have be := blk_below (zka (zka (blk_new w (.cells #[.slice A0 l0.length c0] 24)) (.cells #[] 72)) (.cells #[.int .i64 (-1)] 3)) hb4; have BE := zA be; have qf : (((w4.alloc (.cells #[.slice (some ⟨w.heap.size + 1, 0, none⟩) 0 0] 24)).alloc (.cells #[.slice (some ⟨r, 0, none⟩) l0.length cr] 51)).alloc (.cells #[Value.func (.func 150) #[] #[.pointer (some ⟨w4.heap.size + 1, 0, none⟩), .pointer (some ⟨w.heap.size, 0, none⟩), .pointer (some ⟨w4.heap.size + 1 + 1, 0, none⟩), .pointer (some ⟨w4.heap.size, 0, none⟩)]] 152)).cell? ⟨w.heap.size, 0, none⟩ = some (.slice A0 l0.length c0) := blk_cell (zka (zka (zka be _) _) _) 0; clear be; have HV4 := zA hv4; have HB4 := zA hb4; clear hv4 hb4)
 have hle4 := HB4.out.size
 have hX : ShX w A0 c0 l0 (w4.heap.size + 1) w.heap.size (w4.heap.size + 1 + 1) w4.heap.size r cr ([], names) (.slice (some ⟨w.heap.size + 1, 0, none⟩) 0 0) (((w4.alloc (.cells #[.slice (some ⟨w.heap.size + 1, 0, none⟩) 0 0] 24)).alloc (.cells #[.slice (some ⟨r, 0, none⟩) l0.length cr] 51)).alloc (.cells #[Value.func (.func 150) #[] #[.pointer (some ⟨w4.heap.size + 1, 0, none⟩), .pointer (some ⟨w.heap.size, 0, none⟩), .pointer (some ⟨w4.heap.size + 1 + 1, 0, none⟩), .pointer (some ⟨w4.heap.size, 0, none⟩)]] 152)) := by
   have hrb := HRB.out
   have hs3 : ((((w.alloc (.cells #[.slice A0 l0.length c0] 24)).alloc (.cells #[] 72)).alloc (.cells #[.int .i64 (-1)] 3))).heap.size = w.heap.size + 1 + 1 + 1 := by simp
   rw [hs3] at hrb hle4
   have hlt := Kd.R_lt HV4.out r rfl
   have b2 := blk_new (w4.alloc (.cells #[.slice (some ⟨w.heap.size + 1, 0, none⟩) 0 0] 24)) (.cells #[.slice (some ⟨r, 0, none⟩) l0.length cr] 51)
   have b3 := blk_new ((w4.alloc (.cells #[.slice (some ⟨w.heap.size + 1, 0, none⟩) 0 0] 24)).alloc (.cells #[.slice (some ⟨r, 0, none⟩) l0.length cr] 51)) (.cells #[Value.func (.func 150) #[] #[.pointer (some ⟨w4.heap.size + 1, 0, none⟩), .pointer (some ⟨w.heap.size, 0, none⟩), .pointer (some ⟨w4.heap.size + 1 + 1, 0, none⟩), .pointer (some ⟨w4.heap.size, 0, none⟩)]] 152)
   have h2 : (w4.alloc (.cells #[.slice (some ⟨w.heap.size + 1, 0, none⟩) 0 0] 24)).heap.size = w4.heap.size + 1 := by simp
   have h3 : ((w4.alloc (.cells #[.slice (some ⟨w.heap.size + 1, 0, none⟩) 0 0] 24)).alloc (.cells #[.slice (some ⟨r, 0, none⟩) l0.length cr] 51)).heap.size = w4.heap.size + 1 + 1 := by simp
   rw [h2] at b2
   rw [h3] at b3
   have hN := shNil (w.alloc (.cells #[.slice A0 l0.length c0] 24)) w.heap.size (by simp)
   have h1 : (w.alloc (.cells #[.slice A0 l0.length c0] 24)).heap.size = w.heap.size + 1 := by simp
   rw [h1] at hN
   refine ⟨zba (zba (zba (below_step (zba (zba (zba (Below.refl _ _) _) _) _) HB4.out) _) _) _, zka b2 _, zka (zka (zka BE.out _) _) _, b3, zka (zka (blk_new w4 _) _) _, ?_, ⟨by omega, by omega, by omega, by omega⟩, ?_⟩
   · exact zRa (zRa (zRa (zRb (zRa (Kd.R_mono hN (fun k hk => ⟨by omega, by omega, by omega, by omega, by omega⟩)) _) HB4.out) _) _) _
   · have hv := HV4.out
     have hnl := HNL.out
     rw [← hnl] at hv
     exact zRa (zRa (zRa (Kd.R_lower (by rw [← hnl]; exact Kd.R_of_own (Kd.own_of_R hv) (fun k hk => by simpa [Value.ownBlock] using hk.symm)) (by simp only [World.size_alloc]; omega)) _) _) _
 have HX := zA hX
 clear hX hle4
 refine (shWalk k (go := w4.heap.size) (gn := w4.heap.size + 1) (ge := w.heap.size) (gw := w4.heap.size + 1 + 1) ⟨by have := HB4.out.size; simp at this; omega, by omega, by have := HB4.out.size; simp at this; omega, by omega⟩ HR.out HC.out k _ _ s _ _ HX.out HS.out).mono ?_
 rintro x w7 ⟨rfl, vo, hX7, hF7⟩
 have q7 := blk_cell hX7.bo 0
 obtain ⟨A7, c7, e7⟩ := Kd.R_slice hX7.out
 rw [e7] at q7
 have E7 := zA e7
 have HX7 := zA hX7
 clear hX7 hF7 e7
 go_wp2_with fail
 go_ret
 exact ⟨_, rfl, by have := HX7.out.out; rw [E7.out] at this; exact Kd.R_mono this (fun _ _ => trivial), HX7.out.below⟩
theorem shL_mono (g g' : Int → List S72 × List Int → Option (List S72 × List Int)) (h : ∀ x s, LeO (g x s) (g' x s)) : ∀ ks s, LeO (shL g ks s) (shL g' ks s)
 | [], _ => LeO.refl _
 | x :: xs, s => LeO.bind (h x s) (fun s1 => shL_mono g g' h xs s1)
theorem shPut_mono (k : Nat) (i : Int) (n : S72) (s : List S72 × List Int) : LeO (shPut k i n s) (shPut (k + 1) i n s) := by
 unfold shPut
 exact LeO.ite (LeO.bind (impl_Node_152.mono _ _ _ _ _ _) (fun _ => LeO.refl _)) (LeO.refl _)
theorem shW_mono (k : Nat) (e : List S72) : ∀ (d : Nat) (i : Int) (s : List S72 × List Int), LeO (shW k e d i s) (shW (k + 1) e (d + 1) i s)
 | 0, _, _ => LeO.none _
 | d + 1, i, s => by
   unfold shW
   exact LeO.ite (LeO.ite (LeO.refl _) (LeO.bind (impl_Node_of.mono _ _ _ _ _) (fun ks => LeO.ite (LeO.bind (shL_mono _ _ (shW_mono k e d) _ _) (fun s1 => LeO.bind (impl_Node_renamed.mono _ _ _ _ _ _) (fun n => shPut_mono _ _ _ _))) (LeO.refl _)))) (LeO.refl _)
theorem impl_share.mono : ∀ a0 k, LeO (impl_share.f k a0) (impl_share.f (k + 1) a0) := by
 intro a0 k
 unfold impl_share.f
 exact LeO.ite (LeO.bind (LeO.refl _) (fun _ => LeO.ite (LeO.bind (shW_mono _ _ _ _ _) (fun _ => LeO.refl _)) (LeO.refl _))) (LeO.refl _)
end Go.Proofs.Ytkfkbmlbpeojaaa.Q
end
section
namespace Go.Proofs.Ytkfkbmlbpeojaaa.Q
open Go.RowKit Go.Proofs.YtkfkbmlbpeojaaaW.PrintWords Go.Proofs.YtkfkbmlbpeojaaaW.PrintLast Go.Proofs.YtkfkbmlbpeojaaaW.PrintMore
attribute [local go_sem] max2_int min2_int max_two min_two max_three min_three max_four min_four
set_option linter.unusedVariables false
set_option linter.unusedSimpArgs false
def ioOps : List ByteArray := ([(⟨#[97, 100, 100]⟩ : ByteArray), (⟨#[109, 117, 108]⟩ : ByteArray), (⟨#[97, 110, 100]⟩ : ByteArray), (⟨#[111, 114]⟩ : ByteArray), (⟨#[120, 111, 114]⟩ : ByteArray), (⟨#[101, 113]⟩ : ByteArray)] : List ByteArray)
theorem ioLit (V : World) : Kd.C Kd.string (V.alloc (.cells #[.string ⟨#[97, 100, 100]⟩, .string ⟨#[109, 117, 108]⟩, .string ⟨#[97, 110, 100]⟩, .string ⟨#[111, 114]⟩, .string ⟨#[120, 111, 114]⟩, .string ⟨#[101, 113]⟩] 9)) (some ⟨V.heap.size, 0, none⟩) ioOps.length ioOps := by
 have hR : Kd.R Kd.string 9 (V.alloc (.cells #[.string ⟨#[97, 100, 100]⟩, .string ⟨#[109, 117, 108]⟩, .string ⟨#[97, 110, 100]⟩, .string ⟨#[111, 114]⟩, .string ⟨#[120, 111, 114]⟩, .string ⟨#[101, 113]⟩] 9)) V.heap.size (fun _ => True) (.slice (some ⟨V.heap.size, 0, none⟩) ioOps.length ioOps.length) ioOps :=
   ⟨fun _ _ => trivial, [.string ⟨#[97, 100, 100]⟩, .string ⟨#[109, 117, 108]⟩, .string ⟨#[97, 110, 100]⟩, .string ⟨#[111, 114]⟩, .string ⟨#[120, 111, 114]⟩, .string ⟨#[101, 113]⟩], by have h2 := World.ownsRow_lit (base := V.heap.size) (e := 9) (size := 1) V #[.string ⟨#[97, 100, 100]⟩, .string ⟨#[109, 117, 108]⟩, .string ⟨#[97, 110, 100]⟩, .string ⟨#[111, 114]⟩, .string ⟨#[120, 111, 114]⟩, .string ⟨#[101, 113]⟩] 6 (zlr _) (by simp [maxLen]) (by simp); exact h2, (Reps.one (show Kd.M Kd.string _ _ _ (⟨#[97, 100, 100]⟩ : ByteArray) [.string ⟨#[97, 100, 100]⟩] from rfl) (Reps.one (show Kd.M Kd.string _ _ _ (⟨#[109, 117, 108]⟩ : ByteArray) [.string ⟨#[109, 117, 108]⟩] from rfl) (Reps.one (show Kd.M Kd.string _ _ _ (⟨#[97, 110, 100]⟩ : ByteArray) [.string ⟨#[97, 110, 100]⟩] from rfl) (Reps.one (show Kd.M Kd.string _ _ _ (⟨#[111, 114]⟩ : ByteArray) [.string ⟨#[111, 114]⟩] from rfl) (Reps.one (show Kd.M Kd.string _ _ _ (⟨#[120, 111, 114]⟩ : ByteArray) [.string ⟨#[120, 111, 114]⟩] from rfl) (Reps.one (show Kd.M Kd.string _ _ _ (⟨#[101, 113]⟩ : ByteArray) [.string ⟨#[101, 113]⟩] from rfl) (Reps.none _ _)))))))⟩
 exact (zRr hR).2.2
def ioSt (k : Nat) (out : List S72) (i : Int) : Option (List S72) := (slices_Contains_string_string.f k ioOps (rd_T72 out i).f0).bind fun t => if t = true then (impl_compareNodes.f k out (rd_T72 out i).f2 (rd_T72 out i).f1).bind fun c => some (if c < 0 then out.set i.toNat ⟨(rd_T72 out i).f0, (rd_T72 out i).f2, (rd_T72 out i).f1, (rd_T72 out i).f3⟩ else out) else some out
def ioL (k : Nat) : Nat → Nat → List S72 → Option (List S72)
 | 0, _, out => some out
 | d + 1, u, out => (ioSt k out (u : Int)).bind fun o => ioL k d (u + 1) o
theorem ioSt_len (k : Nat) (out o : List S72) (i : Int) (h : ioSt k out i = some o) : o.length = out.length := by
 unfold ioSt at h
 obtain ⟨t, _, h⟩ := Option.bind_eq_some_iff.1 h
 split at h
 · obtain ⟨c, _, h⟩ := Option.bind_eq_some_iff.1 h
   obtain rfl := zsi h
   split <;> simp
 · obtain rfl := zsi h
   rfl
def impl_inOrder.f (k : Nat) (l0 : List S72) : Option (List S72) := (impl_share.f k l0).bind fun o => if o.length < 1048576 then (ioL k o.length 0 o).bind fun o2 => impl_share.f k o2 else none
def IoC (base : Nat) (g n c3 u : Nat) : Prop := ∀ (V : World) (xs : List S72) (y : S72), Kd.R k72 72 V base (fun _ => True) (.slice (some ⟨g, 0, none⟩) n c3) xs → y = rd_T72 xs (u : Int) → ∀ (j : Nat) (v : Value), ([.string y.f0, .int .i64 y.f1, .int .i64 y.f2, .int .i64 y.f3] : List Value)[j]? = some v → V.cell? ⟨g, (u : Int).toNat * k72.sz + j, none⟩ = some v
theorem ioFz {V : World} {base g n c3 : Nat} {xs : List S72} (h : Kd.R k72 72 V base (fun _ => True) (.slice (some ⟨g, 0, none⟩) n c3) xs) (j : Nat) : V.frozen? ⟨g, j, none⟩ = false := by
 obtain ⟨inner, ho⟩ := Kd.R_own h
 obtain ⟨cells, hc⟩ := own_typed ho g rfl
 exact blk_frozen hc j
theorem ioSet {base g n c3 u : Nat} (HCC : IoC base g n c3 u) {V : World} {out : List S72} {y : S72} (hv : Kd.R k72 72 V base (fun _ => True) (.slice (some ⟨g, 0, none⟩) n c3) out) (hy : y = rd_T72 out (u : Int)) (d2 : (0 : Int) ≤ (u : Int)) (d3 : (u : Int) < n) :
   Kd.R k72 72 (V.setCell ⟨g, u * 4 + 1, none⟩ (.int .i64 y.f2)) base (fun _ => True) (.slice (some ⟨g, 0, none⟩) n c3) (out.set ((u : Nat) : Int).toNat (⟨y.f0, y.f2, y.f2, y.f3⟩ : S72)) ∧ V.grownBy (V.setCell ⟨g, u * 4 + 1, none⟩ (.int .i64 y.f2)) (some g) :=
 Kd.R_seg (d := k72) hv (u : Int) d2 d3 (c := [.string y.f0, .int .i64 y.f1, .int .i64 y.f2, .int .i64 y.f3]) (seg := [.int .i64 y.f2]) (j := 1) (okp := fun _ => False) rfl (HCC V out y hv hy) (show 1 + 1 ≤ 4 by omega) (k72_mkM _ _ _ (⟨y.f0, y.f2, y.f2, y.f3⟩ : S72)) (fun _ h => h.elim)
theorem ioSet2 {base g n c3 u : Nat} (HCC : IoC base g n c3 u) {V : World} {out : List S72} {y : S72} {a : Int} (hv : Kd.R k72 72 V base (fun _ => True) (.slice (some ⟨g, 0, none⟩) n c3) out) (hy : y = rd_T72 out (u : Int)) (d2 : (0 : Int) ≤ (u : Int)) (d3 : (u : Int) < n) :
   Kd.R k72 72 (V.setCell ⟨g, u * 4 + 2, none⟩ (.int .i64 a)) base (fun _ => True) (.slice (some ⟨g, 0, none⟩) n c3) (out.set ((u : Nat) : Int).toNat (⟨y.f0, y.f1, a, y.f3⟩ : S72)) ∧ V.grownBy (V.setCell ⟨g, u * 4 + 2, none⟩ (.int .i64 a)) (some g) :=
 Kd.R_seg (d := k72) hv (u : Int) d2 d3 (c := [.string y.f0, .int .i64 y.f1, .int .i64 y.f2, .int .i64 y.f3]) (seg := [.int .i64 a]) (j := 2) (okp := fun _ => False) rfl (HCC V out y hv hy) (show 2 + 1 ≤ 4 by omega) (k72_mkM _ _ _ (⟨y.f0, y.f1, a, y.f3⟩ : S72)) (fun _ h => h.elim)
set_option maxHeartbeats 4000000 in
set_option maxRecDepth 100000 in
theorem impl_inOrder.calls (k : Nat) (A0 : Option Addr) (c0 : Nat) (l0 : List S72) (r : List S72) (w : World) (hr0 : Kd.C k72 w A0 l0.length l0) (hc0 : l0.length ≤ c0) (h : impl_inOrder.f k l0 = some r) :
   Calls Try.prog 47 #[.slice A0 l0.length c0] w fun e w' => ∃ v0_ : Value, e = .returned (v0_) ∧ Kd.R k72 72 w' w.heap.size (fun _ => True) v0_ r ∧ Below w.heap.size w w' := by
 unfold impl_inOrder.f at h
 obtain ⟨o, ho, h⟩ := Option.bind_eq_some_iff.1 h
 by_cases hol : o.length < 1048576
 rotate_left
 · rw [if_neg hol] at h
   cases h
 rw [if_pos hol] at h
 obtain ⟨o2, ho2, h⟩ := Option.bind_eq_some_iff.1 h
 have HO1 := zA ho
 have HO2 := zA ho2
 have HH := zA h
 have HR := zA hr0
 have HC := zA hc0
 clear h ho ho2 hr0 hc0
 go_enter Try.func47, Try.ntmps47
 go_wp2_with (go_at_call 101; refine (impl_share.calls k A0 c0 l0 o _ HR.out HC.out HO1.out).mono ?_; rintro e w3 ⟨v3, rfl, hv3, hb3⟩; obtain ⟨A3, c3, rfl⟩ := Kd.R_slice hv3; have HV := zA hv3; have HB := zA hb3; clear hv3 hb3)
 go_loopw [4, 5, 10] (fun v4 v5 v10 wr => ∃ (u : Nat) (out : List S72), v10 = .int .i64 (u : Int) ∧ u ≤ o.length ∧ Aside0 (out.length = o.length) ∧ Aside0 (ioL k (o.length - u) u out = some o2) ∧ Aside0 (Below w.heap.size w wr) ∧ Aside0 (Kd.R k72 72 wr w.heap.size (fun _ => True) (.slice A3 o.length c3) out)) (fun _ _ v10 _ => o.length - (intOf v10).toNat)
 case atStart => exact ⟨0, o, rfl, Nat.zero_le _, ⟨rfl⟩, HO2, HB, HV⟩
 clear HV HB HO2
 obtain ⟨u, out, rfl, hu, HLO, HL, HB, HV⟩ := hrel
 by_cases hlt : u < o.length
 rotate_left
 · obtain rfl : u = o.length := by omega
   have d1 : decide ((o.length : Int) < o.length) = false := zdf (by omega)
   have h := HL.out
   rw [Nat.sub_self] at h
   obtain rfl := zsi h
   clear h HL
   have hv := HV.out
   have hlen := HLO.out
   rw [← hlen] at hv
   have hrd := zRr hv
   have HRD := zA hrd
   clear hv hrd hlen
   go_wp2_with (go_at_call 101; rw [← HLO.out]; refine (impl_share.calls k A3 c3 out r _ HRD.out.2.2 HRD.out.2.1 HH.out).mono ?_; rintro e w6 ⟨v6, rfl, hv6, hb6⟩; have HV6 := zA hv6; have HB6 := zA hb6; clear hv6 hb6)
   go_ret
   exact ⟨_, rfl, Kd.R_lower HV6.out HB.out.size, below_step HB.out HB6.out⟩
 have d1 : decide ((u : Int) < o.length) = true := zdt (by omega)
 have d2 : (0 : Int) ≤ (u : Int) := by omega
 have d3 : (u : Int) < o.length := by omega
 obtain ⟨g, cp, e, hgb, hgl, _⟩ := Kd.R_form HV.out (by rw [HLO.out]; omega)
 injection e with e1 e2 e3
 subst e1
 clear e2 e3
 obtain ⟨ad, eA, x0, x1, x2, x3⟩ := at_T72 (zRr HV.out).2.2 (u : Int) d2 (by rw [HLO.out]; omega)
 cases eA
 have h := HL.out
 rw [show o.length - u = (o.length - (u + 1)) + 1 by omega] at h
 simp only [ioL] at h
 obtain ⟨o', ho', h⟩ := Option.bind_eq_some_iff.1 h
 have HL' := zA h
 have hlo := ioSt_len _ _ _ _ ho'
 have HLO' := zA (hlo.trans HLO.out)
 unfold ioSt at ho'
 obtain ⟨t, ht, ho'⟩ := Option.bind_eq_some_iff.1 ho'
 have HT := zA ht
 clear ht h hlo HL
 rw [Int.toNat_natCast] at x0 x1 x2 x3
 simp only [add_plain, Nat.zero_add] at x0 x1 x2 x3
 obtain ⟨n, hn⟩ : ∃ n, n = rd_T72 out (u : Int) := ⟨_, rfl⟩
 rw [← hn] at x0 x1 x2 x3 HT ho'
 have HNN := zA hn
 clear hn
 cases hto : t with
 | false =>
   rw [hto] at ho' HT
   rw [if_neg (by decide)] at ho'
   obtain rfl := zsi ho'
   clear ho' hto
   go_wp2_with (go_at_call 102; refine (slices_Contains_string_string.calls k (some ⟨wr.heap.size + 1, 0, none⟩) 6 ioOps n.f0 false _ (by have hq := ioLit (wr.alloc (.cells #[.string n.f0, .int .i64 n.f1, .int .i64 n.f2, .int .i64 n.f3] 72)); rw [World.size_alloc] at hq; exact hq) (zlr _) HT.out).mono ?_; rintro e w5 ⟨rfl, hd⟩; obtain ⟨nd, rfl⟩ := hd.out; have hb5 := zbn (zba (Below.refl (wr.alloc (.cells #[.string n.f0, .int .i64 n.f1, .int .i64 n.f2, .int .i64 n.f3] 72)).heap.size (wr.alloc (.cells #[.string n.f0, .int .i64 n.f1, .int .i64 n.f2, .int .i64 n.f3] 72))) (.cells #[.string ⟨#[97, 100, 100]⟩, .string ⟨#[109, 117, 108]⟩, .string ⟨#[97, 110, 100]⟩, .string ⟨#[111, 114]⟩, .string ⟨#[120, 111, 114]⟩, .string ⟨#[101, 113]⟩] 9)) nd; have HB5 := zA hb5; clear hb5)
   go_roundw
   case rel => exact ⟨u + 1, out, by go_num, by omega, HLO, HL', ⟨below_step (zba HB.out _) HB5.out⟩, ⟨zRb (zRa HV.out _) HB5.out⟩⟩
   case measure => simp [intOf]; omega
 | true =>
   rw [hto] at ho' HT
   rw [if_pos rfl] at ho'
   obtain ⟨c, hc, ho'⟩ := Option.bind_eq_some_iff.1 ho'
   have HO' := zA (zsi ho')
   have HKC := zA (show ∀ V, Kd.R k72 72 V w.heap.size (fun _ => True) (.slice (some ⟨g, 0, none⟩) o.length c3) out → Calls Try.prog 103 #[.slice (some ⟨g, 0, none⟩) o.length c3, .int .i64 n.f2, .int .i64 n.f1] V (fun e w' => e = .returned (.int .i64 c) ∧ Below V.heap.size V w') from fun V hV => by
     have hlen := HLO.out
     rw [← hlen] at hV ⊢
     have hr := zRr hV
     exact impl_compareNodes.calls k (some ⟨g, 0, none⟩) c3 out n.f2 n.f1 c V hr.2.2 hr.2.1 hc)
   have HGN := zA (show g ≠ wr.heap.size by omega)
   have HCC := zA (show IoC w.heap.size g o.length c3 u from fun V xs y hV hy j v hj => by
     have hr := zRr hV
     obtain ⟨ad, cc, ea, _, hK, hc0⟩ := Kd.C_get hr.2.2 z72 (u : Int) d2 (by have := hr.1; omega)
     cases ea
     have := hc0 j v (by rw [k72_open hK]; rw [hy] at hj; exact hj)
     rw [add_plain] at this
     exact this)
   clear ho' hc hto
   by_cases hc0 : c < 0
   rotate_left
   · have d4 : decide (c < 0) = false := zdf hc0
     have hoo := HO'.out
     rw [if_neg hc0] at hoo
     have HOO := zA hoo
     clear hoo hc0
     go_wp2_with (first | (go_at_call 102; refine (slices_Contains_string_string.calls k (some ⟨wr.heap.size + 1, 0, none⟩) 6 ioOps n.f0 true _ (by have hq := ioLit (wr.alloc (.cells #[.string n.f0, .int .i64 n.f1, .int .i64 n.f2, .int .i64 n.f3] 72)); rw [World.size_alloc] at hq; exact hq) (zlr _) HT.out).mono ?_; rintro e w5 ⟨rfl, hd⟩; obtain ⟨nd, rfl⟩ := hd.out; have hb5 := zbn (zba (Below.refl (wr.alloc (.cells #[.string n.f0, .int .i64 n.f1, .int .i64 n.f2, .int .i64 n.f3] 72)).heap.size (wr.alloc (.cells #[.string n.f0, .int .i64 n.f1, .int .i64 n.f2, .int .i64 n.f3] 72))) (.cells #[.string ⟨#[97, 100, 100]⟩, .string ⟨#[109, 117, 108]⟩, .string ⟨#[97, 110, 100]⟩, .string ⟨#[111, 114]⟩, .string ⟨#[120, 111, 114]⟩, .string ⟨#[101, 113]⟩] 9)) nd; have hbx := blk_below (blk_new wr (.cells #[.string n.f0, .int .i64 n.f1, .int .i64 n.f2, .int .i64 n.f3] 72)) hb5; have HBX := zA hbx; have z0 := blk_cell hbx 0; have z1 := blk_cell hbx 1; have z2 := blk_cell hbx 2; have z3 := blk_cell hbx 3; have HB5 := zA (below_step (zba HB.out _) hb5); have HV5 := zA (zRb (zRa HV.out _) hb5); clear hb5 hbx) | (go_at_call 103; refine (HKC.out _ HV5.out).mono ?_; rintro e w6 ⟨rfl, hb6⟩; have hbx := blk_below HBX.out hb6; have HBX6 := zA hbx; clear z0 z1 z2 z3; have z0 := blk_cell hbx 0; have z1 := blk_cell hbx 1; have z2 := blk_cell hbx 2; have z3 := blk_cell hbx 3; have HB6 := zA (below_step HB5.out hb6); have HV6 := zA (zRb HV5.out hb6); clear hb6 hbx))
     go_roundw
     case rel => exact ⟨u + 1, o', by go_num, by omega, HLO', HL', HB6, ⟨by rw [← HOO.out]; exact HV6.out⟩⟩
     case measure => simp [intOf]; omega
   have d4 : decide (c < 0) = true := zdt hc0
   have hoo := HO'.out
   rw [if_pos hc0] at hoo
   have HOO := zA hoo
   have HN2 := zA (show (⟨n.f0, n.f2, n.f2, n.f3⟩ : S72) = rd_T72 (out.set ((u : Nat) : Int).toNat (⟨n.f0, n.f2, n.f2, n.f3⟩ : S72)) (u : Int) by
     have := HLO.out
     unfold rd_T72
     rw [List.getD_eq_getElem?_getD, List.getElem?_set_self (by rw [Int.toNat_natCast]; omega)]
     rfl)
   clear hoo hc0
   go_wp2_with (first | (go_at_call 102; refine (slices_Contains_string_string.calls k (some ⟨wr.heap.size + 1, 0, none⟩) 6 ioOps n.f0 true _ (by have hq := ioLit (wr.alloc (.cells #[.string n.f0, .int .i64 n.f1, .int .i64 n.f2, .int .i64 n.f3] 72)); rw [World.size_alloc] at hq; exact hq) (zlr _) HT.out).mono ?_; rintro e w5 ⟨rfl, hd⟩; obtain ⟨nd, rfl⟩ := hd.out; have hb5 := zbn (zba (Below.refl (wr.alloc (.cells #[.string n.f0, .int .i64 n.f1, .int .i64 n.f2, .int .i64 n.f3] 72)).heap.size (wr.alloc (.cells #[.string n.f0, .int .i64 n.f1, .int .i64 n.f2, .int .i64 n.f3] 72))) (.cells #[.string ⟨#[97, 100, 100]⟩, .string ⟨#[109, 117, 108]⟩, .string ⟨#[97, 110, 100]⟩, .string ⟨#[111, 114]⟩, .string ⟨#[120, 111, 114]⟩, .string ⟨#[101, 113]⟩] 9)) nd; have hbx := blk_below (blk_new wr (.cells #[.string n.f0, .int .i64 n.f1, .int .i64 n.f2, .int .i64 n.f3] 72)) hb5; have HBX := zA hbx; have z0 := blk_cell hbx 0; have z1 := blk_cell hbx 1; have z2 := blk_cell hbx 2; have z3 := blk_cell hbx 3; have HB5 := zA (below_step (zba HB.out _) hb5); have HV5 := zA (zRb (zRa HV.out _) hb5); clear hb5 hbx) | (go_at_call 103; refine (HKC.out _ HV5.out).mono ?_; rintro e w6 ⟨rfl, hb6⟩; have hbx := blk_below HBX.out hb6; have HBX6 := zA hbx; clear z0 z1 z2 z3; have z0 := blk_cell hbx 0; have z1 := blk_cell hbx 1; have z2 := blk_cell hbx 2; have z3 := blk_cell hbx 3; have HB6 := zA (below_step HB5.out hb6); have HV6 := zA (zRb HV5.out hb6); clear hb6 hbx))
   refine ri_region [[], [], [], [], [], [4], [], [6], [0, 1, 4, 5], [0, 1, 4, 5, 8], [0, 1, 4, 5, 8, 9], [0, 1, 2, 3, 4, 5, 6, 7, 8, 9, 10], [0, 1, 2, 3, 4, 5, 6, 7, 8, 9, 10, 11], [0, 1, 2, 3, 4, 5, 6, 7, 8, 9, 10, 11, 12]] [[8, 9, 10, 11, 12, 13], [8, 9, 10, 11, 12, 13], [11, 12, 13], [11, 12, 13], [5, 8, 9, 10, 11, 12, 13], [8, 9, 10, 11, 12, 13], [7, 11, 12, 13], [11, 12, 13], [9, 10, 11, 12, 13], [10, 11, 12, 13], [11, 12, 13], [12, 13], [13], []]
     (fun L s_ V => (L 10 = false → Below w6.heap.size w6 V) ∧ (L 10 = true → L 13 = false → ∃ V0, Below w6.heap.size w6 V0 ∧ V = V0.setCell ⟨g, u * 4 + 1, none⟩ (.int .i64 n.f2)) ∧ (L 13 = true → ∃ V0, Below w6.heap.size w6 V0 ∧ V = (V0.setCell ⟨g, u * 4 + 1, none⟩ (.int .i64 n.f2)).setCell ⟨g, u * 4 + 2, none⟩ (.int .i64 n.f1)) ∧ (L 0 = true → s_ 0 = .slice (some ⟨g, 0, none⟩) o.length c3) ∧ (L 1 = true → s_ 1 = .int .i64 u) ∧ (L 2 = true → s_ 2 = .slice (some ⟨g, 0, none⟩) o.length c3) ∧ (L 3 = true → s_ 3 = .int .i64 u) ∧ (L 4 = true → s_ 4 = .pointer (some ⟨wr.heap.size, 2, none⟩)) ∧ (L 5 = true → s_ 5 = .int .i64 n.f2) ∧ (L 6 = true → s_ 6 = .pointer (some ⟨wr.heap.size, 1, none⟩)) ∧ (L 7 = true → s_ 7 = .int .i64 n.f1) ∧ (L 8 = true → s_ 8 = .pointer (some ⟨g, u * 4, none⟩)) ∧ (L 9 = true → s_ 9 = .pointer (some ⟨g, u * 4 + 1, none⟩)) ∧ (L 11 = true → s_ 11 = .pointer (some ⟨g, u * 4, none⟩)) ∧ (L 12 = true → s_ 12 = .pointer (some ⟨g, u * 4 + 2, none⟩)))
     rfl (fun _ _ _ _ _ h => h) (by kernel_rfl) ?_ ⟨?_, ?_, ?_, ?_, ?_, ?_, ?_, ?_, ?_, ?_, ?_, ?_, ?_, ?_, trivial⟩ ?_
   · exact ⟨fun _ => below_drew (Below.refl _ _), (fun h => Bool.noConfusion h), (fun h => Bool.noConfusion h), (fun h => Bool.noConfusion h), (fun h => Bool.noConfusion h), (fun h => Bool.noConfusion h), (fun h => Bool.noConfusion h), (fun h => Bool.noConfusion h), (fun h => Bool.noConfusion h), (fun h => Bool.noConfusion h), (fun h => Bool.noConfusion h), (fun h => Bool.noConfusion h), (fun h => Bool.noConfusion h), (fun h => Bool.noConfusion h), (fun h => Bool.noConfusion h)⟩
   · rintro L s_ V hu hd hn ⟨hB, hA, hS, g0, g1, g2, g3, g4, g5, g6, g7, g8, g9, g11, g12⟩ K hK
     refine value_ (N := some 28) (v := .slice (some ⟨g, 0, none⟩) o.length c3) (w1 := V) (by rfl) rfl ?_ (hK _ _ ⟨hB, hA, hS, fun _ => rfl, g1, g2, g3, g4, g5, g6, g7, g8, g9, g11, g12⟩)
     simp only [riFill, riGo, riCell, riFind, riMem, riNth, Nat.reduceBEq, Nat.reduceAdd, List.headD, List.tail, List.getD, List.getElem?_cons_zero, List.getElem?_cons_succ, Option.getD_some, cond_true, cond_false]
     go_simp
   · rintro L s_ V hu hd hn ⟨hB, hA, hS, g0, g1, g2, g3, g4, g5, g6, g7, g8, g9, g11, g12⟩ K hK
     refine value_ (N := some 29) (v := .int .i64 u) (w1 := V) (by rfl) rfl ?_ (hK _ _ ⟨hB, hA, hS, g0, fun _ => rfl, g2, g3, g4, g5, g6, g7, g8, g9, g11, g12⟩)
     simp only [riFill, riGo, riCell, riFind, riMem, riNth, Nat.reduceBEq, Nat.reduceAdd, List.headD, List.tail, List.getD, List.getElem?_cons_zero, List.getElem?_cons_succ, Option.getD_some, cond_true, cond_false]
     go_simp
   · rintro L s_ V hu hd hn ⟨hB, hA, hS, g0, g1, g2, g3, g4, g5, g6, g7, g8, g9, g11, g12⟩ K hK
     refine value_ (N := some 30) (v := .slice (some ⟨g, 0, none⟩) o.length c3) (w1 := V) (by rfl) rfl ?_ (hK _ _ ⟨hB, hA, hS, g0, g1, fun _ => rfl, g3, g4, g5, g6, g7, g8, g9, g11, g12⟩)
     simp only [riFill, riGo, riCell, riFind, riMem, riNth, Nat.reduceBEq, Nat.reduceAdd, List.headD, List.tail, List.getD, List.getElem?_cons_zero, List.getElem?_cons_succ, Option.getD_some, cond_true, cond_false]
     go_simp
   · rintro L s_ V hu hd hn ⟨hB, hA, hS, g0, g1, g2, g3, g4, g5, g6, g7, g8, g9, g11, g12⟩ K hK
     refine value_ (N := some 31) (v := .int .i64 u) (w1 := V) (by rfl) rfl ?_ (hK _ _ ⟨hB, hA, hS, g0, g1, g2, fun _ => rfl, g4, g5, g6, g7, g8, g9, g11, g12⟩)
     simp only [riFill, riGo, riCell, riFind, riMem, riNth, Nat.reduceBEq, Nat.reduceAdd, List.headD, List.tail, List.getD, List.getElem?_cons_zero, List.getElem?_cons_succ, Option.getD_some, cond_true, cond_false]
     go_simp
   · rintro L s_ V hu hd hn ⟨hB, hA, hS, g0, g1, g2, g3, g4, g5, g6, g7, g8, g9, g11, g12⟩ K hK
     refine value_ (N := some 32) (v := .pointer (some ⟨wr.heap.size, 2, none⟩)) (w1 := V) (by rfl) rfl ?_ (hK _ _ ⟨hB, hA, hS, g0, g1, g2, g3, fun _ => rfl, g5, g6, g7, g8, g9, g11, g12⟩)
     simp only [riFill, riGo, riCell, riFind, riMem, riNth, Nat.reduceBEq, Nat.reduceAdd, List.headD, List.tail, List.getD, List.getElem?_cons_zero, List.getElem?_cons_succ, Option.getD_some, cond_true, cond_false]
     go_simp
   · rintro L s_ V hu hd hn ⟨hB, hA, hS, g0, g1, g2, g3, g4, g5, g6, g7, g8, g9, g11, g12⟩ K hK
     have e4 := g4 hd
     have z := blk_cell (blk_below HBX6.out (hB hn.2.2.1)) 2
     refine value_ (N := some 33) (v := .int .i64 n.f2) (w1 := V) (by rfl) rfl ?_ (hK _ _ ⟨hB, hA, hS, g0, g1, g2, g3, g4, fun _ => rfl, g6, g7, g8, g9, g11, g12⟩)
     simp only [riFill, riGo, riCell, riFind, riMem, riNth, Nat.reduceBEq, Nat.reduceAdd, List.headD, List.tail, List.getD, List.getElem?_cons_zero, List.getElem?_cons_succ, Option.getD_some, cond_true, cond_false]
     rw [e4]
     go_simp
   · rintro L s_ V hu hd hn ⟨hB, hA, hS, g0, g1, g2, g3, g4, g5, g6, g7, g8, g9, g11, g12⟩ K hK
     refine value_ (N := some 34) (v := .pointer (some ⟨wr.heap.size, 1, none⟩)) (w1 := V) (by rfl) rfl ?_ (hK _ _ ⟨hB, hA, hS, g0, g1, g2, g3, g4, g5, fun _ => rfl, g7, g8, g9, g11, g12⟩)
     simp only [riFill, riGo, riCell, riFind, riMem, riNth, Nat.reduceBEq, Nat.reduceAdd, List.headD, List.tail, List.getD, List.getElem?_cons_zero, List.getElem?_cons_succ, Option.getD_some, cond_true, cond_false]
     go_simp
   · rintro L s_ V hu hd hn ⟨hB, hA, hS, g0, g1, g2, g3, g4, g5, g6, g7, g8, g9, g11, g12⟩ K hK
     have e6 := g6 hd
     have z : V.cell? ⟨wr.heap.size, 1, none⟩ = some (.int .i64 n.f1) := by
       cases h10 : L 10 with
       | false => exact blk_cell (blk_below HBX6.out (hB h10)) 1
       | true =>
         obtain ⟨V0, h1, rfl⟩ := hA h10 hn.2.2
         exact blk_cell (blk_far (blk_below HBX6.out h1) (fun e => HGN.out (by simpa using e.symm)) (p := ⟨g, u * 4 + 1, none⟩) (.int .i64 n.f2)) 1
     refine value_ (N := some 35) (v := .int .i64 n.f1) (w1 := V) (by rfl) rfl ?_ (hK _ _ ⟨hB, hA, hS, g0, g1, g2, g3, g4, g5, g6, fun _ => rfl, g8, g9, g11, g12⟩)
     simp only [riFill, riGo, riCell, riFind, riMem, riNth, Nat.reduceBEq, Nat.reduceAdd, List.headD, List.tail, List.getD, List.getElem?_cons_zero, List.getElem?_cons_succ, Option.getD_some, cond_true, cond_false]
     rw [e6]
     go_simp
   · rintro L s_ V hu hd hn ⟨hB, hA, hS, g0, g1, g2, g3, g4, g5, g6, g7, g8, g9, g11, g12⟩ K hK
     have e0 := g0 hd.1
     have e1 := g1 hd.2.1
     refine value_ (N := some 36) (v := .pointer (some ⟨g, u * 4, none⟩)) (w1 := V) (by rfl) rfl ?_ (hK _ _ ⟨hB, hA, hS, g0, g1, g2, g3, g4, g5, g6, g7, fun _ => rfl, g9, g11, g12⟩)
     simp only [riFill, riGo, riCell, riFind, riMem, riNth, Nat.reduceBEq, Nat.reduceAdd, List.headD, List.tail, List.getD, List.getElem?_cons_zero, List.getElem?_cons_succ, Option.getD_some, cond_true, cond_false]
     rw [e0, e1]
     go_simp
   · rintro L s_ V hu hd hn ⟨hB, hA, hS, g0, g1, g2, g3, g4, g5, g6, g7, g8, g9, g11, g12⟩ K hK
     have e8 := g8 hd.2.2.2.2
     refine value_ (N := some 37) (v := .pointer (some ⟨g, u * 4 + 1, none⟩)) (w1 := V) (by rfl) rfl ?_ (hK _ _ ⟨hB, hA, hS, g0, g1, g2, g3, g4, g5, g6, g7, g8, fun _ => rfl, g11, g12⟩)
     simp only [riFill, riGo, riCell, riFind, riMem, riNth, Nat.reduceBEq, Nat.reduceAdd, List.headD, List.tail, List.getD, List.getElem?_cons_zero, List.getElem?_cons_succ, Option.getD_some, cond_true, cond_false]
     rw [e8]
     go_simp
   · rintro L s_ V hu hd hn ⟨hB, hA, hS, g0, g1, g2, g3, g4, g5, g6, g7, g8, g9, g11, g12⟩ K hK
     have hb := hB hu
     have e9 := g9 hd.2.2.2.2.2
     have e5 := g5 hd.2.2.2.1
     have hv := zRb HV6.out hb
     have z : V.cell? ⟨g, u * 4 + 1, none⟩ = some (.int .i64 n.f1) := HCC.out V out n hv HNN.out 1 _ rfl
     have zf := ioFz hv (u * 4 + 1)
     refine skip_ (w1 := V.setCell ⟨g, u * 4 + 1, none⟩ (.int .i64 n.f2)) (by rfl) rfl ?_ (hK undef _ ⟨fun h => Bool.noConfusion h, fun _ _ => ⟨V, hb, rfl⟩, fun h => absurd (h.symm.trans hn.2.2) (by simp), g0, g1, g2, g3, g4, g5, g6, g7, g8, g9, g11, g12⟩)
     simp only [riFill, riGo, riCell, riFind, riMem, riNth, Nat.reduceBEq, Nat.reduceAdd, List.headD, List.tail, List.getD, List.getElem?_cons_zero, List.getElem?_cons_succ, Option.getD_some, cond_true, cond_false]
     rw [e9, e5]
     go_simp
   · rintro L s_ V hu hd hn ⟨hB, hA, hS, g0, g1, g2, g3, g4, g5, g6, g7, g8, g9, g11, g12⟩ K hK
     have e2 := g2 hd.2.2.1
     have e3 := g3 hd.2.2.2.1
     refine value_ (N := some 38) (v := .pointer (some ⟨g, u * 4, none⟩)) (w1 := V) (by rfl) rfl ?_ (hK _ _ ⟨hB, hA, hS, g0, g1, g2, g3, g4, g5, g6, g7, g8, g9, fun _ => rfl, g12⟩)
     simp only [riFill, riGo, riCell, riFind, riMem, riNth, Nat.reduceBEq, Nat.reduceAdd, List.headD, List.tail, List.getD, List.getElem?_cons_zero, List.getElem?_cons_succ, Option.getD_some, cond_true, cond_false]
     rw [e2, e3]
     go_simp
   · rintro L s_ V hu hd hn ⟨hB, hA, hS, g0, g1, g2, g3, g4, g5, g6, g7, g8, g9, g11, g12⟩ K hK
     have e11 := g11 hd.2.2.2.2.2.2.2.2.2.2.2
     refine value_ (N := some 39) (v := .pointer (some ⟨g, u * 4 + 2, none⟩)) (w1 := V) (by rfl) rfl ?_ (hK _ _ ⟨hB, hA, hS, g0, g1, g2, g3, g4, g5, g6, g7, g8, g9, g11, fun _ => rfl⟩)
     simp only [riFill, riGo, riCell, riFind, riMem, riNth, Nat.reduceBEq, Nat.reduceAdd, List.headD, List.tail, List.getD, List.getElem?_cons_zero, List.getElem?_cons_succ, Option.getD_some, cond_true, cond_false]
     rw [e11]
     go_simp
   · rintro L s_ V hu hd hn ⟨hB, hA, hS, g0, g1, g2, g3, g4, g5, g6, g7, g8, g9, g11, g12⟩ K hK
     have h10 := hd.2.2.2.2.2.2.2.2.2.2.1
     obtain ⟨V0, hb, rfl⟩ := hA h10 hu
     have e12 := g12 hd.2.2.2.2.2.2.2.2.2.2.2.2
     have e7 := g7 hd.2.2.2.2.2.2.2.1
     have hv := (ioSet HCC.out (zRb HV6.out hb) HNN.out d2 d3).1
     have z : (V0.setCell ⟨g, u * 4 + 1, none⟩ (.int .i64 n.f2)).cell? ⟨g, u * 4 + 2, none⟩ = some (.int .i64 n.f2) := HCC.out _ _ _ hv HN2.out 2 _ rfl
     have zf := ioFz hv (u * 4 + 2)
     refine skip_ (w1 := (V0.setCell ⟨g, u * 4 + 1, none⟩ (.int .i64 n.f2)).setCell ⟨g, u * 4 + 2, none⟩ (.int .i64 n.f1)) (by rfl) rfl ?_ (hK undef _ ⟨fun h => absurd (h.symm.trans h10) (by simp), fun _ h => Bool.noConfusion h, fun _ => ⟨V0, hb, rfl⟩, g0, g1, g2, g3, g4, g5, g6, g7, g8, g9, g11, g12⟩)
     simp only [riFill, riGo, riCell, riFind, riMem, riNth, Nat.reduceBEq, Nat.reduceAdd, List.headD, List.tail, List.getD, List.getElem?_cons_zero, List.getElem?_cons_succ, Option.getD_some, cond_true, cond_false]
     rw [e12, e7]
     go_simp
   · rintro L s_ V hL ⟨hB, hA, hS, g0, g1, g2, g3, g4, g5, g6, g7, g8, g9, g11, g12⟩
     obtain ⟨V0, hb, rfl⟩ := hS (hL 13 rfl)
     have h1 := ioSet HCC.out (zRb HV6.out hb) HNN.out d2 d3
     have h2 := ioSet2 (a := n.f1) HCC.out h1.1 HN2.out d2 d3
     have HV8 := zA h2.1
     have HB8 := zA (((below_step HB6.out hb).setCell (p := ⟨g, u * 4 + 1, none⟩) hgb (.int .i64 n.f2)).setCell (p := ⟨g, u * 4 + 2, none⟩) hgb (.int .i64 n.f1))
     clear hb h1 h2 hB hA hS g0 g1 g2 g3 g4 g5 g6 g7 g8 g9 g11 g12
     simp only [riFill, riGo, riCell, riFind, riMem, riNth, Nat.reduceBEq, Nat.reduceAdd, List.headD, List.tail, List.getD, List.getElem?_cons_zero, List.getElem?_cons_succ, Option.getD_some, cond_true, cond_false]
     go_wp2_with fail
     go_roundw
     case rel => exact ⟨u + 1, o', by go_num, by omega, HLO', HL', HB8, ⟨by rw [← HOO.out]; have := HV8.out; rw [List.set_set] at this; exact this⟩⟩
     case measure => simp [intOf]; omega
theorem ioSt_mono (k : Nat) (out : List S72) (i : Int) : LeO (ioSt k out i) (ioSt (k + 1) out i) := by
 unfold ioSt
 exact LeO.bind (slices_Contains_string_string.mono _ _ _) (fun _ => LeO.ite (LeO.bind (impl_compareNodes.mono _ _ _ _) (fun _ => LeO.refl _)) (LeO.refl _))
theorem ioL_mono (k : Nat) : ∀ (d u : Nat) (out : List S72), LeO (ioL k d u out) (ioL (k + 1) d u out)
 | 0, _, _ => LeO.refl _
 | d + 1, u, out => LeO.bind (ioSt_mono k out u) (fun _ => ioL_mono k d (u + 1) _)
theorem impl_inOrder.mono : ∀ a0 k, LeO (impl_inOrder.f k a0) (impl_inOrder.f (k + 1) a0) := by
 intro a0 k
 unfold impl_inOrder.f
 exact LeO.bind (impl_share.mono _ _) (fun _ => LeO.ite (LeO.bind (ioL_mono _ _ _ _) (fun _ => impl_share.mono _ _)) (LeO.refl _))
def impl_OrderedExpr.f (k : Nat) (l0 : List (S72)) : Option ((List (S72)) × Bool) := (impl_IsExpr.f k l0).bind fun t101 => (if t101 = true then ((impl_inOrder.f k l0).bind fun t102 => (some (t102, true))) else (some (([] : List (S72)), false)))
theorem impl_OrderedExpr.mono : ∀ a0 k, LeO (impl_OrderedExpr.f k a0) (impl_OrderedExpr.f (k + 1) a0) := by
 intro a0 k
 unfold impl_OrderedExpr.f
 repeat' first
     | (with_reducible first | exact impl_IsExpr.mono _ _ | exact impl_inOrder.mono _ _ | exact LeO.refl _ | exact LeO.none _ | refine LeO.ite ?_ ?_ | refine LeO.bind ?_ (fun _ => ?_))
     | exact LeO.none _
     | refine LeO.ite ?_ ?_
     | refine LeO.bind ?_ (fun _ => ?_)
set_option maxHeartbeats 8000000 in
set_option maxRecDepth 100000 in
theorem impl_OrderedExpr.calls (k : Nat) (A0 : Option Addr) (c0 : Nat) (l0 : List (S72)) (r1 : List (S72)) (r2 : Bool) (w : World) (hr0 : Kd.C k72 w A0 l0.length l0) (hc0 : l0.length ≤ c0) (h : impl_OrderedExpr.f k l0 = some (r1, r2)) :
   Calls Try.prog 12 #[.slice A0 l0.length c0] w fun e w' => ∃ v0_ : Value, e = .returned (.tuple #[v0_, .bool r2]) ∧ Kd.R k72 72 w' w.heap.size (fun _ => True) v0_ r1 ∧ Below w.heap.size w w' := by
 have HR0 := zA hr0
 have HC0 := zA hc0
 clear hr0 hc0
 have HB := zA (Below.refl w.heap.size w)
 have H : ((impl_IsExpr.f k l0).bind fun t101 => (if t101 = true then ((impl_inOrder.f k l0).bind fun t102 => (some (t102, true))) else (some (([] : List (S72)), false)))) = some (r1, r2) := h
 clear h
 replace H := zob H
 obtain ⟨t101, A20, H⟩ := H
 replace H : (if t101 = true then ((impl_inOrder.f k l0).bind fun t102 => (some (t102, true))) else (some (([] : List (S72)), false))) = some (r1, r2) := H
 have A2 := zA A20
 clear A20
 by_cases c3 : t101 = true
 rotate_left
 · replace c3 := zbf c3
   subst c3
   replace H : (some (([] : List (S72)), false)) = some (r1, r2) := by rw [if_neg (show ¬ (false = true) by decide)] at H; exact H
   simp only [Option.some.injEq, Prod.mk.injEq] at H
   obtain ⟨rfl, rfl⟩ := H
   go_enter Try.func12, Try.ntmps12
   go_wp2_with (first | ((with_reducible refine gate_callee (f := 46) rfl ?_); refine goesL_ (some 5) rfl rfl Try.func46 (by kernel_rfl) rfl #[.slice A0 l0.length c0] rfl (by (try simp only [List.map_toArray, List.map_cons, List.map_nil]); first | done | rfl | (simp only [List.length_drop, List.length_take]; rfl)) ?_; (with_reducible refine (impl_IsExpr.calls k _ _ l0 false _ ?side1 ?side2 A2.out).mono ?_); (case side1 => repeat (first | exact HR0.out | (with_reducible first | refine zCa ?_ _ | refine zCn ?_ _ | refine zCd ?_))); (case side2 => exact HC0.out); rintro e w7 ⟨rfl, hb⟩; refine ⟨_, rfl, ?_⟩; have n0_ := zA (below_step (by repeat (first | (with_reducible first | exact HB.out | apply zba | apply zbn | apply zbd) | exact HB.out)) hb); clear HB; have HB := n0_; clear n0_; (try clear hb)))
   go_ret2
   exact ⟨_, by first | rfl | (simp [errW_none, errW_some] <;> rfl) | (simp [*, errW_none, errW_some] <;> rfl), by first | exact Kd.R_nil _ _ _ _ _ | exact Kd.N_nil _ _ _ _ _ | exact Kd.V_nil _ _ _ _ _ | exact Kd.Q_nil _ _ _ _ _ | exact Kd.S_nil _ _ _ _ _, by repeat (first | (with_reducible first | exact HB.out | apply zba | apply zbn | apply zbd) | exact HB.out)⟩
 subst c3
 replace H : ((impl_inOrder.f k l0).bind fun t102 => (some (t102, true))) = some (r1, r2) := by rw [if_pos rfl] at H; exact H
 replace H := zob H
 obtain ⟨t102, A40, H⟩ := H
 replace H : (some (t102, true)) = some (r1, r2) := H
 have A4 := zA A40
 clear A40
 simp only [Option.some.injEq, Prod.mk.injEq] at H
 obtain ⟨rfl, rfl⟩ := H
 go_enter Try.func12, Try.ntmps12
 go_wp2_with (first | ((with_reducible refine gate_callee (f := 46) rfl ?_); refine goesL_ (some 5) rfl rfl Try.func46 (by kernel_rfl) rfl #[.slice A0 l0.length c0] rfl (by (try simp only [List.map_toArray, List.map_cons, List.map_nil]); first | done | rfl | (simp only [List.length_drop, List.length_take]; rfl)) ?_; (with_reducible refine (impl_IsExpr.calls k _ _ l0 true _ ?side1 ?side2 A2.out).mono ?_); (case side1 => repeat (first | exact HR0.out | (with_reducible first | refine zCa ?_ _ | refine zCn ?_ _ | refine zCd ?_))); (case side2 => exact HC0.out); rintro e w5 ⟨rfl, hb⟩; refine ⟨_, rfl, ?_⟩; have n0_ := zA (below_step (by repeat (first | (with_reducible first | exact HB.out | apply zba | apply zbn | apply zbd) | exact HB.out)) hb); clear HB; have HB := n0_; clear n0_; (try clear hb)) | ((with_reducible refine gate_callee (f := 47) rfl ?_); refine goesL_ (some 8) rfl rfl Try.func47 (by kernel_rfl) rfl #[.slice A0 l0.length c0] rfl (by (try simp only [List.map_toArray, List.map_cons, List.map_nil]); first | done | rfl | (simp only [List.length_drop, List.length_take]; rfl)) ?_; (with_reducible refine (impl_inOrder.calls k _ _ l0 t102 _ ?side1 ?side2 A4.out).mono ?_); (case side1 => repeat (first | exact (zCb HR0.out HB.out) | (with_reducible first | refine zCa ?_ _ | refine zCn ?_ _ | refine zCd ?_))); (case side2 => exact HC0.out); rintro e w6 ⟨v103, rfl, ho0, hb⟩; refine ⟨_, rfl, ?_⟩; have n0_ := zA (Kd.R_lower ho0 (below_size (by repeat (first | (with_reducible first | exact HB.out | apply zba | apply zbn | apply zbd) | exact HB.out)))); have n1_ := zA (below_step (by repeat (first | (with_reducible first | exact HB.out | apply zba | apply zbn | apply zbd) | exact HB.out)) hb); clear HB; have HO104 := n0_; have HB := n1_; clear n0_ n1_; (try clear hb); (try clear ho0)))
 go_ret2
 exact ⟨_, by first | rfl | (simp [errW_none, errW_some] <;> rfl) | (simp [*, errW_none, errW_some] <;> rfl), by (with_reducible repeat (first | apply zRa | apply zRn | apply zRd)); exact HO104.out, by repeat (first | (with_reducible first | exact HB.out | apply zba | apply zbn | apply zbd) | exact HB.out)⟩
def laws_eqNode.f (a0_0 : ByteArray) (a0_1 : Int) (a0_2 : Int) (a0_3 : Int) (a1_0 : ByteArray) (a1_1 : Int) (a1_2 : Int) (a1_3 : Int) : Option (Bool) := if a0_0.toList = a1_0.toList then (if a0_1 = a1_1 then (if a0_2 = a1_2 then (if a0_3 = a1_3 then (some true) else (some false)) else (some false)) else (some false)) else (some false)
set_option maxHeartbeats 8000000 in
set_option maxRecDepth 100000 in
theorem laws_eqNode.calls (a0_0 : ByteArray) (a0_1 : Int) (a0_2 : Int) (a0_3 : Int) (a1_0 : ByteArray) (a1_1 : Int) (a1_2 : Int) (a1_3 : Int) (r : Bool) (w : World) (h : laws_eqNode.f a0_0 a0_1 a0_2 a0_3 a1_0 a1_1 a1_2 a1_3 = some r) :
   Calls Try.prog 48 #[.agg #[.string a0_0, .int .i64 a0_1, .int .i64 a0_2, .int .i64 a0_3], .agg #[.string a1_0, .int .i64 a1_1, .int .i64 a1_2, .int .i64 a1_3]] w fun e w' => e = .returned (.bool r) ∧ Below w.heap.size w w' := by
 have hu72 := Try.underlying72
 have HB := zA (Below.refl w.heap.size w)
 have H : (if a0_0.toList = a1_0.toList then (if a0_1 = a1_1 then (if a0_2 = a1_2 then (if a0_3 = a1_3 then (some true) else (some false)) else (some false)) else (some false)) else (some false)) = some r := h
 clear h
 by_cases c3 : a0_0.toList = a1_0.toList
 rotate_left
 · rw [if_neg c3] at H
   have c3b0 : (a0_0.toList == a1_0.toList) = false := beq_eq_false_iff_ne.mpr c3
   have c3b1 : (a0_0.toList != a1_0.toList) = true := bne_iff_ne.mpr c3
   obtain rfl := zsi H
   go_enter Try.func48, Try.ntmps48
   go_wp2_with (first | ((with_reducible refine gate_dst (N := 2) rfl ?_); refine box_event ?hg (N := 2) ?hd (cs := #[.string a0_0, .int .i64 a0_1, .int .i64 a0_2, .int .i64 a0_3]) (t := 72) ?hr ?_; (case hd => rfl); (case hg => rfl); (case hr => go_simp <;> rfl); intro gb101 hg w27 hbox hb; have zs := zpair (by repeat (first | (with_reducible first | exact HB.out | apply zba | apply zbn | apply zbd) | exact HB.out)) hb; have n0_ := zA (zs.1); have n1_ := zA (hbox); have n2_ := zA ((by rw [hg]; exact zs.2 : w.heap.size ≤ gb101)); have n3_ := n2_; clear HB; have HB := n0_; have BK101 := n1_; have GW101 := n2_; have GE101 := n3_; clear n0_ n1_ n2_ n3_; clear zs hb hbox hg) | ((with_reducible refine gate_dst (N := 3) rfl ?_); refine box_event ?hg (N := 3) ?hd (cs := #[.string a1_0, .int .i64 a1_1, .int .i64 a1_2, .int .i64 a1_3]) (t := 72) ?hr ?_; (case hd => rfl); (case hg => rfl); (case hr => go_simp <;> rfl); intro gb102 hg w28 hbox hb; have n0_ := zA (blk_below (g := gb101) (o := .cells #[.string a0_0, .int .i64 a0_1, .int .i64 a0_2, .int .i64 a0_3] 72 (0, 0)) (by (with_reducible repeat (first | refine zkn ?_ _ | refine zkd ?_ | refine zka ?_ _)); exact BK101.out) hb); have zs := zpair (by repeat (first | (with_reducible first | exact HB.out | apply zba | apply zbn | apply zbd | refine below_set ?_ GE101.out) | exact HB.out)) hb; have n1_ := zA (zs.1); have n2_ := zA (hbox); have n3_ := zA ((by rw [hg]; exact zs.2 : w.heap.size ≤ gb102)); have n4_ := n3_; have n5_ := zA ((by rw [hg]; exact Nat.ne_of_lt (zlt BK101.out (fun h => by (with_reducible repeat (first | refine zkn ?_ _ | refine zkd ?_ | refine zka ?_ _)); exact h)) : gb101 ≠ gb102)); have n6_ := zA (Ne.symm n5_.out); clear BK101 HB; have BK101 := n0_; have HB := n1_; have BK102 := n2_; have GW102 := n3_; have GE102 := n4_; have NB101_102 := n5_; have NB102_101 := n6_; clear n0_ n1_ n2_ n3_ n4_ n5_ n6_; clear zs hb hbox hg; have hnb29 := NB101_102.out; have hnc29 := NB102_101.out; obtain ⟨hcz30_0, hcz30_1, hcz30_2, hcz30_3⟩ := zc4 w28 (.string a0_0) (.int .i64 a0_1) (.int .i64 a0_2) (.int .i64 a0_3) BK101.out; obtain ⟨hfz30_0, hfz30_1, hfz30_2, hfz30_3⟩ := zf4 BK101.out; obtain ⟨hcz31_0, hcz31_1, hcz31_2, hcz31_3⟩ := zc4 w28 (.string a1_0) (.int .i64 a1_1) (.int .i64 a1_2) (.int .i64 a1_3) BK102.out; obtain ⟨hfz31_0, hfz31_1, hfz31_2, hfz31_3⟩ := zf4 BK102.out))
   go_ret
   exact ⟨by first | rfl | (simp [errW_none, errW_some] <;> rfl) | (simp [*, errW_none, errW_some] <;> rfl), by repeat (first | (with_reducible first | exact HB.out | apply zba | apply zbn | apply zbd | refine below_set ?_ GE101.out | refine below_set ?_ GE102.out) | exact HB.out)⟩
 rw [if_pos c3] at H
 have c3b0 : (a0_0.toList == a1_0.toList) = true := beq_iff_eq.mpr c3
 have c3b1 : (a0_0.toList != a1_0.toList) = false := bne_eq_false_iff_eq.mpr c3
 clear c3
 by_cases c4 : a0_1 = a1_1
 rotate_left
 · rw [if_neg c4] at H
   have c4b0 : (a0_1 == a1_1) = false := beq_eq_false_iff_ne.mpr c4
   have c4b1 : (a0_1 != a1_1) = true := bne_iff_ne.mpr c4
   obtain rfl := zsi H
   go_enter Try.func48, Try.ntmps48
   go_wp2_with (first | ((with_reducible refine gate_dst (N := 2) rfl ?_); refine box_event ?hg (N := 2) ?hd (cs := #[.string a0_0, .int .i64 a0_1, .int .i64 a0_2, .int .i64 a0_3]) (t := 72) ?hr ?_; (case hd => rfl); (case hg => rfl); (case hr => go_simp <;> rfl); intro gb101 hg w22 hbox hb; have zs := zpair (by repeat (first | (with_reducible first | exact HB.out | apply zba | apply zbn | apply zbd) | exact HB.out)) hb; have n0_ := zA (zs.1); have n1_ := zA (hbox); have n2_ := zA ((by rw [hg]; exact zs.2 : w.heap.size ≤ gb101)); have n3_ := n2_; clear HB; have HB := n0_; have BK101 := n1_; have GW101 := n2_; have GE101 := n3_; clear n0_ n1_ n2_ n3_; clear zs hb hbox hg) | ((with_reducible refine gate_dst (N := 3) rfl ?_); refine box_event ?hg (N := 3) ?hd (cs := #[.string a1_0, .int .i64 a1_1, .int .i64 a1_2, .int .i64 a1_3]) (t := 72) ?hr ?_; (case hd => rfl); (case hg => rfl); (case hr => go_simp <;> rfl); intro gb102 hg w23 hbox hb; have n0_ := zA (blk_below (g := gb101) (o := .cells #[.string a0_0, .int .i64 a0_1, .int .i64 a0_2, .int .i64 a0_3] 72 (0, 0)) (by (with_reducible repeat (first | refine zkn ?_ _ | refine zkd ?_ | refine zka ?_ _)); exact BK101.out) hb); have zs := zpair (by repeat (first | (with_reducible first | exact HB.out | apply zba | apply zbn | apply zbd | refine below_set ?_ GE101.out) | exact HB.out)) hb; have n1_ := zA (zs.1); have n2_ := zA (hbox); have n3_ := zA ((by rw [hg]; exact zs.2 : w.heap.size ≤ gb102)); have n4_ := n3_; have n5_ := zA ((by rw [hg]; exact Nat.ne_of_lt (zlt BK101.out (fun h => by (with_reducible repeat (first | refine zkn ?_ _ | refine zkd ?_ | refine zka ?_ _)); exact h)) : gb101 ≠ gb102)); have n6_ := zA (Ne.symm n5_.out); clear BK101 HB; have BK101 := n0_; have HB := n1_; have BK102 := n2_; have GW102 := n3_; have GE102 := n4_; have NB101_102 := n5_; have NB102_101 := n6_; clear n0_ n1_ n2_ n3_ n4_ n5_ n6_; clear zs hb hbox hg; have hnb24 := NB101_102.out; have hnc24 := NB102_101.out; obtain ⟨hcz25_0, hcz25_1, hcz25_2, hcz25_3⟩ := zc4 w23 (.string a0_0) (.int .i64 a0_1) (.int .i64 a0_2) (.int .i64 a0_3) BK101.out; obtain ⟨hfz25_0, hfz25_1, hfz25_2, hfz25_3⟩ := zf4 BK101.out; obtain ⟨hcz26_0, hcz26_1, hcz26_2, hcz26_3⟩ := zc4 w23 (.string a1_0) (.int .i64 a1_1) (.int .i64 a1_2) (.int .i64 a1_3) BK102.out; obtain ⟨hfz26_0, hfz26_1, hfz26_2, hfz26_3⟩ := zf4 BK102.out))
   go_ret
   exact ⟨by first | rfl | (simp [errW_none, errW_some] <;> rfl) | (simp [*, errW_none, errW_some] <;> rfl), by repeat (first | (with_reducible first | exact HB.out | apply zba | apply zbn | apply zbd | refine below_set ?_ GE101.out | refine below_set ?_ GE102.out) | exact HB.out)⟩
 rw [if_pos c4] at H
 have c4b0 : (a0_1 == a1_1) = true := beq_iff_eq.mpr c4
 have c4b1 : (a0_1 != a1_1) = false := bne_eq_false_iff_eq.mpr c4
 clear c4
 by_cases c5 : a0_2 = a1_2
 rotate_left
 · rw [if_neg c5] at H
   have c5b0 : (a0_2 == a1_2) = false := beq_eq_false_iff_ne.mpr c5
   have c5b1 : (a0_2 != a1_2) = true := bne_iff_ne.mpr c5
   obtain rfl := zsi H
   go_enter Try.func48, Try.ntmps48
   go_wp2_with (first | ((with_reducible refine gate_dst (N := 2) rfl ?_); refine box_event ?hg (N := 2) ?hd (cs := #[.string a0_0, .int .i64 a0_1, .int .i64 a0_2, .int .i64 a0_3]) (t := 72) ?hr ?_; (case hd => rfl); (case hg => rfl); (case hr => go_simp <;> rfl); intro gb101 hg w17 hbox hb; have zs := zpair (by repeat (first | (with_reducible first | exact HB.out | apply zba | apply zbn | apply zbd) | exact HB.out)) hb; have n0_ := zA (zs.1); have n1_ := zA (hbox); have n2_ := zA ((by rw [hg]; exact zs.2 : w.heap.size ≤ gb101)); have n3_ := n2_; clear HB; have HB := n0_; have BK101 := n1_; have GW101 := n2_; have GE101 := n3_; clear n0_ n1_ n2_ n3_; clear zs hb hbox hg) | ((with_reducible refine gate_dst (N := 3) rfl ?_); refine box_event ?hg (N := 3) ?hd (cs := #[.string a1_0, .int .i64 a1_1, .int .i64 a1_2, .int .i64 a1_3]) (t := 72) ?hr ?_; (case hd => rfl); (case hg => rfl); (case hr => go_simp <;> rfl); intro gb102 hg w18 hbox hb; have n0_ := zA (blk_below (g := gb101) (o := .cells #[.string a0_0, .int .i64 a0_1, .int .i64 a0_2, .int .i64 a0_3] 72 (0, 0)) (by (with_reducible repeat (first | refine zkn ?_ _ | refine zkd ?_ | refine zka ?_ _)); exact BK101.out) hb); have zs := zpair (by repeat (first | (with_reducible first | exact HB.out | apply zba | apply zbn | apply zbd | refine below_set ?_ GE101.out) | exact HB.out)) hb; have n1_ := zA (zs.1); have n2_ := zA (hbox); have n3_ := zA ((by rw [hg]; exact zs.2 : w.heap.size ≤ gb102)); have n4_ := n3_; have n5_ := zA ((by rw [hg]; exact Nat.ne_of_lt (zlt BK101.out (fun h => by (with_reducible repeat (first | refine zkn ?_ _ | refine zkd ?_ | refine zka ?_ _)); exact h)) : gb101 ≠ gb102)); have n6_ := zA (Ne.symm n5_.out); clear BK101 HB; have BK101 := n0_; have HB := n1_; have BK102 := n2_; have GW102 := n3_; have GE102 := n4_; have NB101_102 := n5_; have NB102_101 := n6_; clear n0_ n1_ n2_ n3_ n4_ n5_ n6_; clear zs hb hbox hg; have hnb19 := NB101_102.out; have hnc19 := NB102_101.out; obtain ⟨hcz20_0, hcz20_1, hcz20_2, hcz20_3⟩ := zc4 w18 (.string a0_0) (.int .i64 a0_1) (.int .i64 a0_2) (.int .i64 a0_3) BK101.out; obtain ⟨hfz20_0, hfz20_1, hfz20_2, hfz20_3⟩ := zf4 BK101.out; obtain ⟨hcz21_0, hcz21_1, hcz21_2, hcz21_3⟩ := zc4 w18 (.string a1_0) (.int .i64 a1_1) (.int .i64 a1_2) (.int .i64 a1_3) BK102.out; obtain ⟨hfz21_0, hfz21_1, hfz21_2, hfz21_3⟩ := zf4 BK102.out))
   go_ret
   exact ⟨by first | rfl | (simp [errW_none, errW_some] <;> rfl) | (simp [*, errW_none, errW_some] <;> rfl), by repeat (first | (with_reducible first | exact HB.out | apply zba | apply zbn | apply zbd | refine below_set ?_ GE101.out | refine below_set ?_ GE102.out) | exact HB.out)⟩
 rw [if_pos c5] at H
 have c5b0 : (a0_2 == a1_2) = true := beq_iff_eq.mpr c5
 have c5b1 : (a0_2 != a1_2) = false := bne_eq_false_iff_eq.mpr c5
 clear c5
 by_cases c6 : a0_3 = a1_3
 · rw [if_pos c6] at H
   have c6b0 : (a0_3 == a1_3) = true := beq_iff_eq.mpr c6
   have c6b1 : (a0_3 != a1_3) = false := bne_eq_false_iff_eq.mpr c6
   clear c6
   obtain rfl := zsi H
   go_enter Try.func48, Try.ntmps48
   go_wp2_with (first | ((with_reducible refine gate_dst (N := 2) rfl ?_); refine box_event ?hg (N := 2) ?hd (cs := #[.string a0_0, .int .i64 a0_1, .int .i64 a0_2, .int .i64 a0_3]) (t := 72) ?hr ?_; (case hd => rfl); (case hg => rfl); (case hr => go_simp <;> rfl); intro gb101 hg w7 hbox hb; have zs := zpair (by repeat (first | (with_reducible first | exact HB.out | apply zba | apply zbn | apply zbd) | exact HB.out)) hb; have n0_ := zA (zs.1); have n1_ := zA (hbox); have n2_ := zA ((by rw [hg]; exact zs.2 : w.heap.size ≤ gb101)); have n3_ := n2_; clear HB; have HB := n0_; have BK101 := n1_; have GW101 := n2_; have GE101 := n3_; clear n0_ n1_ n2_ n3_; clear zs hb hbox hg) | ((with_reducible refine gate_dst (N := 3) rfl ?_); refine box_event ?hg (N := 3) ?hd (cs := #[.string a1_0, .int .i64 a1_1, .int .i64 a1_2, .int .i64 a1_3]) (t := 72) ?hr ?_; (case hd => rfl); (case hg => rfl); (case hr => go_simp <;> rfl); intro gb102 hg w8 hbox hb; have n0_ := zA (blk_below (g := gb101) (o := .cells #[.string a0_0, .int .i64 a0_1, .int .i64 a0_2, .int .i64 a0_3] 72 (0, 0)) (by (with_reducible repeat (first | refine zkn ?_ _ | refine zkd ?_ | refine zka ?_ _)); exact BK101.out) hb); have zs := zpair (by repeat (first | (with_reducible first | exact HB.out | apply zba | apply zbn | apply zbd | refine below_set ?_ GE101.out) | exact HB.out)) hb; have n1_ := zA (zs.1); have n2_ := zA (hbox); have n3_ := zA ((by rw [hg]; exact zs.2 : w.heap.size ≤ gb102)); have n4_ := n3_; have n5_ := zA ((by rw [hg]; exact Nat.ne_of_lt (zlt BK101.out (fun h => by (with_reducible repeat (first | refine zkn ?_ _ | refine zkd ?_ | refine zka ?_ _)); exact h)) : gb101 ≠ gb102)); have n6_ := zA (Ne.symm n5_.out); clear BK101 HB; have BK101 := n0_; have HB := n1_; have BK102 := n2_; have GW102 := n3_; have GE102 := n4_; have NB101_102 := n5_; have NB102_101 := n6_; clear n0_ n1_ n2_ n3_ n4_ n5_ n6_; clear zs hb hbox hg; have hnb9 := NB101_102.out; have hnc9 := NB102_101.out; obtain ⟨hcz10_0, hcz10_1, hcz10_2, hcz10_3⟩ := zc4 w8 (.string a0_0) (.int .i64 a0_1) (.int .i64 a0_2) (.int .i64 a0_3) BK101.out; obtain ⟨hfz10_0, hfz10_1, hfz10_2, hfz10_3⟩ := zf4 BK101.out; obtain ⟨hcz11_0, hcz11_1, hcz11_2, hcz11_3⟩ := zc4 w8 (.string a1_0) (.int .i64 a1_1) (.int .i64 a1_2) (.int .i64 a1_3) BK102.out; obtain ⟨hfz11_0, hfz11_1, hfz11_2, hfz11_3⟩ := zf4 BK102.out))
   go_ret
   exact ⟨by first | rfl | (simp [errW_none, errW_some] <;> rfl) | (simp [*, errW_none, errW_some] <;> rfl), by repeat (first | (with_reducible first | exact HB.out | apply zba | apply zbn | apply zbd | refine below_set ?_ GE101.out | refine below_set ?_ GE102.out) | exact HB.out)⟩
 rw [if_neg c6] at H
 have c6b0 : (a0_3 == a1_3) = false := beq_eq_false_iff_ne.mpr c6
 have c6b1 : (a0_3 != a1_3) = true := bne_iff_ne.mpr c6
 obtain rfl := zsi H
 go_enter Try.func48, Try.ntmps48
 go_wp2_with (first | ((with_reducible refine gate_dst (N := 2) rfl ?_); refine box_event ?hg (N := 2) ?hd (cs := #[.string a0_0, .int .i64 a0_1, .int .i64 a0_2, .int .i64 a0_3]) (t := 72) ?hr ?_; (case hd => rfl); (case hg => rfl); (case hr => go_simp <;> rfl); intro gb101 hg w12 hbox hb; have zs := zpair (by repeat (first | (with_reducible first | exact HB.out | apply zba | apply zbn | apply zbd) | exact HB.out)) hb; have n0_ := zA (zs.1); have n1_ := zA (hbox); have n2_ := zA ((by rw [hg]; exact zs.2 : w.heap.size ≤ gb101)); have n3_ := n2_; clear HB; have HB := n0_; have BK101 := n1_; have GW101 := n2_; have GE101 := n3_; clear n0_ n1_ n2_ n3_; clear zs hb hbox hg) | ((with_reducible refine gate_dst (N := 3) rfl ?_); refine box_event ?hg (N := 3) ?hd (cs := #[.string a1_0, .int .i64 a1_1, .int .i64 a1_2, .int .i64 a1_3]) (t := 72) ?hr ?_; (case hd => rfl); (case hg => rfl); (case hr => go_simp <;> rfl); intro gb102 hg w13 hbox hb; have n0_ := zA (blk_below (g := gb101) (o := .cells #[.string a0_0, .int .i64 a0_1, .int .i64 a0_2, .int .i64 a0_3] 72 (0, 0)) (by (with_reducible repeat (first | refine zkn ?_ _ | refine zkd ?_ | refine zka ?_ _)); exact BK101.out) hb); have zs := zpair (by repeat (first | (with_reducible first | exact HB.out | apply zba | apply zbn | apply zbd | refine below_set ?_ GE101.out) | exact HB.out)) hb; have n1_ := zA (zs.1); have n2_ := zA (hbox); have n3_ := zA ((by rw [hg]; exact zs.2 : w.heap.size ≤ gb102)); have n4_ := n3_; have n5_ := zA ((by rw [hg]; exact Nat.ne_of_lt (zlt BK101.out (fun h => by (with_reducible repeat (first | refine zkn ?_ _ | refine zkd ?_ | refine zka ?_ _)); exact h)) : gb101 ≠ gb102)); have n6_ := zA (Ne.symm n5_.out); clear BK101 HB; have BK101 := n0_; have HB := n1_; have BK102 := n2_; have GW102 := n3_; have GE102 := n4_; have NB101_102 := n5_; have NB102_101 := n6_; clear n0_ n1_ n2_ n3_ n4_ n5_ n6_; clear zs hb hbox hg; have hnb14 := NB101_102.out; have hnc14 := NB102_101.out; obtain ⟨hcz15_0, hcz15_1, hcz15_2, hcz15_3⟩ := zc4 w13 (.string a0_0) (.int .i64 a0_1) (.int .i64 a0_2) (.int .i64 a0_3) BK101.out; obtain ⟨hfz15_0, hfz15_1, hfz15_2, hfz15_3⟩ := zf4 BK101.out; obtain ⟨hcz16_0, hcz16_1, hcz16_2, hcz16_3⟩ := zc4 w13 (.string a1_0) (.int .i64 a1_1) (.int .i64 a1_2) (.int .i64 a1_3) BK102.out; obtain ⟨hfz16_0, hfz16_1, hfz16_2, hfz16_3⟩ := zf4 BK102.out))
 go_ret
 exact ⟨by first | rfl | (simp [errW_none, errW_some] <;> rfl) | (simp [*, errW_none, errW_some] <;> rfl), by repeat (first | (with_reducible first | exact HB.out | apply zba | apply zbn | apply zbd | refine below_set ?_ GE101.out | refine below_set ?_ GE102.out) | exact HB.out)⟩
end Go.Proofs.Ytkfkbmlbpeojaaa.Q
end
