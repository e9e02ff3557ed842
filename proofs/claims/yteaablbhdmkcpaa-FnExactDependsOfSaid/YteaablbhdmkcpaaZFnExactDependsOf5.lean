/- Proved here: contracts of functions that the law FnExactDependsOf reaches, and lemmas on what they compute; texts of this session and the printed words of the kit that they lean on, cut down and put together by its program link.py. Conditions: as each states. -/
import Derived.Carry
import Derived.Deep.Slices
import Derived.ProofKit
import Derived.Test.YteaablbhdmkcpaaZFnExactDependsOf1
import Derived.Test.YteaablbhdmkcpaaZFnExactDependsOf2
import Derived.Test.YteaablbhdmkcpaaZFnExactDependsOf3
import Derived.Test.YteaablbhdmkcpaaZFnExactDependsOf4
section
namespace Go.Proofs.Yteaablbhdmkcpaa.Q
open Go.RowKit Go.Proofs.YteaablbhdmkcpaaW.PrintWords Go.Proofs.YteaablbhdmkcpaaW.PrintLast Go.Proofs.YteaablbhdmkcpaaW.PrintMore
attribute [local go_sem] max2_int min2_int max_two min_two max_three min_three max_four min_four
set_option linter.unusedVariables false
set_option linter.unusedSimpArgs false
mutual
def spec_DependsOf.l0 : Nat → List (List Int) → List (List Int) → Int → Int → Option ((List (List Int)) × Bool)
  | 0, _, _, _, _ => none
  | k + 1, x4, x13, x14, x15 => if x15 < x14 then (if 0 ≤ x15 then (if x15 < (x13.length : Int) then (spec_DependsOf.l1 k x4 x15 x13 x14 x15 (rd_L4 x13 x15) ((rd_L4 x13 x15).length : Int) 0) else (none)) else (none)) else (some (x4, true))
def spec_DependsOf.l1 : Nat → List (List Int) → Int → List (List Int) → Int → Int → List Int → Int → Int → Option ((List (List Int)) × Bool)
  | 0, _, _, _, _, _, _, _, _ => none
  | k + 1, x4, x5, x13, x14, x15, x20, x21, x22 => if x22 < x21 then (if 0 ≤ x22 then (if x22 < (x20.length : Int) then (if (rd x20 x22) ≥ 0 then (if x4.length < 5864062014805 then (spec_DependsOf.l1 k (x4 ++ [(([x5, x22, rd x20 x22] : List Int))]) x5 x13 x14 x15 x20 x21 (wrap64 (x22 + 1))) else (none)) else (spec_DependsOf.l1 k x4 x5 x13 x14 x15 x20 x21 (wrap64 (x22 + 1)))) else (none)) else (none)) else (spec_DependsOf.l0 k x4 x13 x14 (wrap64 (x15 + 1)))
end
def spec_DependsOf.f (k : Nat) (l0 : List (S57)) : Option ((List (List Int)) × Bool) := (spec_orGood.f k l0).bind fun t101 => (if t101 = true then ((spec_orDelays.f k l0).bind fun t102 => (spec_DependsOf.l0 k ([] : List (List Int)) t102 (t102.length : Int) 0)) else (some (([] : List (List Int)), false)))
theorem spec_DependsOf.mono_l : ∀ k, (∀ y0 y1 y2 y3, LeO (spec_DependsOf.l0 k y0 y1 y2 y3) (spec_DependsOf.l0 (k + 1) y0 y1 y2 y3)) ∧ (∀ y0 y1 y2 y3 y4 y5 y6 y7, LeO (spec_DependsOf.l1 k y0 y1 y2 y3 y4 y5 y6 y7) (spec_DependsOf.l1 (k + 1) y0 y1 y2 y3 y4 y5 y6 y7))
  | 0 => ⟨fun _ _ _ _ r h => by simp [spec_DependsOf.l0] at h, fun _ _ _ _ _ _ _ _ r h => by simp [spec_DependsOf.l1] at h⟩
  | k + 1 => by
    obtain ⟨ih0, ih1⟩ := spec_DependsOf.mono_l k
    refine ⟨?_, ?_⟩
    · intro y0 y1 y2 y3
      unfold spec_DependsOf.l0
      repeat' first
      | (with_reducible exact ih0 _ _ _ _)
      | (with_reducible exact ih1 _ _ _ _ _ _ _ _)
      | (with_reducible exact spec_orDelays.mono _ _)
      | (with_reducible exact spec_orGood.mono _ _)
      | (with_reducible exact LeO.refl _)
      | (with_reducible exact LeO.none _)
      | (with_reducible refine LeO.ite ?_ ?_)
      | (with_reducible refine LeO.bind ?_ (fun _ => ?_))
      | exact ih0 _ _ _ _
      | exact ih1 _ _ _ _ _ _ _ _
      | exact spec_orDelays.mono _ _
      | exact spec_orGood.mono _ _
      | exact LeO.none _
      | refine LeO.ite ?_ ?_
      | refine LeO.bind ?_ (fun _ => ?_)
    · intro y0 y1 y2 y3 y4 y5 y6 y7
      unfold spec_DependsOf.l1
      repeat' first
      | (with_reducible exact ih0 _ _ _ _)
      | (with_reducible exact ih1 _ _ _ _ _ _ _ _)
      | (with_reducible exact spec_orDelays.mono _ _)
      | (with_reducible exact spec_orGood.mono _ _)
      | (with_reducible exact LeO.refl _)
      | (with_reducible exact LeO.none _)
      | (with_reducible refine LeO.ite ?_ ?_)
      | (with_reducible refine LeO.bind ?_ (fun _ => ?_))
      | exact ih0 _ _ _ _
      | exact ih1 _ _ _ _ _ _ _ _
      | exact spec_orDelays.mono _ _
      | exact spec_orGood.mono _ _
      | exact LeO.none _
      | refine LeO.ite ?_ ?_
      | refine LeO.bind ?_ (fun _ => ?_)
theorem spec_DependsOf.mono : ∀ a0 k, LeO (spec_DependsOf.f k a0) (spec_DependsOf.f (k + 1) a0) := by
  intro a0 k
  obtain ⟨ih0, ih1⟩ := spec_DependsOf.mono_l k
  unfold spec_DependsOf.f
  repeat' first
      | (with_reducible exact ih0 _ _ _ _)
      | (with_reducible exact ih1 _ _ _ _ _ _ _ _)
      | (with_reducible exact spec_orDelays.mono _ _)
      | (with_reducible exact spec_orGood.mono _ _)
      | (with_reducible exact LeO.refl _)
      | (with_reducible exact LeO.none _)
      | (with_reducible refine LeO.ite ?_ ?_)
      | (with_reducible refine LeO.bind ?_ (fun _ => ?_))
      | exact ih0 _ _ _ _
      | exact ih1 _ _ _ _ _ _ _ _
      | exact spec_orDelays.mono _ _
      | exact spec_orGood.mono _ _
      | exact LeO.none _
      | refine LeO.ite ?_ ?_
      | refine LeO.bind ?_ (fun _ => ?_)
set_option maxHeartbeats 8000000 in
set_option maxRecDepth 100000 in
theorem spec_DependsOf.calls (k : Nat) (A0 : Option Addr) (c0 : Nat) (l0 : List (S57)) (r1 : List (List Int)) (r2 : Bool) (w : World) (hr0 : Kd.C k57 w A0 l0.length l0) (hc0 : l0.length ≤ c0) (h : spec_DependsOf.f k l0 = some (r1, r2)) :
    Calls Try.prog 15 #[.slice A0 l0.length c0] w fun e w' => ∃ v0_ : Value, e = .returned (.tuple #[v0_, .bool r2]) ∧ Kd.S (Kd.slice 3 (Kd.int .i64)) 34 w' w.heap.size (fun _ => True) v0_ r1 ∧ Below w.heap.size w w' := by
  have HR0 := Aside0.mk hr0
  have HC0 := Aside0.mk hc0
  clear hr0 hc0
  have HB := Aside0.mk (Below.refl w.heap.size w)
  have H : ((spec_orGood.f k l0).bind fun t101 => (if t101 = true then ((spec_orDelays.f k l0).bind fun t102 => (spec_DependsOf.l0 k ([] : List (List Int)) t102 (t102.length : Int) 0)) else (some (([] : List (List Int)), false)))) = some (r1, r2) := h
  clear h
  replace H := Option.bind_eq_some_iff.mp H
  obtain ⟨t101, A20, H⟩ := H
  replace H : (if t101 = true then ((spec_orDelays.f k l0).bind fun t102 => (spec_DependsOf.l0 k ([] : List (List Int)) t102 (t102.length : Int) 0)) else (some (([] : List (List Int)), false))) = some (r1, r2) := H
  have A2 := Aside0.mk A20
  clear A20
  by_cases c3 : t101 = true
  rotate_left
  · replace c3 := Bool.eq_false_iff.mpr c3
    subst c3
    have H1 : (some (([] : List (List Int)), false)) = some (r1, r2) := by rw [if_neg (show ¬ (false = true) by decide)] at H; exact H
    clear H
    have H := H1
    clear H1
    simp only [Option.some.injEq, Prod.mk.injEq] at H
    obtain ⟨rfl, rfl⟩ := H
    go_enter Try.func15, Try.ntmps15
    go_wp2_with (first | ((with_reducible refine gate_callee (f := 49) rfl ?_); refine goesL_ (some 10) rfl rfl Try.func49 (by kernel_rfl) rfl #[.slice A0 l0.length c0] rfl (by (try simp only [List.map_toArray, List.map_cons, List.map_nil]); first | done | rfl | (simp only [List.length_drop, List.length_take]; rfl)) ?_; (with_reducible refine (spec_orGood.calls k _ _ l0 false _ ?side1 ?side2 A2.out).mono ?_); (case side1 => repeat (first | exact HR0.out | (with_reducible refine Kd.C_alloc ?_ _) | (with_reducible refine Kd.C_drewN ?_ _) | (with_reducible refine Kd.C_drew ?_))); (case side2 => exact HC0.out); rintro e w20 ⟨rfl, hb⟩; refine ⟨_, rfl, ?_⟩; have n0_ := Aside0.mk (below_step (by repeat (first | (with_reducible first | exact HB.out | apply below_alloc | apply pw_below_drewN | apply below_drew1) | exact HB.out)) hb); clear HB; have HB := n0_; clear n0_; (try clear hb); (try clear hb2); (try clear hk); (try clear hi)))
    go_ret2
    exact ⟨_, by first | rfl | (simp [errW_none, errW_some] <;> rfl) | (simp [*, errW_none, errW_some] <;> rfl), by first | exact Kd.S_nil _ _ _ _ _ | exact Kd.N_nil _ _ _ _ _ | exact Kd.V_nil _ _ _ _ _ | exact Kd.Q_nil _ _ _ _ _ | exact Kd.R_nil _ _ _ _ _, by repeat (first | (with_reducible first | exact HB.out | apply below_alloc | apply pw_below_drewN | apply below_drew1) | exact HB.out)⟩
  subst c3
  have H1 : ((spec_orDelays.f k l0).bind fun t102 => (spec_DependsOf.l0 k ([] : List (List Int)) t102 (t102.length : Int) 0)) = some (r1, r2) := by rw [if_pos rfl] at H; exact H
  clear H
  have H := H1
  clear H1
  replace H := Option.bind_eq_some_iff.mp H
  obtain ⟨t102, A40, H⟩ := H
  replace H : (spec_DependsOf.l0 k ([] : List (List Int)) t102 (t102.length : Int) 0) = some (r1, r2) := H
  have A4 := Aside0.mk A40
  clear A40
  have H' := Aside0.mk H
  clear H
  go_enter Try.func15, Try.ntmps15
  go_wp2_with (first | ((with_reducible refine gate_callee (f := 49) rfl ?_); refine goesL_ (some 10) rfl rfl Try.func49 (by kernel_rfl) rfl #[.slice A0 l0.length c0] rfl (by (try simp only [List.map_toArray, List.map_cons, List.map_nil]); first | done | rfl | (simp only [List.length_drop, List.length_take]; rfl)) ?_; (with_reducible refine (spec_orGood.calls k _ _ l0 true _ ?side1 ?side2 A2.out).mono ?_); (case side1 => repeat (first | exact HR0.out | (with_reducible refine Kd.C_alloc ?_ _) | (with_reducible refine Kd.C_drewN ?_ _) | (with_reducible refine Kd.C_drew ?_))); (case side2 => exact HC0.out); rintro e w5 ⟨rfl, hb⟩; refine ⟨_, rfl, ?_⟩; have n0_ := Aside0.mk (below_step (by repeat (first | (with_reducible first | exact HB.out | apply below_alloc | apply pw_below_drewN | apply below_drew1) | exact HB.out)) hb); clear HB; have HB := n0_; clear n0_; (try clear hb); (try clear hb2); (try clear hk); (try clear hi)) | ((with_reducible refine gate_callee (f := 50) rfl ?_); refine goesL_ (some 13) rfl rfl Try.func50 (by kernel_rfl) rfl #[.slice A0 l0.length c0] rfl (by (try simp only [List.map_toArray, List.map_cons, List.map_nil]); first | done | rfl | (simp only [List.length_drop, List.length_take]; rfl)) ?_; (with_reducible refine (spec_orDelays.calls k _ _ l0 t102 _ ?side1 ?side2 A4.out).mono ?_); (case side1 => repeat (first | exact (Kd.C_below HR0.out HB.out) | (with_reducible refine Kd.C_alloc ?_ _) | (with_reducible refine Kd.C_drewN ?_ _) | (with_reducible refine Kd.C_drew ?_))); (case side2 => exact HC0.out); rintro e w6 ⟨v103, rfl, ho0, hb⟩; refine ⟨_, rfl, ?_⟩; have n0_ := Aside0.mk (Kd.S_lower ho0 (below_size (by repeat (first | (with_reducible first | exact HB.out | apply below_alloc | apply pw_below_drewN | apply below_drew1) | exact HB.out)))); have n1_ := Aside0.mk (below_step (by repeat (first | (with_reducible first | exact HB.out | apply below_alloc | apply pw_below_drewN | apply below_drew1) | exact HB.out)) hb); clear HB; have HO104 := n0_; have HB := n1_; clear n0_ n1_; (try clear hb); (try clear hb2); (try clear hk); (try clear hi); (try clear ho0); obtain ⟨Ao7, co7, eo7⟩ := Kd.S_slice HO104.out; subst eo7))
  go_loopg [4, 15] k (fun kq v4 v15 w' => ∃ (x4_1 : List (List Int)) (x15_1 : Int), v15 = .int .i64 x15_1 ∧ Aside0 (spec_DependsOf.l0 kq x4_1 t102 (t102.length : Int) x15_1 = some (r1, r2)) ∧ Aside0 (kq ≤ k) ∧ Aside0 (Kd.S (Kd.slice 3 (Kd.int .i64)) 34 w' w.heap.size (fun k_ => some k_ ≠ ((.slice Ao7 t102.length co7) : Value).ownBlock) v4 x4_1) ∧ Aside0 (Kd.S (Kd.slice 3 (Kd.int .i64)) 34 w' w.heap.size (fun k_ => some k_ ≠ (v4 : Value).ownBlock) (.slice Ao7 t102.length co7) t102) ∧ Aside0 (Below w.heap.size w w'))
  case atStart => exact ⟨(([] : List (List Int))), (0), (by first | rfl | (simp; done) | (simp [*]; done)), H', ⟨Nat.le_refl _⟩, ⟨by first | exact Kd.S_nil _ _ _ _ _ | exact Kd.N_nil _ _ _ _ _ | exact Kd.V_nil _ _ _ _ _ | exact Kd.Q_nil _ _ _ _ _ | exact Kd.R_nil _ _ _ _ _⟩, ⟨by (with_reducible repeat (first | apply Kd.S_alloc | apply Kd.S_drewN | apply Kd.S_drew)); exact Kd.S_mono HO104.out (fun _ hk => (by simp [Value.ownBlock]))⟩, ⟨by repeat (first | (with_reducible first | exact HB.out | apply below_alloc | apply pw_below_drewN | apply below_drew1) | exact HB.out)⟩⟩
  clear H'
  try clear c1
  try clear p2
  try clear c3
  try clear c4
  try clear c5
  obtain ⟨x4_1, x15_1, rfl, HA, HK1, HO_4, HO_13, HB⟩ := hrel
  cases gk with
  | zero => exact absurd HA.out (by simp [spec_DependsOf.l0])
  | succ k1 =>
  have H := HA.out
  clear HA
  simp only [spec_DependsOf.l0] at H
  by_cases c8 : x15_1 < (t102.length : Int)
  rotate_left
  · rw [if_neg c8] at H
    have c8b0 : decide (x15_1 < (t102.length : Int)) = false := decide_eq_false c8
    clear c8
    simp only [Option.some.injEq, Prod.mk.injEq] at H
    obtain ⟨rfl, rfl⟩ := H
    go_wp2
    go_ret2
    exact ⟨_, by first | rfl | (simp [errW_none, errW_some] <;> rfl) | (simp [*, errW_none, errW_some] <;> rfl), by (with_reducible repeat (first | apply Kd.S_alloc | apply Kd.S_drewN | apply Kd.S_drew)); exact Kd.S_mono HO_4.out (fun _ hk => trivial), by repeat (first | (with_reducible first | exact HB.out | apply below_alloc | apply pw_below_drewN | apply below_drew1) | exact HB.out)⟩
  rw [if_pos c8] at H
  have c8b0 : decide (x15_1 < (t102.length : Int)) = true := decide_eq_true c8
  clear c8
  by_cases c9 : 0 ≤ x15_1
  rotate_left
  · rw [if_neg c9] at H
    exact absurd H (by simp)
  rw [if_pos c9] at H
  have c9b0 : decide (0 ≤ x15_1) = true := decide_eq_true c9
  clear c9
  by_cases c10 : x15_1 < (t102.length : Int)
  rotate_left
  · rw [if_neg c10] at H
    exact absurd H (by simp)
  rw [if_pos c10] at H
  have c10b0 : decide (x15_1 < (t102.length : Int)) = true := decide_eq_true c10
  clear c10
  have H' := Aside0.mk H
  clear H
  have p105 : 0 ≤ (x15_1 : Int) := of_decide_eq_true (by first | (with_reducible assumption) | assumption)
  have q105 : x15_1 < (t102.length : Int) := of_decide_eq_true (by first | (with_reducible assumption) | assumption)
  obtain ⟨ad105, A105_0, c105_0, e105, hx105_0, hl105_0, hi105_0⟩ := at_L4 (Kd.S_reads' HO_13.out).2.2 x15_1 p105 q105
  cases e105
  obtain ⟨ce105, hce105, hMe105, hcc105⟩ := Kd.S_get HO_13.out [] x15_1 p105 (by first | exact q105 | exact of_decide_eq_true (by first | (with_reducible assumption) | assumption) | (have e_ := (Kd.S_reads' HO_13.out).1; omega))
  obtain ⟨ve105_0, rfl, ge105_0⟩ := hMe105
  have hv105_0 := hcc105 0 _ rfl
  rw [Nat.add_zero, show ((Kd.slice 3 (Kd.int .i64))).sz = 1 from rfl, Nat.mul_one] at hv105_0
  replace hv105_0 := Option.some.inj (hv105_0.symm.trans hx105_0)
  rw [hv105_0] at ge105_0
  have HL105_0 := Aside0.mk (show Kd.R (Kd.int .i64) 3 _ _ _ _ (rd_L4 t102 x15_1) from ge105_0)
  clear hv105_0 ge105_0
  clear hcc105 hce105
  have HR105_0 := Aside0.mk hi105_0
  have HC105_0 := Aside0.mk hl105_0
  clear hi105_0 hl105_0
  replace p105 := eq_true p105
  replace q105 := eq_true q105
  go_wp2
  go_loopg [4, 22] k1 (fun kq v4 v22 w' => ∃ (x4_2 : List (List Int)) (x22_2 : Int), v22 = .int .i64 x22_2 ∧ Aside0 (spec_DependsOf.l1 kq x4_2 x15_1 t102 (t102.length : Int) x15_1 (rd_L4 t102 x15_1) ((rd_L4 t102 x15_1).length : Int) x22_2 = some (r1, r2)) ∧ Aside0 (kq ≤ k1) ∧ Aside0 (Kd.S (Kd.slice 3 (Kd.int .i64)) 34 w' w.heap.size (fun k_ => some k_ ≠ ((.slice (some ad105) t102.length co7) : Value).ownBlock) v4 x4_2) ∧ Aside0 (Kd.S (Kd.slice 3 (Kd.int .i64)) 34 w' w.heap.size (fun k_ => some k_ ≠ (v4 : Value).ownBlock) (.slice (some ad105) t102.length co7) t102) ∧ Aside0 (Kd.C (Kd.int .i64) w' A105_0 (rd_L4 t102 x15_1).length (rd_L4 t102 x15_1)) ∧ Aside0 (Kd.R (Kd.int .i64) 3 w' w.heap.size (fun _ => True) (.slice A105_0 (rd_L4 t102 x15_1).length c105_0) (rd_L4 t102 x15_1)) ∧ Aside0 (Below w.heap.size w w'))
  case atStart => exact ⟨(x4_1), (0), (by first | rfl | (simp; done) | (simp [*]; done)), H', ⟨Nat.le_refl _⟩, ⟨by (with_reducible repeat (first | apply Kd.S_alloc | apply Kd.S_drewN | apply Kd.S_drew)); exact HO_4.out⟩, ⟨by (with_reducible repeat (first | apply Kd.S_alloc | apply Kd.S_drewN | apply Kd.S_drew)); exact HO_13.out⟩, ⟨by repeat (first | (with_reducible exact HR105_0.out) | (with_reducible refine Kd.C_alloc ?_ _) | (with_reducible refine Kd.C_drewN ?_ _) | (with_reducible refine Kd.C_drew ?_) | exact HR105_0.out)⟩, ⟨by (with_reducible repeat (first | apply Kd.R_alloc | apply Kd.R_drewN | apply Kd.R_drew)); exact Kd.R_mono HL105_0.out (fun _ hk => trivial)⟩, ⟨by repeat (first | (with_reducible first | exact HB.out | apply below_alloc | apply pw_below_drewN | apply below_drew1) | exact HB.out)⟩⟩
  clear H'
  try clear c1
  try clear p1
  try clear q1
  try clear hx1
  try clear p2
  try clear c3
  try clear c4
  try clear c5
  try clear c8
  try clear c8b0
  try clear c9
  try clear c9b0
  try clear c10
  try clear c10b0
  try clear p10
  try clear q10
  try clear hx10
  try clear hx105_0
  try clear p105
  try clear p2
  try clear q105
  obtain ⟨x4_2, x22_2, rfl, HA, HK2, HO_4, HO_13, HR105_0, HL105_0, HB⟩ := hrel
  cases gk with
  | zero => exact absurd HA.out (by simp [spec_DependsOf.l1])
  | succ k2 =>
  have H := HA.out
  clear HA
  simp only [spec_DependsOf.l1] at H
  by_cases c11 : x22_2 < ((rd_L4 t102 x15_1).length : Int)
  rotate_left
  · rw [if_neg c11] at H
    have c11b0 : decide (x22_2 < ((rd_L4 t102 x15_1).length : Int)) = false := decide_eq_false c11
    clear c11
    have H' := Aside0.mk H
    clear H
    go_wp2
    go_roundg k2
    case measure => have := HK1.out; have := HK2.out; omega
    case rel => exact ⟨(x4_2), (wrap64 (x15_1 + 1)), (by first | rfl | (simp; done) | (simp [*]; done)), H', ⟨by have := HK1.out; have := HK2.out; omega⟩, ⟨by (with_reducible repeat (first | apply Kd.S_alloc | apply Kd.S_drewN | apply Kd.S_drew)); exact HO_4.out⟩, ⟨by (with_reducible repeat (first | apply Kd.S_alloc | apply Kd.S_drewN | apply Kd.S_drew)); exact HO_13.out⟩, ⟨by repeat (first | (with_reducible first | exact HB.out | apply below_alloc | apply pw_below_drewN | apply below_drew1) | exact HB.out)⟩⟩
  rw [if_pos c11] at H
  have c11b0 : decide (x22_2 < ((rd_L4 t102 x15_1).length : Int)) = true := decide_eq_true c11
  clear c11
  by_cases c12 : 0 ≤ x22_2
  rotate_left
  · rw [if_neg c12] at H
    exact absurd H (by simp)
  rw [if_pos c12] at H
  have c12b0 : decide (0 ≤ x22_2) = true := decide_eq_true c12
  clear c12
  by_cases c13 : x22_2 < ((rd_L4 t102 x15_1).length : Int)
  rotate_left
  · rw [if_neg c13] at H
    exact absurd H (by simp)
  rw [if_pos c13] at H
  have c13b0 : decide (x22_2 < ((rd_L4 t102 x15_1).length : Int)) = true := decide_eq_true c13
  clear c13
  by_cases c14 : (rd (rd_L4 t102 x15_1) x22_2) ≥ 0
  rotate_left
  · rw [if_neg c14] at H
    have c14b0 : decide (0 ≤ (rd (rd_L4 t102 x15_1) x22_2)) = false := decide_eq_false c14
    clear c14
    have H' := Aside0.mk H
    clear H
    have p106 : 0 ≤ (x22_2 : Int) := of_decide_eq_true (by first | (with_reducible assumption) | assumption)
    have q106 : x22_2 < ((rd_L4 t102 x15_1).length : Int) := of_decide_eq_true (by first | (with_reducible assumption) | assumption)
    obtain ⟨ad106, e106, hx106_0⟩ := Kd.at_int HR105_0.out x22_2 p106 q106
    cases e106
    replace p106 := eq_true p106
    replace q106 := eq_true q106
    go_wp2
    go_roundg k2
    case measure => have := HK1.out; have := HK2.out; omega
    case rel => exact ⟨(x4_2), (wrap64 (x22_2 + 1)), (by first | rfl | (simp; done) | (simp [*]; done)), H', ⟨by have := HK1.out; have := HK2.out; omega⟩, ⟨by (with_reducible repeat (first | apply Kd.S_alloc | apply Kd.S_drewN | apply Kd.S_drew)); exact HO_4.out⟩, ⟨by (with_reducible repeat (first | apply Kd.S_alloc | apply Kd.S_drewN | apply Kd.S_drew)); exact HO_13.out⟩, ⟨by repeat (first | (with_reducible exact HR105_0.out) | (with_reducible refine Kd.C_alloc ?_ _) | (with_reducible refine Kd.C_drewN ?_ _) | (with_reducible refine Kd.C_drew ?_) | exact HR105_0.out)⟩, ⟨by (with_reducible repeat (first | apply Kd.R_alloc | apply Kd.R_drewN | apply Kd.R_drew)); exact HL105_0.out⟩, ⟨by repeat (first | (with_reducible first | exact HB.out | apply below_alloc | apply pw_below_drewN | apply below_drew1) | exact HB.out)⟩⟩
  rw [if_pos c14] at H
  have c14b0 : decide (0 ≤ (rd (rd_L4 t102 x15_1) x22_2)) = true := decide_eq_true c14
  clear c14
  obtain ⟨y107, hy107⟩ : ∃ y_ : List Int, y_ = (([x15_1, x22_2, rd (rd_L4 t102 x15_1) x22_2] : List Int)) := ⟨_, rfl⟩
  replace H : (if x4_2.length < 5864062014805 then (spec_DependsOf.l1 k2 (x4_2 ++ [y107]) x15_1 t102 (t102.length : Int) x15_1 (rd_L4 t102 x15_1) ((rd_L4 t102 x15_1).length : Int) (wrap64 (x22_2 + 1))) else (none)) = some (r1, r2) := by first | (rw [hy107]; with_reducible exact H) | (have H2_ := (Option.bind_some _ _).symm.trans H; rw [hy107]; with_reducible exact H2_) | (have H2_ := (Option.bind_some _ _).symm.trans H; with_reducible exact H2_) | with_reducible exact H | (rw [hy107]; exact H) | exact H
  have Ny107 := Aside0.mk hy107
  clear hy107
  by_cases c15 : x4_2.length < 5864062014805
  rotate_left
  · rw [if_neg c15] at H
    exact absurd H (by simp)
  rw [if_pos c15] at H
  have LMc15 := Aside0.mk c15
  clear c15
  obtain ⟨y110, hy110⟩ : ∃ y_ : List (List Int), y_ = (x4_2 ++ [y107]) := ⟨_, rfl⟩
  replace H : (spec_DependsOf.l1 k2 y110 x15_1 t102 (t102.length : Int) x15_1 (rd_L4 t102 x15_1) ((rd_L4 t102 x15_1).length : Int) (wrap64 (x22_2 + 1))) = some (r1, r2) := by first | (rw [hy110]; with_reducible exact H) | (have H2_ := (Option.bind_some _ _).symm.trans H; rw [hy110]; with_reducible exact H2_) | (have H2_ := (Option.bind_some _ _).symm.trans H; with_reducible exact H2_) | with_reducible exact H | (rw [hy110]; exact H) | exact H
  have Ny110 := Aside0.mk hy110
  clear hy110
  have H' := Aside0.mk H
  clear H
  have p106 : 0 ≤ (x22_2 : Int) := of_decide_eq_true (by first | (with_reducible assumption) | assumption)
  have q106 : x22_2 < ((rd_L4 t102 x15_1).length : Int) := of_decide_eq_true (by first | (with_reducible assumption) | assumption)
  obtain ⟨ad106, e106, hx106_0⟩ := Kd.at_int HR105_0.out x22_2 p106 q106
  cases e106
  replace p106 := eq_true p106
  replace q106 := eq_true q106
  go_wp2_with (first | ((with_reducible refine gate_dst (N := 33) rfl ?_); refine Kd.R_lit (Kd.int .i64) _ 3 ?hg (N := 33) ?hd (xs := ([x15_1, x22_2, rd (rd_L4 t102 x15_1) x22_2] : List Int)) (inner := [.int .i64 x15_1, .int .i64 x22_2, .int .i64 (rd (rd_L4 t102 x15_1) x22_2)]) (ok := fun _ => True) (okp := fun _ => True) ?hr ?hp (fun _ hk => hk) trivial (Below.refl _ _) (Nat.le_refl _) (by simp) ?_; (case hd => rfl); (case hg => rfl); (case hr => first | (go_simp; done) | (go_simp; rfl)); (case hp => exact (Reps.one (show Kd.M (Kd.int .i64) _ _ _ x15_1 [.int .i64 x15_1] from rfl) (Reps.one (show Kd.M (Kd.int .i64) _ _ _ x22_2 [.int .i64 x22_2] from rfl) (Reps.one (show Kd.M (Kd.int .i64) _ _ _ (rd (rd_L4 t102 x15_1) x22_2) [.int .i64 (rd (rd_L4 t102 x15_1) x22_2)] from rfl) (Reps.none _ _))))); intro v108 w16 ho17 hb hg_ hnew_; clear hg_ hnew_; (first | rw [← Ny107.out] at ho17 | (simp only [Int.reduceToNat] at ho17; rw [← Ny107.out] at ho17)); have n0_ := Aside0.mk (Kd.S_elder' (by (with_reducible repeat (first | apply Kd.S_alloc | apply Kd.S_drewN | apply Kd.S_drew)); exact HO_4.out) (Kd.R_base ho17) hb); have n1_ := Aside0.mk (Kd.S_elder' (by (with_reducible repeat (first | apply Kd.S_alloc | apply Kd.S_drewN | apply Kd.S_drew)); exact HO_13.out) (Kd.R_base ho17) hb); have n2_ := Aside0.mk (Kd.R_elder' (by (with_reducible repeat (first | apply Kd.R_alloc | apply Kd.R_drewN | apply Kd.R_drew)); exact HL105_0.out) (Kd.R_base ho17) hb); have n3_ := Aside0.mk (Kd.R_lower (Kd.R_new' ho17 (Kd.R_lt (by (with_reducible repeat (first | apply Kd.R_alloc | apply Kd.R_drewN | apply Kd.R_drew)); exact HL105_0.out))) (below_size (by repeat (first | (with_reducible first | exact HB.out | apply below_alloc | apply pw_below_drewN | apply below_drew1) | exact HB.out)))); have n4_ := Aside0.mk (Kd.C_below (by repeat (first | (with_reducible exact HR105_0.out) | (with_reducible refine Kd.C_alloc ?_ _) | (with_reducible refine Kd.C_drewN ?_ _) | (with_reducible refine Kd.C_drew ?_) | exact HR105_0.out)) hb); have n5_ := Aside0.mk (below_step (by repeat (first | (with_reducible first | exact HB.out | apply below_alloc | apply pw_below_drewN | apply below_drew1) | exact HB.out)) hb); clear HO_4; clear HO_13; clear HL105_0; clear HR105_0; clear HB; have HO_4 := n0_; have HO_13 := n1_; have HL105_0 := n2_; have HO109 := n3_; have HR105_0 := n4_; have HB := n5_; clear n0_ n1_ n2_ n3_ n4_ n5_; clear hb ho17; obtain ⟨Ao19, co19, eo19⟩ := Kd.R_slice HO109.out; subst eo19) | ((with_reducible refine gate_builtin (b := .append) (xs := #[.tmp 29, .tmp 34]) rfl ?_); at_builtin; refine Kd.S_append (Kd.slice 3 (Kd.int .i64)) (w0 := w) w.heap.size rfl (.tmp 29) (.tmp 34) 24 34 (.slice none 0 0) 24 rfl Try.underlying24 info34 rfl (by decide) (by omega) u4 x4_2 y107 [.slice Ao19 y107.length co19] (fun k_ => some k_ ≠ (.slice (some ad105) t102.length co7 : Value).ownBlock) (fun k_ => some k_ = (.slice Ao19 y107.length co19 : Value).ownBlock) rfl rfl ?aP (fun k_ hk_ => ((Kd.R_mono (ok' := fun k_ => ((fun k_ => some k_ ≠ (.slice (some ad105) t102.length co7 : Value).ownBlock)) k_ ∧ some k_ ≠ (u4 : Value).ownBlock) (Kd.R_apart' (Kd.R_apart' (HO109.out) (Kd.S_typed HO_13.out) (by decide)) (Kd.S_typed HO_4.out) (by decide)) (fun k_ hk => ⟨hk.1.2, hk.2⟩))).1 k_ hk_.symm) ?aF ?aO ?aB ?aS ?aL ?_; (case aP => exact Kd.M_row (Kd.R_mono (Kd.R_tight rfl (Kd.R_mono (ok' := fun k_ => ((fun k_ => some k_ ≠ (.slice (some ad105) t102.length co7 : Value).ownBlock)) k_ ∧ some k_ ≠ (u4 : Value).ownBlock) (Kd.R_apart' (Kd.R_apart' (HO109.out) (Kd.S_typed HO_13.out) (by decide)) (Kd.S_typed HO_4.out) (by decide)) (fun k_ hk => ⟨hk.1.2, hk.2⟩))) (fun _ h_ => h_))); (case aB => exact (by repeat (first | (with_reducible first | exact HB.out | apply below_alloc | apply pw_below_drewN | apply below_drew1) | exact HB.out))); (case aF => exact (fun k_ hk => Kd.fresh' (Kd.S_lt (by (with_reducible repeat (first | apply Kd.S_alloc | apply Kd.S_drewN | apply Kd.S_drew)); exact HO_13.out)) k_ hk)); (case aO => exact (by (with_reducible repeat (first | apply Kd.S_alloc | apply Kd.S_drewN | apply Kd.S_drew)); exact Kd.S_mono HO_4.out (fun k_ hk => ⟨hk.1, fun e_ => hk.2 e_⟩))); (case aS => exact (below_size (by repeat (first | (with_reducible first | exact HB.out | apply below_alloc | apply pw_below_drewN | apply below_drew1) | exact HB.out)))); (case aL => have := LMc15.out; omega); intro v111 w18 ho hb hg hat; rw [← Ny110.out] at ho; have n0_ := Aside0.mk (Kd.S_after (ok := (fun k_ => some k_ ≠ (.slice Ao19 y107.length co19 : Value).ownBlock)) (by (with_reducible repeat (first | apply Kd.S_alloc | apply Kd.S_drewN | apply Kd.S_drew)); exact Kd.S_mono HO_13.out (fun _ hk => ⟨hk.2, hk.1⟩)) hg hat); have n1_ := Aside0.mk (Kd.R_over' (by (with_reducible repeat (first | apply Kd.R_alloc | apply Kd.R_drewN | apply Kd.R_drew)); exact HL105_0.out) (Kd.S_typed (by (with_reducible repeat (first | apply Kd.S_alloc | apply Kd.S_drewN | apply Kd.S_drew)); exact HO_4.out)) (by decide) hg); have n2_ := Aside0.mk (hb); have n3_ := Aside0.mk (ho); clear HO_13; clear HL105_0; clear HB; clear HO_4; clear HO109; have HO_13 := n0_; have HL105_0 := n1_; have HB := n2_; have HO112 := n3_; clear n0_ n1_ n2_ n3_; clear ho hb hg hat))
  go_roundg k2
  case measure => have := HK1.out; have := HK2.out; omega
  case rel => exact ⟨(y110), (wrap64 (x22_2 + 1)), (by first | rfl | (simp; done) | (simp [*]; done)), H', ⟨by have := HK1.out; have := HK2.out; omega⟩, ⟨by (with_reducible repeat (first | apply Kd.S_alloc | apply Kd.S_drewN | apply Kd.S_drew)); exact HO112.out⟩, ⟨by (with_reducible repeat (first | apply Kd.S_alloc | apply Kd.S_drewN | apply Kd.S_drew)); exact Kd.S_mono HO_13.out (fun _ hk => hk.2)⟩, ⟨(Kd.R_reads' (by (with_reducible repeat (first | apply Kd.R_alloc | apply Kd.R_drewN | apply Kd.R_drew)); exact HL105_0.out)).2.2⟩, ⟨by (with_reducible repeat (first | apply Kd.R_alloc | apply Kd.R_drewN | apply Kd.R_drew)); exact Kd.R_mono HL105_0.out (fun _ hk => trivial)⟩, ⟨by repeat (first | (with_reducible first | exact HB.out | apply below_alloc | apply pw_below_drewN | apply below_drew1) | exact HB.out)⟩⟩
end Go.Proofs.Yteaablbhdmkcpaa.Q
end
section
namespace Go.Proofs.Yteaablbhdmkcpaa.Q
open Go.RowKit Go.Proofs.YteaablbhdmkcpaaW.PrintWords Go.Proofs.YteaablbhdmkcpaaW.PrintLast Go.Proofs.YteaablbhdmkcpaaW.PrintMore
attribute [local go_sem] max2_int min2_int max_two min_two max_three min_three max_four min_four
set_option linter.unusedVariables false
set_option linter.unusedSimpArgs false
def laws_FnExactDependsOf.f (k : Nat) (l0 : List (S54)) : Option Bool :=
  (laws_szInstrS.f k l0 1048576).bind fun t => if t < 0 then some true else
  (laws_toInstrS.f k l0).bind fun c => (spec_DependsOf.f k c).bind fun s => (impl_DependsOf.f k c).bind fun g =>
  (laws_eqIntSS.f k g.1 s.1).bind fun e1 => (laws_eqInstrS.f k c c).bind fun e2 => (laws_markInstrS.f k c 1).bind fun m => (laws_markIntSS.f k g.1 1).bind fun m2 => (laws_heldIntSS.f k m2.2 1).bind fun q =>
  if e1 = true ∧ g.2 = s.2 ∧ e2 = true ∧ 0 ≤ m.1 ∧ q = m2.1 ∧ 0 ≤ q then some true else none
set_option maxHeartbeats 4000000 in
set_option maxRecDepth 100000 in
theorem laws_FnExactDependsOf.calls (k : Nat) (A0 : Option Addr) (c0 : Nat) (l0 : List (S54)) (r : Bool) (w : World) (hr0 : Kd.C k54 w A0 l0.length l0) (hc0 : l0.length ≤ c0) (h : laws_FnExactDependsOf.f k l0 = some r) :
    Calls Try.prog 3 #[.slice A0 l0.length c0] w fun e w' => e = .returned (.bool r) ∧ Below w.heap.size w w' := by
  have HR := Aside0.mk hr0
  have HC := Aside0.mk hc0
  clear hr0 hc0
  unfold laws_FnExactDependsOf.f at h
  obtain ⟨t, ht, h⟩ := Option.bind_eq_some_iff.1 h
  have Ht := Aside0.mk ht
  clear ht
  by_cases hneg : t < 0
  · rw [if_pos hneg] at h
    obtain rfl := Option.some.inj h
    clear h
    have hd : decide (t < 0) = true := decide_eq_true hneg
    go_enter Try.func3, Try.ntmps3
    go_wp2_with fail
    (with_reducible refine (laws_szInstrS.calls k _ _ l0 1048576 t _ HR.out HC.out Ht.out).mono ?_)
    rintro e w1 ⟨rfl, hb⟩
    have HB := Aside0.mk hb
    clear hb
    go_wp2_with fail
    go_ret
    exact ⟨rfl, HB.out⟩
  rw [if_neg hneg] at h
  have hd : decide (t < 0) = false := decide_eq_false hneg
  obtain ⟨c, hc, h⟩ := Option.bind_eq_some_iff.1 h
  obtain ⟨⟨s1, s2⟩, hs, h⟩ := Option.bind_eq_some_iff.1 h
  obtain ⟨⟨g1, g2⟩, hg, h⟩ := Option.bind_eq_some_iff.1 h
  obtain ⟨e1, he1, h⟩ := Option.bind_eq_some_iff.1 h
  obtain ⟨e2, he2, h⟩ := Option.bind_eq_some_iff.1 h
  obtain ⟨⟨m, mc⟩, hm, h⟩ := Option.bind_eq_some_iff.1 h
  obtain ⟨⟨q, qc⟩, hq, h⟩ := Option.bind_eq_some_iff.1 h
  obtain ⟨q2, hq2, h⟩ := Option.bind_eq_some_iff.1 h
  by_cases hall : e1 = true ∧ g2 = s2 ∧ e2 = true ∧ 0 ≤ m ∧ q2 = q ∧ 0 ≤ q2
  rotate_left
  · rw [if_neg hall] at h
    cases h
  rw [if_pos hall] at h
  obtain rfl := Option.some.inj h
  obtain ⟨rfl, rfl, rfl, hm0, rfl, hq0⟩ := hall
  clear h
  have dm : decide (m < 0) = false := decide_eq_false (by omega)
  have dq : decide (q2 < 0) = false := decide_eq_false (by omega)
  have H1 := Aside0.mk hc
  have H2 := Aside0.mk hs
  have H3 := Aside0.mk hg
  have H4 := Aside0.mk he1
  have H5 := Aside0.mk he2
  have H6 := Aside0.mk hm
  have H7 := Aside0.mk hq
  have H8 := Aside0.mk hq2
  clear hc hs hg he1 he2 hm hq hq2 hneg
  go_enter Try.func3, Try.ntmps3
  go_wp2_with fail
  (with_reducible refine (laws_szInstrS.calls k _ _ l0 1048576 t _ HR.out HC.out Ht.out).mono ?_)
  rintro e w1 ⟨rfl, hb⟩
  have HB := Aside0.mk hb
  clear hb
  go_wp2_with fail
  (with_reducible refine (laws_toInstrS.calls k _ _ l0 c _ (Kd.C_below HR.out HB.out) HC.out H1.out).mono ?_)
  rintro e w2 ⟨v, rfl, ho, hb⟩
  obtain ⟨A1, c1, rfl, hl1, hC1⟩ := Kd.R_reads ho
  have n := Aside0.mk (below_step HB.out hb)
  clear HB hb ho
  have HB := n
  clear n
  have HC1 := Aside0.mk hC1
  have HL1 := Aside0.mk hl1
  clear hC1 hl1
  go_wp2_with fail
  (with_reducible refine (spec_DependsOf.calls k _ _ c s1 g2 _ HC1.out HL1.out H2.out).mono ?_)
  rintro e wA ⟨v, rfl, ho, hb⟩
  obtain ⟨A2, c2, rfl, hl2, hC2⟩ := Kd.S_reads ho
  have n := Aside0.mk (below_step HB.out hb)
  clear HB hb ho HC1 HL1
  have HB := n
  clear n
  have HBA := Aside0.mk HB.out
  have HC2 := Aside0.mk hC2
  have HL2 := Aside0.mk hl2
  clear hC2 hl2
  go_wp2_with fail
  (with_reducible refine (laws_toInstrS.calls k _ _ l0 c _ (Kd.C_below HR.out HB.out) HC.out H1.out).mono ?_)
  rintro e w4 ⟨v, rfl, ho, hb⟩
  obtain ⟨A3, c3, rfl⟩ := Kd.R_slice ho
  have HA := Aside0.mk hb
  have n := Aside0.mk (below_step HB.out hb)
  have HX := Aside0.mk ho
  clear HB hb ho
  have HB := n
  clear n
  go_wp2_with fail
  (with_reducible refine (impl_DependsOf.calls k _ _ c g1 g2 _ (Kd.R_reads' HX.out).2.2 (Kd.R_reads' HX.out).2.1 H3.out).mono ?_)
  rintro e w5 ⟨v, rfl, ho, hb⟩
  obtain ⟨A4, c4, rfl⟩ := Kd.S_slice ho
  have HX4 := Aside0.mk (show _ ≤ w4.heap.size ∧ w4.heap.size ≤ w5.heap.size from ⟨HA.out.size, hb.size⟩)
  have n1 := Aside0.mk (Kd.S_bound ho)
  have n2 := Aside0.mk (Kd.R_below (Kd.R_bound HX.out) hb)
  have n3 := Aside0.mk (below_step HB.out hb)
  have n4 := Aside0.mk (below_step HA.out hb)
  clear HB HA HX hb ho
  have HG := n1
  have HX := n2
  have HB := n3
  have HA := n4
  clear n1 n2 n3 n4
  go_wp2_with fail
  (with_reducible refine (laws_eqIntSS.calls k _ _ g1 _ _ s1 true _ (Kd.S_reads' HG.out).2.2 (Kd.S_reads' HG.out).2.1 (Kd.C_below HC2.out HA.out) HL2.out H4.out).mono ?_)
  rintro e w6 ⟨rfl, ⟨nd, rfl⟩⟩
  go_wp2_with fail
  (with_reducible refine (laws_toInstrS.calls k _ _ l0 c _ (Kd.C_below HR.out (pw_below_drewN HB.out _)) HC.out H1.out).mono ?_)
  rintro e w7 ⟨v, rfl, ho, hb⟩
  obtain ⟨A5, c5, rfl, hl5, hC5⟩ := Kd.R_reads ho
  have n1 := Aside0.mk (Kd.S_below (Kd.S_drewN HG.out nd) hb)
  have n2 := Aside0.mk (Kd.R_below (Kd.R_drewN HX.out nd) hb)
  have n3 := Aside0.mk (below_step (pw_below_drewN HB.out nd) hb)
  have n4 := Aside0.mk (below_step (pw_below_drewN HA.out nd) hb)
  have HC5 := Aside0.mk hC5
  have HL5 := Aside0.mk hl5
  clear HB HA HX HG hb ho hC5 hl5
  have HG := n1
  have HX := n2
  have HB := n3
  have HA := n4
  clear n1 n2 n3 n4
  go_wp2_with fail
  (with_reducible refine (laws_eqInstrS.calls k _ _ c _ _ c true _ (Kd.R_reads' HX.out).2.2 (Kd.R_reads' HX.out).2.1 HC5.out HL5.out H5.out).mono ?_)
  rintro e w8 ⟨rfl, hb⟩
  have n1 := Aside0.mk (Kd.S_below HG.out hb)
  have n2 := Aside0.mk (Kd.R_below HX.out hb)
  have n3 := Aside0.mk (below_step HB.out hb)
  have n4 := Aside0.mk (below_step HA.out hb)
  clear HB HA HX HG hb HC5 HL5
  have HG := n1
  have HX := n2
  have HB := n3
  have HA := n4
  clear n1 n2 n3 n4
  go_wp2_with fail
  (with_reducible refine (laws_markInstrS.calls k (fun k_ => k_ < w4.heap.size) _ c 1 m mc wA _ HA.out ?side1 H6.out).mono ?_)
  case side1 => exact Kd.R_mono (Kd.R_lower HX.out (Nat.le_refl _)) (fun k_ hk => hk.2.2.1)
  rintro e w9 ⟨rfl, _, hA9, hk9⟩
  have n1 := Aside0.mk (Kd.S_kept HG.out hk9 (fun k_ hk h_ => by have := hk.2.1; omega))
  have n3 := Aside0.mk (below_weaken HBA.out HBA.out.size hA9)
  clear HB HA HG HX
  have HG := n1
  have HB := n3
  have HA := Aside0.mk hA9
  clear n1 n3 hA9 hk9
  go_wp2_with fail
  (with_reducible refine (laws_eqIntSS.calls k _ _ g1 _ _ s1 true _ (Kd.S_reads' HG.out).2.2 (Kd.S_reads' HG.out).2.1 (Kd.C_below HC2.out HA.out) HL2.out H4.out).mono ?_)
  rintro e w10 ⟨rfl, ⟨nd2, rfl⟩⟩
  go_wp2_with fail
  (with_reducible refine (laws_markIntSS.calls k (fun _ => True) _ g1 1 q2 qc wA _ (pw_below_drewN HA.out _) ?side3 H7.out).mono ?_)
  case side3 => exact Kd.S_mono (Kd.S_lower (Kd.S_drewN HG.out nd2) HX4.out.1) (fun _ _ => trivial)
  rintro e w11 ⟨rfl, hG, hA9, hk9⟩
  have n3 := Aside0.mk (below_weaken HBA.out HBA.out.size hA9)
  clear HB HA HG
  have HG := Aside0.mk hG
  have HE := Aside0.mk (Kd.S_reads' hG).1
  have HE2 := Aside0.mk (show qc.length ≤ c4 from (Kd.S_reads' hG).1 ▸ (Kd.S_reads' hG).2.1)
  have HB := n3
  have HA := Aside0.mk hA9
  clear n3 hA9 hk9 hG
  go_wp2_with fail
  refine calls_of_args (args' := #[.slice A4 qc.length c4, .int .i64 1]) (by rw [HE.out]) ?_
  (with_reducible refine (laws_heldIntSS.calls k _ _ qc 1 q2 _ (Kd.S_reads' HG.out).2.2 HE2.out H8.out).mono ?_)
  rintro e w12 ⟨rfl, ⟨nd3, rfl⟩⟩
  go_wp2_with fail
  (with_reducible refine (laws_toInstrS.calls k _ _ l0 c _ (Kd.C_below HR.out (pw_below_drewN HB.out _)) HC.out H1.out).mono ?_)
  rintro e w13 ⟨v, rfl, ho, hb⟩
  obtain ⟨A6, c6, rfl, hl6, hC6⟩ := Kd.R_reads ho
  have n1 := Aside0.mk (Kd.S_below (Kd.S_drewN HG.out nd3) hb)
  have n3 := Aside0.mk (below_step (pw_below_drewN HB.out nd3) hb)
  have n4 := Aside0.mk (below_step (pw_below_drewN HA.out nd3) hb)
  have HC6 := Aside0.mk hC6
  have HL6 := Aside0.mk hl6
  clear HB HA HG hb ho hC6 hl6
  have HG := n1
  have HB := n3
  have HA := n4
  clear n1 n3 n4
  go_wp2_with fail
  (with_reducible refine (impl_DependsOf.calls k _ _ c g1 g2 _ HC6.out HL6.out H3.out).mono ?_)
  rintro e w14 ⟨v, rfl, ho, hb⟩
  obtain ⟨A7, c7, rfl, hl7, hC7⟩ := Kd.S_reads ho
  have n1 := Aside0.mk (Kd.S_below HG.out hb)
  have n3 := Aside0.mk (below_step HB.out hb)
  have n4 := Aside0.mk (below_step HA.out hb)
  have HC7 := Aside0.mk hC7
  have HL7 := Aside0.mk hl7
  clear HB HA HG hb ho hC7 hl7 HC6 HL6
  have HG := n1
  have HB := n3
  have HA := n4
  clear n1 n3 n4
  go_wp2_with fail
  (with_reducible refine (laws_eqIntSS.calls k _ _ g1 _ _ s1 true _ HC7.out HL7.out (Kd.C_below HC2.out HA.out) HL2.out H4.out).mono ?_)
  rintro e w15 ⟨rfl, ⟨nd4, rfl⟩⟩
  go_wp2_with fail
  refine calls_of_args (args' := #[.slice A4 qc.length c4, .int .i64 1]) (by rw [HE.out]) ?_
  (with_reducible refine (laws_heldIntSS.calls k _ _ qc 1 q2 _ (Kd.C_drewN (Kd.S_reads' HG.out).2.2 _) HE2.out H8.out).mono ?_)
  rintro e w16 ⟨rfl, ⟨nd5, rfl⟩⟩
  go_wp2_with fail
  go_ret
  exact ⟨rfl, pw_below_drewN HB.out _⟩
end Go.Proofs.Yteaablbhdmkcpaa.Q
end
section
namespace Go.Proofs.Yteaablbhdmkcpaa.Rd
open Go Go.RowKit Go.Proofs.YteaablbhdmkcpaaW.PrintWords Go.Proofs.YteaablbhdmkcpaaW.PrintLast Go.ChangeShapes Go.WideShapes Go.Deep
set_option linter.unusedSimpArgs false
set_option linter.unusedVariables false
structure RdK {α : Type} (d : Kd α) (P : Program) (t : TypeId) (Good : α → Prop) : Prop where
  size : P.cellsOf t = d.sz
  get : ∀ {H : Type} {enc : TypeId × Value → H} {w : World} {n : Nat} {cs : List Value} {x : DataW H × List MemPlace}, DataW.trod enc P w 0 (fun _ => true) true n t cs = some x → ∃ a, d.K w a cs ∧ Good a
def okInt (k : IntKind) (n : Int) : Prop := (Lit.int k n).wf = true
def okStr (s : ByteArray) : Prop := s.size ≤ maxLen
def okSl {α : Type} (G : α → Prop) (xs : List α) : Prop := xs.length ≤ maxLen ∧ ∀ x ∈ xs, G x
theorem rk_int {P : Program} {t : TypeId} {k : IntKind} (ht : P.underlying t = some (.int k)) (hs : P.cellsOf t = 1) : RdK (Kd.int k) P t (okInt k) :=
  ⟨hs, fun h => by obtain ⟨n, rfl, _, hw⟩ := DataW.trod_int ht h; exact ⟨n, rfl, hw⟩⟩
theorem rk_string {P : Program} {t : TypeId} (ht : P.underlying t = some .string) (hs : P.cellsOf t = 1) : RdK Kd.string P t okStr :=
  ⟨hs, fun h => by obtain ⟨n, rfl, _, hw⟩ := DataW.trod_string ht h; exact ⟨n, rfl, hw⟩⟩
theorem rk_slice {α : Type} {d : Kd α} {P : Program} {t e : TypeId} {G : α → Prop} (hd : RdK d P e G) (ht : P.underlying t = some (.slice e)) (hs : P.cellsOf t = 1) : RdK (Kd.slice e d) P t (okSl G) := by
  refine ⟨hs, fun {H enc w n cs x} h => ?_⟩
  rcases open_slice ht h with ⟨rfl, _⟩ | ⟨a, len, cap, m, n', D, Pl, rfl, _, hl, hm, hmm, _, hx⟩
  · exact ⟨[], ⟨none, 0, rfl, Nat.le_refl _, rfl, Nat.zero_le _, fun h => absurd h (Nat.lt_irrefl 0)⟩, Nat.zero_le _, fun _ h => by cases h⟩
  · have hc : m = cap := by simpa using hmm
    subst hc
    have key : ∀ i : Fin len, ∃ a' : α, ∃ cs', d.K w a' cs' ∧ G a' ∧ w.cells? 0 (a.add (i * P.cellsOf e)) (P.cellsOf e) = some cs' := fun i => by
      obtain ⟨cs', h1, h2⟩ := hx i (by omega)
      obtain ⟨a', h3, h4⟩ := hd.get h2
      exact ⟨a', cs', h3, h4, h1⟩
    have hlen : (List.ofFn fun i => Classical.choose (key i)).length = len := List.length_ofFn
    refine ⟨List.ofFn fun i => Classical.choose (key i), ⟨some a, m, by rw [hlen], by omega, hlen.trans hlen.symm, ?_, fun _ => ⟨a, rfl, fun j p hj => ?_⟩⟩, by rw [hlen]; omega, fun y hy => ?_⟩
    · rw [hlen]; unfold maxLen at hm; omega
    · have hjl : j < len := by
        have := (List.getElem?_eq_some_iff.1 hj).1
        rwa [hlen] at this
      rw [List.getElem?_ofFn, dif_pos hjl, Option.some.injEq] at hj
      obtain ⟨cs', h1, h2, h3⟩ := Classical.choose_spec (key ⟨j, hjl⟩)
      rw [hj] at h1 h2
      obtain ⟨_, h5, h6⟩ := World.cells?_some h3
      refine ⟨cs', d.K_len h1, h1, fun i u hi => ?_⟩
      have hil : i < P.cellsOf e := by
        have := (List.getElem?_eq_some_iff.1 hi).1
        omega
      have := h6 i hil
      rw [Go.Deep.add_add] at this
      rw [← hd.size]
      exact this.trans hi
    · obtain ⟨i, rfl⟩ := List.mem_ofFn.1 hy
      obtain ⟨cs', h1, h2, h3⟩ := Classical.choose_spec (key i)
      exact h2
structure RdF {α : Type} (d : Kd α) (P : Program) (fs : List Field) (off : Nat) (Good : α → Prop) : Prop where
  get : ∀ {H : Type} {enc : TypeId × Value → H} {w : World} {n : Nat} {cs : List Value}, cs.length = off + d.sz →
    (∀ f ∈ fs, ∃ y, DataW.trod enc P w 0 (fun _ => true) true n f.type ((cs.drop f.offset).take (P.cellsOf f.type)) = some y) → ∃ a, d.K w a (cs.drop off) ∧ Good a
theorem rf_one {α : Type} {d : Kd α} {P : Program} {f : Field} {G : α → Prop} (hd : RdK d P f.type G) : RdF d P [f] f.offset G := by
  refine ⟨fun {H enc w n cs} hl h => ?_⟩
  obtain ⟨y, hy⟩ := h f (List.mem_singleton.2 rfl)
  rw [hd.size, List.take_of_length_le (by rw [List.length_drop]; omega)] at hy
  exact hd.get hy
theorem rf_cons {α β : Type} {d : Kd α} {d' : Kd β} {P : Program} {f : Field} {fs : List Field} {G : α → Prop} {G' : β → Prop} {off' : Nat} (hd : RdK d P f.type G) (ho : off' = f.offset + d.sz) (hf : RdF d' P fs off' G') :
    RdF (Kd.pair d d') P (f :: fs) f.offset (fun x => G x.1 ∧ G' x.2) := by
  refine ⟨fun {H enc w n cs} hl h => ?_⟩
  have hl' : cs.length = f.offset + (d.sz + d'.sz) := hl
  obtain ⟨y, hy⟩ := h f List.mem_cons_self
  rw [hd.size] at hy
  obtain ⟨a, h1, h2⟩ := hd.get hy
  obtain ⟨b, h3, h4⟩ := hf.get (cs := cs) (by omega) (fun g hg => h g (List.mem_cons_of_mem _ hg))
  refine ⟨(a, b), ⟨_, _, ?_, h1, h3⟩, h2, h4⟩
  rw [ho, ← List.drop_drop, List.take_append_drop]
theorem rk_struct {α : Type} {d : Kd α} {P : Program} {t : TypeId} {fs : Array Field} {G : α → Prop} (ht : P.underlying t = some (.struct fs)) (hs : P.cellsOf t = d.sz) (hf : RdF d P fs.toList 0 G) : RdK d P t G := by
  refine ⟨hs, fun {H enc w n cs x} h => ?_⟩
  obtain ⟨xs, n', _, _, hl, hlen, hg⟩ := DataW.trod_struct ht h
  have := hf.get (cs := cs) (enc := enc) (w := w) (n := n') (by omega) (fun f hf' => by
    obtain ⟨i, hi, he⟩ := List.getElem_of_mem hf'
    have h1 : fs[i]? = some f := by rw [← Array.getElem?_toList, List.getElem?_eq_getElem hi, he]
    have h2 := hg i f h1
    rw [List.getElem?_eq_getElem (by rw [hlen]; simpa using hi)] at h2
    exact ⟨_, h2⟩)
  simpa using this
theorem rk_iso {α β : Type} {d : Kd α} {P : Program} {t : TypeId} {G : α → Prop} (hd : RdK d P t G) (f : β → α) (g : α → β) (hfg : ∀ a, f (g a) = a) : RdK (Kd.iso d f) P t (fun b => G (f b)) := by
  refine ⟨hd.size, fun {H enc w n cs x} h => ?_⟩
  obtain ⟨a, h1, h2⟩ := hd.get h
  exact ⟨g a, by show d.K w (f (g a)) cs; rw [hfg]; exact h1, by rw [hfg]; exact h2⟩
theorem arg_slice {α : Type} {d : Kd α} {P : Program} {t e : TypeId} {G : α → Prop} (hd : RdK (Kd.slice e d) P t (okSl G)) {H : Type} {enc : TypeId × Value → H} {w : World} {a : Option Addr} {len cap : Nat} {x : DataW H} {ps : List MemPlace}
    (h : DataW.Trod enc P w 0 (fun _ => true) true t (.slice a len cap) x ps) : ∃ xs : List α, len = xs.length ∧ xs.length ≤ cap ∧ Kd.C d w a xs.length xs ∧ okSl G xs := by
  obtain ⟨n, hn⟩ := h
  obtain ⟨xs, ⟨A, c, he, hl, hc⟩, hg⟩ := hd.get hn
  simp [Value.cells] at he
  obtain ⟨rfl, rfl, rfl⟩ := he
  exact ⟨xs, rfl, hl, hc, hg⟩
end Go.Proofs.Yteaablbhdmkcpaa.Rd
end
section
namespace Go.Proofs.Yteaablbhdmkcpaa.Q
open Go.RowKit Go.Proofs.YteaablbhdmkcpaaW.PrintWords Go.Proofs.YteaablbhdmkcpaaW.PrintLast Go.Proofs.YteaablbhdmkcpaaW.PrintMore
attribute [local go_sem] max2_int min2_int max_two min_two max_three min_three max_four min_four
set_option linter.unusedVariables false
set_option linter.unusedSimpArgs false
def good54 (x : S54) : Prop := Rd.okStr x.f0 ∧ (Rd.okInt .i64) x.f1 ∧ (Rd.okInt .i64) x.f2 ∧ (Rd.okInt .i64) x.f3 ∧ (Rd.okInt .i64) x.f4
theorem rd54 : Rd.RdK k54 Try.prog 54 good54 :=
  Rd.rk_iso (Rd.rk_struct Try.underlying54 (by kernel_rfl) (Rd.rf_cons (Rd.rk_string Try.underlying9 (by kernel_rfl)) rfl (Rd.rf_cons (Rd.rk_int Try.underlying3 (by kernel_rfl)) rfl (Rd.rf_cons (Rd.rk_int Try.underlying3 (by kernel_rfl)) rfl (Rd.rf_cons (Rd.rk_int Try.underlying3 (by kernel_rfl)) rfl (Rd.rf_one (Rd.rk_int Try.underlying3 (by kernel_rfl)))))))) (fun x : S54 => (x.f0, x.f1, x.f2, x.f3, x.f4)) (fun p => ⟨p.1, p.2.1, p.2.2.1, p.2.2.2.1, p.2.2.2.2⟩) (fun _ => rfl)
end Go.Proofs.Yteaablbhdmkcpaa.Q
end
section
namespace Go.Proofs.Yteaablbhdmkcpaa.Q
open Go.RowKit Go.Proofs.YteaablbhdmkcpaaW.PrintWords Go.Proofs.YteaablbhdmkcpaaW.PrintLast Go.Proofs.YteaablbhdmkcpaaW.PrintMore
attribute [local go_sem] max2_int min2_int max_two min_two max_three min_three max_four min_four
set_option linter.unusedVariables false
set_option linter.unusedSimpArgs false
def laws_FnExactDependsOf.Pure : Prop := ∀ (a0 : List (S54)), (Rd.okSl good54) a0 → ∃ k, laws_FnExactDependsOf.f k a0 = some true
end Go.Proofs.Yteaablbhdmkcpaa.Q
end
section
namespace Go.Proofs.Yteaablbhdmkcpaa.PL
open Go Go.RowKit Go.Proofs.YteaablbhdmkcpaaW.PrintWords Go.Proofs.YteaablbhdmkcpaaW.PrintLast Go.Proofs.YteaablbhdmkcpaaW.PrintMore Go.Proofs.Yteaablbhdmkcpaa.Q
set_option linter.unusedSimpArgs false
set_option linter.unusedVariables false
theorem w64 {x : Int} (h1 : -9223372036854775808 ≤ x) (h2 : x < 9223372036854775808) : wrap64 x = x := by unfold wrap64; omega
theorem w64n (i : Nat) (h : i < 4611686018427387904) : wrap64 ((i : Int) + 1) = ((i + 1 : Nat) : Int) := by unfold wrap64; omega
theorem Ev.some {α : Type} {a r : α} (h : a = r) : Ev (fun _ => some a) r := h ▸ Ev.now a
theorem Ev.const {α : Type} {g : Option α} {r : α} (h : g = Option.some r) : Ev (fun _ => g) r := by rw [h]; exact Ev.now r
theorem ev_eq {α : Type} {g : Nat → Option α} {r s : α} (h : Ev g r) (e : r = s) : Ev g s := e ▸ h
theorem Ev.ifp {α : Type} {c : Prop} [Decidable c] {g g' : Nat → Option α} {r : α} (h : c) (H : Ev g r) : Ev (fun k => if c then g k else g' k) r := Ev.congr (fun _ => if_pos h) H
theorem Ev.ifn {α : Type} {c : Prop} [Decidable c] {g g' : Nat → Option α} {r : α} (h : ¬ c) (H : Ev g' r) : Ev (fun k => if c then g k else g' k) r := Ev.congr (fun _ => if_neg h) H
theorem Ev.call {α β : Type} {g : Option α} {f : Nat → α → Option β} {a : α} {r : β} (h : g = Option.some a) (k : Ev (fun n => f n a) r) : Ev (fun n => g.bind (f n)) r := by
  rw [h]; exact k
theorem loop_up {σ ρ : Type} (n : Nat) (L : Nat → σ → Int → Option ρ) (M : Nat → σ → ρ) (hend : ∀ s, Ev (fun k => L k s n) (M n s))
    (hstep : ∀ (i : Nat) s, i < n → (∀ s', Ev (fun k => L k s' ((i + 1 : Nat) : Int)) (M (i + 1) s')) → Ev (fun k => L k s i) (M i s)) :
    ∀ (d i : Nat) s, i + d = n → Ev (fun k => L k s i) (M i s)
  | 0, i, s, h => by
    have e : i = n := by omega
    rw [e]
    exact hend s
  | d + 1, i, s, h => hstep i s (by omega) (fun s' => loop_up n L M hend hstep d (i + 1) s' (by omega))
theorem loop_list {α σ ρ : Type} (xs : List α) (L : Nat → σ → Int → Option ρ) (m : List α → σ → ρ) (hend : ∀ s, Ev (fun k => L k s (xs.length : Nat)) (m [] s))
    (hstep : ∀ (i : Nat) s x rest, i < xs.length → (∀ d, xs.getD i d = x) → (∀ s', Ev (fun k => L k s' ((i + 1 : Nat) : Int)) (m rest s')) → Ev (fun k => L k s i) (m (x :: rest) s)) (s : σ) :
    Ev (fun k => L k s 0) (m xs s) := by
  have := loop_up xs.length L (fun i s => m (xs.drop i) s) (fun s => by simpa using hend s) (fun i s hi ih => by
    have e : xs.drop i = xs[i] :: xs.drop (i + 1) := List.drop_eq_getElem_cons hi
    show Ev (fun k => L k s i) (m (xs.drop i) s)
    rw [e]
    exact hstep i s xs[i] _ hi (fun d => by simp [List.getD, List.getElem?_eq_getElem hi]) ih) xs.length 0 s (by omega)
  simpa using this
def idx {α : Type} (p : α → Bool) : List α → Int
  | [] => -1
  | x :: xs => if p x = true then 0 else if idx p xs < 0 then -1 else idx p xs + 1
theorem idx_nonneg {α : Type} (p : α → Bool) (xs : List α) : 0 ≤ idx p xs ↔ ∃ x ∈ xs, p x = true := by
  induction xs with
  | nil => simp [idx]
  | cons x xs ih =>
    unfold idx
    by_cases h : p x = true
    · simp [h]
    · by_cases h2 : idx p xs < 0
      · rw [if_neg h, if_pos h2]
        have : ¬ ∃ x ∈ xs, p x = true := fun e => by have := ih.2 e; omega
        simp [h]
        simpa using this
      · rw [if_neg h, if_neg h2]
        have := ih.1 (by omega)
        simp [h]
        exact ⟨fun _ => this, fun _ => by omega⟩
theorem idx_ge {α : Type} (p : α → Bool) (xs : List α) : -1 ≤ idx p xs := by
  induction xs with
  | nil => unfold idx; simp
  | cons x xs ih => unfold idx; split; · decide
                    · split <;> omega
theorem search_ev {α : Type} (xs : List α) (p : α → Bool) (L : Nat → Int → Option Int) (hend : Ev (fun k => L k (xs.length : Nat)) (-1))
    (hyes : ∀ (i : Nat) x, i < xs.length → (∀ d, xs.getD i d = x) → p x = true → Ev (fun k => L k i) (i : Int))
    (hno : ∀ (i : Nat) x r, i < xs.length → (∀ d, xs.getD i d = x) → p x = false → Ev (fun k => L k ((i + 1 : Nat) : Int)) r → Ev (fun k => L k i) r) : Ev (fun k => L k 0) (idx p xs) := by
  have key : ∀ (d i : Nat), i + d = xs.length → Ev (fun k => L k i) (if idx p (xs.drop i) < 0 then -1 else idx p (xs.drop i) + i) := by
    intro d
    induction d with
    | zero =>
      intro i hi
      rw [List.drop_of_length_le (by omega), if_pos (show idx p [] < 0 by unfold idx; decide)]
      have e : i = xs.length := by omega
      rw [e]; exact hend
    | succ d ih =>
      intro i hi
      have hlt : i < xs.length := by omega
      have e : xs.drop i = xs[i] :: xs.drop (i + 1) := List.drop_eq_getElem_cons hlt
      have hg : ∀ d, xs.getD i d = xs[i] := fun d => by simp [List.getD, List.getElem?_eq_getElem hlt]
      rw [e]
      unfold idx
      by_cases h : p xs[i] = true
      · rw [if_pos h, if_neg (by decide)]
        simpa using hyes i _ hlt hg h
      · refine hno i _ _ hlt hg (by simpa using h) (ev_eq (ih (i + 1) (by omega)) ?_)
        rw [if_neg h]
        by_cases h2 : idx p (xs.drop (i + 1)) < 0
        · rw [if_pos h2, if_pos h2, if_pos (by decide)]
        · rw [if_neg h2, if_neg h2, if_neg (by omega)]
          omega
  have := key xs.length 0 (by omega)
  simp only [List.drop_zero, Int.natCast_zero, Int.add_zero] at this
  refine ev_eq this ?_
  have := idx_ge p xs
  split <;> omega
theorem all_ev {α : Type} (xs : List α) (p : α → Bool) (L : Nat → Int → Option Bool) (hend : Ev (fun k => L k (xs.length : Nat)) true)
    (hno : ∀ (i : Nat) x, i < xs.length → (∀ d, xs.getD i d = x) → p x = false → Ev (fun k => L k i) false)
    (hyes : ∀ (i : Nat) x r, i < xs.length → (∀ d, xs.getD i d = x) → p x = true → Ev (fun k => L k ((i + 1 : Nat) : Int)) r → Ev (fun k => L k i) r) : Ev (fun k => L k 0) (xs.all p) := by
  refine loop_list (σ := Unit) xs (fun k _ i => L k i) (fun l _ => l.all p) (fun _ => hend) (fun i _ x rest hi hx ih => ?_) ()
  by_cases h : p x = true
  · exact hyes i x _ hi hx h (ev_eq (ih ()) (by simp [h]))
  · have h' : p x = false := by simpa using h
    exact ev_eq (hno i x hi hx h') (by simp [h'])
theorem rd_eq {xs : List Int} {i : Nat} {x : Int} (h : ∀ d, xs.getD i d = x) : rd xs i = x := by unfold rd; rw [Int.toNat_natCast]; exact h 0
theorem rdI_eq {xs : List S57} {i : Nat} {x : S57} (h : ∀ d, xs.getD i d = x) : rd_T57 xs i = x := by unfold rd_T57; rw [Int.toNat_natCast]; exact h _
theorem rdJ_eq {xs : List S54} {i : Nat} {x : S54} (h : ∀ d, xs.getD i d = x) : rd_T54 xs i = x := by unfold rd_T54; rw [Int.toNat_natCast]; exact h _
theorem getD_eq {α : Type} (xs : List α) (i : Nat) (h : i < xs.length) : ∀ d, xs.getD i d = xs[i] := fun d => by simp [List.getD, List.getElem?_eq_getElem h]
theorem set_fill {α : Type} (xs ys : List α) (z : α) (v : α) : (xs ++ List.replicate (ys.length + 1) z).set xs.length v = (xs ++ [v]) ++ List.replicate ys.length z := by
  rw [List.set_append_right _ _ (Nat.le_refl _)]
  simp [List.replicate_succ]
end Go.Proofs.Yteaablbhdmkcpaa.PL
end
section
namespace Go.Proofs.Yteaablbhdmkcpaa.Q
open Go.RowKit Go.Proofs.YteaablbhdmkcpaaW.PrintWords Go.Proofs.YteaablbhdmkcpaaW.PrintLast Go.Proofs.YteaablbhdmkcpaaW.PrintMore
attribute [local go_sem] max2_int min2_int max_two min_two max_three min_three max_four min_four
set_option linter.unusedVariables false
set_option linter.unusedSimpArgs false
end Go.Proofs.Yteaablbhdmkcpaa.Q
end
section
namespace Go.Proofs.Yteaablbhdmkcpaa.PL
open Go Go.RowKit Go.Proofs.YteaablbhdmkcpaaW.PrintWords Go.Proofs.YteaablbhdmkcpaaW.PrintLast Go.Proofs.YteaablbhdmkcpaaW.PrintMore Go.Proofs.Yteaablbhdmkcpaa.Q
set_option linter.unusedSimpArgs false
set_option linter.unusedVariables false
abbrev Instr := S57
abbrev LInstr := S54
def cvI (x : LInstr) : Instr := ⟨x.f0, x.f1, x.f2, x.f3, x.f4⟩
theorem szInstr_eq (s : ByteArray) (a b c d r : Int) (hs : s.size ≤ maxLen) (h0 : 0 ≤ r) (h1 : r ≤ 1048576) : laws_szInstr.f s a b c d r = some (if r < s.size then -1 else r - s.size) := by
  unfold maxLen at hs
  unfold laws_szInstr.f
  rw [w64 (by omega) (by omega)]
  by_cases h : r < s.size
  · rw [if_pos (by omega), if_pos h]
  · rw [if_neg (by omega), if_neg h]
theorem szInstrS_ev (l : List LInstr) (a : Int) (hl : Rd.okSl good54 l) (h0 : 0 ≤ a) (h1 : a ≤ 1048576) :
    ∃ r, Ev (fun k => laws_szInstrS.f k l a) r ∧ (0 ≤ r → (l.length : Int) ≤ a ∧ (∀ x ∈ l, (x.f0.size : Int) ≤ a) ∧ r ≤ a) := by
  obtain ⟨hl1, hl2⟩ := hl
  unfold maxLen at hl1
  by_cases h : a < l.length
  · refine ⟨-1, ?_, fun h => absurd h (by decide)⟩
    unfold laws_szInstrS.f
    rw [w64 (by omega) (by omega)]
    simp only [show a - (l.length : Int) < 0 by omega, if_true]
    exact Ev.now _
  · have key : ∀ (d i : Nat) (r : Int), i + d = l.length → 0 ≤ r → r ≤ a → ∃ q, Ev (fun k => laws_szInstrS.l0 k l r i) q ∧ q ≤ a ∧ (0 ≤ q → ∀ x ∈ l.drop i, (x.f0.size : Int) ≤ a) := by
      intro d
      induction d with
      | zero =>
        intro i r hi hr _
        refine ⟨r, Ev.step (f := fun _ => some r) (fun k => ?_) (Ev.now _), by omega, fun _ x hx => ?_⟩
        · simp only [laws_szInstrS.l0]
          rw [if_neg (by omega)]
        · rw [List.drop_of_length_le (by omega)] at hx
          cases hx
      | succ d ih =>
        intro i r hi hr hra
        have hlt : i < l.length := by omega
        have e : l.drop i = l[i] :: l.drop (i + 1) := List.drop_eq_getElem_cons hlt
        have hx := rdJ_eq (getD_eq l i hlt)
        have hsz := (hl2 l[i] (List.getElem_mem hlt)).1
        by_cases hb : r < l[i].f0.size
        · refine ⟨-1, Ev.step (f := fun _ => some (-1)) (fun k => ?_) (Ev.now _), by omega, fun h => absurd h (by decide)⟩
          simp only [laws_szInstrS.l0]
          rw [if_pos (by omega), if_pos (by omega), hx, szInstr_eq _ _ _ _ _ _ hsz hr (by omega), if_pos hb]
          rfl
        · obtain ⟨q, hq, hqa, hq'⟩ := ih (i + 1) (r - l[i].f0.size) (by omega) (by omega) (by omega)
          refine ⟨q, Ev.step (f := fun k => laws_szInstrS.l0 k l (r - l[i].f0.size) ((i + 1 : Nat) : Int)) (fun k => ?_) hq, hqa, fun h x hx' => ?_⟩
          · simp only [laws_szInstrS.l0]
            rw [if_pos (by omega), if_pos (by omega), hx, szInstr_eq _ _ _ _ _ _ hsz hr (by omega), if_neg hb, Option.bind_some, if_neg (by omega), w64n i (by omega)]
          · rw [e] at hx'
            rcases List.mem_cons.1 hx' with rfl | hx'
            · omega
            · exact hq' h x hx'
    obtain ⟨q, hq, hqa, hq'⟩ := key l.length 0 (a - l.length) (by omega) (by omega) (by omega)
    refine ⟨q, ?_, fun h' => ⟨by omega, by simpa using hq' h', hqa⟩⟩
    unfold laws_szInstrS.f
    rw [w64 (by omega) (by omega)]
    simp only [show ¬ (a - (l.length : Int) < 0) by omega, if_false]
    simpa using hq
theorem toInstrS_ev (l : List LInstr) (hl : l.length ≤ 1048576) : Ev (fun k => laws_toInstrS.f k l) (l.map cvI) := by
  have key : ∀ (d i : Nat), i + d = l.length → Ev (fun k => laws_toInstrS.l0 k l ((l.take i).map cvI ++ List.replicate d z57) i) (l.map cvI) := by
    intro d
    induction d with
    | zero =>
      intro i hi
      refine Ev.step (f := fun _ => some _) (fun k => ?_) (Ev.now _)
      simp only [laws_toInstrS.l0]
      rw [if_neg (by omega), List.take_of_length_le (by omega)]
      simp
    | succ d ih =>
      intro i hi
      have hlt : i < l.length := by omega
      have hx := rdJ_eq (getD_eq l i hlt)
      refine Ev.step (fun k => ?_) (ih (i + 1) (by omega))
      simp only [laws_toInstrS.l0, laws_toInstr.f, Option.bind_some]
      rw [if_pos (by omega), if_pos (by omega), if_pos (by simp; omega), hx, w64n i (by omega)]
      congr 1
      have e : ((i : Int)).toNat = ((l.take i).map cvI).length := by simp; omega
      rw [e]
      have := set_fill ((l.take i).map cvI) (List.replicate d z57) z57 (cvI l[i])
      simp only [List.length_replicate] at this
      rw [show (⟨l[i].f0, l[i].f1, l[i].f2, l[i].f3, l[i].f4⟩ : Instr) = cvI l[i] from rfl, this]
      congr 1
      rw [List.take_succ_eq_append_getElem hlt, List.map_append]
      rfl
  unfold laws_toInstrS.f
  refine Ev.ifp (by omega) (Ev.ifp (by simp; omega) ?_)
  simpa using key l.length 0 (by omega)
theorem eqInstrS_refl (l : List Instr) (hl : l.length ≤ 1048576) : Ev (fun k => laws_eqInstrS.f k l l) true := by
  unfold laws_eqInstrS.f
  simp only [if_true]
  refine loop_list (σ := Unit) l (fun k _ i => laws_eqInstrS.l0 k l l i) (fun _ _ => true) (fun _ => ?_) (fun i _ x rest hi hx ih => ?_) ()
  · refine Ev.step (f := fun _ => some true) (fun k => ?_) (Ev.now _)
    simp only [laws_eqInstrS.l0]
    rw [if_neg (by omega)]
  · refine Ev.step (fun k => ?_) (ih ())
    simp only [laws_eqInstrS.l0, laws_eqInstr.f, reduceIte, Option.bind_some]
    rw [if_pos (by omega), if_pos (by omega), w64n i (by omega), if_pos (by omega)]
theorem eqIntS_refl (l : List Int) (hl : l.length ≤ 1048576) : Ev (fun k => laws_eqIntS.f k l l) true := by
  unfold laws_eqIntS.f
  simp only [if_true]
  refine loop_list (σ := Unit) l (fun k _ i => laws_eqIntS.l0 k l l i) (fun _ _ => true) (fun _ => ?_) (fun i _ x rest hi hx ih => ?_) ()
  · refine Ev.step (f := fun _ => some true) (fun k => ?_) (Ev.now _)
    simp only [laws_eqIntS.l0]
    rw [if_neg (by omega)]
  · refine Ev.step (fun k => ?_) (ih ())
    simp only [laws_eqIntS.l0, if_true]
    rw [if_pos (by omega), if_pos (by omega), w64n i (by omega), if_pos (by omega)]
end Go.Proofs.Yteaablbhdmkcpaa.PL
end
section
namespace Go.Proofs.Yteaablbhdmkcpaa.PL
open Go Go.RowKit Go.Proofs.YteaablbhdmkcpaaW.PrintWords Go.Proofs.YteaablbhdmkcpaaW.PrintLast Go.Proofs.YteaablbhdmkcpaaW.PrintMore Go.Proofs.Yteaablbhdmkcpaa.Q
set_option linter.unusedSimpArgs false
set_option linter.unusedVariables false
abbrev zI : Instr := z57
theorem rdI_at (l : List Instr) (i : Nat) : rd_T57 l (i : Int) = l.getD i zI := by unfold rd_T57; rw [Int.toNat_natCast]
theorem rdI_take (l : List Instr) (i j : Nat) (h : j < i) : rd_T57 (l.take i) (j : Int) = l.getD j zI := by
  rw [rdI_at]
  simp only [List.getD, List.getElem?_take, if_pos h]
theorem rdN_mid (A B : List Int) (x : Int) (i : Nat) (h : A.length = i) : rd (A ++ x :: B) (i : Int) = x := by
  subst h
  refine rd_eq (fun d => ?_)
  simp [List.getD]
theorem setN_mid {α : Type} (A B : List α) (x y : α) (i : Nat) (h : A.length = i) : (A ++ x :: B).set ((i : Int)).toNat y = A ++ y :: B := by
  subst h
  rw [Int.toNat_natCast, List.set_append_right _ _ (Nat.le_refl _), Nat.sub_self]
  rfl
theorem setAt_mid {α : Type} (A B : List α) (x y : α) (i : Nat) (h : A.length = i) : (A ++ x :: B).set i y = A ++ y :: B := by
  subst h
  rw [List.set_append_right _ _ (Nat.le_refl _), Nat.sub_self]
  rfl
theorem rdW_mid (A B : List (List Int)) (x : List Int) (i : Nat) (h : A.length = i) : rd_L4 (A ++ x :: B) (i : Int) = x := by
  subst h
  unfold rd_L4
  rw [Int.toNat_natCast]
  simp [List.getD]
theorem okAt {P : Instr → Prop} (l : List Instr) (i : Nat) (h : i < l.length) (ok : ∀ x ∈ l, P x) : P (l.getD i zI) := by
  rw [getD_eq l i h]
  exact ok _ (List.getElem_mem h)
end Go.Proofs.Yteaablbhdmkcpaa.PL
end
section
namespace Go.Proofs.Yteaablbhdmkcpaa.PL
open Go Go.RowKit Go.Proofs.YteaablbhdmkcpaaW.PrintWords Go.Proofs.YteaablbhdmkcpaaW.PrintLast Go.Proofs.YteaablbhdmkcpaaW.PrintMore Go.Proofs.Yteaablbhdmkcpaa.Q
set_option linter.unusedSimpArgs false
set_option linter.unusedVariables false
def shapeC (c : Nat) : Bool × Bool × Bool × Int × Int :=
  match c with
  | 0 => (true, false, false, 0, 63)
  | 1 => (true, true, false, 0, 0)
  | 2 => (true, true, true, 0, 0)
  | 3 => (true, true, true, 0, 0)
  | 4 => (true, true, true, 0, 0)
  | 5 => (true, true, false, 0, 63)
  | 6 => (true, true, false, 1, 5)
  | 7 => (true, true, true, 1, 3)
  | _ => (false, false, false, 0, 0)
theorem shape_closed : ∀ p ∈ ops, spec_cdShape.f 20 p.1 = some (shapeC p.2) := by decide +kernel
theorem formOf_eq (s : ByteArray) : impl_formOf.f s = some (formC (cls s) s) := rfl
theorem shape_ev (s : ByteArray) : Ev (fun k => spec_cdShape.f k s) (shapeC (cls s)) := by
  refine op_cases (P := fun s => Ev (fun k => spec_cdShape.f k s) (shapeC (cls s))) s (fun p hp => ?_) (fun h => ?_)
  · rw [cls_op p hp]
    exact Ev.of (spec_cdShape.mono _) (shape_closed p hp)
  · rw [cls_none h]
    obtain ⟨h0, h1, h2, h3, h4, h5, h6, h7, h8, h9, h10, h11, h12, h13, h14, h15, h16, h17, h18, h19⟩ := not_ops h
    refine Ev.of (spec_cdShape.mono _) (k := 5) ?_
    simp only [spec_cdShape.f, spec_cdShape.j0, spec_cdShape.j1, spec_cdShape.j2, spec_cdShape.j3, h0, h1, h2, h3, h4, h5, h6, h7, h8, h9, h10, h11, h12, h13, h14, h15, h16, h17, h18, h19, if_false, beq_iff_eq]
    rfl
theorem l1In_eq (a b c : Int) : spec_l1In.f a b c = some (decide (b ≤ a ∧ a ≤ c)) := by
  unfold spec_l1In.f
  by_cases h : a ≥ b
  · rw [if_pos h]; congr 1; rw [decide_eq_decide]; omega
  · rw [if_neg h]; congr 1; symm; rw [decide_eq_false_iff_not]; omega
theorem cdReg_eq (a : Int) : spec_cdReg.f a = some (decide (0 ≤ a ∧ a ≤ 5)) := by
  unfold spec_cdReg.f
  rw [l1In_eq]; rfl
def okI (x : Instr) : Prop := cls x.f0 ≠ 8 ∧ (0 ≤ x.f1 ∧ x.f1 ≤ 5) ∧ ((shapeC (cls x.f0)).2.1 = true ∧ 0 ≤ x.f2 ∧ x.f2 ≤ 5 ∨ x.f2 = 0) ∧ ((shapeC (cls x.f0)).2.2.1 = true ∧ 0 ≤ x.f3 ∧ x.f3 ≤ 5 ∨ x.f3 = 0) ∧ (shapeC (cls x.f0)).2.2.2.1 ≤ x.f4 ∧ x.f4 ≤ (shapeC (cls x.f0)).2.2.2.2
instance (x : Instr) : Decidable (okI x) := by unfold okI; infer_instance
theorem cls_le (s : ByteArray) : cls s ≤ 8 := by
  refine op_cases (P := fun s => cls s ≤ 8) s (by decide +kernel) (fun h => by rw [cls_none h]; exact Nat.le_refl _)
theorem cls_cases (s : ByteArray) : cls s = 0 ∨ cls s = 1 ∨ cls s = 2 ∨ cls s = 3 ∨ cls s = 4 ∨ cls s = 5 ∨ cls s = 6 ∨ cls s = 7 ∨ cls s = 8 := by have := cls_le s; omega
theorem isInstr_eq (x : Instr) : impl_IsInstr.f x.f0 x.f1 x.f2 x.f3 x.f4 = some (decide (okI x)) := by
  unfold impl_IsInstr.f
  congr 1
  obtain ⟨s, d, a, b, m⟩ := x
  simp only [okI]
  rw [Bool.eq_iff_iff]
  simp only [okF, Bool.and_eq_true, Bool.or_eq_true, decide_eq_true_eq, Bool.not_eq_true', decide_eq_false_iff_not]
  rcases cls_cases s with h | h | h | h | h | h | h | h | h <;> simp only [h, formC, shapeC] <;> simp <;> omega
theorem cdGood_ev (x : Instr) : Ev (fun k => spec_cdGood.f k x.f0 x.f1 x.f2 x.f3 x.f4) (decide (okI x)) := by
  unfold spec_cdGood.f
  refine Ev.bind (shape_ev x.f0) (Ev.const ?_)
  obtain ⟨s, d, a, b, m⟩ := x
  simp only [l1In_eq, cdReg_eq, Option.bind_some, okI]
  rcases cls_cases s with h | h | h | h | h | h | h | h | h <;> simp only [h, shapeC] <;> by_cases h1 : 0 ≤ d ∧ d ≤ 5 <;> by_cases h2 : 0 ≤ a ∧ a ≤ 5 <;> by_cases h3 : 0 ≤ b ∧ b ≤ 5 <;> (try simp [h1, h2, h3]) <;> (repeat' split) <;> (try (rw [Bool.eq_iff_iff]; simp only [Bool.and_eq_true, decide_eq_true_eq, beq_iff_eq, true_iff, false_iff, Bool.false_eq_true, iff_false, iff_true])) <;> (try simp only [Option.some.injEq]) <;> (try (rw [Bool.eq_iff_iff]; simp only [Bool.and_eq_true, decide_eq_true_eq, beq_iff_eq, true_iff, false_iff, Bool.false_eq_true, iff_false, iff_true])) <;> (try omega)
end Go.Proofs.Yteaablbhdmkcpaa.PL
end
section
namespace Go.Proofs.Yteaablbhdmkcpaa.PL
open Go Go.RowKit Go.Proofs.YteaablbhdmkcpaaW.PrintWords Go.Proofs.YteaablbhdmkcpaaW.PrintLast Go.Proofs.YteaablbhdmkcpaaW.PrintMore Go.Proofs.Yteaablbhdmkcpaa.Q
set_option linter.unusedSimpArgs false
set_option linter.unusedVariables false
def costC (c : Nat) : Int := match c with | 3 => 2 | 4 => 4 | 8 => 0 | _ => 1
theorem cdCost_closed : ∀ p ∈ ops, spec_cdCost.f p.1 = some (costC p.2) := by decide +kernel
theorem formC_cost (c : Nat) (s : ByteArray) (hc : c ≤ 8) : (formC c s).2.2.2.2.1 = costC c := by
  rcases (show c = 0 ∨ c = 1 ∨ c = 2 ∨ c = 3 ∨ c = 4 ∨ c = 5 ∨ c = 6 ∨ c = 7 ∨ c = 8 by omega) with h | h | h | h | h | h | h | h | h <;> subst h <;> rfl
theorem cost_eq (x : Instr) : impl_Instr_cost.f x.f0 x.f1 x.f2 x.f3 x.f4 = some (costC (cls x.f0)) := by
  unfold impl_Instr_cost.f
  rw [formOf_eq, Option.bind_some, formC_cost _ _ (cls_le _)]
theorem cdCost_eq (s : ByteArray) (h : cls s ≠ 8) : spec_cdCost.f s = some (costC (cls s)) := by
  refine op_cases (P := fun s => cls s ≠ 8 → spec_cdCost.f s = some (costC (cls s))) s (fun p hp _ => ?_) (fun hn h => absurd (cls_none hn) h) h
  rw [cdCost_closed p hp, cls_op p hp]
end Go.Proofs.Yteaablbhdmkcpaa.PL
end
section
namespace Go.Proofs.Yteaablbhdmkcpaa.PL
open Go Go.RowKit Go.Proofs.YteaablbhdmkcpaaW.PrintWords Go.Proofs.YteaablbhdmkcpaaW.PrintLast Go.Proofs.YteaablbhdmkcpaaW.PrintMore Go.Proofs.Yteaablbhdmkcpaa.Q
set_option linter.unusedSimpArgs false
set_option linter.unusedVariables false
theorem formU1 (c : Nat) (s : ByteArray) (h : c ≤ 8) : (formC c s).1 = (shapeC c).2.1 := by
  rcases (show c = 0 ∨ c = 1 ∨ c = 2 ∨ c = 3 ∨ c = 4 ∨ c = 5 ∨ c = 6 ∨ c = 7 ∨ c = 8 by omega) with h | h | h | h | h | h | h | h | h <;> subst h <;> rfl
theorem formU2 (c : Nat) (s : ByteArray) (h : c ≤ 8) : (formC c s).2.1 = (shapeC c).2.2.1 := by
  rcases (show c = 0 ∨ c = 1 ∨ c = 2 ∨ c = 3 ∨ c = 4 ∨ c = 5 ∨ c = 6 ∨ c = 7 ∨ c = 8 by omega) with h | h | h | h | h | h | h | h | h <;> subst h <;> rfl
def two (a b : Int) : List Int := if a < b then [a, b] else if a = b then [a] else [b, a]
def readsM (x : Instr) : List Int :=
  if (shapeC (cls x.f0)).2.1 = true then (if (shapeC (cls x.f0)).2.2.1 = true then two x.f2 x.f3 else [x.f2]) else (if (shapeC (cls x.f0)).2.2.1 = true then [x.f3] else [])
theorem readsM_len (x : Instr) : (readsM x).length ≤ 2 := by
  unfold readsM two
  repeat' split
  all_goals simp
theorem ms_nil : ([] : List Int).mergeSort (fun x y => decide (x ≤ y)) = [] := by simp
theorem ms_one (a : Int) : [a].mergeSort (fun x y => decide (x ≤ y)) = [a] := by simp
theorem ms_two (a b : Int) : [a, b].mergeSort (fun x y => decide (x ≤ y)) = if a ≤ b then [a, b] else [b, a] := by
  by_cases h : a ≤ b
  · rw [if_pos h]
    exact List.mergeSort_of_pairwise (by simp [h])
  · rw [if_neg h]
    have p : [a, b].mergeSort (fun x y => decide (x ≤ y)) |>.Perm [b, a] := (List.mergeSort_perm _ _).trans (List.Perm.swap _ _ _)
    have s := List.pairwise_mergeSort (le := fun x y : Int => decide (x ≤ y)) (fun a b c h1 h2 => by simp at *; omega) (fun a b => by simp; omega) [a, b]
    refine List.Perm.eq_of_pairwise (le := fun x y : Int => decide (x ≤ y) = true) (fun a b _ _ h1 h2 => by simp at *; omega) s ?_ p
    simp; omega
theorem lc_nil : Go.Lib.compact ([] : List Int) = [] := rfl
theorem lc_one (a : Int) : Go.Lib.compact [a] = [a] := rfl
theorem lc_two (a b : Int) : Go.Lib.compact [a, b] = if b = a then [a] else [a, b] := by
  show (([0, 1] : List Nat).filter (Go.Lib.keeps #[a, b])).map (#[a, b][·]!) = _
  by_cases h : b = a
  · simp [Go.Lib.keeps, h]
  · simp [Go.Lib.keeps, h]
def twoL : List Int → List Int
  | [a, b] => two a b
  | l => l
theorem sortCompact (l : List Int) (h : l.length ≤ 2) : ∃ m, slices_Sort_int_int.f l = some m ∧ slices_Compact_int_int.f m = some (twoL l) := by
  match l, h with
  | [], _ => exact ⟨[], by unfold slices_Sort_int_int.f; rw [if_pos (by decide), ms_nil], by unfold slices_Compact_int_int.f; rw [if_pos (by decide), lc_nil]; rfl⟩
  | [a], _ => exact ⟨[a], by unfold slices_Sort_int_int.f; rw [if_pos (by simp), ms_one], by unfold slices_Compact_int_int.f; rw [if_pos (by simp), lc_one]; rfl⟩
  | [a, b], _ =>
    refine ⟨_, by unfold slices_Sort_int_int.f; rw [if_pos (by simp)], ?_⟩
    show slices_Compact_int_int.f _ = some (two a b)
    rw [ms_two]
    unfold slices_Compact_int_int.f two
    by_cases h : a ≤ b
    · rw [if_pos h, if_pos (by simp), lc_two]
      by_cases e : a = b
      · rw [if_pos e.symm, if_neg (by omega), if_pos e]
      · rw [if_neg (fun q => e q.symm), if_pos (by omega)]
    · rw [if_neg h, if_pos (by simp), lc_two, if_neg (by omega), if_neg (by omega), if_neg (by omega)]
theorem reads_ev (x : Instr) : Ev (fun k => impl_Instr_reads.f k x.f0 x.f1 x.f2 x.f3 x.f4) (readsM x) := by
  unfold impl_Instr_reads.f
  refine Ev.call (formOf_eq x.f0) (Ev.call rfl ?_)
  have c8 := cls_le x.f0
  rw [formU1 _ _ c8, formU2 _ _ c8]
  unfold readsM
  have fin : ∀ (l : List Int), l.length ≤ 2 → Ev (fun _ => (slices_Sort_int_int.f l).bind fun t => (slices_Compact_int_int.f t).bind fun t' => some t') (twoL l) := fun l hl => by
    obtain ⟨m, h1, h2⟩ := sortCompact l hl
    exact Ev.call h1 (Ev.call h2 (Ev.now _))
  by_cases ha : (shapeC (cls x.f0)).2.1 = true
  · refine Ev.ifp ha (Ev.ifp (by simp) (Ev.step (fun k => by simp only [impl_Instr_reads.j0]; rfl) ?_))
    by_cases hb : (shapeC (cls x.f0)).2.2.1 = true
    · refine Ev.ifp hb (Ev.ifp (by simp) ?_)
      rw [if_pos ha, if_pos hb]
      exact fin [x.f2, x.f3] (by simp)
    · refine Ev.ifn hb ?_
      rw [if_pos ha, if_neg hb]
      exact fin [x.f2] (by simp)
  · refine Ev.ifn ha (Ev.step (fun k => by simp only [impl_Instr_reads.j0]; rfl) ?_)
    by_cases hb : (shapeC (cls x.f0)).2.2.1 = true
    · refine Ev.ifp hb (Ev.ifp (by simp) ?_)
      rw [if_neg ha, if_pos hb]
      exact fin [x.f3] (by simp)
    · refine Ev.ifn hb ?_
      rw [if_neg ha, if_neg hb]
      exact fin [] (by simp)
theorem put_nil (n : Int) : Ev (fun k => spec_l1Put.f k [] n) [n] := by
  unfold spec_l1Put.f
  refine Ev.step (f := fun _ => some [n]) (fun k => ?_) (Ev.now _)
  simp only [spec_l1Put.l0]
  rw [if_neg (by simp)]
  rfl
theorem put_one (a n : Int) : Ev (fun k => spec_l1Put.f k [a] n) (two a n) := by
  unfold spec_l1Put.f two
  refine Ev.step (fun k => by simp only [spec_l1Put.l0, show rd [a] 0 = a from rfl]; rfl) (Ev.ifp (by simp) (Ev.ifp (by decide) ?_))
  by_cases h : a < n
  · rw [if_pos h]
    refine Ev.ifp h (Ev.step (f := fun _ => some [a, n]) (fun k => ?_) (Ev.now _))
    rw [show wrap64 (0 + 1) = 1 from by unfold wrap64; omega]
    simp only [spec_l1Put.l0]
    rw [if_neg (by simp)]
    rfl
  · refine Ev.ifn h ?_
    rw [if_neg h]
    by_cases e : a = n
    · refine Ev.ifp e ?_
      rw [if_pos e]
      exact Ev.now _
    · refine Ev.ifn e ?_
      rw [if_neg e]
      exact Ev.const rfl
theorem cdReads_ev (x : Instr) : Ev (fun k => spec_cdReads.f k x.f0 x.f1 x.f2 x.f3 x.f4) (readsM x) := by
  unfold spec_cdReads.f readsM
  refine Ev.bind (shape_ev x.f0) ?_
  by_cases ha : (shapeC (cls x.f0)).2.1 = true
  · refine Ev.ifp ha (Ev.bind (put_nil x.f2) ?_)
    by_cases hb : (shapeC (cls x.f0)).2.2.1 = true
    · refine Ev.ifp hb (Ev.bind (put_one x.f2 x.f3) ?_)
      rw [if_pos ha, if_pos hb]
      exact Ev.now _
    · refine Ev.ifn hb ?_
      rw [if_pos ha, if_neg hb]
      exact Ev.now _
  · refine Ev.ifn ha ?_
    by_cases hb : (shapeC (cls x.f0)).2.2.1 = true
    · refine Ev.ifp hb (Ev.bind (put_nil x.f3) ?_)
      rw [if_neg ha, if_pos hb]
      exact Ev.now _
    · refine Ev.ifn hb ?_
      rw [if_neg ha, if_neg hb]
      exact Ev.now _
theorem contains_ev (l : List Int) (n : Int) (hl : l.length ≤ 1048576) : Ev (fun k => slices_Contains_int_int.f k l n) (decide (n ∈ l)) := by
  have hs : Ev (fun k => slices_Index_int_int.f k l n) (idx (fun x => decide (n = x)) l) := by
    unfold slices_Index_int_int.f
    refine search_ev l _ (fun k i => slices_Index_int_int.l0 k l n l.length i) ?_ (fun i x hi hx hp => ?_) (fun i x r hi hx hp hr => ?_)
    · refine Ev.step (f := fun _ => some (-1)) (fun k => ?_) (Ev.now _)
      simp only [slices_Index_int_int.l0]
      rw [if_neg (by omega)]
    · exact Ev.step (fun k => by simp only [slices_Index_int_int.l0, rd_eq hx]; rfl) (Ev.ifp (by omega) (Ev.ifp (by omega) (Ev.ifp (by omega) (Ev.ifp (of_decide_eq_true hp) (Ev.now _)))))
    · refine Ev.step (fun k => by simp only [slices_Index_int_int.l0, rd_eq hx]; rfl) (Ev.ifp (by omega) (Ev.ifp (by omega) (Ev.ifp (by omega) (Ev.ifn (of_decide_eq_false hp) ?_))))
      rw [w64n i (by omega)]
      exact hr
  unfold slices_Contains_int_int.f
  refine Ev.bind hs (Ev.some ?_)
  have e := idx_nonneg (fun x => decide (n = x)) l
  rw [decide_eq_decide]
  constructor
  · intro h
    obtain ⟨x, hx, hx'⟩ := e.1 h
    rw [of_decide_eq_true hx']
    exact hx
  · exact fun h => e.2 ⟨n, h, decide_eq_true rfl⟩
theorem has_ev (l : List Int) (n : Int) (hl : l.length ≤ 1048576) : Ev (fun k => spec_l1Has.f k l n) (decide (n ∈ l)) := by
  unfold spec_l1Has.f
  refine loop_list (σ := Unit) l (fun k _ i => spec_l1Has.l0 k n l l.length i) (fun rest _ => decide (n ∈ rest)) (fun _ => ?_) (fun i _ x rest hi hx ih => ?_) ()
  · refine Ev.step (f := fun _ => some false) (fun k => ?_) (Ev.some (by simp))
    simp only [spec_l1Has.l0]
    rw [if_neg (by omega)]
  · refine Ev.step (fun k => by simp only [spec_l1Has.l0, rd_eq hx]; rfl) (Ev.ifp (by omega) (Ev.ifp (by omega) (Ev.ifp (by omega) ?_)))
    by_cases h : x = n
    · exact Ev.ifp h (Ev.some (by simp [h]))
    · refine Ev.ifn h ?_
      rw [w64n i (by omega)]
      refine ev_eq (ih ()) ?_
      rw [decide_eq_decide, List.mem_cons]
      exact ⟨.inr, fun q => q.elim (fun e => absurd e.symm h) id⟩
end Go.Proofs.Yteaablbhdmkcpaa.PL
end
section
namespace Go.Proofs.Yteaablbhdmkcpaa.PL
open Go Go.RowKit Go.Proofs.YteaablbhdmkcpaaW.PrintWords Go.Proofs.YteaablbhdmkcpaaW.PrintLast Go.Proofs.YteaablbhdmkcpaaW.PrintMore Go.Proofs.Yteaablbhdmkcpaa.Q
set_option linter.unusedSimpArgs false
set_option linter.unusedVariables false
def overB (l : List Instr) (j i : Nat) : Bool := ((l.take i).drop (j + 1)).any fun z => decide (z.f1 = (l.getD j zI).f1)
def dlyB (x y : Instr) (over : Bool) : Int :=
  if x.f1 ∈ readsM y ∧ over = false then max (if x.f1 = y.f1 then 1 else if y.f1 ∈ readsM x then 0 else -1) (costC (cls x.f0)) else if x.f1 = y.f1 then 1 else if y.f1 ∈ readsM x then 0 else -1
def dly (l : List Instr) (j i : Nat) : Int := dlyB (l.getD j zI) (l.getD i zI) (overB l j i)
def rowI (l : List Instr) (i m : Nat) : List Int := (List.range m).map fun j => dly l j i
theorem rowI_succ (l : List Instr) (i m : Nat) : rowI l i (m + 1) = rowI l i m ++ [dly l m i] := by simp [rowI, List.range_succ]
theorem rowI_len (l : List Instr) (i m : Nat) : (rowI l i m).length = m := by simp [rowI]
def tabI (l : List Instr) (m : Nat) : List (List Int) := (List.range m).map fun i => rowI l i i
theorem tabI_succ (l : List Instr) (m : Nat) : tabI l (m + 1) = tabI l m ++ [rowI l m m] := by simp [tabI, List.range_succ]
theorem tabI_len (l : List Instr) (m : Nat) : (tabI l m).length = m := by simp [tabI]
theorem mx_eq (a b : Int) : mx a b = max a b := by unfold mx; omega
theorem over_ev (l : List Instr) (hl : l.length ≤ 1048576) (x : Instr) : Ev (fun k => slices_ContainsFunc_impl_delays_1.f k l [x]) (l.any fun z => decide (z.f1 = x.f1)) := by
  have hs : Ev (fun k => slices_IndexFunc_impl_delays_1.f k l [x]) (idx (fun z => decide (z.f1 = x.f1)) l) := by
    unfold slices_IndexFunc_impl_delays_1.f
    refine search_ev l _ (fun k i => slices_IndexFunc_impl_delays_1.l0 k l l.length i [x]) ?_ (fun i z hi hx hp => ?_) (fun i z r hi hx hp hr => ?_)
    · refine Ev.step (f := fun _ => some (-1)) (fun k => ?_) (Ev.now _)
      simp only [slices_IndexFunc_impl_delays_1.l0]
      rw [if_neg (by omega)]
    · have hc : impl_delays_1.f z.f0 z.f1 z.f2 z.f3 z.f4 [x] = some (z.f1 == x.f1) := by unfold impl_delays_1.f; rw [if_pos (by simp)]; rfl
      exact Ev.step (fun k => by simp only [slices_IndexFunc_impl_delays_1.l0, rdI_eq hx, hc, Option.bind_some]; rfl) (Ev.ifp (by omega) (Ev.ifp (by omega) (Ev.ifp (by omega) (Ev.ifp (by simpa using hp) (Ev.now _)))))
    · have hc : impl_delays_1.f z.f0 z.f1 z.f2 z.f3 z.f4 [x] = some (z.f1 == x.f1) := by unfold impl_delays_1.f; rw [if_pos (by simp)]; rfl
      refine Ev.step (fun k => by simp only [slices_IndexFunc_impl_delays_1.l0, rdI_eq hx, hc, Option.bind_some]; rfl) (Ev.ifp (by omega) (Ev.ifp (by omega) (Ev.ifp (by omega) (Ev.ifn (by simpa using hp) ?_))))
      rw [w64n i (by omega)]
      exact hr
  unfold slices_ContainsFunc_impl_delays_1.f
  refine Ev.bind hs (Ev.some ?_)
  have e := idx_nonneg (fun z => decide (z.f1 = x.f1)) l
  cases h : l.any fun z => decide (z.f1 = x.f1) with
  | true =>
    obtain ⟨z, hz, hz'⟩ := List.any_eq_true.1 h
    exact decide_eq_true (e.2 ⟨z, hz, hz'⟩)
  | false =>
    refine decide_eq_false (fun q => ?_)
    obtain ⟨z, hz, hz'⟩ := e.1 q
    have := List.any_eq_false.1 h z hz
    exact this hz'
theorem repeat_eq (i : Nat) (h : i ≤ 1048576) : slices_Repeat_int_int.f [(-1)] (i : Int) = some (List.replicate i (-1)) := by
  unfold slices_Repeat_int_int.f
  rw [if_pos ⟨by simp, by omega, by omega⟩, Int.toNat_natCast]
  rfl
section
variable (l : List Instr) (hl : l.length ≤ 1048576) (A B : List (List Int)) (i j : Nat) (hA : A.length = i) (hj : j < i) (hi : i < l.length)
include hl hA hj hi
theorem implJ3_ev (P Q : List Int) (t : Int) (hP : P.length = j) (T : List (List Int))
    (hc : Ev (fun k => impl_delays.l1 k l (A ++ (P ++ (if (l.getD j zI).f1 ∈ readsM (l.getD i zI) ∧ overB l j i = false then max t (costC (cls (l.getD j zI).f0)) else t) :: Q) :: B) i l l.length i (l.take i) i ((j + 1 : Nat) : Int) (l.getD i zI).f0 (l.getD i zI).f1 (l.getD i zI).f2 (l.getD i zI).f3 (l.getD i zI).f4) T) :
    Ev (fun k => impl_delays.j3 k l (A ++ (P ++ t :: Q) :: B) i j l l.length i (l.take i) i j (l.getD i zI).f0 (l.getD i zI).f1 (l.getD i zI).f2 (l.getD i zI).f3 (l.getD i zI).f4 (l.getD j zI).f0 (l.getD j zI).f1 (l.getD j zI).f2 (l.getD j zI).f3 (l.getD j zI).f4) T := by
  refine Ev.step (fun k => by simp only [impl_delays.j3]; rfl) ?_
  rw [w64n j (by omega)]
  refine Ev.ifp (by omega) (Ev.ifp (by omega) (Ev.ifp (by omega) ?_))
  rw [Int.toNat_natCast, Int.toNat_natCast]
  have ho := over_ev ((l.take i).drop (j + 1)) (by simp only [List.length_drop, List.length_take]; omega) (l.getD j zI)
  refine Ev.bind ho (Ev.bind (reads_ev (l.getD i zI)) (Ev.bind (contains_ev _ _ (Nat.le_trans (readsM_len _) (by decide))) ?_))
  by_cases hr : (l.getD j zI).f1 ∈ readsM (l.getD i zI)
  · refine Ev.ifp (decide_eq_true hr) ?_
    cases ho' : overB l j i with
    | true =>
      rw [if_neg (fun q => by rw [ho'] at q; exact absurd q.2 (by decide))] at hc
      exact Ev.ifp ho' hc
    | false =>
      rw [if_pos ⟨hr, ho'⟩] at hc
      refine Ev.ifn (fun q => by rw [show overB l j i = true from q] at ho'; cases ho') ?_
      rw [rdW_mid A B _ i hA]
      refine Ev.ifp (by omega) (Ev.ifp (by rw [List.length_append, List.length_cons]; omega) (Ev.ifp (by omega) (Ev.ifp (by rw [List.length_append, List.length_cons]; omega) ?_)))
      refine Ev.call (cost_eq (l.getD j zI)) ?_
      rw [rdN_mid P Q t j hP, setN_mid P Q t _ j hP, setAt_mid A B _ _ i hA, mx_eq]
      exact hc
  · rw [if_neg (fun q => hr q.1)] at hc
    exact Ev.ifn (fun q => hr (of_decide_eq_true q)) hc
theorem implJ2_ev (P Q : List Int) (t : Int) (hP : P.length = j) (T : List (List Int)) (ht : t = if (l.getD i zI).f1 ∈ readsM (l.getD j zI) then 0 else -1)
    (hc : Ev (fun k => impl_delays.l1 k l (A ++ (P ++ dly l j i :: Q) :: B) i l l.length i (l.take i) i ((j + 1 : Nat) : Int) (l.getD i zI).f0 (l.getD i zI).f1 (l.getD i zI).f2 (l.getD i zI).f3 (l.getD i zI).f4) T) :
    Ev (fun k => impl_delays.j2 k l (A ++ (P ++ t :: Q) :: B) i j l l.length i (l.take i) i j (l.getD i zI).f0 (l.getD i zI).f1 (l.getD i zI).f2 (l.getD i zI).f3 (l.getD i zI).f4 (l.getD j zI).f0 (l.getD j zI).f1 (l.getD j zI).f2 (l.getD j zI).f3 (l.getD j zI).f4) T := by
  refine Ev.step (fun k => by simp only [impl_delays.j2]; rfl) ?_
  unfold dly dlyB at hc
  by_cases h : (l.getD j zI).f1 = (l.getD i zI).f1
  · rw [if_pos h] at hc
    refine Ev.ifp h ?_
    rw [rdW_mid A B _ i hA]
    refine Ev.ifp (by omega) (Ev.ifp (by rw [List.length_append, List.length_cons]; omega) (Ev.ifp (by omega) (Ev.ifp (by rw [List.length_append, List.length_cons]; omega) ?_)))
    rw [setN_mid P Q t _ j hP, setN_mid A B _ _ i hA]
    exact implJ3_ev l hl A B i j hA hj hi P Q 1 hP T hc
  · rw [if_neg h, ← ht] at hc
    exact Ev.ifn h (implJ3_ev l hl A B i j hA hj hi P Q t hP T hc)
theorem implL1_one (P Q : List Int) (hP : P.length = j) (T : List (List Int))
    (hc : Ev (fun k => impl_delays.l1 k l (A ++ (P ++ dly l j i :: Q) :: B) i l l.length i (l.take i) i ((j + 1 : Nat) : Int) (l.getD i zI).f0 (l.getD i zI).f1 (l.getD i zI).f2 (l.getD i zI).f3 (l.getD i zI).f4) T) :
    Ev (fun k => impl_delays.l1 k l (A ++ (P ++ (-1) :: Q) :: B) i l l.length i (l.take i) i j (l.getD i zI).f0 (l.getD i zI).f1 (l.getD i zI).f2 (l.getD i zI).f3 (l.getD i zI).f4) T := by
  have hti : (l.take i).length = i := by rw [List.length_take]; omega
  refine Ev.step (fun k => by simp only [impl_delays.l1]; rfl) (Ev.ifp (by omega) (Ev.ifp (by omega) (Ev.ifp (by omega) ?_)))
  rw [rdI_take l i j hj]
  refine Ev.bind (reads_ev (l.getD j zI)) (Ev.bind (contains_ev _ _ (Nat.le_trans (readsM_len _) (by decide))) ?_)
  by_cases hr : (l.getD i zI).f1 ∈ readsM (l.getD j zI)
  · refine Ev.ifp (decide_eq_true hr) ?_
    rw [rdW_mid A B _ i hA]
    refine Ev.ifp (by omega) (Ev.ifp (by rw [List.length_append, List.length_cons]; omega) (Ev.ifp (by rw [List.length_append, List.length_cons]; omega) ?_))
    rw [setN_mid P Q _ _ j hP, setN_mid A B _ _ i hA]
    exact implJ2_ev l hl A B i j hA hj hi P Q 0 hP T (by rw [if_pos hr]) hc
  · exact Ev.ifn (fun q => hr (of_decide_eq_true q)) (implJ2_ev l hl A B i j hA hj hi P Q (-1) hP T (by rw [if_neg hr]) hc)
end
theorem implRow_ev (l : List Instr) (hl : l.length ≤ 1048576) (A B : List (List Int)) (i : Nat) (hA : A.length = i) (hi : i < l.length) (T : List (List Int))
    (hc : Ev (fun k => impl_delays.l0 k l (A ++ rowI l i i :: B) l l.length (wrap64 ((i : Int) + 1))) T) :
    ∀ (d j : Nat), j + d = i → Ev (fun k => impl_delays.l1 k l (A ++ (rowI l i j ++ List.replicate d (-1)) :: B) i l l.length i (l.take i) i j (l.getD i zI).f0 (l.getD i zI).f1 (l.getD i zI).f2 (l.getD i zI).f3 (l.getD i zI).f4) T := by
  intro d
  induction d with
  | zero =>
    intro j hj
    obtain rfl : j = i := by omega
    rw [List.replicate_zero, List.append_nil]
    exact Ev.step (fun k => by simp only [impl_delays.l1]; rfl) (Ev.ifn (by omega) hc)
  | succ d ih =>
    intro j hj
    rw [List.replicate_succ]
    refine implL1_one l hl A B i j hA (by omega) hi (rowI l i j) (List.replicate d (-1)) (rowI_len l i j) T ?_
    have := ih (j + 1) (by omega)
    rw [rowI_succ, List.append_assoc, List.singleton_append] at this
    exact this
theorem delays_ev (l : List Instr) (hl : l.length ≤ 1048576) : Ev (fun k => impl_delays.f k l) (tabI l l.length) := by
  have key : ∀ (d i : Nat), i + d = l.length → Ev (fun k => impl_delays.l0 k l (tabI l i ++ List.replicate d []) l l.length i) (tabI l l.length) := by
    intro d
    induction d with
    | zero =>
      intro i hi
      obtain rfl : i = l.length := by omega
      rw [List.replicate_zero, List.append_nil]
      refine Ev.step (f := fun _ => some (tabI l l.length)) (fun k => ?_) (Ev.now _)
      simp only [impl_delays.l0]
      rw [if_neg (by omega)]
    | succ d ih =>
      intro i hi
      have hti : (l.take i).length = i := by rw [List.length_take]; omega
      rw [List.replicate_succ]
      refine Ev.step (fun k => by simp only [impl_delays.l0]; rfl) (Ev.ifp (by omega) (Ev.ifp (by omega) (Ev.ifp (by omega) (Ev.call (repeat_eq i (by omega)) ?_))))
      refine Ev.ifp (by rw [List.length_append, List.length_cons, tabI_len]; omega) (Ev.ifp (by omega) (Ev.call rfl ?_))
      rw [setN_mid (tabI l i) _ _ _ i (tabI_len l i), Int.toNat_natCast, hti, rdI_at]
      refine implRow_ev l hl (tabI l i) (List.replicate d []) i (tabI_len l i) (by omega) _ ?_ i 0 (by omega)
      rw [w64n i (by omega)]
      have := ih (i + 1) (by omega)
      rw [tabI_succ, List.append_assoc, List.singleton_append] at this
      exact this
  unfold impl_delays.f
  refine Ev.ifp (by omega) (Ev.ifp (by rw [Int.toNat_natCast]; omega) ?_)
  rw [Int.toNat_natCast]
  have := key l.length 0 (by omega)
  simpa [tabI] using this
theorem orDelay_ev (l : List Instr) (hl : l.length ≤ 1048576) (ok : ∀ x ∈ l, okI x) (i j : Nat) (hij : i < j) (hj : j < l.length) : Ev (fun k => spec_orDelay.f k l (i : Int) (j : Int)) (dly l i j) := by
  have hx := okAt (P := okI) l i (by omega) ok
  have last : ∀ (t : Int) (d p : Nat) (v : Int), p + d = j → i < p → (v = i ∨ (i : Int) < v) →
      Ev (fun k => spec_orDelay.l0 k l i j t v p (l.getD i zI).f0 (l.getD i zI).f1 (l.getD i zI).f2 (l.getD i zI).f3 (l.getD i zI).f4) (if v = i ∧ (((l.take j).drop p).any fun z => decide (z.f1 = (l.getD i zI).f1)) = false then max t (costC (cls (l.getD i zI).f0)) else t) := by
    intro t d
    induction d with
    | zero =>
      intro p v hp hip hv
      rw [List.drop_of_length_le (by rw [List.length_take]; omega)]
      refine Ev.step (fun k => by simp only [spec_orDelay.l0]; rfl) (Ev.ifn (by omega) ?_)
      have hm : spec_l1Most.f t (costC (cls (l.getD i zI).f0)) = some (max t (costC (cls (l.getD i zI).f0))) := by
        unfold spec_l1Most.f
        by_cases q : t > costC (cls (l.getD i zI).f0)
        · rw [if_pos q]; congr 1; omega
        · rw [if_neg q]; congr 1; omega
      by_cases h : v = i
      · refine Ev.ifp h (Ev.call (cdCost_eq _ hx.1) (Ev.call hm (Ev.some ?_)))
        rw [if_pos ⟨h, rfl⟩]
      · refine Ev.ifn h (Ev.some ?_)
        rw [if_neg (fun q => h q.1)]
    | succ d ih =>
      intro p v hp hip hv
      have hlt : p < (l.take j).length := by rw [List.length_take]; omega
      have e : (l.take j).drop p = (l.take j)[p] :: (l.take j).drop (p + 1) := List.drop_eq_getElem_cons hlt
      have e2 : (l.take j)[p] = l.getD p zI := by
        rw [List.getElem_take, getD_eq l p (by omega)]
      rw [e, e2, List.any_cons]
      refine Ev.step (fun k => by simp only [spec_orDelay.l0]; rfl) (Ev.ifp (by omega) (Ev.ifp (by omega) (Ev.ifp (by omega) ?_)))
      rw [rdI_at, w64n p (by omega)]
      by_cases h : (l.getD p zI).f1 = (l.getD i zI).f1
      · refine Ev.ifp h (ev_eq (ih (p + 1) p (by omega) (by omega) (.inr (by omega))) ?_)
        rw [if_neg (fun q => by have := q.1; omega), if_neg (fun q => by have := q.2; rw [decide_eq_true h] at this; cases this)]
      · refine Ev.ifn h (ev_eq (ih (p + 1) v (by omega) (by omega) hv) ?_)
        rw [decide_eq_false h, Bool.false_or]
  have j1 : ∀ t : Int, Ev (fun k => spec_orDelay.j1 k l i j t (l.getD i zI).f0 (l.getD i zI).f1 (l.getD i zI).f2 (l.getD i zI).f3 (l.getD i zI).f4 (l.getD j zI).f0 (l.getD j zI).f1 (l.getD j zI).f2 (l.getD j zI).f3 (l.getD j zI).f4)
      (if (l.getD i zI).f1 ∈ readsM (l.getD j zI) ∧ overB l i j = false then max t (costC (cls (l.getD i zI).f0)) else t) := by
    intro t
    refine Ev.step (fun k => by simp only [spec_orDelay.j1]; rfl) (Ev.bind (cdReads_ev (l.getD j zI)) (Ev.bind (has_ev _ _ (Nat.le_trans (readsM_len _) (by decide))) ?_))
    by_cases hr : (l.getD i zI).f1 ∈ readsM (l.getD j zI)
    · refine Ev.ifp (decide_eq_true hr) ?_
      rw [w64n i (by omega)]
      refine ev_eq (last t (j - (i + 1)) (i + 1) i (by omega) (by omega) (.inl rfl)) ?_
      unfold overB
      by_cases q : (((l.take j).drop (i + 1)).any fun z => decide (z.f1 = (l.getD i zI).f1)) = false
      · rw [if_pos ⟨rfl, q⟩, if_pos ⟨hr, q⟩]
      · rw [if_neg (fun z => q z.2), if_neg (fun z => q z.2)]
    · rw [if_neg (fun q => hr q.1)]
      exact Ev.ifn (fun q => hr (of_decide_eq_true q)) (Ev.now _)
  have j0 : ∀ t : Int, Ev (fun k => spec_orDelay.j0 k l i j t (l.getD i zI).f0 (l.getD i zI).f1 (l.getD i zI).f2 (l.getD i zI).f3 (l.getD i zI).f4 (l.getD j zI).f0 (l.getD j zI).f1 (l.getD j zI).f2 (l.getD j zI).f3 (l.getD j zI).f4)
      (if (l.getD i zI).f1 ∈ readsM (l.getD j zI) ∧ overB l i j = false then max (if (l.getD i zI).f1 = (l.getD j zI).f1 then 1 else t) (costC (cls (l.getD i zI).f0)) else if (l.getD i zI).f1 = (l.getD j zI).f1 then 1 else t) := by
    intro t
    refine Ev.step (fun k => by simp only [spec_orDelay.j0]; rfl) ?_
    by_cases h : (l.getD i zI).f1 = (l.getD j zI).f1
    · rw [if_pos h]
      exact Ev.ifp h (j1 1)
    · rw [if_neg h]
      exact Ev.ifn h (j1 t)
  unfold spec_orDelay.f
  refine Ev.ifp (by omega) (Ev.ifp (by omega) (Ev.ifp (by omega) (Ev.ifp (by omega) ?_)))
  rw [rdI_at, rdI_at]
  refine Ev.bind (cdReads_ev (l.getD i zI)) (Ev.bind (has_ev _ _ (Nat.le_trans (readsM_len _) (by decide))) ?_)
  unfold dly dlyB
  by_cases h : (l.getD j zI).f1 ∈ readsM (l.getD i zI)
  · rw [if_pos h]
    exact Ev.ifp (decide_eq_true h) (j0 0)
  · rw [if_neg h]
    exact Ev.ifn (fun q => h (of_decide_eq_true q)) (j0 (-1))
def dlyS (l : List Instr) (i j : Nat) : Int := if i < j then dly l i j else -1
def rowS (l : List Instr) (i m : Nat) : List Int := (List.range m).map fun j => dlyS l i j
theorem rowS_succ (l : List Instr) (i m : Nat) : rowS l i (m + 1) = rowS l i m ++ [dlyS l i m] := by simp [rowS, List.range_succ]
theorem rowS_len (l : List Instr) (i m : Nat) : (rowS l i m).length = m := by simp [rowS]
def tabS (l : List Instr) (m : Nat) : List (List Int) := (List.range m).map fun i => rowS l i l.length
theorem tabS_succ (l : List Instr) (m : Nat) : tabS l (m + 1) = tabS l m ++ [rowS l m l.length] := by simp [tabS, List.range_succ]
theorem tabS_len (l : List Instr) (m : Nat) : (tabS l m).length = m := by simp [tabS]
theorem orDelays_ev (l : List Instr) (hl : l.length ≤ 1048576) (ok : ∀ x ∈ l, okI x) : Ev (fun k => spec_orDelays.f k l) (tabS l l.length) := by
  have row : ∀ (rows : List (List Int)) (i : Nat) (T : List (List Int)), i < l.length → rows.length ≤ 1048576 → Ev (fun k => spec_orDelays.l0 k l (rows ++ [rowS l i l.length]) l.length (wrap64 ((i : Int) + 1))) T →
      ∀ (d j : Nat), j + d = l.length → Ev (fun k => spec_orDelays.l1 k l rows i (rowS l i j) l.length i l.length j) T := by
    intro rows i T hi hr hc d
    induction d with
    | zero =>
      intro j hj
      obtain rfl : j = l.length := by omega
      exact Ev.step (fun k => by simp only [spec_orDelays.l1]; rfl) (Ev.ifn (by omega) (Ev.ifp (by omega) hc))
    | succ d ih =>
      intro j hj
      have := ih (j + 1) (by omega)
      rw [rowS_succ] at this
      unfold dlyS at this
      refine Ev.step (fun k => by simp only [spec_orDelays.l1]; rfl) (Ev.ifp (by omega) ?_)
      rw [w64n j (by omega)]
      by_cases h : i < j
      · rw [if_pos h] at this
        exact Ev.ifp (by omega) (Ev.bind (orDelay_ev l hl ok i j h (by omega)) (Ev.ifp (by rw [rowS_len]; omega) this))
      · rw [if_neg h] at this
        exact Ev.ifn (by omega) (Ev.ifp (by rw [rowS_len]; omega) this)
  have key : ∀ (d i : Nat), i + d = l.length → Ev (fun k => spec_orDelays.l0 k l (tabS l i) l.length i) (tabS l l.length) := by
    intro d
    induction d with
    | zero =>
      intro i hi
      obtain rfl : i = l.length := by omega
      refine Ev.step (f := fun _ => some (tabS l l.length)) (fun k => ?_) (Ev.now _)
      simp only [spec_orDelays.l0]
      rw [if_neg (by omega)]
    | succ d ih =>
      intro i hi
      refine Ev.step (fun k => by simp only [spec_orDelays.l0]; rfl) (Ev.ifp (by omega) ?_)
      refine row (tabS l i) i _ (by omega) (by rw [tabS_len]; omega) ?_ l.length 0 (by omega)
      rw [w64n i (by omega), ← tabS_succ]
      exact ih (i + 1) (by omega)
  exact key l.length 0 (by omega)
end Go.Proofs.Yteaablbhdmkcpaa.PL
end
section
namespace Go.Proofs.Yteaablbhdmkcpaa.PL
open Go Go.RowKit Go.Proofs.YteaablbhdmkcpaaW.PrintWords Go.Proofs.YteaablbhdmkcpaaW.PrintLast Go.Proofs.YteaablbhdmkcpaaW.PrintMore Go.Proofs.Yteaablbhdmkcpaa.Q
set_option linter.unusedSimpArgs false
set_option linter.unusedVariables false
def okCode (l : List Instr) : Bool := decide (l.length ≤ 40) && l.all (fun x => decide (okI x))
def okBlock (l : List Instr) : Bool := decide (l.length ≤ 20) && l.all (fun x => decide (okI x))
theorem isCode_ev (l : List Instr) : Ev (fun k => impl_IsCode.f k l) (okCode l) := by
  unfold impl_IsCode.f
  by_cases hl : l.length ≤ 40
  · refine Ev.ifp (by omega) ?_
    have h : Ev (fun k => slices_IndexFunc_impl_IsCode_1.f k l) (idx (fun x => !decide (okI x)) l) := by
      unfold slices_IndexFunc_impl_IsCode_1.f
      refine search_ev l _ (fun k i => slices_IndexFunc_impl_IsCode_1.l0 k l l.length i) ?_ (fun i x hi hx hp => ?_) (fun i x r hi hx hp hr => ?_)
      · refine Ev.step (f := fun _ => some (-1)) (fun k => ?_) (Ev.now _)
        simp only [slices_IndexFunc_impl_IsCode_1.l0]
        rw [if_neg (by omega)]
      · refine Ev.step (f := fun _ => some (i : Int)) (fun k => ?_) (Ev.now _)
        simp only [slices_IndexFunc_impl_IsCode_1.l0, impl_IsCode_1.f, rdI_eq hx, isInstr_eq, Option.bind_some, hp]
        rw [if_pos (by omega), if_pos (by omega), if_pos (by omega), if_pos trivial]
      · refine Ev.step (fun k => ?_) hr
        simp only [slices_IndexFunc_impl_IsCode_1.l0, impl_IsCode_1.f, rdI_eq hx, isInstr_eq, Option.bind_some, hp]
        rw [if_pos (by omega), if_pos (by omega), if_pos (by omega), if_neg (by simp), w64n i (by omega)]
    unfold slices_ContainsFunc_impl_IsCode_1.f
    refine Ev.bind (Ev.bind h (Ev.now _)) (Ev.some ?_)
    have e := idx_nonneg (fun x => !decide (okI x)) l
    unfold okCode
    rw [show decide (l.length ≤ 40) = true by simpa using hl, Bool.true_and]
    by_cases hc : 0 ≤ idx (fun x => !decide (okI x)) l
    · obtain ⟨x, hx, hx'⟩ := e.1 hc
      rw [decide_eq_true (show idx (fun x => !decide (okI x)) l ≥ 0 from hc)]
      symm
      simpa using ⟨x, hx, by simpa using hx'⟩
    · rw [decide_eq_false (show ¬ idx (fun x => !decide (okI x)) l ≥ 0 from hc)]
      symm
      have := fun h => hc (e.2 h)
      simpa using this
  · refine Ev.ifn (by omega) (Ev.some ?_)
    unfold okCode
    rw [show decide (l.length ≤ 40) = false by simpa using hl]
    rfl
theorem cdCode_ev (l : List Instr) : Ev (fun k => spec_cdCode.f k l) (okCode l) := by
  unfold spec_cdCode.f
  by_cases hl : l.length ≤ 40
  · refine Ev.ifn (by omega) ?_
    unfold okCode
    rw [show decide (l.length ≤ 40) = true by simpa using hl, Bool.true_and]
    refine all_ev l _ (fun k i => spec_cdCode.l0 k l l.length i) ?_ (fun i x hi hx hp => ?_) (fun i x r hi hx hp hr => ?_)
    · refine Ev.step (f := fun _ => some true) (fun k => ?_) (Ev.now _)
      simp only [spec_cdCode.l0]
      rw [if_neg (by omega)]
    · refine Ev.step (fun k => by simp only [spec_cdCode.l0, rdI_eq hx]; rfl) ?_
      refine Ev.ifp (by omega) (Ev.ifp (by omega) (Ev.ifp (by omega) ?_))
      exact Ev.bind (cdGood_ev x) (Ev.ifn (by simpa using hp) (Ev.now _))
    · refine Ev.step (fun k => by simp only [spec_cdCode.l0, rdI_eq hx, w64n i (show i < 4611686018427387904 by omega)]; rfl) ?_
      refine Ev.ifp (by omega) (Ev.ifp (by omega) (Ev.ifp (by omega) ?_))
      exact Ev.bind (cdGood_ev x) (Ev.ifp (by simpa using hp) hr)
  · refine Ev.ifp (by omega) (Ev.some ?_)
    unfold okCode
    rw [show decide (l.length ≤ 40) = false by simpa using hl]
    rfl
theorem okBlock_eq (l : List Instr) : okBlock l = (okCode l && decide (l.length ≤ 20)) := by
  unfold okBlock okCode
  by_cases h : l.length ≤ 20
  · simp [h, show l.length ≤ 40 by omega]
  · simp [h]
theorem okBlock_of {l : List Instr} (h : okBlock l = true) : l.length ≤ 20 ∧ ∀ x ∈ l, okI x := by
  unfold okBlock at h
  simp only [Bool.and_eq_true, decide_eq_true_eq, List.all_eq_true] at h
  exact h
theorem isBlock_ev (l : List Instr) : Ev (fun k => impl_isBlock.f k l) (okBlock l) := by
  unfold impl_isBlock.f
  refine Ev.bind (isCode_ev l) ?_
  rw [okBlock_eq]
  cases h : okCode l
  · exact Ev.ifn (by simp) (Ev.some rfl)
  · refine Ev.ifp rfl (Ev.some ?_)
    rw [Bool.true_and, decide_eq_decide]
    omega
end Go.Proofs.Yteaablbhdmkcpaa.PL
end
section
namespace Go.Proofs.Yteaablbhdmkcpaa.PL
open Go Go.RowKit Go.Proofs.YteaablbhdmkcpaaW.PrintWords Go.Proofs.YteaablbhdmkcpaaW.PrintLast Go.Proofs.YteaablbhdmkcpaaW.PrintMore Go.Proofs.Yteaablbhdmkcpaa.Q
set_option linter.unusedSimpArgs false
set_option linter.unusedVariables false
theorem orGood_ev (l : List Instr) : Ev (fun k => spec_orGood.f k l) (okBlock l) := by
  unfold spec_orGood.f
  rw [okBlock_eq]
  by_cases h : l.length ≤ 20
  · refine Ev.ifp (by omega) (Ev.bind (cdCode_ev l) (Ev.some ?_))
    simp [h]
  · refine Ev.ifn (by omega) (Ev.some ?_)
    simp [h]
end Go.Proofs.Yteaablbhdmkcpaa.PL
end
section
namespace Go.Proofs.Yteaablbhdmkcpaa.Q
open Go.RowKit Go.Proofs.YteaablbhdmkcpaaW.PrintWords Go.Proofs.YteaablbhdmkcpaaW.PrintLast Go.Proofs.YteaablbhdmkcpaaW.PrintMore
attribute [local go_sem] max2_int min2_int max_two min_two max_three min_three max_four min_four
set_option linter.unusedVariables false
set_option linter.unusedSimpArgs false
end Go.Proofs.Yteaablbhdmkcpaa.Q
end
section
namespace Go.Proofs.Yteaablbhdmkcpaa.PL
open Go Go.RowKit Go.Proofs.YteaablbhdmkcpaaW.PrintWords Go.Proofs.YteaablbhdmkcpaaW.PrintLast Go.Proofs.YteaablbhdmkcpaaW.PrintMore Go.Proofs.Yteaablbhdmkcpaa.Q
set_option linter.unusedSimpArgs false
set_option linter.unusedVariables false
end Go.Proofs.Yteaablbhdmkcpaa.PL
end
section
namespace Go.Proofs.Yteaablbhdmkcpaa.Q
open Go.RowKit Go.Proofs.YteaablbhdmkcpaaW.PrintWords Go.Proofs.YteaablbhdmkcpaaW.PrintLast Go.Proofs.YteaablbhdmkcpaaW.PrintMore
attribute [local go_sem] max2_int min2_int max_two min_two max_three min_three max_four min_four
set_option linter.unusedVariables false
set_option linter.unusedSimpArgs false
end Go.Proofs.Yteaablbhdmkcpaa.Q
end
section
namespace Go.Proofs.Yteaablbhdmkcpaa.Q
open Go.RowKit Go.Proofs.YteaablbhdmkcpaaW.PrintWords Go.Proofs.YteaablbhdmkcpaaW.PrintLast Go.Proofs.YteaablbhdmkcpaaW.PrintMore
attribute [local go_sem] max2_int min2_int max_two min_two max_three min_three max_four min_four
set_option linter.unusedVariables false
set_option linter.unusedSimpArgs false
end Go.Proofs.Yteaablbhdmkcpaa.Q
end
section
namespace Go.Proofs.Yteaablbhdmkcpaa.Q
open Go.RowKit Go.Proofs.YteaablbhdmkcpaaW.PrintWords Go.Proofs.YteaablbhdmkcpaaW.PrintLast Go.Proofs.YteaablbhdmkcpaaW.PrintMore
attribute [local go_sem] max2_int min2_int max_two min_two max_three min_three max_four min_four
set_option linter.unusedVariables false
set_option linter.unusedSimpArgs false
end Go.Proofs.Yteaablbhdmkcpaa.Q
end
section
namespace Go.Proofs.Yteaablbhdmkcpaa.PL
open Go Go.RowKit Go.Proofs.YteaablbhdmkcpaaW.PrintWords Go.Proofs.YteaablbhdmkcpaaW.PrintLast Go.Proofs.YteaablbhdmkcpaaW.PrintMore Go.Proofs.Yteaablbhdmkcpaa.Q
set_option linter.unusedSimpArgs false
set_option linter.unusedVariables false
theorem tabI_at (l : List Instr) (m i : Nat) (h : i < m) : rd_L4 (tabI l m) (i : Int) = rowI l i i := by
  unfold rd_L4
  rw [Int.toNat_natCast]
  simp [tabI, List.getD, h]
theorem rowI_at (l : List Instr) (i m j : Nat) (h : j < m) : rd (rowI l i m) (j : Int) = dly l j i := rd_eq (fun d => by simp [rowI, List.getD, h])
theorem tabS_at (l : List Instr) (m i : Nat) (h : i < m) : rd_L4 (tabS l m) (i : Int) = rowS l i l.length := by
  unfold rd_L4
  rw [Int.toNat_natCast]
  simp [tabS, List.getD, h]
theorem rowS_at (l : List Instr) (i m j : Nat) (h : j < m) : rd (rowS l i m) (j : Int) = dlyS l i j := rd_eq (fun d => by simp [rowS, List.getD, h])
end Go.Proofs.Yteaablbhdmkcpaa.PL
end
section
namespace Go.Proofs.Yteaablbhdmkcpaa.Q
open Go.RowKit Go.Proofs.YteaablbhdmkcpaaW.PrintWords Go.Proofs.YteaablbhdmkcpaaW.PrintLast Go.Proofs.YteaablbhdmkcpaaW.PrintMore
attribute [local go_sem] max2_int min2_int max_two min_two max_three min_three max_four min_four
set_option linter.unusedVariables false
set_option linter.unusedSimpArgs false
end Go.Proofs.Yteaablbhdmkcpaa.Q
end
section
namespace Go.Proofs.Yteaablbhdmkcpaa.PL
open Go Go.RowKit Go.Proofs.YteaablbhdmkcpaaW.PrintWords Go.Proofs.YteaablbhdmkcpaaW.PrintLast Go.Proofs.YteaablbhdmkcpaaW.PrintMore Go.Proofs.Yteaablbhdmkcpaa.Q
set_option linter.unusedSimpArgs false
set_option linter.unusedVariables false
theorem markText_loop : ∀ (m : Nat) (n : Nat) (s : ByteArray), n ≤ m → s.size + n ≤ 4611686018427387904 → ∃ t, Ev (fun k => laws_markText.l0 k n s) t
  | 0, n, s, h, hs => by
    have e : n = 0 := by omega
    subst e
    refine ⟨(⟨#[109]⟩ : ByteArray) ++ s, Ev.step (f := fun _ => some ((⟨#[109]⟩ : ByteArray) ++ s)) (fun k => ?_) (Ev.now _)⟩
    have hz : (⟨#[109]⟩ : ByteArray).size = 1 := rfl
    simp only [laws_markText.l0]
    rw [if_neg (by decide), if_pos (by omega)]
  | m + 1, n, s, h, hs => by
    by_cases hn : n = 0
    · exact markText_loop m n s (by omega) hs
    · have hsz : (strOfNums [(wrap64 (48 + Int.tmod (n : Int) 10)) % 256]).size = 1 := by
        unfold strOfNums
        rfl
      obtain ⟨t, ht⟩ := markText_loop m (n / 10) (strOfNums [(wrap64 (48 + Int.tmod (n : Int) 10)) % 256] ++ s) (by omega) (by rw [ByteArray.size_append, hsz]; omega)
      refine ⟨t, Ev.step (fun k => ?_) ht⟩
      simp only [laws_markText.l0, Option.bind_some]
      rw [if_pos (by omega), if_pos (by rw [hsz]; omega)]
      congr 1
      have e : Int.tdiv (n : Int) 10 = ((n / 10 : Nat) : Int) := by
        rw [Int.tdiv_eq_ediv_of_nonneg (by omega)]
        omega
      rw [e, w64 (by omega) (by omega)]
theorem markText_ex (n : Nat) (h : n ≤ 4611686018427387903) : ∃ t, Ev (fun k => laws_markText.f k n) t := by
  unfold laws_markText.f
  by_cases hn : (n : Int) ≤ 0
  · exact ⟨_, Ev.ifp hn (Ev.now _)⟩
  · obtain ⟨t, ht⟩ := markText_loop n n ⟨#[]⟩ (Nat.le_refl _) (by show 0 + n ≤ _; omega)
    exact ⟨t, Ev.ifn hn ht⟩
open Classical in
noncomputable def mtx (n : Nat) : ByteArray := if h : ∃ t, Ev (fun k => laws_markText.f k n) t then Classical.choose h else ⟨#[]⟩
theorem mtx_ev (n : Nat) (h : n ≤ 4611686018427387903) : Ev (fun k => laws_markText.f k n) (mtx n) := by
  unfold mtx
  rw [dif_pos (markText_ex n h)]
  exact Classical.choose_spec (markText_ex n h)
def marksN : Nat → Nat → List Int
  | 0, _ => []
  | n + 1, a => (a : Int) :: marksN n (a + 1)
theorem marksN_len : ∀ n a, (marksN n a).length = n
  | 0, _ => rfl
  | n + 1, a => by simp [marksN, marksN_len n]
theorem set_mid {α : Type} (xs : List α) (y : α) (ys : List α) (v : α) : (xs ++ y :: ys).set xs.length v = (xs ++ [v]) ++ ys := by
  rw [List.set_append_right _ _ (Nat.le_refl _)]
  simp
theorem getD_mid {α : Type} (xs : List α) (y : α) (ys : List α) (d : α) : (xs ++ y :: ys).getD xs.length d = y := by simp [List.getD]
theorem markIntS_ev (l : List Int) (a : Nat) (hl : l.length ≤ 1048576) (ha : a ≤ 33554432) : Ev (fun k => laws_markIntS.f k l a) ((a : Int) + l.length, marksN l.length a) := by
  have key : ∀ (ys xs : List Int) (b : Nat), xs.length + ys.length ≤ 1048576 → b ≤ 67108864 - ys.length → Ev (fun k => laws_markIntS.l0 k (xs ++ ys) b xs.length) ((b : Int) + ys.length, xs ++ marksN ys.length b) := by
    intro ys
    induction ys with
    | nil =>
      intro xs b h h'
      refine Ev.step (f := fun _ => some (((b : Int), xs ++ []))) (fun k => ?_) (Ev.some ?_)
      · simp only [laws_markIntS.l0]
        rw [if_neg (by simp)]
      · simp [marksN]
    | cons y ys ih =>
      intro xs b h h'
      simp only [List.length_cons] at h h'
      have := ih (xs ++ [(b : Int)]) (b + 1) (by simp; omega) (by omega)
      rw [List.append_assoc] at this
      refine Ev.step (fun k => ?_) (ev_eq this ?_)
      · simp only [laws_markIntS.l0]
        rw [if_pos (by simp; omega), if_pos (by omega), Int.toNat_natCast, set_mid, w64n _ (by omega), w64n _ (by omega), List.append_assoc]
        congr 1
        simp
      · simp only [List.length_cons, marksN, Prod.mk.injEq]
        exact ⟨by omega, by simp⟩
  have := key l [] a (by simpa using hl) (by omega)
  unfold laws_markIntS.f
  simpa using this
theorem heldIntS_ev (n a : Nat) (hn : n ≤ 1048576) (ha : a ≤ 1048576) : Ev (fun k => laws_heldIntS.f k (marksN n a) a) ((a : Int) + n) := by
  have key : ∀ (d : Nat) (xs : List Int) (b : Nat), xs.length + d ≤ 1048576 → b ≤ 4194304 - d → Ev (fun k => laws_heldIntS.l0 k (xs ++ marksN d b) b xs.length) ((b : Int) + d) := by
    intro d
    induction d with
    | zero =>
      intro xs b h h'
      refine Ev.step (f := fun _ => some (b : Int)) (fun k => ?_) (Ev.some (by simp))
      simp only [laws_heldIntS.l0]
      rw [if_neg (by simp [marksN])]
    | succ d ih =>
      intro xs b h h'
      have := ih (xs ++ [(b : Int)]) (b + 1) (by simp; omega) (by omega)
      rw [List.append_assoc] at this
      refine Ev.step (fun k => ?_) (ev_eq this (by omega))
      have e : rd (xs ++ marksN (d + 1) b) (xs.length : Nat) = b := by
        unfold rd marksN
        rw [Int.toNat_natCast, getD_mid]
      simp only [laws_heldIntS.l0]
      rw [if_pos (by simp [marksN_len]; omega), if_pos (by omega), e, if_pos rfl, w64n _ (by omega), w64n _ (by omega)]
      congr 1
      simp
  have := key n [] a (by simpa using hn) (by omega)
  unfold laws_heldIntS.f
  simpa using this
noncomputable def marksI : Nat → Nat → List Instr
  | 0, _ => []
  | n + 1, a => ⟨mtx a, (a + 1 : Nat), (a + 2 : Nat), (a + 3 : Nat), (a + 4 : Nat)⟩ :: marksI n (a + 5)
theorem rdI_mid (xs : List Instr) (y : Instr) (ys : List Instr) : rd_T57 (xs ++ y :: ys) (xs.length : Nat) = y := by
  unfold rd_T57
  rw [Int.toNat_natCast, getD_mid]
theorem markInstrS_ev (l : List Instr) (a : Nat) (hl : l.length ≤ 1048576) (ha : a ≤ 11534336) : Ev (fun k => laws_markInstrS.f k l a) ((a : Int) + 5 * l.length, marksI l.length a) := by
  have key : ∀ (ys xs : List Instr) (b : Nat), xs.length + ys.length ≤ 1048576 → b ≤ 16777216 - 5 * ys.length → Ev (fun k => laws_markInstrS.l0 k (xs ++ ys) b xs.length) ((b : Int) + 5 * ys.length, xs ++ marksI ys.length b) := by
    intro ys
    induction ys with
    | nil =>
      intro xs b h h'
      refine Ev.step (f := fun _ => some (((b : Int), xs ++ []))) (fun k => ?_) (Ev.some ?_)
      · simp only [laws_markInstrS.l0]
        rw [if_neg (by simp)]
      · simp [marksI]
    | cons y ys ih =>
      intro xs b h h'
      simp only [List.length_cons] at h h'
      have := ih (xs ++ [⟨mtx b, (b + 1 : Nat), (b + 2 : Nat), (b + 3 : Nat), (b + 4 : Nat)⟩]) (b + 5) (by simp; omega) (by omega)
      rw [List.append_assoc] at this
      refine Ev.step (fun k => by simp only [laws_markInstrS.l0]; rfl) ?_
      refine Ev.ifp (by simp; omega) ?_
      refine Ev.bind (mtx_ev b (by omega)) ?_
      refine Ev.ifp (by omega) ?_
      refine Ev.congr (fun k => ?_) (ev_eq this ?_)
      · simp only [Option.bind_some, Int.toNat_natCast, set_mid, rdI_mid, List.append_assoc, List.singleton_append]
        rw [w64n b (by omega), w64n (b + 1) (by omega), w64n (b + 2) (by omega), w64n (b + 3) (by omega), w64n (b + 4) (by omega), w64n _ (by omega)]
        congr 1
        simp
      · simp only [List.length_cons, marksI, Prod.mk.injEq]
        exact ⟨by omega, by simp⟩
  have := key l [] a (by simpa using hl) (by omega)
  unfold laws_markInstrS.f
  simpa using this
end Go.Proofs.Yteaablbhdmkcpaa.PL
end
section
namespace Go.Proofs.Yteaablbhdmkcpaa.PL
open Go Go.RowKit Go.Proofs.YteaablbhdmkcpaaW.PrintWords Go.Proofs.YteaablbhdmkcpaaW.PrintLast Go.Proofs.YteaablbhdmkcpaaW.PrintMore Go.Proofs.Yteaablbhdmkcpaa.Q
set_option linter.unusedSimpArgs false
set_option linter.unusedVariables false
theorem rdLL_eq {xs : List (List Int)} {i : Nat} {x : List Int} (h : ∀ d, xs.getD i d = x) : rd_L4 xs i = x := by
  unfold rd_L4
  rw [Int.toNat_natCast]
  exact h _
theorem eqLL_refl (l : List (List Int)) (hl : l.length ≤ 1048576) (hb : ∀ x ∈ l, x.length ≤ 1048576) : Ev (fun k => laws_eqIntSS.f k l l) true := by
  unfold laws_eqIntSS.f
  refine Ev.ifp rfl ?_
  have key : ∀ (d i : Nat), i + d = l.length → Ev (fun k => laws_eqIntSS.l0 k l l i) true := by
    intro d
    induction d with
    | zero =>
      intro i hi
      refine Ev.step (f := fun _ => some true) (fun k => ?_) (Ev.now _)
      simp only [laws_eqIntSS.l0]
      rw [if_neg (by omega)]
    | succ d ih =>
      intro i hi
      have hlt : i < l.length := by omega
      refine Ev.step (fun k => by simp only [laws_eqIntSS.l0, rdLL_eq (getD_eq l i hlt)]; rfl) (Ev.ifp (by omega) (Ev.ifp (by omega) (Ev.ifp (by omega) (Ev.bind (eqIntS_refl _ (hb _ (List.getElem_mem hlt))) (Ev.ifp rfl ?_)))))
      rw [w64n i (by omega)]
      exact ih (i + 1) (by omega)
  exact key l.length 0 (by omega)
def marksNN : List (List Int) → Nat → List (List Int)
  | [], _ => []
  | x :: xs, a => marksN x.length a :: marksNN xs (a + x.length)
def cntN : List (List Int) → Nat
  | [] => 0
  | x :: xs => x.length + cntN xs
theorem cntN_cons (x : List Int) (xs : List (List Int)) : cntN (x :: xs) = x.length + cntN xs := rfl
theorem marksNN_cons (x : List Int) (xs : List (List Int)) (a : Nat) : marksNN (x :: xs) a = marksN x.length a :: marksNN xs (a + x.length) := rfl
theorem markSS_ev (l : List (List Int)) (a : Nat) (hl : l.length ≤ 1048576) (h : a + cntN l ≤ 1048576) : Ev (fun k => laws_markIntSS.f k l a) (((a + cntN l : Nat) : Int), marksNN l a) := by
  have key : ∀ (l : List (List Int)) (a : Nat), a + cntN l ≤ 1048576 → Ev (fun k => laws_markIntSS.m k l a) (((a + cntN l : Nat) : Int), marksNN l a) := by
    intro l
    induction l with
    | nil => intro a h; exact Ev.now _
    | cons x xs ih =>
      intro a h
      rw [cntN_cons] at h
      refine Ev.bind (markIntS_ev x a (by omega) (by omega)) ?_
      have := ih (a + x.length) (by omega)
      rw [show ((a + x.length : Nat) : Int) = (a : Int) + x.length by omega] at this
      refine Ev.bind this (Ev.some ?_)
      rw [cntN_cons, marksNN_cons, Nat.add_assoc]
  unfold laws_markIntSS.f
  exact Ev.ifp hl (key l a h)
theorem heldSS_ev (l : List (List Int)) (a : Nat) (hl : l.length ≤ 1048576) (h : a + cntN l ≤ 1048576) : Ev (fun k => laws_heldIntSS.f k (marksNN l a) a) ((a + cntN l : Nat) : Int) := by
  unfold laws_heldIntSS.f
  have key : ∀ (r : List (List Int)) (pre : List (List Int)) (b : Nat), pre.length + r.length ≤ 1048576 → b + cntN r ≤ 1048576 → Ev (fun k => laws_heldIntSS.l0 k (pre ++ marksNN r b) b pre.length) ((b + cntN r : Nat) : Int) := by
    intro r
    induction r with
    | nil =>
      intro pre b h1 h2
      refine Ev.step (f := fun _ => some (b : Int)) (fun k => ?_) (Ev.some rfl)
      simp only [laws_heldIntSS.l0]
      rw [if_neg (by simp [marksNN])]
    | cons x xs ih =>
      intro pre b h1 h2
      rw [cntN_cons] at h2
      simp only [List.length_cons] at h1
      have next := ih (pre ++ [marksN x.length b]) (b + x.length) (by rw [List.length_append, List.length_singleton]; omega) (by omega)
      rw [List.append_assoc, List.length_append, List.length_singleton] at next
      rw [marksNN_cons]
      have e : rd_L4 (pre ++ marksN x.length b :: marksNN xs (b + x.length)) (pre.length : Nat) = marksN x.length b := rdLL_eq (fun d => getD_mid _ _ _ _)
      refine Ev.step (fun k => by simp only [laws_heldIntSS.l0]; rfl) (Ev.ifp (by rw [List.length_append, List.length_cons]; omega) (Ev.ifp (by omega) ?_))
      rw [e]
      refine Ev.bind (heldIntS_ev x.length b (by omega) (by omega)) (Ev.ifn (by omega) ?_)
      rw [w64n _ (by omega), show (b : Int) + (x.length : Int) = ((b + x.length : Nat) : Int) by omega]
      refine ev_eq next ?_
      rw [cntN_cons, Nat.add_assoc]
  exact key l [] a (by simpa using hl) h
end Go.Proofs.Yteaablbhdmkcpaa.PL
end
section
namespace Go.Proofs.Yteaablbhdmkcpaa.PL
open Go Go.RowKit Go.Proofs.YteaablbhdmkcpaaW.PrintWords Go.Proofs.YteaablbhdmkcpaaW.PrintLast Go.Proofs.YteaablbhdmkcpaaW.PrintMore Go.Proofs.Yteaablbhdmkcpaa.Q
set_option linter.unusedSimpArgs false
set_option linter.unusedVariables false
theorem markI_ev (l : List Instr) (a : Nat) (hl : l.length ≤ 1048576) (ha : a ≤ 11534336) : Ev (fun k => laws_markInstrS.f k l a) (((a + 5 * l.length : Nat) : Int), marksI l.length a) :=
  ev_eq (markInstrS_ev l a hl ha) (by rw [Prod.mk.injEq]; exact ⟨by omega, rfl⟩)
end Go.Proofs.Yteaablbhdmkcpaa.PL
end
section
namespace Go.Proofs.Yteaablbhdmkcpaa.PL
open Go Go.RowKit Go.Proofs.YteaablbhdmkcpaaW.PrintWords Go.Proofs.YteaablbhdmkcpaaW.PrintLast Go.Proofs.YteaablbhdmkcpaaW.PrintMore Go.Proofs.Yteaablbhdmkcpaa.Q
set_option linter.unusedSimpArgs false
set_option linter.unusedVariables false
def dpB (l : List Instr) (i : Nat) : Nat → Nat → List (List Int)
  | _, 0 => []
  | j, d + 1 => (if dlyS l i j ≥ 0 then [[(i : Int), (j : Int), dlyS l i j]] else []) ++ dpB l i (j + 1) d
def dpL (l : List Instr) : Nat → List (List Int)
  | 0 => []
  | i + 1 => dpL l i ++ dpB l i 0 l.length
theorem dpB_succ (l : List Instr) (i j d : Nat) : dpB l i j (d + 1) = (if dlyS l i j ≥ 0 then [[(i : Int), (j : Int), dlyS l i j]] else []) ++ dpB l i (j + 1) d := rfl
theorem dpL_succ (l : List Instr) (i : Nat) : dpL l (i + 1) = dpL l i ++ dpB l i 0 l.length := rfl
theorem dpB_len (l : List Instr) (i : Nat) : ∀ d j, (dpB l i j d).length ≤ d ∧ ∀ x ∈ dpB l i j d, x.length = 3
  | 0, j => by simp [dpB]
  | d + 1, j => by
    have ih := dpB_len l i d (j + 1)
    unfold dpB
    split
    · refine ⟨by rw [List.length_append, List.length_singleton]; omega, fun x hx => ?_⟩
      rcases List.mem_append.1 hx with h | h
      · rw [List.mem_singleton.1 h]; rfl
      · exact ih.2 x h
    · exact ⟨by rw [List.nil_append]; omega, fun x hx => ih.2 x (by simpa using hx)⟩
theorem dpL_len (l : List Instr) : ∀ i, (dpL l i).length ≤ i * l.length ∧ ∀ x ∈ dpL l i, x.length = 3
  | 0 => by simp [dpL]
  | i + 1 => by
    have ih := dpL_len l i
    have h := dpB_len l i l.length 0
    unfold dpL
    refine ⟨by rw [List.length_append, Nat.succ_mul]; omega, fun x hx => ?_⟩
    rcases List.mem_append.1 hx with h' | h'
    · exact ih.2 x h'
    · exact h.2 x h'
theorem cnt3 : ∀ (L : List (List Int)), (∀ x ∈ L, x.length = 3) → cntN L = 3 * L.length
  | [], _ => rfl
  | x :: xs, h => by
    have ih := cnt3 xs (fun y hy => h y (by simp [hy]))
    have := h x (by simp)
    unfold cntN
    rw [List.length_cons]
    omega
theorem dpB_skip (l : List Instr) (i e : Nat) : ∀ d j, j + d = i + 1 → dpB l i j (d + e) = dpB l i (i + 1) e := by
  intro d
  induction d with
  | zero => intro j hj; rw [Nat.zero_add]; rw [show j = i + 1 by omega]
  | succ d ih =>
    intro j hj
    rw [show d + 1 + e = (d + e) + 1 by omega, dpB_succ]
    rw [if_neg (by unfold dlyS; rw [if_neg (by omega)]; decide), List.nil_append]
    exact ih (j + 1) (by omega)
def dpR (l : List Instr) : List (List Int) × Bool := if okBlock l = true then (dpL l l.length, true) else ([], false)
theorem dpR_len (l : List Instr) : (dpR l).1.length ≤ 400 ∧ ∀ x ∈ (dpR l).1, x.length = 3 := by
  unfold dpR
  split
  · rename_i h
    have := (okBlock_of h).1
    have d := dpL_len l l.length
    refine ⟨?_, d.2⟩
    have : l.length * l.length ≤ 20 * 20 := Nat.mul_le_mul this this
    exact Nat.le_trans d.1 this
  · exact ⟨Nat.zero_le _, fun x hx => by simp at hx⟩
theorem implDP_ev (l : List Instr) (hl : l.length ≤ 1048576) : Ev (fun k => impl_DependsOf.f k l) (dpR l) := by
  unfold impl_DependsOf.f
  refine Ev.bind (isBlock_ev l) ?_
  unfold dpR
  by_cases h : okBlock l = true
  · obtain ⟨h1, h2⟩ := okBlock_of h
    refine Ev.ifp h (Ev.bind (delays_ev l hl) ?_)
    rw [if_pos h]
    have row : ∀ (i : Nat), i < l.length → ∀ (T : List (List Int) × Bool) (d j : Nat) (A : List (List Int)), i < j → j + d = l.length → A.length + d ≤ 1000 →
        Ev (fun k => impl_DependsOf.l0 k l (tabI l l.length) (A ++ dpB l i j d) l.length ((i + 1 : Nat) : Int)) T → Ev (fun k => impl_DependsOf.l1 k l (tabI l l.length) A i j l.length i) T := by
      intro i hi T d
      induction d with
      | zero =>
        intro j A hij hj hA hc
        unfold dpB at hc
        rw [List.append_nil] at hc
        refine Ev.step (fun k => by simp only [impl_DependsOf.l1]; rfl) (Ev.ifn (by omega) ?_)
        rw [w64n i (by omega)]
        exact hc
      | succ d ih =>
        intro j A hij hj hA hc
        unfold dpB at hc
        refine Ev.step (fun k => by simp only [impl_DependsOf.l1]; rfl) (Ev.ifp (by omega) (Ev.ifp (by omega) (Ev.ifp (by rw [tabI_len]; omega) (Ev.ifp (by omega) ?_))))
        rw [tabI_at l l.length j (by omega)]
        refine Ev.ifp (by rw [rowI_len]; omega) ?_
        rw [rowI_at l j j i hij, w64n j (by omega)]
        have e : dlyS l i j = dly l i j := by unfold dlyS; rw [if_pos hij]
        rw [e] at hc
        by_cases hd : dly l i j ≥ 0
        · rw [if_pos hd, ← List.append_assoc] at hc
          exact Ev.ifp hd (Ev.ifp (by omega) (ih (j + 1) _ (by omega) (by omega) (by rw [List.length_append, List.length_singleton]; omega) hc))
        · rw [if_neg hd, List.nil_append] at hc
          exact Ev.ifn hd (ih (j + 1) A (by omega) (by omega) (by omega) hc)
    have key : ∀ (d i : Nat), i + d = l.length → Ev (fun k => impl_DependsOf.l0 k l (tabI l l.length) (dpL l i) l.length i) (dpL l l.length, true) := by
      intro d
      induction d with
      | zero =>
        intro i hi
        obtain rfl : i = l.length := by omega
        refine Ev.step (f := fun _ => some (dpL l l.length, true)) (fun k => ?_) (Ev.now _)
        simp only [impl_DependsOf.l0]
        rw [if_neg (by omega)]
      | succ d ih =>
        intro i hi
        have next := ih (i + 1) (by omega)
        rw [dpL_succ] at next
        have sk := dpB_skip l i (l.length - (i + 1)) (i + 1) 0 (by omega)
        rw [show i + 1 + (l.length - (i + 1)) = l.length by omega] at sk
        rw [sk] at next
        have hb := (dpL_len l i).1
        have hb2 : i * l.length ≤ 20 * 20 := Nat.mul_le_mul (by omega) h1
        refine Ev.step (fun k => by simp only [impl_DependsOf.l0]; rfl) (Ev.ifp (by omega) ?_)
        rw [w64n i (by omega)]
        exact row i (by omega) _ (l.length - (i + 1)) (i + 1) (dpL l i) (by omega) (by omega) (by omega) next
    exact key l.length 0 (by omega)
  · rw [if_neg h]
    exact Ev.ifn h (Ev.now _)
theorem specDP_ev (l : List Instr) (hl : l.length ≤ 1048576) : Ev (fun k => spec_DependsOf.f k l) (dpR l) := by
  unfold spec_DependsOf.f
  refine Ev.bind (orGood_ev l) ?_
  unfold dpR
  by_cases h : okBlock l = true
  · obtain ⟨h1, h2⟩ := okBlock_of h
    refine Ev.ifp h (Ev.bind (orDelays_ev l hl h2) ?_)
    rw [if_pos h, tabS_len]
    have row : ∀ (i : Nat), i < l.length → ∀ (T : List (List Int) × Bool) (d j : Nat) (A : List (List Int)), j + d = l.length → A.length + d ≤ 1000 →
        Ev (fun k => spec_DependsOf.l0 k (A ++ dpB l i j d) (tabS l l.length) l.length ((i + 1 : Nat) : Int)) T → Ev (fun k => spec_DependsOf.l1 k A i (tabS l l.length) l.length i (rowS l i l.length) l.length j) T := by
      intro i hi T d
      induction d with
      | zero =>
        intro j A hj hA hc
        unfold dpB at hc
        rw [List.append_nil] at hc
        refine Ev.step (fun k => by simp only [spec_DependsOf.l1]; rfl) (Ev.ifn (by omega) ?_)
        rw [w64n i (by omega)]
        exact hc
      | succ d ih =>
        intro j A hj hA hc
        unfold dpB at hc
        refine Ev.step (fun k => by simp only [spec_DependsOf.l1]; rfl) (Ev.ifp (by omega) (Ev.ifp (by omega) (Ev.ifp (by rw [rowS_len]; omega) ?_)))
        rw [rowS_at l i l.length j (by omega), w64n j (by omega)]
        by_cases hd : dlyS l i j ≥ 0
        · rw [if_pos hd, ← List.append_assoc] at hc
          exact Ev.ifp hd (Ev.ifp (by omega) (ih (j + 1) _ (by omega) (by rw [List.length_append, List.length_singleton]; omega) hc))
        · rw [if_neg hd, List.nil_append] at hc
          exact Ev.ifn hd (ih (j + 1) A (by omega) (by omega) hc)
    have key : ∀ (d i : Nat), i + d = l.length → Ev (fun k => spec_DependsOf.l0 k (dpL l i) (tabS l l.length) l.length i) (dpL l l.length, true) := by
      intro d
      induction d with
      | zero =>
        intro i hi
        obtain rfl : i = l.length := by omega
        refine Ev.step (f := fun _ => some (dpL l l.length, true)) (fun k => ?_) (Ev.now _)
        simp only [spec_DependsOf.l0]
        rw [if_neg (by omega)]
      | succ d ih =>
        intro i hi
        have next := ih (i + 1) (by omega)
        rw [dpL_succ] at next
        have hb := (dpL_len l i).1
        have hb2 : i * l.length ≤ 20 * 20 := Nat.mul_le_mul (by omega) h1
        refine Ev.step (fun k => by simp only [spec_DependsOf.l0]; rfl) (Ev.ifp (by omega) (Ev.ifp (by omega) (Ev.ifp (by rw [tabS_len]; omega) ?_)))
        rw [tabS_at l l.length i (by omega), rowS_len]
        exact row i (by omega) _ l.length 0 (dpL l i) (by omega) (by omega) next
    exact key l.length 0 (by omega)
  · rw [if_neg h]
    exact Ev.ifn h (Ev.now _)
end Go.Proofs.Yteaablbhdmkcpaa.PL
namespace Go.Proofs.Yteaablbhdmkcpaa.Pure
open Go Go.RowKit Go.Proofs.YteaablbhdmkcpaaW.PrintWords Go.Proofs.YteaablbhdmkcpaaW.PrintLast Go.Proofs.YteaablbhdmkcpaaW.PrintMore Go.Proofs.Yteaablbhdmkcpaa.Q Go.Proofs.Yteaablbhdmkcpaa.PL
set_option linter.unusedSimpArgs false
set_option linter.unusedVariables false
theorem FnExactDependsOf : laws_FnExactDependsOf.Pure := by
  intro a0 h0
  refine Ev.rounds (g := fun k => laws_FnExactDependsOf.f k a0) ?_
  unfold laws_FnExactDependsOf.f
  obtain ⟨r0, hr0, hr0'⟩ := szInstrS_ev a0 1048576 h0 (by decide) (by decide)
  refine Ev.bind hr0 ?_
  by_cases hn0 : r0 < 0
  · exact Ev.ifp hn0 (Ev.now _)
  have hl0 := hr0' (by omega)
  refine Ev.ifn hn0 ?_
  have b0 : a0.length ≤ 1048576 := by have := hl0.1; omega
  have b1 : (a0.map cvI).length ≤ 1048576 := by simpa using b0
  have hd := dpR_len (a0.map cvI)
  have hc := cnt3 _ hd.2
  refine Ev.bind (toInstrS_ev a0 b0) (Ev.bind (specDP_ev _ b1) (Ev.bind (implDP_ev _ b1) ?_))
  refine Ev.bind (eqLL_refl _ (by omega) (fun x hx => by have := hd.2 x hx; omega)) (Ev.bind (eqInstrS_refl _ b1) (Ev.bind (markI_ev _ 1 b1 (by decide)) ?_))
  refine Ev.bind (markSS_ev _ 1 (by omega) (by omega)) (Ev.bind (heldSS_ev _ 1 (by omega) (by omega)) ?_)
  exact Ev.ifp ⟨rfl, rfl, rfl, by show (0 : Int) ≤ ((1 + 5 * _ : Nat) : Int); omega, rfl, by omega⟩ (Ev.now _)
end Go.Proofs.Yteaablbhdmkcpaa.Pure
end
