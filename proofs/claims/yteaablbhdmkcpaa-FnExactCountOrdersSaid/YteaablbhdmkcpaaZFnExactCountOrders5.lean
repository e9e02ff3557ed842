/- Proved here: contracts of functions that the law FnExactCountOrders reaches, and lemmas on what they compute; texts of this session and the printed words of the kit that they lean on, cut down and put together by its program link.py. Conditions: as each states. -/
import Derived.Carry
import Derived.Deep.Slices
import Derived.Laws.BitsLemmas
import Derived.ProofKit
import Derived.Test.YteaablbhdmkcpaaZFnExactCountOrders1
import Derived.Test.YteaablbhdmkcpaaZFnExactCountOrders2
import Derived.Test.YteaablbhdmkcpaaZFnExactCountOrders3
import Derived.Test.YteaablbhdmkcpaaZFnExactCountOrders4
section
namespace Go.Proofs.Yteaablbhdmkcpaa.Q
open Go.RowKit Go.Proofs.YteaablbhdmkcpaaW.PrintWords Go.Proofs.YteaablbhdmkcpaaW.PrintLast Go.Proofs.YteaablbhdmkcpaaW.PrintMore
attribute [local go_sem] max2_int min2_int max_two min_two max_three min_three max_four min_four
set_option linter.unusedVariables false
set_option linter.unusedSimpArgs false
mutual
def spec_CountOrders.j0 : Nat → List (S57) → Bool → Option (Int × Bool)
  | 0, _, _ => none
  | k + 1, x0, x18 => if x18 = true then (some (0, false)) else ((spec_orDelays.f k x0).bind fun t102 => (if 0 ≤ (shl .i64 1 (x0.length : Int)) then (if (shl .i64 1 (x0.length : Int) : Int).toNat ≤ 35184372088832 then ((some (List.replicate (shl .i64 1 (x0.length : Int) : Int).toNat 0 : List Int)).bind fun y105 => (if 0 < (y105.length : Int) then (spec_CountOrders.l0 k x0 t102 (y105.set (0 : Int).toNat 1) (y105.length : Int) 0) else (none))) else (none)) else (none)))
def spec_CountOrders.l0 : Nat → List (S57) → List (List Int) → List Int → Int → Int → Option (Int × Bool)
  | 0, _, _, _, _, _ => none
  | k + 1, x0, x4, x5, x28, x29 => if x29 < x28 then (if 0 ≤ x29 then (if x29 < (x5.length : Int) then (spec_CountOrders.l1 k x0 x4 x5 x29 (rd x5 x29) x28 x29 (x0.length : Int) 0) else (none)) else (none)) else (if 0 ≤ (wrap64 ((x5.length : Int) - 1)) then (if (wrap64 ((x5.length : Int) - 1)) < (x5.length : Int) then (some (rd x5 (wrap64 ((x5.length : Int) - 1)), true)) else (none)) else (none))
def spec_CountOrders.l1 : Nat → List (S57) → List (List Int) → List Int → Int → Int → Int → Int → Int → Int → Option (Int × Bool)
  | 0, _, _, _, _, _, _, _, _, _ => none
  | k + 1, x0, x4, x5, x6, x7, x28, x29, x35, x36 => if x36 < x35 then (if 0 ≤ x36 then (spec_CountOrders.l2 k x0 x4 x5 x6 x7 x36 ((Int.tmod (shr .i64 x6 x36) 2) == 0) x28 x29 x35 x36 (x0.length : Int) 0) else (none)) else (spec_CountOrders.l0 k x0 x4 x5 x28 (wrap64 (x29 + 1)))
def spec_CountOrders.l2 : Nat → List (S57) → List (List Int) → List Int → Int → Int → Int → Bool → Int → Int → Int → Int → Int → Int → Option (Int × Bool)
  | 0, _, _, _, _, _, _, _, _, _, _, _, _, _ => none
  | k + 1, x0, x4, x5, x6, x7, x8, x9, x28, x29, x35, x36, x45, x46 => if x46 < x45 then (if x9 = true then (if 0 ≤ x46 then (if x46 < (x4.length : Int) then (if 0 ≤ x8 then (if x8 < ((rd_L4 x4 x46).length : Int) then (if (rd (rd_L4 x4 x46) x8) < 0 then (spec_CountOrders.l2 k x0 x4 x5 x6 x7 x8 true x28 x29 x35 x36 x45 (wrap64 (x46 + 1))) else (spec_CountOrders.l2 k x0 x4 x5 x6 x7 x8 ((Int.tmod (shr .i64 x6 x46) 2) == 1) x28 x29 x35 x36 x45 (wrap64 (x46 + 1)))) else (none)) else (none)) else (none)) else (none)) else (spec_CountOrders.l2 k x0 x4 x5 x6 x7 x8 false x28 x29 x35 x36 x45 (wrap64 (x46 + 1)))) else (if x9 = true then (if 0 ≤ x8 then (if 0 ≤ (Go.bits .or .i64 x6 (shl .i64 1 x8)) then (if (Go.bits .or .i64 x6 (shl .i64 1 x8)) < (x5.length : Int) then (spec_CountOrders.l1 k x0 x4 (x5.set ((Go.bits .or .i64 x6 (shl .i64 1 x8)) : Int).toNat (wrap64 ((rd x5 (Go.bits .or .i64 x6 (shl .i64 1 x8))) + x7))) x6 x7 x28 x29 x35 (wrap64 (x36 + 1))) else (none)) else (none)) else (none)) else (spec_CountOrders.l1 k x0 x4 x5 x6 x7 x28 x29 x35 (wrap64 (x36 + 1))))
end
def spec_CountOrders.f (k : Nat) (l0 : List (S57)) : Option (Int × Bool) := (spec_orGood.f k l0).bind fun t101 => (if t101 = true then (spec_CountOrders.j0 k l0 (decide ((l0.length : Int) > 12))) else (spec_CountOrders.j0 k l0 true))
theorem spec_CountOrders.mono_l : ∀ k, (∀ y0 y1, LeO (spec_CountOrders.j0 k y0 y1) (spec_CountOrders.j0 (k + 1) y0 y1)) ∧ (∀ y0 y1 y2 y3 y4, LeO (spec_CountOrders.l0 k y0 y1 y2 y3 y4) (spec_CountOrders.l0 (k + 1) y0 y1 y2 y3 y4)) ∧ (∀ y0 y1 y2 y3 y4 y5 y6 y7 y8, LeO (spec_CountOrders.l1 k y0 y1 y2 y3 y4 y5 y6 y7 y8) (spec_CountOrders.l1 (k + 1) y0 y1 y2 y3 y4 y5 y6 y7 y8)) ∧ (∀ y0 y1 y2 y3 y4 y5 y6 y7 y8 y9 y10 y11 y12, LeO (spec_CountOrders.l2 k y0 y1 y2 y3 y4 y5 y6 y7 y8 y9 y10 y11 y12) (spec_CountOrders.l2 (k + 1) y0 y1 y2 y3 y4 y5 y6 y7 y8 y9 y10 y11 y12))
  | 0 => ⟨fun _ _ r h => by simp [spec_CountOrders.j0] at h, fun _ _ _ _ _ r h => by simp [spec_CountOrders.l0] at h, fun _ _ _ _ _ _ _ _ _ r h => by simp [spec_CountOrders.l1] at h, fun _ _ _ _ _ _ _ _ _ _ _ _ _ r h => by simp [spec_CountOrders.l2] at h⟩
  | k + 1 => by
    obtain ⟨ih0, ih1, ih2, ih3⟩ := spec_CountOrders.mono_l k
    refine ⟨?_, ?_, ?_, ?_⟩
    · intro y0 y1
      unfold spec_CountOrders.j0
      repeat' first
      | (with_reducible exact ih0 _ _)
      | (with_reducible exact ih1 _ _ _ _ _)
      | (with_reducible exact ih2 _ _ _ _ _ _ _ _ _)
      | (with_reducible exact ih3 _ _ _ _ _ _ _ _ _ _ _ _ _)
      | (with_reducible exact spec_orDelays.mono _ _)
      | (with_reducible exact spec_orGood.mono _ _)
      | (with_reducible exact LeO.refl _)
      | (with_reducible exact LeO.none _)
      | (with_reducible refine LeO.ite ?_ ?_)
      | (with_reducible refine LeO.bind ?_ (fun _ => ?_))
      | exact ih0 _ _
      | exact ih1 _ _ _ _ _
      | exact ih2 _ _ _ _ _ _ _ _ _
      | exact ih3 _ _ _ _ _ _ _ _ _ _ _ _ _
      | exact spec_orDelays.mono _ _
      | exact spec_orGood.mono _ _
      | exact LeO.none _
      | refine LeO.ite ?_ ?_
      | refine LeO.bind ?_ (fun _ => ?_)
    · intro y0 y1 y2 y3 y4
      unfold spec_CountOrders.l0
      repeat' first
      | (with_reducible exact ih0 _ _)
      | (with_reducible exact ih1 _ _ _ _ _)
      | (with_reducible exact ih2 _ _ _ _ _ _ _ _ _)
      | (with_reducible exact ih3 _ _ _ _ _ _ _ _ _ _ _ _ _)
      | (with_reducible exact spec_orDelays.mono _ _)
      | (with_reducible exact spec_orGood.mono _ _)
      | (with_reducible exact LeO.refl _)
      | (with_reducible exact LeO.none _)
      | (with_reducible refine LeO.ite ?_ ?_)
      | (with_reducible refine LeO.bind ?_ (fun _ => ?_))
      | exact ih0 _ _
      | exact ih1 _ _ _ _ _
      | exact ih2 _ _ _ _ _ _ _ _ _
      | exact ih3 _ _ _ _ _ _ _ _ _ _ _ _ _
      | exact spec_orDelays.mono _ _
      | exact spec_orGood.mono _ _
      | exact LeO.none _
      | refine LeO.ite ?_ ?_
      | refine LeO.bind ?_ (fun _ => ?_)
    · intro y0 y1 y2 y3 y4 y5 y6 y7 y8
      unfold spec_CountOrders.l1
      repeat' first
      | (with_reducible exact ih0 _ _)
      | (with_reducible exact ih1 _ _ _ _ _)
      | (with_reducible exact ih2 _ _ _ _ _ _ _ _ _)
      | (with_reducible exact ih3 _ _ _ _ _ _ _ _ _ _ _ _ _)
      | (with_reducible exact spec_orDelays.mono _ _)
      | (with_reducible exact spec_orGood.mono _ _)
      | (with_reducible exact LeO.refl _)
      | (with_reducible exact LeO.none _)
      | (with_reducible refine LeO.ite ?_ ?_)
      | (with_reducible refine LeO.bind ?_ (fun _ => ?_))
      | exact ih0 _ _
      | exact ih1 _ _ _ _ _
      | exact ih2 _ _ _ _ _ _ _ _ _
      | exact ih3 _ _ _ _ _ _ _ _ _ _ _ _ _
      | exact spec_orDelays.mono _ _
      | exact spec_orGood.mono _ _
      | exact LeO.none _
      | refine LeO.ite ?_ ?_
      | refine LeO.bind ?_ (fun _ => ?_)
    · intro y0 y1 y2 y3 y4 y5 y6 y7 y8 y9 y10 y11 y12
      unfold spec_CountOrders.l2
      repeat' first
      | (with_reducible exact ih0 _ _)
      | (with_reducible exact ih1 _ _ _ _ _)
      | (with_reducible exact ih2 _ _ _ _ _ _ _ _ _)
      | (with_reducible exact ih3 _ _ _ _ _ _ _ _ _ _ _ _ _)
      | (with_reducible exact spec_orDelays.mono _ _)
      | (with_reducible exact spec_orGood.mono _ _)
      | (with_reducible exact LeO.refl _)
      | (with_reducible exact LeO.none _)
      | (with_reducible refine LeO.ite ?_ ?_)
      | (with_reducible refine LeO.bind ?_ (fun _ => ?_))
      | exact ih0 _ _
      | exact ih1 _ _ _ _ _
      | exact ih2 _ _ _ _ _ _ _ _ _
      | exact ih3 _ _ _ _ _ _ _ _ _ _ _ _ _
      | exact spec_orDelays.mono _ _
      | exact spec_orGood.mono _ _
      | exact LeO.none _
      | refine LeO.ite ?_ ?_
      | refine LeO.bind ?_ (fun _ => ?_)
theorem spec_CountOrders.mono : ∀ a0 k, LeO (spec_CountOrders.f k a0) (spec_CountOrders.f (k + 1) a0) := by
  intro a0 k
  obtain ⟨ih0, ih1, ih2, ih3⟩ := spec_CountOrders.mono_l k
  unfold spec_CountOrders.f
  repeat' first
      | (with_reducible exact ih0 _ _)
      | (with_reducible exact ih1 _ _ _ _ _)
      | (with_reducible exact ih2 _ _ _ _ _ _ _ _ _)
      | (with_reducible exact ih3 _ _ _ _ _ _ _ _ _ _ _ _ _)
      | (with_reducible exact spec_orDelays.mono _ _)
      | (with_reducible exact spec_orGood.mono _ _)
      | (with_reducible exact LeO.refl _)
      | (with_reducible exact LeO.none _)
      | (with_reducible refine LeO.ite ?_ ?_)
      | (with_reducible refine LeO.bind ?_ (fun _ => ?_))
      | exact ih0 _ _
      | exact ih1 _ _ _ _ _
      | exact ih2 _ _ _ _ _ _ _ _ _
      | exact ih3 _ _ _ _ _ _ _ _ _ _ _ _ _
      | exact spec_orDelays.mono _ _
      | exact spec_orGood.mono _ _
      | exact LeO.none _
      | refine LeO.ite ?_ ?_
      | refine LeO.bind ?_ (fun _ => ?_)
set_option maxHeartbeats 8000000 in
set_option maxRecDepth 100000 in
theorem spec_CountOrders.calls (k : Nat) (A0 : Option Addr) (c0 : Nat) (l0 : List (S57)) (r1 : Int) (r2 : Bool) (w : World) (hr0 : Kd.C k57 w A0 l0.length l0) (hc0 : l0.length ≤ c0) (h : spec_CountOrders.f k l0 = some (r1, r2)) :
    Calls Try.prog 31 #[.slice A0 l0.length c0] w fun e w' => e = .returned (.tuple #[.int .i64 r1, .bool r2]) ∧ Below w.heap.size w w' := by
  have HR0 := Aside0.mk hr0
  have HC0 := Aside0.mk hc0
  clear hr0 hc0
  have HB := Aside0.mk (Below.refl w.heap.size w)
  have H : ((spec_orGood.f k l0).bind fun t101 => (if t101 = true then (spec_CountOrders.j0 k l0 (decide ((l0.length : Int) > 12))) else (spec_CountOrders.j0 k l0 true))) = some (r1, r2) := h
  clear h
  have HC2 := Aside0.mk H
  clear H
  go_enter Try.func31, Try.ntmps31
  go_upto_region 1 with (fail)
  go_cut [18] (fun v18 wc => ∃ (kq : Nat) (x18_1 : Bool), v18 = .bool x18_1 ∧ Aside0 (spec_CountOrders.j0 kq l0 x18_1 = some (r1, r2)) ∧ Aside0 (kq ≤ k) ∧ Aside0 (Below w.heap.size w wc))
  case first =>
    have H := HC2.out
    clear HC2
    replace H := Option.bind_eq_some_iff.mp H
    obtain ⟨t101, A30, H⟩ := H
    replace H : (if t101 = true then (spec_CountOrders.j0 k l0 (decide ((l0.length : Int) > 12))) else (spec_CountOrders.j0 k l0 true)) = some (r1, r2) := H
    have A3 := Aside0.mk A30
    clear A30
    by_cases c4 : t101 = true
    · subst c4
      have H1 : (spec_CountOrders.j0 k l0 (decide ((l0.length : Int) > 12))) = some (r1, r2) := by rw [if_pos rfl] at H; exact H
      clear H
      have H := H1
      clear H1
      have H' := Aside0.mk H
      clear H
      go_wp2_with (first | ((with_reducible refine gate_callee (f := 49) rfl ?_); refine goesL_ (some 12) rfl rfl Try.func49 (by kernel_rfl) rfl #[.slice A0 l0.length c0] rfl (by (try simp only [List.map_toArray, List.map_cons, List.map_nil]); first | done | rfl | (simp only [List.length_drop, List.length_take]; rfl)) ?_; (with_reducible refine (spec_orGood.calls k _ _ l0 true _ ?side1 ?side2 A3.out).mono ?_); (case side1 => repeat (first | exact (Kd.C_below HR0.out HB.out) | (with_reducible refine Kd.C_alloc ?_ _) | (with_reducible refine Kd.C_drewN ?_ _) | (with_reducible refine Kd.C_drew ?_))); (case side2 => exact HC0.out); rintro e w5 ⟨rfl, hb⟩; refine ⟨_, rfl, ?_⟩; have n0_ := Aside0.mk (below_step (by repeat (first | (with_reducible first | exact HB.out | apply below_alloc | apply pw_below_drewN | apply below_drew1) | exact HB.out)) hb); clear HB; have HB := n0_; clear n0_; (try clear hb); (try clear hb2); (try clear hk); (try clear hi)))
      go_meet
      case rel => exact ⟨_, (decide ((l0.length : Int) > 12)), (by first | rfl | (simp; done) | (simp [*]; done)), H', ⟨by first | omega | exact Nat.le_refl _⟩, ⟨by repeat (first | (with_reducible first | exact HB.out | apply below_alloc | apply pw_below_drewN | apply below_drew1) | exact HB.out)⟩⟩
    replace c4 := Bool.eq_false_iff.mpr c4
    subst c4
    have H1 : (spec_CountOrders.j0 k l0 true) = some (r1, r2) := by rw [if_neg (show ¬ (false = true) by decide)] at H; exact H
    clear H
    have H := H1
    clear H1
    have H' := Aside0.mk H
    clear H
    go_wp2_with (first | ((with_reducible refine gate_callee (f := 49) rfl ?_); refine goesL_ (some 12) rfl rfl Try.func49 (by kernel_rfl) rfl #[.slice A0 l0.length c0] rfl (by (try simp only [List.map_toArray, List.map_cons, List.map_nil]); first | done | rfl | (simp only [List.length_drop, List.length_take]; rfl)) ?_; (with_reducible refine (spec_orGood.calls k _ _ l0 false _ ?side1 ?side2 A3.out).mono ?_); (case side1 => repeat (first | exact (Kd.C_below HR0.out HB.out) | (with_reducible refine Kd.C_alloc ?_ _) | (with_reducible refine Kd.C_drewN ?_ _) | (with_reducible refine Kd.C_drew ?_))); (case side2 => exact HC0.out); rintro e w6 ⟨rfl, hb⟩; refine ⟨_, rfl, ?_⟩; have n0_ := Aside0.mk (below_step (by repeat (first | (with_reducible first | exact HB.out | apply below_alloc | apply pw_below_drewN | apply below_drew1) | exact HB.out)) hb); clear HB; have HB := n0_; clear n0_; (try clear hb); (try clear hb2); (try clear hk); (try clear hi)))
    go_meet
    case rel => exact ⟨_, (true), (by first | rfl | (simp; done) | (simp [*]; done)), H', ⟨by first | omega | exact Nat.le_refl _⟩, ⟨by repeat (first | (with_reducible first | exact HB.out | apply below_alloc | apply pw_below_drewN | apply below_drew1) | exact HB.out)⟩⟩
  clear HC2
  try clear p2
  try clear c3
  try clear c4
  obtain ⟨kq, x18_1, rfl, HA, HJ1, HB⟩ := hcut
  cases kq with
  | zero => exact absurd HA.out (by simp [spec_CountOrders.j0])
  | succ kj1 =>
  have H := HA.out
  clear HA
  simp only [spec_CountOrders.j0] at H
  by_cases c7 : x18_1 = true
  · subst c7
    have H1 : (some (0, false)) = some (r1, r2) := by rw [if_pos rfl] at H; exact H
    clear H
    have H := H1
    clear H1
    simp only [Option.some.injEq, Prod.mk.injEq] at H
    obtain ⟨rfl, rfl⟩ := H
    go_wp2
    go_ret2
    exact ⟨by first | rfl | (simp [errW_none, errW_some] <;> rfl) | (simp [*, errW_none, errW_some] <;> rfl), by repeat (first | (with_reducible first | exact HB.out | apply below_alloc | apply pw_below_drewN | apply below_drew1) | exact HB.out)⟩
  replace c7 := Bool.eq_false_iff.mpr c7
  subst c7
  have H1 : ((spec_orDelays.f kj1 l0).bind fun t102 => (if 0 ≤ (shl .i64 1 (l0.length : Int)) then (if (shl .i64 1 (l0.length : Int) : Int).toNat ≤ 35184372088832 then ((some (List.replicate (shl .i64 1 (l0.length : Int) : Int).toNat 0 : List Int)).bind fun y105 => (if 0 < (y105.length : Int) then (spec_CountOrders.l0 kj1 l0 t102 (y105.set (0 : Int).toNat 1) (y105.length : Int) 0) else (none))) else (none)) else (none))) = some (r1, r2) := by rw [if_neg (show ¬ (false = true) by decide)] at H; exact H
  clear H
  have H := H1
  clear H1
  replace H := Option.bind_eq_some_iff.mp H
  obtain ⟨t102, A80, H⟩ := H
  replace H : (if 0 ≤ (shl .i64 1 (l0.length : Int)) then (if (shl .i64 1 (l0.length : Int) : Int).toNat ≤ 35184372088832 then ((some (List.replicate (shl .i64 1 (l0.length : Int) : Int).toNat 0 : List Int)).bind fun y105 => (if 0 < (y105.length : Int) then (spec_CountOrders.l0 kj1 l0 t102 (y105.set (0 : Int).toNat 1) (y105.length : Int) 0) else (none))) else (none)) else (none)) = some (r1, r2) := H
  have A8 := Aside0.mk A80
  clear A80
  obtain ⟨ji9, hji9⟩ : ∃ j_ : Int, (shl .i64 1 (l0.length : Int)) = j_ := ⟨_, rfl⟩
  replace H : (if 0 ≤ (ji9) then (if (ji9 : Int).toNat ≤ 35184372088832 then ((some (List.replicate (ji9 : Int).toNat 0 : List Int)).bind fun y105 => (if 0 < (y105.length : Int) then (spec_CountOrders.l0 kj1 l0 t102 (y105.set (0 : Int).toNat 1) (y105.length : Int) 0) else (none))) else (none)) else (none)) = some (r1, r2) := by first | (rw [hji9] at H; exact H) | (simp only [hji9] at H ⊢; exact H)
  (try rw [hji9] at A8)
  have hji9_ : (IntKind.i64.wrap (1 * 2 ^ min (l0.length : Int).toNat 64)) = ji9 := hji9
  have hji9z : (l0.length : Int) ≤ 64 → (IntKind.i64.wrap (1 * 2 ^ (l0.length : Int).toNat)) = ji9 := shl_small hji9
  have hji9p : (IntKind.i64.wrap (1 * 2 ^ min l0.length 64)) = ji9 := hji9_
  have hji9q : (l0.length : Int) ≤ 64 → (IntKind.i64.wrap (1 * 2 ^ l0.length)) = ji9 := hji9z
  have hji9r : (IntKind.i64.wrap (2 ^ min l0.length 64)) = ji9 := by have h_ := hji9p; rw [Int.one_mul] at h_; exact h_
  have hji9s : (l0.length : Int) ≤ 64 → (IntKind.i64.wrap (2 ^ l0.length)) = ji9 := fun hle_ => by have h_ := hji9q hle_; rw [Int.one_mul] at h_; exact h_
  have hji9u : (IntKind.i64.wrap (2 ^ min (l0.length : Int).toNat 64)) = ji9 := by have h_ := hji9_; rw [Int.one_mul] at h_; exact h_
  have hji9v : (l0.length : Int) ≤ 64 → (IntKind.i64.wrap (2 ^ (l0.length : Int).toNat)) = ji9 := fun hle_ => by have h_ := hji9z hle_; rw [Int.one_mul] at h_; exact h_
  have hji9y : (wrap64 (1 * 2 ^ min (l0.length : Int).toNat 64)) = ji9 := (i64_w _).symm.trans hji9_
  have hji9x : (l0.length : Int) ≤ 64 → (wrap64 (1 * 2 ^ (l0.length : Int).toNat)) = ji9 := fun h_ => (i64_w _).symm.trans (hji9z h_)
  by_cases c10 : 0 ≤ (ji9)
  rotate_left
  · rw [if_neg c10] at H
    exact absurd H (by simp)
  rw [if_pos c10] at H
  have c10b0 := eq_true c10
  have c10b1 : decide (0 ≤ (ji9)) = true := decide_eq_true c10
  clear c10
  by_cases c11 : (ji9 : Int).toNat ≤ 35184372088832
  rotate_left
  · rw [if_neg c11] at H
    exact absurd H (by simp)
  rw [if_pos c11] at H
  have c11b0 := eq_true c11
  have c11b1 : decide ((ji9 : Int).toNat ≤ 35184372088832) = true := decide_eq_true c11
  clear c11
  obtain ⟨y105, hy105⟩ : ∃ y_ : List Int, y_ = (List.replicate (ji9 : Int).toNat 0) := ⟨_, rfl⟩
  replace H : (if 0 < (y105.length : Int) then (spec_CountOrders.l0 kj1 l0 t102 (y105.set (0 : Int).toNat 1) (y105.length : Int) 0) else (none)) = some (r1, r2) := by first | (rw [hy105]; with_reducible exact H) | (have H2_ := (Option.bind_some _ _).symm.trans H; rw [hy105]; with_reducible exact H2_) | (have H2_ := (Option.bind_some _ _).symm.trans H; with_reducible exact H2_) | with_reducible exact H | (rw [hy105]; exact H) | exact H
  have Ny105 := Aside0.mk hy105
  clear hy105
  by_cases c12 : 0 < (y105.length : Int)
  rotate_left
  · rw [if_neg c12] at H
    exact absurd H (by simp)
  rw [if_pos c12] at H
  have c12b0 : decide (0 < (y105.length : Int)) = true := decide_eq_true c12
  have c12b1 : decide (0 < y105.length) = true := decide_eq_true (by omega)
  clear c12
  obtain ⟨y108, hy108⟩ : ∃ y_ : List Int, y_ = (y105.set (0 : Int).toNat 1) := ⟨_, rfl⟩
  replace H : (spec_CountOrders.l0 kj1 l0 t102 y108 (y105.length : Int) 0) = some (r1, r2) := by first | (rw [hy108]; with_reducible exact H) | (have H2_ := (Option.bind_some _ _).symm.trans H; rw [hy108]; with_reducible exact H2_) | (have H2_ := (Option.bind_some _ _).symm.trans H; with_reducible exact H2_) | with_reducible exact H | (rw [hy108]; exact H) | exact H
  have Ny108 := Aside0.mk hy108
  clear hy108
  have H' := Aside0.mk H
  clear H
  go_wp2_with (first | ((with_reducible refine gate_callee (f := 50) rfl ?_); refine goesL_ (some 20) rfl rfl Try.func50 (by kernel_rfl) rfl #[.slice A0 l0.length c0] rfl (by (try simp only [List.map_toArray, List.map_cons, List.map_nil]); first | done | rfl | (simp only [List.length_drop, List.length_take]; rfl)) ?_; (with_reducible refine (spec_orDelays.calls kj1 _ _ l0 t102 _ ?side1 ?side2 A8.out).mono ?_); (case side1 => repeat (first | exact (Kd.C_below HR0.out HB.out) | (with_reducible refine Kd.C_alloc ?_ _) | (with_reducible refine Kd.C_drewN ?_ _) | (with_reducible refine Kd.C_drew ?_))); (case side2 => exact HC0.out); rintro e w14 ⟨v103, rfl, ho0, hb⟩; refine ⟨_, rfl, ?_⟩; have n0_ := Aside0.mk (Kd.S_lower ho0 (below_size (by repeat (first | (with_reducible first | exact HB.out | apply below_alloc | apply pw_below_drewN | apply below_drew1) | exact HB.out)))); have n1_ := Aside0.mk (below_step (by repeat (first | (with_reducible first | exact HB.out | apply below_alloc | apply pw_below_drewN | apply below_drew1) | exact HB.out)) hb); clear HB; have HO104 := n0_; have HB := n1_; clear n0_ n1_; (try clear hb); (try clear hb2); (try clear hk); (try clear hi); (try clear ho0)) | ((with_reducible refine gate_dst (N := 24) rfl ?_); (try (refine gate_guard (by rfl) ?_; dsimp only)); refine Kd.R_make (Kd.int .i64) _ 3 rfl (N := 24) rfl 34 _ _ rfl ji9 rfl rfl Try.underlying34 (.int .i64 0) 8 info3 rfl (by decide) (by omega) 0 (ok := fun _ => True) (okp := fun _ => True) rfl (fun _ hk => hk) trivial (of_decide_eq_true (by first | (with_reducible assumption) | assumption)) (Nat.le_trans (Nat.mul_le_mul_right _ (of_decide_eq_true (by first | (with_reducible assumption) | assumption) : ji9.toNat ≤ 35184372088832)) (by omega)) (Below.refl _ _) (Nat.le_refl _) ?_; intro v106 w15 ho16 hb hg_ hnew_; clear hg_ hnew_; (first | rw [← Ny105.out] at ho16 | (simp only [Int.reduceToNat] at ho16; rw [← Ny105.out] at ho16)); have n0_ := Aside0.mk (Kd.S_elder' (by (with_reducible repeat (first | apply Kd.S_alloc | apply Kd.S_drewN | apply Kd.S_drew)); exact HO104.out) (Kd.R_base ho16) hb); have n1_ := Aside0.mk (Kd.R_lower ho16 (below_size (by repeat (first | (with_reducible first | exact HB.out | apply below_alloc | apply pw_below_drewN | apply below_drew1) | exact HB.out)))); have n2_ := Aside0.mk (below_step (by repeat (first | (with_reducible first | exact HB.out | apply below_alloc | apply pw_below_drewN | apply below_drew1) | exact HB.out)) hb); clear HO104; clear HB; have HO104 := n0_; have HO107 := n1_; have HB := n2_; clear n0_ n1_ n2_; clear hb ho16; have p13 : 0 ≤ (0 : Int) := (by omega); have q13 : (0 : Int) < ((y105.length : Int) : Int) := of_decide_eq_true (by first | (with_reducible assumption) | assumption); have qi13 : (0 < y105.length) = True := eq_true (by omega); obtain ⟨go13, co13, eo13, gb13, gl13, cl13, HG13⟩ := Kd.R_form HO107.out (by omega); (first | cases eo13 | (injection eo13 with ea_ en_ ec_; (first | subst ea_ | (injection ea_ with ea_; subst ea_)); subst ec_; clear en_)); have GB13 := Aside0.mk gb13; have GG13 := Aside0.mk HG13; clear gb13 gl13 HG13; obtain ⟨hx13_0, hf13_0⟩ := Kd.R_celln 0 HO107.out (0 : Int) p13 q13; (try rw [show ((0 : Int)).toNat = 0 from rfl] at hx13_0); (try simp only [Nat.reduceMul, Nat.zero_mul, Nat.zero_add, Nat.reduceAdd] at hx13_0); (try rw [show ((0 : Int)).toNat = 0 from rfl] at hf13_0); (try simp only [Nat.reduceMul, Nat.zero_mul, Nat.zero_add, Nat.reduceAdd] at hf13_0); replace p13 := eq_true p13; replace q13 := eq_true q13; obtain ⟨hy17_, hz17_⟩ := Kd.R_celln 0 HO107.out (0 : Int) (by omega) (of_decide_eq_true (by first | (with_reducible assumption) | assumption)); (try simp only [Int.reduceToNat, Int.toNat_zero, Int.toNat_ofNat, Nat.reduceMul, Nat.zero_mul, Nat.zero_add] at hy17_ hz17_); (try rw [show ((0 : Int)).toNat = 0 from rfl] at hy17_); (try rw [show ((0 : Int)).toNat = 0 from rfl] at hz17_); have HP17 := Kd.R_putg HO107.out (0 : Int) 1) | ((with_reducible refine gate_store (t := 3) (p := 26) rfl ?_); refine store_event (t := 3) (p := 26) (v := ?vo_w18) (w1 := (w15.setCell ⟨go13, (0 : Int).toNat, none⟩ (.int .i64 1))) ?hg ?ho ?hn ?hr ?_; (case ho => rfl); (case hg => rfl); (case hn => rfl); (case hr => first | (go_simp; done) | (go_simp; rfl)); intro w18 hw; have hg : w15.grownBy w18 (some go13) := (by rw [hw]; exact HP17.2); have hp_ : Kd.R (Kd.int .i64) 3 w18 w.heap.size (fun _ => True) (.slice (some ⟨go13, 0, none⟩) y105.length co13) y108 := (by rw [hw, Ny108.out]; exact HP17.1); clear HP17; have n0_ := Aside0.mk (Kd.S_after (v := (.slice (some ⟨go13, 0, none⟩) y105.length co13)) (v1 := (.slice (some ⟨go13, 0, none⟩) y105.length co13)) (ok := (fun _ => True)) (by (with_reducible repeat (first | apply Kd.S_alloc | apply Kd.S_drewN | apply Kd.S_drew)); exact HO104.out) hg (.inl rfl)); have n1_ := Aside0.mk (hp_); have n2_ := Aside0.mk ((by rw [hw]; exact below_set (HB.out) GB13.out : Below w.heap.size w w18)); clear HO104; clear HO107; clear HB; have HO104 := n0_; have HO107 := n1_; have HB := n2_; clear n0_ n1_ n2_; clear hg hw hp_))
  go_loopg [29] kj1 (fun kq v29 w' => ∃ (x5_2 : List Int) (x29_2 : Int), v29 = .int .i64 x29_2 ∧ Aside0 (spec_CountOrders.l0 kq l0 t102 x5_2 (y105.length : Int) x29_2 = some (r1, r2)) ∧ Aside0 (kq ≤ kj1) ∧ Aside0 (Kd.S (Kd.slice 3 (Kd.int .i64)) 34 w' w.heap.size (fun k_ => some k_ ≠ ((.slice (some ⟨go13, 0, none⟩) y105.length co13) : Value).ownBlock) v103 t102) ∧ Aside0 (Kd.R (Kd.int .i64) 3 w' w.heap.size (fun _ => True) (.slice (some ⟨go13, 0, none⟩) y105.length co13) x5_2) ∧ Aside0 (Below w.heap.size w w'))
  case atStart => exact ⟨(y108), (0), (by first | rfl | (simp; done) | (simp [*]; done)), H', ⟨Nat.le_refl _⟩, ⟨by (with_reducible repeat (first | apply Kd.S_alloc | apply Kd.S_drewN | apply Kd.S_drew)); exact Kd.S_mono HO104.out (fun _ hk => hk.2)⟩, ⟨by (with_reducible repeat (first | apply Kd.R_alloc | apply Kd.R_drewN | apply Kd.R_drew)); exact HO107.out⟩, ⟨by repeat (first | (with_reducible first | exact HB.out | apply below_alloc | apply pw_below_drewN | apply below_drew1) | exact HB.out)⟩⟩
  clear H'
  try clear c1
  try clear p1
  try clear q1
  try clear hx1
  try clear qi1
  try clear hf1
  try clear p2
  try clear c3
  try clear c4
  try clear c5
  try clear p6
  try clear c7
  try clear c10
  try clear c10b0
  try clear c10b1
  try clear c11
  try clear c11b0
  try clear c11b1
  try clear c12
  try clear c12b0
  try clear c12b1
  try clear p13
  try clear q13
  try clear hx13
  try clear qi13
  try clear hf13
  try clear hx13_0
  try clear p13
  try clear p2
  try clear q13
  obtain ⟨x5_2, x29_2, rfl, HA, HK2, HO_4, HO_5, HB⟩ := hrel
  have hl5_2 := (Kd.R_reads' HO_5.out).1
  rw [hl5_2] at HO_5
  (try simp only [hl5_2])
  (try simp only [hl5_2] at HO_4)
  cases gk with
  | zero => exact absurd HA.out (by simp [spec_CountOrders.l0])
  | succ k2 =>
  have H := HA.out
  clear HA
  simp only [spec_CountOrders.l0] at H
  by_cases c19 : x29_2 < (y105.length : Int)
  rotate_left
  · rw [if_neg c19] at H
    have c19b0 : decide (x29_2 < (y105.length : Int)) = false := decide_eq_false c19
    have c19b0h := c19b0
    try simp only [hl5_2] at c19b0h
    clear c19
    obtain ⟨ji44, hji44⟩ : ∃ j_ : Int, (wrap64 ((x5_2.length : Int) - 1)) = j_ := ⟨_, rfl⟩
    replace H : (if 0 ≤ (ji44) then (if (ji44) < (x5_2.length : Int) then (some (rd x5_2 (ji44), true)) else (none)) else (none)) = some (r1, r2) := by first | (rw [hji44] at H; exact H) | (simp only [hji44] at H ⊢; exact H)
    have hji44w : (IntKind.i64.wrap ((x5_2.length : Int) - 1)) = ji44 := (i64_w _).trans hji44
    by_cases c45 : 0 ≤ (ji44)
    rotate_left
    · rw [if_neg c45] at H
      exact absurd H (by simp)
    rw [if_pos c45] at H
    have c45b0 : decide (0 ≤ (ji44)) = true := decide_eq_true c45
    clear c45
    by_cases c46 : (ji44) < (x5_2.length : Int)
    rotate_left
    · rw [if_neg c46] at H
      exact absurd H (by simp)
    rw [if_pos c46] at H
    have c46b0 : decide ((ji44) < (x5_2.length : Int)) = true := decide_eq_true c46
    clear c46
    simp only [Option.some.injEq, Prod.mk.injEq] at H
    obtain ⟨rfl, rfl⟩ := H
    have p109 : 0 ≤ ((ji44) : Int) := of_decide_eq_true (by first | (with_reducible assumption) | assumption)
    have q109 : (ji44) < (x5_2.length : Int) := of_decide_eq_true (by first | (with_reducible assumption) | assumption)
    obtain ⟨ad109, e109, hx109_0⟩ := Kd.at_int (Kd.R_reads' HO_5.out).2.2 (ji44) p109 q109
    obtain rfl : (⟨go13, 0, none⟩ : Addr) = ad109 := (by injection e109)
    (first | simp only [add_plain] at hx109_0 | simp only [add_at] at hx109_0 | simp only [Addr.add, Nat.zero_add] at hx109_0 | skip)
    replace p109 := eq_true p109
    replace q109 := eq_true q109
    go_wp2
    go_ret2
    exact ⟨by first | rfl | (simp [errW_none, errW_some] <;> rfl) | (simp only [← hji9, ← hji44]; first | rfl | (simp [errW_none, errW_some] <;> rfl)) | (simp [*, errW_none, errW_some] <;> rfl), by repeat (first | (with_reducible first | exact HB.out | apply below_alloc | apply pw_below_drewN | apply below_drew1) | exact HB.out)⟩
  rw [if_pos c19] at H
  have c19b0 : decide (x29_2 < (y105.length : Int)) = true := decide_eq_true c19
  have c19b0h := c19b0
  try simp only [hl5_2] at c19b0h
  clear c19
  by_cases c20 : 0 ≤ x29_2
  rotate_left
  · rw [if_neg c20] at H
    exact absurd H (by simp)
  rw [if_pos c20] at H
  have c20b0 : decide (0 ≤ x29_2) = true := decide_eq_true c20
  clear c20
  by_cases c21 : x29_2 < (x5_2.length : Int)
  rotate_left
  · rw [if_neg c21] at H
    exact absurd H (by simp)
  rw [if_pos c21] at H
  have c21b0 : decide (x29_2 < (x5_2.length : Int)) = true := decide_eq_true c21
  clear c21
  have H' := Aside0.mk H
  clear H
  have p110 : 0 ≤ (x29_2 : Int) := of_decide_eq_true (by first | (with_reducible assumption) | assumption)
  have q110 : x29_2 < (x5_2.length : Int) := of_decide_eq_true (by first | (with_reducible assumption) | assumption)
  obtain ⟨ad110, e110, hx110_0⟩ := Kd.at_int (Kd.R_reads' HO_5.out).2.2 x29_2 p110 q110
  obtain rfl : (⟨go13, 0, none⟩ : Addr) = ad110 := (by injection e110)
  (first | simp only [add_plain] at hx110_0 | simp only [add_at] at hx110_0 | simp only [Addr.add, Nat.zero_add] at hx110_0 | skip)
  replace p110 := eq_true p110
  replace q110 := eq_true q110
  go_wp2
  go_loopg [36] k2 (fun kq v36 w' => ∃ (x5_3 : List Int) (x36_3 : Int), v36 = .int .i64 x36_3 ∧ Aside0 (spec_CountOrders.l1 kq l0 t102 x5_3 x29_2 (rd x5_2 x29_2) (y105.length : Int) x29_2 (l0.length : Int) x36_3 = some (r1, r2)) ∧ Aside0 (kq ≤ k2) ∧ Aside0 (Kd.S (Kd.slice 3 (Kd.int .i64)) 34 w' w.heap.size (fun k_ => some k_ ≠ ((.slice (some ⟨go13, 0, none⟩) x5_2.length co13) : Value).ownBlock) v103 t102) ∧ Aside0 (Kd.R (Kd.int .i64) 3 w' w.heap.size (fun _ => True) (.slice (some ⟨go13, 0, none⟩) x5_2.length co13) x5_3) ∧ Aside0 (Below w.heap.size w w'))
  case atStart => exact ⟨(x5_2), (0), (by first | rfl | (simp; done) | (simp [*]; done)), H', ⟨Nat.le_refl _⟩, ⟨by (try simp only [hl5_2]); (with_reducible repeat (first | apply Kd.S_alloc | apply Kd.S_drewN | apply Kd.S_drew)); exact HO_4.out⟩, ⟨by (try simp only [hl5_2]); (with_reducible repeat (first | apply Kd.R_alloc | apply Kd.R_drewN | apply Kd.R_drew)); exact HO_5.out⟩, ⟨by repeat (first | (with_reducible first | exact HB.out | apply below_alloc | apply pw_below_drewN | apply below_drew1) | exact HB.out)⟩⟩
  clear H'
  try clear c1
  try clear p1
  try clear q1
  try clear hx1
  try clear qi1
  try clear hf1
  try clear c2
  try clear p2
  try clear c3
  try clear c4
  try clear c5
  try clear p6
  try clear c7
  try clear c10
  try clear c10b0
  try clear c10b1
  try clear c11
  try clear c11b0
  try clear c11b1
  try clear p11
  try clear q11
  try clear hx11
  try clear c12
  try clear c12b0
  try clear c12b1
  try clear p13
  try clear q13
  try clear hx13
  try clear qi13
  try clear hf13
  try clear c19
  try clear c19b0
  try clear c20
  try clear c20b0
  try clear c21
  try clear c21b0
  try clear hx110_0
  try clear hx13_0
  try clear p1
  try clear p110
  try clear p13
  try clear p2
  try clear p6
  try clear q1
  try clear q110
  try clear q13
  obtain ⟨x5_3, x36_3, rfl, HA, HK3, HO_4, HO_5, HB⟩ := hrel
  have hl5_3 := (Kd.R_reads' HO_5.out).1
  rw [hl5_3] at HO_5
  (try simp only [hl5_3])
  (try simp only [hl5_3] at HO_4)
  cases gk with
  | zero => exact absurd HA.out (by simp [spec_CountOrders.l1])
  | succ k3 =>
  have H := HA.out
  clear HA
  simp only [spec_CountOrders.l1] at H
  by_cases c22 : x36_3 < (l0.length : Int)
  rotate_left
  · rw [if_neg c22] at H
    have c22b0 : decide (x36_3 < (l0.length : Int)) = false := decide_eq_false c22
    clear c22
    have H' := Aside0.mk H
    clear H
    go_wp2
    (try simp only [← hl5_2, ← hl5_3])
    go_roundg k3
    case measure => have := HJ1.out; have := HK2.out; have := HK3.out; omega
    case rel => exact ⟨(x5_3), (wrap64 (x29_2 + 1)), (by first | rfl | (simp; done) | (simp [*]; done)), H', ⟨by have := HJ1.out; have := HK2.out; have := HK3.out; omega⟩, ⟨by (try simp only [hl5_2]); (try simp only [hl5_3]); (with_reducible repeat (first | apply Kd.S_alloc | apply Kd.S_drewN | apply Kd.S_drew)); exact HO_4.out⟩, ⟨by (try simp only [hl5_2]); (try simp only [hl5_3]); (with_reducible repeat (first | apply Kd.R_alloc | apply Kd.R_drewN | apply Kd.R_drew)); exact HO_5.out⟩, ⟨by repeat (first | (with_reducible first | exact HB.out | apply below_alloc | apply pw_below_drewN | apply below_drew1) | exact HB.out)⟩⟩
  rw [if_pos c22] at H
  have c22b0 : decide (x36_3 < (l0.length : Int)) = true := decide_eq_true c22
  clear c22
  by_cases c23 : 0 ≤ x36_3
  rotate_left
  · rw [if_neg c23] at H
    exact absurd H (by simp)
  rw [if_pos c23] at H
  have c23b0 := eq_true c23
  have c23b1 : decide (0 ≤ x36_3) = true := decide_eq_true c23
  clear c23
  obtain ⟨ji24, hji24⟩ : ∃ j_ : Int, (shr .i64 x29_2 x36_3) = j_ := ⟨_, rfl⟩
  replace H : (spec_CountOrders.l2 k3 l0 t102 x5_3 x29_2 (rd x5_2 x29_2) x36_3 ((Int.tmod (ji24) 2) == 0) (y105.length : Int) x29_2 (l0.length : Int) x36_3 (l0.length : Int) 0) = some (r1, r2) := by first | (rw [hji24] at H; exact H) | (simp only [hji24] at H ⊢; exact H)
  have hji24_ : (x29_2 / 2 ^ min x36_3.toNat 64) = ji24 := hji24
  have hji24z : x36_3 ≤ 64 → (x29_2 / 2 ^ x36_3.toNat) = ji24 := shr_small hji24
  have H' := Aside0.mk H
  clear H
  go_wp2
  go_loopg [9, 46] k3 (fun kq v9 v46 w' => ∃ (x9_4 : Bool) (x46_4 : Int), v9 = .bool x9_4 ∧ v46 = .int .i64 x46_4 ∧ Aside0 (spec_CountOrders.l2 kq l0 t102 x5_3 x29_2 (rd x5_2 x29_2) x36_3 x9_4 (y105.length : Int) x29_2 (l0.length : Int) x36_3 (l0.length : Int) x46_4 = some (r1, r2)) ∧ Aside0 (kq ≤ k3) ∧ Aside0 (Kd.S (Kd.slice 3 (Kd.int .i64)) 34 w' w.heap.size (fun k_ => some k_ ≠ ((.slice (some ⟨go13, 0, none⟩) x5_3.length co13) : Value).ownBlock) v103 t102) ∧ Aside0 (Kd.R (Kd.int .i64) 3 w' w.heap.size (fun _ => True) (.slice (some ⟨go13, 0, none⟩) x5_3.length co13) x5_3) ∧ Aside0 (Below w.heap.size w w'))
  case atStart => exact ⟨(((Int.tmod (ji24) 2) == 0)), (0), (by first | rfl | (simp; done) | (simp only [← hji24] <;> (first | rfl | simp)) | (simp [*]; done)), (by first | rfl | (simp; done) | (simp [*]; done)), H', ⟨Nat.le_refl _⟩, ⟨by (try simp only [hl5_2]); (try simp only [hl5_3]); (with_reducible repeat (first | apply Kd.S_alloc | apply Kd.S_drewN | apply Kd.S_drew)); exact HO_4.out⟩, ⟨by (try simp only [hl5_2]); (try simp only [hl5_3]); (with_reducible repeat (first | apply Kd.R_alloc | apply Kd.R_drewN | apply Kd.R_drew)); exact HO_5.out⟩, ⟨by repeat (first | (with_reducible first | exact HB.out | apply below_alloc | apply pw_below_drewN | apply below_drew1) | exact HB.out)⟩⟩
  clear H'
  try clear c1
  try clear p1
  try clear q1
  try clear hx1
  try clear qi1
  try clear hf1
  try clear c2
  try clear p2
  try clear c3
  try clear c4
  try clear c5
  try clear p6
  try clear c7
  try clear c10
  try clear c10b0
  try clear c10b1
  try clear c11
  try clear c11b0
  try clear c11b1
  try clear p11
  try clear q11
  try clear hx11
  try clear c12
  try clear c12b0
  try clear c12b1
  try clear p13
  try clear q13
  try clear hx13
  try clear qi13
  try clear hf13
  try clear c19
  try clear c19b0
  try clear c20
  try clear c20b0
  try clear c21
  try clear c21b0
  try clear c22
  try clear c22b0
  try clear c23
  try clear c23b0
  try clear c23b1
  try clear hx110_0
  try clear hx13_0
  try clear p1
  try clear p11
  try clear p110
  try clear p13
  try clear p2
  try clear p6
  try clear q1
  try clear q11
  try clear q110
  try clear q13
  obtain ⟨x9_4, x46_4, rfl, rfl, HA, HK4, HO_4, HO_5, HB⟩ := hrel
  cases gk with
  | zero => exact absurd HA.out (by simp [spec_CountOrders.l2])
  | succ k4 =>
  have H := HA.out
  clear HA
  simp only [spec_CountOrders.l2] at H
  by_cases c25 : x46_4 < (l0.length : Int)
  rotate_left
  · rw [if_neg c25] at H
    have c25b0 : decide (x46_4 < (l0.length : Int)) = false := decide_eq_false c25
    clear c25
    by_cases c36 : x9_4 = true
    rotate_left
    · replace c36 := Bool.eq_false_iff.mpr c36
      subst c36
      have H1 : (spec_CountOrders.l1 k4 l0 t102 x5_3 x29_2 (rd x5_2 x29_2) (y105.length : Int) x29_2 (l0.length : Int) (wrap64 (x36_3 + 1))) = some (r1, r2) := by rw [if_neg (show ¬ (false = true) by decide)] at H; exact H
      clear H
      have H := H1
      clear H1
      have H' := Aside0.mk H
      clear H
      go_wp2
      (try simp only [← hl5_3])
      go_roundg k4
      case measure => have := HJ1.out; have := HK2.out; have := HK3.out; have := HK4.out; omega
      case rel => exact ⟨(x5_3), (wrap64 (x36_3 + 1)), (by first | rfl | (simp; done) | (simp [*]; done)), H', ⟨by have := HJ1.out; have := HK2.out; have := HK3.out; have := HK4.out; omega⟩, ⟨by (try simp only [hl5_2]); (try simp only [hl5_3]); (with_reducible repeat (first | apply Kd.S_alloc | apply Kd.S_drewN | apply Kd.S_drew)); exact HO_4.out⟩, ⟨by (try simp only [hl5_2]); (try simp only [hl5_3]); (with_reducible repeat (first | apply Kd.R_alloc | apply Kd.R_drewN | apply Kd.R_drew)); exact HO_5.out⟩, ⟨by repeat (first | (with_reducible first | exact HB.out | apply below_alloc | apply pw_below_drewN | apply below_drew1) | exact HB.out)⟩⟩
    subst c36
    have H1 : (if 0 ≤ x36_3 then (if 0 ≤ (Go.bits .or .i64 x29_2 (shl .i64 1 x36_3)) then (if (Go.bits .or .i64 x29_2 (shl .i64 1 x36_3)) < (x5_3.length : Int) then (spec_CountOrders.l1 k4 l0 t102 (x5_3.set ((Go.bits .or .i64 x29_2 (shl .i64 1 x36_3)) : Int).toNat (wrap64 ((rd x5_3 (Go.bits .or .i64 x29_2 (shl .i64 1 x36_3))) + (rd x5_2 x29_2)))) x29_2 (rd x5_2 x29_2) (y105.length : Int) x29_2 (l0.length : Int) (wrap64 (x36_3 + 1))) else (none)) else (none)) else (none)) = some (r1, r2) := by rw [if_pos rfl] at H; exact H
    clear H
    have H := H1
    clear H1
    by_cases c37 : 0 ≤ x36_3
    rotate_left
    · rw [if_neg c37] at H
      exact absurd H (by simp)
    rw [if_pos c37] at H
    have c37b0 := eq_true c37
    have c37b1 : decide (0 ≤ x36_3) = true := decide_eq_true c37
    clear c37
    obtain ⟨ji38, hji38⟩ : ∃ j_ : Int, (shl .i64 1 x36_3) = j_ := ⟨_, rfl⟩
    replace H : (if 0 ≤ (Go.bits .or .i64 x29_2 (ji38)) then (if (Go.bits .or .i64 x29_2 (ji38)) < (x5_3.length : Int) then (spec_CountOrders.l1 k4 l0 t102 (x5_3.set ((Go.bits .or .i64 x29_2 (ji38)) : Int).toNat (wrap64 ((rd x5_3 (Go.bits .or .i64 x29_2 (ji38))) + (rd x5_2 x29_2)))) x29_2 (rd x5_2 x29_2) (y105.length : Int) x29_2 (l0.length : Int) (wrap64 (x36_3 + 1))) else (none)) else (none)) = some (r1, r2) := by first | (rw [hji38] at H; exact H) | (simp only [hji38] at H ⊢; exact H)
    have hji38_ : (IntKind.i64.wrap (1 * 2 ^ min x36_3.toNat 64)) = ji38 := hji38
    have hji38z : x36_3 ≤ 64 → (IntKind.i64.wrap (1 * 2 ^ x36_3.toNat)) = ji38 := shl_small hji38
    have hji38u : (IntKind.i64.wrap (2 ^ min x36_3.toNat 64)) = ji38 := by have h_ := hji38_; rw [Int.one_mul] at h_; exact h_
    have hji38v : x36_3 ≤ 64 → (IntKind.i64.wrap (2 ^ x36_3.toNat)) = ji38 := fun hle_ => by have h_ := hji38z hle_; rw [Int.one_mul] at h_; exact h_
    have hji38y : (wrap64 (1 * 2 ^ min x36_3.toNat 64)) = ji38 := (i64_w _).symm.trans hji38_
    have hji38x : x36_3 ≤ 64 → (wrap64 (1 * 2 ^ x36_3.toNat)) = ji38 := fun h_ => (i64_w _).symm.trans (hji38z h_)
    by_cases c39 : 0 ≤ (Go.bits .or .i64 x29_2 (ji38))
    rotate_left
    · rw [if_neg c39] at H
      exact absurd H (by simp)
    rw [if_pos c39] at H
    have c39b0 : decide (0 ≤ (Go.bits .or .i64 x29_2 (ji38))) = true := decide_eq_true c39
    clear c39
    by_cases c40 : (Go.bits .or .i64 x29_2 (ji38)) < (x5_3.length : Int)
    rotate_left
    · rw [if_neg c40] at H
      exact absurd H (by simp)
    rw [if_pos c40] at H
    have c40b0 : decide ((Go.bits .or .i64 x29_2 (ji38)) < (x5_3.length : Int)) = true := decide_eq_true c40
    clear c40
    obtain ⟨y114, hy114⟩ : ∃ y_ : List Int, y_ = (x5_3.set ((Go.bits .or .i64 x29_2 (ji38)) : Int).toNat (wrap64 ((rd x5_3 (Go.bits .or .i64 x29_2 (ji38))) + (rd x5_2 x29_2)))) := ⟨_, rfl⟩
    replace H : (spec_CountOrders.l1 k4 l0 t102 y114 x29_2 (rd x5_2 x29_2) (y105.length : Int) x29_2 (l0.length : Int) (wrap64 (x36_3 + 1))) = some (r1, r2) := by first | (rw [hy114]; with_reducible exact H) | (have H2_ := (Option.bind_some _ _).symm.trans H; rw [hy114]; with_reducible exact H2_) | (have H2_ := (Option.bind_some _ _).symm.trans H; with_reducible exact H2_) | with_reducible exact H | (rw [hy114]; exact H) | exact H
    have Ny114 := Aside0.mk hy114
    clear hy114
    have H' := Aside0.mk H
    clear H
    have p113 : 0 ≤ ((Go.bits .or .i64 x29_2 (ji38)) : Int) := of_decide_eq_true (by first | (with_reducible assumption) | assumption)
    have q113 : (Go.bits .or .i64 x29_2 (ji38)) < (x5_3.length : Int) := of_decide_eq_true (by first | (with_reducible assumption) | assumption)
    obtain ⟨ad113, e113, hx113_0⟩ := Kd.at_int (Kd.R_reads' HO_5.out).2.2 (Go.bits .or .i64 x29_2 (ji38)) p113 q113
    obtain rfl : (⟨go13, 0, none⟩ : Addr) = ad113 := (by injection e113)
    (first | simp only [add_plain] at hx113_0 | simp only [add_at] at hx113_0 | simp only [Addr.add, Nat.zero_add] at hx113_0 | skip)
    replace p113 := eq_true p113
    replace q113 := eq_true q113
    have p41 : 0 ≤ ((Go.bits .or .i64 x29_2 (ji38)) : Int) := of_decide_eq_true (by first | (with_reducible assumption) | assumption)
    have q41 : ((Go.bits .or .i64 x29_2 (ji38)) : Int) < ((x5_3.length : Int) : Int) := of_decide_eq_true (by first | (with_reducible assumption) | assumption)
    obtain ⟨hx41_0, hf41_0⟩ := Kd.R_celln 0 HO_5.out ((Go.bits .or .i64 x29_2 (ji38)) : Int) p41 q41
    replace p41 := eq_true p41
    replace q41 := eq_true q41
    have HP42 := Kd.R_putg HO_5.out ((Go.bits .or .i64 x29_2 (ji38)) : Int) (wrap64 ((rd x5_3 (Go.bits .or .i64 x29_2 (ji38))) + (rd x5_2 x29_2)))
    go_wp2_with (first | ((with_reducible refine gate_store (t := 3) (p := 78) rfl ?_); refine store_event (t := 3) (p := 78) (v := ?vo_w43) (w1 := (wr.setCell ⟨go13, ((Go.bits .or .i64 x29_2 (ji38)) : Int).toNat, none⟩ (.int .i64 (wrap64 ((rd x5_3 (Go.bits .or .i64 x29_2 (ji38))) + (rd x5_2 x29_2)))))) ?hg ?ho ?hn ?hr ?_; (case ho => rfl); (case hg => rfl); (case hn => rfl); (case hr => first | (go_simp; done) | (go_simp; rfl)); intro w43 hw; have hg : wr.grownBy w43 (some go13) := (by rw [hw]; exact HP42.2); have hp_ : Kd.R (Kd.int .i64) 3 w43 w.heap.size (fun _ => True) (.slice (some ⟨go13, 0, none⟩) x5_3.length co13) y114 := (by rw [hw, Ny114.out]; exact HP42.1); clear HP42; have n0_ := Aside0.mk (Kd.S_after (v := (.slice (some ⟨go13, 0, none⟩) x5_3.length co13)) (v1 := (.slice (some ⟨go13, 0, none⟩) x5_3.length co13)) (ok := (fun _ => True)) (by (with_reducible repeat (first | apply Kd.S_alloc | apply Kd.S_drewN | apply Kd.S_drew)); exact Kd.S_mono HO_4.out (fun _ hk => ⟨trivial, hk⟩)) hg (.inl rfl)); have n1_ := Aside0.mk (hp_); have n2_ := Aside0.mk ((by rw [hw]; exact below_set (HB.out) GB13.out : Below w.heap.size w w43)); clear HO_4; clear HO_5; clear HB; have HO_4 := n0_; have HO_5 := n1_; have HB := n2_; clear n0_ n1_ n2_; clear hg hw hp_))
    (try simp only [← hl5_3])
    go_roundg k4
    case measure => have := HJ1.out; have := HK2.out; have := HK3.out; have := HK4.out; omega
    case rel => exact ⟨(y114), (wrap64 (x36_3 + 1)), (by first | rfl | (simp; done) | (simp [*]; done)), H', ⟨by have := HJ1.out; have := HK2.out; have := HK3.out; have := HK4.out; omega⟩, ⟨by (try simp only [hl5_2]); (try simp only [hl5_3]); (with_reducible repeat (first | apply Kd.S_alloc | apply Kd.S_drewN | apply Kd.S_drew)); exact Kd.S_mono HO_4.out (fun _ hk => hk.2)⟩, ⟨by (try simp only [hl5_2]); (try simp only [hl5_3]); (with_reducible repeat (first | apply Kd.R_alloc | apply Kd.R_drewN | apply Kd.R_drew)); exact HO_5.out⟩, ⟨by repeat (first | (with_reducible first | exact HB.out | apply below_alloc | apply pw_below_drewN | apply below_drew1) | exact HB.out)⟩⟩
  rw [if_pos c25] at H
  have c25b0 : decide (x46_4 < (l0.length : Int)) = true := decide_eq_true c25
  clear c25
  by_cases c26 : x9_4 = true
  rotate_left
  · replace c26 := Bool.eq_false_iff.mpr c26
    subst c26
    have H1 : (spec_CountOrders.l2 k4 l0 t102 x5_3 x29_2 (rd x5_2 x29_2) x36_3 false (y105.length : Int) x29_2 (l0.length : Int) x36_3 (l0.length : Int) (wrap64 (x46_4 + 1))) = some (r1, r2) := by rw [if_neg (show ¬ (false = true) by decide)] at H; exact H
    clear H
    have H := H1
    clear H1
    have H' := Aside0.mk H
    clear H
    go_wp2
    go_roundg k4
    case measure => have := HJ1.out; have := HK2.out; have := HK3.out; have := HK4.out; omega
    case rel => exact ⟨(false), (wrap64 (x46_4 + 1)), (by first | rfl | (simp; done) | (simp [*]; done)), (by first | rfl | (simp; done) | (simp [*]; done)), H', ⟨by have := HJ1.out; have := HK2.out; have := HK3.out; have := HK4.out; omega⟩, ⟨by (try simp only [hl5_2]); (try simp only [hl5_3]); (with_reducible repeat (first | apply Kd.S_alloc | apply Kd.S_drewN | apply Kd.S_drew)); exact HO_4.out⟩, ⟨by (try simp only [hl5_2]); (try simp only [hl5_3]); (with_reducible repeat (first | apply Kd.R_alloc | apply Kd.R_drewN | apply Kd.R_drew)); exact HO_5.out⟩, ⟨by repeat (first | (with_reducible first | exact HB.out | apply below_alloc | apply pw_below_drewN | apply below_drew1) | exact HB.out)⟩⟩
  subst c26
  have H1 : (if 0 ≤ x46_4 then (if x46_4 < (t102.length : Int) then (if 0 ≤ x36_3 then (if x36_3 < ((rd_L4 t102 x46_4).length : Int) then (if (rd (rd_L4 t102 x46_4) x36_3) < 0 then (spec_CountOrders.l2 k4 l0 t102 x5_3 x29_2 (rd x5_2 x29_2) x36_3 true (y105.length : Int) x29_2 (l0.length : Int) x36_3 (l0.length : Int) (wrap64 (x46_4 + 1))) else (spec_CountOrders.l2 k4 l0 t102 x5_3 x29_2 (rd x5_2 x29_2) x36_3 ((Int.tmod (shr .i64 x29_2 x46_4) 2) == 1) (y105.length : Int) x29_2 (l0.length : Int) x36_3 (l0.length : Int) (wrap64 (x46_4 + 1)))) else (none)) else (none)) else (none)) else (none)) = some (r1, r2) := by rw [if_pos rfl] at H; exact H
  clear H
  have H := H1
  clear H1
  by_cases c27 : 0 ≤ x46_4
  rotate_left
  · rw [if_neg c27] at H
    exact absurd H (by simp)
  rw [if_pos c27] at H
  have c27b0 : decide (0 ≤ x46_4) = true := decide_eq_true c27
  clear c27
  by_cases c28 : x46_4 < (t102.length : Int)
  rotate_left
  · rw [if_neg c28] at H
    exact absurd H (by simp)
  rw [if_pos c28] at H
  have c28b0 : decide (x46_4 < (t102.length : Int)) = true := decide_eq_true c28
  clear c28
  by_cases c29 : 0 ≤ x36_3
  rotate_left
  · rw [if_neg c29] at H
    exact absurd H (by simp)
  rw [if_pos c29] at H
  have c29b0 : decide (0 ≤ x36_3) = true := decide_eq_true c29
  clear c29
  by_cases c30 : x36_3 < ((rd_L4 t102 x46_4).length : Int)
  rotate_left
  · rw [if_neg c30] at H
    exact absurd H (by simp)
  rw [if_pos c30] at H
  have c30b0 : decide (x36_3 < ((rd_L4 t102 x46_4).length : Int)) = true := decide_eq_true c30
  clear c30
  by_cases c31 : (rd (rd_L4 t102 x46_4) x36_3) < 0
  · rw [if_pos c31] at H
    have c31b0 : decide ((rd (rd_L4 t102 x46_4) x36_3) < 0) = true := decide_eq_true c31
    clear c31
    have H' := Aside0.mk H
    clear H
    obtain ⟨Ao32, co32, eo32⟩ := Kd.S_slice HO_4.out
    subst eo32
    have p111 : 0 ≤ (x46_4 : Int) := of_decide_eq_true (by first | (with_reducible assumption) | assumption)
    have q111 : x46_4 < (t102.length : Int) := of_decide_eq_true (by first | (with_reducible assumption) | assumption)
    obtain ⟨ad111, A111_0, c111_0, e111, hx111_0, hl111_0, hi111_0⟩ := at_L4 (Kd.S_reads' HO_4.out).2.2 x46_4 p111 q111
    cases e111
    obtain ⟨ce111, hce111, hMe111, hcc111⟩ := Kd.S_get HO_4.out [] x46_4 p111 (by first | exact q111 | exact of_decide_eq_true (by first | (with_reducible assumption) | assumption) | (have e_ := (Kd.S_reads' HO_4.out).1; omega))
    obtain ⟨ve111_0, rfl, ge111_0⟩ := hMe111
    have hv111_0 := hcc111 0 _ rfl
    rw [Nat.add_zero, show ((Kd.slice 3 (Kd.int .i64))).sz = 1 from rfl, Nat.mul_one] at hv111_0
    replace hv111_0 := Option.some.inj (hv111_0.symm.trans hx111_0)
    rw [hv111_0] at ge111_0
    have HL111_0 := Aside0.mk (show Kd.R (Kd.int .i64) 3 _ _ _ _ (rd_L4 t102 x46_4) from ge111_0)
    clear hv111_0 ge111_0
    clear hcc111 hce111
    have HR111_0 := Aside0.mk hi111_0
    have HC111_0 := Aside0.mk hl111_0
    clear hi111_0 hl111_0
    replace p111 := eq_true p111
    replace q111 := eq_true q111
    have p112 : 0 ≤ (x36_3 : Int) := of_decide_eq_true (by first | (with_reducible assumption) | assumption)
    have q112 : x36_3 < ((rd_L4 t102 x46_4).length : Int) := of_decide_eq_true (by first | (with_reducible assumption) | assumption)
    obtain ⟨ad112, e112, hx112_0⟩ := Kd.at_int (by repeat (first | (with_reducible exact HR111_0.out) | (with_reducible refine Kd.C_alloc ?_ _) | (with_reducible refine Kd.C_drewN ?_ _) | (with_reducible refine Kd.C_drew ?_) | exact HR111_0.out)) x36_3 p112 q112
    cases e112
    replace p112 := eq_true p112
    replace q112 := eq_true q112
    go_wp2
    go_roundg k4
    case measure => have := HJ1.out; have := HK2.out; have := HK3.out; have := HK4.out; omega
    case rel => exact ⟨(true), (wrap64 (x46_4 + 1)), (by first | rfl | (simp; done) | (simp [*]; done)), (by first | rfl | (simp; done) | (simp [*]; done)), H', ⟨by have := HJ1.out; have := HK2.out; have := HK3.out; have := HK4.out; omega⟩, ⟨by (try simp only [hl5_2]); (try simp only [hl5_3]); (with_reducible repeat (first | apply Kd.S_alloc | apply Kd.S_drewN | apply Kd.S_drew)); exact HO_4.out⟩, ⟨by (try simp only [hl5_2]); (try simp only [hl5_3]); (with_reducible repeat (first | apply Kd.R_alloc | apply Kd.R_drewN | apply Kd.R_drew)); exact HO_5.out⟩, ⟨by repeat (first | (with_reducible first | exact HB.out | apply below_alloc | apply pw_below_drewN | apply below_drew1) | exact HB.out)⟩⟩
  rw [if_neg c31] at H
  have c31b0 : decide ((rd (rd_L4 t102 x46_4) x36_3) < 0) = false := decide_eq_false c31
  clear c31
  have c33b0 := eq_true (of_decide_eq_true (by first | (with_reducible assumption) | assumption) : 0 ≤ x46_4)
  obtain ⟨ji34, hji34⟩ : ∃ j_ : Int, (shr .i64 x29_2 x46_4) = j_ := ⟨_, rfl⟩
  replace H : (spec_CountOrders.l2 k4 l0 t102 x5_3 x29_2 (rd x5_2 x29_2) x36_3 ((Int.tmod (ji34) 2) == 1) (y105.length : Int) x29_2 (l0.length : Int) x36_3 (l0.length : Int) (wrap64 (x46_4 + 1))) = some (r1, r2) := by first | (rw [hji34] at H; exact H) | (simp only [hji34] at H ⊢; exact H)
  have hji34_ : (x29_2 / 2 ^ min x46_4.toNat 64) = ji34 := hji34
  have hji34z : x46_4 ≤ 64 → (x29_2 / 2 ^ x46_4.toNat) = ji34 := shr_small hji34
  have H' := Aside0.mk H
  clear H
  obtain ⟨Ao35, co35, eo35⟩ := Kd.S_slice HO_4.out
  subst eo35
  have p111 : 0 ≤ (x46_4 : Int) := of_decide_eq_true (by first | (with_reducible assumption) | assumption)
  have q111 : x46_4 < (t102.length : Int) := of_decide_eq_true (by first | (with_reducible assumption) | assumption)
  obtain ⟨ad111, A111_0, c111_0, e111, hx111_0, hl111_0, hi111_0⟩ := at_L4 (Kd.S_reads' HO_4.out).2.2 x46_4 p111 q111
  cases e111
  obtain ⟨ce111, hce111, hMe111, hcc111⟩ := Kd.S_get HO_4.out [] x46_4 p111 (by first | exact q111 | exact of_decide_eq_true (by first | (with_reducible assumption) | assumption) | (have e_ := (Kd.S_reads' HO_4.out).1; omega))
  obtain ⟨ve111_0, rfl, ge111_0⟩ := hMe111
  have hv111_0 := hcc111 0 _ rfl
  rw [Nat.add_zero, show ((Kd.slice 3 (Kd.int .i64))).sz = 1 from rfl, Nat.mul_one] at hv111_0
  replace hv111_0 := Option.some.inj (hv111_0.symm.trans hx111_0)
  rw [hv111_0] at ge111_0
  have HL111_0 := Aside0.mk (show Kd.R (Kd.int .i64) 3 _ _ _ _ (rd_L4 t102 x46_4) from ge111_0)
  clear hv111_0 ge111_0
  clear hcc111 hce111
  have HR111_0 := Aside0.mk hi111_0
  have HC111_0 := Aside0.mk hl111_0
  clear hi111_0 hl111_0
  replace p111 := eq_true p111
  replace q111 := eq_true q111
  have p112 : 0 ≤ (x36_3 : Int) := of_decide_eq_true (by first | (with_reducible assumption) | assumption)
  have q112 : x36_3 < ((rd_L4 t102 x46_4).length : Int) := of_decide_eq_true (by first | (with_reducible assumption) | assumption)
  obtain ⟨ad112, e112, hx112_0⟩ := Kd.at_int (by repeat (first | (with_reducible exact HR111_0.out) | (with_reducible refine Kd.C_alloc ?_ _) | (with_reducible refine Kd.C_drewN ?_ _) | (with_reducible refine Kd.C_drew ?_) | exact HR111_0.out)) x36_3 p112 q112
  cases e112
  replace p112 := eq_true p112
  replace q112 := eq_true q112
  go_wp2
  go_roundg k4
  case measure => have := HJ1.out; have := HK2.out; have := HK3.out; have := HK4.out; omega
  case rel => exact ⟨(((Int.tmod (ji34) 2) == 1)), (wrap64 (x46_4 + 1)), (by first | rfl | (simp; done) | (simp only [← hji34] <;> (first | rfl | simp)) | (simp [*]; done)), (by first | rfl | (simp; done) | (simp [*]; done)), H', ⟨by have := HJ1.out; have := HK2.out; have := HK3.out; have := HK4.out; omega⟩, ⟨by (try simp only [hl5_2]); (try simp only [hl5_3]); (with_reducible repeat (first | apply Kd.S_alloc | apply Kd.S_drewN | apply Kd.S_drew)); exact HO_4.out⟩, ⟨by (try simp only [hl5_2]); (try simp only [hl5_3]); (with_reducible repeat (first | apply Kd.R_alloc | apply Kd.R_drewN | apply Kd.R_drew)); exact HO_5.out⟩, ⟨by repeat (first | (with_reducible first | exact HB.out | apply below_alloc | apply pw_below_drewN | apply below_drew1) | exact HB.out)⟩⟩
end Go.Proofs.Yteaablbhdmkcpaa.Q
end
section
namespace Go.Proofs.Yteaablbhdmkcpaa.Q
open Go.RowKit Go.Proofs.YteaablbhdmkcpaaW.PrintWords Go.Proofs.YteaablbhdmkcpaaW.PrintLast Go.Proofs.YteaablbhdmkcpaaW.PrintMore
attribute [local go_sem] max2_int min2_int max_two min_two max_three min_three max_four min_four
set_option linter.unusedVariables false
set_option linter.unusedSimpArgs false
def laws_FnExactCountOrders.j0 : Nat → List (S54) → List (S57) → Bool → Option (Bool)
  | 0, _, _, _ => none
  | k + 1, x0, x6, x34 => if x34 = true then (some false) else ((laws_toInstrS.f k x0).bind fun t112 => ((laws_eqInstrS.f k x6 t112).bind fun t115 => (if t115 = true then (some true) else (some false))))
def laws_FnExactCountOrders.f (k : Nat) (l0 : List (S54)) : Option (Bool) := (laws_szInstrS.f k l0 1048576).bind fun t101 => (if t101 < 0 then (some true) else ((laws_toInstrS.f k l0).bind fun t102 => ((spec_CountOrders.f k t102).bind fun bt105 => ((laws_toInstrS.f k l0).bind fun t107 => ((impl_CountOrders.f k t107).bind fun bt110 => (if bt110.1 = bt105.1 then (laws_FnExactCountOrders.j0 k l0 t107 (bt110.2 != bt105.2)) else (laws_FnExactCountOrders.j0 k l0 t107 true)))))))
theorem laws_FnExactCountOrders.mono_l : ∀ k, (∀ y0 y1 y2, LeO (laws_FnExactCountOrders.j0 k y0 y1 y2) (laws_FnExactCountOrders.j0 (k + 1) y0 y1 y2))
  | 0 => fun _ _ _ r h => by simp [laws_FnExactCountOrders.j0] at h
  | k + 1 => by
    have ih0 := laws_FnExactCountOrders.mono_l k
    · intro y0 y1 y2
      unfold laws_FnExactCountOrders.j0
      repeat' first
      | (with_reducible exact ih0 _ _ _)
      | (with_reducible exact impl_CountOrders.mono _ _)
      | (with_reducible exact laws_eqInstrS.mono _ _ _)
      | (with_reducible exact laws_szInstrS.mono _ _ _)
      | (with_reducible exact laws_toInstrS.mono _ _)
      | (with_reducible exact spec_CountOrders.mono _ _)
      | (with_reducible exact LeO.refl _)
      | (with_reducible exact LeO.none _)
      | (with_reducible refine LeO.ite ?_ ?_)
      | (with_reducible refine LeO.bind ?_ (fun _ => ?_))
      | exact ih0 _ _ _
      | exact impl_CountOrders.mono _ _
      | exact laws_eqInstrS.mono _ _ _
      | exact laws_szInstrS.mono _ _ _
      | exact laws_toInstrS.mono _ _
      | exact spec_CountOrders.mono _ _
      | exact LeO.none _
      | refine LeO.ite ?_ ?_
      | refine LeO.bind ?_ (fun _ => ?_)
theorem laws_FnExactCountOrders.mono : ∀ a0 k, LeO (laws_FnExactCountOrders.f k a0) (laws_FnExactCountOrders.f (k + 1) a0) := by
  intro a0 k
  have ih0 := laws_FnExactCountOrders.mono_l k
  unfold laws_FnExactCountOrders.f
  repeat' first
      | (with_reducible exact ih0 _ _ _)
      | (with_reducible exact impl_CountOrders.mono _ _)
      | (with_reducible exact laws_eqInstrS.mono _ _ _)
      | (with_reducible exact laws_szInstrS.mono _ _ _)
      | (with_reducible exact laws_toInstrS.mono _ _)
      | (with_reducible exact spec_CountOrders.mono _ _)
      | (with_reducible exact LeO.refl _)
      | (with_reducible exact LeO.none _)
      | (with_reducible refine LeO.ite ?_ ?_)
      | (with_reducible refine LeO.bind ?_ (fun _ => ?_))
      | exact ih0 _ _ _
      | exact impl_CountOrders.mono _ _
      | exact laws_eqInstrS.mono _ _ _
      | exact laws_szInstrS.mono _ _ _
      | exact laws_toInstrS.mono _ _
      | exact spec_CountOrders.mono _ _
      | exact LeO.none _
      | refine LeO.ite ?_ ?_
      | refine LeO.bind ?_ (fun _ => ?_)
set_option maxHeartbeats 8000000 in
set_option maxRecDepth 100000 in
theorem laws_FnExactCountOrders.calls (k : Nat) (A0 : Option Addr) (c0 : Nat) (l0 : List (S54)) (r : Bool) (w : World) (hr0 : Kd.C k54 w A0 l0.length l0) (hc0 : l0.length ≤ c0) (h : laws_FnExactCountOrders.f k l0 = some r) :
    Calls Try.prog 6 #[.slice A0 l0.length c0] w fun e w' => e = .returned (.bool r) ∧ Below w.heap.size w w' := by
  have HR0 := Aside0.mk hr0
  have HC0 := Aside0.mk hc0
  clear hr0 hc0
  have HB := Aside0.mk (Below.refl w.heap.size w)
  have H : ((laws_szInstrS.f k l0 1048576).bind fun t101 => (if t101 < 0 then (some true) else ((laws_toInstrS.f k l0).bind fun t102 => ((spec_CountOrders.f k t102).bind fun bt105 => ((laws_toInstrS.f k l0).bind fun t107 => ((impl_CountOrders.f k t107).bind fun bt110 => (if bt110.1 = bt105.1 then (laws_FnExactCountOrders.j0 k l0 t107 (bt110.2 != bt105.2)) else (laws_FnExactCountOrders.j0 k l0 t107 true)))))))) = some r := h
  clear h
  replace H := Option.bind_eq_some_iff.mp H
  obtain ⟨t101, A20, H⟩ := H
  replace H : (if t101 < 0 then (some true) else ((laws_toInstrS.f k l0).bind fun t102 => ((spec_CountOrders.f k t102).bind fun bt105 => ((laws_toInstrS.f k l0).bind fun t107 => ((impl_CountOrders.f k t107).bind fun bt110 => (if bt110.1 = bt105.1 then (laws_FnExactCountOrders.j0 k l0 t107 (bt110.2 != bt105.2)) else (laws_FnExactCountOrders.j0 k l0 t107 true))))))) = some r := H
  have A2 := Aside0.mk A20
  clear A20
  by_cases c3 : t101 < 0
  · rw [if_pos c3] at H
    have c3b0 : decide (t101 < 0) = true := decide_eq_true c3
    clear c3
    obtain rfl := Option.some.inj H
    go_enter Try.func6, Try.ntmps6
    go_wp2_with (first | ((with_reducible refine gate_callee (f := 14) rfl ?_); refine goesL_ (some 11) rfl rfl Try.func14 (by kernel_rfl) rfl #[.slice A0 l0.length c0, .int .i64 1048576] rfl (by (try simp only [List.map_toArray, List.map_cons, List.map_nil]); first | done | rfl | (simp only [List.length_drop, List.length_take]; rfl)) ?_; (with_reducible refine (laws_szInstrS.calls k _ _ l0 1048576 t101 _ ?side1 ?side2 A2.out).mono ?_); (case side1 => repeat (first | exact HR0.out | (with_reducible refine Kd.C_alloc ?_ _) | (with_reducible refine Kd.C_drewN ?_ _) | (with_reducible refine Kd.C_drew ?_))); (case side2 => exact HC0.out); rintro e w4 ⟨rfl, hb⟩; refine ⟨_, rfl, ?_⟩; have n0_ := Aside0.mk (below_step (by repeat (first | (with_reducible first | exact HB.out | apply below_alloc | apply pw_below_drewN | apply below_drew1) | exact HB.out)) hb); clear HB; have HB := n0_; clear n0_; (try clear hb); (try clear hb2); (try clear hk); (try clear hi)))
    go_ret
    exact ⟨by first | rfl | (simp [errW_none, errW_some] <;> rfl) | (simp [*, errW_none, errW_some] <;> rfl), by repeat (first | (with_reducible first | exact HB.out | apply below_alloc | apply pw_below_drewN | apply below_drew1) | exact HB.out)⟩
  rw [if_neg c3] at H
  have c3b0 : decide (t101 < 0) = false := decide_eq_false c3
  clear c3
  replace H := Option.bind_eq_some_iff.mp H
  obtain ⟨t102, A50, H⟩ := H
  replace H : ((spec_CountOrders.f k t102).bind fun bt105 => ((laws_toInstrS.f k l0).bind fun t107 => ((impl_CountOrders.f k t107).bind fun bt110 => (if bt110.1 = bt105.1 then (laws_FnExactCountOrders.j0 k l0 t107 (bt110.2 != bt105.2)) else (laws_FnExactCountOrders.j0 k l0 t107 true))))) = some r := H
  have A5 := Aside0.mk A50
  clear A50
  replace H := Option.bind_eq_some_iff.mp H
  obtain ⟨⟨t105, t106⟩, A60, H⟩ := H
  replace H : ((laws_toInstrS.f k l0).bind fun t107 => ((impl_CountOrders.f k t107).bind fun bt110 => (if bt110.1 = t105 then (laws_FnExactCountOrders.j0 k l0 t107 (bt110.2 != t106)) else (laws_FnExactCountOrders.j0 k l0 t107 true)))) = some r := H
  have A6 := Aside0.mk A60
  clear A60
  replace H := Option.bind_eq_some_iff.mp H
  obtain ⟨t107, A70, H⟩ := H
  replace H : ((impl_CountOrders.f k t107).bind fun bt110 => (if bt110.1 = t105 then (laws_FnExactCountOrders.j0 k l0 t107 (bt110.2 != t106)) else (laws_FnExactCountOrders.j0 k l0 t107 true))) = some r := H
  have A7 := Aside0.mk A70
  clear A70
  replace H := Option.bind_eq_some_iff.mp H
  obtain ⟨⟨t110, t111⟩, A80, H⟩ := H
  replace H : (if t110 = t105 then (laws_FnExactCountOrders.j0 k l0 t107 (t111 != t106)) else (laws_FnExactCountOrders.j0 k l0 t107 true)) = some r := H
  have A8 := Aside0.mk A80
  clear A80
  have HC9 := Aside0.mk H
  clear H
  go_enter Try.func6, Try.ntmps6
  go_upto_region 8 with (first | ((with_reducible refine gate_callee (f := 14) rfl ?_); refine goesL_ (some 11) rfl rfl Try.func14 (by kernel_rfl) rfl #[.slice A0 l0.length c0, .int .i64 1048576] rfl (by (try simp only [List.map_toArray, List.map_cons, List.map_nil]); first | done | rfl | (simp only [List.length_drop, List.length_take]; rfl)) ?_; (with_reducible refine (laws_szInstrS.calls k _ _ l0 1048576 t101 _ ?side1 ?side2 A2.out).mono ?_); (case side1 => repeat (first | exact HR0.out | (with_reducible refine Kd.C_alloc ?_ _) | (with_reducible refine Kd.C_drewN ?_ _) | (with_reducible refine Kd.C_drew ?_))); (case side2 => exact HC0.out); rintro e w10 ⟨rfl, hb⟩; refine ⟨_, rfl, ?_⟩; have n0_ := Aside0.mk (below_step (by repeat (first | (with_reducible first | exact HB.out | apply below_alloc | apply pw_below_drewN | apply below_drew1) | exact HB.out)) hb); clear HB; have HB := n0_; clear n0_; (try clear hb); (try clear hb2); (try clear hk); (try clear hi)) | ((with_reducible refine gate_callee (f := 16) rfl ?_); refine goesL_ (some 16) rfl rfl Try.func16 (by kernel_rfl) rfl #[.slice A0 l0.length c0] rfl (by (try simp only [List.map_toArray, List.map_cons, List.map_nil]); first | done | rfl | (simp only [List.length_drop, List.length_take]; rfl)) ?_; (with_reducible refine (laws_toInstrS.calls k _ _ l0 t102 _ ?side1 ?side2 A5.out).mono ?_); (case side1 => repeat (first | exact (Kd.C_below HR0.out HB.out) | (with_reducible refine Kd.C_alloc ?_ _) | (with_reducible refine Kd.C_drewN ?_ _) | (with_reducible refine Kd.C_drew ?_))); (case side2 => exact HC0.out); rintro e w11 ⟨v103, rfl, ho0, hb⟩; refine ⟨_, rfl, ?_⟩; have n0_ := Aside0.mk (Kd.R_lower ho0 (below_size (by repeat (first | (with_reducible first | exact HB.out | apply below_alloc | apply pw_below_drewN | apply below_drew1) | exact HB.out)))); have n1_ := Aside0.mk (below_step (by repeat (first | (with_reducible first | exact HB.out | apply below_alloc | apply pw_below_drewN | apply below_drew1) | exact HB.out)) hb); clear HB; have HO104 := n0_; have HB := n1_; clear n0_ n1_; (try clear hb); (try clear hb2); (try clear hk); (try clear hi); (try clear ho0); obtain ⟨Ao12, co12, eo12⟩ := Kd.R_slice HO104.out; subst eo12) | ((with_reducible refine gate_callee (f := 31) rfl ?_); refine goesL_ (some 17) rfl rfl Try.func31 (by kernel_rfl) rfl #[.slice Ao12 t102.length co12] rfl (by (try simp only [List.map_toArray, List.map_cons, List.map_nil]); first | done | rfl | (simp only [List.length_drop, List.length_take]; rfl)) ?_; (with_reducible refine (spec_CountOrders.calls k _ _ t102 t105 t106 _ ?side1 ?side2 A6.out).mono ?_); (case side1 => repeat (first | exact (Kd.R_reads' HO104.out).2.2 | (with_reducible refine Kd.C_alloc ?_ _) | (with_reducible refine Kd.C_drewN ?_ _) | (with_reducible refine Kd.C_drew ?_))); (case side2 => exact (Kd.R_reads' HO104.out).2.1); rintro e w13 ⟨rfl, hb⟩; refine ⟨_, rfl, ?_⟩; have n0_ := Aside0.mk (Kd.R_below (by (with_reducible repeat (first | apply Kd.R_alloc | apply Kd.R_drewN | apply Kd.R_drew)); exact HO104.out) hb); have n1_ := Aside0.mk (below_step (by repeat (first | (with_reducible first | exact HB.out | apply below_alloc | apply pw_below_drewN | apply below_drew1) | exact HB.out)) hb); clear HO104; clear HB; have HO104 := n0_; have HB := n1_; clear n0_ n1_; (try clear hb); (try clear hb2); (try clear hk); (try clear hi)) | ((with_reducible refine gate_callee (f := 16) rfl ?_); refine goesL_ (some 21) rfl rfl Try.func16 (by kernel_rfl) rfl #[.slice A0 l0.length c0] rfl (by (try simp only [List.map_toArray, List.map_cons, List.map_nil]); first | done | rfl | (simp only [List.length_drop, List.length_take]; rfl)) ?_; (with_reducible refine (laws_toInstrS.calls k _ _ l0 t107 _ ?side1 ?side2 A7.out).mono ?_); (case side1 => repeat (first | exact (Kd.C_below HR0.out HB.out) | (with_reducible refine Kd.C_alloc ?_ _) | (with_reducible refine Kd.C_drewN ?_ _) | (with_reducible refine Kd.C_drew ?_))); (case side2 => exact HC0.out); rintro e w14 ⟨v108, rfl, ho0, hb⟩; refine ⟨_, rfl, ?_⟩; have n0_ := Aside0.mk (Kd.R_elder' (by (with_reducible repeat (first | apply Kd.R_alloc | apply Kd.R_drewN | apply Kd.R_drew)); exact HO104.out) (Kd.R_base ho0) hb); have n1_ := Aside0.mk (Kd.R_lower (Kd.R_new' ho0 (Kd.R_lt (by (with_reducible repeat (first | apply Kd.R_alloc | apply Kd.R_drewN | apply Kd.R_drew)); exact HO104.out))) (below_size (by repeat (first | (with_reducible first | exact HB.out | apply below_alloc | apply pw_below_drewN | apply below_drew1) | exact HB.out)))); have n2_ := Aside0.mk (below_step (by repeat (first | (with_reducible first | exact HB.out | apply below_alloc | apply pw_below_drewN | apply below_drew1) | exact HB.out)) hb); clear HO104; clear HB; have HO104 := n0_; have HO109 := n1_; have HB := n2_; clear n0_ n1_ n2_; (try clear hb); (try clear hb2); (try clear hk); (try clear hi); (try clear ho0); obtain ⟨Ao15, co15, eo15⟩ := Kd.R_slice HO109.out; subst eo15) | ((with_reducible refine gate_callee (f := 32) rfl ?_); refine goesL_ (some 24) rfl rfl Try.func32 (by kernel_rfl) rfl #[.slice Ao15 t107.length co15] rfl (by (try simp only [List.map_toArray, List.map_cons, List.map_nil]); first | done | rfl | (simp only [List.length_drop, List.length_take]; rfl)) ?_; (with_reducible refine (impl_CountOrders.calls k _ _ t107 t110 t111 _ ?side1 ?side2 A8.out).mono ?_); (case side1 => repeat (first | exact (Kd.R_reads' HO109.out).2.2 | (with_reducible refine Kd.C_alloc ?_ _) | (with_reducible refine Kd.C_drewN ?_ _) | (with_reducible refine Kd.C_drew ?_))); (case side2 => exact (Kd.R_reads' HO109.out).2.1); rintro e w16 ⟨rfl, hb⟩; refine ⟨_, rfl, ?_⟩; have n0_ := Aside0.mk (Kd.R_below (by (with_reducible repeat (first | apply Kd.R_alloc | apply Kd.R_drewN | apply Kd.R_drew)); exact HO104.out) hb); have n1_ := Aside0.mk (Kd.R_below (by (with_reducible repeat (first | apply Kd.R_alloc | apply Kd.R_drewN | apply Kd.R_drew)); exact HO109.out) hb); have n2_ := Aside0.mk (below_step (by repeat (first | (with_reducible first | exact HB.out | apply below_alloc | apply pw_below_drewN | apply below_drew1) | exact HB.out)) hb); clear HO104; clear HO109; clear HB; have HO104 := n0_; have HO109 := n1_; have HB := n2_; clear n0_ n1_ n2_; (try clear hb); (try clear hb2); (try clear hk); (try clear hi)))
  (try simp only [Act.put, List.setIfInBounds_toArray, List.set_cons_zero, List.set_cons_succ])
  go_cut [34] (fun v34 wc => ∃ (kq : Nat) (x34_8 : Bool), v34 = .bool x34_8 ∧ Aside0 (laws_FnExactCountOrders.j0 kq l0 t107 x34_8 = some r) ∧ Aside0 (kq ≤ k) ∧ Aside0 (Kd.R k57 57 wc w.heap.size (fun _ => True) (.slice Ao15 t107.length co15) t107) ∧ Aside0 (Below w.heap.size w wc))
  case first =>
    have H := HC9.out
    clear HC9
    by_cases c17 : t110 = t105
    rotate_left
    · rw [if_neg c17] at H
      have c17b0 : (t110 == t105) = false := beq_eq_false_iff_ne.mpr c17
      have c17b1 : (t110 != t105) = true := bne_iff_ne.mpr c17
      (first | rw [c17b0] | (simp only [i64_w, i32_w]; rw [c17b0]) | skip)
      have H' := Aside0.mk H
      clear H
      go_wp2
      go_meet
      case rel => exact ⟨_, (true), (by first | rfl | (simp; done) | (simp [*]; done)), H', ⟨by first | omega | exact Nat.le_refl _⟩, ⟨by (with_reducible repeat (first | apply Kd.R_alloc | apply Kd.R_drewN | apply Kd.R_drew)); exact Kd.R_mono HO109.out (fun _ hk => trivial)⟩, ⟨by repeat (first | (with_reducible first | exact HB.out | apply below_alloc | apply pw_below_drewN | apply below_drew1) | exact HB.out)⟩⟩
    rw [if_pos c17] at H
    have c17b0 : (t110 == t105) = true := beq_iff_eq.mpr c17
    have c17b1 : (t110 != t105) = false := bne_eq_false_iff_eq.mpr c17
    clear c17
    (first | rw [c17b0] | (simp only [i64_w, i32_w]; rw [c17b0]) | skip)
    have H' := Aside0.mk H
    clear H
    go_wp2
    go_meet
    case rel => exact ⟨_, ((t111 != t106)), (by first | rfl | (simp; done) | (simp [*]; done)), H', ⟨by first | omega | exact Nat.le_refl _⟩, ⟨by (with_reducible repeat (first | apply Kd.R_alloc | apply Kd.R_drewN | apply Kd.R_drew)); exact Kd.R_mono HO109.out (fun _ hk => trivial)⟩, ⟨by repeat (first | (with_reducible first | exact HB.out | apply below_alloc | apply pw_below_drewN | apply below_drew1) | exact HB.out)⟩⟩
  clear HC9
  try clear c1
  try clear p2
  try clear c3
  try clear c3b0
  try clear c6
  try clear c14
  try clear c16
  try clear c17
  try clear c17b0
  try clear c17b1
  obtain ⟨kq, x34_8, rfl, HA, HJ8, HO_6, HB⟩ := hcut
  cases kq with
  | zero => exact absurd HA.out (by simp [laws_FnExactCountOrders.j0])
  | succ kj8 =>
  have H := HA.out
  clear HA
  simp only [laws_FnExactCountOrders.j0] at H
  by_cases c18 : x34_8 = true
  · subst c18
    have H1 : (some false) = some r := by rw [if_pos rfl] at H; exact H
    clear H
    have H := H1
    clear H1
    obtain rfl := Option.some.inj H
    go_wp2
    go_ret
    exact ⟨by first | rfl | (simp [errW_none, errW_some] <;> rfl) | (simp [*, errW_none, errW_some] <;> rfl), by repeat (first | (with_reducible first | exact HB.out | apply below_alloc | apply pw_below_drewN | apply below_drew1) | exact HB.out)⟩
  replace c18 := Bool.eq_false_iff.mpr c18
  subst c18
  have H1 : ((laws_toInstrS.f kj8 l0).bind fun t112 => ((laws_eqInstrS.f kj8 t107 t112).bind fun t115 => (if t115 = true then (some true) else (some false)))) = some r := by rw [if_neg (show ¬ (false = true) by decide)] at H; exact H
  clear H
  have H := H1
  clear H1
  replace H := Option.bind_eq_some_iff.mp H
  obtain ⟨t112, A190, H⟩ := H
  replace H : ((laws_eqInstrS.f kj8 t107 t112).bind fun t115 => (if t115 = true then (some true) else (some false))) = some r := H
  have A19 := Aside0.mk A190
  clear A190
  replace H := Option.bind_eq_some_iff.mp H
  obtain ⟨t115, A200, H⟩ := H
  replace H : (if t115 = true then (some true) else (some false)) = some r := H
  have A20 := Aside0.mk A200
  clear A200
  by_cases c21 : t115 = true
  · subst c21
    have H1 : (some true) = some r := by rw [if_pos rfl] at H; exact H
    clear H
    have H := H1
    clear H1
    obtain rfl := Option.some.inj H
    go_wp2_with (first | ((with_reducible refine gate_callee (f := 16) rfl ?_); refine goesL_ (some 37) rfl rfl Try.func16 (by kernel_rfl) rfl #[.slice A0 l0.length c0] rfl (by (try simp only [List.map_toArray, List.map_cons, List.map_nil]); first | done | rfl | (simp only [List.length_drop, List.length_take]; rfl)) ?_; (with_reducible refine (laws_toInstrS.calls kj8 _ _ l0 t112 _ ?side1 ?side2 A19.out).mono ?_); (case side1 => repeat (first | exact (Kd.C_below HR0.out HB.out) | (with_reducible refine Kd.C_alloc ?_ _) | (with_reducible refine Kd.C_drewN ?_ _) | (with_reducible refine Kd.C_drew ?_))); (case side2 => exact HC0.out); rintro e w22 ⟨v113, rfl, ho0, hb⟩; refine ⟨_, rfl, ?_⟩; have n0_ := Aside0.mk (Kd.R_elder' (by (with_reducible repeat (first | apply Kd.R_alloc | apply Kd.R_drewN | apply Kd.R_drew)); exact HO_6.out) (Kd.R_base ho0) hb); have n1_ := Aside0.mk (Kd.R_lower (Kd.R_new' ho0 (Kd.R_lt (by (with_reducible repeat (first | apply Kd.R_alloc | apply Kd.R_drewN | apply Kd.R_drew)); exact HO_6.out))) (below_size (by repeat (first | (with_reducible first | exact HB.out | apply below_alloc | apply pw_below_drewN | apply below_drew1) | exact HB.out)))); have n2_ := Aside0.mk (below_step (by repeat (first | (with_reducible first | exact HB.out | apply below_alloc | apply pw_below_drewN | apply below_drew1) | exact HB.out)) hb); clear HO_6; clear HB; have HO_6 := n0_; have HO114 := n1_; have HB := n2_; clear n0_ n1_ n2_; (try clear hb); (try clear hb2); (try clear hk); (try clear hi); (try clear ho0); obtain ⟨Ao23, co23, eo23⟩ := Kd.R_slice HO114.out; subst eo23) | ((with_reducible refine gate_callee (f := 19) rfl ?_); refine goesL_ (some 38) rfl rfl Try.func19 (by kernel_rfl) rfl #[.slice Ao15 t107.length co15, .slice Ao23 t112.length co23] rfl (by (try simp only [List.map_toArray, List.map_cons, List.map_nil]); first | done | rfl | (simp only [List.length_drop, List.length_take]; rfl)) ?_; (with_reducible refine (laws_eqInstrS.calls kj8 _ _ t107 _ _ t112 true _ ?side1 ?side2 ?side3 ?side4 A20.out).mono ?_); (case side1 => repeat (first | exact (Kd.R_reads' HO_6.out).2.2 | (with_reducible refine Kd.C_alloc ?_ _) | (with_reducible refine Kd.C_drewN ?_ _) | (with_reducible refine Kd.C_drew ?_))); (case side2 => exact (Kd.R_reads' HO_6.out).2.1); (case side3 => repeat (first | exact (Kd.R_reads' HO114.out).2.2 | (with_reducible refine Kd.C_alloc ?_ _) | (with_reducible refine Kd.C_drewN ?_ _) | (with_reducible refine Kd.C_drew ?_))); (case side4 => exact (Kd.R_reads' HO114.out).2.1); rintro e w24 ⟨rfl, hb⟩; refine ⟨_, rfl, ?_⟩; have n0_ := Aside0.mk (Kd.R_below (by (with_reducible repeat (first | apply Kd.R_alloc | apply Kd.R_drewN | apply Kd.R_drew)); exact HO_6.out) hb); have n1_ := Aside0.mk (Kd.R_below (by (with_reducible repeat (first | apply Kd.R_alloc | apply Kd.R_drewN | apply Kd.R_drew)); exact HO114.out) hb); have n2_ := Aside0.mk (below_step (by repeat (first | (with_reducible first | exact HB.out | apply below_alloc | apply pw_below_drewN | apply below_drew1) | exact HB.out)) hb); clear HO_6; clear HO114; clear HB; have HO_6 := n0_; have HO114 := n1_; have HB := n2_; clear n0_ n1_ n2_; (try clear hb); (try clear hb2); (try clear hk); (try clear hi)))
    go_ret
    exact ⟨by first | rfl | (simp [errW_none, errW_some] <;> rfl) | (simp [*, errW_none, errW_some] <;> rfl), by repeat (first | (with_reducible first | exact HB.out | apply below_alloc | apply pw_below_drewN | apply below_drew1) | exact HB.out)⟩
  replace c21 := Bool.eq_false_iff.mpr c21
  subst c21
  have H1 : (some false) = some r := by rw [if_neg (show ¬ (false = true) by decide)] at H; exact H
  clear H
  have H := H1
  clear H1
  obtain rfl := Option.some.inj H
  go_wp2_with (first | ((with_reducible refine gate_callee (f := 16) rfl ?_); refine goesL_ (some 37) rfl rfl Try.func16 (by kernel_rfl) rfl #[.slice A0 l0.length c0] rfl (by (try simp only [List.map_toArray, List.map_cons, List.map_nil]); first | done | rfl | (simp only [List.length_drop, List.length_take]; rfl)) ?_; (with_reducible refine (laws_toInstrS.calls kj8 _ _ l0 t112 _ ?side1 ?side2 A19.out).mono ?_); (case side1 => repeat (first | exact (Kd.C_below HR0.out HB.out) | (with_reducible refine Kd.C_alloc ?_ _) | (with_reducible refine Kd.C_drewN ?_ _) | (with_reducible refine Kd.C_drew ?_))); (case side2 => exact HC0.out); rintro e w25 ⟨v113, rfl, ho0, hb⟩; refine ⟨_, rfl, ?_⟩; have n0_ := Aside0.mk (Kd.R_elder' (by (with_reducible repeat (first | apply Kd.R_alloc | apply Kd.R_drewN | apply Kd.R_drew)); exact HO_6.out) (Kd.R_base ho0) hb); have n1_ := Aside0.mk (Kd.R_lower (Kd.R_new' ho0 (Kd.R_lt (by (with_reducible repeat (first | apply Kd.R_alloc | apply Kd.R_drewN | apply Kd.R_drew)); exact HO_6.out))) (below_size (by repeat (first | (with_reducible first | exact HB.out | apply below_alloc | apply pw_below_drewN | apply below_drew1) | exact HB.out)))); have n2_ := Aside0.mk (below_step (by repeat (first | (with_reducible first | exact HB.out | apply below_alloc | apply pw_below_drewN | apply below_drew1) | exact HB.out)) hb); clear HO_6; clear HB; have HO_6 := n0_; have HO114 := n1_; have HB := n2_; clear n0_ n1_ n2_; (try clear hb); (try clear hb2); (try clear hk); (try clear hi); (try clear ho0); obtain ⟨Ao26, co26, eo26⟩ := Kd.R_slice HO114.out; subst eo26) | ((with_reducible refine gate_callee (f := 19) rfl ?_); refine goesL_ (some 38) rfl rfl Try.func19 (by kernel_rfl) rfl #[.slice Ao15 t107.length co15, .slice Ao26 t112.length co26] rfl (by (try simp only [List.map_toArray, List.map_cons, List.map_nil]); first | done | rfl | (simp only [List.length_drop, List.length_take]; rfl)) ?_; (with_reducible refine (laws_eqInstrS.calls kj8 _ _ t107 _ _ t112 false _ ?side1 ?side2 ?side3 ?side4 A20.out).mono ?_); (case side1 => repeat (first | exact (Kd.R_reads' HO_6.out).2.2 | (with_reducible refine Kd.C_alloc ?_ _) | (with_reducible refine Kd.C_drewN ?_ _) | (with_reducible refine Kd.C_drew ?_))); (case side2 => exact (Kd.R_reads' HO_6.out).2.1); (case side3 => repeat (first | exact (Kd.R_reads' HO114.out).2.2 | (with_reducible refine Kd.C_alloc ?_ _) | (with_reducible refine Kd.C_drewN ?_ _) | (with_reducible refine Kd.C_drew ?_))); (case side4 => exact (Kd.R_reads' HO114.out).2.1); rintro e w27 ⟨rfl, hb⟩; refine ⟨_, rfl, ?_⟩; have n0_ := Aside0.mk (Kd.R_below (by (with_reducible repeat (first | apply Kd.R_alloc | apply Kd.R_drewN | apply Kd.R_drew)); exact HO_6.out) hb); have n1_ := Aside0.mk (Kd.R_below (by (with_reducible repeat (first | apply Kd.R_alloc | apply Kd.R_drewN | apply Kd.R_drew)); exact HO114.out) hb); have n2_ := Aside0.mk (below_step (by repeat (first | (with_reducible first | exact HB.out | apply below_alloc | apply pw_below_drewN | apply below_drew1) | exact HB.out)) hb); clear HO_6; clear HO114; clear HB; have HO_6 := n0_; have HO114 := n1_; have HB := n2_; clear n0_ n1_ n2_; (try clear hb); (try clear hb2); (try clear hk); (try clear hi)))
  go_ret
  exact ⟨by first | rfl | (simp [errW_none, errW_some] <;> rfl) | (simp [*, errW_none, errW_some] <;> rfl), by repeat (first | (with_reducible first | exact HB.out | apply below_alloc | apply pw_below_drewN | apply below_drew1) | exact HB.out)⟩
end Go.Proofs.Yteaablbhdmkcpaa.Q
end
section
namespace Go.Proofs.Yteaablbhdmkcpaa.Rd
open Go Go.RowKit Go.Proofs.YteaablbhdmkcpaaW.PrintWords Go.Proofs.YteaablbhdmkcpaaW.PrintLast Go.ChangeShapes Go.WideShapes Go.Deep
set_option linter.unusedSimpArgs false
set_option linter.unusedVariables false
structure RdK {α : Type} (d : Kd α) (P : Program) (t : TypeId) (Good : α → Prop) : Prop where
  size : P.cellsOf t = d.sz
  get : ∀ {H : Type} {enc : TypeId × Value → H} {w : World} {n : Nat} {cs : List Value} {x : DataW H × List MemPlace}, DataW.trod enc P w 0 (fun _ => true) true n t cs = some x → ∃ a, d.K w a cs ∧ Good a
def okInt (k : IntKind) (n : Int) : Prop := (Lit.int k n).wf = true
def okStr (s : ByteArray) : Prop := s.size ≤ maxLen
def okSl {α : Type} (G : α → Prop) (xs : List α) : Prop := xs.length ≤ maxLen ∧ ∀ x ∈ xs, G x
theorem rk_int {P : Program} {t : TypeId} {k : IntKind} (ht : P.underlying t = some (.int k)) (hs : P.cellsOf t = 1) : RdK (Kd.int k) P t (okInt k) :=
  ⟨hs, fun h => by obtain ⟨n, rfl, _, hw⟩ := DataW.trod_int ht h; exact ⟨n, rfl, hw⟩⟩
theorem rk_string {P : Program} {t : TypeId} (ht : P.underlying t = some .string) (hs : P.cellsOf t = 1) : RdK Kd.string P t okStr :=
  ⟨hs, fun h => by obtain ⟨n, rfl, _, hw⟩ := DataW.trod_string ht h; exact ⟨n, rfl, hw⟩⟩
theorem rk_slice {α : Type} {d : Kd α} {P : Program} {t e : TypeId} {G : α → Prop} (hd : RdK d P e G) (ht : P.underlying t = some (.slice e)) (hs : P.cellsOf t = 1) : RdK (Kd.slice e d) P t (okSl G) := by
  refine ⟨hs, fun {H enc w n cs x} h => ?_⟩
  rcases open_slice ht h with ⟨rfl, _⟩ | ⟨a, len, cap, m, n', D, Pl, rfl, _, hl, hm, hmm, _, hx⟩
  · exact ⟨[], ⟨none, 0, rfl, Nat.le_refl _, rfl, Nat.zero_le _, fun h => absurd h (Nat.lt_irrefl 0)⟩, Nat.zero_le _, fun _ h => by cases h⟩
  · have hc : m = cap := by simpa using hmm
    subst hc
    have key : ∀ i : Fin len, ∃ a' : α, ∃ cs', d.K w a' cs' ∧ G a' ∧ w.cells? 0 (a.add (i * P.cellsOf e)) (P.cellsOf e) = some cs' := fun i => by
      obtain ⟨cs', h1, h2⟩ := hx i (by omega)
      obtain ⟨a', h3, h4⟩ := hd.get h2
      exact ⟨a', cs', h3, h4, h1⟩
    have hlen : (List.ofFn fun i => Classical.choose (key i)).length = len := List.length_ofFn
    refine ⟨List.ofFn fun i => Classical.choose (key i), ⟨some a, m, by rw [hlen], by omega, hlen.trans hlen.symm, ?_, fun _ => ⟨a, rfl, fun j p hj => ?_⟩⟩, by rw [hlen]; omega, fun y hy => ?_⟩
    · rw [hlen]; unfold maxLen at hm; omega
    · have hjl : j < len := by
        have := (List.getElem?_eq_some_iff.1 hj).1
        rwa [hlen] at this
      rw [List.getElem?_ofFn, dif_pos hjl, Option.some.injEq] at hj
      obtain ⟨cs', h1, h2, h3⟩ := Classical.choose_spec (key ⟨j, hjl⟩)
      rw [hj] at h1 h2
      obtain ⟨_, h5, h6⟩ := World.cells?_some h3
      refine ⟨cs', d.K_len h1, h1, fun i u hi => ?_⟩
      have hil : i < P.cellsOf e := by
        have := (List.getElem?_eq_some_iff.1 hi).1
        omega
      have := h6 i hil
      rw [Go.Deep.add_add] at this
      rw [← hd.size]
      exact this.trans hi
    · obtain ⟨i, rfl⟩ := List.mem_ofFn.1 hy
      obtain ⟨cs', h1, h2, h3⟩ := Classical.choose_spec (key i)
      exact h2
structure RdF {α : Type} (d : Kd α) (P : Program) (fs : List Field) (off : Nat) (Good : α → Prop) : Prop where
  get : ∀ {H : Type} {enc : TypeId × Value → H} {w : World} {n : Nat} {cs : List Value}, cs.length = off + d.sz →
    (∀ f ∈ fs, ∃ y, DataW.trod enc P w 0 (fun _ => true) true n f.type ((cs.drop f.offset).take (P.cellsOf f.type)) = some y) → ∃ a, d.K w a (cs.drop off) ∧ Good a
theorem rf_one {α : Type} {d : Kd α} {P : Program} {f : Field} {G : α → Prop} (hd : RdK d P f.type G) : RdF d P [f] f.offset G := by
  refine ⟨fun {H enc w n cs} hl h => ?_⟩
  obtain ⟨y, hy⟩ := h f (List.mem_singleton.2 rfl)
  rw [hd.size, List.take_of_length_le (by rw [List.length_drop]; omega)] at hy
  exact hd.get hy
theorem rf_cons {α β : Type} {d : Kd α} {d' : Kd β} {P : Program} {f : Field} {fs : List Field} {G : α → Prop} {G' : β → Prop} {off' : Nat} (hd : RdK d P f.type G) (ho : off' = f.offset + d.sz) (hf : RdF d' P fs off' G') :
    RdF (Kd.pair d d') P (f :: fs) f.offset (fun x => G x.1 ∧ G' x.2) := by
  refine ⟨fun {H enc w n cs} hl h => ?_⟩
  have hl' : cs.length = f.offset + (d.sz + d'.sz) := hl
  obtain ⟨y, hy⟩ := h f List.mem_cons_self
  rw [hd.size] at hy
  obtain ⟨a, h1, h2⟩ := hd.get hy
  obtain ⟨b, h3, h4⟩ := hf.get (cs := cs) (by omega) (fun g hg => h g (List.mem_cons_of_mem _ hg))
  refine ⟨(a, b), ⟨_, _, ?_, h1, h3⟩, h2, h4⟩
  rw [ho, ← List.drop_drop, List.take_append_drop]
theorem rk_struct {α : Type} {d : Kd α} {P : Program} {t : TypeId} {fs : Array Field} {G : α → Prop} (ht : P.underlying t = some (.struct fs)) (hs : P.cellsOf t = d.sz) (hf : RdF d P fs.toList 0 G) : RdK d P t G := by
  refine ⟨hs, fun {H enc w n cs x} h => ?_⟩
  obtain ⟨xs, n', _, _, hl, hlen, hg⟩ := DataW.trod_struct ht h
  have := hf.get (cs := cs) (enc := enc) (w := w) (n := n') (by omega) (fun f hf' => by
    obtain ⟨i, hi, he⟩ := List.getElem_of_mem hf'
    have h1 : fs[i]? = some f := by rw [← Array.getElem?_toList, List.getElem?_eq_getElem hi, he]
    have h2 := hg i f h1
    rw [List.getElem?_eq_getElem (by rw [hlen]; simpa using hi)] at h2
    exact ⟨_, h2⟩)
  simpa using this
theorem rk_iso {α β : Type} {d : Kd α} {P : Program} {t : TypeId} {G : α → Prop} (hd : RdK d P t G) (f : β → α) (g : α → β) (hfg : ∀ a, f (g a) = a) : RdK (Kd.iso d f) P t (fun b => G (f b)) := by
  refine ⟨hd.size, fun {H enc w n cs x} h => ?_⟩
  obtain ⟨a, h1, h2⟩ := hd.get h
  exact ⟨g a, by show d.K w (f (g a)) cs; rw [hfg]; exact h1, by rw [hfg]; exact h2⟩
theorem arg_slice {α : Type} {d : Kd α} {P : Program} {t e : TypeId} {G : α → Prop} (hd : RdK (Kd.slice e d) P t (okSl G)) {H : Type} {enc : TypeId × Value → H} {w : World} {a : Option Addr} {len cap : Nat} {x : DataW H} {ps : List MemPlace}
    (h : DataW.Trod enc P w 0 (fun _ => true) true t (.slice a len cap) x ps) : ∃ xs : List α, len = xs.length ∧ xs.length ≤ cap ∧ Kd.C d w a xs.length xs ∧ okSl G xs := by
  obtain ⟨n, hn⟩ := h
  obtain ⟨xs, ⟨A, c, he, hl, hc⟩, hg⟩ := hd.get hn
  simp [Value.cells] at he
  obtain ⟨rfl, rfl, rfl⟩ := he
  exact ⟨xs, rfl, hl, hc, hg⟩
end Go.Proofs.Yteaablbhdmkcpaa.Rd
end
section
namespace Go.Proofs.Yteaablbhdmkcpaa.Q
open Go.RowKit Go.Proofs.YteaablbhdmkcpaaW.PrintWords Go.Proofs.YteaablbhdmkcpaaW.PrintLast Go.Proofs.YteaablbhdmkcpaaW.PrintMore
attribute [local go_sem] max2_int min2_int max_two min_two max_three min_three max_four min_four
set_option linter.unusedVariables false
set_option linter.unusedSimpArgs false
def good54 (x : S54) : Prop := Rd.okStr x.f0 ∧ (Rd.okInt .i64) x.f1 ∧ (Rd.okInt .i64) x.f2 ∧ (Rd.okInt .i64) x.f3 ∧ (Rd.okInt .i64) x.f4
theorem rd54 : Rd.RdK k54 Try.prog 54 good54 :=
  Rd.rk_iso (Rd.rk_struct Try.underlying54 (by kernel_rfl) (Rd.rf_cons (Rd.rk_string Try.underlying9 (by kernel_rfl)) rfl (Rd.rf_cons (Rd.rk_int Try.underlying3 (by kernel_rfl)) rfl (Rd.rf_cons (Rd.rk_int Try.underlying3 (by kernel_rfl)) rfl (Rd.rf_cons (Rd.rk_int Try.underlying3 (by kernel_rfl)) rfl (Rd.rf_one (Rd.rk_int Try.underlying3 (by kernel_rfl)))))))) (fun x : S54 => (x.f0, x.f1, x.f2, x.f3, x.f4)) (fun p => ⟨p.1, p.2.1, p.2.2.1, p.2.2.2.1, p.2.2.2.2⟩) (fun _ => rfl)
end Go.Proofs.Yteaablbhdmkcpaa.Q
end
section
namespace Go.Proofs.Yteaablbhdmkcpaa.Q
open Go.RowKit Go.Proofs.YteaablbhdmkcpaaW.PrintWords Go.Proofs.YteaablbhdmkcpaaW.PrintLast Go.Proofs.YteaablbhdmkcpaaW.PrintMore
attribute [local go_sem] max2_int min2_int max_two min_two max_three min_three max_four min_four
set_option linter.unusedVariables false
set_option linter.unusedSimpArgs false
def laws_FnExactCountOrders.Pure : Prop := ∀ (a0 : List (S54)), (Rd.okSl good54) a0 → ∃ k, laws_FnExactCountOrders.f k a0 = some true
end Go.Proofs.Yteaablbhdmkcpaa.Q
end
section
namespace Go.Proofs.Yteaablbhdmkcpaa.PL
open Go Go.RowKit Go.Proofs.YteaablbhdmkcpaaW.PrintWords Go.Proofs.YteaablbhdmkcpaaW.PrintLast Go.Proofs.YteaablbhdmkcpaaW.PrintMore Go.Proofs.Yteaablbhdmkcpaa.Q
set_option linter.unusedSimpArgs false
set_option linter.unusedVariables false
theorem w64 {x : Int} (h1 : -9223372036854775808 ≤ x) (h2 : x < 9223372036854775808) : wrap64 x = x := by unfold wrap64; omega
theorem w64n (i : Nat) (h : i < 4611686018427387904) : wrap64 ((i : Int) + 1) = ((i + 1 : Nat) : Int) := by unfold wrap64; omega
theorem Ev.some {α : Type} {a r : α} (h : a = r) : Ev (fun _ => some a) r := h ▸ Ev.now a
theorem Ev.const {α : Type} {g : Option α} {r : α} (h : g = Option.some r) : Ev (fun _ => g) r := by rw [h]; exact Ev.now r
theorem ev_eq {α : Type} {g : Nat → Option α} {r s : α} (h : Ev g r) (e : r = s) : Ev g s := e ▸ h
theorem Ev.ifp {α : Type} {c : Prop} [Decidable c] {g g' : Nat → Option α} {r : α} (h : c) (H : Ev g r) : Ev (fun k => if c then g k else g' k) r := Ev.congr (fun _ => if_pos h) H
theorem Ev.ifn {α : Type} {c : Prop} [Decidable c] {g g' : Nat → Option α} {r : α} (h : ¬ c) (H : Ev g' r) : Ev (fun k => if c then g k else g' k) r := Ev.congr (fun _ => if_neg h) H
theorem Ev.call {α β : Type} {g : Option α} {f : Nat → α → Option β} {a : α} {r : β} (h : g = Option.some a) (k : Ev (fun n => f n a) r) : Ev (fun n => g.bind (f n)) r := by
  rw [h]; exact k
theorem loop_up {σ ρ : Type} (n : Nat) (L : Nat → σ → Int → Option ρ) (M : Nat → σ → ρ) (hend : ∀ s, Ev (fun k => L k s n) (M n s))
    (hstep : ∀ (i : Nat) s, i < n → (∀ s', Ev (fun k => L k s' ((i + 1 : Nat) : Int)) (M (i + 1) s')) → Ev (fun k => L k s i) (M i s)) :
    ∀ (d i : Nat) s, i + d = n → Ev (fun k => L k s i) (M i s)
  | 0, i, s, h => by
    have e : i = n := by omega
    rw [e]
    exact hend s
  | d + 1, i, s, h => hstep i s (by omega) (fun s' => loop_up n L M hend hstep d (i + 1) s' (by omega))
theorem loop_list {α σ ρ : Type} (xs : List α) (L : Nat → σ → Int → Option ρ) (m : List α → σ → ρ) (hend : ∀ s, Ev (fun k => L k s (xs.length : Nat)) (m [] s))
    (hstep : ∀ (i : Nat) s x rest, i < xs.length → (∀ d, xs.getD i d = x) → (∀ s', Ev (fun k => L k s' ((i + 1 : Nat) : Int)) (m rest s')) → Ev (fun k => L k s i) (m (x :: rest) s)) (s : σ) :
    Ev (fun k => L k s 0) (m xs s) := by
  have := loop_up xs.length L (fun i s => m (xs.drop i) s) (fun s => by simpa using hend s) (fun i s hi ih => by
    have e : xs.drop i = xs[i] :: xs.drop (i + 1) := List.drop_eq_getElem_cons hi
    show Ev (fun k => L k s i) (m (xs.drop i) s)
    rw [e]
    exact hstep i s xs[i] _ hi (fun d => by simp [List.getD, List.getElem?_eq_getElem hi]) ih) xs.length 0 s (by omega)
  simpa using this
def idx {α : Type} (p : α → Bool) : List α → Int
  | [] => -1
  | x :: xs => if p x = true then 0 else if idx p xs < 0 then -1 else idx p xs + 1
theorem idx_nonneg {α : Type} (p : α → Bool) (xs : List α) : 0 ≤ idx p xs ↔ ∃ x ∈ xs, p x = true := by
  induction xs with
  | nil => simp [idx]
  | cons x xs ih =>
    unfold idx
    by_cases h : p x = true
    · simp [h]
    · by_cases h2 : idx p xs < 0
      · rw [if_neg h, if_pos h2]
        have : ¬ ∃ x ∈ xs, p x = true := fun e => by have := ih.2 e; omega
        simp [h]
        simpa using this
      · rw [if_neg h, if_neg h2]
        have := ih.1 (by omega)
        simp [h]
        exact ⟨fun _ => this, fun _ => by omega⟩
theorem idx_ge {α : Type} (p : α → Bool) (xs : List α) : -1 ≤ idx p xs := by
  induction xs with
  | nil => unfold idx; simp
  | cons x xs ih => unfold idx; split; · decide
                    · split <;> omega
theorem search_ev {α : Type} (xs : List α) (p : α → Bool) (L : Nat → Int → Option Int) (hend : Ev (fun k => L k (xs.length : Nat)) (-1))
    (hyes : ∀ (i : Nat) x, i < xs.length → (∀ d, xs.getD i d = x) → p x = true → Ev (fun k => L k i) (i : Int))
    (hno : ∀ (i : Nat) x r, i < xs.length → (∀ d, xs.getD i d = x) → p x = false → Ev (fun k => L k ((i + 1 : Nat) : Int)) r → Ev (fun k => L k i) r) : Ev (fun k => L k 0) (idx p xs) := by
  have key : ∀ (d i : Nat), i + d = xs.length → Ev (fun k => L k i) (if idx p (xs.drop i) < 0 then -1 else idx p (xs.drop i) + i) := by
    intro d
    induction d with
    | zero =>
      intro i hi
      rw [List.drop_of_length_le (by omega), if_pos (show idx p [] < 0 by unfold idx; decide)]
      have e : i = xs.length := by omega
      rw [e]; exact hend
    | succ d ih =>
      intro i hi
      have hlt : i < xs.length := by omega
      have e : xs.drop i = xs[i] :: xs.drop (i + 1) := List.drop_eq_getElem_cons hlt
      have hg : ∀ d, xs.getD i d = xs[i] := fun d => by simp [List.getD, List.getElem?_eq_getElem hlt]
      rw [e]
      unfold idx
      by_cases h : p xs[i] = true
      · rw [if_pos h, if_neg (by decide)]
        simpa using hyes i _ hlt hg h
      · refine hno i _ _ hlt hg (by simpa using h) (ev_eq (ih (i + 1) (by omega)) ?_)
        rw [if_neg h]
        by_cases h2 : idx p (xs.drop (i + 1)) < 0
        · rw [if_pos h2, if_pos h2, if_pos (by decide)]
        · rw [if_neg h2, if_neg h2, if_neg (by omega)]
          omega
  have := key xs.length 0 (by omega)
  simp only [List.drop_zero, Int.natCast_zero, Int.add_zero] at this
  refine ev_eq this ?_
  have := idx_ge p xs
  split <;> omega
theorem all_ev {α : Type} (xs : List α) (p : α → Bool) (L : Nat → Int → Option Bool) (hend : Ev (fun k => L k (xs.length : Nat)) true)
    (hno : ∀ (i : Nat) x, i < xs.length → (∀ d, xs.getD i d = x) → p x = false → Ev (fun k => L k i) false)
    (hyes : ∀ (i : Nat) x r, i < xs.length → (∀ d, xs.getD i d = x) → p x = true → Ev (fun k => L k ((i + 1 : Nat) : Int)) r → Ev (fun k => L k i) r) : Ev (fun k => L k 0) (xs.all p) := by
  refine loop_list (σ := Unit) xs (fun k _ i => L k i) (fun l _ => l.all p) (fun _ => hend) (fun i _ x rest hi hx ih => ?_) ()
  by_cases h : p x = true
  · exact hyes i x _ hi hx h (ev_eq (ih ()) (by simp [h]))
  · have h' : p x = false := by simpa using h
    exact ev_eq (hno i x hi hx h') (by simp [h'])
theorem rd_eq {xs : List Int} {i : Nat} {x : Int} (h : ∀ d, xs.getD i d = x) : rd xs i = x := by unfold rd; rw [Int.toNat_natCast]; exact h 0
theorem rdI_eq {xs : List S57} {i : Nat} {x : S57} (h : ∀ d, xs.getD i d = x) : rd_T57 xs i = x := by unfold rd_T57; rw [Int.toNat_natCast]; exact h _
theorem rdJ_eq {xs : List S54} {i : Nat} {x : S54} (h : ∀ d, xs.getD i d = x) : rd_T54 xs i = x := by unfold rd_T54; rw [Int.toNat_natCast]; exact h _
theorem getD_eq {α : Type} (xs : List α) (i : Nat) (h : i < xs.length) : ∀ d, xs.getD i d = xs[i] := fun d => by simp [List.getD, List.getElem?_eq_getElem h]
theorem set_fill {α : Type} (xs ys : List α) (z : α) (v : α) : (xs ++ List.replicate (ys.length + 1) z).set xs.length v = (xs ++ [v]) ++ List.replicate ys.length z := by
  rw [List.set_append_right _ _ (Nat.le_refl _)]
  simp [List.replicate_succ]
end Go.Proofs.Yteaablbhdmkcpaa.PL
end
section
namespace Go.Proofs.Yteaablbhdmkcpaa.Q
open Go.RowKit Go.Proofs.YteaablbhdmkcpaaW.PrintWords Go.Proofs.YteaablbhdmkcpaaW.PrintLast Go.Proofs.YteaablbhdmkcpaaW.PrintMore
attribute [local go_sem] max2_int min2_int max_two min_two max_three min_three max_four min_four
set_option linter.unusedVariables false
set_option linter.unusedSimpArgs false
end Go.Proofs.Yteaablbhdmkcpaa.Q
end
section
namespace Go.Proofs.Yteaablbhdmkcpaa.Q
open Go.RowKit Go.Proofs.YteaablbhdmkcpaaW.PrintWords Go.Proofs.YteaablbhdmkcpaaW.PrintLast Go.Proofs.YteaablbhdmkcpaaW.PrintMore
attribute [local go_sem] max2_int min2_int max_two min_two max_three min_three max_four min_four
set_option linter.unusedVariables false
set_option linter.unusedSimpArgs false
end Go.Proofs.Yteaablbhdmkcpaa.Q
end
section
namespace Go.Proofs.Yteaablbhdmkcpaa.PL
open Go Go.RowKit Go.Proofs.YteaablbhdmkcpaaW.PrintWords Go.Proofs.YteaablbhdmkcpaaW.PrintLast Go.Proofs.YteaablbhdmkcpaaW.PrintMore Go.Proofs.Yteaablbhdmkcpaa.Q
set_option linter.unusedSimpArgs false
set_option linter.unusedVariables false
abbrev Instr := S57
abbrev LInstr := S54
def cvI (x : LInstr) : Instr := ⟨x.f0, x.f1, x.f2, x.f3, x.f4⟩
theorem szInstr_eq (s : ByteArray) (a b c d r : Int) (hs : s.size ≤ maxLen) (h0 : 0 ≤ r) (h1 : r ≤ 1048576) : laws_szInstr.f s a b c d r = some (if r < s.size then -1 else r - s.size) := by
  unfold maxLen at hs
  unfold laws_szInstr.f
  rw [w64 (by omega) (by omega)]
  by_cases h : r < s.size
  · rw [if_pos (by omega), if_pos h]
  · rw [if_neg (by omega), if_neg h]
theorem szInstrS_ev (l : List LInstr) (a : Int) (hl : Rd.okSl good54 l) (h0 : 0 ≤ a) (h1 : a ≤ 1048576) :
    ∃ r, Ev (fun k => laws_szInstrS.f k l a) r ∧ (0 ≤ r → (l.length : Int) ≤ a ∧ (∀ x ∈ l, (x.f0.size : Int) ≤ a) ∧ r ≤ a) := by
  obtain ⟨hl1, hl2⟩ := hl
  unfold maxLen at hl1
  by_cases h : a < l.length
  · refine ⟨-1, ?_, fun h => absurd h (by decide)⟩
    unfold laws_szInstrS.f
    rw [w64 (by omega) (by omega)]
    simp only [show a - (l.length : Int) < 0 by omega, if_true]
    exact Ev.now _
  · have key : ∀ (d i : Nat) (r : Int), i + d = l.length → 0 ≤ r → r ≤ a → ∃ q, Ev (fun k => laws_szInstrS.l0 k l r i) q ∧ q ≤ a ∧ (0 ≤ q → ∀ x ∈ l.drop i, (x.f0.size : Int) ≤ a) := by
      intro d
      induction d with
      | zero =>
        intro i r hi hr _
        refine ⟨r, Ev.step (f := fun _ => some r) (fun k => ?_) (Ev.now _), by omega, fun _ x hx => ?_⟩
        · simp only [laws_szInstrS.l0]
          rw [if_neg (by omega)]
        · rw [List.drop_of_length_le (by omega)] at hx
          cases hx
      | succ d ih =>
        intro i r hi hr hra
        have hlt : i < l.length := by omega
        have e : l.drop i = l[i] :: l.drop (i + 1) := List.drop_eq_getElem_cons hlt
        have hx := rdJ_eq (getD_eq l i hlt)
        have hsz := (hl2 l[i] (List.getElem_mem hlt)).1
        by_cases hb : r < l[i].f0.size
        · refine ⟨-1, Ev.step (f := fun _ => some (-1)) (fun k => ?_) (Ev.now _), by omega, fun h => absurd h (by decide)⟩
          simp only [laws_szInstrS.l0]
          rw [if_pos (by omega), if_pos (by omega), hx, szInstr_eq _ _ _ _ _ _ hsz hr (by omega), if_pos hb]
          rfl
        · obtain ⟨q, hq, hqa, hq'⟩ := ih (i + 1) (r - l[i].f0.size) (by omega) (by omega) (by omega)
          refine ⟨q, Ev.step (f := fun k => laws_szInstrS.l0 k l (r - l[i].f0.size) ((i + 1 : Nat) : Int)) (fun k => ?_) hq, hqa, fun h x hx' => ?_⟩
          · simp only [laws_szInstrS.l0]
            rw [if_pos (by omega), if_pos (by omega), hx, szInstr_eq _ _ _ _ _ _ hsz hr (by omega), if_neg hb, Option.bind_some, if_neg (by omega), w64n i (by omega)]
          · rw [e] at hx'
            rcases List.mem_cons.1 hx' with rfl | hx'
            · omega
            · exact hq' h x hx'
    obtain ⟨q, hq, hqa, hq'⟩ := key l.length 0 (a - l.length) (by omega) (by omega) (by omega)
    refine ⟨q, ?_, fun h' => ⟨by omega, by simpa using hq' h', hqa⟩⟩
    unfold laws_szInstrS.f
    rw [w64 (by omega) (by omega)]
    simp only [show ¬ (a - (l.length : Int) < 0) by omega, if_false]
    simpa using hq
theorem toInstrS_ev (l : List LInstr) (hl : l.length ≤ 1048576) : Ev (fun k => laws_toInstrS.f k l) (l.map cvI) := by
  have key : ∀ (d i : Nat), i + d = l.length → Ev (fun k => laws_toInstrS.l0 k l ((l.take i).map cvI ++ List.replicate d z57) i) (l.map cvI) := by
    intro d
    induction d with
    | zero =>
      intro i hi
      refine Ev.step (f := fun _ => some _) (fun k => ?_) (Ev.now _)
      simp only [laws_toInstrS.l0]
      rw [if_neg (by omega), List.take_of_length_le (by omega)]
      simp
    | succ d ih =>
      intro i hi
      have hlt : i < l.length := by omega
      have hx := rdJ_eq (getD_eq l i hlt)
      refine Ev.step (fun k => ?_) (ih (i + 1) (by omega))
      simp only [laws_toInstrS.l0, laws_toInstr.f, Option.bind_some]
      rw [if_pos (by omega), if_pos (by omega), if_pos (by simp; omega), hx, w64n i (by omega)]
      congr 1
      have e : ((i : Int)).toNat = ((l.take i).map cvI).length := by simp; omega
      rw [e]
      have := set_fill ((l.take i).map cvI) (List.replicate d z57) z57 (cvI l[i])
      simp only [List.length_replicate] at this
      rw [show (⟨l[i].f0, l[i].f1, l[i].f2, l[i].f3, l[i].f4⟩ : Instr) = cvI l[i] from rfl, this]
      congr 1
      rw [List.take_succ_eq_append_getElem hlt, List.map_append]
      rfl
  unfold laws_toInstrS.f
  refine Ev.ifp (by omega) (Ev.ifp (by simp; omega) ?_)
  simpa using key l.length 0 (by omega)
theorem eqInstrS_refl (l : List Instr) (hl : l.length ≤ 1048576) : Ev (fun k => laws_eqInstrS.f k l l) true := by
  unfold laws_eqInstrS.f
  simp only [if_true]
  refine loop_list (σ := Unit) l (fun k _ i => laws_eqInstrS.l0 k l l i) (fun _ _ => true) (fun _ => ?_) (fun i _ x rest hi hx ih => ?_) ()
  · refine Ev.step (f := fun _ => some true) (fun k => ?_) (Ev.now _)
    simp only [laws_eqInstrS.l0]
    rw [if_neg (by omega)]
  · refine Ev.step (fun k => ?_) (ih ())
    simp only [laws_eqInstrS.l0, laws_eqInstr.f, reduceIte, Option.bind_some]
    rw [if_pos (by omega), if_pos (by omega), w64n i (by omega), if_pos (by omega)]
end Go.Proofs.Yteaablbhdmkcpaa.PL
end
section
namespace Go.Proofs.Yteaablbhdmkcpaa.PL
open Go Go.RowKit Go.Proofs.YteaablbhdmkcpaaW.PrintWords Go.Proofs.YteaablbhdmkcpaaW.PrintLast Go.Proofs.YteaablbhdmkcpaaW.PrintMore Go.Proofs.Yteaablbhdmkcpaa.Q
set_option linter.unusedSimpArgs false
set_option linter.unusedVariables false
abbrev zI : Instr := z57
theorem rdI_at (l : List Instr) (i : Nat) : rd_T57 l (i : Int) = l.getD i zI := by unfold rd_T57; rw [Int.toNat_natCast]
theorem rdI_take (l : List Instr) (i j : Nat) (h : j < i) : rd_T57 (l.take i) (j : Int) = l.getD j zI := by
  rw [rdI_at]
  simp only [List.getD, List.getElem?_take, if_pos h]
theorem rdN_mid (A B : List Int) (x : Int) (i : Nat) (h : A.length = i) : rd (A ++ x :: B) (i : Int) = x := by
  subst h
  refine rd_eq (fun d => ?_)
  simp [List.getD]
theorem setN_mid {α : Type} (A B : List α) (x y : α) (i : Nat) (h : A.length = i) : (A ++ x :: B).set ((i : Int)).toNat y = A ++ y :: B := by
  subst h
  rw [Int.toNat_natCast, List.set_append_right _ _ (Nat.le_refl _), Nat.sub_self]
  rfl
theorem setAt_mid {α : Type} (A B : List α) (x y : α) (i : Nat) (h : A.length = i) : (A ++ x :: B).set i y = A ++ y :: B := by
  subst h
  rw [List.set_append_right _ _ (Nat.le_refl _), Nat.sub_self]
  rfl
theorem rdW_mid (A B : List (List Int)) (x : List Int) (i : Nat) (h : A.length = i) : rd_L4 (A ++ x :: B) (i : Int) = x := by
  subst h
  unfold rd_L4
  rw [Int.toNat_natCast]
  simp [List.getD]
theorem okAt {P : Instr → Prop} (l : List Instr) (i : Nat) (h : i < l.length) (ok : ∀ x ∈ l, P x) : P (l.getD i zI) := by
  rw [getD_eq l i h]
  exact ok _ (List.getElem_mem h)
end Go.Proofs.Yteaablbhdmkcpaa.PL
end
section
namespace Go.Proofs.Yteaablbhdmkcpaa.PL
open Go Go.RowKit Go.Proofs.YteaablbhdmkcpaaW.PrintWords Go.Proofs.YteaablbhdmkcpaaW.PrintLast Go.Proofs.YteaablbhdmkcpaaW.PrintMore Go.Proofs.Yteaablbhdmkcpaa.Q
set_option linter.unusedSimpArgs false
set_option linter.unusedVariables false
def shapeC (c : Nat) : Bool × Bool × Bool × Int × Int :=
  match c with
  | 0 => (true, false, false, 0, 63)
  | 1 => (true, true, false, 0, 0)
  | 2 => (true, true, true, 0, 0)
  | 3 => (true, true, true, 0, 0)
  | 4 => (true, true, true, 0, 0)
  | 5 => (true, true, false, 0, 63)
  | 6 => (true, true, false, 1, 5)
  | 7 => (true, true, true, 1, 3)
  | _ => (false, false, false, 0, 0)
theorem shape_closed : ∀ p ∈ ops, spec_cdShape.f 20 p.1 = some (shapeC p.2) := by decide +kernel
theorem formOf_eq (s : ByteArray) : impl_formOf.f s = some (formC (cls s) s) := rfl
theorem shape_ev (s : ByteArray) : Ev (fun k => spec_cdShape.f k s) (shapeC (cls s)) := by
  refine op_cases (P := fun s => Ev (fun k => spec_cdShape.f k s) (shapeC (cls s))) s (fun p hp => ?_) (fun h => ?_)
  · rw [cls_op p hp]
    exact Ev.of (spec_cdShape.mono _) (shape_closed p hp)
  · rw [cls_none h]
    obtain ⟨h0, h1, h2, h3, h4, h5, h6, h7, h8, h9, h10, h11, h12, h13, h14, h15, h16, h17, h18, h19⟩ := not_ops h
    refine Ev.of (spec_cdShape.mono _) (k := 5) ?_
    simp only [spec_cdShape.f, spec_cdShape.j0, spec_cdShape.j1, spec_cdShape.j2, spec_cdShape.j3, h0, h1, h2, h3, h4, h5, h6, h7, h8, h9, h10, h11, h12, h13, h14, h15, h16, h17, h18, h19, if_false, beq_iff_eq]
    rfl
theorem l1In_eq (a b c : Int) : spec_l1In.f a b c = some (decide (b ≤ a ∧ a ≤ c)) := by
  unfold spec_l1In.f
  by_cases h : a ≥ b
  · rw [if_pos h]; congr 1; rw [decide_eq_decide]; omega
  · rw [if_neg h]; congr 1; symm; rw [decide_eq_false_iff_not]; omega
theorem cdReg_eq (a : Int) : spec_cdReg.f a = some (decide (0 ≤ a ∧ a ≤ 5)) := by
  unfold spec_cdReg.f
  rw [l1In_eq]; rfl
def okI (x : Instr) : Prop := cls x.f0 ≠ 8 ∧ (0 ≤ x.f1 ∧ x.f1 ≤ 5) ∧ ((shapeC (cls x.f0)).2.1 = true ∧ 0 ≤ x.f2 ∧ x.f2 ≤ 5 ∨ x.f2 = 0) ∧ ((shapeC (cls x.f0)).2.2.1 = true ∧ 0 ≤ x.f3 ∧ x.f3 ≤ 5 ∨ x.f3 = 0) ∧ (shapeC (cls x.f0)).2.2.2.1 ≤ x.f4 ∧ x.f4 ≤ (shapeC (cls x.f0)).2.2.2.2
instance (x : Instr) : Decidable (okI x) := by unfold okI; infer_instance
theorem cls_le (s : ByteArray) : cls s ≤ 8 := by
  refine op_cases (P := fun s => cls s ≤ 8) s (by decide +kernel) (fun h => by rw [cls_none h]; exact Nat.le_refl _)
theorem cls_cases (s : ByteArray) : cls s = 0 ∨ cls s = 1 ∨ cls s = 2 ∨ cls s = 3 ∨ cls s = 4 ∨ cls s = 5 ∨ cls s = 6 ∨ cls s = 7 ∨ cls s = 8 := by have := cls_le s; omega
theorem isInstr_eq (x : Instr) : impl_IsInstr.f x.f0 x.f1 x.f2 x.f3 x.f4 = some (decide (okI x)) := by
  unfold impl_IsInstr.f
  congr 1
  obtain ⟨s, d, a, b, m⟩ := x
  simp only [okI]
  rw [Bool.eq_iff_iff]
  simp only [okF, Bool.and_eq_true, Bool.or_eq_true, decide_eq_true_eq, Bool.not_eq_true', decide_eq_false_iff_not]
  rcases cls_cases s with h | h | h | h | h | h | h | h | h <;> simp only [h, formC, shapeC] <;> simp <;> omega
theorem cdGood_ev (x : Instr) : Ev (fun k => spec_cdGood.f k x.f0 x.f1 x.f2 x.f3 x.f4) (decide (okI x)) := by
  unfold spec_cdGood.f
  refine Ev.bind (shape_ev x.f0) (Ev.const ?_)
  obtain ⟨s, d, a, b, m⟩ := x
  simp only [l1In_eq, cdReg_eq, Option.bind_some, okI]
  rcases cls_cases s with h | h | h | h | h | h | h | h | h <;> simp only [h, shapeC] <;> by_cases h1 : 0 ≤ d ∧ d ≤ 5 <;> by_cases h2 : 0 ≤ a ∧ a ≤ 5 <;> by_cases h3 : 0 ≤ b ∧ b ≤ 5 <;> (try simp [h1, h2, h3]) <;> (repeat' split) <;> (try (rw [Bool.eq_iff_iff]; simp only [Bool.and_eq_true, decide_eq_true_eq, beq_iff_eq, true_iff, false_iff, Bool.false_eq_true, iff_false, iff_true])) <;> (try simp only [Option.some.injEq]) <;> (try (rw [Bool.eq_iff_iff]; simp only [Bool.and_eq_true, decide_eq_true_eq, beq_iff_eq, true_iff, false_iff, Bool.false_eq_true, iff_false, iff_true])) <;> (try omega)
end Go.Proofs.Yteaablbhdmkcpaa.PL
end
section
namespace Go.Proofs.Yteaablbhdmkcpaa.PL
open Go Go.RowKit Go.Proofs.YteaablbhdmkcpaaW.PrintWords Go.Proofs.YteaablbhdmkcpaaW.PrintLast Go.Proofs.YteaablbhdmkcpaaW.PrintMore Go.Proofs.Yteaablbhdmkcpaa.Q
set_option linter.unusedSimpArgs false
set_option linter.unusedVariables false
def costC (c : Nat) : Int := match c with | 3 => 2 | 4 => 4 | 8 => 0 | _ => 1
theorem cdCost_closed : ∀ p ∈ ops, spec_cdCost.f p.1 = some (costC p.2) := by decide +kernel
theorem formC_cost (c : Nat) (s : ByteArray) (hc : c ≤ 8) : (formC c s).2.2.2.2.1 = costC c := by
  rcases (show c = 0 ∨ c = 1 ∨ c = 2 ∨ c = 3 ∨ c = 4 ∨ c = 5 ∨ c = 6 ∨ c = 7 ∨ c = 8 by omega) with h | h | h | h | h | h | h | h | h <;> subst h <;> rfl
theorem cost_eq (x : Instr) : impl_Instr_cost.f x.f0 x.f1 x.f2 x.f3 x.f4 = some (costC (cls x.f0)) := by
  unfold impl_Instr_cost.f
  rw [formOf_eq, Option.bind_some, formC_cost _ _ (cls_le _)]
theorem cdCost_eq (s : ByteArray) (h : cls s ≠ 8) : spec_cdCost.f s = some (costC (cls s)) := by
  refine op_cases (P := fun s => cls s ≠ 8 → spec_cdCost.f s = some (costC (cls s))) s (fun p hp _ => ?_) (fun hn h => absurd (cls_none hn) h) h
  rw [cdCost_closed p hp, cls_op p hp]
end Go.Proofs.Yteaablbhdmkcpaa.PL
end
section
namespace Go.Proofs.Yteaablbhdmkcpaa.PL
open Go Go.RowKit Go.Proofs.YteaablbhdmkcpaaW.PrintWords Go.Proofs.YteaablbhdmkcpaaW.PrintLast Go.Proofs.YteaablbhdmkcpaaW.PrintMore Go.Proofs.Yteaablbhdmkcpaa.Q
set_option linter.unusedSimpArgs false
set_option linter.unusedVariables false
theorem formU1 (c : Nat) (s : ByteArray) (h : c ≤ 8) : (formC c s).1 = (shapeC c).2.1 := by
  rcases (show c = 0 ∨ c = 1 ∨ c = 2 ∨ c = 3 ∨ c = 4 ∨ c = 5 ∨ c = 6 ∨ c = 7 ∨ c = 8 by omega) with h | h | h | h | h | h | h | h | h <;> subst h <;> rfl
theorem formU2 (c : Nat) (s : ByteArray) (h : c ≤ 8) : (formC c s).2.1 = (shapeC c).2.2.1 := by
  rcases (show c = 0 ∨ c = 1 ∨ c = 2 ∨ c = 3 ∨ c = 4 ∨ c = 5 ∨ c = 6 ∨ c = 7 ∨ c = 8 by omega) with h | h | h | h | h | h | h | h | h <;> subst h <;> rfl
def two (a b : Int) : List Int := if a < b then [a, b] else if a = b then [a] else [b, a]
def readsM (x : Instr) : List Int :=
  if (shapeC (cls x.f0)).2.1 = true then (if (shapeC (cls x.f0)).2.2.1 = true then two x.f2 x.f3 else [x.f2]) else (if (shapeC (cls x.f0)).2.2.1 = true then [x.f3] else [])
theorem readsM_len (x : Instr) : (readsM x).length ≤ 2 := by
  unfold readsM two
  repeat' split
  all_goals simp
theorem ms_nil : ([] : List Int).mergeSort (fun x y => decide (x ≤ y)) = [] := by simp
theorem ms_one (a : Int) : [a].mergeSort (fun x y => decide (x ≤ y)) = [a] := by simp
theorem ms_two (a b : Int) : [a, b].mergeSort (fun x y => decide (x ≤ y)) = if a ≤ b then [a, b] else [b, a] := by
  by_cases h : a ≤ b
  · rw [if_pos h]
    exact List.mergeSort_of_pairwise (by simp [h])
  · rw [if_neg h]
    have p : [a, b].mergeSort (fun x y => decide (x ≤ y)) |>.Perm [b, a] := (List.mergeSort_perm _ _).trans (List.Perm.swap _ _ _)
    have s := List.pairwise_mergeSort (le := fun x y : Int => decide (x ≤ y)) (fun a b c h1 h2 => by simp at *; omega) (fun a b => by simp; omega) [a, b]
    refine List.Perm.eq_of_pairwise (le := fun x y : Int => decide (x ≤ y) = true) (fun a b _ _ h1 h2 => by simp at *; omega) s ?_ p
    simp; omega
theorem lc_nil : Go.Lib.compact ([] : List Int) = [] := rfl
theorem lc_one (a : Int) : Go.Lib.compact [a] = [a] := rfl
theorem lc_two (a b : Int) : Go.Lib.compact [a, b] = if b = a then [a] else [a, b] := by
  show (([0, 1] : List Nat).filter (Go.Lib.keeps #[a, b])).map (#[a, b][·]!) = _
  by_cases h : b = a
  · simp [Go.Lib.keeps, h]
  · simp [Go.Lib.keeps, h]
def twoL : List Int → List Int
  | [a, b] => two a b
  | l => l
theorem sortCompact (l : List Int) (h : l.length ≤ 2) : ∃ m, slices_Sort_int_int.f l = some m ∧ slices_Compact_int_int.f m = some (twoL l) := by
  match l, h with
  | [], _ => exact ⟨[], by unfold slices_Sort_int_int.f; rw [if_pos (by decide), ms_nil], by unfold slices_Compact_int_int.f; rw [if_pos (by decide), lc_nil]; rfl⟩
  | [a], _ => exact ⟨[a], by unfold slices_Sort_int_int.f; rw [if_pos (by simp), ms_one], by unfold slices_Compact_int_int.f; rw [if_pos (by simp), lc_one]; rfl⟩
  | [a, b], _ =>
    refine ⟨_, by unfold slices_Sort_int_int.f; rw [if_pos (by simp)], ?_⟩
    show slices_Compact_int_int.f _ = some (two a b)
    rw [ms_two]
    unfold slices_Compact_int_int.f two
    by_cases h : a ≤ b
    · rw [if_pos h, if_pos (by simp), lc_two]
      by_cases e : a = b
      · rw [if_pos e.symm, if_neg (by omega), if_pos e]
      · rw [if_neg (fun q => e q.symm), if_pos (by omega)]
    · rw [if_neg h, if_pos (by simp), lc_two, if_neg (by omega), if_neg (by omega), if_neg (by omega)]
theorem reads_ev (x : Instr) : Ev (fun k => impl_Instr_reads.f k x.f0 x.f1 x.f2 x.f3 x.f4) (readsM x) := by
  unfold impl_Instr_reads.f
  refine Ev.call (formOf_eq x.f0) (Ev.call rfl ?_)
  have c8 := cls_le x.f0
  rw [formU1 _ _ c8, formU2 _ _ c8]
  unfold readsM
  have fin : ∀ (l : List Int), l.length ≤ 2 → Ev (fun _ => (slices_Sort_int_int.f l).bind fun t => (slices_Compact_int_int.f t).bind fun t' => some t') (twoL l) := fun l hl => by
    obtain ⟨m, h1, h2⟩ := sortCompact l hl
    exact Ev.call h1 (Ev.call h2 (Ev.now _))
  by_cases ha : (shapeC (cls x.f0)).2.1 = true
  · refine Ev.ifp ha (Ev.ifp (by simp) (Ev.step (fun k => by simp only [impl_Instr_reads.j0]; rfl) ?_))
    by_cases hb : (shapeC (cls x.f0)).2.2.1 = true
    · refine Ev.ifp hb (Ev.ifp (by simp) ?_)
      rw [if_pos ha, if_pos hb]
      exact fin [x.f2, x.f3] (by simp)
    · refine Ev.ifn hb ?_
      rw [if_pos ha, if_neg hb]
      exact fin [x.f2] (by simp)
  · refine Ev.ifn ha (Ev.step (fun k => by simp only [impl_Instr_reads.j0]; rfl) ?_)
    by_cases hb : (shapeC (cls x.f0)).2.2.1 = true
    · refine Ev.ifp hb (Ev.ifp (by simp) ?_)
      rw [if_neg ha, if_pos hb]
      exact fin [x.f3] (by simp)
    · refine Ev.ifn hb ?_
      rw [if_neg ha, if_neg hb]
      exact fin [] (by simp)
theorem put_nil (n : Int) : Ev (fun k => spec_l1Put.f k [] n) [n] := by
  unfold spec_l1Put.f
  refine Ev.step (f := fun _ => some [n]) (fun k => ?_) (Ev.now _)
  simp only [spec_l1Put.l0]
  rw [if_neg (by simp)]
  rfl
theorem put_one (a n : Int) : Ev (fun k => spec_l1Put.f k [a] n) (two a n) := by
  unfold spec_l1Put.f two
  refine Ev.step (fun k => by simp only [spec_l1Put.l0, show rd [a] 0 = a from rfl]; rfl) (Ev.ifp (by simp) (Ev.ifp (by decide) ?_))
  by_cases h : a < n
  · rw [if_pos h]
    refine Ev.ifp h (Ev.step (f := fun _ => some [a, n]) (fun k => ?_) (Ev.now _))
    rw [show wrap64 (0 + 1) = 1 from by unfold wrap64; omega]
    simp only [spec_l1Put.l0]
    rw [if_neg (by simp)]
    rfl
  · refine Ev.ifn h ?_
    rw [if_neg h]
    by_cases e : a = n
    · refine Ev.ifp e ?_
      rw [if_pos e]
      exact Ev.now _
    · refine Ev.ifn e ?_
      rw [if_neg e]
      exact Ev.const rfl
theorem cdReads_ev (x : Instr) : Ev (fun k => spec_cdReads.f k x.f0 x.f1 x.f2 x.f3 x.f4) (readsM x) := by
  unfold spec_cdReads.f readsM
  refine Ev.bind (shape_ev x.f0) ?_
  by_cases ha : (shapeC (cls x.f0)).2.1 = true
  · refine Ev.ifp ha (Ev.bind (put_nil x.f2) ?_)
    by_cases hb : (shapeC (cls x.f0)).2.2.1 = true
    · refine Ev.ifp hb (Ev.bind (put_one x.f2 x.f3) ?_)
      rw [if_pos ha, if_pos hb]
      exact Ev.now _
    · refine Ev.ifn hb ?_
      rw [if_pos ha, if_neg hb]
      exact Ev.now _
  · refine Ev.ifn ha ?_
    by_cases hb : (shapeC (cls x.f0)).2.2.1 = true
    · refine Ev.ifp hb (Ev.bind (put_nil x.f3) ?_)
      rw [if_neg ha, if_pos hb]
      exact Ev.now _
    · refine Ev.ifn hb ?_
      rw [if_neg ha, if_neg hb]
      exact Ev.now _
theorem contains_ev (l : List Int) (n : Int) (hl : l.length ≤ 1048576) : Ev (fun k => slices_Contains_int_int.f k l n) (decide (n ∈ l)) := by
  have hs : Ev (fun k => slices_Index_int_int.f k l n) (idx (fun x => decide (n = x)) l) := by
    unfold slices_Index_int_int.f
    refine search_ev l _ (fun k i => slices_Index_int_int.l0 k l n l.length i) ?_ (fun i x hi hx hp => ?_) (fun i x r hi hx hp hr => ?_)
    · refine Ev.step (f := fun _ => some (-1)) (fun k => ?_) (Ev.now _)
      simp only [slices_Index_int_int.l0]
      rw [if_neg (by omega)]
    · exact Ev.step (fun k => by simp only [slices_Index_int_int.l0, rd_eq hx]; rfl) (Ev.ifp (by omega) (Ev.ifp (by omega) (Ev.ifp (by omega) (Ev.ifp (of_decide_eq_true hp) (Ev.now _)))))
    · refine Ev.step (fun k => by simp only [slices_Index_int_int.l0, rd_eq hx]; rfl) (Ev.ifp (by omega) (Ev.ifp (by omega) (Ev.ifp (by omega) (Ev.ifn (of_decide_eq_false hp) ?_))))
      rw [w64n i (by omega)]
      exact hr
  unfold slices_Contains_int_int.f
  refine Ev.bind hs (Ev.some ?_)
  have e := idx_nonneg (fun x => decide (n = x)) l
  rw [decide_eq_decide]
  constructor
  · intro h
    obtain ⟨x, hx, hx'⟩ := e.1 h
    rw [of_decide_eq_true hx']
    exact hx
  · exact fun h => e.2 ⟨n, h, decide_eq_true rfl⟩
theorem has_ev (l : List Int) (n : Int) (hl : l.length ≤ 1048576) : Ev (fun k => spec_l1Has.f k l n) (decide (n ∈ l)) := by
  unfold spec_l1Has.f
  refine loop_list (σ := Unit) l (fun k _ i => spec_l1Has.l0 k n l l.length i) (fun rest _ => decide (n ∈ rest)) (fun _ => ?_) (fun i _ x rest hi hx ih => ?_) ()
  · refine Ev.step (f := fun _ => some false) (fun k => ?_) (Ev.some (by simp))
    simp only [spec_l1Has.l0]
    rw [if_neg (by omega)]
  · refine Ev.step (fun k => by simp only [spec_l1Has.l0, rd_eq hx]; rfl) (Ev.ifp (by omega) (Ev.ifp (by omega) (Ev.ifp (by omega) ?_)))
    by_cases h : x = n
    · exact Ev.ifp h (Ev.some (by simp [h]))
    · refine Ev.ifn h ?_
      rw [w64n i (by omega)]
      refine ev_eq (ih ()) ?_
      rw [decide_eq_decide, List.mem_cons]
      exact ⟨.inr, fun q => q.elim (fun e => absurd e.symm h) id⟩
end Go.Proofs.Yteaablbhdmkcpaa.PL
end
section
namespace Go.Proofs.Yteaablbhdmkcpaa.PL
open Go Go.RowKit Go.Proofs.YteaablbhdmkcpaaW.PrintWords Go.Proofs.YteaablbhdmkcpaaW.PrintLast Go.Proofs.YteaablbhdmkcpaaW.PrintMore Go.Proofs.Yteaablbhdmkcpaa.Q
set_option linter.unusedSimpArgs false
set_option linter.unusedVariables false
def overB (l : List Instr) (j i : Nat) : Bool := ((l.take i).drop (j + 1)).any fun z => decide (z.f1 = (l.getD j zI).f1)
def dlyB (x y : Instr) (over : Bool) : Int :=
  if x.f1 ∈ readsM y ∧ over = false then max (if x.f1 = y.f1 then 1 else if y.f1 ∈ readsM x then 0 else -1) (costC (cls x.f0)) else if x.f1 = y.f1 then 1 else if y.f1 ∈ readsM x then 0 else -1
def dly (l : List Instr) (j i : Nat) : Int := dlyB (l.getD j zI) (l.getD i zI) (overB l j i)
def rowI (l : List Instr) (i m : Nat) : List Int := (List.range m).map fun j => dly l j i
theorem rowI_succ (l : List Instr) (i m : Nat) : rowI l i (m + 1) = rowI l i m ++ [dly l m i] := by simp [rowI, List.range_succ]
theorem rowI_len (l : List Instr) (i m : Nat) : (rowI l i m).length = m := by simp [rowI]
def tabI (l : List Instr) (m : Nat) : List (List Int) := (List.range m).map fun i => rowI l i i
theorem tabI_succ (l : List Instr) (m : Nat) : tabI l (m + 1) = tabI l m ++ [rowI l m m] := by simp [tabI, List.range_succ]
theorem tabI_len (l : List Instr) (m : Nat) : (tabI l m).length = m := by simp [tabI]
theorem mx_eq (a b : Int) : mx a b = max a b := by unfold mx; omega
theorem over_ev (l : List Instr) (hl : l.length ≤ 1048576) (x : Instr) : Ev (fun k => slices_ContainsFunc_impl_delays_1.f k l [x]) (l.any fun z => decide (z.f1 = x.f1)) := by
  have hs : Ev (fun k => slices_IndexFunc_impl_delays_1.f k l [x]) (idx (fun z => decide (z.f1 = x.f1)) l) := by
    unfold slices_IndexFunc_impl_delays_1.f
    refine search_ev l _ (fun k i => slices_IndexFunc_impl_delays_1.l0 k l l.length i [x]) ?_ (fun i z hi hx hp => ?_) (fun i z r hi hx hp hr => ?_)
    · refine Ev.step (f := fun _ => some (-1)) (fun k => ?_) (Ev.now _)
      simp only [slices_IndexFunc_impl_delays_1.l0]
      rw [if_neg (by omega)]
    · have hc : impl_delays_1.f z.f0 z.f1 z.f2 z.f3 z.f4 [x] = some (z.f1 == x.f1) := by unfold impl_delays_1.f; rw [if_pos (by simp)]; rfl
      exact Ev.step (fun k => by simp only [slices_IndexFunc_impl_delays_1.l0, rdI_eq hx, hc, Option.bind_some]; rfl) (Ev.ifp (by omega) (Ev.ifp (by omega) (Ev.ifp (by omega) (Ev.ifp (by simpa using hp) (Ev.now _)))))
    · have hc : impl_delays_1.f z.f0 z.f1 z.f2 z.f3 z.f4 [x] = some (z.f1 == x.f1) := by unfold impl_delays_1.f; rw [if_pos (by simp)]; rfl
      refine Ev.step (fun k => by simp only [slices_IndexFunc_impl_delays_1.l0, rdI_eq hx, hc, Option.bind_some]; rfl) (Ev.ifp (by omega) (Ev.ifp (by omega) (Ev.ifp (by omega) (Ev.ifn (by simpa using hp) ?_))))
      rw [w64n i (by omega)]
      exact hr
  unfold slices_ContainsFunc_impl_delays_1.f
  refine Ev.bind hs (Ev.some ?_)
  have e := idx_nonneg (fun z => decide (z.f1 = x.f1)) l
  cases h : l.any fun z => decide (z.f1 = x.f1) with
  | true =>
    obtain ⟨z, hz, hz'⟩ := List.any_eq_true.1 h
    exact decide_eq_true (e.2 ⟨z, hz, hz'⟩)
  | false =>
    refine decide_eq_false (fun q => ?_)
    obtain ⟨z, hz, hz'⟩ := e.1 q
    have := List.any_eq_false.1 h z hz
    exact this hz'
theorem repeat_eq (i : Nat) (h : i ≤ 1048576) : slices_Repeat_int_int.f [(-1)] (i : Int) = some (List.replicate i (-1)) := by
  unfold slices_Repeat_int_int.f
  rw [if_pos ⟨by simp, by omega, by omega⟩, Int.toNat_natCast]
  rfl
section
variable (l : List Instr) (hl : l.length ≤ 1048576) (A B : List (List Int)) (i j : Nat) (hA : A.length = i) (hj : j < i) (hi : i < l.length)
include hl hA hj hi
theorem implJ3_ev (P Q : List Int) (t : Int) (hP : P.length = j) (T : List (List Int))
    (hc : Ev (fun k => impl_delays.l1 k l (A ++ (P ++ (if (l.getD j zI).f1 ∈ readsM (l.getD i zI) ∧ overB l j i = false then max t (costC (cls (l.getD j zI).f0)) else t) :: Q) :: B) i l l.length i (l.take i) i ((j + 1 : Nat) : Int) (l.getD i zI).f0 (l.getD i zI).f1 (l.getD i zI).f2 (l.getD i zI).f3 (l.getD i zI).f4) T) :
    Ev (fun k => impl_delays.j3 k l (A ++ (P ++ t :: Q) :: B) i j l l.length i (l.take i) i j (l.getD i zI).f0 (l.getD i zI).f1 (l.getD i zI).f2 (l.getD i zI).f3 (l.getD i zI).f4 (l.getD j zI).f0 (l.getD j zI).f1 (l.getD j zI).f2 (l.getD j zI).f3 (l.getD j zI).f4) T := by
  refine Ev.step (fun k => by simp only [impl_delays.j3]; rfl) ?_
  rw [w64n j (by omega)]
  refine Ev.ifp (by omega) (Ev.ifp (by omega) (Ev.ifp (by omega) ?_))
  rw [Int.toNat_natCast, Int.toNat_natCast]
  have ho := over_ev ((l.take i).drop (j + 1)) (by simp only [List.length_drop, List.length_take]; omega) (l.getD j zI)
  refine Ev.bind ho (Ev.bind (reads_ev (l.getD i zI)) (Ev.bind (contains_ev _ _ (Nat.le_trans (readsM_len _) (by decide))) ?_))
  by_cases hr : (l.getD j zI).f1 ∈ readsM (l.getD i zI)
  · refine Ev.ifp (decide_eq_true hr) ?_
    cases ho' : overB l j i with
    | true =>
      rw [if_neg (fun q => by rw [ho'] at q; exact absurd q.2 (by decide))] at hc
      exact Ev.ifp ho' hc
    | false =>
      rw [if_pos ⟨hr, ho'⟩] at hc
      refine Ev.ifn (fun q => by rw [show overB l j i = true from q] at ho'; cases ho') ?_
      rw [rdW_mid A B _ i hA]
      refine Ev.ifp (by omega) (Ev.ifp (by rw [List.length_append, List.length_cons]; omega) (Ev.ifp (by omega) (Ev.ifp (by rw [List.length_append, List.length_cons]; omega) ?_)))
      refine Ev.call (cost_eq (l.getD j zI)) ?_
      rw [rdN_mid P Q t j hP, setN_mid P Q t _ j hP, setAt_mid A B _ _ i hA, mx_eq]
      exact hc
  · rw [if_neg (fun q => hr q.1)] at hc
    exact Ev.ifn (fun q => hr (of_decide_eq_true q)) hc
theorem implJ2_ev (P Q : List Int) (t : Int) (hP : P.length = j) (T : List (List Int)) (ht : t = if (l.getD i zI).f1 ∈ readsM (l.getD j zI) then 0 else -1)
    (hc : Ev (fun k => impl_delays.l1 k l (A ++ (P ++ dly l j i :: Q) :: B) i l l.length i (l.take i) i ((j + 1 : Nat) : Int) (l.getD i zI).f0 (l.getD i zI).f1 (l.getD i zI).f2 (l.getD i zI).f3 (l.getD i zI).f4) T) :
    Ev (fun k => impl_delays.j2 k l (A ++ (P ++ t :: Q) :: B) i j l l.length i (l.take i) i j (l.getD i zI).f0 (l.getD i zI).f1 (l.getD i zI).f2 (l.getD i zI).f3 (l.getD i zI).f4 (l.getD j zI).f0 (l.getD j zI).f1 (l.getD j zI).f2 (l.getD j zI).f3 (l.getD j zI).f4) T := by
  refine Ev.step (fun k => by simp only [impl_delays.j2]; rfl) ?_
  unfold dly dlyB at hc
  by_cases h : (l.getD j zI).f1 = (l.getD i zI).f1
  · rw [if_pos h] at hc
    refine Ev.ifp h ?_
    rw [rdW_mid A B _ i hA]
    refine Ev.ifp (by omega) (Ev.ifp (by rw [List.length_append, List.length_cons]; omega) (Ev.ifp (by omega) (Ev.ifp (by rw [List.length_append, List.length_cons]; omega) ?_)))
    rw [setN_mid P Q t _ j hP, setN_mid A B _ _ i hA]
    exact implJ3_ev l hl A B i j hA hj hi P Q 1 hP T hc
  · rw [if_neg h, ← ht] at hc
    exact Ev.ifn h (implJ3_ev l hl A B i j hA hj hi P Q t hP T hc)
theorem implL1_one (P Q : List Int) (hP : P.length = j) (T : List (List Int))
    (hc : Ev (fun k => impl_delays.l1 k l (A ++ (P ++ dly l j i :: Q) :: B) i l l.length i (l.take i) i ((j + 1 : Nat) : Int) (l.getD i zI).f0 (l.getD i zI).f1 (l.getD i zI).f2 (l.getD i zI).f3 (l.getD i zI).f4) T) :
    Ev (fun k => impl_delays.l1 k l (A ++ (P ++ (-1) :: Q) :: B) i l l.length i (l.take i) i j (l.getD i zI).f0 (l.getD i zI).f1 (l.getD i zI).f2 (l.getD i zI).f3 (l.getD i zI).f4) T := by
  have hti : (l.take i).length = i := by rw [List.length_take]; omega
  refine Ev.step (fun k => by simp only [impl_delays.l1]; rfl) (Ev.ifp (by omega) (Ev.ifp (by omega) (Ev.ifp (by omega) ?_)))
  rw [rdI_take l i j hj]
  refine Ev.bind (reads_ev (l.getD j zI)) (Ev.bind (contains_ev _ _ (Nat.le_trans (readsM_len _) (by decide))) ?_)
  by_cases hr : (l.getD i zI).f1 ∈ readsM (l.getD j zI)
  · refine Ev.ifp (decide_eq_true hr) ?_
    rw [rdW_mid A B _ i hA]
    refine Ev.ifp (by omega) (Ev.ifp (by rw [List.length_append, List.length_cons]; omega) (Ev.ifp (by rw [List.length_append, List.length_cons]; omega) ?_))
    rw [setN_mid P Q _ _ j hP, setN_mid A B _ _ i hA]
    exact implJ2_ev l hl A B i j hA hj hi P Q 0 hP T (by rw [if_pos hr]) hc
  · exact Ev.ifn (fun q => hr (of_decide_eq_true q)) (implJ2_ev l hl A B i j hA hj hi P Q (-1) hP T (by rw [if_neg hr]) hc)
end
theorem implRow_ev (l : List Instr) (hl : l.length ≤ 1048576) (A B : List (List Int)) (i : Nat) (hA : A.length = i) (hi : i < l.length) (T : List (List Int))
    (hc : Ev (fun k => impl_delays.l0 k l (A ++ rowI l i i :: B) l l.length (wrap64 ((i : Int) + 1))) T) :
    ∀ (d j : Nat), j + d = i → Ev (fun k => impl_delays.l1 k l (A ++ (rowI l i j ++ List.replicate d (-1)) :: B) i l l.length i (l.take i) i j (l.getD i zI).f0 (l.getD i zI).f1 (l.getD i zI).f2 (l.getD i zI).f3 (l.getD i zI).f4) T := by
  intro d
  induction d with
  | zero =>
    intro j hj
    obtain rfl : j = i := by omega
    rw [List.replicate_zero, List.append_nil]
    exact Ev.step (fun k => by simp only [impl_delays.l1]; rfl) (Ev.ifn (by omega) hc)
  | succ d ih =>
    intro j hj
    rw [List.replicate_succ]
    refine implL1_one l hl A B i j hA (by omega) hi (rowI l i j) (List.replicate d (-1)) (rowI_len l i j) T ?_
    have := ih (j + 1) (by omega)
    rw [rowI_succ, List.append_assoc, List.singleton_append] at this
    exact this
theorem delays_ev (l : List Instr) (hl : l.length ≤ 1048576) : Ev (fun k => impl_delays.f k l) (tabI l l.length) := by
  have key : ∀ (d i : Nat), i + d = l.length → Ev (fun k => impl_delays.l0 k l (tabI l i ++ List.replicate d []) l l.length i) (tabI l l.length) := by
    intro d
    induction d with
    | zero =>
      intro i hi
      obtain rfl : i = l.length := by omega
      rw [List.replicate_zero, List.append_nil]
      refine Ev.step (f := fun _ => some (tabI l l.length)) (fun k => ?_) (Ev.now _)
      simp only [impl_delays.l0]
      rw [if_neg (by omega)]
    | succ d ih =>
      intro i hi
      have hti : (l.take i).length = i := by rw [List.length_take]; omega
      rw [List.replicate_succ]
      refine Ev.step (fun k => by simp only [impl_delays.l0]; rfl) (Ev.ifp (by omega) (Ev.ifp (by omega) (Ev.ifp (by omega) (Ev.call (repeat_eq i (by omega)) ?_))))
      refine Ev.ifp (by rw [List.length_append, List.length_cons, tabI_len]; omega) (Ev.ifp (by omega) (Ev.call rfl ?_))
      rw [setN_mid (tabI l i) _ _ _ i (tabI_len l i), Int.toNat_natCast, hti, rdI_at]
      refine implRow_ev l hl (tabI l i) (List.replicate d []) i (tabI_len l i) (by omega) _ ?_ i 0 (by omega)
      rw [w64n i (by omega)]
      have := ih (i + 1) (by omega)
      rw [tabI_succ, List.append_assoc, List.singleton_append] at this
      exact this
  unfold impl_delays.f
  refine Ev.ifp (by omega) (Ev.ifp (by rw [Int.toNat_natCast]; omega) ?_)
  rw [Int.toNat_natCast]
  have := key l.length 0 (by omega)
  simpa [tabI] using this
theorem orDelay_ev (l : List Instr) (hl : l.length ≤ 1048576) (ok : ∀ x ∈ l, okI x) (i j : Nat) (hij : i < j) (hj : j < l.length) : Ev (fun k => spec_orDelay.f k l (i : Int) (j : Int)) (dly l i j) := by
  have hx := okAt (P := okI) l i (by omega) ok
  have last : ∀ (t : Int) (d p : Nat) (v : Int), p + d = j → i < p → (v = i ∨ (i : Int) < v) →
      Ev (fun k => spec_orDelay.l0 k l i j t v p (l.getD i zI).f0 (l.getD i zI).f1 (l.getD i zI).f2 (l.getD i zI).f3 (l.getD i zI).f4) (if v = i ∧ (((l.take j).drop p).any fun z => decide (z.f1 = (l.getD i zI).f1)) = false then max t (costC (cls (l.getD i zI).f0)) else t) := by
    intro t d
    induction d with
    | zero =>
      intro p v hp hip hv
      rw [List.drop_of_length_le (by rw [List.length_take]; omega)]
      refine Ev.step (fun k => by simp only [spec_orDelay.l0]; rfl) (Ev.ifn (by omega) ?_)
      have hm : spec_l1Most.f t (costC (cls (l.getD i zI).f0)) = some (max t (costC (cls (l.getD i zI).f0))) := by
        unfold spec_l1Most.f
        by_cases q : t > costC (cls (l.getD i zI).f0)
        · rw [if_pos q]; congr 1; omega
        · rw [if_neg q]; congr 1; omega
      by_cases h : v = i
      · refine Ev.ifp h (Ev.call (cdCost_eq _ hx.1) (Ev.call hm (Ev.some ?_)))
        rw [if_pos ⟨h, rfl⟩]
      · refine Ev.ifn h (Ev.some ?_)
        rw [if_neg (fun q => h q.1)]
    | succ d ih =>
      intro p v hp hip hv
      have hlt : p < (l.take j).length := by rw [List.length_take]; omega
      have e : (l.take j).drop p = (l.take j)[p] :: (l.take j).drop (p + 1) := List.drop_eq_getElem_cons hlt
      have e2 : (l.take j)[p] = l.getD p zI := by
        rw [List.getElem_take, getD_eq l p (by omega)]
      rw [e, e2, List.any_cons]
      refine Ev.step (fun k => by simp only [spec_orDelay.l0]; rfl) (Ev.ifp (by omega) (Ev.ifp (by omega) (Ev.ifp (by omega) ?_)))
      rw [rdI_at, w64n p (by omega)]
      by_cases h : (l.getD p zI).f1 = (l.getD i zI).f1
      · refine Ev.ifp h (ev_eq (ih (p + 1) p (by omega) (by omega) (.inr (by omega))) ?_)
        rw [if_neg (fun q => by have := q.1; omega), if_neg (fun q => by have := q.2; rw [decide_eq_true h] at this; cases this)]
      · refine Ev.ifn h (ev_eq (ih (p + 1) v (by omega) (by omega) hv) ?_)
        rw [decide_eq_false h, Bool.false_or]
  have j1 : ∀ t : Int, Ev (fun k => spec_orDelay.j1 k l i j t (l.getD i zI).f0 (l.getD i zI).f1 (l.getD i zI).f2 (l.getD i zI).f3 (l.getD i zI).f4 (l.getD j zI).f0 (l.getD j zI).f1 (l.getD j zI).f2 (l.getD j zI).f3 (l.getD j zI).f4)
      (if (l.getD i zI).f1 ∈ readsM (l.getD j zI) ∧ overB l i j = false then max t (costC (cls (l.getD i zI).f0)) else t) := by
    intro t
    refine Ev.step (fun k => by simp only [spec_orDelay.j1]; rfl) (Ev.bind (cdReads_ev (l.getD j zI)) (Ev.bind (has_ev _ _ (Nat.le_trans (readsM_len _) (by decide))) ?_))
    by_cases hr : (l.getD i zI).f1 ∈ readsM (l.getD j zI)
    · refine Ev.ifp (decide_eq_true hr) ?_
      rw [w64n i (by omega)]
      refine ev_eq (last t (j - (i + 1)) (i + 1) i (by omega) (by omega) (.inl rfl)) ?_
      unfold overB
      by_cases q : (((l.take j).drop (i + 1)).any fun z => decide (z.f1 = (l.getD i zI).f1)) = false
      · rw [if_pos ⟨rfl, q⟩, if_pos ⟨hr, q⟩]
      · rw [if_neg (fun z => q z.2), if_neg (fun z => q z.2)]
    · rw [if_neg (fun q => hr q.1)]
      exact Ev.ifn (fun q => hr (of_decide_eq_true q)) (Ev.now _)
  have j0 : ∀ t : Int, Ev (fun k => spec_orDelay.j0 k l i j t (l.getD i zI).f0 (l.getD i zI).f1 (l.getD i zI).f2 (l.getD i zI).f3 (l.getD i zI).f4 (l.getD j zI).f0 (l.getD j zI).f1 (l.getD j zI).f2 (l.getD j zI).f3 (l.getD j zI).f4)
      (if (l.getD i zI).f1 ∈ readsM (l.getD j zI) ∧ overB l i j = false then max (if (l.getD i zI).f1 = (l.getD j zI).f1 then 1 else t) (costC (cls (l.getD i zI).f0)) else if (l.getD i zI).f1 = (l.getD j zI).f1 then 1 else t) := by
    intro t
    refine Ev.step (fun k => by simp only [spec_orDelay.j0]; rfl) ?_
    by_cases h : (l.getD i zI).f1 = (l.getD j zI).f1
    · rw [if_pos h]
      exact Ev.ifp h (j1 1)
    · rw [if_neg h]
      exact Ev.ifn h (j1 t)
  unfold spec_orDelay.f
  refine Ev.ifp (by omega) (Ev.ifp (by omega) (Ev.ifp (by omega) (Ev.ifp (by omega) ?_)))
  rw [rdI_at, rdI_at]
  refine Ev.bind (cdReads_ev (l.getD i zI)) (Ev.bind (has_ev _ _ (Nat.le_trans (readsM_len _) (by decide))) ?_)
  unfold dly dlyB
  by_cases h : (l.getD j zI).f1 ∈ readsM (l.getD i zI)
  · rw [if_pos h]
    exact Ev.ifp (decide_eq_true h) (j0 0)
  · rw [if_neg h]
    exact Ev.ifn (fun q => h (of_decide_eq_true q)) (j0 (-1))
def dlyS (l : List Instr) (i j : Nat) : Int := if i < j then dly l i j else -1
def rowS (l : List Instr) (i m : Nat) : List Int := (List.range m).map fun j => dlyS l i j
theorem rowS_succ (l : List Instr) (i m : Nat) : rowS l i (m + 1) = rowS l i m ++ [dlyS l i m] := by simp [rowS, List.range_succ]
theorem rowS_len (l : List Instr) (i m : Nat) : (rowS l i m).length = m := by simp [rowS]
def tabS (l : List Instr) (m : Nat) : List (List Int) := (List.range m).map fun i => rowS l i l.length
theorem tabS_succ (l : List Instr) (m : Nat) : tabS l (m + 1) = tabS l m ++ [rowS l m l.length] := by simp [tabS, List.range_succ]
theorem tabS_len (l : List Instr) (m : Nat) : (tabS l m).length = m := by simp [tabS]
theorem orDelays_ev (l : List Instr) (hl : l.length ≤ 1048576) (ok : ∀ x ∈ l, okI x) : Ev (fun k => spec_orDelays.f k l) (tabS l l.length) := by
  have row : ∀ (rows : List (List Int)) (i : Nat) (T : List (List Int)), i < l.length → rows.length ≤ 1048576 → Ev (fun k => spec_orDelays.l0 k l (rows ++ [rowS l i l.length]) l.length (wrap64 ((i : Int) + 1))) T →
      ∀ (d j : Nat), j + d = l.length → Ev (fun k => spec_orDelays.l1 k l rows i (rowS l i j) l.length i l.length j) T := by
    intro rows i T hi hr hc d
    induction d with
    | zero =>
      intro j hj
      obtain rfl : j = l.length := by omega
      exact Ev.step (fun k => by simp only [spec_orDelays.l1]; rfl) (Ev.ifn (by omega) (Ev.ifp (by omega) hc))
    | succ d ih =>
      intro j hj
      have := ih (j + 1) (by omega)
      rw [rowS_succ] at this
      unfold dlyS at this
      refine Ev.step (fun k => by simp only [spec_orDelays.l1]; rfl) (Ev.ifp (by omega) ?_)
      rw [w64n j (by omega)]
      by_cases h : i < j
      · rw [if_pos h] at this
        exact Ev.ifp (by omega) (Ev.bind (orDelay_ev l hl ok i j h (by omega)) (Ev.ifp (by rw [rowS_len]; omega) this))
      · rw [if_neg h] at this
        exact Ev.ifn (by omega) (Ev.ifp (by rw [rowS_len]; omega) this)
  have key : ∀ (d i : Nat), i + d = l.length → Ev (fun k => spec_orDelays.l0 k l (tabS l i) l.length i) (tabS l l.length) := by
    intro d
    induction d with
    | zero =>
      intro i hi
      obtain rfl : i = l.length := by omega
      refine Ev.step (f := fun _ => some (tabS l l.length)) (fun k => ?_) (Ev.now _)
      simp only [spec_orDelays.l0]
      rw [if_neg (by omega)]
    | succ d ih =>
      intro i hi
      refine Ev.step (fun k => by simp only [spec_orDelays.l0]; rfl) (Ev.ifp (by omega) ?_)
      refine row (tabS l i) i _ (by omega) (by rw [tabS_len]; omega) ?_ l.length 0 (by omega)
      rw [w64n i (by omega), ← tabS_succ]
      exact ih (i + 1) (by omega)
  exact key l.length 0 (by omega)
end Go.Proofs.Yteaablbhdmkcpaa.PL
end
section
namespace Go.Proofs.Yteaablbhdmkcpaa.Q
open Go.RowKit Go.Proofs.YteaablbhdmkcpaaW.PrintWords Go.Proofs.YteaablbhdmkcpaaW.PrintLast Go.Proofs.YteaablbhdmkcpaaW.PrintMore
attribute [local go_sem] max2_int min2_int max_two min_two max_three min_three max_four min_four
set_option linter.unusedVariables false
set_option linter.unusedSimpArgs false
end Go.Proofs.Yteaablbhdmkcpaa.Q
end
section
namespace Go.Proofs.Yteaablbhdmkcpaa.PL
open Go Go.RowKit Go.Proofs.YteaablbhdmkcpaaW.PrintWords Go.Proofs.YteaablbhdmkcpaaW.PrintLast Go.Proofs.YteaablbhdmkcpaaW.PrintMore Go.Proofs.Yteaablbhdmkcpaa.Q
set_option linter.unusedSimpArgs false
set_option linter.unusedVariables false
def okCode (l : List Instr) : Bool := decide (l.length ≤ 40) && l.all (fun x => decide (okI x))
def okBlock (l : List Instr) : Bool := decide (l.length ≤ 20) && l.all (fun x => decide (okI x))
theorem isCode_ev (l : List Instr) : Ev (fun k => impl_IsCode.f k l) (okCode l) := by
  unfold impl_IsCode.f
  by_cases hl : l.length ≤ 40
  · refine Ev.ifp (by omega) ?_
    have h : Ev (fun k => slices_IndexFunc_impl_IsCode_1.f k l) (idx (fun x => !decide (okI x)) l) := by
      unfold slices_IndexFunc_impl_IsCode_1.f
      refine search_ev l _ (fun k i => slices_IndexFunc_impl_IsCode_1.l0 k l l.length i) ?_ (fun i x hi hx hp => ?_) (fun i x r hi hx hp hr => ?_)
      · refine Ev.step (f := fun _ => some (-1)) (fun k => ?_) (Ev.now _)
        simp only [slices_IndexFunc_impl_IsCode_1.l0]
        rw [if_neg (by omega)]
      · refine Ev.step (f := fun _ => some (i : Int)) (fun k => ?_) (Ev.now _)
        simp only [slices_IndexFunc_impl_IsCode_1.l0, impl_IsCode_1.f, rdI_eq hx, isInstr_eq, Option.bind_some, hp]
        rw [if_pos (by omega), if_pos (by omega), if_pos (by omega), if_pos trivial]
      · refine Ev.step (fun k => ?_) hr
        simp only [slices_IndexFunc_impl_IsCode_1.l0, impl_IsCode_1.f, rdI_eq hx, isInstr_eq, Option.bind_some, hp]
        rw [if_pos (by omega), if_pos (by omega), if_pos (by omega), if_neg (by simp), w64n i (by omega)]
    unfold slices_ContainsFunc_impl_IsCode_1.f
    refine Ev.bind (Ev.bind h (Ev.now _)) (Ev.some ?_)
    have e := idx_nonneg (fun x => !decide (okI x)) l
    unfold okCode
    rw [show decide (l.length ≤ 40) = true by simpa using hl, Bool.true_and]
    by_cases hc : 0 ≤ idx (fun x => !decide (okI x)) l
    · obtain ⟨x, hx, hx'⟩ := e.1 hc
      rw [decide_eq_true (show idx (fun x => !decide (okI x)) l ≥ 0 from hc)]
      symm
      simpa using ⟨x, hx, by simpa using hx'⟩
    · rw [decide_eq_false (show ¬ idx (fun x => !decide (okI x)) l ≥ 0 from hc)]
      symm
      have := fun h => hc (e.2 h)
      simpa using this
  · refine Ev.ifn (by omega) (Ev.some ?_)
    unfold okCode
    rw [show decide (l.length ≤ 40) = false by simpa using hl]
    rfl
theorem cdCode_ev (l : List Instr) : Ev (fun k => spec_cdCode.f k l) (okCode l) := by
  unfold spec_cdCode.f
  by_cases hl : l.length ≤ 40
  · refine Ev.ifn (by omega) ?_
    unfold okCode
    rw [show decide (l.length ≤ 40) = true by simpa using hl, Bool.true_and]
    refine all_ev l _ (fun k i => spec_cdCode.l0 k l l.length i) ?_ (fun i x hi hx hp => ?_) (fun i x r hi hx hp hr => ?_)
    · refine Ev.step (f := fun _ => some true) (fun k => ?_) (Ev.now _)
      simp only [spec_cdCode.l0]
      rw [if_neg (by omega)]
    · refine Ev.step (fun k => by simp only [spec_cdCode.l0, rdI_eq hx]; rfl) ?_
      refine Ev.ifp (by omega) (Ev.ifp (by omega) (Ev.ifp (by omega) ?_))
      exact Ev.bind (cdGood_ev x) (Ev.ifn (by simpa using hp) (Ev.now _))
    · refine Ev.step (fun k => by simp only [spec_cdCode.l0, rdI_eq hx, w64n i (show i < 4611686018427387904 by omega)]; rfl) ?_
      refine Ev.ifp (by omega) (Ev.ifp (by omega) (Ev.ifp (by omega) ?_))
      exact Ev.bind (cdGood_ev x) (Ev.ifp (by simpa using hp) hr)
  · refine Ev.ifp (by omega) (Ev.some ?_)
    unfold okCode
    rw [show decide (l.length ≤ 40) = false by simpa using hl]
    rfl
theorem okBlock_eq (l : List Instr) : okBlock l = (okCode l && decide (l.length ≤ 20)) := by
  unfold okBlock okCode
  by_cases h : l.length ≤ 20
  · simp [h, show l.length ≤ 40 by omega]
  · simp [h]
theorem okBlock_of {l : List Instr} (h : okBlock l = true) : l.length ≤ 20 ∧ ∀ x ∈ l, okI x := by
  unfold okBlock at h
  simp only [Bool.and_eq_true, decide_eq_true_eq, List.all_eq_true] at h
  exact h
end Go.Proofs.Yteaablbhdmkcpaa.PL
end
section
namespace Go.Proofs.Yteaablbhdmkcpaa.PL
open Go Go.RowKit Go.Proofs.YteaablbhdmkcpaaW.PrintWords Go.Proofs.YteaablbhdmkcpaaW.PrintLast Go.Proofs.YteaablbhdmkcpaaW.PrintMore Go.Proofs.Yteaablbhdmkcpaa.Q
set_option linter.unusedSimpArgs false
set_option linter.unusedVariables false
theorem orGood_ev (l : List Instr) : Ev (fun k => spec_orGood.f k l) (okBlock l) := by
  unfold spec_orGood.f
  rw [okBlock_eq]
  by_cases h : l.length ≤ 20
  · refine Ev.ifp (by omega) (Ev.bind (cdCode_ev l) (Ev.some ?_))
    simp [h]
  · refine Ev.ifn (by omega) (Ev.some ?_)
    simp [h]
end Go.Proofs.Yteaablbhdmkcpaa.PL
end
section
namespace Go.Proofs.Yteaablbhdmkcpaa.Q
open Go.RowKit Go.Proofs.YteaablbhdmkcpaaW.PrintWords Go.Proofs.YteaablbhdmkcpaaW.PrintLast Go.Proofs.YteaablbhdmkcpaaW.PrintMore
attribute [local go_sem] max2_int min2_int max_two min_two max_three min_three max_four min_four
set_option linter.unusedVariables false
set_option linter.unusedSimpArgs false
end Go.Proofs.Yteaablbhdmkcpaa.Q
end
section
namespace Go.Proofs.Yteaablbhdmkcpaa.PL
open Go Go.RowKit Go.Proofs.YteaablbhdmkcpaaW.PrintWords Go.Proofs.YteaablbhdmkcpaaW.PrintLast Go.Proofs.YteaablbhdmkcpaaW.PrintMore Go.Proofs.Yteaablbhdmkcpaa.Q
set_option linter.unusedSimpArgs false
set_option linter.unusedVariables false
end Go.Proofs.Yteaablbhdmkcpaa.PL
end
section
namespace Go.Proofs.Yteaablbhdmkcpaa.Q
open Go.RowKit Go.Proofs.YteaablbhdmkcpaaW.PrintWords Go.Proofs.YteaablbhdmkcpaaW.PrintLast Go.Proofs.YteaablbhdmkcpaaW.PrintMore
attribute [local go_sem] max2_int min2_int max_two min_two max_three min_three max_four min_four
set_option linter.unusedVariables false
set_option linter.unusedSimpArgs false
end Go.Proofs.Yteaablbhdmkcpaa.Q
end
section
namespace Go.Proofs.Yteaablbhdmkcpaa.Q
open Go.RowKit Go.Proofs.YteaablbhdmkcpaaW.PrintWords Go.Proofs.YteaablbhdmkcpaaW.PrintLast Go.Proofs.YteaablbhdmkcpaaW.PrintMore
attribute [local go_sem] max2_int min2_int max_two min_two max_three min_three max_four min_four
set_option linter.unusedVariables false
set_option linter.unusedSimpArgs false
end Go.Proofs.Yteaablbhdmkcpaa.Q
end
section
namespace Go.Proofs.Yteaablbhdmkcpaa.Q
open Go.RowKit Go.Proofs.YteaablbhdmkcpaaW.PrintWords Go.Proofs.YteaablbhdmkcpaaW.PrintLast Go.Proofs.YteaablbhdmkcpaaW.PrintMore
attribute [local go_sem] max2_int min2_int max_two min_two max_three min_three max_four min_four
set_option linter.unusedVariables false
set_option linter.unusedSimpArgs false
end Go.Proofs.Yteaablbhdmkcpaa.Q
end
section
namespace Go.Proofs.Yteaablbhdmkcpaa.PL
open Go Go.RowKit Go.Proofs.YteaablbhdmkcpaaW.PrintWords Go.Proofs.YteaablbhdmkcpaaW.PrintLast Go.Proofs.YteaablbhdmkcpaaW.PrintMore Go.Proofs.Yteaablbhdmkcpaa.Q
set_option linter.unusedSimpArgs false
set_option linter.unusedVariables false
theorem tabI_at (l : List Instr) (m i : Nat) (h : i < m) : rd_L4 (tabI l m) (i : Int) = rowI l i i := by
  unfold rd_L4
  rw [Int.toNat_natCast]
  simp [tabI, List.getD, h]
theorem rowI_at (l : List Instr) (i m j : Nat) (h : j < m) : rd (rowI l i m) (j : Int) = dly l j i := rd_eq (fun d => by simp [rowI, List.getD, h])
theorem tabS_at (l : List Instr) (m i : Nat) (h : i < m) : rd_L4 (tabS l m) (i : Int) = rowS l i l.length := by
  unfold rd_L4
  rw [Int.toNat_natCast]
  simp [tabS, List.getD, h]
theorem rowS_at (l : List Instr) (i m j : Nat) (h : j < m) : rd (rowS l i m) (j : Int) = dlyS l i j := rd_eq (fun d => by simp [rowS, List.getD, h])
end Go.Proofs.Yteaablbhdmkcpaa.PL
end
section
namespace Go.Proofs.Yteaablbhdmkcpaa.PL
open Go Go.RowKit Go.Proofs.YteaablbhdmkcpaaW.PrintWords Go.Proofs.YteaablbhdmkcpaaW.PrintLast Go.Proofs.YteaablbhdmkcpaaW.PrintMore Go.Proofs.Yteaablbhdmkcpaa.Q
set_option linter.unusedSimpArgs false
set_option linter.unusedVariables false
def freeB (l : List Instr) (o : List Int) (v : Nat) : Bool := (List.range v).all fun u => decide (dly l u v < 0) || decide ((u : Int) ∈ o)
def maskOf (m : Nat) (o : List Int) : Prop := m < 2 ^ 20 ∧ ∀ v : Nat, v < 20 → m.testBit v = decide ((v : Int) ∈ o)
theorem wrap62 (n : Int) (h0 : 0 ≤ n) (h1 : n < 2 ^ 62) : IntKind.i64.wrap n = n := by
  have e : (2 : Int) ^ 62 = 4611686018427387904 := by decide
  rw [IntKind.wrap_i64]
  omega
theorem bit_zero (m : Nat) (o : List Int) (h : maskOf m o) (v : Nat) (hv : v < 20) : (Go.bits .and .i64 (shr .i64 (m : Int) (v : Int)) 1 = 0) ↔ (v : Int) ∉ o := by
  have e1 : shr .i64 (m : Int) (v : Int) = ((m / 2 ^ v : Nat) : Int) := by
    unfold shr
    rw [Int.toNat_natCast, Nat.min_eq_left (show v ≤ IntKind.i64.bits by have : IntKind.i64.bits = 64 := rfl; omega)]
    norm_cast
  have hlt : m / 2 ^ v < 2 ^ 20 := Nat.lt_of_le_of_lt (Nat.div_le_self _ _) h.1
  have e2 := (Go.bits_nat .i64 62 (by decide) wrap62 (m / 2 ^ v) 1 (Nat.lt_of_lt_of_le hlt (by decide)) (by decide)).1
  rw [e1]
  rw [show ((1 : Nat) : Int) = 1 from rfl] at e2
  rw [e2, Nat.and_one_is_mod]
  have ht := h.2 v hv
  rw [Nat.testBit_eq_decide_div_mod_eq] at ht
  by_cases hm : (v : Int) ∈ o
  · rw [decide_eq_true hm] at ht
    have := of_decide_eq_true ht
    constructor
    · intro q; omega
    · intro q; exact absurd hm q
  · rw [decide_eq_false hm] at ht
    have := of_decide_eq_false ht
    constructor
    · intro _; exact hm
    · intro _; omega
theorem mask_add (m : Nat) (o : List Int) (h : maskOf m o) (v : Nat) (hv : v < 20) : Go.bits .or .i64 (m : Int) (shl .i64 1 (v : Int)) = ((m ||| 2 ^ v : Nat) : Int) ∧ maskOf (m ||| 2 ^ v) (o ++ [(v : Int)]) := by
  have hp : 2 ^ v < 2 ^ 20 := Nat.pow_lt_pow_right (by decide) hv
  constructor
  · have e1 : shl .i64 1 (v : Int) = ((2 ^ v : Nat) : Int) := by
      unfold shl
      rw [Int.toNat_natCast, Nat.min_eq_left (show v ≤ IntKind.i64.bits by have : IntKind.i64.bits = 64 := rfl; omega), Int.one_mul, show (2 : Int) ^ v = ((2 ^ v : Nat) : Int) by norm_cast, IntKind.wrap_i64]
      have : (2 : Nat) ^ 20 = 1048576 := by decide
      rw [this] at hp
      generalize (2 : Nat) ^ v = p at hp ⊢
      omega
    rw [e1]
    exact (Go.bits_nat .i64 62 (by decide) wrap62 m (2 ^ v) (Nat.lt_of_lt_of_le h.1 (by decide)) (Nat.lt_of_lt_of_le hp (by decide))).2
  · refine ⟨Nat.or_lt_two_pow h.1 hp, fun w hw => ?_⟩
    rw [Nat.testBit_or, h.2 w hw, Nat.testBit_two_pow]
    by_cases e : v = w
    · subst e; simp
    · rw [decide_eq_false e, Bool.or_false, decide_eq_decide, List.mem_append, List.mem_singleton]
      constructor
      · exact fun q => .inl q
      · exact fun q => q.elim id (fun q => by omega)
theorem waits_ev (l : List Instr) (hl : l.length ≤ 20) (o : List Int) (m : Nat) (hm : maskOf m o) (v : Nat) (hv : v < l.length) : Ev (fun k => impl_waits.f k (tabI l l.length) (m : Int) (v : Int)) (!freeB l o v) := by
  unfold impl_waits.f
  refine Ev.ifp (by omega) (Ev.ifp (by rw [tabI_len]; omega) ?_)
  rw [tabI_at l l.length v hv]
  have key : ∀ (d u : Nat), u + d = v → Ev (fun k => impl_waits.l0 k (m : Int) (rowI l v v) (rowI l v v).length u) (!((List.range' u d).all fun u => decide (dly l u v < 0) || decide ((u : Int) ∈ o))) := by
    intro d
    induction d with
    | zero =>
      intro u hu
      refine Ev.step (f := fun _ => some false) (fun k => ?_) (Ev.now _)
      simp only [impl_waits.l0]
      rw [if_neg (by rw [rowI_len]; omega)]
    | succ d ih =>
      intro u hu
      have next := ih (u + 1) (by omega)
      rw [List.range'_succ, List.all_cons]
      refine Ev.step (fun k => by simp only [impl_waits.l0]; rfl) (Ev.ifp (by rw [rowI_len]; omega) (Ev.ifp (by omega) (Ev.ifp (by rw [rowI_len]; omega) ?_)))
      rw [rowI_at l v v u (by omega), w64n u (by omega)]
      by_cases hd : dly l u v ≥ 0
      · refine Ev.ifp hd ?_
        rw [decide_eq_false (show ¬ dly l u v < 0 by omega), Bool.false_or]
        by_cases ho : (u : Int) ∈ o
        · rw [decide_eq_true ho, Bool.true_and]
          exact Ev.ifn (fun q => (bit_zero m o hm u (by omega)).1 q ho) next
        · rw [decide_eq_false ho]
          exact Ev.ifp ((bit_zero m o hm u (by omega)).2 ho) (Ev.now _)
      · refine Ev.ifn hd ?_
        rw [decide_eq_true (show dly l u v < 0 by omega), Bool.true_or, Bool.true_and]
        exact next
  have := key v 0 (by omega)
  rw [← List.range_eq_range'] at this
  exact this
theorem free_all (l : List Instr) (o : List Int) (v : Nat) (hv : v ≤ l.length) : ((List.range l.length).all fun u => decide (dlyS l u v < 0) || decide ((u : Int) ∈ o)) = freeB l o v := by
  unfold freeB
  rw [Bool.eq_iff_iff, List.all_eq_true, List.all_eq_true]
  constructor
  · intro h u hu
    have hu' := List.mem_range.1 hu
    have := h u (List.mem_range.2 (by omega))
    unfold dlyS at this
    rw [if_pos hu'] at this
    exact this
  · intro h u hu
    by_cases huv : u < v
    · have := h u (List.mem_range.2 huv)
      unfold dlyS
      rw [if_pos huv]
      exact this
    · unfold dlyS
      rw [if_neg huv]
      rfl
end Go.Proofs.Yteaablbhdmkcpaa.PL
end
section
namespace Go.Proofs.Yteaablbhdmkcpaa.Q
open Go.RowKit Go.Proofs.YteaablbhdmkcpaaW.PrintWords Go.Proofs.YteaablbhdmkcpaaW.PrintLast Go.Proofs.YteaablbhdmkcpaaW.PrintMore
attribute [local go_sem] max2_int min2_int max_two min_two max_three min_three max_four min_four
set_option linter.unusedVariables false
set_option linter.unusedSimpArgs false
end Go.Proofs.Yteaablbhdmkcpaa.Q
end
section
namespace Go.Proofs.Yteaablbhdmkcpaa.Q
open Go.RowKit Go.Proofs.YteaablbhdmkcpaaW.PrintWords Go.Proofs.YteaablbhdmkcpaaW.PrintLast Go.Proofs.YteaablbhdmkcpaaW.PrintMore
attribute [local go_sem] max2_int min2_int max_two min_two max_three min_three max_four min_four
set_option linter.unusedVariables false
set_option linter.unusedSimpArgs false
end Go.Proofs.Yteaablbhdmkcpaa.Q
end
section
namespace Go.Proofs.Yteaablbhdmkcpaa.Q
open Go.RowKit Go.Proofs.YteaablbhdmkcpaaW.PrintWords Go.Proofs.YteaablbhdmkcpaaW.PrintLast Go.Proofs.YteaablbhdmkcpaaW.PrintMore
attribute [local go_sem] max2_int min2_int max_two min_two max_three min_three max_four min_four
set_option linter.unusedVariables false
set_option linter.unusedSimpArgs false
end Go.Proofs.Yteaablbhdmkcpaa.Q
end
section
namespace Go.Proofs.Yteaablbhdmkcpaa.Q
open Go.RowKit Go.Proofs.YteaablbhdmkcpaaW.PrintWords Go.Proofs.YteaablbhdmkcpaaW.PrintLast Go.Proofs.YteaablbhdmkcpaaW.PrintMore
attribute [local go_sem] max2_int min2_int max_two min_two max_three min_three max_four min_four
set_option linter.unusedVariables false
set_option linter.unusedSimpArgs false
end Go.Proofs.Yteaablbhdmkcpaa.Q
end
section
namespace Go.Proofs.Yteaablbhdmkcpaa.Q
open Go.RowKit Go.Proofs.YteaablbhdmkcpaaW.PrintWords Go.Proofs.YteaablbhdmkcpaaW.PrintLast Go.Proofs.YteaablbhdmkcpaaW.PrintMore
attribute [local go_sem] max2_int min2_int max_two min_two max_three min_three max_four min_four
set_option linter.unusedVariables false
set_option linter.unusedSimpArgs false
end Go.Proofs.Yteaablbhdmkcpaa.Q
end
section
namespace Go.Proofs.Yteaablbhdmkcpaa.PL
open Go Go.RowKit Go.Proofs.YteaablbhdmkcpaaW.PrintWords Go.Proofs.YteaablbhdmkcpaaW.PrintLast Go.Proofs.YteaablbhdmkcpaaW.PrintMore Go.Proofs.Yteaablbhdmkcpaa.Q
set_option linter.unusedSimpArgs false
set_option linter.unusedVariables false
end Go.Proofs.Yteaablbhdmkcpaa.PL
end
section
namespace Go.Proofs.Yteaablbhdmkcpaa.PL
open Go Go.RowKit Go.Proofs.YteaablbhdmkcpaaW.PrintWords Go.Proofs.YteaablbhdmkcpaaW.PrintLast Go.Proofs.YteaablbhdmkcpaaW.PrintMore Go.Proofs.Yteaablbhdmkcpaa.Q
set_option linter.unusedSimpArgs false
set_option linter.unusedVariables false
theorem bne_self' (b : Bool) : (b != b) = false := by simp
end Go.Proofs.Yteaablbhdmkcpaa.PL
end
section
namespace Go.Proofs.Yteaablbhdmkcpaa.PL
open Go Go.RowKit Go.Proofs.YteaablbhdmkcpaaW.PrintWords Go.Proofs.YteaablbhdmkcpaaW.PrintLast Go.Proofs.YteaablbhdmkcpaaW.PrintMore Go.Proofs.Yteaablbhdmkcpaa.Q
set_option linter.unusedSimpArgs false
set_option linter.unusedVariables false
def setOf (s : Nat) : List Int := ((List.range 20).filter fun v => s.testBit v).map fun v : Nat => (v : Int)
theorem mem_setOf (s v : Nat) (hv : v < 20) : (v : Int) ∈ setOf s ↔ s.testBit v = true := by
  unfold setOf
  rw [List.mem_map]
  constructor
  · rintro ⟨w, hw, e⟩
    have : w = v := by omega
    subst this
    exact (List.mem_filter.1 hw).2
  · intro h
    exact ⟨v, List.mem_filter.2 ⟨List.mem_range.2 hv, h⟩, rfl⟩
theorem mask_setOf (s : Nat) (hs : s < 2 ^ 20) : maskOf s (setOf s) := by
  refine ⟨hs, fun v hv => ?_⟩
  cases h : s.testBit v with
  | true => exact (decide_eq_true ((mem_setOf s v hv).2 h)).symm
  | false => exact (decide_eq_false (fun q => by rw [(mem_setOf s v hv).1 q] at h; cases h)).symm
def mayB (l : List Instr) (s j : Nat) : Bool := !s.testBit j && freeB l (setOf s) j
def pcnt (s : Nat) : Nat := ((List.range 12).filter fun v => s.testBit v).length
def done (s j e : Nat) : Nat := ((List.range 12).filter fun i => e.testBit i && decide (e - 2 ^ i < s ∨ e - 2 ^ i = s ∧ i < j)).length
theorem filter_le {α : Type} (p q : α → Bool) : ∀ (xs : List α), (∀ x ∈ xs, p x = true → q x = true) → (xs.filter p).length ≤ (xs.filter q).length := by
  intro xs
  induction xs with
  | nil => intro _; exact Nat.le_refl _
  | cons x xs ih =>
    intro h
    have := ih (fun y hy => h y (by simp [hy]))
    cases hp : p x with
    | true =>
      rw [List.filter_cons_of_pos hp, List.filter_cons_of_pos (h x (by simp) hp), List.length_cons, List.length_cons]
      omega
    | false =>
      rw [List.filter_cons_of_neg (by rw [hp]; decide)]
      cases hq : q x with
      | true => rw [List.filter_cons_of_pos hq, List.length_cons]; omega
      | false => rw [List.filter_cons_of_neg (by rw [hq]; decide)]; exact this
theorem filter_lt {α : Type} (p q : α → Bool) : ∀ (xs : List α), (∀ x ∈ xs, p x = true → q x = true) → (∃ x ∈ xs, p x = false ∧ q x = true) → (xs.filter p).length + 1 ≤ (xs.filter q).length := by
  intro xs
  induction xs with
  | nil => rintro _ ⟨x, hx, _⟩; cases hx
  | cons x xs ih =>
    rintro h ⟨y, hy, hp, hq⟩
    have hle := filter_le p q xs (fun z hz => h z (by simp [hz]))
    rcases List.mem_cons.1 hy with e | hy
    · subst e
      rw [List.filter_cons_of_neg (by rw [hp]; decide), List.filter_cons_of_pos hq, List.length_cons]
      omega
    · have := ih (fun z hz => h z (by simp [hz])) ⟨y, hy, hp, hq⟩
      cases hpx : p x with
      | true =>
        rw [List.filter_cons_of_pos hpx, List.filter_cons_of_pos (h x (by simp) hpx), List.length_cons, List.length_cons]
        omega
      | false =>
        rw [List.filter_cons_of_neg (by rw [hpx]; decide)]
        cases hqx : q x with
        | true => rw [List.filter_cons_of_pos hqx, List.length_cons]; omega
        | false => rw [List.filter_cons_of_neg (by rw [hqx]; decide)]; exact this
theorem filter_one {α : Type} (p q : α → Bool) : ∀ (xs : List α), xs.Nodup → (a : α) → a ∈ xs → p a = false → q a = true → (∀ x ∈ xs, x ≠ a → p x = q x) → (xs.filter q).length = (xs.filter p).length + 1 := by
  intro xs
  induction xs with
  | nil => intro _ a ha; cases ha
  | cons x xs ih =>
    intro hn a ha hp hq hs
    rw [List.nodup_cons] at hn
    by_cases e : x = a
    · subst e
      have : xs.filter q = xs.filter p := List.filter_congr (fun y hy => (hs y (by simp [hy]) (fun e => hn.1 (e ▸ hy))).symm)
      rw [List.filter_cons_of_pos hq, List.filter_cons_of_neg (by rw [hp]; decide), List.length_cons, this]
    · have hax : a ∈ xs := (List.mem_cons.1 ha).resolve_left (fun q => e q.symm)
      have := ih hn.2 a hax hp hq (fun y hy hne => hs y (by simp [hy]) hne)
      have hx := hs x (by simp) e
      cases hpx : p x with
      | true => rw [List.filter_cons_of_pos (p := q) (hx ▸ hpx), List.filter_cons_of_pos (p := p) hpx, List.length_cons, List.length_cons, this]
      | false => rw [List.filter_cons_of_neg (p := q) (by rw [← hx, hpx]; decide), List.filter_cons_of_neg (p := p) (by rw [hpx]; decide), this]
theorem add_bit (s j : Nat) (h : s.testBit j = false) : s ||| 2 ^ j = s + 2 ^ j ∧ (s ||| 2 ^ j) - 2 ^ j = s := by
  have e : s ||| 2 ^ j = s + 2 ^ j := by
    rw [Nat.testBit_eq_decide_div_mod_eq] at h
    have hq := of_decide_eq_false h
    have hs := Nat.div_add_mod s (2 ^ j)
    have hr : s % 2 ^ j < 2 ^ j := Nat.mod_lt _ (Nat.two_pow_pos j)
    obtain ⟨q, hq2⟩ : ∃ q, s / 2 ^ j = 2 * q := ⟨s / 2 ^ j / 2, by omega⟩
    have hp : 2 ^ (j + 1) = 2 ^ j * 2 := Nat.pow_succ 2 j
    generalize s % 2 ^ j = r at hs hr
    rw [hq2, ← Nat.mul_assoc, ← hp] at hs
    have h1 : r ||| 2 ^ j = r + 2 ^ j := Nat.or_two_pow_eq_add_of_lt hr
    have h2 := Nat.two_pow_add_eq_or_of_lt (i := j + 1) (b := r) (by omega) q
    have h3 := Nat.two_pow_add_eq_or_of_lt (i := j + 1) (b := r + 2 ^ j) (by omega) q
    rw [← hs, h2, Nat.or_assoc, h1, ← h3, ← h2]
    omega
  exact ⟨e, by rw [e]; omega⟩
theorem pcnt_add (s j : Nat) (hj : j < 12) (h : s.testBit j = false) : pcnt (s ||| 2 ^ j) = pcnt s + 1 := by
  unfold pcnt
  refine filter_one _ _ (List.range 12) List.nodup_range j (List.mem_range.2 hj) h ?_ (fun x _ hx => ?_)
  · rw [Nat.testBit_or, Nat.testBit_two_pow, decide_eq_true rfl, Bool.or_true]
  · rw [Nat.testBit_or, Nat.testBit_two_pow, decide_eq_false (fun e => hx e.symm), Bool.or_false]
theorem done_le (s j e : Nat) : done s j e ≤ 12 := by
  unfold done
  exact Nat.le_trans (List.length_filter_le _ _) (by simp)
theorem done_next (s j e : Nat) : done s j e ≤ done s (j + 1) e := by
  unfold done
  refine filter_le _ _ _ (fun x _ h => ?_)
  rw [Bool.and_eq_true, decide_eq_true_eq] at h ⊢
  exact ⟨h.1, by omega⟩
theorem done_hit (s j : Nat) (hj : j < 12) (h : s.testBit j = false) : done s j (s ||| 2 ^ j) + 1 ≤ done s (j + 1) (s ||| 2 ^ j) := by
  unfold done
  refine filter_lt _ _ _ (fun x _ h => ?_) ⟨j, List.mem_range.2 hj, ?_, ?_⟩
  · rw [Bool.and_eq_true, decide_eq_true_eq] at h ⊢
    exact ⟨h.1, by omega⟩
  · rw [(add_bit s j h).2, decide_eq_false (by omega), Bool.and_false]
  · rw [(add_bit s j h).2, decide_eq_true (by omega), Bool.and_true, Nat.testBit_or, Nat.testBit_two_pow, decide_eq_true rfl, Bool.or_true]
theorem done_row (s n e : Nat) : done s n e ≤ done (s + 1) 0 e := by
  unfold done
  refine filter_le _ _ _ (fun x _ h => ?_)
  rw [Bool.and_eq_true, decide_eq_true_eq] at h ⊢
  exact ⟨h.1, by omega⟩
def okW2 (n s j : Nat) (W : List Int) : Prop := W.length = 2 ^ n ∧ ∀ e, e < 2 ^ n → 0 ≤ W.getD e 0 ∧ 12 * W.getD e 0 ≤ ((12 ^ pcnt e * (done s j e + if e = 0 then 12 else 0) : Nat) : Int)
theorem okW2_mono {n s j s' j' : Nat} {W : List Int} (h : okW2 n s j W) (hd : ∀ e, done s j e ≤ done s' j' e) : okW2 n s' j' W := by
  refine ⟨h.1, fun e he => ?_⟩
  obtain ⟨h1, h2⟩ := h.2 e he
  refine ⟨h1, Int.le_trans h2 ?_⟩
  have := Nat.mul_le_mul_left (12 ^ pcnt e) (Nat.add_le_add_right (hd e) (if e = 0 then 12 else 0))
  exact Int.ofNat_le.2 this
theorem pcnt_le (e : Nat) : pcnt e ≤ 12 := by
  unfold pcnt
  exact Nat.le_trans (List.length_filter_le _ _) (by simp)
theorem okW2_val {n s j : Nat} {W : List Int} (h : okW2 n s j W) (e : Nat) (he : e < 2 ^ n) : 0 ≤ W.getD e 0 ∧ W.getD e 0 ≤ ((12 ^ pcnt e : Nat) : Int) := by
  obtain ⟨h1, h2⟩ := h.2 e he
  refine ⟨h1, ?_⟩
  have hd : done s j e + (if e = 0 then 12 else 0) ≤ 12 := by
    by_cases h0 : e = 0
    · subst h0
      have : done s j 0 = 0 := by
        unfold done
        rw [List.filter_eq_nil_iff.2 (fun x _ => by simp)]
        rfl
      rw [this, if_pos rfl]
      exact Nat.le_refl _
    · rw [if_neg h0]
      exact done_le s j e
  have := Nat.mul_le_mul_left (12 ^ pcnt e) hd
  have h3 : ((12 ^ pcnt e * (done s j e + if e = 0 then 12 else 0) : Nat) : Int) ≤ ((12 ^ pcnt e * 12 : Nat) : Int) := Int.ofNat_le.2 this
  generalize 12 ^ pcnt e = p at h2 h3 ⊢
  omega
theorem pow12 (e : Nat) : 12 ^ pcnt e ≤ 8916100448256 := Nat.le_trans (Nat.pow_le_pow_right (by decide) (pcnt_le e)) (by decide)
theorem getD_set (W : List Int) (i e : Nat) (v : Int) (hi : i < W.length) : (W.set i v).getD e 0 = if i = e then v else W.getD e 0 := by
  simp only [List.getD, List.getElem?_set]
  by_cases h : i = e
  · subst h; simp [hi]
  · simp [h]
theorem set_same (W : List Int) (i : Nat) (hi : i < W.length) : W.set i (W.getD i 0 + 0) = W := by
  rw [Int.add_zero, getD_eq W i hi]
  exact List.set_getElem_self hi
theorem okW2_step {n s j : Nat} {W : List Int} (hn : n ≤ 12) (h : okW2 n s j W) (hs : s < 2 ^ n) (hj : j < n) (hb : s.testBit j = false) (v : Int) (h0 : 0 ≤ v) (hv : v ≤ ((12 ^ pcnt s : Nat) : Int)) :
    okW2 n s (j + 1) (W.set (s ||| 2 ^ j) (W.getD (s ||| 2 ^ j) 0 + v)) := by
  have hlt : s ||| 2 ^ j < 2 ^ n := Nat.or_lt_two_pow hs (Nat.pow_lt_pow_right (by decide) hj)
  have hl : s ||| 2 ^ j < W.length := by rw [h.1]; exact hlt
  refine ⟨by rw [List.length_set]; exact h.1, fun e he => ?_⟩
  rw [getD_set W _ e _ hl]
  by_cases q : s ||| 2 ^ j = e
  · rw [if_pos q, ← q]
    obtain ⟨h1, h2⟩ := h.2 _ hlt
    have hne : s ||| 2 ^ j ≠ 0 := by
      rw [(add_bit s j hb).1]
      have := Nat.two_pow_pos j
      omega
    rw [if_neg hne, Nat.add_zero] at h2 ⊢
    refine ⟨by omega, ?_⟩
    have hh := done_hit s j (by omega) hb
    have hp : 12 ^ pcnt (s ||| 2 ^ j) = 12 ^ pcnt s * 12 := by rw [pcnt_add s j (by omega) hb, Nat.pow_succ]
    have h3 := Nat.mul_le_mul_left (12 ^ pcnt (s ||| 2 ^ j)) hh
    rw [Nat.mul_add, Nat.mul_one] at h3
    have h4 : ((12 ^ pcnt (s ||| 2 ^ j) * done s j (s ||| 2 ^ j) + 12 ^ pcnt (s ||| 2 ^ j) : Nat) : Int) ≤ ((12 ^ pcnt (s ||| 2 ^ j) * done s (j + 1) (s ||| 2 ^ j) : Nat) : Int) := Int.ofNat_le.2 h3
    refine Int.le_trans ?_ h4
    generalize done s j (s ||| 2 ^ j) = dd at h2 ⊢
    rw [hp] at h2 ⊢
    generalize 12 ^ pcnt s = p at h2 hv ⊢
    generalize p * 12 * dd = m at h2 ⊢
    omega
  · rw [if_neg q]
    obtain ⟨h1, h2⟩ := h.2 e he
    refine ⟨h1, Int.le_trans h2 ?_⟩
    exact Int.ofNat_le.2 (Nat.mul_le_mul_left (12 ^ pcnt e) (Nat.add_le_add_right (done_next s j e) (if e = 0 then 12 else 0)))
def ctStep (l : List Instr) (s : Nat) (v : Int) (W : List Int) (j : Nat) : List Int := if mayB l s j = true then W.set (s ||| 2 ^ j) (W.getD (s ||| 2 ^ j) 0 + v) else W
def ctSet (l : List Instr) (W : List Int) (s : Nat) : List Int := (List.range' 0 l.length).foldl (ctStep l s (W.getD s 0)) W
theorem okW2_ct {l : List Instr} (hn : l.length ≤ 12) {s j : Nat} {W : List Int} (h : okW2 l.length s j W) (hs : s < 2 ^ l.length) (hj : j < l.length) (v : Int) (h0 : 0 ≤ v) (hv : v ≤ ((12 ^ pcnt s : Nat) : Int)) : okW2 l.length s (j + 1) (ctStep l s v W j) := by
  unfold ctStep
  by_cases hm : mayB l s j = true
  · rw [if_pos hm]
    unfold mayB at hm
    rw [Bool.and_eq_true] at hm
    exact okW2_step hn h hs hj (by simpa using hm.1) v h0 hv
  · rw [if_neg hm]
    exact okW2_mono h (fun e => done_next s j e)
theorem okW2_start (n : Nat) : okW2 n 0 0 ((List.replicate (2 ^ n) 0).set 0 1) := by
  refine ⟨by simp, fun e he => ?_⟩
  rw [getD_set _ 0 e 1 (by simpa using Nat.two_pow_pos n)]
  by_cases h : 0 = e
  · subst h
    rw [if_pos rfl, if_pos rfl]
    refine ⟨by decide, ?_⟩
    have : 12 ≤ 12 ^ pcnt 0 * (done 0 0 0 + 12) := by decide
    exact Int.le_trans (by decide) (Int.ofNat_le.2 this)
  · rw [if_neg h]
    have : (List.replicate (2 ^ n) (0 : Int)).getD e 0 = 0 := by simp [List.getD, List.getElem?_replicate, he]
    rw [this]
    exact ⟨Int.le_refl _, by omega⟩
theorem shl_one (v : Nat) (hv : v < 20) : shl .i64 1 (v : Int) = ((2 ^ v : Nat) : Int) := by
  have hp : 2 ^ v < 2 ^ 20 := Nat.pow_lt_pow_right (by decide) hv
  unfold shl
  rw [Int.toNat_natCast, Nat.min_eq_left (show v ≤ IntKind.i64.bits by have : IntKind.i64.bits = 64 := rfl; omega), Int.one_mul, show (2 : Int) ^ v = ((2 ^ v : Nat) : Int) by norm_cast, IntKind.wrap_i64]
  have : (2 : Nat) ^ 20 = 1048576 := by decide
  rw [this] at hp
  generalize (2 : Nat) ^ v = p at hp ⊢
  omega
theorem shr_nat (s j : Nat) (hj : j < 20) : shr .i64 (s : Int) (j : Int) = ((s / 2 ^ j : Nat) : Int) := by
  unfold shr
  rw [Int.toNat_natCast, Nat.min_eq_left (show j ≤ IntKind.i64.bits by have : IntKind.i64.bits = 64 := rfl; omega)]
  norm_cast
theorem tmod_bit (s j : Nat) (hj : j < 20) : Int.tmod (shr .i64 (s : Int) (j : Int)) 2 = if s.testBit j = true then 1 else 0 := by
  rw [shr_nat s j hj, Nat.testBit_eq_decide_div_mod_eq, show Int.tmod ((s / 2 ^ j : Nat) : Int) 2 = ((s / 2 ^ j % 2 : Nat) : Int) from rfl]
  by_cases h : s / 2 ^ j % 2 = 1
  · rw [h]; rfl
  · rw [show s / 2 ^ j % 2 = 0 by omega]; rfl
theorem rd_nat (W : List Int) (e : Nat) : rd W ((e : Nat) : Int) = W.getD e 0 := by unfold rd; rw [Int.toNat_natCast]
theorem no_wrap {n s j : Nat} {W : List Int} (hn : n ≤ 12) (h : okW2 n s j W) (hs : s < 2 ^ n) (hj : j < n) (hb : s.testBit j = false) (v : Int) (h0 : 0 ≤ v) (hv : v ≤ ((12 ^ pcnt s : Nat) : Int)) :
    wrap64 (W.getD (s ||| 2 ^ j) 0 + v) = W.getD (s ||| 2 ^ j) 0 + v := by
  have hlt : s ||| 2 ^ j < 2 ^ n := Nat.or_lt_two_pow hs (Nat.pow_lt_pow_right (by decide) hj)
  have h1 := okW2_val h _ hlt
  have h2 := pow12 s
  have h3 := pow12 (s ||| 2 ^ j)
  generalize 12 ^ pcnt s = a at hv h2
  generalize 12 ^ pcnt (s ||| 2 ^ j) = b at h1 h3
  exact w64 (by omega) (by omega)
theorem implCT1_ev (l : List Instr) (hn : l.length ≤ 12) (s : Nat) (hs : s < 2 ^ l.length) (v : Int) (h0 : 0 ≤ v) (hv : v ≤ ((12 ^ pcnt s : Nat) : Int)) (N : Int) (T : Int × Bool) :
    ∀ (d j : Nat) (W : List Int), j + d = l.length → okW2 l.length s j W → Ev (fun k => impl_CountOrders.l0 k l (tabI l l.length) ((List.range' j d).foldl (ctStep l s v) W) N (wrap64 ((s : Int) + 1))) T →
      Ev (fun k => impl_CountOrders.l1 k l (tabI l l.length) W s v N s l.length j) T := by
  have hs20 : s < 2 ^ 20 := Nat.lt_of_lt_of_le hs (Nat.pow_le_pow_right (by decide) (by omega))
  have hm := mask_setOf s hs20
  intro d
  induction d with
  | zero =>
    intro j W hj hW hc
    exact Ev.step (fun k => by simp only [impl_CountOrders.l1]; rfl) (Ev.ifn (by omega) hc)
  | succ d ih =>
    intro j W hj hW hc
    have hjl : j < l.length := by omega
    have next := ih (j + 1) (ctStep l s v W j) (by omega) (okW2_ct hn hW hs hjl v h0 hv)
    rw [List.range'_succ, List.foldl_cons] at hc
    replace next := next hc
    unfold ctStep at next
    refine Ev.step (fun k => by simp only [impl_CountOrders.l1]; rfl) (Ev.ifp (by omega) ?_)
    rw [w64n j (by omega)]
    have hbit : s.testBit j = false ↔ (j : Int) ∉ setOf s := by
      rw [mem_setOf s j (by omega)]
      cases s.testBit j <;> simp
    by_cases hpos : v > 0
    · refine Ev.ifp hpos (Ev.ifp (by omega) ?_)
      by_cases hb : s.testBit j = false
      · refine Ev.ifp ((bit_zero s (setOf s) hm j (by omega)).2 (hbit.1 hb)) (Ev.bind (waits_ev l (by omega) (setOf s) s hm j hjl) ?_)
        cases hf : freeB l (setOf s) j with
        | false =>
          rw [if_neg (fun q => by unfold mayB at q; rw [hf, Bool.and_false] at q; cases q)] at next
          exact Ev.ifp rfl next
        | true =>
          rw [if_pos (by unfold mayB; rw [hb, hf]; rfl)] at next
          have hlt : s ||| 2 ^ j < 2 ^ l.length := Nat.or_lt_two_pow hs (Nat.pow_lt_pow_right (by decide) hjl)
          have hlW := hW.1
          refine Ev.ifn (by decide) ?_
          rw [(mask_add s (setOf s) hm j (by omega)).1]
          refine Ev.ifp (by omega) (Ev.ifp (by rw [hlW]; omega) ?_)
          rw [rd_nat, Int.toNat_natCast, no_wrap hn hW hs hjl hb v h0 hv]
          exact next
      · have hb' : ¬ (j : Int) ∉ setOf s := fun q => hb (hbit.2 q)
        rw [if_neg (fun q => by unfold mayB at q; rw [Bool.and_eq_true] at q; exact hb (by simpa using q.1))] at next
        exact Ev.ifn (fun q => hb' ((bit_zero s (setOf s) hm j (by omega)).1 q)) next
    · refine Ev.ifn hpos ?_
      have hz : v = 0 := by omega
      subst hz
      have same : (if mayB l s j = true then W.set (s ||| 2 ^ j) (W.getD (s ||| 2 ^ j) 0 + 0) else W) = W := by
        by_cases q : mayB l s j = true
        · rw [if_pos q]
          exact set_same W _ (by rw [hW.1]; exact Nat.or_lt_two_pow hs (Nat.pow_lt_pow_right (by decide) hjl))
        · rw [if_neg q]
      rw [same] at next
      exact next
theorem okW2_row {l : List Instr} (hn : l.length ≤ 12) {s : Nat} (hs : s < 2 ^ l.length) (v : Int) (h0 : 0 ≤ v) (hv : v ≤ ((12 ^ pcnt s : Nat) : Int)) : ∀ (d j : Nat) (W : List Int), j + d = l.length → okW2 l.length s j W → okW2 l.length (s + 1) 0 ((List.range' j d).foldl (ctStep l s v) W) := by
  intro d
  induction d with
  | zero =>
    intro j W hj h
    obtain rfl : j = l.length := by omega
    exact okW2_mono h (fun e => done_row s l.length e)
  | succ d ih =>
    intro j W hj h
    rw [List.range'_succ, List.foldl_cons]
    exact ih (j + 1) _ (by omega) (okW2_ct hn h hs (by omega) v h0 hv)
theorem okW2_set {l : List Instr} (hn : l.length ≤ 12) {s : Nat} (hs : s < 2 ^ l.length) {W : List Int} (h : okW2 l.length s 0 W) : okW2 l.length (s + 1) 0 (ctSet l W s) := by
  obtain ⟨h0, hv⟩ := okW2_val h s hs
  exact okW2_row hn hs _ h0 hv l.length 0 W (by omega) h
def ctStart (n : Nat) : List Int := (List.replicate (2 ^ n) 0).set 0 1
def ctR (l : List Instr) : Int × Bool := if okBlock l = true ∧ l.length ≤ 12 then (((List.range' 0 (2 ^ l.length)).foldl (ctSet l) (ctStart l.length)).getD (2 ^ l.length - 1) 0, true) else (0, false)
theorem okCode12 (l : List Instr) (h : l.length ≤ 12) : okCode l = okBlock l := by
  rw [okBlock_eq, decide_eq_true (by omega : l.length ≤ 20), Bool.and_true]
theorem implCT_ev (l : List Instr) (hl : l.length ≤ 1048576) : Ev (fun k => impl_CountOrders.f k l) (ctR l) := by
  unfold impl_CountOrders.f
  have no : Ev (fun k => impl_CountOrders.j0 k l true) (0, false) := Ev.step (fun k => by simp only [impl_CountOrders.j0]; rfl) (Ev.ifp (by decide) (Ev.now _))
  refine Ev.bind (isCode_ev l) ?_
  unfold ctR
  by_cases hn : l.length ≤ 12
  · rw [okCode12 l hn]
    by_cases h : okBlock l = true
    · refine Ev.ifp h ?_
      rw [if_pos ⟨h, hn⟩, decide_eq_false (by omega : ¬ (l.length : Int) > 12)]
      have loop : ∀ (d s : Nat) (W : List Int), s + d = 2 ^ l.length → okW2 l.length s 0 W → Ev (fun k => impl_CountOrders.l0 k l (tabI l l.length) W ((2 ^ l.length : Nat) : Int) s) (((List.range' s d).foldl (ctSet l) W).getD (2 ^ l.length - 1) 0, true) := by
        have hp := Nat.two_pow_pos l.length
        have hb : 2 ^ l.length ≤ 4096 := Nat.pow_le_pow_right (n := 2) (by decide) hn
        intro d
        induction d with
        | zero =>
          intro s W hs h
          have hW := h.1
          refine Ev.step (fun k => by simp only [impl_CountOrders.l0]; rfl) (Ev.ifn (by omega) ?_)
          rw [show wrap64 ((W.length : Int) - 1) = ((2 ^ l.length - 1 : Nat) : Int) by rw [hW]; generalize 2 ^ l.length = p at hp hb ⊢; unfold wrap64; omega]
          refine Ev.ifp (by omega) (Ev.ifp (by rw [hW]; generalize 2 ^ l.length = p at hp hb ⊢; omega) (Ev.some ?_))
          rw [rd_nat]
          rfl
        | succ d ih =>
          intro s W hs h
          have hW := h.1
          have hsl : s < 2 ^ l.length := by omega
          obtain ⟨h0, hv⟩ := okW2_val h s hsl
          refine Ev.step (fun k => by simp only [impl_CountOrders.l0]; rfl) (Ev.ifp (by omega) (Ev.ifp (by omega) (Ev.ifp (by rw [hW]; omega) ?_)))
          rw [rd_nat]
          refine implCT1_ev l hn s hsl _ h0 hv _ _ l.length 0 W (by omega) h ?_
          rw [w64n s (by omega), List.range'_succ, List.foldl_cons]
          exact ih (s + 1) (ctSet l W s) (by omega) (okW2_set hn hsl h)
      have hp := Nat.two_pow_pos l.length
      have hb : 2 ^ l.length ≤ 4096 := Nat.pow_le_pow_right (n := 2) (by decide) hn
      refine Ev.step (fun k => by simp only [impl_CountOrders.j0]; rfl) (Ev.ifn (by decide) (Ev.bind (delays_ev l hl) ?_))
      rw [shl_one l.length (by omega), Int.toNat_natCast]
      refine Ev.ifp (by omega) (Ev.ifp (by omega) (Ev.call rfl ?_))
      rw [List.length_replicate]
      refine Ev.ifp (by omega) ?_
      exact loop (2 ^ l.length) 0 (ctStart l.length) (by omega) (okW2_start l.length)
    · rw [if_neg (fun q => h q.1)]
      exact Ev.ifn h no
  · rw [if_neg (fun q => hn q.2)]
    by_cases h : okCode l = true
    · refine Ev.ifp h ?_
      rw [decide_eq_true (by omega : (l.length : Int) > 12)]
      exact no
    · exact Ev.ifn h no
theorem specCT2_ev (l : List Instr) (hn : l.length ≤ 12) (s : Nat) (hs : s < 2 ^ l.length) (v : Int) (h0 : 0 ≤ v) (hv : v ≤ ((12 ^ pcnt s : Nat) : Int)) (N : Int) (T : Int × Bool) (j : Nat) (hj : j < l.length) (W : List Int) (hW : okW2 l.length s j W) :
    ∀ (d i : Nat) (b : Bool), i + d = l.length → (b = true → s.testBit j = false) →
      Ev (fun k => spec_CountOrders.l1 k l (tabS l l.length) (if (b && (List.range' i d).all fun u => decide (dlyS l u j < 0) || decide ((u : Int) ∈ setOf s)) = true then W.set (s ||| 2 ^ j) (W.getD (s ||| 2 ^ j) 0 + v) else W) s v N s l.length ((j + 1 : Nat) : Int)) T →
      Ev (fun k => spec_CountOrders.l2 k l (tabS l l.length) W s v j b N s l.length j l.length i) T := by
  have hs20 : s < 2 ^ 20 := Nat.lt_of_lt_of_le hs (Nat.pow_le_pow_right (by decide) (by omega))
  have hm := mask_setOf s hs20
  intro d
  induction d with
  | zero =>
    intro i b hi hb hc
    rw [show (List.range' i 0) = [] from rfl, List.all_nil, Bool.and_true] at hc
    refine Ev.step (fun k => by simp only [spec_CountOrders.l2]; rfl) (Ev.ifn (by omega) ?_)
    rw [w64n j (by omega)]
    cases b with
    | true =>
      rw [if_pos rfl] at hc
      have hlt : s ||| 2 ^ j < 2 ^ l.length := Nat.or_lt_two_pow hs (Nat.pow_lt_pow_right (by decide) hj)
      have hlW := hW.1
      refine Ev.ifp rfl (Ev.ifp (by omega) ?_)
      rw [(mask_add s (setOf s) hm j (by omega)).1]
      refine Ev.ifp (by omega) (Ev.ifp (by rw [hlW]; omega) ?_)
      rw [rd_nat, Int.toNat_natCast, no_wrap hn hW hs hj (hb rfl) v h0 hv]
      exact hc
    | false =>
      rw [if_neg (by decide)] at hc
      exact Ev.ifn (by decide) hc
  | succ d ih =>
    intro i b hi hb hc
    rw [List.range'_succ, List.all_cons] at hc
    refine Ev.step (fun k => by simp only [spec_CountOrders.l2]; rfl) (Ev.ifp (by omega) ?_)
    rw [w64n i (by omega)]
    cases b with
    | false =>
      refine Ev.ifn (by decide) (ih (i + 1) false (by omega) (fun q => by cases q) ?_)
      rw [Bool.false_and] at hc ⊢
      exact hc
    | true =>
      rw [Bool.true_and] at hc
      rw [tabS_at l l.length i (by omega)]
      refine Ev.ifp rfl (Ev.ifp (by omega) (Ev.ifp (by rw [tabS_len]; omega) (Ev.ifp (by omega) (Ev.ifp (by rw [rowS_len]; omega) ?_))))
      rw [rowS_at l i l.length j hj]
      by_cases hd : dlyS l i j < 0
      · refine Ev.ifp hd (ih (i + 1) true (by omega) hb ?_)
        rw [decide_eq_true hd, Bool.true_or] at hc
        exact hc
      · rw [decide_eq_false hd, Bool.false_or] at hc
        refine Ev.ifn hd ?_
        rw [tmod_bit s i (by omega)]
        have e : ((if s.testBit i = true then (1 : Int) else 0) == 1) = decide ((i : Int) ∈ setOf s) := by
          have := mem_setOf s i (by omega)
          cases hti : s.testBit i with
          | true => rw [decide_eq_true (this.2 hti)]; rfl
          | false => rw [decide_eq_false (fun q => by rw [this.1 q] at hti; cases hti)]; rfl
        rw [e]
        exact ih (i + 1) _ (by omega) (fun _ => hb rfl) hc
theorem specCT1_ev (l : List Instr) (hn : l.length ≤ 12) (s : Nat) (hs : s < 2 ^ l.length) (v : Int) (h0 : 0 ≤ v) (hv : v ≤ ((12 ^ pcnt s : Nat) : Int)) (N : Int) (T : Int × Bool) :
    ∀ (d j : Nat) (W : List Int), j + d = l.length → okW2 l.length s j W → Ev (fun k => spec_CountOrders.l0 k l (tabS l l.length) ((List.range' j d).foldl (ctStep l s v) W) N (wrap64 ((s : Int) + 1))) T →
      Ev (fun k => spec_CountOrders.l1 k l (tabS l l.length) W s v N s l.length j) T := by
  intro d
  induction d with
  | zero =>
    intro j W hj hW hc
    exact Ev.step (fun k => by simp only [spec_CountOrders.l1]; rfl) (Ev.ifn (by omega) hc)
  | succ d ih =>
    intro j W hj hW hc
    have hjl : j < l.length := by omega
    rw [List.range'_succ, List.foldl_cons] at hc
    have next := ih (j + 1) (ctStep l s v W j) (by omega) (okW2_ct hn hW hs hjl v h0 hv) hc
    refine Ev.step (fun k => by simp only [spec_CountOrders.l1]; rfl) (Ev.ifp (by omega) (Ev.ifp (by omega) ?_))
    rw [tmod_bit s j (by omega)]
    have e : ((if s.testBit j = true then (1 : Int) else 0) == 0) = !s.testBit j := by cases s.testBit j <;> rfl
    rw [e]
    refine specCT2_ev l hn s hs v h0 hv N T j hjl W hW l.length 0 (!s.testBit j) (by omega) (fun q => by simpa using q) ?_
    rw [← List.range_eq_range', free_all l (setOf s) j (by omega)]
    exact next
theorem specCT_ev (l : List Instr) (hl : l.length ≤ 1048576) : Ev (fun k => spec_CountOrders.f k l) (ctR l) := by
  unfold spec_CountOrders.f
  have no : Ev (fun k => spec_CountOrders.j0 k l true) (0, false) := Ev.step (fun k => by simp only [spec_CountOrders.j0]; rfl) (Ev.ifp (by decide) (Ev.now _))
  refine Ev.bind (orGood_ev l) ?_
  unfold ctR
  by_cases h : okBlock l = true
  · refine Ev.ifp h ?_
    by_cases hn : l.length ≤ 12
    · rw [if_pos ⟨h, hn⟩, decide_eq_false (by omega : ¬ (l.length : Int) > 12)]
      have loop : ∀ (d s : Nat) (W : List Int), s + d = 2 ^ l.length → okW2 l.length s 0 W → Ev (fun k => spec_CountOrders.l0 k l (tabS l l.length) W ((2 ^ l.length : Nat) : Int) s) (((List.range' s d).foldl (ctSet l) W).getD (2 ^ l.length - 1) 0, true) := by
        have hp := Nat.two_pow_pos l.length
        have hb : 2 ^ l.length ≤ 4096 := Nat.pow_le_pow_right (n := 2) (by decide) hn
        intro d
        induction d with
        | zero =>
          intro s W hs h
          have hW := h.1
          refine Ev.step (fun k => by simp only [spec_CountOrders.l0]; rfl) (Ev.ifn (by omega) ?_)
          rw [show wrap64 ((W.length : Int) - 1) = ((2 ^ l.length - 1 : Nat) : Int) by rw [hW]; generalize 2 ^ l.length = p at hp hb ⊢; unfold wrap64; omega]
          refine Ev.ifp (by omega) (Ev.ifp (by rw [hW]; generalize 2 ^ l.length = p at hp hb ⊢; omega) (Ev.some ?_))
          rw [rd_nat]
          rfl
        | succ d ih =>
          intro s W hs h
          have hW := h.1
          have hsl : s < 2 ^ l.length := by omega
          obtain ⟨h0, hv⟩ := okW2_val h s hsl
          refine Ev.step (fun k => by simp only [spec_CountOrders.l0]; rfl) (Ev.ifp (by omega) (Ev.ifp (by omega) (Ev.ifp (by rw [hW]; omega) ?_)))
          rw [rd_nat]
          refine specCT1_ev l hn s hsl _ h0 hv _ _ l.length 0 W (by omega) h ?_
          rw [w64n s (by omega), List.range'_succ, List.foldl_cons]
          exact ih (s + 1) (ctSet l W s) (by omega) (okW2_set hn hsl h)
      have hp := Nat.two_pow_pos l.length
      have hb : 2 ^ l.length ≤ 4096 := Nat.pow_le_pow_right (n := 2) (by decide) hn
      refine Ev.step (fun k => by simp only [spec_CountOrders.j0]; rfl) (Ev.ifn (by decide) (Ev.bind (orDelays_ev l hl (okBlock_of h).2) ?_))
      rw [shl_one l.length (by omega), Int.toNat_natCast]
      refine Ev.ifp (by omega) (Ev.ifp (by omega) (Ev.call rfl ?_))
      rw [List.length_replicate]
      refine Ev.ifp (by omega) ?_
      exact loop (2 ^ l.length) 0 (ctStart l.length) (by omega) (okW2_start l.length)
    · rw [if_neg (fun q => hn q.2), decide_eq_true (by omega : (l.length : Int) > 12)]
      exact no
  · rw [if_neg (fun q => h q.1)]
    exact Ev.ifn h no
end Go.Proofs.Yteaablbhdmkcpaa.PL
namespace Go.Proofs.Yteaablbhdmkcpaa.Pure
open Go Go.RowKit Go.Proofs.YteaablbhdmkcpaaW.PrintWords Go.Proofs.YteaablbhdmkcpaaW.PrintLast Go.Proofs.YteaablbhdmkcpaaW.PrintMore Go.Proofs.Yteaablbhdmkcpaa.Q Go.Proofs.Yteaablbhdmkcpaa.PL
set_option linter.unusedSimpArgs false
set_option linter.unusedVariables false
theorem FnExactCountOrders : laws_FnExactCountOrders.Pure := by
  intro a0 h0
  refine Ev.rounds (g := fun k => laws_FnExactCountOrders.f k a0) ?_
  unfold laws_FnExactCountOrders.f
  obtain ⟨r0, hr0, hr0'⟩ := szInstrS_ev a0 1048576 h0 (by decide) (by decide)
  refine Ev.bind hr0 ?_
  by_cases hn0 : r0 < 0
  · exact Ev.ifp hn0 (Ev.now _)
  have hl0 := hr0' (by omega)
  have q0 := hl0.2.2
  refine Ev.ifn hn0 ?_
  have b0 : a0.length ≤ 1048576 := by have := hl0.1; omega
  refine Ev.bind (toInstrS_ev a0 b0) (?_)
  refine Ev.bind (specCT_ev (a0.map cvI) (by simpa using b0)) ?_
  refine Ev.bind (toInstrS_ev a0 b0) (?_)
  refine Ev.bind (implCT_ev (a0.map cvI) (by simpa using b0)) ?_
  refine Ev.ifp rfl ?_
  rw [bne_self' _]
  refine Ev.step (fun k => by simp only [laws_FnExactCountOrders.j0]; rfl) (Ev.ifn (by decide) ?_)
  exact Ev.bind (toInstrS_ev a0 b0) (Ev.bind (eqInstrS_refl _ (by simpa using b0)) (Ev.ifp rfl (Ev.now _)))
end Go.Proofs.Yteaablbhdmkcpaa.Pure
end
