/- Proved here: contracts of functions that the law FnExactCountUnpruned reaches, and lemmas on what they compute; texts of this session and the printed words of the kit that they lean on, cut down and put together by its program link.py. Conditions: as each states. -/
import Derived.Carry
import Derived.Deep.Slices
import Derived.Laws.BitsLemmas
import Derived.ProofKit
import Derived.Test.YtnaafcleafbejaaZFnExactCountUnpruned1
import Derived.Test.YtnaafcleafbejaaZFnExactCountUnpruned2
import Derived.Test.YtnaafcleafbejaaZFnExactCountUnpruned3
section
namespace Go.Proofs.Ytnaafcleafbejaa.Q
open Go.RowKit Go.Proofs.YtnaafcleafbejaaW.PrintWords Go.Proofs.YtnaafcleafbejaaW.PrintLast Go.Proofs.YtnaafcleafbejaaW.PrintMore
set_option maxHeartbeats 8000000
set_option maxRecDepth 100000
attribute [local go_sem] max2_int min2_int max_two min_two max_three min_three max_four min_four
set_option linter.unusedVariables false
set_option linter.unusedSimpArgs false
mutual
def spec_suPruned.l0 : Nat → List (S64) → List (S64) → Int → Int → Option (Bool)
  | 0, _, _, _, _ => none
  | k + 1, x0, x6, x7, x8 => if x8 < x7 then (if 0 ≤ x8 then (if x8 < (x6.length : Int) then (if ((rd_T64 x6 x8).f2) > ((rd_T64 x6 x8).f3) then ((spec_l1HasS.f k (([(⟨#[97, 100, 100]⟩ : ByteArray), (⟨#[97, 110, 100]⟩ : ByteArray), (⟨#[111, 114]⟩ : ByteArray), (⟨#[120, 111, 114]⟩ : ByteArray), (⟨#[109, 117, 108]⟩ : ByteArray), (⟨#[101, 113]⟩ : ByteArray)] : List ByteArray)) ((rd_T64 x6 x8).f0)).bind fun t106 => (spec_suPruned.j1 k x0 x8 x6 x7 x8 t106)) else (spec_suPruned.j1 k x0 x8 x6 x7 x8 false)) else (none)) else (none)) else (some false)
def spec_suPruned.j1 : Nat → List (S64) → Int → List (S64) → Int → Int → Bool → Option (Bool)
  | 0, _, _, _, _, _, _ => none
  | k + 1, x0, x3, x6, x7, x8, x23 => if x23 = true then (some true) else (spec_suPruned.l1 k x0 x3 0 x6 x7 x8)
def spec_suPruned.l1 : Nat → List (S64) → Int → Int → List (S64) → Int → Int → Option (Bool)
  | 0, _, _, _, _, _, _ => none
  | k + 1, x0, x3, x5, x6, x7, x8 => if x5 < (wrap64 (2 + x3)) then (if x5 = 1 then (if (wrap64 (x3 + 1)) < (x0.length : Int) then (if 0 ≤ (wrap64 (x3 + 1)) then (if (wrap64 (x3 + 1)) ≤ (x0.length : Int) then ((spec_suAlike.f k (x0.take ((wrap64 (x3 + 1)) : Int).toNat) (wrap64 (2 + x3)) x5).bind fun t111 => (if t111 = true then (some true) else (spec_suPruned.l1 k x0 x3 (wrap64 (x5 + 1)) x6 x7 x8))) else (none)) else (none)) else (spec_suPruned.l1 k x0 x3 (wrap64 (x5 + 1)) x6 x7 x8)) else (if 0 ≤ (wrap64 (x3 + 1)) then (if (wrap64 (x3 + 1)) ≤ (x0.length : Int) then ((spec_suAlike.f k (x0.take ((wrap64 (x3 + 1)) : Int).toNat) (wrap64 (2 + x3)) x5).bind fun t116 => (if t116 = true then (some true) else (spec_suPruned.l1 k x0 x3 (wrap64 (x5 + 1)) x6 x7 x8))) else (none)) else (none))) else (spec_suPruned.l0 k x0 x6 x7 (wrap64 (x8 + 1)))
end
def spec_suPruned.f (k : Nat) (l0 : List (S64)) : Option (Bool) := spec_suPruned.l0 k l0 l0 (l0.length : Int) 0
theorem spec_suPruned.mono_l : ∀ k, (∀ y0 y1 y2 y3, LeO (spec_suPruned.l0 k y0 y1 y2 y3) (spec_suPruned.l0 (k + 1) y0 y1 y2 y3)) ∧ (∀ y0 y1 y2 y3 y4 y5, LeO (spec_suPruned.j1 k y0 y1 y2 y3 y4 y5) (spec_suPruned.j1 (k + 1) y0 y1 y2 y3 y4 y5)) ∧ (∀ y0 y1 y2 y3 y4 y5, LeO (spec_suPruned.l1 k y0 y1 y2 y3 y4 y5) (spec_suPruned.l1 (k + 1) y0 y1 y2 y3 y4 y5))
  | 0 => ⟨fun _ _ _ _ r h => by simp [spec_suPruned.l0] at h, fun _ _ _ _ _ _ r h => by simp [spec_suPruned.j1] at h, fun _ _ _ _ _ _ r h => by simp [spec_suPruned.l1] at h⟩
  | k + 1 => by
    obtain ⟨ih0, ih1, ih2⟩ := spec_suPruned.mono_l k
    refine ⟨?_, ?_, ?_⟩
    · intro y0 y1 y2 y3
      unfold spec_suPruned.l0
      repeat' first
      | (with_reducible exact ih0 _ _ _ _)
      | (with_reducible exact ih1 _ _ _ _ _ _)
      | (with_reducible exact ih2 _ _ _ _ _ _)
      | (with_reducible exact spec_l1HasS.mono _ _ _)
      | (with_reducible exact spec_suAlike.mono _ _ _ _)
      | (with_reducible exact LeO.refl _)
      | (with_reducible exact LeO.none _)
      | (with_reducible refine LeO.ite ?_ ?_)
      | (with_reducible refine LeO.bind ?_ (fun _ => ?_))
      | exact ih0 _ _ _ _
      | exact ih1 _ _ _ _ _ _
      | exact ih2 _ _ _ _ _ _
      | exact spec_l1HasS.mono _ _ _
      | exact spec_suAlike.mono _ _ _ _
      | exact LeO.none _
      | refine LeO.ite ?_ ?_
      | refine LeO.bind ?_ (fun _ => ?_)
    · intro y0 y1 y2 y3 y4 y5
      unfold spec_suPruned.j1
      repeat' first
      | (with_reducible exact ih0 _ _ _ _)
      | (with_reducible exact ih1 _ _ _ _ _ _)
      | (with_reducible exact ih2 _ _ _ _ _ _)
      | (with_reducible exact spec_l1HasS.mono _ _ _)
      | (with_reducible exact spec_suAlike.mono _ _ _ _)
      | (with_reducible exact LeO.refl _)
      | (with_reducible exact LeO.none _)
      | (with_reducible refine LeO.ite ?_ ?_)
      | (with_reducible refine LeO.bind ?_ (fun _ => ?_))
      | exact ih0 _ _ _ _
      | exact ih1 _ _ _ _ _ _
      | exact ih2 _ _ _ _ _ _
      | exact spec_l1HasS.mono _ _ _
      | exact spec_suAlike.mono _ _ _ _
      | exact LeO.none _
      | refine LeO.ite ?_ ?_
      | refine LeO.bind ?_ (fun _ => ?_)
    · intro y0 y1 y2 y3 y4 y5
      unfold spec_suPruned.l1
      repeat' first
      | (with_reducible exact ih0 _ _ _ _)
      | (with_reducible exact ih1 _ _ _ _ _ _)
      | (with_reducible exact ih2 _ _ _ _ _ _)
      | (with_reducible exact spec_l1HasS.mono _ _ _)
      | (with_reducible exact spec_suAlike.mono _ _ _ _)
      | (with_reducible exact LeO.refl _)
      | (with_reducible exact LeO.none _)
      | (with_reducible refine LeO.ite ?_ ?_)
      | (with_reducible refine LeO.bind ?_ (fun _ => ?_))
      | exact ih0 _ _ _ _
      | exact ih1 _ _ _ _ _ _
      | exact ih2 _ _ _ _ _ _
      | exact spec_l1HasS.mono _ _ _
      | exact spec_suAlike.mono _ _ _ _
      | exact LeO.none _
      | refine LeO.ite ?_ ?_
      | refine LeO.bind ?_ (fun _ => ?_)
theorem spec_suPruned.mono : ∀ a0 k, LeO (spec_suPruned.f k a0) (spec_suPruned.f (k + 1) a0) := by
  intro a0 k
  obtain ⟨ih0, ih1, ih2⟩ := spec_suPruned.mono_l k
  unfold spec_suPruned.f
  repeat' first
      | (with_reducible exact ih0 _ _ _ _)
      | (with_reducible exact ih1 _ _ _ _ _ _)
      | (with_reducible exact ih2 _ _ _ _ _ _)
      | (with_reducible exact spec_l1HasS.mono _ _ _)
      | (with_reducible exact spec_suAlike.mono _ _ _ _)
      | (with_reducible exact LeO.refl _)
      | (with_reducible exact LeO.none _)
      | (with_reducible refine LeO.ite ?_ ?_)
      | (with_reducible refine LeO.bind ?_ (fun _ => ?_))
      | exact ih0 _ _ _ _
      | exact ih1 _ _ _ _ _ _
      | exact ih2 _ _ _ _ _ _
      | exact spec_l1HasS.mono _ _ _
      | exact spec_suAlike.mono _ _ _ _
      | exact LeO.none _
      | refine LeO.ite ?_ ?_
      | refine LeO.bind ?_ (fun _ => ?_)
theorem spec_suPruned.calls (k : Nat) (A0 : Option Addr) (c0 : Nat) (l0 : List (S64)) (r : Bool) (w : World) (hr0 : Kd.C k64 w A0 l0.length l0) (hc0 : l0.length ≤ c0) (h : spec_suPruned.f k l0 = some r) :
    Calls Try.prog 48 #[.slice A0 l0.length c0] w fun e w' => e = .returned (.bool r) ∧ Below w.heap.size w w' := by
  have hu64 := Try.underlying64
  have HR0 := Aside0.mk hr0
  have HC0 := Aside0.mk hc0
  clear hr0 hc0
  have HB := Aside0.mk (Below.refl w.heap.size w)
  have H : (spec_suPruned.l0 k l0 l0 (l0.length : Int) 0) = some r := h
  clear h
  have H' := Aside0.mk H
  clear H
  go_enter Try.func48, Try.ntmps48
  go_wp2
  go_loopg [8] k (fun kq v8 w' => ∃ (x8_1 : Int), v8 = .int .i64 x8_1 ∧ Aside0 (spec_suPruned.l0 kq l0 l0 (l0.length : Int) x8_1 = some r) ∧ Aside0 (kq ≤ k) ∧ Aside0 (Below w.heap.size w w'))
  case atStart => exact ⟨(0), zq7, H', ⟨Nat.le_refl _⟩, ⟨zq1⟩⟩
  clear H'
  obtain ⟨x8_1, rfl, HA, HK1, HB⟩ := hrel
  cases gk with
  | zero => exact absurd HA.out (by simp [spec_suPruned.l0])
  | succ k1 =>
  have H := HA.out
  clear HA
  simp only [spec_suPruned.l0] at H
  by_cases c2 : x8_1 < (l0.length : Int)
  rotate_left
  · rw [if_neg c2] at H
    have c2b0 : decide (x8_1 < (l0.length : Int)) = false := decide_eq_false c2
    clear c2
    obtain rfl := Option.some.inj H
    go_wp2
    go_ret
    exact ⟨zq8, zq1⟩
  rw [if_pos c2] at H
  have c2b0 : decide (x8_1 < (l0.length : Int)) = true := decide_eq_true c2
  clear c2
  by_cases c3 : 0 ≤ x8_1
  rotate_left
  · rw [if_neg c3] at H
    exact absurd H (by simp)
  rw [if_pos c3] at H
  have c3b0 : decide (0 ≤ x8_1) = true := decide_eq_true c3
  clear c3
  by_cases c4 : x8_1 < (l0.length : Int)
  rotate_left
  · rw [if_neg c4] at H
    exact absurd H (by simp)
  rw [if_pos c4] at H
  have c4b0 : decide (x8_1 < (l0.length : Int)) = true := decide_eq_true c4
  clear c4
  have HC5 := Aside0.mk H
  clear H
  have p101 : 0 ≤ (x8_1 : Int) := of_decide_eq_true zq4
  have q101 : x8_1 < (l0.length : Int) := of_decide_eq_true zq4
  obtain ⟨ad101, e101, hx101_0, hx101_1, hx101_2, hx101_3, hx101_4⟩ := at_T64 HR0.out x8_1 p101 q101
  cases e101
  replace hx101_0 := (HB.out.cell (World.block_lt_of_cell? w _ hx101_0)).trans hx101_0
  replace hx101_1 := (HB.out.cell (World.block_lt_of_cell? w _ hx101_1)).trans hx101_1
  replace hx101_2 := (HB.out.cell (World.block_lt_of_cell? w _ hx101_2)).trans hx101_2
  replace hx101_3 := (HB.out.cell (World.block_lt_of_cell? w _ hx101_3)).trans hx101_3
  replace hx101_4 := (HB.out.cell (World.block_lt_of_cell? w _ hx101_4)).trans hx101_4
  replace p101 := eq_true p101
  replace q101 := eq_true q101
  go_upto_region 4 with (first | ((with_reducible refine zgd 4 ?_); (try (refine gate_guard (by rfl) ?_; dsimp only)); refine box_event ?hg (N := 4) ?hd (cs := #[.string (⟨#[]⟩ : ByteArray), .int .i64 0, .int .i64 0, .int .i64 0, .int .i64 0]) (t := 64) ?hr ?_; (case hd => rfl); (case hg => rfl); (case hr => first | (go_simp; done) | (go_simp; rfl)); intro gb102 hg w6 hbox hb; have BK102 := Aside0.mk (hbox); have GW102 := Aside0.mk ((zq11 : w.heap.size ≤ gb102)); have GE102 := Aside0.mk ((zq11 : w.heap.size ≤ gb102)); replace HB := Aside0.mk (below_step zq1 hb); clear hb hbox hg; have hcz7_0 : w6.cell? ⟨gb102, 0, none⟩ = some (.string (⟨#[]⟩ : ByteArray)) := (blk_cell BK102.out 0).trans rfl; have hcz7_1 : w6.cell? ⟨gb102, 1, none⟩ = some (.int .i64 0) := (blk_cell BK102.out 1).trans rfl; have hcz7_2 : w6.cell? ⟨gb102, 2, none⟩ = some (.int .i64 0) := (blk_cell BK102.out 2).trans rfl; have hcz7_3 : w6.cell? ⟨gb102, 3, none⟩ = some (.int .i64 0) := (blk_cell BK102.out 3).trans rfl; have hcz7_4 : w6.cell? ⟨gb102, 4, none⟩ = some (.int .i64 0) := (blk_cell BK102.out 4).trans rfl; have hfz7_0 := blk_frozen BK102.out 0; have hfz7_1 := blk_frozen BK102.out 1; have hfz7_2 := blk_frozen BK102.out 2; have hfz7_3 := blk_frozen BK102.out 3; have hfz7_4 := blk_frozen BK102.out 4))
  (try simp only [Act.put, List.setIfInBounds_toArray, List.set_cons_zero, List.set_cons_succ])
  go_cut [23] (fun v23 wc => ∃ (kq : Nat) (x23_4 : Bool), v23 = .bool x23_4 ∧ Aside0 (spec_suPruned.j1 kq l0 x8_1 l0 (l0.length : Int) x8_1 x23_4 = some r) ∧ Aside0 (kq ≤ k1) ∧ Aside0 (wc.heap[gb102]? = some (.cells #[.string ((rd_T64 l0 x8_1).f0), .int .i64 ((rd_T64 l0 x8_1).f1), .int .i64 ((rd_T64 l0 x8_1).f2), .int .i64 ((rd_T64 l0 x8_1).f3), .int .i64 ((rd_T64 l0 x8_1).f4)] 64 (0, 0))) ∧ Aside0 (Below w.heap.size w wc))
  case first =>
    have H := HC5.out
    clear HC5
    by_cases c8 : ((rd_T64 l0 x8_1).f2) > ((rd_T64 l0 x8_1).f3)
    rotate_left
    · rw [if_neg c8] at H
      have c8b0 : decide (((rd_T64 l0 x8_1).f3) < ((rd_T64 l0 x8_1).f2)) = false := decide_eq_false c8
      clear c8
      (first | rw [c8b0] | (simp only [i64_w, i32_w]; rw [c8b0]) | skip)
      have H' := Aside0.mk H
      clear H
      have hcz15_0 : w6.cell? ⟨gb102, 0, none⟩ = some (.string (⟨#[]⟩ : ByteArray)) := (blk_cell BK102.out 0).trans rfl
      have hcz15_1 : w6.cell? ⟨gb102, 1, none⟩ = some (.int .i64 0) := (blk_cell BK102.out 1).trans rfl
      have hcz15_2 : w6.cell? ⟨gb102, 2, none⟩ = some (.int .i64 0) := (blk_cell BK102.out 2).trans rfl
      have hcz15_3 : w6.cell? ⟨gb102, 3, none⟩ = some (.int .i64 0) := (blk_cell BK102.out 3).trans rfl
      have hcz15_4 : w6.cell? ⟨gb102, 4, none⟩ = some (.int .i64 0) := (blk_cell BK102.out 4).trans rfl
      have hfz15_0 := blk_frozen BK102.out 0
      have hfz15_1 := blk_frozen BK102.out 1
      have hfz15_2 := blk_frozen BK102.out 2
      have hfz15_3 := blk_frozen BK102.out 3
      have hfz15_4 := blk_frozen BK102.out 4
      go_wp2
      go_meet
      case rel => exact ⟨_, (false), zq7, H', ⟨zq25 HK1⟩, ⟨zq15 BK102⟩, ⟨zq2 GE102⟩⟩
    rw [if_pos c8] at H
    have c8b0 : decide (((rd_T64 l0 x8_1).f3) < ((rd_T64 l0 x8_1).f2)) = true := decide_eq_true c8
    clear c8
    (first | rw [c8b0] | (simp only [i64_w, i32_w]; rw [c8b0]) | skip)
    obtain ⟨y103, hy103⟩ : ∃ y_ : List ByteArray, y_ = (([(⟨#[97, 100, 100]⟩ : ByteArray), (⟨#[97, 110, 100]⟩ : ByteArray), (⟨#[111, 114]⟩ : ByteArray), (⟨#[120, 111, 114]⟩ : ByteArray), (⟨#[109, 117, 108]⟩ : ByteArray), (⟨#[101, 113]⟩ : ByteArray)] : List ByteArray)) := ⟨_, rfl⟩
    replace H : ((spec_l1HasS.f k1 y103 ((rd_T64 l0 x8_1).f0)).bind fun t106 => (spec_suPruned.j1 k1 l0 x8_1 l0 (l0.length : Int) x8_1 t106)) = some r := by first | (rw [hy103]; with_reducible exact H) | (have H2_ := (Option.bind_some _ _).symm.trans H; rw [hy103]; with_reducible exact H2_) | (have H2_ := (Option.bind_some _ _).symm.trans H; with_reducible exact H2_) | with_reducible exact H | (rw [hy103]; exact H) | exact H
    have Ny103 := Aside0.mk hy103
    clear hy103
    replace H := Option.bind_eq_some_iff.mp H
    obtain ⟨t106, A90, H⟩ := H
    replace H : (spec_suPruned.j1 k1 l0 x8_1 l0 (l0.length : Int) x8_1 t106) = some r := H
    have A9 := Aside0.mk A90
    clear A90
    have H' := Aside0.mk H
    clear H
    have hcz10_0 : w6.cell? ⟨gb102, 0, none⟩ = some (.string (⟨#[]⟩ : ByteArray)) := (blk_cell BK102.out 0).trans rfl
    have hcz10_1 : w6.cell? ⟨gb102, 1, none⟩ = some (.int .i64 0) := (blk_cell BK102.out 1).trans rfl
    have hcz10_2 : w6.cell? ⟨gb102, 2, none⟩ = some (.int .i64 0) := (blk_cell BK102.out 2).trans rfl
    have hcz10_3 : w6.cell? ⟨gb102, 3, none⟩ = some (.int .i64 0) := (blk_cell BK102.out 3).trans rfl
    have hcz10_4 : w6.cell? ⟨gb102, 4, none⟩ = some (.int .i64 0) := (blk_cell BK102.out 4).trans rfl
    have hfz10_0 := blk_frozen BK102.out 0
    have hfz10_1 := blk_frozen BK102.out 1
    have hfz10_2 := blk_frozen BK102.out 2
    have hfz10_3 := blk_frozen BK102.out 3
    have hfz10_4 := blk_frozen BK102.out 4
    go_wp2_with (first | ((with_reducible refine zgd 19 ?_); (try (refine gate_guard (by rfl) ?_; dsimp only)); refine Kd.R_lit Kd.string _ 9 ?hg (N := 19) ?hd (xs := ([(⟨#[97, 100, 100]⟩ : ByteArray), (⟨#[97, 110, 100]⟩ : ByteArray), (⟨#[111, 114]⟩ : ByteArray), (⟨#[120, 111, 114]⟩ : ByteArray), (⟨#[109, 117, 108]⟩ : ByteArray), (⟨#[101, 113]⟩ : ByteArray)] : List ByteArray)) (inner := [.string (⟨#[97, 100, 100]⟩ : ByteArray), .string (⟨#[97, 110, 100]⟩ : ByteArray), .string (⟨#[111, 114]⟩ : ByteArray), .string (⟨#[120, 111, 114]⟩ : ByteArray), .string (⟨#[109, 117, 108]⟩ : ByteArray), .string (⟨#[101, 113]⟩ : ByteArray)]) (ok := fun _ => True) (okp := fun _ => True) ?hr ?hp (fun _ hk => hk) trivial (Below.refl _ _) (Nat.le_refl _) (by simp) ?_; (case hd => rfl); (case hg => rfl); (case hr => first | (go_simp; done) | (go_simp; rfl)); (case hp => exact (Reps.one (show Kd.M Kd.string _ _ _ (⟨#[97, 100, 100]⟩ : ByteArray) [.string (⟨#[97, 100, 100]⟩ : ByteArray)] from rfl) (Reps.one (show Kd.M Kd.string _ _ _ (⟨#[97, 110, 100]⟩ : ByteArray) [.string (⟨#[97, 110, 100]⟩ : ByteArray)] from rfl) (Reps.one (show Kd.M Kd.string _ _ _ (⟨#[111, 114]⟩ : ByteArray) [.string (⟨#[111, 114]⟩ : ByteArray)] from rfl) (Reps.one (show Kd.M Kd.string _ _ _ (⟨#[120, 111, 114]⟩ : ByteArray) [.string (⟨#[120, 111, 114]⟩ : ByteArray)] from rfl) (Reps.one (show Kd.M Kd.string _ _ _ (⟨#[109, 117, 108]⟩ : ByteArray) [.string (⟨#[109, 117, 108]⟩ : ByteArray)] from rfl) (Reps.one (show Kd.M Kd.string _ _ _ (⟨#[101, 113]⟩ : ByteArray) [.string (⟨#[101, 113]⟩ : ByteArray)] from rfl) (Reps.none _ _)))))))); intro v104 w11 ho12 hb hg_ hnew_; clear hg_ hnew_; (first | rw [← Ny103.out] at ho12 | (simp only [Int.reduceToNat] at ho12; rw [← Ny103.out] at ho12)); have HO105 := Aside0.mk (Kd.R_lower ho12 (below_size (zq2 GE102))); replace BK102 := Aside0.mk (blk_below (g := gb102) (o := .cells #[.string ((rd_T64 l0 x8_1).f0), .int .i64 ((rd_T64 l0 x8_1).f1), .int .i64 ((rd_T64 l0 x8_1).f2), .int .i64 ((rd_T64 l0 x8_1).f3), .int .i64 ((rd_T64 l0 x8_1).f4)] 64 (0, 0)) (zq15 BK102) hb); replace HB := Aside0.mk (below_step (zq2 GE102) hb); clear hb ho12; have hcz13_0 : w11.cell? ⟨gb102, 0, none⟩ = some (.string ((rd_T64 l0 x8_1).f0)) := (blk_cell BK102.out 0).trans rfl; have hcz13_1 : w11.cell? ⟨gb102, 1, none⟩ = some (.int .i64 ((rd_T64 l0 x8_1).f1)) := (blk_cell BK102.out 1).trans rfl; have hcz13_2 : w11.cell? ⟨gb102, 2, none⟩ = some (.int .i64 ((rd_T64 l0 x8_1).f2)) := (blk_cell BK102.out 2).trans rfl; have hcz13_3 : w11.cell? ⟨gb102, 3, none⟩ = some (.int .i64 ((rd_T64 l0 x8_1).f3)) := (blk_cell BK102.out 3).trans rfl; have hcz13_4 : w11.cell? ⟨gb102, 4, none⟩ = some (.int .i64 ((rd_T64 l0 x8_1).f4)) := (blk_cell BK102.out 4).trans rfl; have hfz13_0 := blk_frozen BK102.out 0; have hfz13_1 := blk_frozen BK102.out 1; have hfz13_2 := blk_frozen BK102.out 2; have hfz13_3 := blk_frozen BK102.out 3; have hfz13_4 := blk_frozen BK102.out 4; obtain ⟨Ao14, co14, eo14⟩ := Kd.R_slice HO105.out; subst eo14) | (go_at_call 62; (with_reducible refine (spec_l1HasS.calls k1 _ _ y103 ((rd_T64 l0 x8_1).f0) t106 _ ?side1 ?side2 A9.out).mono ?_); (case side1 => repeat (first | exact (Kd.R_reads' HO105.out).2.2 | (with_reducible refine Kd.C_alloc ?_ _) | (with_reducible refine Kd.C_drewN ?_ _) | (with_reducible refine Kd.C_drew ?_))); (case side2 => exact (Kd.R_reads' HO105.out).2.1); rintro e w' ⟨rfl, ⟨nd, rfl⟩⟩))
    go_meet
    case rel => exact ⟨_, (t106), zq7, H', ⟨zq25 HK1⟩, ⟨zq3 BK102⟩, ⟨zq2 GE102⟩⟩
  clear HC5
  try clear c2
  try clear c2b0
  try clear c3
  try clear c3b0
  try clear c4
  try clear c4b0
  try clear c8
  try clear c8b0
  try clear hcz10_0
  try clear hcz10_1
  try clear hcz10_2
  try clear hcz10_3
  try clear hcz10_4
  try clear hcz13_0
  try clear hcz13_1
  try clear hcz13_2
  try clear hcz13_3
  try clear hcz13_4
  try clear hcz15_0
  try clear hcz15_1
  try clear hcz15_2
  try clear hcz15_3
  try clear hcz15_4
  try clear hcz7_0
  try clear hcz7_1
  try clear hcz7_2
  try clear hcz7_3
  try clear hcz7_4
  try clear hfz10_0
  try clear hfz10_1
  try clear hfz10_2
  try clear hfz10_3
  try clear hfz10_4
  try clear hfz13_0
  try clear hfz13_1
  try clear hfz13_2
  try clear hfz13_3
  try clear hfz13_4
  try clear hfz15_0
  try clear hfz15_1
  try clear hfz15_2
  try clear hfz15_3
  try clear hfz15_4
  try clear hfz7_0
  try clear hfz7_1
  try clear hfz7_2
  try clear hfz7_3
  try clear hfz7_4
  try clear hx101_0
  try clear hx101_1
  try clear hx101_2
  try clear hx101_3
  try clear hx101_4
  try clear p101
  try clear q101
  obtain ⟨kq, x23_4, rfl, HA, HJ4, BK102, HB⟩ := hcut
  cases kq with
  | zero => exact absurd HA.out (by simp [spec_suPruned.j1])
  | succ kj4 =>
  have H := HA.out
  clear HA
  simp only [spec_suPruned.j1] at H
  by_cases c16 : x23_4 = true
  · subst c16
    have H1 : (some true) = some r := by rw [if_pos rfl] at H; exact H
    clear H
    have H := H1
    clear H1
    obtain rfl := Option.some.inj H
    go_wp2
    go_ret
    exact ⟨zq8, zq2 GE102⟩
  replace c16 := Bool.eq_false_iff.mpr c16
  subst c16
  have H1 : (spec_suPruned.l1 kj4 l0 x8_1 0 l0 (l0.length : Int) x8_1) = some r := by rw [if_neg (show ¬ (false = true) by decide)] at H; exact H
  clear H
  have H := H1
  clear H1
  have H' := Aside0.mk H
  clear H
  go_wp2
  go_loopg [5] kj4 (fun kq v5 w' => ∃ (x5_3 : Int), v5 = .int .i64 x5_3 ∧ Aside0 (spec_suPruned.l1 kq l0 x8_1 x5_3 l0 (l0.length : Int) x8_1 = some r) ∧ Aside0 (kq ≤ kj4) ∧ Aside0 (w'.heap[gb102]? = some (.cells #[.string ((rd_T64 l0 x8_1).f0), .int .i64 ((rd_T64 l0 x8_1).f1), .int .i64 ((rd_T64 l0 x8_1).f2), .int .i64 ((rd_T64 l0 x8_1).f3), .int .i64 ((rd_T64 l0 x8_1).f4)] 64 (0, 0))) ∧ Aside0 (Below w.heap.size w w'))
  case atStart => exact ⟨(0), zq7, H', ⟨Nat.le_refl _⟩, ⟨zq3 BK102⟩, ⟨zq2 GE102⟩⟩
  clear H'
  try clear c2
  try clear c2b0
  try clear c3
  try clear c3b0
  try clear c4
  try clear c4b0
  try clear c8
  try clear c8b0
  try clear c16
  try clear hcz10_0
  try clear hcz10_1
  try clear hcz10_2
  try clear hcz10_3
  try clear hcz10_4
  try clear hcz13_0
  try clear hcz13_1
  try clear hcz13_2
  try clear hcz13_3
  try clear hcz13_4
  try clear hcz15_0
  try clear hcz15_1
  try clear hcz15_2
  try clear hcz15_3
  try clear hcz15_4
  try clear hcz7_0
  try clear hcz7_1
  try clear hcz7_2
  try clear hcz7_3
  try clear hcz7_4
  try clear hfz10_0
  try clear hfz10_1
  try clear hfz10_2
  try clear hfz10_3
  try clear hfz10_4
  try clear hfz13_0
  try clear hfz13_1
  try clear hfz13_2
  try clear hfz13_3
  try clear hfz13_4
  try clear hfz15_0
  try clear hfz15_1
  try clear hfz15_2
  try clear hfz15_3
  try clear hfz15_4
  try clear hfz7_0
  try clear hfz7_1
  try clear hfz7_2
  try clear hfz7_3
  try clear hfz7_4
  try clear hx101_0
  try clear hx101_1
  try clear hx101_2
  try clear hx101_3
  try clear hx101_4
  try clear p101
  try clear q101
  obtain ⟨x5_3, rfl, HA, HK3, BK102, HB⟩ := hrel
  cases gk with
  | zero => exact absurd HA.out (by simp [spec_suPruned.l1])
  | succ k3 =>
  have H := HA.out
  clear HA
  simp only [spec_suPruned.l1] at H
  by_cases c17 : x5_3 < (wrap64 (2 + x8_1))
  rotate_left
  · rw [if_neg c17] at H
    have c17b0 : decide (x5_3 < (wrap64 (2 + x8_1))) = false := decide_eq_false c17
    clear c17
    have H' := Aside0.mk H
    clear H
    go_wp2
    go_roundg k3
    case measure => have := HK1.out; have := HJ4.out; have := HK3.out; omega
    case rel => exact ⟨(wrap64 (x8_1 + 1)), zq7, H', ⟨zq45 HK1 HJ4 HK3⟩, ⟨zq2 GE102⟩⟩
  rw [if_pos c17] at H
  have c17b0 : decide (x5_3 < (wrap64 (2 + x8_1))) = true := decide_eq_true c17
  clear c17
  by_cases c18 : x5_3 = 1
  rotate_left
  · rw [if_neg c18] at H
    obtain ⟨c18b0, c18b1⟩ := zbq c18
    obtain ⟨ji29, hji29⟩ : ∃ j_ : Int, (wrap64 (x8_1 + 1)) = j_ := ⟨_, rfl⟩
    replace H : (if 0 ≤ (ji29) then (if (ji29) ≤ (l0.length : Int) then ((spec_suAlike.f k3 (l0.take ((ji29) : Int).toNat) (wrap64 (2 + x8_1)) x5_3).bind fun t116 => (if t116 = true then (some true) else (spec_suPruned.l1 k3 l0 x8_1 (wrap64 (x5_3 + 1)) l0 (l0.length : Int) x8_1))) else (none)) else (none)) = some r := by first | (rw [hji29] at H; exact H) | (simp only [hji29] at H ⊢; exact H)
    have hji29w : (IntKind.i64.wrap (x8_1 + 1)) = ji29 := (i64_w _).trans hji29
    by_cases c30 : 0 ≤ (ji29)
    rotate_left
    · rw [if_neg c30] at H
      exact absurd H (by simp)
    rw [if_pos c30] at H
    have c30b0 := eq_true c30
    have c30b1 : decide (0 ≤ (ji29)) = true := decide_eq_true c30
    clear c30
    by_cases c31 : (ji29) ≤ (l0.length : Int)
    rotate_left
    · rw [if_neg c31] at H
      exact absurd H (by simp)
    rw [if_pos c31] at H
    have c31b0 := eq_true c31
    have c31b1 : decide ((ji29) ≤ (l0.length : Int)) = true := decide_eq_true c31
    clear c31
    obtain ⟨y112, hy112⟩ : ∃ y_ : List (S64), y_ = (l0.take ((ji29) : Int).toNat) := ⟨_, rfl⟩
    replace H : ((spec_suAlike.f k3 y112 (wrap64 (2 + x8_1)) x5_3).bind fun t116 => (if t116 = true then (some true) else (spec_suPruned.l1 k3 l0 x8_1 (wrap64 (x5_3 + 1)) l0 (l0.length : Int) x8_1))) = some r := by first | (rw [hy112]; with_reducible exact H) | (have H2_ := (Option.bind_some _ _).symm.trans H; rw [hy112]; with_reducible exact H2_) | (have H2_ := (Option.bind_some _ _).symm.trans H; with_reducible exact H2_) | with_reducible exact H | (rw [hy112]; exact H) | exact H
    have Ny112 := Aside0.mk hy112
    clear hy112
    replace H := Option.bind_eq_some_iff.mp H
    obtain ⟨t116, A320, H⟩ := H
    replace H : (if t116 = true then (some true) else (spec_suPruned.l1 k3 l0 x8_1 (wrap64 (x5_3 + 1)) l0 (l0.length : Int) x8_1)) = some r := H
    have A32 := Aside0.mk A320
    clear A320
    by_cases c33 : t116 = true
    · subst c33
      have H1 : (some true) = some r := by rw [if_pos rfl] at H; exact H
      clear H
      have H := H1
      clear H1
      obtain rfl := Option.some.inj H
      have q34 : ((ji29) : Int) ≤ ((l0.length : Int) : Int) := of_decide_eq_true zq4
      obtain ⟨i034, hi034, _, hsz34, _⟩ := info_parts info64
      have hroom34 : l0.length ≤ c0 := HC0.out
      have hC34 : Kd.C k64 _ (some ad101) l0.length l0 := HR0.out
      have hcut34 := cut_to (P := Try.prog) 37 64 .i64 Try.underlying37 hi034 (some ad101) l0.length c0 (ji29) (of_decide_eq_true zq4) q34 hroom34
      have hr34 := Kd.C_take (m := ((ji29) : Int).toNat) hC34 (by omega)
      have hy34 : y112.length = ((ji29) : Int).toNat := (by rw [Ny112.out, List.length_take]; omega)
      rw [← Ny112.out] at hr34
      rw [← hy34] at hcut34
      have HR115 := Aside0.mk hr34
      have HC115 := Aside0.mk (show y112.length ≤ c0 from by omega)
      clear hr34 hC34 hroom34 hi034 hsz34
      have KY34 := Aside0.mk hy34
      clear hy34
      replace q34 := eq_true q34
      go_wp2_with (first | (go_at_call 82; (with_reducible refine (spec_suAlike.calls k3 _ _ y112 (wrap64 (2 + x8_1)) x5_3 true _ ?side1 ?side2 A32.out).mono ?_); (case side1 => repeat (first | exact (Kd.C_below HR115.out HB.out) | (with_reducible refine Kd.C_alloc ?_ _) | (with_reducible refine Kd.C_drewN ?_ _) | (with_reducible refine Kd.C_drew ?_))); (case side2 => exact HC115.out); rintro e w35 ⟨rfl, hb⟩; replace BK102 := Aside0.mk (blk_below (g := gb102) (o := .cells #[.string ((rd_T64 l0 x8_1).f0), .int .i64 ((rd_T64 l0 x8_1).f1), .int .i64 ((rd_T64 l0 x8_1).f2), .int .i64 ((rd_T64 l0 x8_1).f3), .int .i64 ((rd_T64 l0 x8_1).f4)] 64 (0, 0)) (zq3 BK102) hb); replace HB := Aside0.mk (below_step (zq2 GE102) hb); (try clear hb)))
      go_ret
      exact ⟨by first | rfl | (simp [errW_none, errW_some] <;> rfl) | (simp only [← hji29]; first | rfl | (simp [errW_none, errW_some] <;> rfl)) | (simp [*, errW_none, errW_some] <;> rfl), zq2 GE102⟩
    replace c33 := Bool.eq_false_iff.mpr c33
    subst c33
    have H1 : (spec_suPruned.l1 k3 l0 x8_1 (wrap64 (x5_3 + 1)) l0 (l0.length : Int) x8_1) = some r := by rw [if_neg (show ¬ (false = true) by decide)] at H; exact H
    clear H
    have H := H1
    clear H1
    have H' := Aside0.mk H
    clear H
    have q36 : ((ji29) : Int) ≤ ((l0.length : Int) : Int) := of_decide_eq_true zq4
    obtain ⟨i036, hi036, _, hsz36, _⟩ := info_parts info64
    have hroom36 : l0.length ≤ c0 := HC0.out
    have hC36 : Kd.C k64 _ (some ad101) l0.length l0 := HR0.out
    have hcut36 := cut_to (P := Try.prog) 37 64 .i64 Try.underlying37 hi036 (some ad101) l0.length c0 (ji29) (of_decide_eq_true zq4) q36 hroom36
    have hr36 := Kd.C_take (m := ((ji29) : Int).toNat) hC36 (by omega)
    have hy36 : y112.length = ((ji29) : Int).toNat := (by rw [Ny112.out, List.length_take]; omega)
    rw [← Ny112.out] at hr36
    rw [← hy36] at hcut36
    have HR115 := Aside0.mk hr36
    have HC115 := Aside0.mk (show y112.length ≤ c0 from by omega)
    clear hr36 hC36 hroom36 hi036 hsz36
    have KY36 := Aside0.mk hy36
    clear hy36
    replace q36 := eq_true q36
    go_wp2_with (first | (go_at_call 82; (with_reducible refine (spec_suAlike.calls k3 _ _ y112 (wrap64 (2 + x8_1)) x5_3 false _ ?side1 ?side2 A32.out).mono ?_); (case side1 => repeat (first | exact (Kd.C_below HR115.out HB.out) | (with_reducible refine Kd.C_alloc ?_ _) | (with_reducible refine Kd.C_drewN ?_ _) | (with_reducible refine Kd.C_drew ?_))); (case side2 => exact HC115.out); rintro e w37 ⟨rfl, hb⟩; replace BK102 := Aside0.mk (blk_below (g := gb102) (o := .cells #[.string ((rd_T64 l0 x8_1).f0), .int .i64 ((rd_T64 l0 x8_1).f1), .int .i64 ((rd_T64 l0 x8_1).f2), .int .i64 ((rd_T64 l0 x8_1).f3), .int .i64 ((rd_T64 l0 x8_1).f4)] 64 (0, 0)) (zq3 BK102) hb); replace HB := Aside0.mk (below_step (zq2 GE102) hb); (try clear hb)))
    go_roundg k3
    case measure => have := HK1.out; have := HJ4.out; have := HK3.out; omega
    case rel => exact ⟨(wrap64 (x5_3 + 1)), zq7, H', ⟨zq45 HK1 HJ4 HK3⟩, ⟨zq3 BK102⟩, ⟨zq2 GE102⟩⟩
  rw [if_pos c18] at H
  obtain ⟨c18b0, c18b1⟩ := zbe c18
  clear c18
  by_cases c19 : (wrap64 (x8_1 + 1)) < (l0.length : Int)
  rotate_left
  · rw [if_neg c19] at H
    have c19b0 : decide ((wrap64 (x8_1 + 1)) < (l0.length : Int)) = false := decide_eq_false c19
    clear c19
    have H' := Aside0.mk H
    clear H
    go_wp2
    go_roundg k3
    case measure => have := HK1.out; have := HJ4.out; have := HK3.out; omega
    case rel => exact ⟨(wrap64 (x5_3 + 1)), zq7, H', ⟨zq45 HK1 HJ4 HK3⟩, ⟨zq3 BK102⟩, ⟨zq2 GE102⟩⟩
  rw [if_pos c19] at H
  have c19b0 : decide ((wrap64 (x8_1 + 1)) < (l0.length : Int)) = true := decide_eq_true c19
  clear c19
  obtain ⟨ji20, hji20⟩ : ∃ j_ : Int, (wrap64 (x8_1 + 1)) = j_ := ⟨_, rfl⟩
  replace H : (if 0 ≤ (ji20) then (if (ji20) ≤ (l0.length : Int) then ((spec_suAlike.f k3 (l0.take ((ji20) : Int).toNat) (wrap64 (2 + x8_1)) x5_3).bind fun t111 => (if t111 = true then (some true) else (spec_suPruned.l1 k3 l0 x8_1 (wrap64 (x5_3 + 1)) l0 (l0.length : Int) x8_1))) else (none)) else (none)) = some r := by first | (rw [hji20] at H; exact H) | (simp only [hji20] at H ⊢; exact H)
  (try rw [hji20] at c19b0)
  have hji20w : (IntKind.i64.wrap (x8_1 + 1)) = ji20 := (i64_w _).trans hji20
  by_cases c21 : 0 ≤ (ji20)
  rotate_left
  · rw [if_neg c21] at H
    exact absurd H (by simp)
  rw [if_pos c21] at H
  have c21b0 := eq_true c21
  have c21b1 : decide (0 ≤ (ji20)) = true := decide_eq_true c21
  clear c21
  by_cases c22 : (ji20) ≤ (l0.length : Int)
  rotate_left
  · rw [if_neg c22] at H
    exact absurd H (by simp)
  rw [if_pos c22] at H
  have c22b0 := eq_true c22
  have c22b1 : decide ((ji20) ≤ (l0.length : Int)) = true := decide_eq_true c22
  clear c22
  obtain ⟨y107, hy107⟩ : ∃ y_ : List (S64), y_ = (l0.take ((ji20) : Int).toNat) := ⟨_, rfl⟩
  replace H : ((spec_suAlike.f k3 y107 (wrap64 (2 + x8_1)) x5_3).bind fun t111 => (if t111 = true then (some true) else (spec_suPruned.l1 k3 l0 x8_1 (wrap64 (x5_3 + 1)) l0 (l0.length : Int) x8_1))) = some r := by first | (rw [hy107]; with_reducible exact H) | (have H2_ := (Option.bind_some _ _).symm.trans H; rw [hy107]; with_reducible exact H2_) | (have H2_ := (Option.bind_some _ _).symm.trans H; with_reducible exact H2_) | with_reducible exact H | (rw [hy107]; exact H) | exact H
  have Ny107 := Aside0.mk hy107
  clear hy107
  replace H := Option.bind_eq_some_iff.mp H
  obtain ⟨t111, A230, H⟩ := H
  replace H : (if t111 = true then (some true) else (spec_suPruned.l1 k3 l0 x8_1 (wrap64 (x5_3 + 1)) l0 (l0.length : Int) x8_1)) = some r := H
  have A23 := Aside0.mk A230
  clear A230
  by_cases c24 : t111 = true
  · subst c24
    have H1 : (some true) = some r := by rw [if_pos rfl] at H; exact H
    clear H
    have H := H1
    clear H1
    obtain rfl := Option.some.inj H
    have q25 : ((ji20) : Int) ≤ ((l0.length : Int) : Int) := of_decide_eq_true zq4
    obtain ⟨i025, hi025, _, hsz25, _⟩ := info_parts info64
    have hroom25 : l0.length ≤ c0 := HC0.out
    have hC25 : Kd.C k64 _ (some ad101) l0.length l0 := HR0.out
    have hcut25 := cut_to (P := Try.prog) 37 64 .i64 Try.underlying37 hi025 (some ad101) l0.length c0 (ji20) (of_decide_eq_true zq4) q25 hroom25
    have hr25 := Kd.C_take (m := ((ji20) : Int).toNat) hC25 (by omega)
    have hy25 : y107.length = ((ji20) : Int).toNat := (by rw [Ny107.out, List.length_take]; omega)
    rw [← Ny107.out] at hr25
    rw [← hy25] at hcut25
    have HR110 := Aside0.mk hr25
    have HC110 := Aside0.mk (show y107.length ≤ c0 from by omega)
    clear hr25 hC25 hroom25 hi025 hsz25
    have KY25 := Aside0.mk hy25
    clear hy25
    replace q25 := eq_true q25
    go_wp2_with (first | (go_at_call 82; (with_reducible refine (spec_suAlike.calls k3 _ _ y107 (wrap64 (2 + x8_1)) x5_3 true _ ?side1 ?side2 A23.out).mono ?_); (case side1 => repeat (first | exact (Kd.C_below HR110.out HB.out) | (with_reducible refine Kd.C_alloc ?_ _) | (with_reducible refine Kd.C_drewN ?_ _) | (with_reducible refine Kd.C_drew ?_))); (case side2 => exact HC110.out); rintro e w26 ⟨rfl, hb⟩; replace BK102 := Aside0.mk (blk_below (g := gb102) (o := .cells #[.string ((rd_T64 l0 x8_1).f0), .int .i64 ((rd_T64 l0 x8_1).f1), .int .i64 ((rd_T64 l0 x8_1).f2), .int .i64 ((rd_T64 l0 x8_1).f3), .int .i64 ((rd_T64 l0 x8_1).f4)] 64 (0, 0)) (zq3 BK102) hb); replace HB := Aside0.mk (below_step (zq2 GE102) hb); (try clear hb)))
    go_ret
    exact ⟨by first | rfl | (simp [errW_none, errW_some] <;> rfl) | (simp only [← hji20]; first | rfl | (simp [errW_none, errW_some] <;> rfl)) | (simp [*, errW_none, errW_some] <;> rfl), zq2 GE102⟩
  replace c24 := Bool.eq_false_iff.mpr c24
  subst c24
  have H1 : (spec_suPruned.l1 k3 l0 x8_1 (wrap64 (x5_3 + 1)) l0 (l0.length : Int) x8_1) = some r := by rw [if_neg (show ¬ (false = true) by decide)] at H; exact H
  clear H
  have H := H1
  clear H1
  have H' := Aside0.mk H
  clear H
  have q27 : ((ji20) : Int) ≤ ((l0.length : Int) : Int) := of_decide_eq_true zq4
  obtain ⟨i027, hi027, _, hsz27, _⟩ := info_parts info64
  have hroom27 : l0.length ≤ c0 := HC0.out
  have hC27 : Kd.C k64 _ (some ad101) l0.length l0 := HR0.out
  have hcut27 := cut_to (P := Try.prog) 37 64 .i64 Try.underlying37 hi027 (some ad101) l0.length c0 (ji20) (of_decide_eq_true zq4) q27 hroom27
  have hr27 := Kd.C_take (m := ((ji20) : Int).toNat) hC27 (by omega)
  have hy27 : y107.length = ((ji20) : Int).toNat := (by rw [Ny107.out, List.length_take]; omega)
  rw [← Ny107.out] at hr27
  rw [← hy27] at hcut27
  have HR110 := Aside0.mk hr27
  have HC110 := Aside0.mk (show y107.length ≤ c0 from by omega)
  clear hr27 hC27 hroom27 hi027 hsz27
  have KY27 := Aside0.mk hy27
  clear hy27
  replace q27 := eq_true q27
  go_wp2_with (first | (go_at_call 82; (with_reducible refine (spec_suAlike.calls k3 _ _ y107 (wrap64 (2 + x8_1)) x5_3 false _ ?side1 ?side2 A23.out).mono ?_); (case side1 => repeat (first | exact (Kd.C_below HR110.out HB.out) | (with_reducible refine Kd.C_alloc ?_ _) | (with_reducible refine Kd.C_drewN ?_ _) | (with_reducible refine Kd.C_drew ?_))); (case side2 => exact HC110.out); rintro e w28 ⟨rfl, hb⟩; replace BK102 := Aside0.mk (blk_below (g := gb102) (o := .cells #[.string ((rd_T64 l0 x8_1).f0), .int .i64 ((rd_T64 l0 x8_1).f1), .int .i64 ((rd_T64 l0 x8_1).f2), .int .i64 ((rd_T64 l0 x8_1).f3), .int .i64 ((rd_T64 l0 x8_1).f4)] 64 (0, 0)) (zq3 BK102) hb); replace HB := Aside0.mk (below_step (zq2 GE102) hb); (try clear hb)))
  go_roundg k3
  case measure => have := HK1.out; have := HJ4.out; have := HK3.out; omega
  case rel => exact ⟨(wrap64 (x5_3 + 1)), zq7, H', ⟨zq45 HK1 HJ4 HK3⟩, ⟨zq3 BK102⟩, ⟨zq2 GE102⟩⟩
end Go.Proofs.Ytnaafcleafbejaa.Q
end
section
namespace Go.Proofs.Ytnaafcleafbejaa.Q
open Go.RowKit Go.Proofs.YtnaafcleafbejaaW.PrintWords Go.Proofs.YtnaafcleafbejaaW.PrintLast Go.Proofs.YtnaafcleafbejaaW.PrintMore
set_option maxHeartbeats 8000000
set_option maxRecDepth 100000
attribute [local go_sem] max2_int min2_int max_two min_two max_three min_three max_four min_four
set_option linter.unusedVariables false
set_option linter.unusedSimpArgs false
def spec_suWith.l0 : Nat → Int → List (S64) → Int → List ByteArray → List Int → Option ((List (S64)))
  | 0, _, _, _, _, _ => none
  | k + 1, x2, x7, x8, x102000, x102001 => if x8 ≥ 0 then ((spec_suSteps.f k x102000 x102001 x8).bind fun t105 => (if (t105.length : Int) = 0 then (none) else (if 0 ≤ (Int.tmod x2 (t105.length : Int)) then (if (Int.tmod x2 (t105.length : Int)) < (t105.length : Int) then (if 0 ≤ x8 then (if x8 < (x7.length : Int) then (spec_suWith.l0 k (wrap64 (Int.tdiv x2 (t105.length : Int))) (x7.set (x8 : Int).toNat (⟨(rd_T64 t105 (Int.tmod x2 (t105.length : Int))).f0, (rd_T64 t105 (Int.tmod x2 (t105.length : Int))).f1, (rd_T64 t105 (Int.tmod x2 (t105.length : Int))).f2, (rd_T64 t105 (Int.tmod x2 (t105.length : Int))).f3, (rd_T64 t105 (Int.tmod x2 (t105.length : Int))).f4⟩ : S64)) (wrap64 (x8 - 1)) x102000 x102001) else (none)) else (none)) else (none)) else (none)))) else (some x7)
def spec_suWith.f (k : Nat) (l0_0 : List ByteArray) (l0_1 : List Int) (a1 : Int) (a2 : Int) : Option ((List (S64))) := if 0 ≤ a1 then (if (a1 : Int).toNat ≤ 5864062014805 then (spec_suWith.l0 k a2 (List.replicate (a1 : Int).toNat z64) (wrap64 (a1 - 1)) l0_0 l0_1) else (none)) else (none)
theorem spec_suWith.mono_l : ∀ k, (∀ y0 y1 y2 y3 y4, LeO (spec_suWith.l0 k y0 y1 y2 y3 y4) (spec_suWith.l0 (k + 1) y0 y1 y2 y3 y4))
  | 0 => fun _ _ _ _ _ r h => by simp [spec_suWith.l0] at h
  | k + 1 => by
    have ih0 := spec_suWith.mono_l k
    · intro y0 y1 y2 y3 y4
      unfold spec_suWith.l0
      repeat' first
      | (with_reducible exact ih0 _ _ _ _ _)
      | (with_reducible exact spec_suSteps.mono _ _ _ _)
      | (with_reducible exact LeO.refl _)
      | (with_reducible exact LeO.none _)
      | (with_reducible refine LeO.ite ?_ ?_)
      | (with_reducible refine LeO.bind ?_ (fun _ => ?_))
      | exact ih0 _ _ _ _ _
      | exact spec_suSteps.mono _ _ _ _
      | exact LeO.none _
      | refine LeO.ite ?_ ?_
      | refine LeO.bind ?_ (fun _ => ?_)
theorem spec_suWith.mono : ∀ a0 a1 a2 a3 k, LeO (spec_suWith.f k a0 a1 a2 a3) (spec_suWith.f (k + 1) a0 a1 a2 a3) := by
  intro a0 a1 a2 a3 k
  have ih0 := spec_suWith.mono_l k
  unfold spec_suWith.f
  repeat' first
      | (with_reducible exact ih0 _ _ _ _ _)
      | (with_reducible exact spec_suSteps.mono _ _ _ _)
      | (with_reducible exact LeO.refl _)
      | (with_reducible exact LeO.none _)
      | (with_reducible refine LeO.ite ?_ ?_)
      | (with_reducible refine LeO.bind ?_ (fun _ => ?_))
      | exact ih0 _ _ _ _ _
      | exact spec_suSteps.mono _ _ _ _
      | exact LeO.none _
      | refine LeO.ite ?_ ?_
      | refine LeO.bind ?_ (fun _ => ?_)
theorem spec_suWith.calls (k : Nat) (A0_0 : Option Addr) (c0_0 : Nat) (l0_0 : List ByteArray) (A0_1 : Option Addr) (c0_1 : Nat) (l0_1 : List Int) (a1 : Int) (a2 : Int) (r : List (S64)) (w : World) (hr0_0 : Kd.C Kd.string w A0_0 l0_0.length l0_0) (hc0_0 : l0_0.length ≤ c0_0) (hr0_1 : Kd.C (Kd.int .i64) w A0_1 l0_1.length l0_1) (hc0_1 : l0_1.length ≤ c0_1) (h : spec_suWith.f k l0_0 l0_1 a1 a2 = some r) :
    Calls Try.prog 49 #[.agg #[.slice A0_0 l0_0.length c0_0, .slice A0_1 l0_1.length c0_1], .int .i64 a1, .int .i64 a2] w fun e w' => ∃ v0_ : Value, e = .returned (v0_) ∧ Kd.R k64 64 w' w.heap.size (fun _ => True) v0_ r ∧ Below w.heap.size w w' := by
  have hu35 := Try.underlying35
  have hu64 := Try.underlying64
  have HR0_0 := Aside0.mk hr0_0
  have HC0_0 := Aside0.mk hc0_0
  clear hr0_0 hc0_0
  have HR0_1 := Aside0.mk hr0_1
  have HC0_1 := Aside0.mk hc0_1
  clear hr0_1 hc0_1
  have HB := Aside0.mk (Below.refl w.heap.size w)
  have H : (if 0 ≤ a1 then (if (a1 : Int).toNat ≤ 5864062014805 then (spec_suWith.l0 k a2 (List.replicate (a1 : Int).toNat z64) (wrap64 (a1 - 1)) l0_0 l0_1) else (none)) else (none)) = some r := h
  clear h
  by_cases c4 : 0 ≤ a1
  rotate_left
  · rw [if_neg c4] at H
    exact absurd H (by simp)
  rw [if_pos c4] at H
  have c4b0 := eq_true c4
  have c4b1 : decide (0 ≤ a1) = true := decide_eq_true c4
  clear c4
  by_cases c5 : (a1 : Int).toNat ≤ 5864062014805
  rotate_left
  · rw [if_neg c5] at H
    exact absurd H (by simp)
  rw [if_pos c5] at H
  have c5b0 := eq_true c5
  have c5b1 : decide ((a1 : Int).toNat ≤ 5864062014805) = true := decide_eq_true c5
  clear c5
  obtain ⟨y102, hy102⟩ : ∃ y_ : List (S64), y_ = (List.replicate (a1 : Int).toNat z64) := ⟨_, rfl⟩
  replace H : (spec_suWith.l0 k a2 y102 (wrap64 (a1 - 1)) l0_0 l0_1) = some r := by first | (rw [hy102]; with_reducible exact H) | (have H2_ := (Option.bind_some _ _).symm.trans H; rw [hy102]; with_reducible exact H2_) | (have H2_ := (Option.bind_some _ _).symm.trans H; with_reducible exact H2_) | with_reducible exact H | (rw [hy102]; exact H) | exact H
  have Ny102 := Aside0.mk hy102
  clear hy102
  have H' := Aside0.mk H
  clear H
  go_enter Try.func49, Try.ntmps49
  go_wp2_with (first | ((with_reducible refine zgd 3 ?_); refine box_event ?hg (N := 3) ?hd (cs := #[.slice A0_0 l0_0.length c0_0, .slice A0_1 l0_1.length c0_1]) (t := 35) ?hr ?_; (case hd => rfl); (case hg => rfl); (case hr => first | (go_simp; done) | (go_simp; rfl)); intro gb101 hg w6 hbox hb; have BK101 := Aside0.mk (hbox); have GW101 := Aside0.mk ((zq11 : w.heap.size ≤ gb101)); have GE101 := Aside0.mk ((zq11 : w.heap.size ≤ gb101)); replace HB := Aside0.mk (below_step zq1 hb); clear hb hbox hg) | ((with_reducible refine zgd 11 ?_); refine Kd.R_make k64 _ 64 rfl (N := 11) rfl 37 _ _ rfl a1 rfl rfl Try.underlying37 (.agg #[(.string ⟨#[]⟩), (.int .i64 0), (.int .i64 0), (.int .i64 0), (.int .i64 0)]) 48 info64 rfl (by decide) (by omega) z64 (ok := fun _ => True) (okp := fun _ => True) (k64_mkM _ _ _ z64 ) (fun _ hk => hk) trivial (of_decide_eq_true zq4) (Nat.le_trans (Nat.mul_le_mul_right _ (of_decide_eq_true zq4 : a1.toNat ≤ 5864062014805)) (by omega)) (Below.refl _ _) (Nat.le_refl _) ?_; intro v103 w7 ho8 hb hg_ hnew_; clear hg_ hnew_; (first | rw [← Ny102.out] at ho8 | (simp only [Int.reduceToNat] at ho8; rw [← Ny102.out] at ho8)); have HO104 := Aside0.mk (Kd.R_lower ho8 (below_size (zq2 GE101))); replace BK101 := Aside0.mk (blk_below (g := gb101) (o := .cells #[.slice A0_0 l0_0.length c0_0, .slice A0_1 l0_1.length c0_1] 35 (0, 0)) (zq3 BK101) hb); replace HB := Aside0.mk (below_step (zq2 GE101) hb); clear hb ho8))
  go_loopg [2, 8] k (fun kq v2 v8 w' => ∃ (x2_1 : Int) (x7_1 : List (S64)) (x8_1 : Int), v2 = .int .i64 x2_1 ∧ v8 = .int .i64 x8_1 ∧ Aside0 (spec_suWith.l0 kq x2_1 x7_1 x8_1 l0_0 l0_1 = some r) ∧ Aside0 (kq ≤ k) ∧ Aside0 (Kd.R k64 64 w' w.heap.size (fun _ => True) v103 x7_1) ∧ Aside0 (w'.heap[gb101]? = some (.cells #[(.slice A0_0 l0_0.length c0_0), (.slice A0_1 l0_1.length c0_1)] 35 (0, 0))) ∧ Aside0 (Below w.heap.size w w'))
  case atStart => exact ⟨(a2), (y102), (wrap64 (a1 - 1)), zq7, zq7, H', ⟨Nat.le_refl _⟩, ⟨zq5 HO104⟩, ⟨zq3 BK101⟩, ⟨zq2 GE101⟩⟩
  clear H'
  try clear c4
  try clear c4b0
  try clear c4b1
  try clear c5
  try clear c5b0
  try clear c5b1
  obtain ⟨x2_1, x7_1, x8_1, rfl, rfl, HA, HK1, HO_7, BK101, HB⟩ := hrel
  cases gk with
  | zero => exact absurd HA.out (by simp [spec_suWith.l0])
  | succ k1 =>
  have H := HA.out
  clear HA
  simp only [spec_suWith.l0] at H
  by_cases c9 : x8_1 ≥ 0
  rotate_left
  · rw [if_neg c9] at H
    have c9b0 : decide (0 ≤ x8_1) = false := decide_eq_false c9
    clear c9
    obtain rfl := Option.some.inj H
    go_wp2
    go_ret
    exact ⟨_, zq8, zq5 HO_7, zq2 GE101⟩
  rw [if_pos c9] at H
  have c9b0 : decide (0 ≤ x8_1) = true := decide_eq_true c9
  clear c9
  replace H := Option.bind_eq_some_iff.mp H
  obtain ⟨t105, A100, H⟩ := H
  replace H : (if (t105.length : Int) = 0 then (none) else (if 0 ≤ (Int.tmod x2_1 (t105.length : Int)) then (if (Int.tmod x2_1 (t105.length : Int)) < (t105.length : Int) then (if 0 ≤ x8_1 then (if x8_1 < (x7_1.length : Int) then (spec_suWith.l0 k1 (wrap64 (Int.tdiv x2_1 (t105.length : Int))) (x7_1.set (x8_1 : Int).toNat (⟨(rd_T64 t105 (Int.tmod x2_1 (t105.length : Int))).f0, (rd_T64 t105 (Int.tmod x2_1 (t105.length : Int))).f1, (rd_T64 t105 (Int.tmod x2_1 (t105.length : Int))).f2, (rd_T64 t105 (Int.tmod x2_1 (t105.length : Int))).f3, (rd_T64 t105 (Int.tmod x2_1 (t105.length : Int))).f4⟩ : S64)) (wrap64 (x8_1 - 1)) l0_0 l0_1) else (none)) else (none)) else (none)) else (none))) = some r := H
  have A10 := Aside0.mk A100
  clear A100
  by_cases c11 : (t105.length : Int) = 0
  · rw [if_pos c11] at H
    exact absurd H (by simp)
  rw [if_neg c11] at H
  obtain ⟨c11b0, c11b1⟩ := zbq c11
  have c11b2 : ¬ (t105 = []) := fun h_ => c11 (by rw [h_]; rfl)
  obtain ⟨ji12, hji12⟩ : ∃ j_ : Int, (Int.tmod x2_1 (t105.length : Int)) = j_ := ⟨_, rfl⟩
  replace H : (if 0 ≤ (ji12) then (if (ji12) < (t105.length : Int) then (if 0 ≤ x8_1 then (if x8_1 < (x7_1.length : Int) then (spec_suWith.l0 k1 (wrap64 (Int.tdiv x2_1 (t105.length : Int))) (x7_1.set (x8_1 : Int).toNat (⟨(rd_T64 t105 (ji12)).f0, (rd_T64 t105 (ji12)).f1, (rd_T64 t105 (ji12)).f2, (rd_T64 t105 (ji12)).f3, (rd_T64 t105 (ji12)).f4⟩ : S64)) (wrap64 (x8_1 - 1)) l0_0 l0_1) else (none)) else (none)) else (none)) else (none)) = some r := by first | (rw [hji12] at H; exact H) | (simp only [hji12] at H ⊢; exact H)
  (try rw [hji12] at A10)
  by_cases c13 : 0 ≤ (ji12)
  rotate_left
  · rw [if_neg c13] at H
    exact absurd H (by simp)
  rw [if_pos c13] at H
  have c13b0 : decide (0 ≤ (ji12)) = true := decide_eq_true c13
  clear c13
  by_cases c14 : (ji12) < (t105.length : Int)
  rotate_left
  · rw [if_neg c14] at H
    exact absurd H (by simp)
  rw [if_pos c14] at H
  have c14b0 : decide ((ji12) < (t105.length : Int)) = true := decide_eq_true c14
  clear c14
  by_cases c15 : 0 ≤ x8_1
  rotate_left
  · rw [if_neg c15] at H
    exact absurd H (by simp)
  rw [if_pos c15] at H
  have c15b0 : decide (0 ≤ x8_1) = true := decide_eq_true c15
  clear c15
  by_cases c16 : x8_1 < (x7_1.length : Int)
  rotate_left
  · rw [if_neg c16] at H
    exact absurd H (by simp)
  rw [if_pos c16] at H
  have c16b0 : decide (x8_1 < (x7_1.length : Int)) = true := decide_eq_true c16
  clear c16
  obtain ⟨y109, hy109⟩ : ∃ y_ : List (S64), y_ = (x7_1.set (x8_1 : Int).toNat (⟨(rd_T64 t105 (ji12)).f0, (rd_T64 t105 (ji12)).f1, (rd_T64 t105 (ji12)).f2, (rd_T64 t105 (ji12)).f3, (rd_T64 t105 (ji12)).f4⟩ : S64)) := ⟨_, rfl⟩
  replace H : (spec_suWith.l0 k1 (wrap64 (Int.tdiv x2_1 (t105.length : Int))) y109 (wrap64 (x8_1 - 1)) l0_0 l0_1) = some r := by first | (rw [hy109]; with_reducible exact H) | (have H2_ := (Option.bind_some _ _).symm.trans H; rw [hy109]; with_reducible exact H2_) | (have H2_ := (Option.bind_some _ _).symm.trans H; with_reducible exact H2_) | with_reducible exact H | (rw [hy109]; exact H) | exact H
  have Ny109 := Aside0.mk hy109
  clear hy109
  have H' := Aside0.mk H
  clear H
  have hcz18_0 : wr.cell? ⟨gb101, 0, none⟩ = some (.slice A0_0 l0_0.length c0_0) := (blk_cell BK101.out 0).trans rfl
  have hcz18_1 : wr.cell? ⟨gb101, 1, none⟩ = some (.slice A0_1 l0_1.length c0_1) := (blk_cell BK101.out 1).trans rfl
  have hfz18_0 := blk_frozen BK101.out 0
  have hfz18_1 := blk_frozen BK101.out 1
  go_wp2_with (first | ((with_reducible refine zgc 65 ?_); refine zca 20 Try.func65 #[.agg #[.slice A0_0 l0_0.length c0_0, .slice A0_1 l0_1.length c0_1], .int .i64 x8_1] (spec_suSteps.calls k1 _ _ l0_0 _ _ l0_1 x8_1 t105 _ (zq9 HR0_0) HC0_0.out (zq9 HR0_1) HC0_1.out A10.out) ?_; rintro e w19 ⟨v106, rfl, ho0, hb⟩; refine ⟨_, rfl, ?_⟩; have HO107 := Aside0.mk (Kd.R_lower (Kd.R_new' ho0 (Kd.R_lt (zq5 HO_7))) (below_size (zq2 GE101))); replace HO_7 := Aside0.mk (Kd.R_elder' (zq5 HO_7) (Kd.R_base ho0) hb); replace BK101 := Aside0.mk (blk_below (g := gb101) (o := .cells #[.slice A0_0 l0_0.length c0_0, .slice A0_1 l0_1.length c0_1] 35 (0, 0)) (zq3 BK101) hb); replace HB := Aside0.mk (below_step (zq2 GE101) hb); (try clear hb); (try clear ho0); obtain ⟨Ao20, co20, eo20⟩ := Kd.R_slice HO107.out; subst eo20; have p108 : 0 ≤ ((ji12) : Int) := of_decide_eq_true zq4; have q108 : (ji12) < (t105.length : Int) := of_decide_eq_true zq4; obtain ⟨ad108, e108, hx108_0, hx108_1, hx108_2, hx108_3, hx108_4⟩ := at_T64 (Kd.R_reads' HO107.out).2.2 (ji12) p108 q108; cases e108; replace p108 := eq_true p108; replace q108 := eq_true q108; have p17 : 0 ≤ (x8_1 : Int) := of_decide_eq_true zq4; have q17 : (x8_1 : Int) < ((x7_1.length : Int) : Int) := of_decide_eq_true zq4; obtain ⟨go17, co17, eo17, gb17, gl17, cl17, HG17⟩ := Kd.R_form HO_7.out (by omega); (first | cases eo17 | (injection eo17 with ea_ en_ ec_; (first | subst ea_ | (injection ea_ with ea_; subst ea_)); subst ec_; clear en_)); have GB17 := Aside0.mk gb17; have GG17 := Aside0.mk HG17; clear gb17 gl17 HG17; obtain ⟨ce17, hcl17, hM17, hcc17, hfr17⟩ := Kd.R_elem HO_7.out z64 (x8_1 : Int) p17 q17; obtain rfl := k64_openM hM17; have hx17_0 : w19.cell? ⟨go17, (x8_1 : Int).toNat * 5, none⟩ = some (.string ((rd_T64 x7_1 x8_1).f0)) := hcc17 0 _ rfl; have hx17_1 : w19.cell? ⟨go17, (x8_1 : Int).toNat * 5 + 1, none⟩ = some (.int .i64 ((rd_T64 x7_1 x8_1).f1)) := hcc17 1 _ rfl; have hx17_2 : w19.cell? ⟨go17, (x8_1 : Int).toNat * 5 + 2, none⟩ = some (.int .i64 ((rd_T64 x7_1 x8_1).f2)) := hcc17 2 _ rfl; have hx17_3 : w19.cell? ⟨go17, (x8_1 : Int).toNat * 5 + 3, none⟩ = some (.int .i64 ((rd_T64 x7_1 x8_1).f3)) := hcc17 3 _ rfl; have hx17_4 : w19.cell? ⟨go17, (x8_1 : Int).toNat * 5 + 4, none⟩ = some (.int .i64 ((rd_T64 x7_1 x8_1).f4)) := hcc17 4 _ rfl; have hf17_0 : w19.frozen? ⟨go17, (x8_1 : Int).toNat * 5, none⟩ = false := hfr17 0; have hf17_1 : w19.frozen? ⟨go17, (x8_1 : Int).toNat * 5 + 1, none⟩ = false := hfr17 1; have hf17_2 : w19.frozen? ⟨go17, (x8_1 : Int).toNat * 5 + 2, none⟩ = false := hfr17 2; have hf17_3 : w19.frozen? ⟨go17, (x8_1 : Int).toNat * 5 + 3, none⟩ = false := hfr17 3; have hf17_4 : w19.frozen? ⟨go17, (x8_1 : Int).toNat * 5 + 4, none⟩ = false := hfr17 4; clear hcl17 hcc17 hfr17 hM17; replace p17 := eq_true p17; replace q17 := eq_true q17; have n_ := Aside0.mk (Kd.R_mono (ok' := (fun k_ => some k_ ≠ (.slice (some ad108) t105.length co20 : Value).ownBlock)) HO_7.out (fun k_ hk => hk.2)); clear HO_7; have HO_7 := n_; clear n_; have HX21 := Aside0.mk (show Kd.R k64 64 w19 w.heap.size (fun k_ => some k_ ≠ (.slice (some ad108) t105.length co20 : Value).ownBlock) (.slice (some ⟨go17, 0, none⟩) x7_1.length co17) x7_1 from (zq5 HO_7)); obtain ⟨ce21, hcl21, hM21, hcc21, hfr21⟩ := Kd.R_elem HX21.out z64 (x8_1 : Int) (of_decide_eq_true zq4) (by have h_ : (x8_1 : Int) < ((x7_1.length : Int) : Int) := of_decide_eq_true zq4; first | exact h_ | (have e_ := (Kd.R_reads' HO_7.out).1; omega) | simpa using h_); obtain rfl := k64_openM hM21; have HP21 := Kd.R_seg HX21.out (x8_1 : Int) (of_decide_eq_true zq4) (by have h_ : (x8_1 : Int) < ((x7_1.length : Int) : Int) := of_decide_eq_true zq4; first | exact h_ | (have e_ := (Kd.R_reads' HO_7.out).1; omega) | simpa using h_) (seg := [.string ((rd_T64 t105 (ji12)).f0), .int .i64 ((rd_T64 t105 (ji12)).f1), .int .i64 ((rd_T64 t105 (ji12)).f2), .int .i64 ((rd_T64 t105 (ji12)).f3), .int .i64 ((rd_T64 t105 (ji12)).f4)]) (j := 0) hcl21 hcc21 (show 5 ≤ 5 from by decide) (x' := (⟨(rd_T64 t105 (ji12)).f0, (rd_T64 t105 (ji12)).f1, (rd_T64 t105 (ji12)).f2, (rd_T64 t105 (ji12)).f3, (rd_T64 t105 (ji12)).f4⟩ : S64)) (k64_mkM _ _ _ (⟨(rd_T64 t105 (ji12)).f0, (rd_T64 t105 (ji12)).f1, (rd_T64 t105 (ji12)).f2, (rd_T64 t105 (ji12)).f3, (rd_T64 t105 (ji12)).f4⟩ : S64) ) (fun _ hk => hk); have hx21_0 := hcc21 0 _ rfl; (try simp only [show (k64).sz = 5 from rfl, Nat.mul_one, Nat.add_zero] at hx21_0); have hf21_0 := hfr21 0; (try simp only [show (k64).sz = 5 from rfl, Nat.mul_one, Nat.add_zero] at hf21_0); have hx21_1 := hcc21 1 _ rfl; (try simp only [show (k64).sz = 5 from rfl, Nat.mul_one, Nat.add_zero] at hx21_1); have hf21_1 := hfr21 1; (try simp only [show (k64).sz = 5 from rfl, Nat.mul_one, Nat.add_zero] at hf21_1); have hx21_2 := hcc21 2 _ rfl; (try simp only [show (k64).sz = 5 from rfl, Nat.mul_one, Nat.add_zero] at hx21_2); have hf21_2 := hfr21 2; (try simp only [show (k64).sz = 5 from rfl, Nat.mul_one, Nat.add_zero] at hf21_2); have hx21_3 := hcc21 3 _ rfl; (try simp only [show (k64).sz = 5 from rfl, Nat.mul_one, Nat.add_zero] at hx21_3); have hf21_3 := hfr21 3; (try simp only [show (k64).sz = 5 from rfl, Nat.mul_one, Nat.add_zero] at hf21_3); have hx21_4 := hcc21 4 _ rfl; (try simp only [show (k64).sz = 5 from rfl, Nat.mul_one, Nat.add_zero] at hx21_4); have hf21_4 := hfr21 4; (try simp only [show (k64).sz = 5 from rfl, Nat.mul_one, Nat.add_zero] at hf21_4); clear hcl21 hcc21 hfr21 hM21) | ((with_reducible refine zgs 64 30 ?_); refine store_event (t := 64) (p := 30) (v := ?vo_w22) (w1 := (((((w19.setCell ⟨go17, (x8_1 : Int).toNat * 5, none⟩ (.string ((rd_T64 t105 (ji12)).f0))).setCell ⟨go17, (x8_1 : Int).toNat * 5 + 1, none⟩ (.int .i64 ((rd_T64 t105 (ji12)).f1))).setCell ⟨go17, (x8_1 : Int).toNat * 5 + 2, none⟩ (.int .i64 ((rd_T64 t105 (ji12)).f2))).setCell ⟨go17, (x8_1 : Int).toNat * 5 + 3, none⟩ (.int .i64 ((rd_T64 t105 (ji12)).f3))).setCell ⟨go17, (x8_1 : Int).toNat * 5 + 4, none⟩ (.int .i64 ((rd_T64 t105 (ji12)).f4)))) ?hg ?ho ?hn ?hr ?_; (case ho => rfl); (case hg => rfl); (case hn => rfl); (case hr => first | (go_simp; done) | (go_simp; rfl)); intro w22 hw; have hg : w19.grownBy w22 (some go17) := (by rw [hw]; exact HP21.2); have hp_ : Kd.R k64 64 w22 w.heap.size (fun k_ => some k_ ≠ (.slice (some ad108) t105.length co20 : Value).ownBlock) (.slice (some ⟨go17, 0, none⟩) x7_1.length co17) y109 := (by rw [hw, Ny109.out]; exact HP21.1); clear HP21; replace BK101 := Aside0.mk (blk_grown (g := gb101) (o := .cells #[.slice A0_0 l0_0.length c0_0, .slice A0_1 l0_1.length c0_1] 35 (0, 0)) (zq3 BK101) hg (Kd.R_ne HO_7.out BK101.out (by decide))); replace HO_7 := Aside0.mk (hp_); replace HO107 := Aside0.mk (Kd.R_after (v := (.slice (some ⟨go17, 0, none⟩) x7_1.length co17)) (v1 := (.slice (some ⟨go17, 0, none⟩) x7_1.length co17)) (ok := (fun _ => True)) (zq5 HO107) hg (.inl rfl)); replace HB := Aside0.mk ((by rw [hw]; exact below_set (below_set (below_set (below_set (below_set (HB.out) GB17.out) GB17.out) GB17.out) GB17.out) GB17.out : Below w.heap.size w w22)); clear hg hw hp_))
  go_roundg k1
  case measure => have := HK1.out; omega
  case rel => exact ⟨(wrap64 (Int.tdiv x2_1 (t105.length : Int))), (y109), (wrap64 (x8_1 - 1)), zq7, zq7, H', ⟨zq36 HK1⟩, ⟨zq21 HO_7⟩, ⟨zq3 BK101⟩, ⟨zq2 GE101⟩⟩
end Go.Proofs.Ytnaafcleafbejaa.Q
end
section
namespace Go.Proofs.Ytnaafcleafbejaa.Q
open Go.RowKit Go.Proofs.YtnaafcleafbejaaW.PrintWords Go.Proofs.YtnaafcleafbejaaW.PrintLast Go.Proofs.YtnaafcleafbejaaW.PrintMore
set_option maxHeartbeats 8000000
set_option maxRecDepth 100000
attribute [local go_sem] max2_int min2_int max_two min_two max_three min_three max_four min_four
set_option linter.unusedVariables false
set_option linter.unusedSimpArgs false
mutual
def spec_CountUnpruned.j0 : Nat → Int → Bool → List ByteArray → List Int → Option (Int × Bool)
  | 0, _, _, _, _ => none
  | k + 1, x1, x15, x102000, x102001 => if x15 = true then (some (0, false)) else (spec_CountUnpruned.l0 k x1 0 0 x102000 x102001)
def spec_CountUnpruned.l0 : Nat → Int → Int → Int → List ByteArray → List Int → Option (Int × Bool)
  | 0, _, _, _, _, _ => none
  | k + 1, x1, x6, x7, x102000, x102001 => (spec_suCount.f k x102000 x102001 x1).bind fun t104 => (if x7 < t104 then ((spec_suWith.f k x102000 x102001 x1 x7).bind fun t105 => ((spec_suPruned.f k t105).bind fun t108 => (if t108 = true then (spec_CountUnpruned.l0 k x1 x6 (wrap64 (x7 + 1)) x102000 x102001) else (spec_CountUnpruned.l0 k x1 (wrap64 (x6 + 1)) (wrap64 (x7 + 1)) x102000 x102001)))) else (some (x6, true)))
end
def spec_CountUnpruned.f (k : Nat) (l0_0 : List ByteArray) (l0_1 : List Int) (a1 : Int) : Option (Int × Bool) := (spec_suGood.f k l0_0 l0_1).bind fun t102 => (if t102 = true then ((spec_l1In.f a1 0 3).bind fun t103 => (spec_CountUnpruned.j0 k a1 (!t103) l0_0 l0_1)) else (spec_CountUnpruned.j0 k a1 true l0_0 l0_1))
theorem spec_CountUnpruned.mono_l : ∀ k, (∀ y0 y1 y2 y3, LeO (spec_CountUnpruned.j0 k y0 y1 y2 y3) (spec_CountUnpruned.j0 (k + 1) y0 y1 y2 y3)) ∧ (∀ y0 y1 y2 y3 y4, LeO (spec_CountUnpruned.l0 k y0 y1 y2 y3 y4) (spec_CountUnpruned.l0 (k + 1) y0 y1 y2 y3 y4))
  | 0 => ⟨fun _ _ _ _ r h => by simp [spec_CountUnpruned.j0] at h, fun _ _ _ _ _ r h => by simp [spec_CountUnpruned.l0] at h⟩
  | k + 1 => by
    obtain ⟨ih0, ih1⟩ := spec_CountUnpruned.mono_l k
    refine ⟨?_, ?_⟩
    · intro y0 y1 y2 y3
      unfold spec_CountUnpruned.j0
      repeat' first
      | (with_reducible exact ih0 _ _ _ _)
      | (with_reducible exact ih1 _ _ _ _ _)
      | (with_reducible exact spec_suCount.mono _ _ _ _)
      | (with_reducible exact spec_suGood.mono _ _ _)
      | (with_reducible exact spec_suPruned.mono _ _)
      | (with_reducible exact spec_suWith.mono _ _ _ _ _)
      | (with_reducible exact LeO.refl _)
      | (with_reducible exact LeO.none _)
      | (with_reducible refine LeO.ite ?_ ?_)
      | (with_reducible refine LeO.bind ?_ (fun _ => ?_))
      | exact ih0 _ _ _ _
      | exact ih1 _ _ _ _ _
      | exact spec_suCount.mono _ _ _ _
      | exact spec_suGood.mono _ _ _
      | exact spec_suPruned.mono _ _
      | exact spec_suWith.mono _ _ _ _ _
      | exact LeO.none _
      | refine LeO.ite ?_ ?_
      | refine LeO.bind ?_ (fun _ => ?_)
    · intro y0 y1 y2 y3 y4
      unfold spec_CountUnpruned.l0
      repeat' first
      | (with_reducible exact ih0 _ _ _ _)
      | (with_reducible exact ih1 _ _ _ _ _)
      | (with_reducible exact spec_suCount.mono _ _ _ _)
      | (with_reducible exact spec_suGood.mono _ _ _)
      | (with_reducible exact spec_suPruned.mono _ _)
      | (with_reducible exact spec_suWith.mono _ _ _ _ _)
      | (with_reducible exact LeO.refl _)
      | (with_reducible exact LeO.none _)
      | (with_reducible refine LeO.ite ?_ ?_)
      | (with_reducible refine LeO.bind ?_ (fun _ => ?_))
      | exact ih0 _ _ _ _
      | exact ih1 _ _ _ _ _
      | exact spec_suCount.mono _ _ _ _
      | exact spec_suGood.mono _ _ _
      | exact spec_suPruned.mono _ _
      | exact spec_suWith.mono _ _ _ _ _
      | exact LeO.none _
      | refine LeO.ite ?_ ?_
      | refine LeO.bind ?_ (fun _ => ?_)
theorem spec_CountUnpruned.mono : ∀ a0 a1 a2 k, LeO (spec_CountUnpruned.f k a0 a1 a2) (spec_CountUnpruned.f (k + 1) a0 a1 a2) := by
  intro a0 a1 a2 k
  obtain ⟨ih0, ih1⟩ := spec_CountUnpruned.mono_l k
  unfold spec_CountUnpruned.f
  repeat' first
      | (with_reducible exact ih0 _ _ _ _)
      | (with_reducible exact ih1 _ _ _ _ _)
      | (with_reducible exact spec_suCount.mono _ _ _ _)
      | (with_reducible exact spec_suGood.mono _ _ _)
      | (with_reducible exact spec_suPruned.mono _ _)
      | (with_reducible exact spec_suWith.mono _ _ _ _ _)
      | (with_reducible exact LeO.refl _)
      | (with_reducible exact LeO.none _)
      | (with_reducible refine LeO.ite ?_ ?_)
      | (with_reducible refine LeO.bind ?_ (fun _ => ?_))
      | exact ih0 _ _ _ _
      | exact ih1 _ _ _ _ _
      | exact spec_suCount.mono _ _ _ _
      | exact spec_suGood.mono _ _ _
      | exact spec_suPruned.mono _ _
      | exact spec_suWith.mono _ _ _ _ _
      | exact LeO.none _
      | refine LeO.ite ?_ ?_
      | refine LeO.bind ?_ (fun _ => ?_)
theorem spec_CountUnpruned.calls (k : Nat) (A0_0 : Option Addr) (c0_0 : Nat) (l0_0 : List ByteArray) (A0_1 : Option Addr) (c0_1 : Nat) (l0_1 : List Int) (a1 : Int) (r1 : Int) (r2 : Bool) (w : World) (hr0_0 : Kd.C Kd.string w A0_0 l0_0.length l0_0) (hc0_0 : l0_0.length ≤ c0_0) (hr0_1 : Kd.C (Kd.int .i64) w A0_1 l0_1.length l0_1) (hc0_1 : l0_1.length ≤ c0_1) (h : spec_CountUnpruned.f k l0_0 l0_1 a1 = some (r1, r2)) :
    Calls Try.prog 19 #[.agg #[.slice A0_0 l0_0.length c0_0, .slice A0_1 l0_1.length c0_1], .int .i64 a1] w fun e w' => e = .returned (.tuple #[.int .i64 r1, .bool r2]) ∧ Below w.heap.size w w' := by
  have hu35 := Try.underlying35
  have HR0_0 := Aside0.mk hr0_0
  have HC0_0 := Aside0.mk hc0_0
  clear hr0_0 hc0_0
  have HR0_1 := Aside0.mk hr0_1
  have HC0_1 := Aside0.mk hc0_1
  clear hr0_1 hc0_1
  have HB := Aside0.mk (Below.refl w.heap.size w)
  have H : ((spec_suGood.f k l0_0 l0_1).bind fun t102 => (if t102 = true then ((spec_l1In.f a1 0 3).bind fun t103 => (spec_CountUnpruned.j0 k a1 (!t103) l0_0 l0_1)) else (spec_CountUnpruned.j0 k a1 true l0_0 l0_1))) = some (r1, r2) := h
  clear h
  have HC3 := Aside0.mk H
  clear H
  go_enter Try.func19, Try.ntmps19
  go_upto_region 1 with (first | ((with_reducible refine zgd 2 ?_); refine box_event ?hg (N := 2) ?hd (cs := #[.slice A0_0 l0_0.length c0_0, .slice A0_1 l0_1.length c0_1]) (t := 35) ?hr ?_; (case hd => rfl); (case hg => rfl); (case hr => first | (go_simp; done) | (go_simp; rfl)); intro gb101 hg w4 hbox hb; have BK101 := Aside0.mk (hbox); have GW101 := Aside0.mk ((zq11 : w.heap.size ≤ gb101)); have GE101 := Aside0.mk ((zq11 : w.heap.size ≤ gb101)); replace HB := Aside0.mk (below_step zq1 hb); clear hb hbox hg))
  (try simp only [Act.put, List.setIfInBounds_toArray, List.set_cons_zero, List.set_cons_succ])
  go_cut [15] (fun v15 wc => ∃ (kq : Nat) (x15_2 : Bool), v15 = .bool x15_2 ∧ Aside0 (spec_CountUnpruned.j0 kq a1 x15_2 l0_0 l0_1 = some (r1, r2)) ∧ Aside0 (kq ≤ k) ∧ Aside0 (wc.heap[gb101]? = some (.cells #[(.slice A0_0 l0_0.length c0_0), (.slice A0_1 l0_1.length c0_1)] 35 (0, 0))) ∧ Aside0 (Below w.heap.size w wc))
  case first =>
    have H := HC3.out
    clear HC3
    replace H := Option.bind_eq_some_iff.mp H
    obtain ⟨t102, A50, H⟩ := H
    replace H : (if t102 = true then ((spec_l1In.f a1 0 3).bind fun t103 => (spec_CountUnpruned.j0 k a1 (!t103) l0_0 l0_1)) else (spec_CountUnpruned.j0 k a1 true l0_0 l0_1)) = some (r1, r2) := H
    have A5 := Aside0.mk A50
    clear A50
    by_cases c6 : t102 = true
    rotate_left
    · replace c6 := Bool.eq_false_iff.mpr c6
      subst c6
      have H1 : (spec_CountUnpruned.j0 k a1 true l0_0 l0_1) = some (r1, r2) := by rw [if_neg (show ¬ (false = true) by decide)] at H; exact H
      clear H
      have H := H1
      clear H1
      have H' := Aside0.mk H
      clear H
      have hcz10_0 : w4.cell? ⟨gb101, 0, none⟩ = some (.slice A0_0 l0_0.length c0_0) := (blk_cell BK101.out 0).trans rfl
      have hcz10_1 : w4.cell? ⟨gb101, 1, none⟩ = some (.slice A0_1 l0_1.length c0_1) := (blk_cell BK101.out 1).trans rfl
      have hfz10_0 := blk_frozen BK101.out 0
      have hfz10_1 := blk_frozen BK101.out 1
      go_wp2_with (first | ((with_reducible refine zgc 26 ?_); refine zca 9 Try.func26 #[.agg #[.slice A0_0 l0_0.length c0_0, .slice A0_1 l0_1.length c0_1]] (spec_suGood.calls k _ _ l0_0 _ _ l0_1 false _ (zq9 HR0_0) HC0_0.out (zq9 HR0_1) HC0_1.out A5.out) ?_; rintro e w11 ⟨rfl, hb⟩; refine ⟨_, rfl, ?_⟩; replace BK101 := Aside0.mk (blk_below (g := gb101) (o := .cells #[.slice A0_0 l0_0.length c0_0, .slice A0_1 l0_1.length c0_1] 35 (0, 0)) (zq3 BK101) hb); replace HB := Aside0.mk (below_step (zq2 GE101) hb); (try clear hb)))
      go_meet
      case rel => exact ⟨_, (true), zq7, H', ⟨zq22⟩, ⟨zq3 BK101⟩, ⟨zq2 GE101⟩⟩
    subst c6
    have H1 : ((spec_l1In.f a1 0 3).bind fun t103 => (spec_CountUnpruned.j0 k a1 (!t103) l0_0 l0_1)) = some (r1, r2) := by rw [if_pos rfl] at H; exact H
    clear H
    have H := H1
    clear H1
    replace H := Option.bind_eq_some_iff.mp H
    obtain ⟨t103, A70, H⟩ := H
    replace H : (spec_CountUnpruned.j0 k a1 (!t103) l0_0 l0_1) = some (r1, r2) := H
    have A7 := Aside0.mk A70
    clear A70
    have H' := Aside0.mk H
    clear H
    have hcz8_0 : w4.cell? ⟨gb101, 0, none⟩ = some (.slice A0_0 l0_0.length c0_0) := (blk_cell BK101.out 0).trans rfl
    have hcz8_1 : w4.cell? ⟨gb101, 1, none⟩ = some (.slice A0_1 l0_1.length c0_1) := (blk_cell BK101.out 1).trans rfl
    have hfz8_0 := blk_frozen BK101.out 0
    have hfz8_1 := blk_frozen BK101.out 1
    go_wp2_with (first | ((with_reducible refine zgc 26 ?_); refine zca 9 Try.func26 #[.agg #[.slice A0_0 l0_0.length c0_0, .slice A0_1 l0_1.length c0_1]] (spec_suGood.calls k _ _ l0_0 _ _ l0_1 true _ (zq9 HR0_0) HC0_0.out (zq9 HR0_1) HC0_1.out A5.out) ?_; rintro e w9 ⟨rfl, hb⟩; refine ⟨_, rfl, ?_⟩; replace BK101 := Aside0.mk (blk_below (g := gb101) (o := .cells #[.slice A0_0 l0_0.length c0_0, .slice A0_1 l0_1.length c0_1] 35 (0, 0)) (zq3 BK101) hb); replace HB := Aside0.mk (below_step (zq2 GE101) hb); (try clear hb)) | (go_at_call 46; (with_reducible refine (spec_l1In.calls a1 0 3 t103 _ A7.out).mono ?_); rintro e w' ⟨rfl, ⟨nd, rfl⟩⟩))
    go_meet
    case rel => exact ⟨_, (!t103), zq7, H', ⟨zq22⟩, ⟨zq3 BK101⟩, ⟨zq2 GE101⟩⟩
  clear HC3
  try clear c6
  try clear hcz10_0
  try clear hcz10_1
  try clear hcz8_0
  try clear hcz8_1
  try clear hfz10_0
  try clear hfz10_1
  try clear hfz8_0
  try clear hfz8_1
  obtain ⟨kq, x15_2, rfl, HA, HJ2, BK101, HB⟩ := hcut
  cases kq with
  | zero => exact absurd HA.out (by simp [spec_CountUnpruned.j0])
  | succ kj2 =>
  have H := HA.out
  clear HA
  simp only [spec_CountUnpruned.j0] at H
  by_cases c12 : x15_2 = true
  · subst c12
    have H1 : (some (0, false)) = some (r1, r2) := by rw [if_pos rfl] at H; exact H
    clear H
    have H := H1
    clear H1
    simp only [Option.some.injEq, Prod.mk.injEq] at H
    obtain ⟨rfl, rfl⟩ := H
    go_wp2
    go_ret2
    exact ⟨zq8, zq2 GE101⟩
  replace c12 := Bool.eq_false_iff.mpr c12
  subst c12
  have H1 : (spec_CountUnpruned.l0 kj2 a1 0 0 l0_0 l0_1) = some (r1, r2) := by rw [if_neg (show ¬ (false = true) by decide)] at H; exact H
  clear H
  have H := H1
  clear H1
  have H' := Aside0.mk H
  clear H
  go_wp2
  go_loopg [6, 7] kj2 (fun kq v6 v7 w' => ∃ (x6_2 : Int) (x7_2 : Int), v6 = .int .i64 x6_2 ∧ v7 = .int .i64 x7_2 ∧ Aside0 (spec_CountUnpruned.l0 kq a1 x6_2 x7_2 l0_0 l0_1 = some (r1, r2)) ∧ Aside0 (kq ≤ kj2) ∧ Aside0 (w'.heap[gb101]? = some (.cells #[(.slice A0_0 l0_0.length c0_0), (.slice A0_1 l0_1.length c0_1)] 35 (0, 0))) ∧ Aside0 (Below w.heap.size w w'))
  case atStart => exact ⟨(0), (0), zq7, zq7, H', ⟨Nat.le_refl _⟩, ⟨zq3 BK101⟩, ⟨zq2 GE101⟩⟩
  clear H'
  try clear c6
  try clear c12
  try clear hcz10_0
  try clear hcz10_1
  try clear hcz8_0
  try clear hcz8_1
  try clear hfz10_0
  try clear hfz10_1
  try clear hfz8_0
  try clear hfz8_1
  obtain ⟨x6_2, x7_2, rfl, rfl, HA, HK2, BK101, HB⟩ := hrel
  cases gk with
  | zero => exact absurd HA.out (by simp [spec_CountUnpruned.l0])
  | succ k2 =>
  have H := HA.out
  clear HA
  simp only [spec_CountUnpruned.l0] at H
  replace H := Option.bind_eq_some_iff.mp H
  obtain ⟨t104, A130, H⟩ := H
  replace H : (if x7_2 < t104 then ((spec_suWith.f k2 l0_0 l0_1 a1 x7_2).bind fun t105 => ((spec_suPruned.f k2 t105).bind fun t108 => (if t108 = true then (spec_CountUnpruned.l0 k2 a1 x6_2 (wrap64 (x7_2 + 1)) l0_0 l0_1) else (spec_CountUnpruned.l0 k2 a1 (wrap64 (x6_2 + 1)) (wrap64 (x7_2 + 1)) l0_0 l0_1)))) else (some (x6_2, true))) = some (r1, r2) := H
  have A13 := Aside0.mk A130
  clear A130
  by_cases c14 : x7_2 < t104
  rotate_left
  · rw [if_neg c14] at H
    have c14b0 : decide (x7_2 < t104) = false := decide_eq_false c14
    clear c14
    simp only [Option.some.injEq, Prod.mk.injEq] at H
    obtain ⟨rfl, rfl⟩ := H
    have hcz30_0 : wr.cell? ⟨gb101, 0, none⟩ = some (.slice A0_0 l0_0.length c0_0) := (blk_cell BK101.out 0).trans rfl
    have hcz30_1 : wr.cell? ⟨gb101, 1, none⟩ = some (.slice A0_1 l0_1.length c0_1) := (blk_cell BK101.out 1).trans rfl
    have hfz30_0 := blk_frozen BK101.out 0
    have hfz30_1 := blk_frozen BK101.out 1
    go_wp2_with (first | ((with_reducible refine zgc 47 ?_); refine zca 19 Try.func47 #[.agg #[.slice A0_0 l0_0.length c0_0, .slice A0_1 l0_1.length c0_1], .int .i64 a1] (spec_suCount.calls k2 _ _ l0_0 _ _ l0_1 a1 t104 _ (zq9 HR0_0) HC0_0.out (zq9 HR0_1) HC0_1.out A13.out) ?_; rintro e w31 ⟨rfl, hb⟩; refine ⟨_, rfl, ?_⟩; replace BK101 := Aside0.mk (blk_below (g := gb101) (o := .cells #[.slice A0_0 l0_0.length c0_0, .slice A0_1 l0_1.length c0_1] 35 (0, 0)) (zq3 BK101) hb); replace HB := Aside0.mk (below_step (zq2 GE101) hb); (try clear hb)))
    go_ret2
    exact ⟨zq8, zq2 GE101⟩
  rw [if_pos c14] at H
  have c14b0 : decide (x7_2 < t104) = true := decide_eq_true c14
  clear c14
  replace H := Option.bind_eq_some_iff.mp H
  obtain ⟨t105, A150, H⟩ := H
  replace H : ((spec_suPruned.f k2 t105).bind fun t108 => (if t108 = true then (spec_CountUnpruned.l0 k2 a1 x6_2 (wrap64 (x7_2 + 1)) l0_0 l0_1) else (spec_CountUnpruned.l0 k2 a1 (wrap64 (x6_2 + 1)) (wrap64 (x7_2 + 1)) l0_0 l0_1))) = some (r1, r2) := H
  have A15 := Aside0.mk A150
  clear A150
  replace H := Option.bind_eq_some_iff.mp H
  obtain ⟨t108, A160, H⟩ := H
  replace H : (if t108 = true then (spec_CountUnpruned.l0 k2 a1 x6_2 (wrap64 (x7_2 + 1)) l0_0 l0_1) else (spec_CountUnpruned.l0 k2 a1 (wrap64 (x6_2 + 1)) (wrap64 (x7_2 + 1)) l0_0 l0_1)) = some (r1, r2) := H
  have A16 := Aside0.mk A160
  clear A160
  by_cases c17 : t108 = true
  · subst c17
    have H1 : (spec_CountUnpruned.l0 k2 a1 x6_2 (wrap64 (x7_2 + 1)) l0_0 l0_1) = some (r1, r2) := by rw [if_pos rfl] at H; exact H
    clear H
    have H := H1
    clear H1
    have H' := Aside0.mk H
    clear H
    have hcz18_0 : wr.cell? ⟨gb101, 0, none⟩ = some (.slice A0_0 l0_0.length c0_0) := (blk_cell BK101.out 0).trans rfl
    have hcz18_1 : wr.cell? ⟨gb101, 1, none⟩ = some (.slice A0_1 l0_1.length c0_1) := (blk_cell BK101.out 1).trans rfl
    have hfz18_0 := blk_frozen BK101.out 0
    have hfz18_1 := blk_frozen BK101.out 1
    go_wp2_with (first | ((with_reducible refine zgc 47 ?_); refine zca 19 Try.func47 #[.agg #[.slice A0_0 l0_0.length c0_0, .slice A0_1 l0_1.length c0_1], .int .i64 a1] (spec_suCount.calls k2 _ _ l0_0 _ _ l0_1 a1 t104 _ (zq9 HR0_0) HC0_0.out (zq9 HR0_1) HC0_1.out A13.out) ?_; rintro e w19 ⟨rfl, hb⟩; refine ⟨_, rfl, ?_⟩; replace BK101 := Aside0.mk (blk_below (g := gb101) (o := .cells #[.slice A0_0 l0_0.length c0_0, .slice A0_1 l0_1.length c0_1] 35 (0, 0)) (zq3 BK101) hb); replace HB := Aside0.mk (below_step (zq2 GE101) hb); (try clear hb); have hcz20_0 : w19.cell? ⟨gb101, 0, none⟩ = some (.slice A0_0 l0_0.length c0_0) := (blk_cell BK101.out 0).trans rfl; have hcz20_1 : w19.cell? ⟨gb101, 1, none⟩ = some (.slice A0_1 l0_1.length c0_1) := (blk_cell BK101.out 1).trans rfl; have hfz20_0 := blk_frozen BK101.out 0; have hfz20_1 := blk_frozen BK101.out 1) | ((with_reducible refine zgc 49 ?_); refine zca 26 Try.func49 #[.agg #[.slice A0_0 l0_0.length c0_0, .slice A0_1 l0_1.length c0_1], .int .i64 a1, .int .i64 x7_2] (spec_suWith.calls k2 _ _ l0_0 _ _ l0_1 a1 x7_2 t105 _ (zq9 HR0_0) HC0_0.out (zq9 HR0_1) HC0_1.out A15.out) ?_; rintro e w21 ⟨v106, rfl, ho0, hb⟩; refine ⟨_, rfl, ?_⟩; have HO107 := Aside0.mk (Kd.R_lower ho0 (below_size (zq2 GE101))); replace BK101 := Aside0.mk (blk_below (g := gb101) (o := .cells #[.slice A0_0 l0_0.length c0_0, .slice A0_1 l0_1.length c0_1] 35 (0, 0)) (zq3 BK101) hb); replace HB := Aside0.mk (below_step (zq2 GE101) hb); (try clear hb); (try clear ho0); obtain ⟨Ao22, co22, eo22⟩ := Kd.R_slice HO107.out; subst eo22) | ((with_reducible refine zgc 48 ?_); refine zca 27 Try.func48 #[.slice Ao22 t105.length co22] (spec_suPruned.calls k2 _ _ t105 true _ (zq16 HO107) (zq44 HO107) A16.out) ?_; rintro e w23 ⟨rfl, hb⟩; refine ⟨_, rfl, ?_⟩; replace HO107 := Aside0.mk (Kd.R_below (zq5 HO107) hb); replace BK101 := Aside0.mk (blk_below (g := gb101) (o := .cells #[.slice A0_0 l0_0.length c0_0, .slice A0_1 l0_1.length c0_1] 35 (0, 0)) (zq3 BK101) hb); replace HB := Aside0.mk (below_step (zq2 GE101) hb); (try clear hb)))
    go_roundg k2
    case measure => have := HJ2.out; have := HK2.out; omega
    case rel => exact ⟨(x6_2), (wrap64 (x7_2 + 1)), zq7, zq7, H', ⟨zq47 HJ2 HK2⟩, ⟨zq3 BK101⟩, ⟨zq2 GE101⟩⟩
  replace c17 := Bool.eq_false_iff.mpr c17
  subst c17
  have H1 : (spec_CountUnpruned.l0 k2 a1 (wrap64 (x6_2 + 1)) (wrap64 (x7_2 + 1)) l0_0 l0_1) = some (r1, r2) := by rw [if_neg (show ¬ (false = true) by decide)] at H; exact H
  clear H
  have H := H1
  clear H1
  have H' := Aside0.mk H
  clear H
  have hcz24_0 : wr.cell? ⟨gb101, 0, none⟩ = some (.slice A0_0 l0_0.length c0_0) := (blk_cell BK101.out 0).trans rfl
  have hcz24_1 : wr.cell? ⟨gb101, 1, none⟩ = some (.slice A0_1 l0_1.length c0_1) := (blk_cell BK101.out 1).trans rfl
  have hfz24_0 := blk_frozen BK101.out 0
  have hfz24_1 := blk_frozen BK101.out 1
  go_wp2_with (first | ((with_reducible refine zgc 47 ?_); refine zca 19 Try.func47 #[.agg #[.slice A0_0 l0_0.length c0_0, .slice A0_1 l0_1.length c0_1], .int .i64 a1] (spec_suCount.calls k2 _ _ l0_0 _ _ l0_1 a1 t104 _ (zq9 HR0_0) HC0_0.out (zq9 HR0_1) HC0_1.out A13.out) ?_; rintro e w25 ⟨rfl, hb⟩; refine ⟨_, rfl, ?_⟩; replace BK101 := Aside0.mk (blk_below (g := gb101) (o := .cells #[.slice A0_0 l0_0.length c0_0, .slice A0_1 l0_1.length c0_1] 35 (0, 0)) (zq3 BK101) hb); replace HB := Aside0.mk (below_step (zq2 GE101) hb); (try clear hb); have hcz26_0 : w25.cell? ⟨gb101, 0, none⟩ = some (.slice A0_0 l0_0.length c0_0) := (blk_cell BK101.out 0).trans rfl; have hcz26_1 : w25.cell? ⟨gb101, 1, none⟩ = some (.slice A0_1 l0_1.length c0_1) := (blk_cell BK101.out 1).trans rfl; have hfz26_0 := blk_frozen BK101.out 0; have hfz26_1 := blk_frozen BK101.out 1) | ((with_reducible refine zgc 49 ?_); refine zca 26 Try.func49 #[.agg #[.slice A0_0 l0_0.length c0_0, .slice A0_1 l0_1.length c0_1], .int .i64 a1, .int .i64 x7_2] (spec_suWith.calls k2 _ _ l0_0 _ _ l0_1 a1 x7_2 t105 _ (zq9 HR0_0) HC0_0.out (zq9 HR0_1) HC0_1.out A15.out) ?_; rintro e w27 ⟨v106, rfl, ho0, hb⟩; refine ⟨_, rfl, ?_⟩; have HO107 := Aside0.mk (Kd.R_lower ho0 (below_size (zq2 GE101))); replace BK101 := Aside0.mk (blk_below (g := gb101) (o := .cells #[.slice A0_0 l0_0.length c0_0, .slice A0_1 l0_1.length c0_1] 35 (0, 0)) (zq3 BK101) hb); replace HB := Aside0.mk (below_step (zq2 GE101) hb); (try clear hb); (try clear ho0); obtain ⟨Ao28, co28, eo28⟩ := Kd.R_slice HO107.out; subst eo28) | ((with_reducible refine zgc 48 ?_); refine zca 27 Try.func48 #[.slice Ao28 t105.length co28] (spec_suPruned.calls k2 _ _ t105 false _ (zq16 HO107) (zq44 HO107) A16.out) ?_; rintro e w29 ⟨rfl, hb⟩; refine ⟨_, rfl, ?_⟩; replace HO107 := Aside0.mk (Kd.R_below (zq5 HO107) hb); replace BK101 := Aside0.mk (blk_below (g := gb101) (o := .cells #[.slice A0_0 l0_0.length c0_0, .slice A0_1 l0_1.length c0_1] 35 (0, 0)) (zq3 BK101) hb); replace HB := Aside0.mk (below_step (zq2 GE101) hb); (try clear hb)))
  go_roundg k2
  case measure => have := HJ2.out; have := HK2.out; omega
  case rel => exact ⟨(wrap64 (x6_2 + 1)), (wrap64 (x7_2 + 1)), zq7, zq7, H', ⟨zq47 HJ2 HK2⟩, ⟨zq3 BK101⟩, ⟨zq2 GE101⟩⟩
end Go.Proofs.Ytnaafcleafbejaa.Q
end
section
namespace Go.Proofs.Ytnaafcleafbejaa.Q
open Go.RowKit Go.Proofs.YtnaafcleafbejaaW.PrintWords Go.Proofs.YtnaafcleafbejaaW.PrintLast Go.Proofs.YtnaafcleafbejaaW.PrintMore
set_option maxHeartbeats 8000000
set_option maxRecDepth 100000
attribute [local go_sem] max2_int min2_int max_two min_two max_three min_three max_four min_four
set_option linter.unusedVariables false
set_option linter.unusedSimpArgs false
def laws_FnExactCountUnpruned.j0 : Nat → Bool → List ByteArray → List Int → List ByteArray → List Int → Option (Bool)
  | 0, _, _, _, _, _ => none
  | k + 1, x38, x102000, x102001, x118000, x118001 => if x38 = true then (some false) else ((laws_toChoice.f k x102000 x102001).bind fun bt120 => ((laws_eqChoice.f k x118000 x118001 bt120.1 bt120.2).bind fun t126 => (if t126 = true then (some true) else (some false))))
def laws_FnExactCountUnpruned.f (k : Nat) (l0_0 : List ByteArray) (l0_1 : List Int) (a1 : Int) : Option (Bool) := (laws_szChoice.f k l0_0 l0_1 1048576).bind fun t102 => (if t102 < 0 then (some true) else ((laws_toChoice.f k l0_0 l0_1).bind fun bt103 => ((spec_CountUnpruned.f k bt103.1 bt103.2 a1).bind fun bt109 => ((laws_toChoice.f k l0_0 l0_1).bind fun bt111 => ((impl_CountUnpruned.f k bt111.1 bt111.2 a1).bind fun bt118 => (if bt118.1 = bt109.1 then (laws_FnExactCountUnpruned.j0 k (bt118.2 != bt109.2) l0_0 l0_1 bt111.1 bt111.2) else (laws_FnExactCountUnpruned.j0 k true l0_0 l0_1 bt111.1 bt111.2)))))))
theorem laws_FnExactCountUnpruned.mono_l : ∀ k, (∀ y0 y1 y2 y3 y4, LeO (laws_FnExactCountUnpruned.j0 k y0 y1 y2 y3 y4) (laws_FnExactCountUnpruned.j0 (k + 1) y0 y1 y2 y3 y4))
  | 0 => fun _ _ _ _ _ r h => by simp [laws_FnExactCountUnpruned.j0] at h
  | k + 1 => by
    have ih0 := laws_FnExactCountUnpruned.mono_l k
    · intro y0 y1 y2 y3 y4
      unfold laws_FnExactCountUnpruned.j0
      repeat' first
      | (with_reducible exact ih0 _ _ _ _ _)
      | (with_reducible exact impl_CountUnpruned.mono _ _ _ _)
      | (with_reducible exact laws_eqChoice.mono _ _ _ _ _)
      | (with_reducible exact laws_szChoice.mono _ _ _ _)
      | (with_reducible exact laws_toChoice.mono _ _ _)
      | (with_reducible exact spec_CountUnpruned.mono _ _ _ _)
      | (with_reducible exact LeO.refl _)
      | (with_reducible exact LeO.none _)
      | (with_reducible refine LeO.ite ?_ ?_)
      | (with_reducible refine LeO.bind ?_ (fun _ => ?_))
      | exact ih0 _ _ _ _ _
      | exact impl_CountUnpruned.mono _ _ _ _
      | exact laws_eqChoice.mono _ _ _ _ _
      | exact laws_szChoice.mono _ _ _ _
      | exact laws_toChoice.mono _ _ _
      | exact spec_CountUnpruned.mono _ _ _ _
      | exact LeO.none _
      | refine LeO.ite ?_ ?_
      | refine LeO.bind ?_ (fun _ => ?_)
theorem laws_FnExactCountUnpruned.mono : ∀ a0 a1 a2 k, LeO (laws_FnExactCountUnpruned.f k a0 a1 a2) (laws_FnExactCountUnpruned.f (k + 1) a0 a1 a2) := by
  intro a0 a1 a2 k
  have ih0 := laws_FnExactCountUnpruned.mono_l k
  unfold laws_FnExactCountUnpruned.f
  repeat' first
      | (with_reducible exact ih0 _ _ _ _ _)
      | (with_reducible exact impl_CountUnpruned.mono _ _ _ _)
      | (with_reducible exact laws_eqChoice.mono _ _ _ _ _)
      | (with_reducible exact laws_szChoice.mono _ _ _ _)
      | (with_reducible exact laws_toChoice.mono _ _ _)
      | (with_reducible exact spec_CountUnpruned.mono _ _ _ _)
      | (with_reducible exact LeO.refl _)
      | (with_reducible exact LeO.none _)
      | (with_reducible refine LeO.ite ?_ ?_)
      | (with_reducible refine LeO.bind ?_ (fun _ => ?_))
      | exact ih0 _ _ _ _ _
      | exact impl_CountUnpruned.mono _ _ _ _
      | exact laws_eqChoice.mono _ _ _ _ _
      | exact laws_szChoice.mono _ _ _ _
      | exact laws_toChoice.mono _ _ _
      | exact spec_CountUnpruned.mono _ _ _ _
      | exact LeO.none _
      | refine LeO.ite ?_ ?_
      | refine LeO.bind ?_ (fun _ => ?_)
theorem laws_FnExactCountUnpruned.calls (k : Nat) (A0_0 : Option Addr) (c0_0 : Nat) (l0_0 : List ByteArray) (A0_1 : Option Addr) (c0_1 : Nat) (l0_1 : List Int) (a1 : Int) (r : Bool) (w : World) (hr0_0 : Kd.C Kd.string w A0_0 l0_0.length l0_0) (hc0_0 : l0_0.length ≤ c0_0) (hr0_1 : Kd.C (Kd.int .i64) w A0_1 l0_1.length l0_1) (hc0_1 : l0_1.length ≤ c0_1) (h : laws_FnExactCountUnpruned.f k l0_0 l0_1 a1 = some r) :
    Calls Try.prog 5 #[.agg #[.slice A0_0 l0_0.length c0_0, .slice A0_1 l0_1.length c0_1], .int .i64 a1] w fun e w' => e = .returned (.bool r) ∧ Below w.heap.size w w' := by
  have hu26 := Try.underlying26
  have hu35 := Try.underlying35
  have HR0_0 := Aside0.mk hr0_0
  have HC0_0 := Aside0.mk hc0_0
  clear hr0_0 hc0_0
  have HR0_1 := Aside0.mk hr0_1
  have HC0_1 := Aside0.mk hc0_1
  clear hr0_1 hc0_1
  have HB := Aside0.mk (Below.refl w.heap.size w)
  have H : ((laws_szChoice.f k l0_0 l0_1 1048576).bind fun t102 => (if t102 < 0 then (some true) else ((laws_toChoice.f k l0_0 l0_1).bind fun bt103 => ((spec_CountUnpruned.f k bt103.1 bt103.2 a1).bind fun bt109 => ((laws_toChoice.f k l0_0 l0_1).bind fun bt111 => ((impl_CountUnpruned.f k bt111.1 bt111.2 a1).bind fun bt118 => (if bt118.1 = bt109.1 then (laws_FnExactCountUnpruned.j0 k (bt118.2 != bt109.2) l0_0 l0_1 bt111.1 bt111.2) else (laws_FnExactCountUnpruned.j0 k true l0_0 l0_1 bt111.1 bt111.2)))))))) = some r := h
  clear h
  replace H := Option.bind_eq_some_iff.mp H
  obtain ⟨t102, A30, H⟩ := H
  replace H : (if t102 < 0 then (some true) else ((laws_toChoice.f k l0_0 l0_1).bind fun bt103 => ((spec_CountUnpruned.f k bt103.1 bt103.2 a1).bind fun bt109 => ((laws_toChoice.f k l0_0 l0_1).bind fun bt111 => ((impl_CountUnpruned.f k bt111.1 bt111.2 a1).bind fun bt118 => (if bt118.1 = bt109.1 then (laws_FnExactCountUnpruned.j0 k (bt118.2 != bt109.2) l0_0 l0_1 bt111.1 bt111.2) else (laws_FnExactCountUnpruned.j0 k true l0_0 l0_1 bt111.1 bt111.2))))))) = some r := H
  have A3 := Aside0.mk A30
  clear A30
  by_cases c4 : t102 < 0
  · rw [if_pos c4] at H
    have c4b0 : decide (t102 < 0) = true := decide_eq_true c4
    clear c4
    obtain rfl := Option.some.inj H
    go_enter Try.func5, Try.ntmps5
    go_wp2_with (first | ((with_reducible refine zgd 2 ?_); refine box_event ?hg (N := 2) ?hd (cs := #[.slice A0_0 l0_0.length c0_0, .slice A0_1 l0_1.length c0_1]) (t := 26) ?hr ?_; (case hd => rfl); (case hg => rfl); (case hr => first | (go_simp; done) | (go_simp; rfl)); intro gb101 hg w5 hbox hb; have BK101 := Aside0.mk (hbox); have GW101 := Aside0.mk ((zq11 : w.heap.size ≤ gb101)); have GE101 := Aside0.mk ((zq11 : w.heap.size ≤ gb101)); replace HB := Aside0.mk (below_step zq1 hb); clear hb hbox hg; have hcz6_0 : w5.cell? ⟨gb101, 0, none⟩ = some (.slice A0_0 l0_0.length c0_0) := (blk_cell BK101.out 0).trans rfl; have hcz6_1 : w5.cell? ⟨gb101, 1, none⟩ = some (.slice A0_1 l0_1.length c0_1) := (blk_cell BK101.out 1).trans rfl; have hfz6_0 := blk_frozen BK101.out 0; have hfz6_1 := blk_frozen BK101.out 1) | ((with_reducible refine zgc 7 ?_); refine zca 13 Try.func7 #[.agg #[.slice A0_0 l0_0.length c0_0, .slice A0_1 l0_1.length c0_1], .int .i64 1048576] (laws_szChoice.calls k _ _ l0_0 _ _ l0_1 1048576 t102 _ (zq9 HR0_0) HC0_0.out (zq9 HR0_1) HC0_1.out A3.out) ?_; rintro e w7 ⟨rfl, hb⟩; refine ⟨_, rfl, ?_⟩; replace BK101 := Aside0.mk (blk_below (g := gb101) (o := .cells #[.slice A0_0 l0_0.length c0_0, .slice A0_1 l0_1.length c0_1] 26 (0, 0)) (zq3 BK101) hb); replace HB := Aside0.mk (below_step (zq2 GE101) hb); (try clear hb)))
    go_ret
    exact ⟨zq8, zq2 GE101⟩
  rw [if_neg c4] at H
  have c4b0 : decide (t102 < 0) = false := decide_eq_false c4
  clear c4
  replace H := Option.bind_eq_some_iff.mp H
  obtain ⟨⟨t103, t106⟩, A80, H⟩ := H
  replace H : ((spec_CountUnpruned.f k t103 t106 a1).bind fun bt109 => ((laws_toChoice.f k l0_0 l0_1).bind fun bt111 => ((impl_CountUnpruned.f k bt111.1 bt111.2 a1).bind fun bt118 => (if bt118.1 = bt109.1 then (laws_FnExactCountUnpruned.j0 k (bt118.2 != bt109.2) l0_0 l0_1 bt111.1 bt111.2) else (laws_FnExactCountUnpruned.j0 k true l0_0 l0_1 bt111.1 bt111.2))))) = some r := H
  have A8 := Aside0.mk A80
  clear A80
  replace H := Option.bind_eq_some_iff.mp H
  obtain ⟨⟨t109, t110⟩, A90, H⟩ := H
  replace H : ((laws_toChoice.f k l0_0 l0_1).bind fun bt111 => ((impl_CountUnpruned.f k bt111.1 bt111.2 a1).bind fun bt118 => (if bt118.1 = t109 then (laws_FnExactCountUnpruned.j0 k (bt118.2 != t110) l0_0 l0_1 bt111.1 bt111.2) else (laws_FnExactCountUnpruned.j0 k true l0_0 l0_1 bt111.1 bt111.2)))) = some r := H
  have A9 := Aside0.mk A90
  clear A90
  replace H := Option.bind_eq_some_iff.mp H
  obtain ⟨⟨t111, t114⟩, A100, H⟩ := H
  replace H : ((impl_CountUnpruned.f k t111 t114 a1).bind fun bt118 => (if bt118.1 = t109 then (laws_FnExactCountUnpruned.j0 k (bt118.2 != t110) l0_0 l0_1 t111 t114) else (laws_FnExactCountUnpruned.j0 k true l0_0 l0_1 t111 t114))) = some r := H
  have A10 := Aside0.mk A100
  clear A100
  replace H := Option.bind_eq_some_iff.mp H
  obtain ⟨⟨t118, t119⟩, A110, H⟩ := H
  replace H : (if t118 = t109 then (laws_FnExactCountUnpruned.j0 k (t119 != t110) l0_0 l0_1 t111 t114) else (laws_FnExactCountUnpruned.j0 k true l0_0 l0_1 t111 t114)) = some r := H
  have A11 := Aside0.mk A110
  clear A110
  have HC12 := Aside0.mk H
  clear H
  go_enter Try.func5, Try.ntmps5
  go_upto_region 8 with (first | ((with_reducible refine zgd 2 ?_); refine box_event ?hg (N := 2) ?hd (cs := #[.slice A0_0 l0_0.length c0_0, .slice A0_1 l0_1.length c0_1]) (t := 26) ?hr ?_; (case hd => rfl); (case hg => rfl); (case hr => first | (go_simp; done) | (go_simp; rfl)); intro gb101 hg w13 hbox hb; have BK101 := Aside0.mk (hbox); have GW101 := Aside0.mk ((zq11 : w.heap.size ≤ gb101)); have GE101 := Aside0.mk ((zq11 : w.heap.size ≤ gb101)); replace HB := Aside0.mk (below_step zq1 hb); clear hb hbox hg; have hcz14_0 : w13.cell? ⟨gb101, 0, none⟩ = some (.slice A0_0 l0_0.length c0_0) := (blk_cell BK101.out 0).trans rfl; have hcz14_1 : w13.cell? ⟨gb101, 1, none⟩ = some (.slice A0_1 l0_1.length c0_1) := (blk_cell BK101.out 1).trans rfl; have hfz14_0 := blk_frozen BK101.out 0; have hfz14_1 := blk_frozen BK101.out 1) | ((with_reducible refine zgc 7 ?_); refine zca 13 Try.func7 #[.agg #[.slice A0_0 l0_0.length c0_0, .slice A0_1 l0_1.length c0_1], .int .i64 1048576] (laws_szChoice.calls k _ _ l0_0 _ _ l0_1 1048576 t102 _ (zq9 HR0_0) HC0_0.out (zq9 HR0_1) HC0_1.out A3.out) ?_; rintro e w15 ⟨rfl, hb⟩; refine ⟨_, rfl, ?_⟩; replace BK101 := Aside0.mk (blk_below (g := gb101) (o := .cells #[.slice A0_0 l0_0.length c0_0, .slice A0_1 l0_1.length c0_1] 26 (0, 0)) (zq3 BK101) hb); replace HB := Aside0.mk (below_step (zq2 GE101) hb); (try clear hb); have hcz16_0 : w15.cell? ⟨gb101, 0, none⟩ = some (.slice A0_0 l0_0.length c0_0) := (blk_cell BK101.out 0).trans rfl; have hcz16_1 : w15.cell? ⟨gb101, 1, none⟩ = some (.slice A0_1 l0_1.length c0_1) := (blk_cell BK101.out 1).trans rfl; have hfz16_0 := blk_frozen BK101.out 0; have hfz16_1 := blk_frozen BK101.out 1) | ((with_reducible refine zgc 11 ?_); refine zca 18 Try.func11 #[.agg #[.slice A0_0 l0_0.length c0_0, .slice A0_1 l0_1.length c0_1]] (laws_toChoice.calls k _ _ l0_0 _ _ l0_1 t103 t106 _ (zq9 HR0_0) HC0_0.out (zq9 HR0_1) HC0_1.out A8.out) ?_; rintro e w17 ⟨v104, v107, rfl, ho0, ho1, hb⟩; refine ⟨_, rfl, ?_⟩; have HO105 := Aside0.mk (Kd.R_lower ho0 (below_size (zq2 GE101))); have HO108 := Aside0.mk (Kd.R_lower ho1 (below_size (zq2 GE101))); replace BK101 := Aside0.mk (blk_below (g := gb101) (o := .cells #[.slice A0_0 l0_0.length c0_0, .slice A0_1 l0_1.length c0_1] 26 (0, 0)) (zq3 BK101) hb); replace HB := Aside0.mk (below_step (zq2 GE101) hb); (try clear hb); (try clear ho0); (try clear ho1); obtain ⟨Ao18, co18, eo18⟩ := Kd.R_slice HO105.out; subst eo18; obtain ⟨Ao19, co19, eo19⟩ := Kd.R_slice HO108.out; subst eo19) | ((with_reducible refine zgc 19 ?_); refine zca 20 Try.func19 #[.agg #[.slice Ao18 t103.length co18, .slice Ao19 t106.length co19], .int .i64 a1] (spec_CountUnpruned.calls k _ _ t103 _ _ t106 a1 t109 t110 _ (zq16 HO105) (zq44 HO105) (zq16 HO108) (zq44 HO108) A9.out) ?_; rintro e w20 ⟨rfl, hb⟩; refine ⟨_, rfl, ?_⟩; replace HO105 := Aside0.mk (Kd.R_below (zq5 HO105) hb); replace HO108 := Aside0.mk (Kd.R_below (zq5 HO108) hb); replace BK101 := Aside0.mk (blk_below (g := gb101) (o := .cells #[.slice A0_0 l0_0.length c0_0, .slice A0_1 l0_1.length c0_1] 26 (0, 0)) (zq3 BK101) hb); replace HB := Aside0.mk (below_step (zq2 GE101) hb); (try clear hb); have hcz21_0 : w20.cell? ⟨gb101, 0, none⟩ = some (.slice A0_0 l0_0.length c0_0) := (blk_cell BK101.out 0).trans rfl; have hcz21_1 : w20.cell? ⟨gb101, 1, none⟩ = some (.slice A0_1 l0_1.length c0_1) := (blk_cell BK101.out 1).trans rfl; have hfz21_0 := blk_frozen BK101.out 0; have hfz21_1 := blk_frozen BK101.out 1) | ((with_reducible refine zgc 11 ?_); refine zca 24 Try.func11 #[.agg #[.slice A0_0 l0_0.length c0_0, .slice A0_1 l0_1.length c0_1]] (laws_toChoice.calls k _ _ l0_0 _ _ l0_1 t111 t114 _ (zq9 HR0_0) HC0_0.out (zq9 HR0_1) HC0_1.out A10.out) ?_; rintro e w22 ⟨v112, v115, rfl, ho0, ho1, hb⟩; refine ⟨_, rfl, ?_⟩; have HO113 := Aside0.mk (Kd.R_lower (Kd.R_new' ho0 (Kd.R_lt (zq5 HO105))) (below_size (zq2 GE101))); replace HO105 := Aside0.mk (Kd.R_elder' (zq5 HO105) (Kd.R_base ho0) hb); have HO116 := Aside0.mk (Kd.R_lower (Kd.R_new' ho1 (Kd.R_lt (zq5 HO108))) (below_size (zq2 GE101))); replace HO108 := Aside0.mk (Kd.R_elder' (zq5 HO108) (Kd.R_base ho1) hb); replace BK101 := Aside0.mk (blk_below (g := gb101) (o := .cells #[.slice A0_0 l0_0.length c0_0, .slice A0_1 l0_1.length c0_1] 26 (0, 0)) (zq3 BK101) hb); replace HB := Aside0.mk (below_step (zq2 GE101) hb); (try clear hb); (try clear ho0); (try clear ho1)) | ((with_reducible refine zgd 8 ?_); refine box_event ?hg (N := 8) ?hd (cs := #[.slice none 0 0, .slice none 0 0]) (t := 35) ?hr ?_; (case hd => rfl); (case hg => rfl); (case hr => first | (go_simp; done) | (go_simp; rfl)); intro gb117 hg w23 hbox hb; replace HO105 := Aside0.mk (Kd.R_below (zq5 HO105) hb); replace HO108 := Aside0.mk (Kd.R_below (zq5 HO108) hb); replace HO113 := Aside0.mk (Kd.R_below (zq5 HO113) hb); replace HO116 := Aside0.mk (Kd.R_below (zq5 HO116) hb); have BK117 := Aside0.mk (hbox); have GW117 := Aside0.mk ((zq24 : w.heap.size ≤ gb117)); have GE117 := Aside0.mk ((zq24 : w.heap.size ≤ gb117)); replace HB := Aside0.mk (below_step (zq2 GE101) hb); have NB101_117 := Aside0.mk ((zq41 : gb101 ≠ gb117)); have NB117_101 := Aside0.mk ((zq42 : gb117 ≠ gb101)); replace BK101 := Aside0.mk (blk_below (g := gb101) (o := .cells #[.slice A0_0 l0_0.length c0_0, .slice A0_1 l0_1.length c0_1] 26 (0, 0)) (zq3 BK101) hb); clear hb hbox hg; obtain ⟨Ao24, co24, eo24⟩ := Kd.R_slice HO113.out; subst eo24; have hnb25 := NB117_101.out; have hnc25 := NB101_117.out; have hcz26_0 : w23.cell? ⟨gb117, 0, none⟩ = some (.slice none 0 0) := (blk_cell BK117.out 0).trans rfl; have hcz26_1 : w23.cell? ⟨gb117, 1, none⟩ = some (.slice none 0 0) := (blk_cell BK117.out 1).trans rfl; have hfz26_0 := blk_frozen BK117.out 0; have hfz26_1 := blk_frozen BK117.out 1; obtain ⟨Ao27, co27, eo27⟩ := Kd.R_slice HO116.out; subst eo27) | ((with_reducible refine zgc 20 ?_); refine zca 28 Try.func20 #[.agg #[.slice Ao24 t111.length co24, .slice Ao27 t114.length co27], .int .i64 a1] (impl_CountUnpruned.calls k _ _ t111 _ _ t114 a1 t118 t119 _ (by refine (Kd.R_reads' (e := 9) (base := w.heap.size) (ok := fun k_ => (True ∧ some k_ ≠ (.slice Ao18 t103.length co18 : Value).ownBlock)) (n := t111.length) (c := co24) ?_).2.2; exact (zq13 HO113 BK117)) (zq44 HO113) (by refine (Kd.R_reads' (e := 3) (base := w.heap.size) (ok := fun k_ => (True ∧ some k_ ≠ (.slice Ao19 t106.length co19 : Value).ownBlock)) (n := t114.length) (c := co27) ?_).2.2; exact (zq13 HO116 BK117)) (zq44 HO116) A11.out) ?_; rintro e w28 ⟨rfl, hb⟩; refine ⟨_, rfl, ?_⟩; replace HO105 := Aside0.mk (Kd.R_below (zq13 HO105 BK117) hb); replace HO108 := Aside0.mk (Kd.R_below (zq13 HO108 BK117) hb); replace HO113 := Aside0.mk (Kd.R_below (zq13 HO113 BK117) hb); replace HO116 := Aside0.mk (Kd.R_below (zq13 HO116 BK117) hb); replace BK101 := Aside0.mk (blk_below (g := gb101) (o := .cells #[.slice A0_0 l0_0.length c0_0, .slice A0_1 l0_1.length c0_1] 26 (0, 0)) (by (with_reducible repeat (first | refine blk_drewN ?_ _ | refine blk_drew ?_ | refine blk_alloc ?_ _)); refine blk_far ?_ NB101_117.out _; (with_reducible repeat (first | refine blk_drewN ?_ _ | refine blk_drew ?_ | refine blk_alloc ?_ _)); refine blk_far ?_ NB101_117.out _; (with_reducible repeat (first | refine blk_drewN ?_ _ | refine blk_drew ?_ | refine blk_alloc ?_ _)); exact BK101.out) hb); replace BK117 := Aside0.mk (blk_below (g := gb117) (o := .cells #[.slice Ao24 t111.length co24, .slice Ao27 t114.length co27] 35 (0, 0)) (by (with_reducible repeat (first | refine blk_drewN ?_ _ | refine blk_drew ?_ | refine blk_alloc ?_ _)); refine blk_put (cs := #[.slice Ao24 t111.length co24, .slice none 0 0]) ?_ 1 _ rfl; (with_reducible repeat (first | refine blk_drewN ?_ _ | refine blk_drew ?_ | refine blk_alloc ?_ _)); refine blk_put (cs := #[.slice none 0 0, .slice none 0 0]) ?_ 0 _ rfl; (with_reducible repeat (first | refine blk_drewN ?_ _ | refine blk_drew ?_ | refine blk_alloc ?_ _)); exact BK117.out) hb); replace HB := Aside0.mk (below_step (zq6 GE101 GE117) hb); (try clear hb); (try clear hk)))
  (try simp only [Act.put, List.setIfInBounds_toArray, List.set_cons_zero, List.set_cons_succ])
  go_cut [38] (fun v38 wc => ∃ (kq : Nat) (x38_11 : Bool), v38 = .bool x38_11 ∧ Aside0 (laws_FnExactCountUnpruned.j0 kq x38_11 l0_0 l0_1 t111 t114 = some r) ∧ Aside0 (kq ≤ k) ∧ Aside0 (Kd.R Kd.string 9 wc w.heap.size (fun _ => True) (.slice Ao24 t111.length co24) t111) ∧ Aside0 (Kd.R (Kd.int .i64) 3 wc w.heap.size (fun _ => True) (.slice Ao27 t114.length co27) t114) ∧ Aside0 (wc.heap[gb101]? = some (.cells #[(.slice A0_0 l0_0.length c0_0), (.slice A0_1 l0_1.length c0_1)] 26 (0, 0))) ∧ Aside0 (wc.heap[gb117]? = some (.cells #[(.slice Ao24 t111.length co24), (.slice Ao27 t114.length co27)] 35 (0, 0))) ∧ Aside0 (Below w.heap.size w wc))
  case first =>
    have H := HC12.out
    clear HC12
    by_cases c29 : t118 = t109
    rotate_left
    · rw [if_neg c29] at H
      obtain ⟨c29b0, c29b1⟩ := zbq c29
      (first | rw [c29b0] | (simp only [i64_w, i32_w]; rw [c29b0]) | skip)
      have H' := Aside0.mk H
      clear H
      go_wp2
      go_meet
      case rel => exact ⟨_, (true), zq7, H', ⟨zq22⟩, ⟨zq21 HO113⟩, ⟨zq21 HO116⟩, ⟨zq3 BK101⟩, ⟨zq3 BK117⟩, ⟨zq6 GE101 GE117⟩⟩
    rw [if_pos c29] at H
    obtain ⟨c29b0, c29b1⟩ := zbe c29
    clear c29
    (first | rw [c29b0] | (simp only [i64_w, i32_w]; rw [c29b0]) | skip)
    have H' := Aside0.mk H
    clear H
    go_wp2
    go_meet
    case rel => exact ⟨_, ((t119 != t110)), zq7, H', ⟨zq22⟩, ⟨zq21 HO113⟩, ⟨zq21 HO116⟩, ⟨zq3 BK101⟩, ⟨zq3 BK117⟩, ⟨zq6 GE101 GE117⟩⟩
  clear HC12
  try clear c4
  try clear c4b0
  try clear c29
  try clear c29b0
  try clear c29b1
  try clear hcz14_0
  try clear hcz14_1
  try clear hcz16_0
  try clear hcz16_1
  try clear hcz21_0
  try clear hcz21_1
  try clear hcz26_0
  try clear hcz26_1
  try clear hcz6_0
  try clear hcz6_1
  try clear hfz14_0
  try clear hfz14_1
  try clear hfz16_0
  try clear hfz16_1
  try clear hfz21_0
  try clear hfz21_1
  try clear hfz26_0
  try clear hfz26_1
  try clear hfz6_0
  try clear hfz6_1
  obtain ⟨kq, x38_11, rfl, HA, HJ11, HO_118000, HO_118001, BK101, BK117, HB⟩ := hcut
  cases kq with
  | zero => exact absurd HA.out (by simp [laws_FnExactCountUnpruned.j0])
  | succ kj11 =>
  have H := HA.out
  clear HA
  simp only [laws_FnExactCountUnpruned.j0] at H
  by_cases c30 : x38_11 = true
  · subst c30
    have H1 : (some false) = some r := by rw [if_pos rfl] at H; exact H
    clear H
    have H := H1
    clear H1
    obtain rfl := Option.some.inj H
    go_wp2
    go_ret
    exact ⟨zq8, zq6 GE101 GE117⟩
  replace c30 := Bool.eq_false_iff.mpr c30
  subst c30
  have H1 : ((laws_toChoice.f kj11 l0_0 l0_1).bind fun bt120 => ((laws_eqChoice.f kj11 t111 t114 bt120.1 bt120.2).bind fun t126 => (if t126 = true then (some true) else (some false)))) = some r := by rw [if_neg (show ¬ (false = true) by decide)] at H; exact H
  clear H
  have H := H1
  clear H1
  replace H := Option.bind_eq_some_iff.mp H
  obtain ⟨⟨t120, t123⟩, A310, H⟩ := H
  replace H : ((laws_eqChoice.f kj11 t111 t114 t120 t123).bind fun t126 => (if t126 = true then (some true) else (some false))) = some r := H
  have A31 := Aside0.mk A310
  clear A310
  replace H := Option.bind_eq_some_iff.mp H
  obtain ⟨t126, A320, H⟩ := H
  replace H : (if t126 = true then (some true) else (some false)) = some r := H
  have A32 := Aside0.mk A320
  clear A320
  by_cases c33 : t126 = true
  · subst c33
    have H1 : (some true) = some r := by rw [if_pos rfl] at H; exact H
    clear H
    have H := H1
    clear H1
    obtain rfl := Option.some.inj H
    try go_wp2
    replace HO_118000 := Aside0.mk (Kd.R_drew HO_118000.out)
    replace HO_118001 := Aside0.mk (Kd.R_drew HO_118001.out)
    replace BK101 := Aside0.mk (blk_drew BK101.out)
    replace BK117 := Aside0.mk (blk_drew BK117.out)
    replace HB := Aside0.mk (below_drew1 HB.out)
    refine start_ (n := 5) (S := fun w' => w'.cell? ⟨gb117, 0, none⟩ = some (.slice Ao24 t111.length co24) ∧ w'.cell? ⟨gb117, 1, none⟩ = some (.slice Ao27 t114.length co27) ∧ w'.cell? ⟨gb101, 0, none⟩ = some (.slice A0_0 l0_0.length c0_0) ∧ w'.cell? ⟨gb101, 1, none⟩ = some (.slice A0_1 l0_1.length c0_1)) (ds := []) #[false, false, false, false, false] zq27 rfl rfl ⟨(blk_cell BK117.out 0).trans rfl, (blk_cell BK117.out 1).trans rfl, (blk_cell BK101.out 0).trans rfl, (blk_cell BK101.out 1).trans rfl⟩ (fun hHeld => ?_)
    generalize wc.drew = w34 at HO_118000 HO_118001 BK101 BK117 HB hHeld ⊢
    refine ztk 0 39 hHeld ?_
    refine ztk 1 40 hHeld ?_
    refine one_ (i := 2) (N := some 41) #[true, true, true, false, false] rfl rfl zq27 (by decide) (fun K hK => ?_)
    refine goes_ Try.func11 zq27 rfl #[.agg #[.slice A0_0 l0_0.length c0_0, .slice A0_1 l0_1.length c0_1]] (by rfl) rfl rfl zq26 ?_
    with_reducible refine (laws_toChoice.calls kj11 _ _ l0_0 _ _ l0_1 t120 t123 _ ?side1 ?side2 ?side3 ?side4 A31.out).mono ?_
    (case side1 => repeat (first | exact (Kd.C_below HR0_0.out HB.out) | (with_reducible refine Kd.C_alloc ?_ _) | (with_reducible refine Kd.C_drewN ?_ _) | (with_reducible refine Kd.C_drew ?_)))
    (case side2 => exact HC0_0.out)
    (case side3 => repeat (first | exact (Kd.C_below HR0_1.out HB.out) | (with_reducible refine Kd.C_alloc ?_ _) | (with_reducible refine Kd.C_drewN ?_ _) | (with_reducible refine Kd.C_drew ?_)))
    (case side4 => exact HC0_1.out)
    rintro e w35 ⟨v121, v124, rfl, ho0, ho1, hb⟩
    refine ⟨_, rfl, ?_⟩
    have HO122 := Aside0.mk (Kd.R_lower (Kd.R_new' ho0 (Kd.R_lt (zq5 HO_118000))) (below_size (zq6 GE101 GE117)))
    replace HO_118000 := Aside0.mk (Kd.R_elder' (zq5 HO_118000) (Kd.R_base ho0) hb)
    have HO125 := Aside0.mk (Kd.R_lower (Kd.R_new' ho1 (Kd.R_lt (zq5 HO_118001))) (below_size (zq6 GE101 GE117)))
    replace HO_118001 := Aside0.mk (Kd.R_elder' (zq5 HO_118001) (Kd.R_base ho1) hb)
    replace BK101 := Aside0.mk (blk_below (g := gb101) (o := .cells #[.slice A0_0 l0_0.length c0_0, .slice A0_1 l0_1.length c0_1] 26 (0, 0)) (zq3 BK101) hb)
    replace BK117 := Aside0.mk (blk_below (g := gb117) (o := .cells #[.slice Ao24 t111.length co24, .slice Ao27 t114.length co27] 35 (0, 0)) (zq3 BK117) hb)
    replace HB := Aside0.mk (below_step (zq6 GE101 GE117) hb)
    (try clear hb)
    (try clear hb2)
    (try clear hk)
    (try clear hi)
    (try clear ho0)
    (try clear ho1)
    obtain ⟨Ao36, co36, eo36⟩ := Kd.R_slice HO122.out
    (first | subst eo36 | (injection eo36 with f1_ f2_ f3_; have f4_ := f1_.symm; have f5_ := f3_.symm; clear f1_ f2_ f3_; subst f4_; subst f5_))
    obtain ⟨Ao37, co37, eo37⟩ := Kd.R_slice HO125.out
    (first | subst eo37 | (injection eo37 with f1_ f2_ f3_; have f4_ := f1_.symm; have f5_ := f3_.symm; clear f1_ f2_ f3_; subst f4_; subst f5_))
    refine hK.out _ _ ⟨(blk_cell BK117.out 0).trans rfl, (blk_cell BK117.out 1).trans rfl, (blk_cell BK101.out 0).trans rfl, (blk_cell BK101.out 1).trans rfl⟩ (fun hHeld => ?_)
    clear hK K
    refine znm 41 ?_
    refine one_ (i := 3) (N := some 42) #[true, true, true, true, false] rfl rfl zq27 (by decide) (fun K hK => ?_)
    refine goes_ Try.func15 zq27 rfl #[.agg #[.slice Ao24 t111.length co24, .slice Ao27 t114.length co27], .agg #[.slice Ao36 t120.length co36, .slice Ao37 t123.length co37]] (by rfl) rfl rfl zq26 ?_
    with_reducible refine (laws_eqChoice.calls kj11 _ _ t111 _ _ t114 _ _ t120 _ _ t123 true _ ?side1 ?side2 ?side3 ?side4 ?side5 ?side6 ?side7 ?side8 A32.out).mono ?_
    (case side1 => repeat (first | exact (Kd.R_reads' HO_118000.out).2.2 | (with_reducible refine Kd.C_alloc ?_ _) | (with_reducible refine Kd.C_drewN ?_ _) | (with_reducible refine Kd.C_drew ?_)))
    (case side2 => exact (Kd.R_reads' HO_118000.out).2.1)
    (case side3 => repeat (first | exact (Kd.R_reads' HO_118001.out).2.2 | (with_reducible refine Kd.C_alloc ?_ _) | (with_reducible refine Kd.C_drewN ?_ _) | (with_reducible refine Kd.C_drew ?_)))
    (case side4 => exact (Kd.R_reads' HO_118001.out).2.1)
    (case side5 => repeat (first | exact (Kd.R_reads' HO122.out).2.2 | (with_reducible refine Kd.C_alloc ?_ _) | (with_reducible refine Kd.C_drewN ?_ _) | (with_reducible refine Kd.C_drew ?_)))
    (case side6 => exact (Kd.R_reads' HO122.out).2.1)
    (case side7 => repeat (first | exact (Kd.R_reads' HO125.out).2.2 | (with_reducible refine Kd.C_alloc ?_ _) | (with_reducible refine Kd.C_drewN ?_ _) | (with_reducible refine Kd.C_drew ?_)))
    (case side8 => exact (Kd.R_reads' HO125.out).2.1)
    rintro e w38 ⟨rfl, hb⟩
    refine ⟨_, rfl, ?_⟩
    replace HO_118000 := Aside0.mk (Kd.R_below (zq5 HO_118000) hb)
    replace HO_118001 := Aside0.mk (Kd.R_below (zq5 HO_118001) hb)
    replace HO122 := Aside0.mk (Kd.R_below (zq5 HO122) hb)
    replace HO125 := Aside0.mk (Kd.R_below (zq5 HO125) hb)
    replace BK101 := Aside0.mk (blk_below (g := gb101) (o := .cells #[.slice A0_0 l0_0.length c0_0, .slice A0_1 l0_1.length c0_1] 26 (0, 0)) (zq3 BK101) hb)
    replace BK117 := Aside0.mk (blk_below (g := gb117) (o := .cells #[.slice Ao24 t111.length co24, .slice Ao27 t114.length co27] 35 (0, 0)) (zq3 BK117) hb)
    replace HB := Aside0.mk (below_step (zq6 GE101 GE117) hb)
    (try clear hb)
    (try clear hb2)
    (try clear hk)
    (try clear hi)
    refine hK.out _ _ ⟨(blk_cell BK117.out 0).trans rfl, (blk_cell BK117.out 1).trans rfl, (blk_cell BK101.out 0).trans rfl, (blk_cell BK101.out 1).trans rfl⟩ (fun hHeld => ?_)
    clear hK K
    refine znm 42 ?_
    refine zpk 4 43 ?_
    refine done_ zq27 ?_
    try go_wp2
    go_ret
    exact ⟨zq8, zq6 GE101 GE117⟩
  replace c33 := Bool.eq_false_iff.mpr c33
  subst c33
  have H1 : (some false) = some r := by rw [if_neg (show ¬ (false = true) by decide)] at H; exact H
  clear H
  have H := H1
  clear H1
  obtain rfl := Option.some.inj H
  try go_wp2
  replace HO_118000 := Aside0.mk (Kd.R_drew HO_118000.out)
  replace HO_118001 := Aside0.mk (Kd.R_drew HO_118001.out)
  replace BK101 := Aside0.mk (blk_drew BK101.out)
  replace BK117 := Aside0.mk (blk_drew BK117.out)
  replace HB := Aside0.mk (below_drew1 HB.out)
  refine start_ (n := 5) (S := fun w' => w'.cell? ⟨gb117, 0, none⟩ = some (.slice Ao24 t111.length co24) ∧ w'.cell? ⟨gb117, 1, none⟩ = some (.slice Ao27 t114.length co27) ∧ w'.cell? ⟨gb101, 0, none⟩ = some (.slice A0_0 l0_0.length c0_0) ∧ w'.cell? ⟨gb101, 1, none⟩ = some (.slice A0_1 l0_1.length c0_1)) (ds := []) #[false, false, false, false, false] zq27 rfl rfl ⟨(blk_cell BK117.out 0).trans rfl, (blk_cell BK117.out 1).trans rfl, (blk_cell BK101.out 0).trans rfl, (blk_cell BK101.out 1).trans rfl⟩ (fun hHeld => ?_)
  generalize wc.drew = w39 at HO_118000 HO_118001 BK101 BK117 HB hHeld ⊢
  refine ztk 0 39 hHeld ?_
  refine ztk 1 40 hHeld ?_
  refine one_ (i := 2) (N := some 41) #[true, true, true, false, false] rfl rfl zq27 (by decide) (fun K hK => ?_)
  refine goes_ Try.func11 zq27 rfl #[.agg #[.slice A0_0 l0_0.length c0_0, .slice A0_1 l0_1.length c0_1]] (by rfl) rfl rfl zq26 ?_
  with_reducible refine (laws_toChoice.calls kj11 _ _ l0_0 _ _ l0_1 t120 t123 _ ?side1 ?side2 ?side3 ?side4 A31.out).mono ?_
  (case side1 => repeat (first | exact (Kd.C_below HR0_0.out HB.out) | (with_reducible refine Kd.C_alloc ?_ _) | (with_reducible refine Kd.C_drewN ?_ _) | (with_reducible refine Kd.C_drew ?_)))
  (case side2 => exact HC0_0.out)
  (case side3 => repeat (first | exact (Kd.C_below HR0_1.out HB.out) | (with_reducible refine Kd.C_alloc ?_ _) | (with_reducible refine Kd.C_drewN ?_ _) | (with_reducible refine Kd.C_drew ?_)))
  (case side4 => exact HC0_1.out)
  rintro e w40 ⟨v121, v124, rfl, ho0, ho1, hb⟩
  refine ⟨_, rfl, ?_⟩
  have HO122 := Aside0.mk (Kd.R_lower (Kd.R_new' ho0 (Kd.R_lt (zq5 HO_118000))) (below_size (zq6 GE101 GE117)))
  replace HO_118000 := Aside0.mk (Kd.R_elder' (zq5 HO_118000) (Kd.R_base ho0) hb)
  have HO125 := Aside0.mk (Kd.R_lower (Kd.R_new' ho1 (Kd.R_lt (zq5 HO_118001))) (below_size (zq6 GE101 GE117)))
  replace HO_118001 := Aside0.mk (Kd.R_elder' (zq5 HO_118001) (Kd.R_base ho1) hb)
  replace BK101 := Aside0.mk (blk_below (g := gb101) (o := .cells #[.slice A0_0 l0_0.length c0_0, .slice A0_1 l0_1.length c0_1] 26 (0, 0)) (zq3 BK101) hb)
  replace BK117 := Aside0.mk (blk_below (g := gb117) (o := .cells #[.slice Ao24 t111.length co24, .slice Ao27 t114.length co27] 35 (0, 0)) (zq3 BK117) hb)
  replace HB := Aside0.mk (below_step (zq6 GE101 GE117) hb)
  (try clear hb)
  (try clear hb2)
  (try clear hk)
  (try clear hi)
  (try clear ho0)
  (try clear ho1)
  obtain ⟨Ao41, co41, eo41⟩ := Kd.R_slice HO122.out
  (first | subst eo41 | (injection eo41 with f1_ f2_ f3_; have f4_ := f1_.symm; have f5_ := f3_.symm; clear f1_ f2_ f3_; subst f4_; subst f5_))
  obtain ⟨Ao42, co42, eo42⟩ := Kd.R_slice HO125.out
  (first | subst eo42 | (injection eo42 with f1_ f2_ f3_; have f4_ := f1_.symm; have f5_ := f3_.symm; clear f1_ f2_ f3_; subst f4_; subst f5_))
  refine hK.out _ _ ⟨(blk_cell BK117.out 0).trans rfl, (blk_cell BK117.out 1).trans rfl, (blk_cell BK101.out 0).trans rfl, (blk_cell BK101.out 1).trans rfl⟩ (fun hHeld => ?_)
  clear hK K
  refine znm 41 ?_
  refine one_ (i := 3) (N := some 42) #[true, true, true, true, false] rfl rfl zq27 (by decide) (fun K hK => ?_)
  refine goes_ Try.func15 zq27 rfl #[.agg #[.slice Ao24 t111.length co24, .slice Ao27 t114.length co27], .agg #[.slice Ao41 t120.length co41, .slice Ao42 t123.length co42]] (by rfl) rfl rfl zq26 ?_
  with_reducible refine (laws_eqChoice.calls kj11 _ _ t111 _ _ t114 _ _ t120 _ _ t123 false _ ?side1 ?side2 ?side3 ?side4 ?side5 ?side6 ?side7 ?side8 A32.out).mono ?_
  (case side1 => repeat (first | exact (Kd.R_reads' HO_118000.out).2.2 | (with_reducible refine Kd.C_alloc ?_ _) | (with_reducible refine Kd.C_drewN ?_ _) | (with_reducible refine Kd.C_drew ?_)))
  (case side2 => exact (Kd.R_reads' HO_118000.out).2.1)
  (case side3 => repeat (first | exact (Kd.R_reads' HO_118001.out).2.2 | (with_reducible refine Kd.C_alloc ?_ _) | (with_reducible refine Kd.C_drewN ?_ _) | (with_reducible refine Kd.C_drew ?_)))
  (case side4 => exact (Kd.R_reads' HO_118001.out).2.1)
  (case side5 => repeat (first | exact (Kd.R_reads' HO122.out).2.2 | (with_reducible refine Kd.C_alloc ?_ _) | (with_reducible refine Kd.C_drewN ?_ _) | (with_reducible refine Kd.C_drew ?_)))
  (case side6 => exact (Kd.R_reads' HO122.out).2.1)
  (case side7 => repeat (first | exact (Kd.R_reads' HO125.out).2.2 | (with_reducible refine Kd.C_alloc ?_ _) | (with_reducible refine Kd.C_drewN ?_ _) | (with_reducible refine Kd.C_drew ?_)))
  (case side8 => exact (Kd.R_reads' HO125.out).2.1)
  rintro e w43 ⟨rfl, hb⟩
  refine ⟨_, rfl, ?_⟩
  replace HO_118000 := Aside0.mk (Kd.R_below (zq5 HO_118000) hb)
  replace HO_118001 := Aside0.mk (Kd.R_below (zq5 HO_118001) hb)
  replace HO122 := Aside0.mk (Kd.R_below (zq5 HO122) hb)
  replace HO125 := Aside0.mk (Kd.R_below (zq5 HO125) hb)
  replace BK101 := Aside0.mk (blk_below (g := gb101) (o := .cells #[.slice A0_0 l0_0.length c0_0, .slice A0_1 l0_1.length c0_1] 26 (0, 0)) (zq3 BK101) hb)
  replace BK117 := Aside0.mk (blk_below (g := gb117) (o := .cells #[.slice Ao24 t111.length co24, .slice Ao27 t114.length co27] 35 (0, 0)) (zq3 BK117) hb)
  replace HB := Aside0.mk (below_step (zq6 GE101 GE117) hb)
  (try clear hb)
  (try clear hb2)
  (try clear hk)
  (try clear hi)
  refine hK.out _ _ ⟨(blk_cell BK117.out 0).trans rfl, (blk_cell BK117.out 1).trans rfl, (blk_cell BK101.out 0).trans rfl, (blk_cell BK101.out 1).trans rfl⟩ (fun hHeld => ?_)
  clear hK K
  refine znm 42 ?_
  refine zpk 4 43 ?_
  refine done_ zq27 ?_
  try go_wp2
  go_ret
  exact ⟨zq8, zq6 GE101 GE117⟩
end Go.Proofs.Ytnaafcleafbejaa.Q
end
section
namespace Go.Proofs.Ytnaafcleafbejaa.Rd
open Go Go.RowKit Go.Proofs.YtnaafcleafbejaaW.PrintWords Go.Proofs.YtnaafcleafbejaaW.PrintLast Go.ChangeShapes Go.WideShapes Go.Deep
set_option linter.unusedSimpArgs false
set_option linter.unusedVariables false
structure RdK {α : Type} (d : Kd α) (P : Program) (t : TypeId) (Good : α → Prop) : Prop where
  size : P.cellsOf t = d.sz
  get : ∀ {H : Type} {enc : TypeId × Value → H} {w : World} {n : Nat} {cs : List Value} {x : DataW H × List MemPlace}, DataW.trod enc P w 0 (fun _ => true) true n t cs = some x → ∃ a, d.K w a cs ∧ Good a
def okInt (k : IntKind) (n : Int) : Prop := (Lit.int k n).wf = true
def okStr (s : ByteArray) : Prop := s.size ≤ maxLen
def okSl {α : Type} (G : α → Prop) (xs : List α) : Prop := xs.length ≤ maxLen ∧ ∀ x ∈ xs, G x
theorem rk_int {P : Program} {t : TypeId} {k : IntKind} (ht : P.underlying t = some (.int k)) (hs : P.cellsOf t = 1) : RdK (Kd.int k) P t (okInt k) :=
  ⟨hs, fun h => by obtain ⟨n, rfl, _, hw⟩ := DataW.trod_int ht h; exact ⟨n, rfl, hw⟩⟩
theorem rk_string {P : Program} {t : TypeId} (ht : P.underlying t = some .string) (hs : P.cellsOf t = 1) : RdK Kd.string P t okStr :=
  ⟨hs, fun h => by obtain ⟨n, rfl, _, hw⟩ := DataW.trod_string ht h; exact ⟨n, rfl, hw⟩⟩
theorem rk_slice {α : Type} {d : Kd α} {P : Program} {t e : TypeId} {G : α → Prop} (hd : RdK d P e G) (ht : P.underlying t = some (.slice e)) (hs : P.cellsOf t = 1) : RdK (Kd.slice e d) P t (okSl G) := by
  refine ⟨hs, fun {H enc w n cs x} h => ?_⟩
  rcases open_slice ht h with ⟨rfl, _⟩ | ⟨a, len, cap, m, n', D, Pl, rfl, _, hl, hm, hmm, _, hx⟩
  · exact ⟨[], ⟨none, 0, rfl, Nat.le_refl _, rfl, Nat.zero_le _, fun h => absurd h (Nat.lt_irrefl 0)⟩, Nat.zero_le _, fun _ h => by cases h⟩
  · have hc : m = cap := by simpa using hmm
    subst hc
    have key : ∀ i : Fin len, ∃ a' : α, ∃ cs', d.K w a' cs' ∧ G a' ∧ w.cells? 0 (a.add (i * P.cellsOf e)) (P.cellsOf e) = some cs' := fun i => by
      obtain ⟨cs', h1, h2⟩ := hx i (by omega)
      obtain ⟨a', h3, h4⟩ := hd.get h2
      exact ⟨a', cs', h3, h4, h1⟩
    have hlen : (List.ofFn fun i => Classical.choose (key i)).length = len := List.length_ofFn
    refine ⟨List.ofFn fun i => Classical.choose (key i), ⟨some a, m, by rw [hlen], by omega, hlen.trans hlen.symm, ?_, fun _ => ⟨a, rfl, fun j p hj => ?_⟩⟩, by rw [hlen]; omega, fun y hy => ?_⟩
    · rw [hlen]; unfold maxLen at hm; omega
    · have hjl : j < len := by
        have := (List.getElem?_eq_some_iff.1 hj).1
        rwa [hlen] at this
      rw [List.getElem?_ofFn, dif_pos hjl, Option.some.injEq] at hj
      obtain ⟨cs', h1, h2, h3⟩ := Classical.choose_spec (key ⟨j, hjl⟩)
      rw [hj] at h1 h2
      obtain ⟨_, h5, h6⟩ := World.cells?_some h3
      refine ⟨cs', d.K_len h1, h1, fun i u hi => ?_⟩
      have hil : i < P.cellsOf e := by
        have := (List.getElem?_eq_some_iff.1 hi).1
        omega
      have := h6 i hil
      rw [Go.Deep.add_add] at this
      rw [← hd.size]
      exact this.trans hi
    · obtain ⟨i, rfl⟩ := List.mem_ofFn.1 hy
      obtain ⟨cs', h1, h2, h3⟩ := Classical.choose_spec (key i)
      exact h2
structure RdF {α : Type} (d : Kd α) (P : Program) (fs : List Field) (off : Nat) (Good : α → Prop) : Prop where
  get : ∀ {H : Type} {enc : TypeId × Value → H} {w : World} {n : Nat} {cs : List Value}, cs.length = off + d.sz →
    (∀ f ∈ fs, ∃ y, DataW.trod enc P w 0 (fun _ => true) true n f.type ((cs.drop f.offset).take (P.cellsOf f.type)) = some y) → ∃ a, d.K w a (cs.drop off) ∧ Good a
theorem rf_one {α : Type} {d : Kd α} {P : Program} {f : Field} {G : α → Prop} (hd : RdK d P f.type G) : RdF d P [f] f.offset G := by
  refine ⟨fun {H enc w n cs} hl h => ?_⟩
  obtain ⟨y, hy⟩ := h f (List.mem_singleton.2 rfl)
  rw [hd.size, List.take_of_length_le (by rw [List.length_drop]; omega)] at hy
  exact hd.get hy
theorem rf_cons {α β : Type} {d : Kd α} {d' : Kd β} {P : Program} {f : Field} {fs : List Field} {G : α → Prop} {G' : β → Prop} {off' : Nat} (hd : RdK d P f.type G) (ho : off' = f.offset + d.sz) (hf : RdF d' P fs off' G') :
    RdF (Kd.pair d d') P (f :: fs) f.offset (fun x => G x.1 ∧ G' x.2) := by
  refine ⟨fun {H enc w n cs} hl h => ?_⟩
  have hl' : cs.length = f.offset + (d.sz + d'.sz) := hl
  obtain ⟨y, hy⟩ := h f List.mem_cons_self
  rw [hd.size] at hy
  obtain ⟨a, h1, h2⟩ := hd.get hy
  obtain ⟨b, h3, h4⟩ := hf.get (cs := cs) (by omega) (fun g hg => h g (List.mem_cons_of_mem _ hg))
  refine ⟨(a, b), ⟨_, _, ?_, h1, h3⟩, h2, h4⟩
  rw [ho, ← List.drop_drop, List.take_append_drop]
theorem rk_struct {α : Type} {d : Kd α} {P : Program} {t : TypeId} {fs : Array Field} {G : α → Prop} (ht : P.underlying t = some (.struct fs)) (hs : P.cellsOf t = d.sz) (hf : RdF d P fs.toList 0 G) : RdK d P t G := by
  refine ⟨hs, fun {H enc w n cs x} h => ?_⟩
  obtain ⟨xs, n', _, _, hl, hlen, hg⟩ := DataW.trod_struct ht h
  have := hf.get (cs := cs) (enc := enc) (w := w) (n := n') (by omega) (fun f hf' => by
    obtain ⟨i, hi, he⟩ := List.getElem_of_mem hf'
    have h1 : fs[i]? = some f := by rw [← Array.getElem?_toList, List.getElem?_eq_getElem hi, he]
    have h2 := hg i f h1
    rw [List.getElem?_eq_getElem (by rw [hlen]; simpa using hi)] at h2
    exact ⟨_, h2⟩)
  simpa using this
theorem rk_iso {α β : Type} {d : Kd α} {P : Program} {t : TypeId} {G : α → Prop} (hd : RdK d P t G) (f : β → α) (g : α → β) (hfg : ∀ a, f (g a) = a) : RdK (Kd.iso d f) P t (fun b => G (f b)) := by
  refine ⟨hd.size, fun {H enc w n cs x} h => ?_⟩
  obtain ⟨a, h1, h2⟩ := hd.get h
  exact ⟨g a, by show d.K w (f (g a)) cs; rw [hfg]; exact h1, by rw [hfg]; exact h2⟩
theorem arg_struct {α : Type} {d : Kd α} {P : Program} {t : TypeId} {G : α → Prop} (hd : RdK d P t G) {H : Type} {enc : TypeId × Value → H} {w : World} {cs : Array Value} {x : DataW H} {ps : List MemPlace}
    (h : DataW.Trod enc P w 0 (fun _ => true) true t (.agg cs) x ps) : ∃ a : α, d.K w a cs.toList ∧ G a := by
  obtain ⟨n, hn⟩ := h
  exact hd.get hn
end Go.Proofs.Ytnaafcleafbejaa.Rd
end
section
namespace Go.Proofs.Ytnaafcleafbejaa.Q
open Go.RowKit Go.Proofs.YtnaafcleafbejaaW.PrintWords Go.Proofs.YtnaafcleafbejaaW.PrintLast Go.Proofs.YtnaafcleafbejaaW.PrintMore
attribute [local go_sem] max2_int min2_int max_two min_two max_three min_three max_four min_four
set_option linter.unusedVariables false
set_option linter.unusedSimpArgs false
def good26 (x : S26) : Prop := (Rd.okSl Rd.okStr) x.f0 ∧ (Rd.okSl (Rd.okInt .i64)) x.f1
theorem rd26 : Rd.RdK k26 Try.prog 26 good26 :=
  Rd.rk_iso (Rd.rk_struct Try.underlying26 (by kernel_rfl) (Rd.rf_cons (Rd.rk_slice (Rd.rk_string Try.underlying9 (by kernel_rfl)) Try.underlying23 (by kernel_rfl)) rfl (Rd.rf_one (Rd.rk_slice (Rd.rk_int Try.underlying3 (by kernel_rfl)) Try.underlying24 (by kernel_rfl))))) (fun x : S26 => (x.f0, x.f1)) (fun p => ⟨p.1, p.2⟩) (fun _ => rfl)
end Go.Proofs.Ytnaafcleafbejaa.Q
end
section
namespace Go.Proofs.Ytnaafcleafbejaa.Q
open Go.RowKit Go.Proofs.YtnaafcleafbejaaW.PrintWords Go.Proofs.YtnaafcleafbejaaW.PrintLast Go.Proofs.YtnaafcleafbejaaW.PrintMore
attribute [local go_sem] max2_int min2_int max_two min_two max_three min_three max_four min_four
set_option linter.unusedVariables false
set_option linter.unusedSimpArgs false
def laws_FnExactCountUnpruned.Pure : Prop := ∀ (a0 : S26) (a1 : Int), good26 a0 → (Rd.okInt .i64) a1 → ∃ k, laws_FnExactCountUnpruned.f k a0.f0 a0.f1 a1 = some true
end Go.Proofs.Ytnaafcleafbejaa.Q
end
section
namespace Go.Proofs.Ytnaafcleafbejaa.Q
open Go.RowKit Go.Proofs.YtnaafcleafbejaaW.PrintWords Go.Proofs.YtnaafcleafbejaaW.PrintLast Go.Proofs.YtnaafcleafbejaaW.PrintMore
attribute [local go_sem] max2_int min2_int max_two min_two max_three min_three max_four min_four
set_option linter.unusedVariables false
set_option linter.unusedSimpArgs false
end Go.Proofs.Ytnaafcleafbejaa.Q
end
section
namespace Go.Proofs.Ytnaafcleafbejaa.Q
open Go.RowKit Go.Proofs.YtnaafcleafbejaaW.PrintWords Go.Proofs.YtnaafcleafbejaaW.PrintLast Go.Proofs.YtnaafcleafbejaaW.PrintMore
attribute [local go_sem] max2_int min2_int max_two min_two max_three min_three max_four min_four
set_option linter.unusedVariables false
set_option linter.unusedSimpArgs false
end Go.Proofs.Ytnaafcleafbejaa.Q
end
section
namespace Go.Proofs.Ytnaafcleafbejaa.Q
open Go.RowKit Go.Proofs.YtnaafcleafbejaaW.PrintWords Go.Proofs.YtnaafcleafbejaaW.PrintLast Go.Proofs.YtnaafcleafbejaaW.PrintMore
attribute [local go_sem] max2_int min2_int max_two min_two max_three min_three max_four min_four
set_option linter.unusedVariables false
set_option linter.unusedSimpArgs false
end Go.Proofs.Ytnaafcleafbejaa.Q
end
section
namespace Go.Proofs.Ytnaafcleafbejaa.Q
open Go.RowKit Go.Proofs.YtnaafcleafbejaaW.PrintWords Go.Proofs.YtnaafcleafbejaaW.PrintLast Go.Proofs.YtnaafcleafbejaaW.PrintMore
attribute [local go_sem] max2_int min2_int max_two min_two max_three min_three max_four min_four
set_option linter.unusedVariables false
set_option linter.unusedSimpArgs false
end Go.Proofs.Ytnaafcleafbejaa.Q
end
section
namespace Go.Proofs.Ytnaafcleafbejaa.Q
open Go.RowKit Go.Proofs.YtnaafcleafbejaaW.PrintWords Go.Proofs.YtnaafcleafbejaaW.PrintLast Go.Proofs.YtnaafcleafbejaaW.PrintMore
attribute [local go_sem] max2_int min2_int max_two min_two max_three min_three max_four min_four
set_option linter.unusedVariables false
set_option linter.unusedSimpArgs false
end Go.Proofs.Ytnaafcleafbejaa.Q
end
section
namespace Go.Proofs.Ytnaafcleafbejaa.Q
open Go.RowKit Go.Proofs.YtnaafcleafbejaaW.PrintWords Go.Proofs.YtnaafcleafbejaaW.PrintLast Go.Proofs.YtnaafcleafbejaaW.PrintMore
attribute [local go_sem] max2_int min2_int max_two min_two max_three min_three max_four min_four
set_option linter.unusedVariables false
set_option linter.unusedSimpArgs false
end Go.Proofs.Ytnaafcleafbejaa.Q
end
section
namespace Go.Proofs.Ytnaafcleafbejaa.Q
open Go.RowKit Go.Proofs.YtnaafcleafbejaaW.PrintWords Go.Proofs.YtnaafcleafbejaaW.PrintLast Go.Proofs.YtnaafcleafbejaaW.PrintMore
attribute [local go_sem] max2_int min2_int max_two min_two max_three min_three max_four min_four
set_option linter.unusedVariables false
set_option linter.unusedSimpArgs false
end Go.Proofs.Ytnaafcleafbejaa.Q
end
section
namespace Go.Proofs.Ytnaafcleafbejaa.Q
open Go.RowKit Go.Proofs.YtnaafcleafbejaaW.PrintWords Go.Proofs.YtnaafcleafbejaaW.PrintLast Go.Proofs.YtnaafcleafbejaaW.PrintMore
attribute [local go_sem] max2_int min2_int max_two min_two max_three min_three max_four min_four
set_option linter.unusedVariables false
set_option linter.unusedSimpArgs false
end Go.Proofs.Ytnaafcleafbejaa.Q
end
section
namespace Go.Proofs.Ytnaafcleafbejaa.Q
open Go.RowKit Go.Proofs.YtnaafcleafbejaaW.PrintWords Go.Proofs.YtnaafcleafbejaaW.PrintLast Go.Proofs.YtnaafcleafbejaaW.PrintMore
attribute [local go_sem] max2_int min2_int max_two min_two max_three min_three max_four min_four
set_option linter.unusedVariables false
set_option linter.unusedSimpArgs false
end Go.Proofs.Ytnaafcleafbejaa.Q
end
section
namespace Go.Proofs.Ytnaafcleafbejaa.Q
open Go.RowKit Go.Proofs.YtnaafcleafbejaaW.PrintWords Go.Proofs.YtnaafcleafbejaaW.PrintLast Go.Proofs.YtnaafcleafbejaaW.PrintMore
attribute [local go_sem] max2_int min2_int max_two min_two max_three min_three max_four min_four
set_option linter.unusedVariables false
set_option linter.unusedSimpArgs false
end Go.Proofs.Ytnaafcleafbejaa.Q
end
section
namespace Go.Proofs.Ytnaafcleafbejaa.Q
open Go.RowKit Go.Proofs.YtnaafcleafbejaaW.PrintWords Go.Proofs.YtnaafcleafbejaaW.PrintLast Go.Proofs.YtnaafcleafbejaaW.PrintMore
attribute [local go_sem] max2_int min2_int max_two min_two max_three min_three max_four min_four
set_option linter.unusedVariables false
set_option linter.unusedSimpArgs false
end Go.Proofs.Ytnaafcleafbejaa.Q
end
section
namespace Go.Proofs.Ytnaafcleafbejaa.Q
open Go.RowKit Go.Proofs.YtnaafcleafbejaaW.PrintWords Go.Proofs.YtnaafcleafbejaaW.PrintLast Go.Proofs.YtnaafcleafbejaaW.PrintMore
attribute [local go_sem] max2_int min2_int max_two min_two max_three min_three max_four min_four
set_option linter.unusedVariables false
set_option linter.unusedSimpArgs false
end Go.Proofs.Ytnaafcleafbejaa.Q
end
section
namespace Go.Proofs.Ytnaafcleafbejaa.Q
open Go.RowKit Go.Proofs.YtnaafcleafbejaaW.PrintWords Go.Proofs.YtnaafcleafbejaaW.PrintLast Go.Proofs.YtnaafcleafbejaaW.PrintMore
attribute [local go_sem] max2_int min2_int max_two min_two max_three min_three max_four min_four
set_option linter.unusedVariables false
set_option linter.unusedSimpArgs false
end Go.Proofs.Ytnaafcleafbejaa.Q
end
section
namespace Go.Proofs.Ytnaafcleafbejaa.Q
open Go.RowKit Go.Proofs.YtnaafcleafbejaaW.PrintWords Go.Proofs.YtnaafcleafbejaaW.PrintLast Go.Proofs.YtnaafcleafbejaaW.PrintMore
attribute [local go_sem] max2_int min2_int max_two min_two max_three min_three max_four min_four
set_option linter.unusedVariables false
set_option linter.unusedSimpArgs false
end Go.Proofs.Ytnaafcleafbejaa.Q
end
section
namespace Go.Proofs.Ytnaafcleafbejaa.Q
open Go.RowKit Go.Proofs.YtnaafcleafbejaaW.PrintWords Go.Proofs.YtnaafcleafbejaaW.PrintLast Go.Proofs.YtnaafcleafbejaaW.PrintMore
attribute [local go_sem] max2_int min2_int max_two min_two max_three min_three max_four min_four
set_option linter.unusedVariables false
set_option linter.unusedSimpArgs false
end Go.Proofs.Ytnaafcleafbejaa.Q
end
section
namespace Go.Proofs.Ytnaafcleafbejaa.Q
open Go.RowKit Go.Proofs.YtnaafcleafbejaaW.PrintWords Go.Proofs.YtnaafcleafbejaaW.PrintLast Go.Proofs.YtnaafcleafbejaaW.PrintMore
attribute [local go_sem] max2_int min2_int max_two min_two max_three min_three max_four min_four
set_option linter.unusedVariables false
set_option linter.unusedSimpArgs false
end Go.Proofs.Ytnaafcleafbejaa.Q
end
section
namespace Go.Proofs.Ytnaafcleafbejaa.Q
open Go.RowKit Go.Proofs.YtnaafcleafbejaaW.PrintWords Go.Proofs.YtnaafcleafbejaaW.PrintLast Go.Proofs.YtnaafcleafbejaaW.PrintMore
attribute [local go_sem] max2_int min2_int max_two min_two max_three min_three max_four min_four
set_option linter.unusedVariables false
set_option linter.unusedSimpArgs false
end Go.Proofs.Ytnaafcleafbejaa.Q
end
section
namespace Go.Proofs.Ytnaafcleafbejaa.Q
open Go.RowKit Go.Proofs.YtnaafcleafbejaaW.PrintWords Go.Proofs.YtnaafcleafbejaaW.PrintLast Go.Proofs.YtnaafcleafbejaaW.PrintMore
attribute [local go_sem] max2_int min2_int max_two min_two max_three min_three max_four min_four
set_option linter.unusedVariables false
set_option linter.unusedSimpArgs false
end Go.Proofs.Ytnaafcleafbejaa.Q
end
section
namespace Go.Proofs.Ytnaafcleafbejaa.Q
open Go.RowKit Go.Proofs.YtnaafcleafbejaaW.PrintWords Go.Proofs.YtnaafcleafbejaaW.PrintLast Go.Proofs.YtnaafcleafbejaaW.PrintMore
attribute [local go_sem] max2_int min2_int max_two min_two max_three min_three max_four min_four
set_option linter.unusedVariables false
set_option linter.unusedSimpArgs false
end Go.Proofs.Ytnaafcleafbejaa.Q
end
section
namespace Go.Proofs.Ytnaafcleafbejaa.Q
open Go.RowKit Go.Proofs.YtnaafcleafbejaaW.PrintWords Go.Proofs.YtnaafcleafbejaaW.PrintLast Go.Proofs.YtnaafcleafbejaaW.PrintMore
attribute [local go_sem] max2_int min2_int max_two min_two max_three min_three max_four min_four
set_option linter.unusedVariables false
set_option linter.unusedSimpArgs false
end Go.Proofs.Ytnaafcleafbejaa.Q
end
section
namespace Go.Proofs.Ytnaafcleafbejaa.Q
open Go.RowKit Go.Proofs.YtnaafcleafbejaaW.PrintWords Go.Proofs.YtnaafcleafbejaaW.PrintLast Go.Proofs.YtnaafcleafbejaaW.PrintMore
attribute [local go_sem] max2_int min2_int max_two min_two max_three min_three max_four min_four
set_option linter.unusedVariables false
set_option linter.unusedSimpArgs false
end Go.Proofs.Ytnaafcleafbejaa.Q
end
section
namespace Go.Proofs.Ytnaafcleafbejaa.Q
open Go.RowKit Go.Proofs.YtnaafcleafbejaaW.PrintWords Go.Proofs.YtnaafcleafbejaaW.PrintLast Go.Proofs.YtnaafcleafbejaaW.PrintMore
attribute [local go_sem] max2_int min2_int max_two min_two max_three min_three max_four min_four
set_option linter.unusedVariables false
set_option linter.unusedSimpArgs false
end Go.Proofs.Ytnaafcleafbejaa.Q
end
section
namespace Go.Proofs.Ytnaafcleafbejaa.Q
open Go.RowKit Go.Proofs.YtnaafcleafbejaaW.PrintWords Go.Proofs.YtnaafcleafbejaaW.PrintLast Go.Proofs.YtnaafcleafbejaaW.PrintMore
attribute [local go_sem] max2_int min2_int max_two min_two max_three min_three max_four min_four
set_option linter.unusedVariables false
set_option linter.unusedSimpArgs false
end Go.Proofs.Ytnaafcleafbejaa.Q
end
section
namespace Go.Proofs.Ytnaafcleafbejaa.Q
open Go.RowKit Go.Proofs.YtnaafcleafbejaaW.PrintWords Go.Proofs.YtnaafcleafbejaaW.PrintLast Go.Proofs.YtnaafcleafbejaaW.PrintMore
attribute [local go_sem] max2_int min2_int max_two min_two max_three min_three max_four min_four
set_option linter.unusedVariables false
set_option linter.unusedSimpArgs false
end Go.Proofs.Ytnaafcleafbejaa.Q
end
section
namespace Go.Proofs.Ytnaafcleafbejaa.Q
open Go.RowKit Go.Proofs.YtnaafcleafbejaaW.PrintWords Go.Proofs.YtnaafcleafbejaaW.PrintLast Go.Proofs.YtnaafcleafbejaaW.PrintMore
attribute [local go_sem] max2_int min2_int max_two min_two max_three min_three max_four min_four
set_option linter.unusedVariables false
set_option linter.unusedSimpArgs false
end Go.Proofs.Ytnaafcleafbejaa.Q
end
section
namespace Go.Proofs.Ytnaafcleafbejaa.Q
open Go.RowKit Go.Proofs.YtnaafcleafbejaaW.PrintWords Go.Proofs.YtnaafcleafbejaaW.PrintLast Go.Proofs.YtnaafcleafbejaaW.PrintMore
attribute [local go_sem] max2_int min2_int max_two min_two max_three min_three max_four min_four
set_option linter.unusedVariables false
set_option linter.unusedSimpArgs false
theorem eqA64 (d : Nat) (w : World) (x0 y0 : ByteArray) (x1 y1 : Int) (x2 y2 : Int) (x3 y3 : Int) (x4 y4 : Int) :
    (Op.equalIn (d + 2) 64 (.agg #[.string x0, .int .i64 x1, .int .i64 x2, .int .i64 x3, .int .i64 x4]) (.agg #[.string y0, .int .i64 y1, .int .i64 y2, .int .i64 y3, .int .i64 y4])).run Try.prog w = .ok (x0.toList == y0.toList && (x1 == y1 && (x2 == y2 && (x3 == y3 && (x4 == y4))))) w := by
  refine eqA_of Try.underlying64 zq27 ?_
  refine eqf_cons (by rfl) (by go_simp; rfl) (by go_simp; rfl) (by go_simp) ?_
  refine eqf_cons (by rfl) (by go_simp; rfl) (by go_simp; rfl) (by go_simp) ?_
  refine eqf_cons (by rfl) (by go_simp; rfl) (by go_simp; rfl) (by go_simp) ?_
  refine eqf_cons (by rfl) (by go_simp; rfl) (by go_simp; rfl) (by go_simp) ?_
  exact eqf_last (by rfl) (by go_simp; rfl) (by go_simp; rfl) (by go_simp)
end Go.Proofs.Ytnaafcleafbejaa.Q
end
section
namespace Go.Proofs.Ytnaafcleafbejaa.Q
open Go.RowKit Go.Proofs.YtnaafcleafbejaaW.PrintWords Go.Proofs.YtnaafcleafbejaaW.PrintLast Go.Proofs.YtnaafcleafbejaaW.PrintMore
attribute [local go_sem] max2_int min2_int max_two min_two max_three min_three max_four min_four
set_option linter.unusedVariables false
set_option linter.unusedSimpArgs false
attribute [local go_sem high] eqA64
end Go.Proofs.Ytnaafcleafbejaa.Q
end
section
namespace Go.Proofs.Ytnaafcleafbejaa.Q
open Go.RowKit Go.Proofs.YtnaafcleafbejaaW.PrintWords Go.Proofs.YtnaafcleafbejaaW.PrintLast Go.Proofs.YtnaafcleafbejaaW.PrintMore
attribute [local go_sem] max2_int min2_int max_two min_two max_three min_three max_four min_four
set_option linter.unusedVariables false
set_option linter.unusedSimpArgs false
end Go.Proofs.Ytnaafcleafbejaa.Q
end
section
namespace Go.Proofs.Ytnaafcleafbejaa.Q
open Go.RowKit Go.Proofs.YtnaafcleafbejaaW.PrintWords Go.Proofs.YtnaafcleafbejaaW.PrintLast Go.Proofs.YtnaafcleafbejaaW.PrintMore
attribute [local go_sem] max2_int min2_int max_two min_two max_three min_three max_four min_four
set_option linter.unusedVariables false
set_option linter.unusedSimpArgs false
end Go.Proofs.Ytnaafcleafbejaa.Q
end
section
namespace Go.Proofs.Ytnaafcleafbejaa.Q
open Go.RowKit Go.Proofs.YtnaafcleafbejaaW.PrintWords Go.Proofs.YtnaafcleafbejaaW.PrintLast Go.Proofs.YtnaafcleafbejaaW.PrintMore
attribute [local go_sem] max2_int min2_int max_two min_two max_three min_three max_four min_four
set_option linter.unusedVariables false
set_option linter.unusedSimpArgs false
end Go.Proofs.Ytnaafcleafbejaa.Q
end
section
namespace Go.Proofs.Ytnaafcleafbejaa.Q
open Go.RowKit Go.Proofs.YtnaafcleafbejaaW.PrintWords Go.Proofs.YtnaafcleafbejaaW.PrintLast Go.Proofs.YtnaafcleafbejaaW.PrintMore
attribute [local go_sem] max2_int min2_int max_two min_two max_three min_three max_four min_four
set_option linter.unusedVariables false
set_option linter.unusedSimpArgs false
attribute [local go_sem high] eqA64
end Go.Proofs.Ytnaafcleafbejaa.Q
end
section
namespace Go.Proofs.Ytnaafcleafbejaa.Q
open Go.RowKit Go.Proofs.YtnaafcleafbejaaW.PrintWords Go.Proofs.YtnaafcleafbejaaW.PrintLast Go.Proofs.YtnaafcleafbejaaW.PrintMore
attribute [local go_sem] max2_int min2_int max_two min_two max_three min_three max_four min_four
set_option linter.unusedVariables false
set_option linter.unusedSimpArgs false
end Go.Proofs.Ytnaafcleafbejaa.Q
end
section
namespace Go.Proofs.Ytnaafcleafbejaa.Q
open Go.RowKit Go.Proofs.YtnaafcleafbejaaW.PrintWords Go.Proofs.YtnaafcleafbejaaW.PrintLast Go.Proofs.YtnaafcleafbejaaW.PrintMore
attribute [local go_sem] max2_int min2_int max_two min_two max_three min_three max_four min_four
set_option linter.unusedVariables false
set_option linter.unusedSimpArgs false
end Go.Proofs.Ytnaafcleafbejaa.Q
end
section
namespace Go.Proofs.Ytnaafcleafbejaa.PL
open Go Go.RowKit Go.Proofs.YtnaafcleafbejaaW.PrintWords Go.Proofs.YtnaafcleafbejaaW.PrintLast Go.Proofs.YtnaafcleafbejaaW.PrintMore Go.Proofs.Ytnaafcleafbejaa.Q
set_option linter.unusedSimpArgs false
set_option linter.unusedVariables false
theorem w64 {x : Int} (h1 : -9223372036854775808 ≤ x) (h2 : x < 9223372036854775808) : wrap64 x = x := by unfold wrap64; omega
theorem w64n (i : Nat) (h : i < 4611686018427387904) : wrap64 ((i : Int) + 1) = ((i + 1 : Nat) : Int) := by unfold wrap64; omega
theorem Ev.some {α : Type} {a r : α} (h : a = r) : Ev (fun _ => some a) r := h ▸ Ev.now a
theorem Ev.const {α : Type} {g : Option α} {r : α} (h : g = Option.some r) : Ev (fun _ => g) r := by rw [h]; exact Ev.now r
theorem ev_eq {α : Type} {g : Nat → Option α} {r s : α} (h : Ev g r) (e : r = s) : Ev g s := e ▸ h
theorem Ev.ifp {α : Type} {c : Prop} [Decidable c] {g g' : Nat → Option α} {r : α} (h : c) (H : Ev g r) : Ev (fun k => if c then g k else g' k) r := Ev.congr (fun _ => if_pos h) H
theorem Ev.ifn {α : Type} {c : Prop} [Decidable c] {g g' : Nat → Option α} {r : α} (h : ¬ c) (H : Ev g' r) : Ev (fun k => if c then g k else g' k) r := Ev.congr (fun _ => if_neg h) H
theorem Ev.call {α β : Type} {g : Option α} {f : Nat → α → Option β} {a : α} {r : β} (h : g = Option.some a) (k : Ev (fun n => f n a) r) : Ev (fun n => g.bind (f n)) r := by
  rw [h]; exact k
theorem loop_up {σ ρ : Type} (n : Nat) (L : Nat → σ → Int → Option ρ) (M : Nat → σ → ρ) (hend : ∀ s, Ev (fun k => L k s n) (M n s))
    (hstep : ∀ (i : Nat) s, i < n → (∀ s', Ev (fun k => L k s' ((i + 1 : Nat) : Int)) (M (i + 1) s')) → Ev (fun k => L k s i) (M i s)) :
    ∀ (d i : Nat) s, i + d = n → Ev (fun k => L k s i) (M i s)
  | 0, i, s, h => by
    have e : i = n := by omega
    rw [e]
    exact hend s
  | d + 1, i, s, h => hstep i s (by omega) (fun s' => loop_up n L M hend hstep d (i + 1) s' (by omega))
theorem loop_list {α σ ρ : Type} (xs : List α) (L : Nat → σ → Int → Option ρ) (m : List α → σ → ρ) (hend : ∀ s, Ev (fun k => L k s (xs.length : Nat)) (m [] s))
    (hstep : ∀ (i : Nat) s x rest, i < xs.length → (∀ d, xs.getD i d = x) → (∀ s', Ev (fun k => L k s' ((i + 1 : Nat) : Int)) (m rest s')) → Ev (fun k => L k s i) (m (x :: rest) s)) (s : σ) :
    Ev (fun k => L k s 0) (m xs s) := by
  have := loop_up xs.length L (fun i s => m (xs.drop i) s) (fun s => by simpa using hend s) (fun i s hi ih => by
    have e : xs.drop i = xs[i] :: xs.drop (i + 1) := List.drop_eq_getElem_cons hi
    show Ev (fun k => L k s i) (m (xs.drop i) s)
    rw [e]
    exact hstep i s xs[i] _ hi (fun d => by simp [List.getD, List.getElem?_eq_getElem hi]) ih) xs.length 0 s (by omega)
  simpa using this
def idx {α : Type} (p : α → Bool) : List α → Int
  | [] => -1
  | x :: xs => if p x = true then 0 else if idx p xs < 0 then -1 else idx p xs + 1
theorem idx_nonneg {α : Type} (p : α → Bool) (xs : List α) : 0 ≤ idx p xs ↔ ∃ x ∈ xs, p x = true := by
  induction xs with
  | nil => simp [idx]
  | cons x xs ih =>
    unfold idx
    by_cases h : p x = true
    · simp [h]
    · by_cases h2 : idx p xs < 0
      · rw [if_neg h, if_pos h2]
        have : ¬ ∃ x ∈ xs, p x = true := fun e => by have := ih.2 e; omega
        simp [h]
        simpa using this
      · rw [if_neg h, if_neg h2]
        have := ih.1 (by omega)
        simp [h]
        exact ⟨fun _ => this, fun _ => by omega⟩
theorem idx_ge {α : Type} (p : α → Bool) (xs : List α) : -1 ≤ idx p xs := by
  induction xs with
  | nil => unfold idx; simp
  | cons x xs ih => unfold idx; split; · decide
                    · split <;> omega
theorem search_ev {α : Type} (xs : List α) (p : α → Bool) (L : Nat → Int → Option Int) (hend : Ev (fun k => L k (xs.length : Nat)) (-1))
    (hyes : ∀ (i : Nat) x, i < xs.length → (∀ d, xs.getD i d = x) → p x = true → Ev (fun k => L k i) (i : Int))
    (hno : ∀ (i : Nat) x r, i < xs.length → (∀ d, xs.getD i d = x) → p x = false → Ev (fun k => L k ((i + 1 : Nat) : Int)) r → Ev (fun k => L k i) r) : Ev (fun k => L k 0) (idx p xs) := by
  have key : ∀ (d i : Nat), i + d = xs.length → Ev (fun k => L k i) (if idx p (xs.drop i) < 0 then -1 else idx p (xs.drop i) + i) := by
    intro d
    induction d with
    | zero =>
      intro i hi
      rw [List.drop_of_length_le (by omega), if_pos (show idx p [] < 0 by unfold idx; decide)]
      have e : i = xs.length := by omega
      rw [e]; exact hend
    | succ d ih =>
      intro i hi
      have hlt : i < xs.length := by omega
      have e : xs.drop i = xs[i] :: xs.drop (i + 1) := List.drop_eq_getElem_cons hlt
      have hg : ∀ d, xs.getD i d = xs[i] := fun d => by simp [List.getD, List.getElem?_eq_getElem hlt]
      rw [e]
      unfold idx
      by_cases h : p xs[i] = true
      · rw [if_pos h, if_neg (by decide)]
        simpa using hyes i _ hlt hg h
      · refine hno i _ _ hlt hg (by simpa using h) (ev_eq (ih (i + 1) (by omega)) ?_)
        rw [if_neg h]
        by_cases h2 : idx p (xs.drop (i + 1)) < 0
        · rw [if_pos h2, if_pos h2, if_pos (by decide)]
        · rw [if_neg h2, if_neg h2, if_neg (by omega)]
          omega
  have := key xs.length 0 (by omega)
  simp only [List.drop_zero, Int.natCast_zero, Int.add_zero] at this
  refine ev_eq this ?_
  have := idx_ge p xs
  split <;> omega
theorem all_ev {α : Type} (xs : List α) (p : α → Bool) (L : Nat → Int → Option Bool) (hend : Ev (fun k => L k (xs.length : Nat)) true)
    (hno : ∀ (i : Nat) x, i < xs.length → (∀ d, xs.getD i d = x) → p x = false → Ev (fun k => L k i) false)
    (hyes : ∀ (i : Nat) x r, i < xs.length → (∀ d, xs.getD i d = x) → p x = true → Ev (fun k => L k ((i + 1 : Nat) : Int)) r → Ev (fun k => L k i) r) : Ev (fun k => L k 0) (xs.all p) := by
  refine loop_list (σ := Unit) xs (fun k _ i => L k i) (fun l _ => l.all p) (fun _ => hend) (fun i _ x rest hi hx ih => ?_) ()
  by_cases h : p x = true
  · exact hyes i x _ hi hx h (ev_eq (ih ()) (by simp [h]))
  · have h' : p x = false := by simpa using h
    exact ev_eq (hno i x hi hx h') (by simp [h'])
theorem rd_eq {xs : List Int} {i : Nat} {x : Int} (h : ∀ d, xs.getD i d = x) : rd xs i = x := by unfold rd; rw [Int.toNat_natCast]; exact h 0
theorem rdOf_eq {α : Type} {d0 : α} {xs : List α} {i : Nat} {x : α} (h : ∀ d, xs.getD i d = x) : rdOf d0 xs i = x := by unfold rdOf; rw [Int.toNat_natCast]; exact h d0
theorem rdI_eq {xs : List S64} {i : Nat} {x : S64} (h : ∀ d, xs.getD i d = x) : rd_T64 xs i = x := by unfold rd_T64; rw [Int.toNat_natCast]; exact h _
theorem getD_eq {α : Type} (xs : List α) (i : Nat) (h : i < xs.length) : ∀ d, xs.getD i d = xs[i] := fun d => by simp [List.getD, List.getElem?_eq_getElem h]
theorem set_fill {α : Type} (xs ys : List α) (z : α) (v : α) : (xs ++ List.replicate (ys.length + 1) z).set xs.length v = (xs ++ [v]) ++ List.replicate ys.length z := by
  rw [List.set_append_right _ _ (Nat.le_refl _)]
  simp [List.replicate_succ]
end Go.Proofs.Ytnaafcleafbejaa.PL
end
section
namespace Go.Proofs.Ytnaafcleafbejaa.PL
open Go Go.RowKit Go.Proofs.YtnaafcleafbejaaW.PrintWords Go.Proofs.YtnaafcleafbejaaW.PrintLast Go.Proofs.YtnaafcleafbejaaW.PrintMore Go.Proofs.Ytnaafcleafbejaa.Q
set_option linter.unusedSimpArgs false
set_option linter.unusedVariables false
abbrev Instr := S64
theorem toIntS_ev (l : List Int) (hl : l.length ≤ 1048576) : Ev (fun k => laws_toIntS.f k l) l := by
  have key : ∀ (d i : Nat), i + d = l.length → Ev (fun k => laws_toIntS.l0 k l (l.take i ++ List.replicate d 0) i) l := by
    intro d
    induction d with
    | zero =>
      intro i hi
      refine Ev.step (f := fun _ => some _) (fun k => ?_) (Ev.now _)
      simp only [laws_toIntS.l0]
      rw [if_neg (by omega), List.take_of_length_le (by omega)]
      simp
    | succ d ih =>
      intro i hi
      have hlt : i < l.length := by omega
      have hx := rd_eq (getD_eq l i hlt)
      refine Ev.step (fun k => ?_) (ih (i + 1) (by omega))
      simp only [laws_toIntS.l0]
      rw [if_pos (by omega), if_pos (by omega), if_pos (by simp; omega), hx, w64n i (by omega)]
      congr 1
      have e : ((i : Int)).toNat = (l.take i).length := by simp; omega
      rw [e]
      have := set_fill (l.take i) (List.replicate d (0 : Int)) 0 l[i]
      simp only [List.length_replicate] at this
      rw [this]
      congr 1
      rw [List.take_succ_eq_append_getElem hlt]
  unfold laws_toIntS.f
  refine Ev.ifp (by omega) (Ev.ifp (by simp; omega) ?_)
  simpa using key l.length 0 (by omega)
theorem eqIntS_refl (l : List Int) (hl : l.length ≤ 1048576) : Ev (fun k => laws_eqIntS.f k l l) true := by
  unfold laws_eqIntS.f
  simp only [if_true]
  refine loop_list (σ := Unit) l (fun k _ i => laws_eqIntS.l0 k l l i) (fun _ _ => true) (fun _ => ?_) (fun i _ x rest hi hx ih => ?_) ()
  · refine Ev.step (f := fun _ => some true) (fun k => ?_) (Ev.now _)
    simp only [laws_eqIntS.l0]
    rw [if_neg (by omega)]
  · refine Ev.step (fun k => ?_) (ih ())
    simp only [laws_eqIntS.l0, if_true]
    rw [if_pos (by omega), if_pos (by omega), w64n i (by omega), if_pos (by omega)]
end Go.Proofs.Ytnaafcleafbejaa.PL
end
section
namespace Go.Proofs.Ytnaafcleafbejaa.PL
open Go Go.RowKit Go.Proofs.YtnaafcleafbejaaW.PrintWords Go.Proofs.YtnaafcleafbejaaW.PrintLast Go.Proofs.YtnaafcleafbejaaW.PrintMore Go.Proofs.Ytnaafcleafbejaa.Q
set_option linter.unusedSimpArgs false
set_option linter.unusedVariables false
theorem szStringS_ev (l : List ByteArray) (a : Int) (hl : Rd.okSl Rd.okStr l) (h0 : 0 ≤ a) (h1 : a ≤ 1048576) :
    ∃ r, Ev (fun k => laws_szStringS.f k l a) r ∧ (0 ≤ r → (l.length : Int) ≤ a ∧ r ≤ a) := by
  obtain ⟨hl1, hl2⟩ := hl
  unfold maxLen at hl1
  by_cases h : a < l.length
  · refine ⟨-1, ?_, fun h => absurd h (by decide)⟩
    unfold laws_szStringS.f
    rw [w64 (by omega) (by omega)]
    simp only [show a - (l.length : Int) < 0 by omega, if_true]
    exact Ev.now _
  · have key : ∀ (d i : Nat) (r : Int), i + d = l.length → 0 ≤ r → r ≤ a → ∃ q, Ev (fun k => laws_szStringS.l0 k l r i) q ∧ q ≤ a := by
      intro d
      induction d with
      | zero =>
        intro i r hi hr hra
        refine ⟨r, Ev.step (f := fun _ => some r) (fun k => ?_) (Ev.now _), hra⟩
        simp only [laws_szStringS.l0]
        rw [if_neg (by omega)]
      | succ d ih =>
        intro i r hi hr hra
        have hlt : i < l.length := by omega
        have hx : rdOf ByteArray.empty l i = l[i] := rdOf_eq (getD_eq l i hlt)
        have hsz : l[i].size ≤ maxLen := hl2 l[i] (List.getElem_mem hlt)
        unfold maxLen at hsz
        by_cases hb : r < l[i].size
        · refine ⟨-1, Ev.step (f := fun _ => some (-1)) (fun k => ?_) (Ev.now _), by omega⟩
          simp only [laws_szStringS.l0, hx]
          rw [if_pos (by omega), if_pos (by omega), w64 (by omega) (by omega), if_pos (by omega)]
        · obtain ⟨q, hq, hqa⟩ := ih (i + 1) (r - l[i].size) (by omega) (by omega) (by omega)
          refine ⟨q, Ev.step (fun k => ?_) hq, hqa⟩
          simp only [laws_szStringS.l0, hx]
          rw [if_pos (by omega), if_pos (by omega), w64 (by omega) (by omega), if_neg (by omega), w64n i (by omega)]
    obtain ⟨q, hq, hqa⟩ := key l.length 0 (a - l.length) (by omega) (by omega) (by omega)
    refine ⟨q, ?_, fun h' => ⟨by omega, hqa⟩⟩
    unfold laws_szStringS.f
    rw [w64 (by omega) (by omega)]
    simp only [show ¬ (a - (l.length : Int) < 0) by omega, if_false]
    simpa using hq
theorem szIntS_eq (l : List Int) (a : Int) (hl : l.length ≤ maxLen) (h0 : 0 ≤ a) (h1 : a ≤ 1048576) : laws_szIntS.f l a = some (if a < l.length then -1 else a - l.length) := by
  unfold maxLen at hl
  unfold laws_szIntS.f
  rw [w64 (by omega) (by omega)]
  by_cases h : a < l.length
  · rw [if_pos (by omega), if_pos h]
  · rw [if_neg (by omega), if_neg h]
theorem toStringS_ev (l : List ByteArray) (hl : l.length ≤ 1048576) : Ev (fun k => laws_toStringS.f k l) l := by
  have key : ∀ (d i : Nat), i + d = l.length → Ev (fun k => laws_toStringS.l0 k l (l.take i ++ List.replicate d ⟨#[]⟩) i) l := by
    intro d
    induction d with
    | zero =>
      intro i hi
      refine Ev.step (f := fun _ => some l) (fun k => ?_) (Ev.now _)
      simp only [laws_toStringS.l0]
      rw [if_neg (by omega), List.take_of_length_le (by omega)]
      simp
    | succ d ih =>
      intro i hi
      have hlt : i < l.length := by omega
      have hx : rdOf ByteArray.empty l i = l[i] := rdOf_eq (getD_eq l i hlt)
      refine Ev.step (fun k => ?_) (ih (i + 1) (by omega))
      simp only [laws_toStringS.l0]
      rw [if_pos (by omega), if_pos (by omega), if_pos (by simp; omega), hx, w64n i (by omega)]
      congr 1
      have e : ((i : Int)).toNat = (l.take i).length := by simp; omega
      rw [e]
      have := set_fill (l.take i) (List.replicate d (⟨#[]⟩ : ByteArray)) ⟨#[]⟩ l[i]
      simp only [List.length_replicate] at this
      rw [this]
      congr 1
      rw [List.take_succ_eq_append_getElem hlt]
  unfold laws_toStringS.f
  refine Ev.ifp (by omega) (Ev.ifp (by simp; omega) ?_)
  simpa using key l.length 0 (by omega)
theorem eqStringS_refl (l : List ByteArray) (hl : l.length ≤ 1048576) : Ev (fun k => laws_eqStringS.f k l l) true := by
  unfold laws_eqStringS.f
  simp only [if_true]
  refine loop_list (σ := Unit) l (fun k _ i => laws_eqStringS.l0 k l l i) (fun _ _ => true) (fun _ => ?_) (fun i _ x rest hi hx ih => ?_) ()
  · refine Ev.step (f := fun _ => some true) (fun k => ?_) (Ev.now _)
    simp only [laws_eqStringS.l0]
    rw [if_neg (by omega)]
  · refine Ev.step (fun k => ?_) (ih ())
    simp only [laws_eqStringS.l0, if_true]
    rw [if_pos (by omega), if_pos (by omega), w64n i (by omega), if_pos (by omega)]
theorem szChoice_ev (l : List ByteArray) (m : List Int) (a : Int) (hl : Rd.okSl Rd.okStr l) (hm : m.length ≤ maxLen) (h0 : 0 ≤ a) (h1 : a ≤ 1048576) :
    ∃ r, Ev (fun k => laws_szChoice.f k l m a) r ∧ (0 ≤ r → (l.length : Int) ≤ a ∧ (m.length : Int) ≤ a ∧ r ≤ a) := by
  unfold laws_szChoice.f
  obtain ⟨r, hr, hr'⟩ := szStringS_ev l a hl h0 h1
  by_cases hn : r < 0
  · exact ⟨-1, Ev.bind hr (Ev.ifp hn (Ev.now _)), fun h => absurd h (by decide)⟩
  obtain ⟨q1, q2⟩ := hr' (by omega)
  have e := szIntS_eq m r hm (by omega) (by omega)
  by_cases hn2 : r < m.length
  · rw [if_pos hn2] at e
    exact ⟨-1, Ev.bind hr (Ev.ifn hn (Ev.call e (Ev.ifp (by decide) (Ev.now _)))), fun h => absurd h (by decide)⟩
  · rw [if_neg hn2] at e
    exact ⟨r - m.length, Ev.bind hr (Ev.ifn hn (Ev.call e (Ev.ifn (by omega) (Ev.now _)))), fun h => ⟨by omega, by omega, by omega⟩⟩
theorem toChoice_ev (l : List ByteArray) (m : List Int) (hl : l.length ≤ 1048576) (hm : m.length ≤ 1048576) : Ev (fun k => laws_toChoice.f k l m) (l, m) := by
  unfold laws_toChoice.f
  exact Ev.bind (toStringS_ev l hl) (Ev.bind (toIntS_ev m hm) (Ev.now _))
theorem eqChoice_refl (l : List ByteArray) (m : List Int) (hl : l.length ≤ 1048576) (hm : m.length ≤ 1048576) : Ev (fun k => laws_eqChoice.f k l m l m) true := by
  unfold laws_eqChoice.f
  exact Ev.bind (eqStringS_refl l hl) (Ev.ifp rfl (Ev.bind (eqIntS_refl m hm) (Ev.ifp rfl (Ev.now _))))
end Go.Proofs.Ytnaafcleafbejaa.PL
end
section
namespace Go.Proofs.Ytnaafcleafbejaa.PL
open Go Go.RowKit Go.Proofs.YtnaafcleafbejaaW.PrintWords Go.Proofs.YtnaafcleafbejaaW.PrintLast Go.Proofs.YtnaafcleafbejaaW.PrintMore Go.Proofs.Ytnaafcleafbejaa.Q
set_option linter.unusedSimpArgs false
set_option linter.unusedVariables false
open Classical in
def marksN : Nat → Nat → List Int
  | 0, _ => []
  | n + 1, a => (a : Int) :: marksN n (a + 1)
theorem marksN_len : ∀ n a, (marksN n a).length = n
  | 0, _ => rfl
  | n + 1, a => by simp [marksN, marksN_len n]
end Go.Proofs.Ytnaafcleafbejaa.PL
end
section
namespace Go.Proofs.Ytnaafcleafbejaa.PL
open Go Go.RowKit Go.Proofs.YtnaafcleafbejaaW.PrintWords Go.Proofs.YtnaafcleafbejaaW.PrintLast Go.Proofs.YtnaafcleafbejaaW.PrintMore Go.Proofs.Ytnaafcleafbejaa.Q
set_option linter.unusedSimpArgs false
set_option linter.unusedVariables false
def shapeC (c : Nat) : Bool × Bool × Bool × Int × Int :=
  match c with
  | 0 => (true, false, false, 0, 63)
  | 1 => (true, true, false, 0, 0)
  | 2 => (true, true, true, 0, 0)
  | 3 => (true, true, true, 0, 0)
  | 4 => (true, true, true, 0, 0)
  | 5 => (true, true, false, 0, 63)
  | 6 => (true, true, false, 1, 5)
  | 7 => (true, true, true, 1, 3)
  | _ => (false, false, false, 0, 0)
theorem shape_closed : ∀ p ∈ ops, spec_cdShape.f 20 p.1 = some (shapeC p.2) := by decide +kernel
theorem formOf_eq (s : ByteArray) : impl_formOf.f s = some (formC (cls s) s) := rfl
theorem shape_ev (s : ByteArray) : Ev (fun k => spec_cdShape.f k s) (shapeC (cls s)) := by
  refine op_cases (P := fun s => Ev (fun k => spec_cdShape.f k s) (shapeC (cls s))) s (fun p hp => ?_) (fun h => ?_)
  · rw [cls_op p hp]
    exact Ev.of (spec_cdShape.mono _) (shape_closed p hp)
  · rw [cls_none h]
    obtain ⟨h0, h1, h2, h3, h4, h5, h6, h7, h8, h9, h10, h11, h12, h13, h14, h15, h16, h17, h18, h19⟩ := not_ops h
    refine Ev.of (spec_cdShape.mono _) (k := 5) ?_
    simp only [spec_cdShape.f, spec_cdShape.j0, spec_cdShape.j1, spec_cdShape.j2, spec_cdShape.j3, h0, h1, h2, h3, h4, h5, h6, h7, h8, h9, h10, h11, h12, h13, h14, h15, h16, h17, h18, h19, if_false, beq_iff_eq]
    rfl
theorem within_eq (a b c : Int) : impl_within.f a b c = some (decide (b ≤ a ∧ a ≤ c)) := by
  unfold impl_within.f
  by_cases h : b ≤ a <;> simp [h]
theorem l1In_eq (a b c : Int) : spec_l1In.f a b c = some (decide (b ≤ a ∧ a ≤ c)) := by
  unfold spec_l1In.f
  by_cases h : a ≥ b
  · rw [if_pos h]; congr 1; rw [decide_eq_decide]; omega
  · rw [if_neg h]; congr 1; symm; rw [decide_eq_false_iff_not]; omega
def okI (x : Instr) : Prop := cls x.f0 ≠ 8 ∧ (0 ≤ x.f1 ∧ x.f1 ≤ 5) ∧ ((shapeC (cls x.f0)).2.1 = true ∧ 0 ≤ x.f2 ∧ x.f2 ≤ 5 ∨ x.f2 = 0) ∧ ((shapeC (cls x.f0)).2.2.1 = true ∧ 0 ≤ x.f3 ∧ x.f3 ≤ 5 ∨ x.f3 = 0) ∧ (shapeC (cls x.f0)).2.2.2.1 ≤ x.f4 ∧ x.f4 ≤ (shapeC (cls x.f0)).2.2.2.2
instance (x : Instr) : Decidable (okI x) := by unfold okI; infer_instance
theorem cls_le (s : ByteArray) : cls s ≤ 8 := by
  refine op_cases (P := fun s => cls s ≤ 8) s (by decide +kernel) (fun h => by rw [cls_none h]; exact Nat.le_refl _)
theorem cls_cases (s : ByteArray) : cls s = 0 ∨ cls s = 1 ∨ cls s = 2 ∨ cls s = 3 ∨ cls s = 4 ∨ cls s = 5 ∨ cls s = 6 ∨ cls s = 7 ∨ cls s = 8 := by have := cls_le s; omega
end Go.Proofs.Ytnaafcleafbejaa.PL
end
section
namespace Go.Proofs.Ytnaafcleafbejaa.PL
open Go Go.RowKit Go.Proofs.YtnaafcleafbejaaW.PrintWords Go.Proofs.YtnaafcleafbejaaW.PrintLast Go.Proofs.YtnaafcleafbejaaW.PrintMore Go.Proofs.Ytnaafcleafbejaa.Q
set_option linter.unusedSimpArgs false
set_option linter.unusedVariables false
end Go.Proofs.Ytnaafcleafbejaa.PL
end
section
namespace Go.Proofs.Ytnaafcleafbejaa.PL
open Go Go.RowKit Go.Proofs.YtnaafcleafbejaaW.PrintWords Go.Proofs.YtnaafcleafbejaaW.PrintLast Go.Proofs.YtnaafcleafbejaaW.PrintMore Go.Proofs.Ytnaafcleafbejaa.Q
set_option linter.unusedSimpArgs false
set_option linter.unusedVariables false
end Go.Proofs.Ytnaafcleafbejaa.PL
end
section
namespace Go.Proofs.Ytnaafcleafbejaa.PL
open Go Go.RowKit Go.Proofs.YtnaafcleafbejaaW.PrintWords Go.Proofs.YtnaafcleafbejaaW.PrintLast Go.Proofs.YtnaafcleafbejaaW.PrintMore Go.Proofs.Ytnaafcleafbejaa.Q
set_option linter.unusedSimpArgs false
set_option linter.unusedVariables false
theorem mem_of_getD {α : Type} {xs : List α} {i : Nat} {x : α} (hi : i < xs.length) (hx : ∀ d, xs.getD i d = x) : x ∈ xs := by
  have := hx x
  rw [getD_eq xs i hi] at this
  rw [← this]
  exact List.getElem_mem hi
theorem idx_mem {α : Type} (p : α → Bool) (xs : List α) (q : Prop) [Decidable q] (h : q ↔ ∃ x ∈ xs, p x = true) : decide (idx p xs ≥ 0) = decide q := by
  rw [decide_eq_decide]
  exact (idx_nonneg p xs).trans h.symm
def hasS (l : List ByteArray) (s : ByteArray) : Bool := l.any fun y => decide (y = s)
theorem hasS_iff (l : List ByteArray) (s : ByteArray) : hasS l s = true ↔ s ∈ l := by
  unfold hasS
  rw [List.any_eq_true]
  exact ⟨fun ⟨x, hx, h⟩ => of_decide_eq_true h ▸ hx, fun h => ⟨s, h, decide_eq_true rfl⟩⟩
theorem containsS_ev (l : List ByteArray) (s : ByteArray) (hl : l.length ≤ 1048576) : Ev (fun k => slices_Contains_string_string.f k l s) (hasS l s) := by
  have h : Ev (fun k => slices_Index_string_string.f k l s) (idx (fun y => decide (s = y)) l) := by
    unfold slices_Index_string_string.f
    refine search_ev l _ (fun k i => slices_Index_string_string.l0 k l s l.length i) ?_ (fun i x hi hx hp => ?_) (fun i x r hi hx hp hr => ?_)
    · refine Ev.step (f := fun _ => some (-1)) (fun k => ?_) (Ev.now _)
      simp only [slices_Index_string_string.l0]
      rw [if_neg (by omega)]
    · refine Ev.step (f := fun _ => some (i : Int)) (fun k => ?_) (Ev.now _)
      simp only [slices_Index_string_string.l0, rdOf_eq hx, str_eq]
      rw [if_pos (by omega), if_pos (by omega), if_pos (by omega), if_pos (of_decide_eq_true hp)]
    · refine Ev.step (fun k => ?_) hr
      simp only [slices_Index_string_string.l0, rdOf_eq hx, str_eq]
      rw [if_pos (by omega), if_pos (by omega), if_pos (by omega), if_neg (of_decide_eq_false hp), w64n i (by omega)]
  unfold slices_Contains_string_string.f
  refine Ev.bind h (Ev.some ?_)
  rw [Bool.eq_iff_iff, decide_eq_true_eq, hasS_iff]
  refine (idx_nonneg _ l).trans ⟨?_, fun h => ⟨s, h, decide_eq_true rfl⟩⟩
  rintro ⟨x, hx, h⟩
  rw [of_decide_eq_true h]
  exact hx
theorem l1HasS_ev (l : List ByteArray) (s : ByteArray) (hl : l.length ≤ 1048576) : Ev (fun k => spec_l1HasS.f k l s) (hasS l s) := by
  unfold spec_l1HasS.f
  refine loop_list (σ := Unit) l (fun k _ i => spec_l1HasS.l0 k s l l.length i) (fun r _ => hasS r s) (fun _ => ?_) (fun i _ x rest hi hx ih => ?_) ()
  · refine Ev.step (f := fun _ => some false) (fun k => ?_) (Ev.now _)
    simp only [spec_l1HasS.l0]
    rw [if_neg (by omega)]
  · refine Ev.step (fun k => by simp only [spec_l1HasS.l0, rdOf_eq hx, str_eq]; rfl) (Ev.ifp (by omega) (Ev.ifp (by omega) (Ev.ifp (by omega) ?_)))
    by_cases q : x = s
    · exact Ev.ifp q (Ev.some (by simp [hasS, q]))
    · refine Ev.ifn q ?_
      rw [w64n i (by omega)]
      refine ev_eq (ih ()) ?_
      simp [hasS, q]
theorem containsI_ev (l : List Int) (s : Int) (hl : l.length ≤ 1048576) : Ev (fun k => slices_Contains_int_int.f k l s) (decide (s ∈ l)) := by
  have h : Ev (fun k => slices_Index_int_int.f k l s) (idx (fun y => decide (s = y)) l) := by
    unfold slices_Index_int_int.f
    refine search_ev l _ (fun k i => slices_Index_int_int.l0 k l s l.length i) ?_ (fun i x hi hx hp => ?_) (fun i x r hi hx hp hr => ?_)
    · refine Ev.step (f := fun _ => some (-1)) (fun k => ?_) (Ev.now _)
      simp only [slices_Index_int_int.l0]
      rw [if_neg (by omega)]
    · refine Ev.step (f := fun _ => some (i : Int)) (fun k => ?_) (Ev.now _)
      simp only [slices_Index_int_int.l0, rd_eq hx]
      rw [if_pos (by omega), if_pos (by omega), if_pos (by omega), if_pos (of_decide_eq_true hp)]
    · refine Ev.step (fun k => ?_) hr
      simp only [slices_Index_int_int.l0, rd_eq hx]
      rw [if_pos (by omega), if_pos (by omega), if_pos (by omega), if_neg (of_decide_eq_false hp), w64n i (by omega)]
  unfold slices_Contains_int_int.f
  refine Ev.bind h (Ev.some (idx_mem _ _ _ ?_))
  constructor
  · exact fun h => ⟨s, h, decide_eq_true rfl⟩
  · rintro ⟨x, hx, h⟩
    rw [of_decide_eq_true h]
    exact hx
theorem l1Has_ev (l : List Int) (s : Int) (hl : l.length ≤ 1048576) : Ev (fun k => spec_l1Has.f k l s) (decide (s ∈ l)) := by
  unfold spec_l1Has.f
  refine loop_list (σ := Unit) l (fun k _ i => spec_l1Has.l0 k s l l.length i) (fun r _ => decide (s ∈ r)) (fun _ => ?_) (fun i _ x rest hi hx ih => ?_) ()
  · refine Ev.step (f := fun _ => some false) (fun k => ?_) (Ev.some (by simp))
    simp only [spec_l1Has.l0]
    rw [if_neg (by omega)]
  · refine Ev.step (fun k => by simp only [spec_l1Has.l0, rd_eq hx]; rfl) (Ev.ifp (by omega) (Ev.ifp (by omega) (Ev.ifp (by omega) ?_)))
    by_cases q : x = s
    · exact Ev.ifp q (Ev.some (by simp [q]))
    · refine Ev.ifn q ?_
      rw [w64n i (by omega)]
      refine ev_eq (ih ()) ?_
      rw [decide_eq_decide, List.mem_cons]
      exact ⟨Or.inr, fun h => h.resolve_left fun e => q e.symm⟩
def isIn (s : ByteArray) : Prop := s.toList = ([105, 110] : List UInt8)
def isConst (s : ByteArray) : Prop := s.toList = ([99, 111, 110, 115, 116] : List UInt8)
def isNot (s : ByteArray) : Prop := s.toList = ([110, 111, 116] : List UInt8)
def isNeg (s : ByteArray) : Prop := s.toList = ([110, 101, 103] : List UInt8)
instance (s : ByteArray) : Decidable (isIn s) := by unfold isIn; infer_instance
instance (s : ByteArray) : Decidable (isConst s) := by unfold isConst; infer_instance
instance (s : ByteArray) : Decidable (isNot s) := by unfold isNot; infer_instance
instance (s : ByteArray) : Decidable (isNeg s) := by unfold isNeg; infer_instance
end Go.Proofs.Ytnaafcleafbejaa.PL
end
section
namespace Go.Proofs.Ytnaafcleafbejaa.PL
open Go Go.RowKit Go.Proofs.YtnaafcleafbejaaW.PrintWords Go.Proofs.YtnaafcleafbejaaW.PrintLast Go.Proofs.YtnaafcleafbejaaW.PrintMore Go.Proofs.Ytnaafcleafbejaa.Q
set_option linter.unusedSimpArgs false
set_option linter.unusedVariables false
theorem l1All_ev (c : List Int) (a b : Int) (hc : c.length ≤ 1048576) : Ev (fun k => spec_l1All.f k c a b) (c.all (fun n => decide (a ≤ n ∧ n ≤ b))) := by
  unfold spec_l1All.f
  refine all_ev c _ (fun k i => spec_l1All.l0 k a b c c.length i) ?_ (fun i x hi hx hp => ?_) (fun i x r hi hx hp hr => ?_)
  · refine Ev.step (f := fun _ => some true) (fun k => ?_) (Ev.now _)
    simp only [spec_l1All.l0]
    rw [if_neg (by omega)]
  · refine Ev.step (f := fun _ => some false) (fun k => ?_) (Ev.now _)
    simp only [spec_l1All.l0, rd_eq hx, l1In_eq, Option.bind_some, hp]
    rw [if_pos (by omega), if_pos (by omega), if_pos (by omega), if_neg (by simp)]
  · refine Ev.step (fun k => ?_) hr
    simp only [spec_l1All.l0, rd_eq hx, l1In_eq, Option.bind_some, hp]
    rw [if_pos (by omega), if_pos (by omega), if_pos (by omega), if_pos trivial, w64n i (by omega)]
end Go.Proofs.Ytnaafcleafbejaa.PL
end
section
namespace Go.Proofs.Ytnaafcleafbejaa.PL
open Go Go.RowKit Go.Proofs.YtnaafcleafbejaaW.PrintWords Go.Proofs.YtnaafcleafbejaaW.PrintLast Go.Proofs.YtnaafcleafbejaaW.PrintMore Go.Proofs.Ytnaafcleafbejaa.Q
set_option linter.unusedSimpArgs false
set_option linter.unusedVariables false
theorem all_range (n : Nat) (Q : Nat → Bool) (fin : Bool) (L : Nat → Int → Option Bool) (hend : Ev (fun k => L k (n : Nat)) fin)
    (hno : ∀ i : Nat, i < n → Q i = false → Ev (fun k => L k (i : Nat)) false) (hyes : ∀ (i : Nat) r, i < n → Q i = true → Ev (fun k => L k ((i + 1 : Nat) : Int)) r → Ev (fun k => L k (i : Nat)) r) : Ev (fun k => L k 0) ((List.range n).all Q && fin) := by
  have key : ∀ (d i : Nat), i + d = n → Ev (fun k => L k (i : Nat)) ((List.range' i d).all Q && fin) := by
    intro d
    induction d with
    | zero =>
      intro i hi
      have e : i = n := by omega
      subst e
      simpa using hend
    | succ d ih =>
      intro i hi
      rw [List.range'_succ, List.all_cons]
      cases h : Q i
      · simpa using hno i (by omega) h
      · simpa using hyes i _ (by omega) h (ih (i + 1) (by omega))
  rw [List.range_eq_range']
  exact key n 0 (by omega)
theorem all_then {α : Type} (xs : List α) (p : α → Bool) (fin : Bool) (L : Nat → Int → Option Bool) (hend : Ev (fun k => L k (xs.length : Nat)) fin)
    (hno : ∀ (i : Nat) x, i < xs.length → (∀ d, xs.getD i d = x) → p x = false → Ev (fun k => L k i) false)
    (hyes : ∀ (i : Nat) x r, i < xs.length → (∀ d, xs.getD i d = x) → p x = true → Ev (fun k => L k ((i + 1 : Nat) : Int)) r → Ev (fun k => L k i) r) : Ev (fun k => L k 0) (xs.all p && fin) := by
  refine loop_list (σ := Unit) xs (fun k _ i => L k i) (fun l _ => l.all p && fin) (fun _ => by simpa using hend) (fun i _ x rest hi hx ih => ?_) ()
  cases h : p x
  · exact ev_eq (hno i x hi hx h) (by simp [h])
  · exact hyes i x _ hi hx h (ev_eq (ih ()) (by simp [h]))
theorem loop_app {α β : Type} (xs : List α) (g : α → List β) (N : Nat) (L : Nat → List β → Int → Option (List β)) (T : List β)
    (hend : ∀ s, (s ++ T).length ≤ N → Ev (fun k => L k s (xs.length : Nat)) (s ++ T))
    (hstep : ∀ (i : Nat) s x U, i < xs.length → (∀ d, xs.getD i d = x) → (s ++ (g x ++ U)).length ≤ N → (∀ s', (s' ++ U).length ≤ N → Ev (fun k => L k s' ((i + 1 : Nat) : Int)) (s' ++ U)) → Ev (fun k => L k s (i : Nat)) (s ++ (g x ++ U)))
    (s : List β) (hs : (s ++ (xs.flatMap g ++ T)).length ≤ N) : Ev (fun k => L k s 0) (s ++ (xs.flatMap g ++ T)) := by
  have key : ∀ (d i : Nat), i + d = xs.length → ∀ s, (s ++ ((xs.drop i).flatMap g ++ T)).length ≤ N → Ev (fun k => L k s (i : Nat)) (s ++ ((xs.drop i).flatMap g ++ T)) := by
    intro d
    induction d with
    | zero =>
      intro i hi s hs
      have e : i = xs.length := by omega
      subst e
      rw [List.drop_of_length_le (Nat.le_refl _), List.flatMap_nil, List.nil_append] at hs ⊢
      exact hend s hs
    | succ d ih =>
      intro i hi s hs
      have hlt : i < xs.length := by omega
      have e : xs.drop i = xs[i] :: xs.drop (i + 1) := List.drop_eq_getElem_cons hlt
      rw [e, List.flatMap_cons, List.append_assoc] at hs ⊢
      exact hstep i s xs[i] _ hlt (getD_eq xs i hlt) hs (ih (i + 1) (by omega))
  have := key xs.length 0 (by omega) s (by simpa using hs)
  simpa using this
def immC (c : Nat) : Bool := match c with | 0 => true | 5 => true | 6 => true | 7 => true | _ => false
def imm7 : List ByteArray := [⟨#[115, 101, 116]⟩, ⟨#[97, 100, 100, 105]⟩, ⟨#[97, 110, 100, 105]⟩, ⟨#[120, 111, 114, 105]⟩, ⟨#[115, 104, 108, 105]⟩, ⟨#[115, 104, 114, 105]⟩, ⟨#[108, 101, 97]⟩]
theorem imm_closed : ∀ p ∈ ops, hasS imm7 p.1 = immC p.2 := by decide +kernel
theorem imm7_ops : ∀ t ∈ imm7, (ops.any fun p => decide (t = p.1)) = true := by decide +kernel
theorem imm_eq (s : ByteArray) : hasS imm7 s = immC (cls s) := by
  refine op_cases (P := fun s => hasS imm7 s = immC (cls s)) s (fun p hp => by rw [imm_closed p hp, cls_op p hp]) (fun h => ?_)
  rw [cls_none h, Bool.eq_iff_iff, hasS_iff]
  constructor
  · intro hm
    have := imm7_ops s hm
    rw [List.any_eq_true] at this
    obtain ⟨p, hp, he⟩ := this
    exact absurd (of_decide_eq_true he) (h p hp)
  · intro h
    cases h
theorem cdImm_ev (s : ByteArray) : Ev (fun k => spec_cdImm.f k s) (immC (cls s)) := by
  unfold spec_cdImm.f
  rw [← imm_eq]
  exact Ev.bind (l1HasS_ev imm7 s (by decide)) (Ev.now _)
def inB (c : Nat) (m : Int) : Bool := decide ((shapeC c).2.2.2.1 ≤ m ∧ m ≤ (shapeC c).2.2.2.2)
def inW (m : Int) : Bool := decide (0 ≤ m ∧ m ≤ 63)
theorem form_u1 (c : Nat) (s : ByteArray) (h : c ≤ 8) : (formC c s).1 = (shapeC c).2.1 := by
  rcases (show c = 0 ∨ c = 1 ∨ c = 2 ∨ c = 3 ∨ c = 4 ∨ c = 5 ∨ c = 6 ∨ c = 7 ∨ c = 8 by omega) with h | h | h | h | h | h | h | h | h <;> subst h <;> rfl
theorem form_u2 (c : Nat) (s : ByteArray) (h : c ≤ 8) : (formC c s).2.1 = (shapeC c).2.2.1 := by
  rcases (show c = 0 ∨ c = 1 ∨ c = 2 ∨ c = 3 ∨ c = 4 ∨ c = 5 ∨ c = 6 ∨ c = 7 ∨ c = 8 by omega) with h | h | h | h | h | h | h | h | h <;> subst h <;> rfl
theorem form_ok (c : Nat) (s : ByteArray) (h : c ≤ 8) : (formC c s).2.2.2.2.2.2 = decide (c ≠ 8) := by
  rcases (show c = 0 ∨ c = 1 ∨ c = 2 ∨ c = 3 ∨ c = 4 ∨ c = 5 ∨ c = 6 ∨ c = 7 ∨ c = 8 by omega) with h | h | h | h | h | h | h | h | h <;> subst h <;> rfl
theorem shape_ok (c : Nat) (h : c ≤ 8) : (shapeC c).1 = decide (c ≠ 8) := by
  rcases (show c = 0 ∨ c = 1 ∨ c = 2 ∨ c = 3 ∨ c = 4 ∨ c = 5 ∨ c = 6 ∨ c = 7 ∨ c = 8 by omega) with h | h | h | h | h | h | h | h | h <;> subst h <;> rfl
theorem form_imm (c : Nat) (s : ByteArray) (h : c ≤ 8) (h8 : c ≠ 8) : decide ((formC c s).2.2.1 ≤ (formC c s).2.2.2.1) = immC c := by
  rcases (show c = 0 ∨ c = 1 ∨ c = 2 ∨ c = 3 ∨ c = 4 ∨ c = 5 ∨ c = 6 ∨ c = 7 ∨ c = 8 by omega) with h | h | h | h | h | h | h | h | h <;> subst h <;> first | rfl | exact absurd rfl h8
theorem form_in (c : Nat) (s : ByteArray) (h : c ≤ 8) (h8 : immC c = true) (m : Int) : decide ((formC c s).2.2.1 ≤ m ∧ m ≤ (formC c s).2.2.2.1) = inB c m := by
  rcases (show c = 0 ∨ c = 1 ∨ c = 2 ∨ c = 3 ∨ c = 4 ∨ c = 5 ∨ c = 6 ∨ c = 7 ∨ c = 8 by omega) with h | h | h | h | h | h | h | h | h <;> subst h <;> first | rfl | cases h8
def okOp (ims : List Int) (s : ByteArray) : Bool := decide (cls s ≠ 8) && (!immC (cls s) || ims.all (inB (cls s)))
def difS (l : List ByteArray) : Bool := (List.range l.length).all fun i => !hasS (l.take i) (l.getD i ByteArray.empty)
def difI (l : List Int) : Bool := (List.range l.length).all fun i => !decide (l.getD i 0 ∈ l.take i)
def okChoice (os : List ByteArray) (ims : List Int) : Bool := decide (1 ≤ os.length ∧ os.length ≤ 4) && (decide (ims.length ≤ 2) && (ims.all inW && (difS os && (difI ims && (List.range os.length).all fun i => okOp ims (os.getD i ByteArray.empty)))))
theorem difS_ev (l : List ByteArray) (hl : l.length ≤ 1048576) : Ev (fun k => impl_areDifferent_string.f k l) (difS l) := by
  unfold impl_areDifferent_string.f difS
  refine ev_eq (all_range l.length _ true (fun k i => impl_areDifferent_string.l0 k l l l.length i) ?_ (fun i hi hq => ?_) (fun i r hi hq hr => ?_)) (Bool.and_true _)
  · refine Ev.step (f := fun _ => some true) (fun k => ?_) (Ev.now _)
    simp only [impl_areDifferent_string.l0]
    rw [if_neg (by omega)]
  · refine Ev.step (fun k => by simp only [impl_areDifferent_string.l0, rdOf_eq (d0 := ByteArray.empty) (fun d => (getD_eq l i hi d).trans (getD_eq l i hi ByteArray.empty).symm), Int.toNat_natCast]; rfl) (Ev.ifp (by omega) (Ev.ifp (by omega) (Ev.ifp (by omega) (Ev.ifp (by omega) ?_))))
    exact Ev.bind (containsS_ev _ _ (by rw [List.length_take]; omega)) (Ev.ifp (by simpa using hq) (Ev.now _))
  · refine Ev.step (fun k => by simp only [impl_areDifferent_string.l0, rdOf_eq (d0 := ByteArray.empty) (fun d => (getD_eq l i hi d).trans (getD_eq l i hi ByteArray.empty).symm), Int.toNat_natCast]; rfl) (Ev.ifp (by omega) (Ev.ifp (by omega) (Ev.ifp (by omega) (Ev.ifp (by omega) ?_))))
    refine Ev.bind (containsS_ev _ _ (by rw [List.length_take]; omega)) (Ev.ifn (by simpa using hq) ?_)
    rw [w64n i (by omega)]
    exact hr
theorem difI_ev (l : List Int) (hl : l.length ≤ 1048576) : Ev (fun k => impl_areDifferent_int.f k l) (difI l) := by
  unfold impl_areDifferent_int.f difI
  refine ev_eq (all_range l.length _ true (fun k i => impl_areDifferent_int.l0 k l l l.length i) ?_ (fun i hi hq => ?_) (fun i r hi hq hr => ?_)) (Bool.and_true _)
  · refine Ev.step (f := fun _ => some true) (fun k => ?_) (Ev.now _)
    simp only [impl_areDifferent_int.l0]
    rw [if_neg (by omega)]
  · refine Ev.step (fun k => by simp only [impl_areDifferent_int.l0, rd_eq (fun d => (getD_eq l i hi d).trans (getD_eq l i hi 0).symm), Int.toNat_natCast]; rfl) (Ev.ifp (by omega) (Ev.ifp (by omega) (Ev.ifp (by omega) (Ev.ifp (by omega) ?_))))
    exact Ev.bind (containsI_ev _ _ (by rw [List.length_take]; omega)) (Ev.ifp (by simpa using hq) (Ev.now _))
  · refine Ev.step (fun k => by simp only [impl_areDifferent_int.l0, rd_eq (fun d => (getD_eq l i hi d).trans (getD_eq l i hi 0).symm), Int.toNat_natCast]; rfl) (Ev.ifp (by omega) (Ev.ifp (by omega) (Ev.ifp (by omega) (Ev.ifp (by omega) ?_))))
    refine Ev.bind (containsI_ev _ _ (by rw [List.length_take]; omega)) (Ev.ifn (by simpa using hq) ?_)
    rw [w64n i (by omega)]
    exact hr
def opI (ims : List Int) (s : ByteArray) : Bool := decide (cls s ≠ 8) && ims.all fun m => inW m && (!immC (cls s) || inB (cls s) m)
theorem isChoice_l0 (os : List ByteArray) (ims : List Int) (ho : os.length ≤ 4) (hi : ims.length ≤ 1048576) : Ev (fun k => impl_IsChoice.l0 k os os.length 0 os ims) ((List.range os.length).all fun i => opI ims (os.getD i ByteArray.empty)) := by
  have inner : ∀ (i : Nat) (s : ByteArray) r, i < os.length → cls s ≠ 8 → Ev (fun k => impl_IsChoice.l0 k os os.length ((i + 1 : Nat) : Int) os ims) r → Ev (fun k => impl_IsChoice.l1 k os os.length i ims ims.length 0 os ims (formC (cls s) s).1 (formC (cls s) s).2.1 (formC (cls s) s).2.2.1 (formC (cls s) s).2.2.2.1 (formC (cls s) s).2.2.2.2.1 (formC (cls s) s).2.2.2.2.2.1) ((ims.all fun m => inW m && (!immC (cls s) || inB (cls s) m)) && r) := by
    intro i s r hlt h8 hr
    have hc := cls_le s
    refine all_then ims _ r (fun k j => impl_IsChoice.l1 k os os.length i ims ims.length j os ims (formC (cls s) s).1 (formC (cls s) s).2.1 (formC (cls s) s).2.2.1 (formC (cls s) s).2.2.2.1 (formC (cls s) s).2.2.2.2.1 (formC (cls s) s).2.2.2.2.2.1) ?_ (fun j x hj hx hp => ?_) (fun j x r' hj hx hp hr' => ?_)
    · refine Ev.step (fun k => ?_) hr
      simp only [impl_IsChoice.l1]
      rw [if_neg (by omega), w64n i (by omega)]
    · refine Ev.step (fun k => by simp only [impl_IsChoice.l1, rd_eq hx, impl_isWord.f, within_eq, impl_form_imm.f, Option.bind_some, form_imm _ s hc h8]; rfl) (Ev.ifp (by omega) (Ev.ifp (by omega) (Ev.ifp (by omega) ?_)))
      by_cases q : 0 ≤ x ∧ x ≤ 63
      · refine Ev.ifp (by simpa using q) ?_
        cases hm : immC (cls s)
        · simp [inW, hm, q] at hp
        · refine Ev.ifp rfl (Ev.ifn ?_ (Ev.now _))
          rw [form_in _ s hc hm]
          simpa [inW, hm, q] using hp
      · exact Ev.ifn (by simpa using q) (Ev.now _)
    · refine Ev.step (fun k => by simp only [impl_IsChoice.l1, rd_eq hx, impl_isWord.f, within_eq, impl_form_imm.f, Option.bind_some, form_imm _ s hc h8]; rfl) (Ev.ifp (by omega) (Ev.ifp (by omega) (Ev.ifp (by omega) ?_)))
      simp only [Bool.and_eq_true] at hp
      refine Ev.ifp hp.1 ?_
      rw [w64n j (by omega)]
      cases hm : immC (cls s)
      · exact Ev.ifn (by simp) hr'
      · refine Ev.ifp rfl (Ev.ifp ?_ hr')
        rw [form_in _ s hc hm]
        simpa [hm] using hp.2
  have main : ∀ (d i : Nat), i + d = os.length → Ev (fun k => impl_IsChoice.l0 k os os.length (i : Nat) os ims) ((List.range' i d).all fun i => opI ims (os.getD i ByteArray.empty)) := by
    intro d
    induction d with
    | zero =>
      intro i hi
      refine Ev.step (f := fun _ => some true) (fun k => ?_) (Ev.some rfl)
      simp only [impl_IsChoice.l0]
      rw [if_neg (by omega)]
    | succ d ih =>
      intro i hi
      have hlt : i < os.length := by omega
      have hx : rdOf ByteArray.empty os i = os.getD i ByteArray.empty := rdOf_eq (fun d => (getD_eq os i hlt d).trans (getD_eq os i hlt ByteArray.empty).symm)
      rw [List.range'_succ, List.all_cons]
      obtain ⟨s, es⟩ : ∃ s, s = os.getD i ByteArray.empty := ⟨_, rfl⟩
      rw [← es] at hx ⊢
      refine Ev.step (fun k => by simp only [impl_IsChoice.l0, hx, formOf_eq, Option.bind_some, form_ok _ _ (cls_le _)]; rfl) (Ev.ifp (by omega) (Ev.ifp (by omega) (Ev.ifp (by omega) ?_)))
      by_cases h8 : cls s = 8
      · refine Ev.ifn (by simpa using h8) (Ev.some ?_)
        rw [show opI ims s = false by simp [opI, h8]]
        rfl
      · refine Ev.ifp (by simpa using h8) (ev_eq (inner i _ _ hlt h8 (ih (i + 1) (by omega))) ?_)
        rw [show opI ims s = ims.all fun m => inW m && (!immC (cls s) || inB (cls s) m) by simp [opI, h8]]
  rw [List.range_eq_range']
  exact main os.length 0 (by omega)
theorem choice_eq (os : List ByteArray) (ims : List Int) (ho : 1 ≤ os.length) : ((List.range os.length).all fun i => opI ims (os.getD i ByteArray.empty)) = (ims.all inW && (List.range os.length).all fun i => okOp ims (os.getD i ByteArray.empty)) := by
  rw [Bool.eq_iff_iff]
  simp only [Bool.and_eq_true, List.all_eq_true, List.mem_range, opI, okOp, Bool.or_eq_true, Bool.not_eq_true']
  constructor
  · exact fun h => ⟨fun m hm => ((h 0 ho).2 m hm).1, fun i hi => ⟨(h i hi).1, by
      cases hc : immC (cls (os.getD i ByteArray.empty))
      · exact Or.inl rfl
      · refine Or.inr fun m hm => ?_
        have := ((h i hi).2 m hm).2
        rw [hc] at this
        exact this.resolve_left (by simp)⟩⟩
  · exact fun h i hi => ⟨(h.2 i hi).1, fun m hm => ⟨h.1 m hm, (h.2 i hi).2.imp id (fun g => g m hm)⟩⟩
theorem isChoice_ev (os : List ByteArray) (ims : List Int) (ho : os.length ≤ 1048576) (hi : ims.length ≤ 1048576) : Ev (fun k => impl_IsChoice.f k os ims) (okChoice os ims) := by
  unfold impl_IsChoice.f okChoice
  refine Ev.call (within_eq _ _ _) ?_
  by_cases h1 : 1 ≤ os.length ∧ os.length ≤ 4
  · rw [decide_eq_true h1, Bool.true_and]
    refine Ev.ifp (by simp; omega) ?_
    by_cases h2 : ims.length ≤ 2
    · rw [decide_eq_true h2, Bool.true_and]
      refine Ev.ifn (by omega) (Ev.bind (difS_ev os ho) ?_)
      cases hd : difS os
      · refine Ev.ifn (by decide) (Ev.step (fun k => by simp only [impl_IsChoice.j0]; rfl) (Ev.ifp (show true = true from rfl) (Ev.some ?_)))
        simp
      · refine Ev.ifp rfl (Ev.bind (difI_ev ims hi) ?_)
        cases hd2 : difI ims
        · refine Ev.step (fun k => by simp only [impl_IsChoice.j0]; rfl) (Ev.ifp (by decide) (Ev.some ?_))
          simp
        · refine Ev.step (fun k => by simp only [impl_IsChoice.j0]; rfl) (Ev.ifn (by decide) ?_)
          refine ev_eq (isChoice_l0 os ims h1.2 hi) ?_
          rw [choice_eq os ims h1.1, Bool.true_and, Bool.true_and]
    · rw [decide_eq_false h2, Bool.false_and]
      refine Ev.ifp (by omega) (Ev.step (fun k => by simp only [impl_IsChoice.j0]; rfl) (Ev.ifp (show true = true from rfl) (Ev.now _)))
  · rw [decide_eq_false h1, Bool.false_and]
    exact Ev.ifn (by simp; omega) (Ev.step (fun k => by simp only [impl_IsChoice.j0]; rfl) (Ev.ifp (show true = true from rfl) (Ev.now _)))
theorem suGood_ev (os : List ByteArray) (ims : List Int) (ho : os.length ≤ 1048576) (hi : ims.length ≤ 1048576) : Ev (fun k => spec_suGood.f k os ims) (okChoice os ims) := by
  unfold spec_suGood.f okChoice
  refine Ev.call (l1In_eq _ _ _) ?_
  by_cases h1 : 1 ≤ os.length ∧ os.length ≤ 4
  · rw [decide_eq_true h1, Bool.true_and]
    refine Ev.ifp (by simp; omega) ?_
    by_cases h2 : ims.length ≤ 2
    · rw [decide_eq_true h2, Bool.true_and]
      refine Ev.ifn (by omega) (Ev.bind (l1All_ev ims 0 63 hi) ?_)
      cases hw : ims.all (fun n => decide (0 ≤ n ∧ n ≤ 63))
      · rw [show ims.all inW = false from hw]
        exact Ev.step (fun k => by simp only [spec_suGood.j0]; rfl) (Ev.ifp (by decide) (Ev.now _))
      · rw [show ims.all inW = true from hw, Bool.true_and]
        refine Ev.step (fun k => by simp only [spec_suGood.j0]; rfl) (Ev.ifn (by decide) ?_)
        have last : Ev (fun k => spec_suGood.l1 k ims ims.length 0 os ims) (difI ims) := by
          unfold difI
          refine ev_eq (all_range ims.length _ true (fun k i => spec_suGood.l1 k ims ims.length i os ims) ?_ (fun i hi hq => ?_) (fun i r hi hq hr => ?_)) (Bool.and_true _)
          · refine Ev.step (f := fun _ => some true) (fun k => ?_) (Ev.now _)
            simp only [spec_suGood.l1]
            rw [if_neg (by omega)]
          · refine Ev.step (fun k => by simp only [spec_suGood.l1, rd_eq (fun d => (getD_eq ims i hi d).trans (getD_eq ims i hi 0).symm), Int.toNat_natCast]; rfl) (Ev.ifp (by omega) (Ev.ifp (by omega) (Ev.ifp (by omega) (Ev.ifp (by omega) ?_))))
            exact Ev.bind (l1Has_ev _ _ (by rw [List.length_take]; omega)) (Ev.ifp (by simpa using hq) (Ev.now _))
          · refine Ev.step (fun k => by simp only [spec_suGood.l1, rd_eq (fun d => (getD_eq ims i hi d).trans (getD_eq ims i hi 0).symm), Int.toNat_natCast]; rfl) (Ev.ifp (by omega) (Ev.ifp (by omega) (Ev.ifp (by omega) (Ev.ifp (by omega) ?_))))
            refine Ev.bind (l1Has_ev _ _ (by rw [List.length_take]; omega)) (Ev.ifn (by simpa using hq) ?_)
            rw [w64n i (by omega)]
            exact hr
        have first := all_range os.length (fun i => okOp ims (os.getD i ByteArray.empty) && !hasS (os.take i) (os.getD i ByteArray.empty)) (difI ims) (fun k i => spec_suGood.l0 k os os.length i os ims) (by
          refine Ev.step (fun k => ?_) last
          simp only [spec_suGood.l0]
          rw [if_neg (by omega)]) (fun i hlt hq => by
          have hx : rdOf ByteArray.empty os i = os.getD i ByteArray.empty := rdOf_eq (fun d => (getD_eq os i hlt d).trans (getD_eq os i hlt ByteArray.empty).symm)
          obtain ⟨s, es⟩ : ∃ s, s = os.getD i ByteArray.empty := ⟨_, rfl⟩
          rw [← es] at hx hq
          refine Ev.step (fun k => by simp only [spec_suGood.l0, hx, Int.toNat_natCast]; rfl) (Ev.ifp (by omega) (Ev.ifp (by omega) (Ev.ifp (by omega) (Ev.bind (shape_ev _) ?_))))
          rw [shape_ok _ (cls_le _)]
          by_cases h8 : cls s = 8
          · exact Ev.ifn (by simpa using h8) (Ev.now _)
          refine Ev.ifp (by simpa using h8) (Ev.ifp (by omega) (Ev.bind (l1HasS_ev _ _ (by rw [List.length_take]; omega)) ?_))
          cases hh : hasS (os.take i) s
          · refine Ev.ifn (by decide) (Ev.bind (cdImm_ev _) ?_)
            rw [hh] at hq
            cases hm : immC (cls s)
            · simp [okOp, h8, hm] at hq
            · refine Ev.ifp rfl (Ev.bind (l1All_ev ims _ _ hi) (Ev.ifn ?_ (Ev.now _)))
              simpa [okOp, h8, hm, inB] using hq
          · exact Ev.ifp rfl (Ev.now _)) (fun i r hlt hq hr => by
          have hx : rdOf ByteArray.empty os i = os.getD i ByteArray.empty := rdOf_eq (fun d => (getD_eq os i hlt d).trans (getD_eq os i hlt ByteArray.empty).symm)
          obtain ⟨s, es⟩ : ∃ s, s = os.getD i ByteArray.empty := ⟨_, rfl⟩
          rw [← es] at hx hq
          simp only [okOp, Bool.and_eq_true, decide_eq_true_eq, Bool.not_eq_true', Bool.or_eq_true] at hq
          refine Ev.step (fun k => by simp only [spec_suGood.l0, hx, Int.toNat_natCast]; rfl) (Ev.ifp (by omega) (Ev.ifp (by omega) (Ev.ifp (by omega) (Ev.bind (shape_ev _) ?_))))
          rw [shape_ok _ (cls_le _)]
          refine Ev.ifp (by simpa using hq.1.1) (Ev.ifp (by omega) (Ev.bind (l1HasS_ev _ _ (by rw [List.length_take]; omega)) ?_))
          refine Ev.ifn (by simp [hq.2]) (Ev.bind (cdImm_ev _) ?_)
          rw [w64n i (by omega)]
          cases hm : immC (cls s)
          · exact Ev.ifn (by decide) hr
          · have := hq.1.2.resolve_left (by simp [hm])
            exact Ev.ifp rfl (Ev.bind (l1All_ev ims _ _ hi) (Ev.ifp this hr)))
        refine ev_eq first ?_
        rw [Bool.eq_iff_iff]
        simp only [difS, Bool.and_eq_true, List.all_eq_true, List.mem_range]
        exact ⟨fun h => ⟨fun i hi => (h.1 i hi).2, h.2, fun i hi => (h.1 i hi).1⟩, fun h => ⟨fun i hi => ⟨h.2.2 i hi, h.1 i hi⟩, h.2.1⟩⟩
    · rw [decide_eq_false h2, Bool.false_and]
      refine Ev.ifp (by omega) (Ev.step (fun k => by simp only [spec_suGood.j0]; rfl) (Ev.ifp (show true = true from rfl) (Ev.now _)))
  · rw [decide_eq_false h1, Bool.false_and]
    exact Ev.ifn (by simp; omega) (Ev.step (fun k => by simp only [spec_suGood.j0]; rfl) (Ev.ifp (show true = true from rfl) (Ev.now _)))
end Go.Proofs.Ytnaafcleafbejaa.PL
end
section
namespace Go.Proofs.Ytnaafcleafbejaa.PL
open Go Go.RowKit Go.Proofs.YtnaafcleafbejaaW.PrintWords Go.Proofs.YtnaafcleafbejaaW.PrintLast Go.Proofs.YtnaafcleafbejaaW.PrintMore Go.Proofs.Ytnaafcleafbejaa.Q
set_option linter.unusedSimpArgs false
set_option linter.unusedVariables false
theorem flatMap_len {α β : Type} (xs : List α) (g : α → List β) (c : Nat) (h : ∀ x ∈ xs, (g x).length ≤ c) : (xs.flatMap g).length ≤ xs.length * c := by
  induction xs with
  | nil => simp
  | cons x xs ih =>
    rw [List.flatMap_cons, List.length_append, List.length_cons]
    have a := h x (by simp)
    have b := ih (fun y hy => h y (List.mem_cons_of_mem _ hy))
    rw [Nat.succ_mul]
    omega
def regsM (u : Bool) (n : Nat) : List Int := if u = true then marksN n 0 else [0]
def imsM (c : Nat) (ims : List Int) : List Int := if immC c = true then ims else [0]
def stepsOp (ims : List Int) (t : Nat) (s : ByteArray) : List Instr := (regsM (shapeC (cls s)).2.1 (2 + t)).flatMap fun a => (regsM (shapeC (cls s)).2.2.1 (2 + t)).flatMap fun b => (imsM (cls s) ims).flatMap fun m => [⟨s, ((2 + t : Nat) : Int), a, b, m⟩]
def stepsM (os : List ByteArray) (ims : List Int) (t : Nat) : List Instr := os.flatMap (stepsOp ims t)
theorem regsM_len (u : Bool) (n : Nat) (h : 1 ≤ n) : (regsM u n).length ≤ n := by
  unfold regsM
  split
  · rw [marksN_len]; exact Nat.le_refl _
  · simpa using h
theorem stepsOp_len (ims : List Int) (t : Nat) (s : ByteArray) (h : ims.length ≤ 2) (ht : t ≤ 3) : (stepsOp ims t s).length ≤ 50 := by
  have hi : (imsM (cls s) ims).length ≤ 2 := by
    unfold imsM
    split
    · exact h
    · simp
  have a := regsM_len (shapeC (cls s)).2.1 (2 + t) (by omega)
  have b := regsM_len (shapeC (cls s)).2.2.1 (2 + t) (by omega)
  have e1 : ∀ x y : Int, ((imsM (cls s) ims).flatMap fun m => [(⟨s, ((2 + t : Nat) : Int), x, y, m⟩ : Instr)]).length ≤ 2 := fun x y => by
    have := flatMap_len (imsM (cls s) ims) (fun m => [(⟨s, ((2 + t : Nat) : Int), x, y, m⟩ : Instr)]) 1 (by simp)
    omega
  have e2 : ∀ x : Int, ((regsM (shapeC (cls s)).2.2.1 (2 + t)).flatMap fun y => (imsM (cls s) ims).flatMap fun m => [(⟨s, ((2 + t : Nat) : Int), x, y, m⟩ : Instr)]).length ≤ 10 := fun x => by
    have := flatMap_len (regsM (shapeC (cls s)).2.2.1 (2 + t)) (fun y => (imsM (cls s) ims).flatMap fun m => [(⟨s, ((2 + t : Nat) : Int), x, y, m⟩ : Instr)]) 2 (fun y _ => e1 x y)
    omega
  have := flatMap_len (regsM (shapeC (cls s)).2.1 (2 + t)) _ 10 (fun x _ => e2 x)
  unfold stepsOp
  omega
theorem stepsM_len (os : List ByteArray) (ims : List Int) (t : Nat) (ho : os.length ≤ 4) (h : ims.length ≤ 2) (ht : t ≤ 3) : (stepsM os ims t).length ≤ 200 := by
  have := flatMap_len os (stepsOp ims t) 50 (fun s _ => stepsOp_len ims t s h ht)
  unfold stepsM
  omega
theorem regs_ev (u : Bool) (n : Nat) (hn : n ≤ 1048576) : Ev (fun k => impl_upTo.f k u (n : Int)) (regsM u n) := by
  have key : ∀ (d : Nat) (xs : List Int) (b : Nat), xs.length + d ≤ 1048576 → b + d = n → Ev (fun k => impl_upTo.l0 k xs n b) (xs ++ marksN d b) := by
    intro d
    induction d with
    | zero =>
      intro xs b h h'
      refine Ev.step (f := fun _ => some xs) (fun k => ?_) (Ev.some (by simp [marksN]))
      simp only [impl_upTo.l0]
      rw [if_neg (by omega)]
    | succ d ih =>
      intro xs b h h'
      refine Ev.step (fun k => ?_) (ev_eq (ih (xs ++ [(b : Int)]) (b + 1) (by simp; omega) (by omega)) (by simp [marksN]))
      simp only [impl_upTo.l0]
      rw [if_pos (by omega), if_pos (by omega), w64n _ (by omega)]
  unfold impl_upTo.f regsM
  cases u
  · exact Ev.ifn (by decide) (Ev.now _)
  · exact Ev.ifp rfl (by simpa using key n [] 0 (by simpa using hn) (by omega))
theorem suRegs_ev (u : Bool) (t : Nat) (ht : t ≤ 1000) : Ev (fun k => spec_suRegs.f k u (t : Int)) (regsM u (2 + t)) := by
  have e2 : wrap64 (2 + (t : Int)) = ((2 + t : Nat) : Int) := by rw [w64 (by omega) (by omega)]; omega
  unfold spec_suRegs.f regsM
  cases u
  · refine Ev.step (f := fun _ => some [0]) (fun k => ?_) (Ev.now _)
    simp only [spec_suRegs.l0]
    rw [if_neg (by decide)]
  have key : ∀ (d : Nat) (xs : List Int) (b : Nat), xs.length + d ≤ 1048576 → b + d = 2 + t → Ev (fun k => spec_suRegs.l0 k true (t : Int) xs b) (xs ++ marksN d b) := by
    intro d
    induction d with
    | zero =>
      intro xs b h h'
      refine Ev.step (f := fun _ => some xs) (fun k => ?_) (Ev.some (by simp [marksN]))
      simp only [spec_suRegs.l0, e2]
      rw [if_pos trivial, if_neg (by omega)]
    | succ d ih =>
      intro xs b h h'
      refine Ev.step (fun k => ?_) (ev_eq (ih (xs ++ [(b : Int)]) (b + 1) (by simp; omega) (by omega)) (by simp [marksN]))
      simp only [spec_suRegs.l0, e2]
      rw [if_pos trivial, if_pos (by omega), if_pos (by omega), w64n _ (by omega)]
  have := key (1 + t) [0] 1 (by simp; omega) (by omega)
  refine ev_eq this ?_
  rw [if_pos rfl, show 2 + t = (1 + t) + 1 by omega]
  rfl
theorem suImms_ev (os : List ByteArray) (ims : List Int) (s : ByteArray) : Ev (fun k => spec_suImms.f k os ims s) (imsM (cls s) ims) := by
  unfold spec_suImms.f imsM
  refine Ev.bind (cdImm_ev s) ?_
  cases immC (cls s)
  · exact Ev.ifn (by decide) (Ev.now _)
  · exact Ev.ifp rfl (Ev.now _)
theorem steps_ev (os : List ByteArray) (ims : List Int) (t : Nat) (ho : os.length ≤ 4) (hi : ims.length ≤ 2) (ht : t ≤ 3) (hc : ∀ s ∈ os, cls s ≠ 8) : Ev (fun k => impl_steps.f k os ims t) (stepsM os ims t) := by
  have e2 : wrap64 (2 + (t : Int)) = ((2 + t : Nat) : Int) := by rw [w64 (by omega) (by omega)]; omega
  unfold impl_steps.f stepsM
  have hb := stepsM_len os ims t ho hi ht
  unfold stepsM at hb
  refine ev_eq (loop_app os (stepsOp ims t) 200 (fun k x i => impl_steps.l0 k t x os os.length i os ims) [] (fun s hs => ?_) (fun i x5 s U hio hx hN H => ?_) [] (by simpa using hb)) (by simp)
  · refine Ev.step (f := fun _ => some s) (fun k => ?_) (Ev.some (by simp))
    simp only [impl_steps.l0]
    rw [if_neg (by omega)]
  have hcl := cls_le s
  have h8 := hc s (mem_of_getD hio hx)
  refine Ev.step (fun k => by simp only [impl_steps.l0, rdOf_eq (d0 := ByteArray.empty) hx, formOf_eq, impl_form_imm.f, Option.bind_some, form_imm _ s hcl h8]; rfl) (Ev.ifp (by omega) (Ev.ifp (by omega) (Ev.ifp (by omega) ?_)))
  have body : Ev (fun k => impl_steps.j1 k t x5 s (imsM (cls s) ims) os os.length i os ims (formC (cls s) s).1 (formC (cls s) s).2.1 (formC (cls s) s).2.2.1 (formC (cls s) s).2.2.2.1 (formC (cls s) s).2.2.2.2.1 (formC (cls s) s).2.2.2.2.2.1) (x5 ++ (stepsOp ims t s ++ U)) := by
    have r1 := regs_ev (formC (cls s) s).1 (2 + t) (by omega)
    have r2 := regs_ev (formC (cls s) s).2.1 (2 + t) (by omega)
    have l1 := regsM_len (formC (cls s) s).1 (2 + t) (by omega)
    have l2 := regsM_len (formC (cls s) s).2.1 (2 + t) (by omega)
    have l3 : (imsM (cls s) ims).length ≤ 2 := by
      unfold imsM
      split
      · exact hi
      · simp
    unfold stepsOp at hN ⊢
    rw [← form_u1 _ s hcl, ← form_u2 _ s hcl] at hN ⊢
    refine Ev.step (fun k => by simp only [impl_steps.j1, e2]; rfl) (Ev.bind r1 ?_)
    generalize imsM (cls s) ims = M at *
    generalize regsM (formC (cls s) s).1 (2 + t) = A at *
    generalize regsM (formC (cls s) s).2.1 (2 + t) = B at *
    generalize (formC (cls s) s) = F at *
    refine loop_app A _ 200 (fun k x j => impl_steps.l1 k t x s M os os.length i A A.length j os ims F.1 F.2.1 F.2.2.1 F.2.2.2.1 F.2.2.2.2.1 F.2.2.2.2.2.1) U (fun x hs => ?_) (fun j x5 a U' hj hxa hN' H' => ?_) x5 hN
    · refine Ev.step (fun k => ?_) (H x hs)
      simp only [impl_steps.l1]
      rw [if_neg (by omega), w64n i (by omega)]
    refine Ev.step (fun k => by simp only [impl_steps.l1, rd_eq hxa, e2]; rfl) (Ev.ifp (by omega) (Ev.ifp (by omega) (Ev.ifp (by omega) (Ev.bind r2 ?_))))
    refine loop_app B _ 200 (fun k x q => impl_steps.l2 k t x s M a os os.length i A A.length j B B.length q os ims F.1 F.2.1 F.2.2.1 F.2.2.2.1 F.2.2.2.2.1 F.2.2.2.2.2.1) U' (fun x hs => ?_) (fun q x5 b U2 hq hxb hN2 H2 => ?_) x5 hN'
    · refine Ev.step (fun k => ?_) (H' x hs)
      simp only [impl_steps.l2]
      rw [if_neg (by omega), w64n j (by omega)]
    refine Ev.step (fun k => by simp only [impl_steps.l2, rd_eq hxb]; rfl) (Ev.ifp (by omega) (Ev.ifp (by omega) (Ev.ifp (by omega) ?_)))
    refine loop_app M _ 200 (fun k x p => impl_steps.l3 k t x s M a b os os.length i A A.length j B B.length q M M.length p os ims F.1 F.2.1 F.2.2.1 F.2.2.2.1 F.2.2.2.2.1 F.2.2.2.2.2.1) U2 (fun x hs => ?_) (fun p x5 m U3 hp hxm hN3 H3 => ?_) x5 hN2
    · refine Ev.step (fun k => ?_) (H2 x hs)
      simp only [impl_steps.l3]
      rw [if_neg (by omega), w64n q (by omega)]
    have hlen : x5.length < 2932031007402 := by
      rw [List.length_append] at hN3
      omega
    have := H3 (x5 ++ [⟨s, ((2 + t : Nat) : Int), a, b, m⟩]) (by rw [List.append_assoc]; exact hN3)
    rw [List.append_assoc] at this
    refine Ev.step (fun k => ?_) this
    simp only [impl_steps.l3, rd_eq hxm, e2]
    rw [if_pos (by omega), if_pos (by omega), if_pos (by omega), if_pos hlen, w64n p (by omega)]
  unfold imsM at body
  cases h : immC (cls s)
  · rw [h] at body
    exact Ev.ifn (by decide) (by simpa using body)
  · rw [h] at body
    exact Ev.ifp rfl (by simpa using body)
theorem suSteps_ev (os : List ByteArray) (ims : List Int) (t : Nat) (ho : os.length ≤ 4) (hi : ims.length ≤ 2) (ht : t ≤ 3) : Ev (fun k => spec_suSteps.f k os ims t) (stepsM os ims t) := by
  have e2 : wrap64 (2 + (t : Int)) = ((2 + t : Nat) : Int) := by rw [w64 (by omega) (by omega)]; omega
  unfold spec_suSteps.f stepsM
  have hb := stepsM_len os ims t ho hi ht
  unfold stepsM at hb
  refine ev_eq (loop_app os (stepsOp ims t) 200 (fun k x i => spec_suSteps.l0 k t x os os.length i os ims) [] (fun s hs => ?_) (fun i x5 s U hio hx hN H => ?_) [] (by simpa using hb)) (by simp)
  · refine Ev.step (f := fun _ => some s) (fun k => ?_) (Ev.some (by simp))
    simp only [spec_suSteps.l0]
    rw [if_neg (by omega)]
  refine Ev.step (fun k => by simp only [spec_suSteps.l0, rdOf_eq (d0 := ByteArray.empty) hx]; rfl) (Ev.ifp (by omega) (Ev.ifp (by omega) (Ev.ifp (by omega) (Ev.bind (shape_ev s) ?_))))
  have r1 := suRegs_ev (shapeC (cls s)).2.1 t (by omega)
  have r2 := suRegs_ev (shapeC (cls s)).2.2.1 t (by omega)
  have r3 := suImms_ev os ims s
  have l1 := regsM_len (shapeC (cls s)).2.1 (2 + t) (by omega)
  have l2 := regsM_len (shapeC (cls s)).2.2.1 (2 + t) (by omega)
  have l3 : (imsM (cls s) ims).length ≤ 2 := by
    unfold imsM
    split
    · exact hi
    · simp
  unfold stepsOp at hN ⊢
  refine Ev.bind r1 ?_
  generalize imsM (cls s) ims = M at *
  generalize regsM (shapeC (cls s)).2.1 (2 + t) = A at *
  generalize regsM (shapeC (cls s)).2.2.1 (2 + t) = B at *
  generalize (shapeC (cls s)).2.2.1 = F at *
  refine loop_app A _ 200 (fun k x j => spec_suSteps.l1 k t x s F os os.length i A A.length j os ims) U (fun x hs => ?_) (fun j x5 a U' hj hxa hN' H' => ?_) x5 hN
  · refine Ev.step (fun k => ?_) (H x hs)
    simp only [spec_suSteps.l1]
    rw [if_neg (by omega), w64n i (by omega)]
  refine Ev.step (fun k => by simp only [spec_suSteps.l1, rd_eq hxa]; rfl) (Ev.ifp (by omega) (Ev.ifp (by omega) (Ev.ifp (by omega) (Ev.bind r2 ?_))))
  refine loop_app B _ 200 (fun k x q => spec_suSteps.l2 k t x s F a os os.length i A A.length j B B.length q os ims) U' (fun x hs => ?_) (fun q x5 b U2 hq hxb hN2 H2 => ?_) x5 hN'
  · refine Ev.step (fun k => ?_) (H' x hs)
    simp only [spec_suSteps.l2]
    rw [if_neg (by omega), w64n j (by omega)]
  refine Ev.step (fun k => by simp only [spec_suSteps.l2, rd_eq hxb]; rfl) (Ev.ifp (by omega) (Ev.ifp (by omega) (Ev.ifp (by omega) (Ev.bind r3 ?_))))
  refine loop_app M _ 200 (fun k x p => spec_suSteps.l3 k t x s F a b os os.length i A A.length j B B.length q M M.length p os ims) U2 (fun x hs => ?_) (fun p x5 m U3 hp hxm hN3 H3 => ?_) x5 hN2
  · refine Ev.step (fun k => ?_) (H2 x hs)
    simp only [spec_suSteps.l3]
    rw [if_neg (by omega), w64n q (by omega)]
  have hlen : x5.length < 2932031007402 := by
    rw [List.length_append] at hN3
    omega
  have := H3 (x5 ++ [⟨s, ((2 + t : Nat) : Int), a, b, m⟩]) (by rw [List.append_assoc]; exact hN3)
  rw [List.append_assoc] at this
  refine Ev.step (fun k => ?_) this
  simp only [spec_suSteps.l3, rd_eq hxm, e2]
  rw [if_pos (by omega), if_pos (by omega), if_pos (by omega), if_pos hlen, w64n p (by omega)]
theorem okChoice_of {os : List ByteArray} {ims : List Int} (h : okChoice os ims = true) : os.length ≤ 4 ∧ ims.length ≤ 2 ∧ ∀ s ∈ os, cls s ≠ 8 := by
  unfold okChoice at h
  simp only [Bool.and_eq_true, decide_eq_true_eq, List.all_eq_true (l := List.range os.length), List.mem_range, okOp] at h
  refine ⟨h.1.2, h.2.1, fun s hs => ?_⟩
  obtain ⟨i, hi, rfl⟩ := List.getElem_of_mem hs
  have := (h.2.2.2.2.2 i hi).1
  rw [getD_eq os i hi] at this
  exact this
end Go.Proofs.Ytnaafcleafbejaa.PL
end
section
namespace Go.Proofs.Ytnaafcleafbejaa.PL
open Go Go.RowKit Go.Proofs.YtnaafcleafbejaaW.PrintWords Go.Proofs.YtnaafcleafbejaaW.PrintLast Go.Proofs.YtnaafcleafbejaaW.PrintMore Go.Proofs.Ytnaafcleafbejaa.Q
set_option linter.unusedSimpArgs false
set_option linter.unusedVariables false
theorem rdI_getD (l : List Instr) (i : Nat) (h : i < l.length) : rd_T64 l i = l.getD i z64 := rdI_eq (fun d => (getD_eq l i h d).trans (getD_eq l i h _).symm)
end Go.Proofs.Ytnaafcleafbejaa.PL
end
section
namespace Go.Proofs.Ytnaafcleafbejaa.PL
open Go Go.RowKit Go.Proofs.YtnaafcleafbejaaW.PrintWords Go.Proofs.YtnaafcleafbejaaW.PrintLast Go.Proofs.YtnaafcleafbejaaW.PrintMore Go.Proofs.Ytnaafcleafbejaa.Q
set_option linter.unusedSimpArgs false
set_option linter.unusedVariables false
theorem and63_eq (n : Int) : bits .and .i64 n 63 = n % 64 := by
  have h63 : (BitVec.ofInt 64 63).toNat = 2 ^ 6 - 1 := by decide
  have key : (BitVec.ofInt 64 n &&& BitVec.ofInt 64 63).toNat = (n % ((2 ^ 64 : Nat) : Int)).toNat % 2 ^ 6 := by
    rw [BitVec.toNat_and, BitVec.toNat_ofInt, h63, Nat.and_two_pow_sub_one_eq_mod]
  show IntKind.i64.wrap ((BitVec.ofInt 64 n &&& BitVec.ofInt 64 63).toNat : Nat) = n % 64
  rw [key, IntKind.wrap_i64]
  omega
def okV (v : Int) : Prop := 0 ≤ v ∧ v ≤ 63
theorem okV_and (n : Int) : okV (bits .and .i64 n 63) := by
  rw [and63_eq]
  unfold okV
  omega
theorem bit_eq (b : Bool) : impl_bit.f b = some (if b = true then 1 else 0) := by
  cases b <;> rfl
theorem apply_eq (s : ByteArray) (a b : Int) : impl_apply.f s a b = spec_exApply.f s a b := by
  unfold impl_apply.f spec_exApply.f
  simp only [bit_eq, Option.bind_some]
  repeat refine ite_congr rfl (fun _ => rfl) (fun _ => ?_)
  refine ite_congr rfl (fun _ => ?_) (fun _ => ite_congr rfl (fun _ => ?_) (fun _ => rfl))
  · by_cases h : a < b
    · rw [if_pos h, if_pos (by simpa using h)]
    · rw [if_neg h, if_neg (by simpa using h)]
  · by_cases h : a = b
    · rw [if_pos h, if_pos (by simpa using h)]
    · rw [if_neg h, if_neg (by simpa using h)]
theorem ex_ite {c : Prop} [Decidable c] {x y : Option Int} {P : Int → Prop} (hx : ∃ v, x = some v ∧ P v) (hy : ∃ v, y = some v ∧ P v) : ∃ v, (if c then x else y) = some v ∧ P v := by
  by_cases h : c
  · rw [if_pos h]; exact hx
  · rw [if_neg h]; exact hy
theorem exApply_ok (s : ByteArray) (a b : Int) (hb : 0 ≤ b) : ∃ v, spec_exApply.f s a b = some v ∧ okV v := by
  unfold spec_exApply.f
  rw [if_pos hb, if_pos hb]
  repeat' refine ex_ite ?_ ?_
  all_goals exact ⟨_, rfl, okV_and _⟩
def okS (s : List Int) : Prop := s.length = 6 ∧ ∀ v ∈ s, okV v
theorem okS_rd {s : List Int} (h : okS s) {i : Int} (h0 : 0 ≤ i) (h1 : i ≤ 5) : okV (rd s i) := by
  have hi : i.toNat < s.length := by rw [h.1]; omega
  unfold rd
  rw [getD_eq s _ hi]
  exact h.2 _ (List.getElem_mem hi)
theorem okS_set {s : List Int} (h : okS s) (i : Nat) {v : Int} (hv : okV v) : okS (s.set i v) := by
  refine ⟨by rw [List.length_set]; exact h.1, fun u hu => ?_⟩
  rcases List.mem_or_eq_of_mem_set hu with hu | rfl
  · exact h.2 u hu
  · exact hv
theorem okI_regs {x : Instr} (h : okI x) : 0 ≤ x.f1 ∧ x.f1 ≤ 5 ∧ 0 ≤ x.f2 ∧ x.f2 ≤ 5 ∧ 0 ≤ x.f3 ∧ x.f3 ≤ 5 ∧ 0 ≤ x.f4 ∧ x.f4 ≤ 63 := by
  obtain ⟨hc, h1, h2, h3, h4⟩ := h
  rcases cls_cases x.f0 with e | e | e | e | e | e | e | e | e <;> simp only [e, shapeC] at h2 h3 h4 <;> simp at h2 h3 h4 <;> first | omega | exact absurd e hc
theorem value_ok (x : Instr) (s : List Int) (h : okI x) (hs : okS s) : ∃ v, spec_cdValue.f x.f0 x.f1 x.f2 x.f3 x.f4 s = some v ∧ okV v := by
  obtain ⟨h1, h1', h2, h2', h3, h3', h4, h4'⟩ := okI_regs h
  have hl := hs.1
  have ha := okS_rd hs h2 h2'
  have hb := okS_rd hs h3 h3'
  unfold spec_cdValue.f
  rw [if_pos h2, if_pos (by omega), if_pos h3, if_pos (by omega)]
  have one : ∀ t a b, 0 ≤ b → ∃ v, ((spec_exApply.f t a b).bind fun v => some v) = some v ∧ okV v := fun t a b hb => by
    obtain ⟨v, e, hv⟩ := exApply_ok t a b hb
    exact ⟨v, by rw [e]; rfl, hv⟩
  by_cases qset : x.f0.toList = ([115, 101, 116] : List UInt8)
  · rw [if_pos qset]
    exact ⟨_, rfl, h4, h4'⟩
  rw [if_neg qset]
  by_cases qmov : x.f0.toList = ([109, 111, 118] : List UInt8)
  · rw [if_pos qmov]
    exact ⟨_, rfl, ha⟩
  rw [if_neg qmov]
  by_cases qaddi : x.f0.toList = ([97, 100, 100, 105] : List UInt8)
  · rw [if_pos qaddi]
    exact one _ _ _ h4
  rw [if_neg qaddi]
  by_cases qandi : x.f0.toList = ([97, 110, 100, 105] : List UInt8)
  · rw [if_pos qandi]
    exact one _ _ _ h4
  rw [if_neg qandi]
  by_cases qxori : x.f0.toList = ([120, 111, 114, 105] : List UInt8)
  · rw [if_pos qxori]
    exact one _ _ _ h4
  rw [if_neg qxori]
  by_cases qshli : x.f0.toList = ([115, 104, 108, 105] : List UInt8)
  · rw [if_pos qshli]
    exact one _ _ _ h4
  rw [if_neg qshli]
  by_cases qshri : x.f0.toList = ([115, 104, 114, 105] : List UInt8)
  · rw [if_pos qshri]
    exact one _ _ _ h4
  rw [if_neg qshri]
  by_cases qlea : x.f0.toList = ([108, 101, 97] : List UInt8)
  · rw [if_pos qlea]
    obtain ⟨v, e, hv⟩ := exApply_ok (⟨#[115, 104, 108]⟩ : ByteArray) (rd s x.f3) x.f4 h4
    obtain ⟨v', e', hv'⟩ := exApply_ok (⟨#[97, 100, 100]⟩ : ByteArray) (rd s x.f2) v hv.1
    exact ⟨v', by rw [e, Option.bind_some, e']; rfl, hv'⟩
  rw [if_neg qlea]
  exact one _ _ _ hb.1
def valM (x : Instr) (s : List Int) : Int := (spec_cdValue.f x.f0 x.f1 x.f2 x.f3 x.f4 s).getD 0
def stepM (s : List Int) (x : Instr) : List Int := s.set x.f1.toNat (valM x s)
theorem valM_eq (x : Instr) (s : List Int) (h : okI x) (hs : okS s) : spec_cdValue.f x.f0 x.f1 x.f2 x.f3 x.f4 s = some (valM x s) ∧ okV (valM x s) := by
  obtain ⟨v, e, hv⟩ := value_ok x s h hs
  unfold valM
  rw [e]
  exact ⟨rfl, hv⟩
theorem stepM_ok (x : Instr) (s : List Int) (h : okI x) (hs : okS s) : okS (stepM s x) := okS_set hs _ (valM_eq x s h hs).2
theorem cut3 {s : ByteArray} {a b c d : UInt8} (h : s.toList = [a, b, c, d]) : (3 : Int) ≤ (s.size : Int) ∧ s.extract 0 3 = ⟨#[a, b, c]⟩ := by
  have e : s = ⟨#[a, b, c, d]⟩ := str_lit.1 h
  rw [e]
  exact ⟨by show (3 : Int) ≤ ((4 : Nat) : Int); decide, rfl⟩
theorem word_ev (x : Instr) (s : List Int) (h : okI x) (hs : okS s) : Ev (fun k => impl_Instr_word.f k x.f0 x.f1 x.f2 x.f3 x.f4 (rd s x.f2) (rd s x.f3)) (valM x s) := by
  obtain ⟨h1, h1', h2, h2', h3, h3', h4, h4'⟩ := okI_regs h
  have hl := hs.1
  have e := (valM_eq x s h hs).1
  generalize valM x s = v at e
  unfold spec_cdValue.f at e
  rw [if_pos h2, if_pos (by omega), if_pos h3, if_pos (by omega)] at e
  have bs : ∀ (o : Option Int) r, (o.bind fun v => some v) = some r → o = some r := fun o r h => by
    cases o with
    | none => cases h
    | some y => exact h
  unfold impl_Instr_word.f
  by_cases q1 : x.f0.toList = [115, 101, 116]
  · rw [if_pos q1] at e
    exact Ev.ifp q1 (Ev.const e)
  refine Ev.ifn q1 ?_
  rw [if_neg q1] at e
  by_cases q2 : x.f0.toList = [109, 111, 118]
  · rw [if_pos q2] at e
    exact Ev.ifp q2 (Ev.const e)
  refine Ev.ifn q2 ?_
  rw [if_neg q2] at e
  by_cases q3 : x.f0.toList = [108, 101, 97]
  · refine Ev.ifp q3 (Ev.const ?_)
    rw [if_neg (by rw [q3]; decide), if_neg (by rw [q3]; decide), if_neg (by rw [q3]; decide), if_neg (by rw [q3]; decide), if_neg (by rw [q3]; decide), if_pos q3] at e
    simp only [apply_eq]
    exact e
  refine Ev.ifn q3 ?_
  have imm : ∀ a b c d : UInt8, x.f0.toList = [a, b, c, d] → spec_exApply.f ⟨#[a, b, c]⟩ (rd s x.f2) x.f4 = some v → Ev (fun k => impl_Instr_word.j0 k (rd s x.f2) (rd s x.f3) (x.f0.toList == ([a, b, c, d] : List UInt8)) x.f0 x.f1 x.f2 x.f3 x.f4) v := fun a b c d q hv => by
    obtain ⟨hc, hc'⟩ := cut3 q
    refine Ev.step (fun k => by simp only [impl_Instr_word.j0]; rfl) (Ev.ifp (by rw [q]; simp) (Ev.ifp (by decide) (Ev.ifp hc (Ev.const ?_))))
    rw [apply_eq, hc', hv]
    rfl
  by_cases q4 : x.f0.toList = [97, 100, 100, 105]
  · rw [if_pos q4] at e
    exact Ev.ifp q4 (imm _ _ _ _ q4 (bs _ _ e))
  refine Ev.ifn q4 ?_
  rw [if_neg q4] at e
  by_cases q5 : x.f0.toList = [97, 110, 100, 105]
  · rw [if_pos q5] at e
    exact Ev.ifp q5 (imm _ _ _ _ q5 (bs _ _ e))
  refine Ev.ifn q5 ?_
  rw [if_neg q5] at e
  by_cases q6 : x.f0.toList = [120, 111, 114, 105]
  · rw [if_pos q6] at e
    exact Ev.ifp q6 (imm _ _ _ _ q6 (bs _ _ e))
  refine Ev.ifn q6 ?_
  rw [if_neg q6] at e
  by_cases q7 : x.f0.toList = [115, 104, 108, 105]
  · rw [if_pos q7] at e
    exact Ev.ifp q7 (imm _ _ _ _ q7 (bs _ _ e))
  refine Ev.ifn q7 ?_
  rw [if_neg q7] at e
  by_cases q8 : x.f0.toList = [115, 104, 114, 105]
  · rw [if_pos q8] at e
    exact imm _ _ _ _ q8 (bs _ _ e)
  rw [if_neg q8, if_neg q3] at e
  refine Ev.step (fun k => by simp only [impl_Instr_word.j0]; rfl) (Ev.ifn (by simpa using q8) (Ev.const ?_))
  rw [apply_eq, bs _ _ e]
  rfl
def runM (l : List Instr) (s : List Int) : List Int := l.foldl stepM s
theorem runM_ok (l : List Instr) (h : ∀ x ∈ l, okI x) : ∀ s, okS s → okS (runM l s) := by
  induction l with
  | nil => exact fun s hs => hs
  | cons x l ih => exact fun s hs => ih (fun y hy => h y (List.mem_cons_of_mem _ hy)) _ (stepM_ok x s (h x (List.mem_cons_self)) hs)
theorem own_eq (l : List Int) (h : l.length ≤ 1048576) : spec_l1Own.f l = some l := by
  unfold spec_l1Own.f
  rw [Option.bind_some, if_pos (by simp; omega)]
  rfl
theorem cdStep_eq (x : Instr) (s : List Int) (h : okI x) (hs : okS s) : spec_cdStep.f x.f0 x.f1 x.f2 x.f3 x.f4 s = some (stepM s x) := by
  obtain ⟨h1, h1', h2, h2', h3, h3', h4, h4'⟩ := okI_regs h
  have hq := hs.1
  unfold spec_cdStep.f
  rw [own_eq s (by omega), Option.bind_some, (valM_eq x s h hs).1, Option.bind_some, if_pos h1, if_pos (by omega)]
  rfl
theorem cdRun_ev (l : List Instr) (hl : l.length ≤ 40) (h : ∀ x ∈ l, okI x) (s : List Int) (hs : okS s) : Ev (fun k => spec_cdRun.f k l s) (runM l s) := by
  unfold spec_cdRun.f
  refine Ev.call (own_eq s (by rw [hs.1]; decide)) ?_
  have key : ∀ (d i : Nat) (s : List Int), okS s → i + d = l.length → Ev (fun k => spec_cdRun.l0 k s l l.length i) (runM (l.drop i) s) := by
    intro d
    induction d with
    | zero =>
      intro i s hs hi
      refine Ev.step (f := fun _ => some s) (fun k => ?_) (Ev.some ?_)
      · simp only [spec_cdRun.l0]
        rw [if_neg (by omega)]
      · rw [List.drop_of_length_le (by omega)]
        rfl
    | succ d ih =>
      intro i s hs hi
      have hlt : i < l.length := by omega
      have e : l.drop i = l[i] :: l.drop (i + 1) := List.drop_eq_getElem_cons hlt
      have hx := rdI_eq (getD_eq l i hlt)
      have ok := h l[i] (List.getElem_mem hlt)
      rw [e]
      refine Ev.step (fun k => ?_) (ih (i + 1) _ (stepM_ok _ s ok hs) (by omega))
      simp only [spec_cdRun.l0, hx]
      rw [if_pos (by omega), if_pos (by omega), if_pos (by omega), cdStep_eq _ s ok hs, Option.bind_some, w64n i (by omega)]
  simpa using key l.length 0 s hs (by omega)
def st0 (a b : Int) : List Int := [a, b, 0, 0, 0, 0]
theorem st0_ok {a b : Int} (ha : okV a) (hb : okV b) : okS (st0 a b) := by
  refine ⟨rfl, fun v hv => ?_⟩
  have hz : okV 0 := by unfold okV; decide
  simp only [st0, List.mem_cons, List.not_mem_nil, or_false] at hv
  rcases hv with rfl | rfl | rfl | rfl | rfl | rfl <;> assumption
def endM (l : List Instr) (a b : Int) : List Int := runM l (st0 a b)
theorem cdStart_eq (a b : Int) : spec_cdStart.f a b = some (st0 a b) := rfl
end Go.Proofs.Ytnaafcleafbejaa.PL
end
section
namespace Go.Proofs.Ytnaafcleafbejaa.PL
open Go Go.RowKit Go.Proofs.YtnaafcleafbejaaW.PrintWords Go.Proofs.YtnaafcleafbejaaW.PrintLast Go.Proofs.YtnaafcleafbejaaW.PrintMore Go.Proofs.Ytnaafcleafbejaa.Q
set_option linter.unusedSimpArgs false
set_option linter.unusedVariables false
abbrev zN : Instr := z64
theorem mem_marks : ∀ (n a : Nat) (x : Int), x ∈ marksN n a → (a : Int) ≤ x ∧ x < (a : Int) + n
  | 0, _, x, h => by simp [marksN] at h
  | n + 1, a, x, h => by
    unfold marksN at h
    rcases List.mem_cons.1 h with h | h
    · omega
    · have := mem_marks n (a + 1) x h
      omega
theorem mem_regs {u : Bool} {n : Nat} {x : Int} (h : x ∈ regsM u n) (hn : 1 ≤ n) : (0 ≤ x ∧ x < (n : Int)) ∧ (u = true ∨ x = 0) := by
  unfold regsM at h
  split at h
  · rename_i hu
    have := mem_marks n 0 x h
    exact ⟨by omega, .inl hu⟩
  · rw [List.mem_singleton.1 h]
    exact ⟨by omega, .inr rfl⟩
theorem no_imm (c : Nat) (h : immC c = false) : (shapeC c).2.2.2.1 ≤ 0 ∧ 0 ≤ (shapeC c).2.2.2.2 := by
  unfold immC at h
  split at h
  · cases h
  · cases h
  · cases h
  · cases h
  · rename_i h0 h5 h6 h7
    unfold shapeC
    split
    all_goals first | exact ⟨by decide, by decide⟩ | exact absurd rfl h0 | exact absurd rfl h5 | exact absurd rfl h6 | exact absurd rfl h7
def okPI (x : Instr) (t : Nat) : Prop := okI x ∧ x.f1 = ((2 + t : Nat) : Int) ∧ (0 ≤ x.f2 ∧ x.f2 < ((2 + t : Nat) : Int)) ∧ 0 ≤ x.f3 ∧ x.f3 < ((2 + t : Nat) : Int)
theorem step_in {os : List ByteArray} {ims : List Int} {t : Nat} (ho : okChoice os ims = true) (ht : t ≤ 2) {x : Instr} (h : x ∈ stepsM os ims t) : okPI x t := by
  unfold stepsM at h
  obtain ⟨s, hs, h⟩ := List.mem_flatMap.1 h
  unfold stepsOp at h
  obtain ⟨a, ha, h⟩ := List.mem_flatMap.1 h
  obtain ⟨b, hb, h⟩ := List.mem_flatMap.1 h
  obtain ⟨m, hm, h⟩ := List.mem_flatMap.1 h
  obtain rfl := List.mem_singleton.1 h
  obtain ⟨a1, a2⟩ := mem_regs ha (by omega)
  obtain ⟨b1, b2⟩ := mem_regs hb (by omega)
  have hop : okOp ims s = true := by
    unfold okChoice at ho
    simp only [Bool.and_eq_true, List.all_eq_true (l := List.range os.length), List.mem_range] at ho
    obtain ⟨i, hi, rfl⟩ := List.getElem_of_mem hs
    have := ho.2.2.2.2.2 i hi
    rw [getD_eq os i hi] at this
    exact this
  unfold okOp at hop
  rw [Bool.and_eq_true, decide_eq_true_eq] at hop
  refine ⟨⟨hop.1, ⟨by show (0 : Int) ≤ ((2 + t : Nat) : Int); omega, by show ((2 + t : Nat) : Int) ≤ 5; omega⟩, ?_, ?_, ?_⟩, rfl, a1, b1⟩
  · exact a2.elim (fun u => .inl ⟨u, a1.1, by show a ≤ 5; omega⟩) (fun z => .inr z)
  · exact b2.elim (fun u => .inl ⟨u, b1.1, by show b ≤ 5; omega⟩) (fun z => .inr z)
  · show (shapeC (cls s)).2.2.2.1 ≤ m ∧ m ≤ (shapeC (cls s)).2.2.2.2
    unfold imsM at hm
    by_cases hi : immC (cls s) = true
    · rw [if_pos hi] at hm
      have h2 := hop.2
      rw [hi, Bool.not_true, Bool.false_or, List.all_eq_true] at h2
      have := h2 m hm
      unfold inB at this
      exact of_decide_eq_true this
    · rw [if_neg hi] at hm
      rw [List.mem_singleton.1 hm]
      exact no_imm _ (Bool.eq_false_iff.2 hi)
def okP (l : List Instr) : Prop := l.length ≤ 3 ∧ ∀ i, i < l.length → okPI (l.getD i zN) i
theorem okP_all {l : List Instr} (h : okP l) (x : Instr) (hx : x ∈ l) : okI x := by
  obtain ⟨i, hi, rfl⟩ := List.getElem_of_mem hx
  have := (h.2 i hi).1
  rwa [getD_eq l i hi] at this
theorem okP_take {l : List Instr} (h : okP l) (k : Nat) (x : Instr) (hx : x ∈ l.take k) : okI x := okP_all h x (List.mem_of_mem_take hx)
theorem take_next (l : List Instr) (k : Nat) (h : k < l.length) : l.take (k + 1) = l.take k ++ [l.getD k zN] := by
  rw [List.take_succ_eq_append_getElem h, getD_eq l k h]
def atI (l : List Instr) (i : Nat) : List Int := endM l ((i / 64 : Nat) : Int) ((i % 64 : Nat) : Int)
theorem atI_ok (l : List Instr) (h : ∀ x ∈ l, okI x) (i : Nat) (hi : i < 4096) : okS (atI l i) := runM_ok l h _ (st0_ok (by unfold okV; omega) (by unfold okV; omega))
theorem atI_snoc (l : List Instr) (x : Instr) (i : Nat) : atI (l ++ [x]) i = stepM (atI l i) x := by
  unfold atI endM runM
  rw [List.foldl_append]
  rfl
def colN (l : List Instr) (r : Int) (n : Nat) : List Int := (List.range n).map fun i => rd (atI l i) r
theorem colN_len (l : List Instr) (r : Int) (n : Nat) : (colN l r n).length = n := by simp [colN]
theorem colN_at (l : List Instr) (r : Int) (n i : Nat) (h : i < n) : rd (colN l r n) (i : Int) = rd (atI l i) r := rd_eq (fun d => by simp [colN, List.getD, h])
theorem rd_set_ne (s : List Int) (j : Nat) (v : Int) (r : Nat) (h : r ≠ j) : rd (s.set j v) (r : Int) = rd s (r : Int) := by
  unfold rd
  rw [Int.toNat_natCast, List.getD_eq_getElem?_getD, List.getD_eq_getElem?_getD, List.getElem?_set_ne (Ne.symm h)]
theorem rd_set_eq (s : List Int) (j : Nat) (v : Int) (h : j < s.length) : rd (s.set j v) (j : Int) = v := by
  unfold rd
  rw [Int.toNat_natCast, List.getD_eq_getElem?_getD, List.getElem?_set_self h]
  rfl
theorem col_keep {l : List Instr} (h : okP l) (k : Nat) (hk : k < l.length) (r n : Nat) (hr : r < 2 + k) : colN (l.take (k + 1)) r n = colN (l.take k) r n := by
  unfold colN
  refine List.map_congr_left fun i _ => ?_
  rw [take_next l k hk, atI_snoc]
  unfold stepM
  rw [(h.2 k hk).2.1, Int.toNat_natCast, rd_set_ne _ _ _ _ (by omega)]
theorem col_new {l : List Instr} (h : okP l) (k : Nat) (hk : k < l.length) (n : Nat) (hn : n ≤ 4096) : colN (l.take (k + 1)) ((2 + k : Nat) : Int) n = (List.range n).map fun i => valM (l.getD k zN) (atI (l.take k) i) := by
  unfold colN
  refine List.map_congr_left fun i hi => ?_
  have hi' := List.mem_range.1 hi
  rw [take_next l k hk, atI_snoc]
  unfold stepM
  have hs := (atI_ok (l.take k) (okP_take h k) i (by omega)).1
  have := h.1
  rw [(h.2 k hk).2.1, Int.toNat_natCast, rd_set_eq _ _ _ (by omega)]
def cols (l : List Instr) (k : Nat) : List (List Int) := (List.range (2 + k)).map fun r : Nat => colN (l.take k) r 4096
theorem cols_len (l : List Instr) (k : Nat) : (cols l k).length = 2 + k := by simp [cols]
theorem cols_at (l : List Instr) (k r : Nat) (h : r < 2 + k) : rd_L10 (cols l k) (r : Int) = colN (l.take k) r 4096 := by
  unfold rd_L10 cols
  rw [Int.toNat_natCast]
  simp [List.getD, h]
theorem cols_succ {l : List Instr} (h : okP l) (k : Nat) (hk : k < l.length) : cols l (k + 1) = cols l k ++ [(List.range 4096).map fun i => valM (l.getD k zN) (atI (l.take k) i)] := by
  unfold cols
  rw [show 2 + (k + 1) = (2 + k) + 1 by omega, List.range_succ, List.map_append, List.map_singleton, col_new h k hk 4096 (Nat.le_refl _)]
  rw [List.map_congr_left (l := List.range (2 + k)) fun r hr => col_keep h k hk r 4096 (List.mem_range.1 hr)]
theorem wordAt_ev {l : List Instr} (h : okP l) (k : Nat) (x : Instr) (hx : okPI x k) (hk : k ≤ l.length) (i : Nat) (hi : i < 4096) : Ev (fun q => impl_wordAt.f q x.f0 x.f1 x.f2 x.f3 x.f4 (cols l k) (i : Int)) (valM x (atI (l.take k) i)) := by
  obtain ⟨ho, h1, ⟨h2, h2'⟩, h3, h3'⟩ := hx
  have hs := atI_ok (l.take k) (okP_take h k) i hi
  have hl := h.1
  obtain ⟨a, ha⟩ := Int.eq_ofNat_of_zero_le h2
  obtain ⟨b, hb⟩ := Int.eq_ofNat_of_zero_le h3
  have ca : rd_L10 (cols l k) x.f2 = colN (l.take k) x.f2 4096 := by rw [ha]; exact cols_at l k a (by omega)
  have cb : rd_L10 (cols l k) x.f3 = colN (l.take k) x.f3 4096 := by rw [hb]; exact cols_at l k b (by omega)
  have va := okS_rd hs h2 (by omega)
  have vb := okS_rd hs h3 (by omega)
  have hv := (valM_eq x _ ho hs).2
  unfold okV at va vb hv
  unfold impl_wordAt.f
  refine Ev.ifp h2 (Ev.ifp (by rw [cols_len]; omega) (Ev.ifp (by omega) (Ev.ifp (by rw [ca, colN_len]; omega) (Ev.ifp h3 (Ev.ifp (by rw [cols_len]; omega) (Ev.ifp (by rw [cb, colN_len]; omega) ?_))))))
  rw [ca, cb, colN_at _ _ _ _ hi, colN_at _ _ _ _ hi, w64 (by omega) (by omega), w64 (by omega) (by omega)]
  refine Ev.bind (word_ev x _ ho hs) (Ev.some ?_)
  omega
theorem writes_ev {l : List Instr} (h : okP l) (k : Nat) (x : Instr) (hx : okPI x k) (hk : k ≤ l.length) : Ev (fun q => impl_writes.f q x.f0 x.f1 x.f2 x.f3 x.f4 (cols l k)) ((List.range 4096).map fun i => valM x (atI (l.take k) i)) := by
  have key : ∀ (d i : Nat), i + d = 4096 → Ev (fun q => impl_writes.l0 q (cols l k) (((List.range i).map fun i => valM x (atI (l.take k) i)) ++ List.replicate d 0) 4096 i x.f0 x.f1 x.f2 x.f3 x.f4) ((List.range 4096).map fun i => valM x (atI (l.take k) i)) := by
    intro d
    induction d with
    | zero =>
      intro i hi
      obtain rfl : i = 4096 := by omega
      rw [List.replicate_zero, List.append_nil]
      refine Ev.step (f := fun _ => some ((List.range 4096).map fun i => valM x (atI (l.take k) i))) (fun q => ?_) (Ev.now _)
      simp only [impl_writes.l0]
      rw [if_neg (by omega)]
    | succ d ih =>
      intro i hi
      have next := ih (i + 1) (by omega)
      rw [List.range_succ, List.map_append, List.map_singleton] at next
      have hlen : (i : Int) < ((((List.range i).map fun i => valM x (atI (l.take k) i)) ++ List.replicate (d + 1) 0).length : Int) := by
        rw [List.length_append, List.length_replicate, List.length_map, List.length_range]
        omega
      refine Ev.step (fun q => by simp only [impl_writes.l0]; rfl) (Ev.ifp (by omega) (Ev.bind (wordAt_ev h k x hx hk i (by omega)) ?_))
      refine Ev.ifp (Int.natCast_nonneg i) (Ev.ifp hlen ?_)
      have e := set_fill ((List.range i).map fun i => valM x (atI (l.take k) i)) (List.replicate d (0 : Int)) 0 (valM x (atI (l.take k) i))
      rw [List.length_replicate, List.length_map, List.length_range] at e
      rw [Int.toNat_natCast, e, w64n i (by omega)]
      exact next
  unfold impl_writes.f
  refine Ev.ifp (by decide) (Ev.call rfl ?_)
  rw [List.length_replicate]
  exact key 4096 0 (by omega)
theorem isColumn_ev {l : List Instr} (h : okP l) (k : Nat) (x : Instr) (hx : okPI x k) (hk : k ≤ l.length) (g : List Int) (hg : g.length = 4096) : Ev (fun q => impl_isColumn.f q x.f0 x.f1 x.f2 x.f3 x.f4 (cols l k) g) ((List.range 4096).all fun i => decide (valM x (atI (l.take k) i) = rd g i)) := by
  have key : ∀ (d i : Nat), i + d = 4096 → Ev (fun q => impl_isColumn.l0 q (cols l k) g 4096 i x.f0 x.f1 x.f2 x.f3 x.f4) ((List.range' i d).all fun i => decide (valM x (atI (l.take k) i) = rd g i)) := by
    intro d
    induction d with
    | zero =>
      intro i hi
      refine Ev.step (f := fun _ => some true) (fun q => ?_) (Ev.now _)
      simp only [impl_isColumn.l0]
      rw [if_neg (by omega)]
    | succ d ih =>
      intro i hi
      rw [List.range'_succ, List.all_cons]
      refine Ev.step (fun q => by simp only [impl_isColumn.l0]; rfl) (Ev.ifp (by omega) (Ev.ifp (by omega) (Ev.ifp (by omega) (Ev.bind (wordAt_ev h k x hx hk i (by omega)) ?_))))
      by_cases e : valM x (atI (l.take k) i) = rd g i
      · rw [decide_eq_true e, Bool.true_and]
        refine Ev.ifp e ?_
        rw [w64n i (by omega)]
        exact ih (i + 1) (by omega)
      · rw [decide_eq_false e, Bool.false_and]
        exact Ev.ifn e (Ev.now _)
  unfold impl_isColumn.f
  rw [hg]
  have := key 4096 0 (by omega)
  rw [← List.range_eq_range'] at this
  exact this
theorem columnOf_ev (xs : List Int) (hl : xs.length ≤ 1048576) (hv : ∀ v ∈ xs, 0 ≤ v ∧ v ≤ 63) : Ev (fun q => impl_columnOf.f q xs) xs := by
  have key : ∀ (d i : Nat), i + d = xs.length → Ev (fun q => impl_columnOf.l0 q (xs.take i ++ List.replicate d 0) xs xs.length i) xs := by
    intro d
    induction d with
    | zero =>
      intro i hi
      obtain rfl : i = xs.length := by omega
      rw [List.replicate_zero, List.append_nil, List.take_length]
      refine Ev.step (f := fun _ => some xs) (fun q => ?_) (Ev.now _)
      simp only [impl_columnOf.l0]
      rw [if_neg (by omega)]
    | succ d ih =>
      intro i hi
      have hlt : i < xs.length := by omega
      have next := ih (i + 1) (by omega)
      rw [List.take_succ_eq_append_getElem hlt] at next
      have hb := hv _ (List.getElem_mem hlt)
      refine Ev.step (fun q => by simp only [impl_columnOf.l0]; rfl) (Ev.ifp (by omega) (Ev.ifp (by omega) (Ev.ifp (by omega) (Ev.ifp (by rw [List.length_append, List.length_replicate, List.length_take]; omega) ?_))))
      have e := set_fill (xs.take i) (List.replicate d (0 : Int)) 0 xs[i]
      rw [List.length_replicate, List.length_take, Nat.min_eq_left (by omega)] at e
      rw [rd_eq (getD_eq xs i hlt), show xs[i] % 256 = xs[i] by omega, Int.toNat_natCast, e, w64n i (by omega)]
      exact next
  unfold impl_columnOf.f
  refine Ev.ifp (by omega) (Ev.ifp (by rw [Int.toNat_natCast]; omega) ?_)
  rw [Int.toNat_natCast]
  have := key xs.length 0 (by omega)
  simpa using this
def tbN (g : Nat → Nat → Int) (n : Nat) : List Int := (List.range n).map fun i => g (i / 64) (i % 64)
theorem tbN_len (g : Nat → Nat → Int) (n : Nat) : (tbN g n).length = n := by simp [tbN]
theorem tbN_next (g : Nat → Nat → Int) (a b : Nat) (h : b < 64) : tbN g (64 * a + (b + 1)) = tbN g (64 * a + b) ++ [g a b] := by
  unfold tbN
  rw [← Nat.add_assoc, List.range_succ, List.map_append, List.map_singleton, show (64 * a + b) / 64 = a by omega, show (64 * a + b) % 64 = b by omega]
theorem table_ev (g : Nat → Nat → Int) (L0 : Nat → List Int → Int → Option (List Int)) (L1 : Nat → List Int → Int → Int → Int → Option (List Int))
    (h0 : ∀ (a : Nat) xs T, a < 64 → Ev (fun k => L1 k xs a a 0) T → Ev (fun k => L0 k xs a) T) (he : ∀ xs, Ev (fun k => L0 k xs 64) xs)
    (h1 : ∀ (a b : Nat) xs T, a < 64 → b < 64 → xs.length ≤ 4096 → Ev (fun k => L1 k (xs ++ [g a b]) a a ((b + 1 : Nat) : Int)) T → Ev (fun k => L1 k xs a a b) T)
    (h2 : ∀ (a : Nat) xs T, a < 64 → Ev (fun k => L0 k xs ((a + 1 : Nat) : Int)) T → Ev (fun k => L1 k xs a a 64) T) : Ev (fun k => L0 k [] 0) (tbN g 4096) := by
  have row : ∀ (a : Nat), a < 64 → ∀ T, Ev (fun k => L0 k (tbN g (64 * (a + 1))) ((a + 1 : Nat) : Int)) T → ∀ (d b : Nat), b + d = 64 → Ev (fun k => L1 k (tbN g (64 * a + b)) a a b) T := by
    intro a ha T hT d
    induction d with
    | zero =>
      intro b hb
      obtain rfl : b = 64 := by omega
      refine h2 a _ T ha ?_
      rw [show 64 * a + 64 = 64 * (a + 1) by omega]
      exact hT
    | succ d ih =>
      intro b hb
      refine h1 a b _ T ha (by omega) (by rw [tbN_len]; omega) ?_
      rw [← tbN_next g a b (by omega)]
      exact ih (b + 1) (by omega)
  have key : ∀ (d a : Nat), a + d = 64 → Ev (fun k => L0 k (tbN g (64 * a)) a) (tbN g 4096) := by
    intro d
    induction d with
    | zero =>
      intro a ha
      obtain rfl : a = 64 := by omega
      exact he _
    | succ d ih =>
      intro a ha
      have := row a (by omega) _ (ih (a + 1) (by omega)) 64 0 (by omega)
      exact h0 a _ _ (by omega) this
  exact key 64 0 (by omega)
theorem table1_ev : Ev (fun k => impl_table_impl_begun_1.f k) (tbN (fun a _ => (a : Int)) 4096) := by
  unfold impl_table_impl_begun_1.f
  refine table_ev (fun a _ => (a : Int)) impl_table_impl_begun_1.l0 impl_table_impl_begun_1.l1 (fun a xs T ha h => ?_) (fun xs => ?_) (fun a b xs T ha hb hx h => ?_) (fun a xs T ha h => ?_)
  · exact Ev.step (fun k => by simp only [impl_table_impl_begun_1.l0]; rfl) (Ev.ifp (by omega) h)
  · refine Ev.step (f := fun _ => some xs) (fun k => ?_) (Ev.now _)
    simp only [impl_table_impl_begun_1.l0]
    rw [if_neg (by omega)]
  · refine Ev.step (fun k => by simp only [impl_table_impl_begun_1.l1]; rfl) (Ev.ifp (by omega) (Ev.call rfl (Ev.ifp (by omega) ?_)))
    rw [w64n b (by omega)]
    exact h
  · refine Ev.step (fun k => by simp only [impl_table_impl_begun_1.l1]; rfl) (Ev.ifn (by omega) ?_)
    rw [w64n a (by omega)]
    exact h
theorem table2_ev : Ev (fun k => impl_table_impl_begun_2.f k) (tbN (fun _ b => (b : Int)) 4096) := by
  unfold impl_table_impl_begun_2.f
  refine table_ev (fun _ b => (b : Int)) impl_table_impl_begun_2.l0 impl_table_impl_begun_2.l1 (fun a xs T ha h => ?_) (fun xs => ?_) (fun a b xs T ha hb hx h => ?_) (fun a xs T ha h => ?_)
  · exact Ev.step (fun k => by simp only [impl_table_impl_begun_2.l0]; rfl) (Ev.ifp (by omega) h)
  · refine Ev.step (f := fun _ => some xs) (fun k => ?_) (Ev.now _)
    simp only [impl_table_impl_begun_2.l0]
    rw [if_neg (by omega)]
  · refine Ev.step (fun k => by simp only [impl_table_impl_begun_2.l1]; rfl) (Ev.ifp (by omega) (Ev.call rfl (Ev.ifp (by omega) ?_)))
    rw [w64n b (by omega)]
    exact h
  · refine Ev.step (fun k => by simp only [impl_table_impl_begun_2.l1]; rfl) (Ev.ifn (by omega) ?_)
    rw [w64n a (by omega)]
    exact h
theorem begun_ev (l : List Instr) : Ev (fun k => impl_begun.f k) (cols l 0) := by
  have bd : ∀ (g : Nat → Nat → Int), (∀ a b, a < 64 → b < 64 → 0 ≤ g a b ∧ g a b ≤ 63) → ∀ v ∈ tbN g 4096, 0 ≤ v ∧ v ≤ 63 := fun g hg v hv => by
    obtain ⟨i, hi, rfl⟩ := List.mem_map.1 hv
    have := List.mem_range.1 hi
    exact hg _ _ (by omega) (by omega)
  unfold impl_begun.f
  refine Ev.bind table1_ev (Ev.bind (columnOf_ev _ (by rw [tbN_len]; decide) (bd _ (fun a b ha hb => by omega))) (Ev.bind table2_ev (Ev.bind (columnOf_ev _ (by rw [tbN_len]; decide) (bd _ (fun a b ha hb => by omega))) (Ev.some ?_))))
  rfl
end Go.Proofs.Ytnaafcleafbejaa.PL
end
section
namespace Go.Proofs.Ytnaafcleafbejaa.PL
open Go Go.RowKit Go.Proofs.YtnaafcleafbejaaW.PrintWords Go.Proofs.YtnaafcleafbejaaW.PrintLast Go.Proofs.YtnaafcleafbejaaW.PrintMore Go.Proofs.Ytnaafcleafbejaa.Q
set_option linter.unusedSimpArgs false
set_option linter.unusedVariables false
def cntM (os : List ByteArray) (ims : List Int) : Nat → Nat
  | 0 => 1
  | n + 1 => cntM os ims n * (stepsM os ims n).length
theorem cntM_le (os : List ByteArray) (ims : List Int) (ho : os.length ≤ 4) (hi : ims.length ≤ 2) : ∀ n, n ≤ 3 → cntM os ims n ≤ 200 ^ n
  | 0, _ => Nat.le_refl _
  | n + 1, h => by
    have a := cntM_le os ims ho hi n (by omega)
    have b := stepsM_len os ims n ho hi (by omega)
    unfold cntM
    rw [Nat.pow_succ]
    exact Nat.mul_le_mul a b
theorem cntM_le' (os : List ByteArray) (ims : List Int) (ho : os.length ≤ 4) (hi : ims.length ≤ 2) (n : Nat) (h : n ≤ 3) : cntM os ims n ≤ 8000000 := by
  have := cntM_le os ims ho hi n h
  have : 200 ^ n ≤ 200 ^ 3 := Nat.pow_le_pow_right (by decide) h
  omega
theorem cnt_step (os : List ByteArray) (ims : List Int) (ho : os.length ≤ 4) (hi : ims.length ≤ 2) (i : Nat) (h : i < 3) : wrap64 ((cntM os ims i : Int) * ((stepsM os ims i).length : Int)) = (cntM os ims (i + 1) : Nat) := by
  have := cntM_le' os ims ho hi (i + 1) (by omega)
  have e : (cntM os ims i : Int) * ((stepsM os ims i).length : Int) = (cntM os ims (i + 1) : Nat) := by rw [show cntM os ims (i + 1) = cntM os ims i * (stepsM os ims i).length from rfl, Int.natCast_mul]
  rw [e, w64 (by omega) (by omega)]
theorem suCount_ev (os : List ByteArray) (ims : List Int) (h : okChoice os ims = true) (n : Nat) (hn : n ≤ 3) : Ev (fun k => spec_suCount.f k os ims n) (cntM os ims n : Nat) := by
  obtain ⟨ho, hi, hc⟩ := okChoice_of h
  unfold spec_suCount.f
  have key : ∀ (d i : Nat), i + d = n → Ev (fun k => spec_suCount.l0 k n (cntM os ims i : Nat) i os ims) (cntM os ims n : Nat) := by
    intro d
    induction d with
    | zero =>
      intro i hi'
      have e : i = n := by omega
      subst e
      refine Ev.step (f := fun _ => some _) (fun k => ?_) (Ev.now _)
      simp only [spec_suCount.l0]
      rw [if_neg (by omega)]
    | succ d ih =>
      intro i hi'
      refine Ev.step (fun k => by simp only [spec_suCount.l0]; rfl) (Ev.ifp (by omega) (Ev.bind (suSteps_ev os ims i ho hi (by omega)) ?_))
      rw [cnt_step os ims ho hi i (by omega), w64n i (by omega)]
      exact ih (i + 1) (by omega)
  exact key n 0 (by omega)
def progM (os : List ByteArray) (ims : List Int) : Nat → Int → List Instr → List Instr
  | 0, _, acc => acc
  | d + 1, a, acc => progM os ims d (Int.tdiv a ((stepsM os ims d).length : Int)) (acc.set d (rd_T64 (stepsM os ims d) (Int.tmod a ((stepsM os ims d).length : Int))))
theorem cntM_pos {os : List ByteArray} {ims : List Int} : ∀ {n i : Nat}, 0 < cntM os ims n → i < n → 0 < (stepsM os ims i).length
  | 0, i, _, hi => by omega
  | n + 1, i, h, hi => by
    unfold cntM at h
    have h1 : 0 < cntM os ims n := Nat.pos_of_ne_zero fun e => by rw [e, Nat.zero_mul] at h; omega
    have h2 : 0 < (stepsM os ims n).length := Nat.pos_of_ne_zero fun e => by rw [e, Nat.mul_zero] at h; omega
    by_cases e : i = n
    · rw [e]; exact h2
    · exact cntM_pos h1 (by omega)
theorem tm_facts (a : Int) (n : Nat) (h0 : 0 ≤ a) (h1 : a ≤ 8000000) (hn : 0 < n) : 0 ≤ Int.tmod a (n : Int) ∧ Int.tmod a (n : Int) < (n : Int) ∧ 0 ≤ Int.tdiv a (n : Int) ∧ Int.tdiv a (n : Int) ≤ 8000000 := by
  rw [Int.tmod_eq_emod_of_nonneg h0, Int.tdiv_eq_ediv_of_nonneg h0]
  have := Int.emod_nonneg a (show (n : Int) ≠ 0 by omega)
  have := Int.emod_lt_of_pos a (show (0 : Int) < n by omega)
  have := Int.ediv_nonneg h0 (show (0 : Int) ≤ n by omega)
  have := Int.ediv_le_self (n : Int) h0
  omega
theorem suWith_ev (os : List ByteArray) (ims : List Int) (h : okChoice os ims = true) (n : Nat) (hn : n ≤ 3) (a : Int) (h0 : 0 ≤ a) (h1 : a < (cntM os ims n : Nat)) : Ev (fun k => spec_suWith.f k os ims n a) (progM os ims n a (List.replicate n zN)) := by
  obtain ⟨ho', hi', hc⟩ := okChoice_of h
  have hle := cntM_le' os ims ho' hi' n hn
  have hpos : 0 < cntM os ims n := by omega
  unfold spec_suWith.f
  refine Ev.ifp (by omega) (Ev.ifp (by omega) ?_)
  have key : ∀ (d : Nat) (b : Int) (acc : List Instr), d ≤ n → acc.length = n → 0 ≤ b → b ≤ 8000000 → Ev (fun k => spec_suWith.l0 k b acc ((d : Int) - 1) os ims) (progM os ims d b acc) := by
    intro d
    induction d with
    | zero =>
      intro b acc hd hacc hb0 hb1
      refine Ev.step (f := fun _ => some acc) (fun k => ?_) (Ev.now _)
      simp only [spec_suWith.l0]
      rw [if_neg (by omega)]
    | succ d ih =>
      intro b acc hd hacc hb0 hb1
      have hp := cntM_pos hpos (show d < n by omega)
      obtain ⟨f1, f2, f3, f4⟩ := tm_facts b _ hb0 hb1 hp
      rw [show ((d + 1 : Nat) : Int) - 1 = (d : Int) by omega]
      refine Ev.step (fun k => by simp only [spec_suWith.l0]; rfl) (Ev.ifp (by omega) (Ev.bind (suSteps_ev os ims d ho' hi' (by omega)) ?_))
      refine Ev.ifn (by omega) (Ev.ifp f1 (Ev.ifp f2 (Ev.ifp (by omega) (Ev.ifp (by omega) ?_))))
      rw [w64 (by omega) (by omega), w64 (by omega) (by omega), Int.toNat_natCast]
      exact ih _ _ (by omega) (by rw [List.length_set]; exact hacc) f3 f4
  have := key n a (List.replicate n zN) (Nat.le_refl _) List.length_replicate h0 (by omega)
  rw [w64 (by omega) (by omega), Int.toNat_natCast]
  exact this
section
variable (os : List ByteArray) (ims : List Int)
def wthN : Nat → Nat → List Instr
  | 0, _ => []
  | n + 1, a => wthN n (a / (stepsM os ims n).length) ++ [(stepsM os ims n).getD (a % (stepsM os ims n).length) zN]
theorem wthN_len : ∀ n a, (wthN os ims n a).length = n
  | 0, _ => rfl
  | n + 1, a => by unfold wthN; rw [List.length_append, wthN_len n]; rfl
theorem progM_wth : ∀ (d : Nat) (a : Nat) (acc : List Instr), d ≤ acc.length → progM os ims d (a : Int) acc = wthN os ims d a ++ acc.drop d
  | 0, _, _, _ => rfl
  | d + 1, a, acc, h => by
    have e1 : Int.tdiv (a : Int) ((stepsM os ims d).length : Int) = ((a / (stepsM os ims d).length : Nat) : Int) := by
      rw [Int.tdiv_eq_ediv_of_nonneg (by omega)]
      exact (Int.natCast_ediv _ _).symm
    have e2 : Int.tmod (a : Int) ((stepsM os ims d).length : Int) = ((a % (stepsM os ims d).length : Nat) : Int) := by
      rw [Int.tmod_eq_emod_of_nonneg (by omega)]
      exact (Int.natCast_emod _ _).symm
    unfold progM wthN
    rw [e1, e2, progM_wth d _ _ (by rw [List.length_set]; omega), List.append_assoc]
    congr 1
    rw [List.drop_eq_getElem_cons (by rw [List.length_set]; omega), List.getElem_set_self, List.drop_set_of_lt (by omega)]
    unfold rd_T64
    rw [Int.toNat_natCast]
    rfl
theorem progM_all (n a : Nat) : progM os ims n (a : Int) (List.replicate n zN) = wthN os ims n a := by
  rw [progM_wth os ims n a _ (by simp)]
  simp
def compM : Nat → List Instr → List (List Instr)
  | 0, p => [p]
  | d + 1, p => (stepsM os ims p.length).flatMap fun x => compM d (p ++ [x])
theorem compM_in : ∀ (d : Nat) (p l : List Instr), l ∈ compM os ims d p → l.length = p.length + d ∧ l.take p.length = p
  | 0, p, l, h => by
    obtain rfl := List.mem_singleton.1 h
    exact ⟨rfl, List.take_length⟩
  | d + 1, p, l, h => by
    unfold compM at h
    obtain ⟨x, _, hl⟩ := List.mem_flatMap.1 h
    obtain ⟨h1, h2⟩ := compM_in d (p ++ [x]) l hl
    rw [List.length_append, List.length_singleton] at h1 h2
    refine ⟨by omega, ?_⟩
    have := congrArg (List.take p.length) h2
    rwa [List.take_take, Nat.min_eq_left (by omega), List.take_left] at this
theorem compM_snoc : ∀ (d : Nat) (p : List Instr), compM os ims (d + 1) p = (compM os ims d p).flatMap fun q => (stepsM os ims q.length).map fun x => q ++ [x]
  | 0, p => by
    have e : compM os ims 1 p = (stepsM os ims p.length).flatMap fun x => [p ++ [x]] := rfl
    rw [e]
    show _ = List.flatMap _ [p]
    rw [List.flatMap_cons, List.flatMap_nil, List.append_nil]
    induction stepsM os ims p.length with
    | nil => rfl
    | cons x xs ih => rw [List.flatMap_cons, List.map_cons, ih]; rfl
  | d + 1, p => by
    have e : compM os ims (d + 1 + 1) p = (stepsM os ims p.length).flatMap fun x => compM os ims (d + 1) (p ++ [x]) := rfl
    have e' : compM os ims (d + 1) p = (stepsM os ims p.length).flatMap fun x => compM os ims d (p ++ [x]) := rfl
    rw [e, e', List.flatMap_assoc]
    congr 1
    funext x
    exact compM_snoc d (p ++ [x])
theorem range_mul {α : Type} (f : Nat → α) (L : Nat) : ∀ m, (List.range (m * L)).map f = (List.range m).flatMap fun q => (List.range L).map fun r => f (q * L + r)
  | 0 => by simp
  | m + 1 => by
    rw [Nat.succ_mul, List.range_add, List.map_append, range_mul f L m, List.range_succ, List.flatMap_append, List.flatMap_singleton, List.map_map]
    rfl
theorem map_getD_range {α β : Type} (S : List α) (z : α) (f : α → β) : (List.range S.length).map (fun r => f (S.getD r z)) = S.map f := by
  apply List.ext_getElem
  · simp
  · intro i h1 h2
    simp only [List.length_map, List.length_range] at h1 h2
    simp [List.getD, h2]
theorem wth_all : ∀ n, (List.range (cntM os ims n)).map (wthN os ims n) = compM os ims n []
  | 0 => rfl
  | n + 1 => by
    rw [compM_snoc, ← wth_all n, List.flatMap_map]
    show (List.range (cntM os ims n * (stepsM os ims n).length)).map _ = _
    rw [range_mul]
    congr 1
    funext q
    rw [wthN_len, ← map_getD_range (stepsM os ims n) zN]
    refine List.map_congr_left fun r hr => ?_
    have hr' := List.mem_range.1 hr
    have hpos : 0 < (stepsM os ims n).length := by omega
    show wthN os ims n ((q * (stepsM os ims n).length + r) / (stepsM os ims n).length) ++ [(stepsM os ims n).getD ((q * (stepsM os ims n).length + r) % (stepsM os ims n).length) zN] = _
    rw [Nat.mul_comm q, Nat.mul_add_div hpos, Nat.div_eq_of_lt hr', Nat.add_zero, Nat.mul_add_mod, Nat.mod_eq_of_lt hr']
theorem compM_count (n : Nat) : (compM os ims n []).length = cntM os ims n := by rw [← wth_all]; simp
theorem compM_at (n a : Nat) (h : a < cntM os ims n) : (compM os ims n [])[a]? = some (wthN os ims n a) := by rw [← wth_all]; simp [h]
theorem okP_snoc (ho : okChoice os ims = true) {p : List Instr} (h : okP p) (hp : p.length ≤ 2) {x : Instr} (hx : x ∈ stepsM os ims p.length) : okP (p ++ [x]) := by
  refine ⟨by rw [List.length_append, List.length_singleton]; omega, fun i hi => ?_⟩
  rw [List.length_append, List.length_singleton] at hi
  by_cases q : i < p.length
  · have := h.2 i q
    rwa [show (p ++ [x]).getD i zN = p.getD i zN by simp [List.getD, List.getElem?_append_left q]]
  · obtain rfl : i = p.length := by omega
    rw [show (p ++ [x]).getD p.length zN = x by simp [List.getD]]
    exact step_in ho hp hx
theorem okP_nil : okP [] := ⟨by simp, fun i hi => by simp at hi⟩
theorem compM_ok (ho : okChoice os ims = true) : ∀ (d : Nat) (p l : List Instr), p.length + d ≤ 3 → okP p → l ∈ compM os ims d p → okP l
  | 0, p, l, _, h, hl => by
    obtain rfl := List.mem_singleton.1 hl
    exact h
  | d + 1, p, l, hd, h, hl => by
    unfold compM at hl
    obtain ⟨x, hx, hl⟩ := List.mem_flatMap.1 hl
    exact compM_ok ho d (p ++ [x]) l (by rw [List.length_append, List.length_singleton]; omega) (okP_snoc os ims ho h (by omega) hx) hl
end
end Go.Proofs.Ytnaafcleafbejaa.PL
end
section
namespace Go.Proofs.Ytnaafcleafbejaa.PL
open Go Go.RowKit Go.Proofs.YtnaafcleafbejaaW.PrintWords Go.Proofs.YtnaafcleafbejaaW.PrintLast Go.Proofs.YtnaafcleafbejaaW.PrintMore Go.Proofs.Ytnaafcleafbejaa.Q
set_option linter.unusedSimpArgs false
set_option linter.unusedVariables false
def ops6 : List ByteArray := [⟨#[97, 100, 100]⟩, ⟨#[97, 110, 100]⟩, ⟨#[111, 114]⟩, ⟨#[120, 111, 114]⟩, ⟨#[109, 117, 108]⟩, ⟨#[101, 113]⟩]
def turnB (x : Instr) : Bool := hasS ops6 x.f0 && decide (x.f2 > x.f3)
def sameB (l : List Instr) (k r : Nat) : Bool := (List.range 4096).all fun i => decide (valM (l.getD k zN) (atI (l.take k) i) = rd (atI (l.take k) i) (r : Int))
def reasonG (l : List Instr) (k : Nat) (b : Bool) : Bool := ((List.range (2 + k)).any fun r => (!decide (r = 1) || !b) && sameB l k r) || turnB (l.getD k zN)
def reasonB (l : List Instr) (k : Nat) : Bool := reasonG l k (decide (k + 1 = l.length))
def prunedB (l : List Instr) : Bool := (List.range l.length).any (reasonB l)
theorem isTurned_ev (x : Instr) : Ev (fun q => impl_isTurned.f q x.f0 x.f1 x.f2 x.f3 x.f4) (turnB x) := by
  unfold impl_isTurned.f turnB
  refine Ev.bind (containsS_ev ops6 x.f0 (by decide)) ?_
  by_cases h : hasS ops6 x.f0 = true
  · rw [h, Bool.true_and]
    exact Ev.ifp rfl (Ev.now _)
  · rw [Bool.eq_false_iff.2 h, Bool.false_and]
    exact Ev.ifn (by decide) (Ev.now _)
theorem isReasonG_ev {l : List Instr} (h : okP l) (k : Nat) (hk : k < l.length) (b : Bool) : Ev (fun q => impl_isReason.f q (l.getD k zN).f0 (l.getD k zN).f1 (l.getD k zN).f2 (l.getD k zN).f3 (l.getD k zN).f4 (cols l k) b) (reasonG l k b) := by
  have hl := h.1
  have col : ∀ r : Nat, r < 2 + k → Ev (fun q => impl_isColumn.f q (l.getD k zN).f0 (l.getD k zN).f1 (l.getD k zN).f2 (l.getD k zN).f3 (l.getD k zN).f4 (cols l k) (rd_L10 (cols l k) (r : Int))) (sameB l k r) := by
    intro r hr
    rw [cols_at l k r hr]
    refine ev_eq (isColumn_ev h k _ (h.2 k hk) (by omega) _ (colN_len _ _ _)) ?_
    unfold sameB
    rw [Bool.eq_iff_iff, List.all_eq_true, List.all_eq_true]
    constructor
    · intro q i hi
      have := q i hi
      rwa [colN_at _ _ _ _ (List.mem_range.1 hi)] at this
    · intro q i hi
      rw [colN_at _ _ _ _ (List.mem_range.1 hi)]
      exact q i hi
  have key : ∀ (d r : Nat), r + d = 2 + k → Ev (fun q => impl_isReason.l0 q (cols l k) b (cols l k) ((2 + k : Nat) : Int) r (l.getD k zN).f0 (l.getD k zN).f1 (l.getD k zN).f2 (l.getD k zN).f3 (l.getD k zN).f4)
      (((List.range' r d).any fun r => (!decide (r = 1) || !b) && sameB l k r) || turnB (l.getD k zN)) := by
    intro d
    induction d with
    | zero =>
      intro r hr
      refine Ev.step (fun q => by simp only [impl_isReason.l0]; rfl) (Ev.ifn (by omega) (Ev.bind (isTurned_ev _) (Ev.now _)))
    | succ d ih =>
      intro r hr
      have next := ih (r + 1) (by omega)
      rw [List.range'_succ, List.any_cons]
      have body : Ev (fun q => (impl_isColumn.f q (l.getD k zN).f0 (l.getD k zN).f1 (l.getD k zN).f2 (l.getD k zN).f3 (l.getD k zN).f4 (cols l k) (rd_L10 (cols l k) (r : Int))).bind fun t => if t = true then some true else impl_isReason.l0 q (cols l k) b (cols l k) ((2 + k : Nat) : Int) ((r + 1 : Nat) : Int) (l.getD k zN).f0 (l.getD k zN).f1 (l.getD k zN).f2 (l.getD k zN).f3 (l.getD k zN).f4)
          (sameB l k r || (((List.range' (r + 1) d).any fun r => (!decide (r = 1) || !b) && sameB l k r) || turnB (l.getD k zN))) := by
        refine Ev.bind (col r (by omega)) ?_
        by_cases hs : sameB l k r = true
        · rw [hs, Bool.true_or]
          exact Ev.ifp rfl (Ev.now _)
        · rw [Bool.eq_false_iff.2 hs, Bool.false_or]
          exact Ev.ifn (by decide) next
      refine Ev.step (fun q => by simp only [impl_isReason.l0]; rfl) (Ev.ifp (by omega) (Ev.ifp (by omega) (Ev.ifp (by rw [cols_len]; omega) ?_)))
      rw [w64n r (by omega)]
      by_cases h1 : r = 1
      · refine Ev.ifp (by omega) ?_
        rw [decide_eq_true h1, Bool.not_true, Bool.false_or]
        cases b with
        | true =>
          refine Ev.ifp rfl ?_
          rw [Bool.not_true, Bool.false_and, Bool.false_or]
          exact next
        | false =>
          refine Ev.ifn (by decide) (ev_eq body ?_)
          rw [Bool.not_false, Bool.true_and, Bool.or_assoc]
      · refine Ev.ifn (by omega) (ev_eq body ?_)
        rw [decide_eq_false h1, Bool.not_false, Bool.true_or, Bool.true_and, Bool.or_assoc]
  unfold impl_isReason.f reasonG
  rw [cols_len]
  have := key (2 + k) 0 (by omega)
  rw [← List.range_eq_range'] at this
  exact this
theorem suAlike_ev (m : List Instr) (hm : m.length ≤ 40) (ok : ∀ x ∈ m, okI x) (r s : Nat) (hr : r ≤ 5) (hs : s ≤ 5) : Ev (fun k => spec_suAlike.f k m (r : Int) (s : Int)) ((List.range 4096).all fun i => decide (rd (atI m i) (r : Int) = rd (atI m i) (s : Int))) := by
  have hb : ∀ a b : Nat, a < 64 → b < 64 → okS (st0 a b) := fun a b ha hb => st0_ok (by unfold okV; omega) (by unfold okV; omega)
  let p := fun a b : Nat => decide (rd (runM m (st0 (((a + 37) % 64 : Nat) : Int) (((b + 22) % 64 : Nat) : Int))) (r : Int) = rd (runM m (st0 (((a + 37) % 64 : Nat) : Int) (((b + 22) % 64 : Nat) : Int))) (s : Int))
  have row : ∀ (a : Nat), a < 64 → ∀ (rest : Bool), Ev (fun k => spec_suAlike.l0 k m (r : Int) (s : Int) ((a + 1 : Nat) : Int)) rest → ∀ (e b : Nat), b + e = 64 → Ev (fun k => spec_suAlike.l1 k m (r : Int) (s : Int) a b) (((List.range' b e).all (p a)) && rest) := by
    intro a ha rest hrest e
    induction e with
    | zero =>
      intro b hb
      refine Ev.step (fun k => by simp only [spec_suAlike.l1]; rfl) (Ev.ifn (by omega) ?_)
      rw [w64n a (by omega)]
      exact hrest
    | succ e ih =>
      intro b hbe
      rw [List.range'_succ, List.all_cons, Bool.and_assoc]
      have next := ih (b + 1) (by omega)
      have h0 := hb ((a + 37) % 64) ((b + 22) % 64) (by omega) (by omega)
      have hk := (runM_ok m ok _ h0).1
      refine Ev.step (fun k => by simp only [spec_suAlike.l1]; rfl) (Ev.ifp (by omega) ?_)
      rw [w64 (x := (a : Int) + 37) (by omega) (by omega), w64 (x := (b : Int) + 22) (by omega) (by omega), w64n b (by omega),
        show Int.tmod ((a : Int) + 37) 64 = (((a + 37) % 64 : Nat) : Int) by rw [Int.tmod_eq_emod_of_nonneg (by omega)]; omega,
        show Int.tmod ((b : Int) + 22) 64 = (((b + 22) % 64 : Nat) : Int) by rw [Int.tmod_eq_emod_of_nonneg (by omega)]; omega]
      refine Ev.call (cdStart_eq _ _) (Ev.bind (cdRun_ev m hm ok _ h0) (Ev.ifp (by omega) (Ev.ifp (by omega) (Ev.ifp (by omega) (Ev.ifp (by omega) ?_)))))
      by_cases he : rd (runM m (st0 (((a + 37) % 64 : Nat) : Int) (((b + 22) % 64 : Nat) : Int))) (r : Int) = rd (runM m (st0 (((a + 37) % 64 : Nat) : Int) (((b + 22) % 64 : Nat) : Int))) (s : Int)
      · rw [show p a b = true from decide_eq_true he, Bool.true_and]
        exact Ev.ifp he next
      · rw [show p a b = false from decide_eq_false he, Bool.false_and]
        exact Ev.ifn he (Ev.now _)
  have key : ∀ (d a : Nat), a + d = 64 → Ev (fun k => spec_suAlike.l0 k m (r : Int) (s : Int) a) ((List.range' a d).all fun a => (List.range 64).all (p a)) := by
    intro d
    induction d with
    | zero =>
      intro a ha
      refine Ev.step (f := fun _ => some true) (fun k => ?_) (Ev.now _)
      simp only [spec_suAlike.l0]
      rw [if_neg (by omega)]
    | succ d ih =>
      intro a ha
      rw [List.range'_succ, List.all_cons]
      refine Ev.step (fun k => by simp only [spec_suAlike.l0]; rfl) (Ev.ifp (by omega) ?_)
      have := row a (by omega) _ (ih (a + 1) (by omega)) 64 0 (by omega)
      rw [← List.range_eq_range'] at this
      exact this
  unfold spec_suAlike.f
  have := key 64 0 (by omega)
  rw [← List.range_eq_range'] at this
  refine ev_eq this ?_
  rw [Bool.eq_iff_iff]
  simp only [List.all_eq_true, List.mem_range, decide_eq_true_eq, p]
  constructor
  · intro q i hi
    have := q ((i / 64 + 27) % 64) (by omega) ((i % 64 + 42) % 64) (by omega)
    rw [show ((i / 64 + 27) % 64 + 37) % 64 = i / 64 by omega, show ((i % 64 + 42) % 64 + 22) % 64 = i % 64 by omega] at this
    exact this
  · intro q a ha b hb
    have := q (64 * ((a + 37) % 64) + (b + 22) % 64) (by omega)
    unfold atI endM at this
    rw [show (64 * ((a + 37) % 64) + (b + 22) % 64) / 64 = (a + 37) % 64 by omega, show (64 * ((a + 37) % 64) + (b + 22) % 64) % 64 = (b + 22) % 64 by omega] at this
    exact this
theorem alike_same {l : List Instr} (h : okP l) (k r : Nat) (hk : k < l.length) (hr : r < 2 + k) : ((List.range 4096).all fun i => decide (rd (atI (l.take (k + 1)) i) ((2 + k : Nat) : Int) = rd (atI (l.take (k + 1)) i) (r : Int))) = sameB l k r := by
  have hl := h.1
  unfold sameB
  have e1 := col_new h k hk 4096 (Nat.le_refl _)
  have e2 := col_keep h k hk r 4096 hr
  rw [Bool.eq_iff_iff, List.all_eq_true, List.all_eq_true]
  have f1 : ∀ i, i < 4096 → rd (atI (l.take (k + 1)) i) ((2 + k : Nat) : Int) = valM (l.getD k zN) (atI (l.take k) i) := fun i hi => by
    rw [← colN_at _ _ 4096 i hi, e1]
    exact rd_eq (fun d => by simp [List.getD, hi])
  have f2 : ∀ i, i < 4096 → rd (atI (l.take (k + 1)) i) (r : Int) = rd (atI (l.take k) i) (r : Int) := fun i hi => by
    rw [← colN_at _ _ 4096 i hi, e2, colN_at _ _ 4096 i hi]
  constructor
  · intro q i hi
    have := q i hi
    rwa [f1 i (List.mem_range.1 hi), f2 i (List.mem_range.1 hi)] at this
  · intro q i hi
    rw [f1 i (List.mem_range.1 hi), f2 i (List.mem_range.1 hi)]
    exact q i hi
theorem suPruned_ev {l : List Instr} (h : okP l) : Ev (fun q => spec_suPruned.f q l) (prunedB l) := by
  have hl := h.1
  have inner : ∀ (k : Nat), k < l.length → ∀ (rest : Bool), Ev (fun q => spec_suPruned.l0 q l l l.length ((k + 1 : Nat) : Int)) rest → ∀ (d r : Nat), r + d = 2 + k →
      Ev (fun q => spec_suPruned.l1 q l k r l l.length k) (((List.range' r d).any fun r => (!decide (r = 1) || !decide (k + 1 = l.length)) && sameB l k r) || rest) := by
    intro k hk rest hrest d
    induction d with
    | zero =>
      intro r hr
      refine Ev.step (fun q => by simp only [spec_suPruned.l1]; rfl) ?_
      rw [w64 (x := 2 + (k : Int)) (by omega) (by omega), w64n k (by omega)]
      refine Ev.ifn (by omega) ?_
      exact hrest
    | succ d ih =>
      intro r hr
      have next := ih (r + 1) (by omega)
      rw [List.range'_succ, List.any_cons, Bool.or_assoc]
      have hal := suAlike_ev (l.take (k + 1)) (by rw [List.length_take]; omega) (okP_take h (k + 1)) (2 + k) r (by omega) (by omega)
      rw [alike_same h k r hk (by omega)] at hal
      have body : Ev (fun q => (spec_suAlike.f q (l.take (k + 1)) ((2 + k : Nat) : Int) (r : Int)).bind fun t => if t = true then some true else spec_suPruned.l1 q l k ((r + 1 : Nat) : Int) l l.length k)
          (sameB l k r || (((List.range' (r + 1) d).any fun r => (!decide (r = 1) || !decide (k + 1 = l.length)) && sameB l k r) || rest)) := by
        refine Ev.bind hal ?_
        by_cases hs : sameB l k r = true
        · rw [hs, Bool.true_or]
          exact Ev.ifp rfl (Ev.now _)
        · rw [Bool.eq_false_iff.2 hs, Bool.false_or]
          exact Ev.ifn (by decide) next
      refine Ev.step (fun q => by simp only [spec_suPruned.l1]; rfl) ?_
      rw [w64 (x := 2 + (k : Int)) (by omega) (by omega), w64n k (by omega), w64n r (by omega), Int.toNat_natCast, show 2 + (k : Int) = ((2 + k : Nat) : Int) by omega]
      refine Ev.ifp (by omega) ?_
      by_cases h1 : r = 1
      · refine Ev.ifp (by omega) ?_
        rw [decide_eq_true h1, Bool.not_true, Bool.false_or]
        by_cases h2 : k + 1 = l.length
        · refine Ev.ifn (by omega) ?_
          rw [decide_eq_true h2, Bool.not_true, Bool.false_and, Bool.false_or]
          rw [decide_eq_true h2] at next
          exact next
        · refine Ev.ifp (by omega) (Ev.ifp (by omega) (Ev.ifp (by omega) (ev_eq body ?_)))
          rw [decide_eq_false h2, Bool.not_false, Bool.true_and]
      · refine Ev.ifn (by omega) (Ev.ifp (by omega) (Ev.ifp (by omega) (ev_eq body ?_)))
        rw [decide_eq_false h1, Bool.not_false, Bool.true_or, Bool.true_and]
  have key : ∀ (d k : Nat), k + d = l.length → Ev (fun q => spec_suPruned.l0 q l l l.length k) ((List.range' k d).any (reasonB l)) := by
    intro d
    induction d with
    | zero =>
      intro k hk
      refine Ev.step (f := fun _ => some false) (fun q => ?_) (Ev.now _)
      simp only [spec_suPruned.l0]
      rw [if_neg (by omega)]
    | succ d ih =>
      intro k hk
      rw [List.range'_succ, List.any_cons]
      have next := inner k (by omega) _ (ih (k + 1) (by omega)) (2 + k) 0 (by omega)
      rw [← List.range_eq_range'] at next
      have j1 : ∀ b : Bool, Ev (fun q => spec_suPruned.j1 q l k l l.length k b) (b || (((List.range (2 + k)).any fun r => (!decide (r = 1) || !decide (k + 1 = l.length)) && sameB l k r) || (List.range' (k + 1) d).any (reasonB l))) := by
        intro b
        refine Ev.step (fun q => by simp only [spec_suPruned.j1]; rfl) ?_
        cases b with
        | true => exact Ev.ifp rfl (Ev.now _)
        | false => exact Ev.ifn (by decide) next
      refine Ev.step (fun q => by simp only [spec_suPruned.l0]; rfl) (Ev.ifp (by omega) (Ev.ifp (by omega) (Ev.ifp (by omega) ?_)))
      rw [rdI_getD l k (by omega)]
      have fin : reasonB l k = (((List.range (2 + k)).any fun r => (!decide (r = 1) || !decide (k + 1 = l.length)) && sameB l k r) || turnB (l.getD k zN)) := rfl
      by_cases ht : (l.getD k zN).f2 > (l.getD k zN).f3
      · refine Ev.ifp ht (Ev.bind (l1HasS_ev ops6 (l.getD k zN).f0 (by decide)) (ev_eq (j1 _) ?_))
        rw [fin, show turnB (l.getD k zN) = hasS ops6 (l.getD k zN).f0 by unfold turnB; rw [decide_eq_true ht, Bool.and_true]]
        cases hasS ops6 (l.getD k zN).f0 <;> simp
      · refine Ev.ifn ht (ev_eq (j1 _) ?_)
        rw [fin, show turnB (l.getD k zN) = false by unfold turnB; rw [decide_eq_false ht, Bool.and_false], Bool.or_false, Bool.false_or]
  unfold spec_suPruned.f prunedB
  have := key l.length 0 (by omega)
  rw [← List.range_eq_range'] at this
  exact this
end Go.Proofs.Ytnaafcleafbejaa.PL
end
section
namespace Go.Proofs.Ytnaafcleafbejaa.PL
open Go Go.RowKit Go.Proofs.YtnaafcleafbejaaW.PrintWords Go.Proofs.YtnaafcleafbejaaW.PrintLast Go.Proofs.YtnaafcleafbejaaW.PrintMore Go.Proofs.Ytnaafcleafbejaa.Q
set_option linter.unusedSimpArgs false
set_option linter.unusedVariables false
def unp (l : List Instr) : Bool := !prunedB l
theorem reasonG_take (l : List Instr) (k : Nat) (b : Bool) (h : k < l.length) : reasonG (l.take (k + 1)) k b = reasonG l k b := by
  unfold reasonG sameB
  rw [show (l.take (k + 1)).getD k zN = l.getD k zN by simp [List.getD, List.getElem?_take, h], List.take_take, Nat.min_eq_left (by omega)]
theorem reasonG_pre (p : List Instr) (x : Instr) (k : Nat) (b : Bool) (h : k < p.length) : reasonG (p ++ [x]) k b = reasonG p k b := by
  rw [← reasonG_take (p ++ [x]) k b (by rw [List.length_append]; omega), ← reasonG_take p k b h, List.take_append_of_le_length (by omega)]
def cleanP (p : List Instr) (n : Nat) : Prop := ∀ i, i < p.length → reasonG p i (decide (i + 1 = n)) = false
theorem clean_unp {p : List Instr} {n : Nat} (h : cleanP p n) (hl : p.length = n) : unp p = true := by
  unfold unp prunedB
  have : (List.range p.length).any (reasonB p) = false := by
    rw [List.any_eq_false]
    intro i hi
    have := h i (List.mem_range.1 hi)
    unfold reasonB
    rw [hl, this]
    decide
  rw [this]
  rfl
theorem reason_pruned {l q : List Instr} {n j : Nat} (hl : l.length = n) (hq : q.length = j + 1) (ht : l.take (j + 1) = q) (h : reasonG q j (decide (j + 1 = n)) = true) : unp l = false := by
  have hj : j < l.length := by
    have := congrArg List.length ht
    rw [List.length_take, hq] at this
    omega
  unfold unp prunedB
  have : (List.range l.length).any (reasonB l) = true := by
    rw [List.any_eq_true]
    refine ⟨j, List.mem_range.2 hj, ?_⟩
    unfold reasonB
    rw [hl, ← reasonG_take l j _ hj, ht]
    exact h
  rw [this]
  rfl
theorem sum_le (c : Instr → Nat) (M : Nat) : ∀ xs : List Instr, (∀ x ∈ xs, c x ≤ M) → (xs.map c).sum ≤ xs.length * M
  | [], _ => by simp
  | x :: xs, h => by
    have h1 := h x (List.mem_cons_self ..)
    have h2 := sum_le c M xs (fun y hy => h y (List.mem_cons_of_mem _ hy))
    rw [List.map_cons, List.sum_cons, List.length_cons, Nat.succ_mul]
    omega
theorem compM_len_le (os : List ByteArray) (ims : List Int) (ho : os.length ≤ 4) (hi : ims.length ≤ 2) : ∀ (d : Nat) (p : List Instr), p.length + d ≤ 3 → (compM os ims d p).length ≤ 200 ^ d
  | 0, _, _ => by simp [compM]
  | d + 1, p, h => by
    unfold compM
    rw [List.length_flatMap, Nat.pow_succ, Nat.mul_comm]
    refine Nat.le_trans (sum_le (fun x => (compM os ims d (p ++ [x])).length) (200 ^ d) _ (fun x _ => compM_len_le os ims ho hi d (p ++ [x]) (by rw [List.length_append, List.length_singleton]; omega))) ?_
    exact Nat.mul_le_mul_right _ (stepsM_len os ims p.length ho hi (by omega))
theorem cuM_up (k : Nat) (os : List ByteArray) (ims : List Int) (n : Int) : ∀ (d : Nat) (j : Int) (cols : List (List Int)), LeO (cuM k os ims n d j cols) (cuM k os ims n (d + 1) j cols)
  | 0, _, _ => LeO.none _
  | d + 1, j, cols => LeO.ite (LeO.refl _) (LeO.ite (LeO.bind (LeO.refl _) (fun xs => cuL_mono _ _ (fun x m => LeO.bind (LeO.refl _) (fun b => LeO.ite (LeO.refl _) (LeO.ite (LeO.refl _) (LeO.bind (LeO.refl _) (fun c => LeO.bind (cuM_up k os ims n d _ _) (fun v => LeO.refl _)))))) xs 0)) (LeO.refl _))
theorem cuM_le (k : Nat) (os : List ByteArray) (ims : List Int) (n : Int) (d : Nat) (j : Int) (cols : List (List Int)) (r : Int) (h : cuM k os ims n d j cols = some r) : ∀ e, cuM k os ims n (d + e) j cols = some r
  | 0 => h
  | e + 1 => cuM_up k os ims n (d + e) j cols r (cuM_le k os ims n d j cols r h e)
theorem cuM_deep {os : List ByteArray} {ims : List Int} {n : Int} {D : Nat} {j : Int} {cols : List (List Int)} {r : Int} (h : Ev (fun k => cuM k os ims n D j cols) r) : Ev (fun k => cuM k os ims n k j cols) r := by
  obtain ⟨K, hK⟩ := h
  refine ⟨max K D, fun k hk => ?_⟩
  have := cuM_le k os ims n D j cols r (hK k (by omega)) (k - D)
  rwa [show D + (k - D) = k by omega] at this
theorem cuL_ev (g : Nat → Instr → Int → Option Int) (c : Instr → Nat) (B : Nat) : ∀ (xs : List Instr), (∀ x ∈ xs, ∀ m : Nat, m + c x ≤ B → Ev (fun k => g k x (m : Int)) ((m + c x : Nat) : Int)) → ∀ m : Nat, m + (xs.map c).sum ≤ B → Ev (fun k => cuL (g k) xs (m : Int)) ((m + (xs.map c).sum : Nat) : Int)
  | [], _, m, _ => Ev.some (by simp)
  | x :: xs, h, m, hm => by
    rw [List.map_cons, List.sum_cons] at hm ⊢
    show Ev (fun k => (g k x (m : Int)).bind fun v => cuL (g k) xs v) _
    refine Ev.bind (h x (List.mem_cons_self ..) m (by omega)) ?_
    rw [← Nat.add_assoc]
    exact cuL_ev g c B xs (fun y hy => h y (List.mem_cons_of_mem _ hy)) (m + c x) (by omega)
section
variable (os : List ByteArray) (ims : List Int) (ho : okChoice os ims = true) (n : Nat) (hn : n ≤ 3)
include ho hn
theorem cuM_ev : ∀ (d : Nat) (p : List Instr), okP p → p.length + d = n → cleanP p n → Ev (fun k => cuM k os ims (n : Int) (d + 1) (p.length : Int) (cols p p.length)) (((compM os ims d p).countP unp : Nat) : Int) := by
  obtain ⟨ho', hi', hc⟩ := okChoice_of ho
  intro d
  induction d with
  | zero =>
    intro p hp hl hcl
    refine ⟨0, fun k _ => ?_⟩
    simp only [cuM]
    rw [if_pos (by omega)]
    show _ = some (((List.countP unp [p] : Nat)) : Int)
    rw [List.countP_cons, List.countP_nil, if_pos (clean_unp hcl (by omega))]
    rfl
  | succ d ih =>
    intro p hp hl hcl
    show Ev (fun k => if (p.length : Int) = (n : Int) then some 1 else if (cols p p.length).length < 1048576 then (impl_steps.f k os ims (p.length : Int)).bind fun xs => cuL (cuStep k (n : Int) (p.length : Int) (cols p p.length) (cuM k os ims (n : Int) (d + 1) (wrap64 ((p.length : Int) + 1)))) xs 0 else none) _
    refine Ev.ifn (by omega) (Ev.ifp (by rw [cols_len]; omega) (Ev.bind (steps_ev os ims p.length ho' hi' (by omega) hc) ?_))
    have hlen := compM_len_le os ims ho' hi' (d + 1) p (by omega)
    have hpow : 200 ^ (d + 1) ≤ 200 ^ 3 := Nat.pow_le_pow_right (by decide) (by omega)
    have ec : (compM os ims (d + 1) p).countP unp = ((stepsM os ims p.length).map fun x => (compM os ims d (p ++ [x])).countP unp).sum := by
      show ((stepsM os ims p.length).flatMap fun x => compM os ims d (p ++ [x])).countP unp = _
      rw [List.countP_flatMap]
      rfl
    have hcle : (compM os ims (d + 1) p).countP unp ≤ 8000000 := Nat.le_trans (List.countP_le_length ..) (by omega)
    rw [ec] at hcle ⊢
    have := cuL_ev (fun k => cuStep k (n : Int) (p.length : Int) (cols p p.length) (cuM k os ims (n : Int) (d + 1) (wrap64 ((p.length : Int) + 1)))) (fun x => (compM os ims d (p ++ [x])).countP unp) 8000000 (stepsM os ims p.length) (fun x hx m hm => ?_) 0 (by omega)
    · rw [Nat.zero_add] at this
      exact this
    have hq := okP_snoc os ims ho hp (by omega) hx
    have hql : (p ++ [x]).length = p.length + 1 := by rw [List.length_append, List.length_singleton]
    have hk : p.length < (p ++ [x]).length := by omega
    have ex : (p ++ [x]).getD p.length zN = x := by simp [List.getD]
    have ecols : cols (p ++ [x]) p.length = cols p p.length := by
      unfold cols
      rw [List.take_left, List.take_length]
    have eb : ((p.length : Int) == wrap64 ((n : Int) - 1)) = decide (p.length + 1 = n) := by
      rw [w64 (by omega) (by omega), Bool.eq_iff_iff, beq_iff_eq, decide_eq_true_eq]
      omega
    have hr := isReasonG_ev hq p.length hk (decide (p.length + 1 = n))
    rw [ex, ecols] at hr
    unfold cuStep
    rw [eb]
    refine Ev.bind hr ?_
    by_cases q : reasonG (p ++ [x]) p.length (decide (p.length + 1 = n)) = true
    · refine Ev.ifp q (Ev.some ?_)
      have : (compM os ims d (p ++ [x])).countP unp = 0 := by
        rw [List.countP_eq_zero]
        intro l hl'
        obtain ⟨h1, h2⟩ := compM_in os ims d _ l hl'
        rw [hql] at h1 h2
        rw [reason_pruned (n := n) (by omega) hql h2 q]
        decide
      rw [this, Nat.add_zero]
    · refine Ev.ifn q ?_
      have hcl' : cleanP (p ++ [x]) n := fun i hi => by
        by_cases e : i < p.length
        · rw [reasonG_pre p x i _ e]
          exact hcl i e
        · obtain rfl : i = p.length := by omega
          exact Bool.eq_false_iff.2 q
      by_cases e : p.length + 1 = n
      · obtain rfl : d = 0 := by omega
        have e1 : (compM os ims 0 (p ++ [x])).countP unp = 1 := by
          show List.countP unp [p ++ [x]] = 1
          rw [List.countP_cons, List.countP_nil, if_pos (clean_unp hcl' (by omega))]
        rw [e1] at hm ⊢
        refine Ev.ifp (decide_eq_true e) (Ev.some ?_)
        exact w64n m (by omega)
      · refine Ev.ifn (by rw [decide_eq_false e]; decide) ?_
        have hw := writes_ev hq p.length x (by have := hq.2 p.length hk; rwa [ex] at this) (by omega)
        rw [ecols] at hw
        refine Ev.bind hw ?_
        have hcs := cols_succ hq p.length hk
        rw [ex, ecols] at hcs
        rw [← hcs, w64n p.length (by omega), ← hql]
        refine Ev.bind (ih (p ++ [x]) hq (by omega) hcl') (Ev.some ?_)
        rw [w64 (by omega) (by omega)]
        omega
end
def unpC (os : List ByteArray) (ims : List Int) (n : Nat) : Nat := (compM os ims n []).countP unp
def cuR (os : List ByteArray) (ims : List Int) (n : Int) : Int × Bool := if okChoice os ims = true ∧ 0 ≤ n ∧ n ≤ 3 then ((unpC os ims n.toNat : Nat), true) else (0, false)
theorem implCU_ev (os : List ByteArray) (ims : List Int) (n : Int) (ho : os.length ≤ 1048576) (hi : ims.length ≤ 1048576) : Ev (fun k => impl_CountUnpruned.f k os ims n) (cuR os ims n) := by
  unfold impl_CountUnpruned.f cuR
  refine Ev.bind (isChoice_ev os ims ho hi) ?_
  by_cases h : okChoice os ims = true
  · refine Ev.ifp h (Ev.call (within_eq _ _ _) ?_)
    by_cases hn : 0 ≤ n ∧ n ≤ 3
    · rw [if_pos ⟨h, hn⟩]
      refine Ev.ifp (decide_eq_true hn) (Ev.bind (begun_ev []) (Ev.ifp (by rw [cols_len]; omega) ?_))
      obtain ⟨N, rfl⟩ := Int.eq_ofNat_of_zero_le hn.1
      have := cuM_deep (cuM_ev os ims h N (by omega) N [] okP_nil (by simp) (fun i hi => by simp at hi))
      exact Ev.bind this (Ev.some rfl)
    · rw [if_neg (fun e => hn e.2)]
      exact Ev.ifn (by simpa using hn) (Ev.now _)
  · rw [if_neg (fun e => h e.1)]
    exact Ev.ifn h (Ev.now _)
theorem specCU_ev (os : List ByteArray) (ims : List Int) (n : Int) (ho : os.length ≤ 1048576) (hi : ims.length ≤ 1048576) : Ev (fun k => spec_CountUnpruned.f k os ims n) (cuR os ims n) := by
  have out : Ev (fun k => spec_CountUnpruned.j0 k n true os ims) ((0 : Int), false) := Ev.step (fun k => by simp only [spec_CountUnpruned.j0]; rfl) (Ev.ifp (show true = true from rfl) (Ev.now _))
  unfold spec_CountUnpruned.f cuR
  refine Ev.bind (suGood_ev os ims ho hi) ?_
  by_cases h : okChoice os ims = true
  · obtain ⟨ho', hi', hc⟩ := okChoice_of h
    refine Ev.ifp h (Ev.call (l1In_eq _ _ _) ?_)
    by_cases hn : 0 ≤ n ∧ n ≤ 3
    · rw [if_pos ⟨h, hn⟩, decide_eq_true hn]
      obtain ⟨N, rfl⟩ := Int.eq_ofNat_of_zero_le hn.1
      have hle := cntM_le' os ims ho' hi' N (by omega)
      have hcount := suCount_ev os ims h N (by omega)
      rw [Int.toNat_natCast]
      refine Ev.step (fun k => by simp only [spec_CountUnpruned.j0]; rfl) (Ev.ifn (by decide) ?_)
      have key : ∀ (d a : Nat), a + d = cntM os ims N → Ev (fun k => spec_CountUnpruned.l0 k (N : Int) ((((compM os ims N []).take a).countP unp : Nat) : Int) (a : Int) os ims) ((unpC os ims N : Nat), true) := by
        intro d
        induction d with
        | zero =>
          intro a ha
          refine Ev.step (fun k => by simp only [spec_CountUnpruned.l0]; rfl) (Ev.bind hcount ?_)
          refine Ev.ifn (by omega) (Ev.some ?_)
          rw [List.take_of_length_le (by rw [compM_count]; omega)]
          rfl
        | succ d ih =>
          intro a ha
          have next := ih (a + 1) (by omega)
          have hin := compM_at os ims N a (by omega)
          have hmem := List.mem_of_getElem? hin
          have hok := compM_ok os ims h N [] _ (by simp; omega) okP_nil hmem
          have hw := suWith_ev os ims h N (by omega) (a : Int) (by omega) (by omega)
          rw [progM_all] at hw
          have hcl : ((compM os ims N []).take a).countP unp ≤ a := Nat.le_trans (List.countP_le_length ..) (by rw [List.length_take]; omega)
          rw [List.take_add_one, hin, Option.toList_some, List.countP_append, List.countP_cons, List.countP_nil] at next
          refine Ev.step (fun k => by simp only [spec_CountUnpruned.l0]; rfl) (Ev.bind hcount ?_)
          refine Ev.ifp (by omega) ?_
          refine Ev.bind hw (Ev.bind (suPruned_ev hok) ?_)
          rw [w64n a (by omega)]
          cases hp : prunedB (wthN os ims N a) with
          | true =>
            rw [if_neg (show ¬ unp (wthN os ims N a) = true by unfold unp; rw [hp]; decide)] at next
            exact Ev.ifp rfl next
          | false =>
            rw [if_pos (show unp (wthN os ims N a) = true by unfold unp; rw [hp]; rfl)] at next
            refine Ev.ifn (by decide) ?_
            rw [w64n _ (by omega)]
            exact next
      exact key (cntM os ims N) 0 (by omega)
    · rw [if_neg (fun e => hn e.2), decide_eq_false hn]
      exact out
  · rw [if_neg (fun e => h e.1)]
    exact Ev.ifn h out
end Go.Proofs.Ytnaafcleafbejaa.PL
namespace Go.Proofs.Ytnaafcleafbejaa.Pure
open Go Go.RowKit Go.Proofs.YtnaafcleafbejaaW.PrintWords Go.Proofs.YtnaafcleafbejaaW.PrintLast Go.Proofs.YtnaafcleafbejaaW.PrintMore Go.Proofs.Ytnaafcleafbejaa.Q Go.Proofs.Ytnaafcleafbejaa.PL
set_option linter.unusedSimpArgs false
set_option linter.unusedVariables false
theorem FnExactCountUnpruned : laws_FnExactCountUnpruned.Pure := by
  rintro ⟨os, ims⟩ n h0 h1
  show ∃ k, laws_FnExactCountUnpruned.f k os ims n = some true
  refine Ev.rounds (g := fun k => laws_FnExactCountUnpruned.f k os ims n) ?_
  unfold laws_FnExactCountUnpruned.f
  obtain ⟨r, hr, hr'⟩ := szChoice_ev os ims 1048576 h0.1 h0.2.1 (by decide) (by decide)
  refine Ev.bind hr ?_
  by_cases hn : r < 0
  · exact Ev.ifp hn (Ev.now _)
  obtain ⟨q1, q2, _⟩ := hr' (by omega)
  have b0 : os.length ≤ 1048576 := by omega
  have b1 : ims.length ≤ 1048576 := by omega
  have tc := toChoice_ev os ims b0 b1
  have sp := specCU_ev os ims n b0 b1
  have im := implCU_ev os ims n b0 b1
  refine Ev.ifn hn (Ev.bind tc (Ev.bind sp (Ev.bind tc (Ev.bind im (Ev.ifp rfl ?_)))))
  rw [show ((cuR os ims n).2 != (cuR os ims n).2) = false by simp]
  refine Ev.step (fun k => by simp only [laws_FnExactCountUnpruned.j0]; rfl) (Ev.ifn (by decide) ?_)
  exact Ev.bind tc (Ev.bind (eqChoice_refl os ims b0 b1) (Ev.ifp rfl (Ev.now _)))
end Go.Proofs.Ytnaafcleafbejaa.Pure
end
