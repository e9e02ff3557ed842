/- Proved here: contracts of functions that the law FnExactIsUntouched reaches, and lemmas on what they compute; texts of this session, put together by its program link.py. Conditions: as each states. -/
import Derived.Laws.BitsLemmas
import Derived.Test.YtkmdlompgbnnkaaZFnExactIsUntouched1
import Derived.Test.YtkmdlompgbnnkaaZFnExactIsUntouched2
import Derived.Test.YtkmdlompgbnnkaaZFnExactIsUntouched3
section
namespace Go.Proofs.Ytkmdlompgbnnkaa.Q
open Go.RowKit Go.Proofs.YtkmdlompgbnnkaaW.PrintWords Go.Proofs.YtkmdlompgbnnkaaW.PrintLast Go.Proofs.YtkmdlompgbnnkaaW.PrintMore
attribute [local go_sem] max2_int min2_int max_two min_two max_three min_three max_four min_four
set_option linter.unusedVariables false
set_option linter.unusedSimpArgs false

/-! ### slices_IndexFunc_impl_areCycles_1: function 146 -/
def slices_IndexFunc_impl_areCycles_1.l0 : Nat → List Int → Int → Int → Option (Int)
  | 0, _, _, _ => none
  | k + 1, x0, x7, x8 => if x8 < x7 then (if 0 ≤ x8 then (if x8 < (x0.length : Int) then ((impl_areCycles_1.f (rd x0 x8)).bind fun t102 => (if t102 = true then (some x8) else (slices_IndexFunc_impl_areCycles_1.l0 k x0 x7 (wrap64 (x8 + 1))))) else (none)) else (none)) else (some (-1))
def slices_IndexFunc_impl_areCycles_1.f (k : Nat) (l0 : List Int) : Option (Int) := slices_IndexFunc_impl_areCycles_1.l0 k l0 (l0.length : Int) 0
theorem slices_IndexFunc_impl_areCycles_1.mono_l : ∀ k, (∀ y0 y1 y2, LeO (slices_IndexFunc_impl_areCycles_1.l0 k y0 y1 y2) (slices_IndexFunc_impl_areCycles_1.l0 (k + 1) y0 y1 y2))
  | 0 => fun _ _ _ r h => by simp [slices_IndexFunc_impl_areCycles_1.l0] at h
  | k + 1 => by
    have ih0 := slices_IndexFunc_impl_areCycles_1.mono_l k
    · intro y0 y1 y2
      unfold slices_IndexFunc_impl_areCycles_1.l0
      repeat' first
      | (with_reducible exact ih0 _ _ _)
      | (with_reducible exact LeO.refl _)
      | (with_reducible exact LeO.none _)
      | (with_reducible refine LeO.ite ?_ ?_)
      | (with_reducible refine LeO.bind ?_ (fun _ => ?_))
      | exact ih0 _ _ _
      | exact LeO.none _
      | refine LeO.ite ?_ ?_
      | refine LeO.bind ?_ (fun _ => ?_)
theorem slices_IndexFunc_impl_areCycles_1.mono : ∀ a0 k, LeO (slices_IndexFunc_impl_areCycles_1.f k a0) (slices_IndexFunc_impl_areCycles_1.f (k + 1) a0) := by
  intro a0 k
  have ih0 := slices_IndexFunc_impl_areCycles_1.mono_l k
  unfold slices_IndexFunc_impl_areCycles_1.f
  repeat' first
      | (with_reducible exact ih0 _ _ _)
      | (with_reducible exact LeO.refl _)
      | (with_reducible exact LeO.none _)
      | (with_reducible refine LeO.ite ?_ ?_)
      | (with_reducible refine LeO.bind ?_ (fun _ => ?_))
      | exact ih0 _ _ _
      | exact LeO.none _
      | refine LeO.ite ?_ ?_
      | refine LeO.bind ?_ (fun _ => ?_)
set_option maxHeartbeats 8000000 in
set_option maxRecDepth 100000 in
theorem slices_IndexFunc_impl_areCycles_1.calls (k : Nat) (A0 : Option Addr) (c0 : Nat) (l0 : List Int) (r : Int) (w : World) (hr0 : Kd.C (Kd.int .i64) w A0 l0.length l0) (hc0 : l0.length ≤ c0) (h : slices_IndexFunc_impl_areCycles_1.f k l0 = some r) :
    Calls Try.prog 146 #[.slice A0 l0.length c0, .func (Fn.func 113) #[] #[]] w fun e w' => e = .returned (.int .i64 r) ∧ Drawn0 w w' := by
  have HR0 := Aside0.mk hr0
  have HC0 := Aside0.mk hc0
  clear hr0 hc0
  have H : (slices_IndexFunc_impl_areCycles_1.l0 k l0 (l0.length : Int) 0) = some r := h
  clear h
  have H' := Aside0.mk H
  clear H
  go_enter Try.func146, Try.ntmps146
  go_wp2
  go_loopg [8] k (fun kq v8 w' => ∃ (x8_1 : Int), v8 = .int .i64 x8_1 ∧ Aside0 (slices_IndexFunc_impl_areCycles_1.l0 kq l0 (l0.length : Int) x8_1 = some r) ∧ Aside0 (kq ≤ k) ∧ Drawn0 w w')
  case atStart => exact ⟨(0), (by first | rfl | (simp; done) | (simp [*]; done)), H', ⟨Nat.le_refl _⟩, by repeat (first | exact Drawn0.refl _ | apply Drawn0.step)⟩
  case round =>
    clear H'
    obtain ⟨x8_1, rfl, HA, HK1, ⟨m1, rfl⟩⟩ := hrel
    cases gk with
    | zero => exact absurd HA.out (by simp [slices_IndexFunc_impl_areCycles_1.l0])
    | succ k1 =>
      have H := HA.out
      clear HA
      simp only [slices_IndexFunc_impl_areCycles_1.l0] at H
      by_cases c2 : x8_1 < (l0.length : Int)
      · rw [if_pos c2] at H
        have c2b0 : decide (x8_1 < (l0.length : Int)) = true := decide_eq_true c2
        clear c2
        by_cases c3 : 0 ≤ x8_1
        · rw [if_pos c3] at H
          have c3b0 : decide (0 ≤ x8_1) = true := decide_eq_true c3
          clear c3
          by_cases c4 : x8_1 < (l0.length : Int)
          · rw [if_pos c4] at H
            have c4b0 : decide (x8_1 < (l0.length : Int)) = true := decide_eq_true c4
            clear c4
            replace H := Option.bind_eq_some_iff.mp H
            obtain ⟨t102, A50, H⟩ := H
            replace H : (if t102 = true then (some x8_1) else (slices_IndexFunc_impl_areCycles_1.l0 k1 l0 (l0.length : Int) (wrap64 (x8_1 + 1)))) = some r := H
            have A5 := Aside0.mk A50
            clear A50
            by_cases c6 : t102 = true
            · subst c6
              have H1 : (some x8_1) = some r := by rw [if_pos rfl] at H; exact H
              clear H
              have H := H1
              clear H1
              obtain rfl := Option.some.inj H
              have p101 : 0 ≤ (x8_1 : Int) := of_decide_eq_true (by first | (with_reducible assumption) | assumption)
              have q101 : x8_1 < (l0.length : Int) := of_decide_eq_true (by first | (with_reducible assumption) | assumption)
              obtain ⟨ad101, e101, hx101_0⟩ := Kd.at_int HR0.out x8_1 p101 q101
              cases e101
              replace p101 := eq_true p101
              replace q101 := eq_true q101
              go_wp2_with (first | (go_at_call 113; (with_reducible refine (impl_areCycles_1.calls (rd l0 x8_1) true _ A5.out).mono ?_); rintro e w' ⟨rfl, ⟨nd, rfl⟩⟩))
              go_ret
              exact ⟨by first | rfl | (simp; done) | (simp [*]; done), by repeat (first | exact Drawn0.refl _ | apply Drawn0.step)⟩
            · replace c6 := Bool.eq_false_iff.mpr c6
              subst c6
              have H1 : (slices_IndexFunc_impl_areCycles_1.l0 k1 l0 (l0.length : Int) (wrap64 (x8_1 + 1))) = some r := by rw [if_neg (show ¬ (false = true) by decide)] at H; exact H
              clear H
              have H := H1
              clear H1
              have H' := Aside0.mk H
              clear H
              have p101 : 0 ≤ (x8_1 : Int) := of_decide_eq_true (by first | (with_reducible assumption) | assumption)
              have q101 : x8_1 < (l0.length : Int) := of_decide_eq_true (by first | (with_reducible assumption) | assumption)
              obtain ⟨ad101, e101, hx101_0⟩ := Kd.at_int HR0.out x8_1 p101 q101
              cases e101
              replace p101 := eq_true p101
              replace q101 := eq_true q101
              go_wp2_with (first | (go_at_call 113; (with_reducible refine (impl_areCycles_1.calls (rd l0 x8_1) false _ A5.out).mono ?_); rintro e w' ⟨rfl, ⟨nd, rfl⟩⟩))
              go_roundg k1
              case measure => have := HK1.out; omega
              case rel => exact ⟨(wrap64 (x8_1 + 1)), (by first | rfl | (simp; done) | (simp [*]; done)), H', ⟨by have := HK1.out; omega⟩, by repeat (first | exact Drawn0.refl _ | apply Drawn0.step)⟩
          · rw [if_neg c4] at H
            exact absurd H (by simp)
        · rw [if_neg c3] at H
          exact absurd H (by simp)
      · rw [if_neg c2] at H
        have c2b0 : decide (x8_1 < (l0.length : Int)) = false := decide_eq_false c2
        clear c2
        obtain rfl := Option.some.inj H
        go_wp2
        go_ret
        exact ⟨by first | rfl | (simp; done) | (simp [*]; done), by repeat (first | exact Drawn0.refl _ | apply Drawn0.step)⟩

end Go.Proofs.Ytkmdlompgbnnkaa.Q
end
section
namespace Go.Proofs.Ytkmdlompgbnnkaa.Q
open Go.RowKit Go.Proofs.YtkmdlompgbnnkaaW.PrintWords Go.Proofs.YtkmdlompgbnnkaaW.PrintLast Go.Proofs.YtkmdlompgbnnkaaW.PrintMore
attribute [local go_sem] max2_int min2_int max_two min_two max_three min_three max_four min_four
set_option linter.unusedVariables false
set_option linter.unusedSimpArgs false

/-! ### slices_ContainsFunc_impl_areCycles_1: function 112 -/
def slices_ContainsFunc_impl_areCycles_1.f (k : Nat) (l0 : List Int) : Option (Bool) := (slices_IndexFunc_impl_areCycles_1.f k l0).bind fun t101 => (some (decide (t101 ≥ 0)))
theorem slices_ContainsFunc_impl_areCycles_1.mono : ∀ a0 k, LeO (slices_ContainsFunc_impl_areCycles_1.f k a0) (slices_ContainsFunc_impl_areCycles_1.f (k + 1) a0) := by
  intro a0 k
  unfold slices_ContainsFunc_impl_areCycles_1.f
  repeat' first
      | (with_reducible exact slices_IndexFunc_impl_areCycles_1.mono _ _)
      | (with_reducible exact LeO.refl _)
      | (with_reducible exact LeO.none _)
      | (with_reducible refine LeO.ite ?_ ?_)
      | (with_reducible refine LeO.bind ?_ (fun _ => ?_))
      | exact slices_IndexFunc_impl_areCycles_1.mono _ _
      | exact LeO.none _
      | refine LeO.ite ?_ ?_
      | refine LeO.bind ?_ (fun _ => ?_)
set_option maxHeartbeats 8000000 in
set_option maxRecDepth 100000 in
theorem slices_ContainsFunc_impl_areCycles_1.calls (k : Nat) (A0 : Option Addr) (c0 : Nat) (l0 : List Int) (r : Bool) (w : World) (hr0 : Kd.C (Kd.int .i64) w A0 l0.length l0) (hc0 : l0.length ≤ c0) (h : slices_ContainsFunc_impl_areCycles_1.f k l0 = some r) :
    Calls Try.prog 112 #[.slice A0 l0.length c0, .func (Fn.func 113) #[] #[]] w fun e w' => e = .returned (.bool r) ∧ Drawn0 w w' := by
  have HR0 := Aside0.mk hr0
  have HC0 := Aside0.mk hc0
  clear hr0 hc0
  have H : ((slices_IndexFunc_impl_areCycles_1.f k l0).bind fun t101 => (some (decide (t101 ≥ 0)))) = some r := h
  clear h
  replace H := Option.bind_eq_some_iff.mp H
  obtain ⟨t101, A20, H⟩ := H
  replace H : (some (decide (t101 ≥ 0))) = some r := H
  have A2 := Aside0.mk A20
  clear A20
  obtain rfl := Option.some.inj H
  go_enter Try.func112, Try.ntmps112
  go_wp2_with (first | ((with_reducible refine gate_callee (f := 146) rfl ?_); refine goesL_ (some 7) rfl rfl Try.func146 (by kernel_rfl) rfl #[.slice A0 l0.length c0, .func (Fn.func 113) #[] #[]] rfl (by (try simp only [List.map_toArray, List.map_cons, List.map_nil]); first | done | rfl | (simp only [List.length_drop, List.length_take]; rfl)) ?_; (with_reducible refine (slices_IndexFunc_impl_areCycles_1.calls k _ _ l0 t101 _ ?side1 ?side2 A2.out).mono ?_); (case side1 => repeat (first | exact HR0.out | (with_reducible refine Kd.C_alloc ?_ _) | (with_reducible refine Kd.C_drewN ?_ _) | (with_reducible refine Kd.C_drew ?_))); (case side2 => exact HC0.out); rintro e w' ⟨rfl, ⟨nd, rfl⟩⟩; refine ⟨_, rfl, ?_⟩))
  go_ret
  exact ⟨by first | rfl | (simp; done) | (simp [*]; done), by repeat (first | exact Drawn0.refl _ | apply Drawn0.step)⟩

end Go.Proofs.Ytkmdlompgbnnkaa.Q
end
section
namespace Go.Proofs.Ytkmdlompgbnnkaa.Q
open Go.RowKit Go.Proofs.YtkmdlompgbnnkaaW.PrintWords Go.Proofs.YtkmdlompgbnnkaaW.PrintLast Go.Proofs.YtkmdlompgbnnkaaW.PrintMore
attribute [local go_sem] max2_int min2_int max_two min_two max_three min_three max_four min_four
set_option linter.unusedVariables false
set_option linter.unusedSimpArgs false

/-! ### impl_areCycles: function 64 -/
def impl_areCycles.f (k : Nat) (l0 : List (S84)) (l1 : List Int) : Option (Bool) := (impl_isBlock.f k l0).bind fun t101 => (if t101 = true then (if (l1.length : Int) = (l0.length : Int) then ((slices_ContainsFunc_impl_areCycles_1.f k l1).bind fun t102 => (some (!t102))) else (some false)) else (some false))
theorem impl_areCycles.mono : ∀ a0 a1 k, LeO (impl_areCycles.f k a0 a1) (impl_areCycles.f (k + 1) a0 a1) := by
  intro a0 a1 k
  unfold impl_areCycles.f
  repeat' first
      | (with_reducible exact impl_isBlock.mono _ _)
      | (with_reducible exact slices_ContainsFunc_impl_areCycles_1.mono _ _)
      | (with_reducible exact LeO.refl _)
      | (with_reducible exact LeO.none _)
      | (with_reducible refine LeO.ite ?_ ?_)
      | (with_reducible refine LeO.bind ?_ (fun _ => ?_))
      | exact impl_isBlock.mono _ _
      | exact slices_ContainsFunc_impl_areCycles_1.mono _ _
      | exact LeO.none _
      | refine LeO.ite ?_ ?_
      | refine LeO.bind ?_ (fun _ => ?_)
set_option maxHeartbeats 8000000 in
set_option maxRecDepth 100000 in
theorem impl_areCycles.calls (k : Nat) (A0 : Option Addr) (c0 : Nat) (l0 : List (S84)) (A1 : Option Addr) (c1 : Nat) (l1 : List Int) (r : Bool) (w : World) (hr0 : Kd.C k84 w A0 l0.length l0) (hc0 : l0.length ≤ c0) (hr1 : Kd.C (Kd.int .i64) w A1 l1.length l1) (hc1 : l1.length ≤ c1) (h : impl_areCycles.f k l0 l1 = some r) :
    Calls Try.prog 64 #[.slice A0 l0.length c0, .slice A1 l1.length c1] w fun e w' => e = .returned (.bool r) ∧ Below w.heap.size w w' := by
  have HR0 := Aside0.mk hr0
  have HC0 := Aside0.mk hc0
  clear hr0 hc0
  have HR1 := Aside0.mk hr1
  have HC1 := Aside0.mk hc1
  clear hr1 hc1
  have HB := Aside0.mk (Below.refl w.heap.size w)
  have H : ((impl_isBlock.f k l0).bind fun t101 => (if t101 = true then (if (l1.length : Int) = (l0.length : Int) then ((slices_ContainsFunc_impl_areCycles_1.f k l1).bind fun t102 => (some (!t102))) else (some false)) else (some false))) = some r := h
  clear h
  replace H := Option.bind_eq_some_iff.mp H
  obtain ⟨t101, A30, H⟩ := H
  replace H : (if t101 = true then (if (l1.length : Int) = (l0.length : Int) then ((slices_ContainsFunc_impl_areCycles_1.f k l1).bind fun t102 => (some (!t102))) else (some false)) else (some false)) = some r := H
  have A3 := Aside0.mk A30
  clear A30
  by_cases c4 : t101 = true
  · subst c4
    have H1 : (if (l1.length : Int) = (l0.length : Int) then ((slices_ContainsFunc_impl_areCycles_1.f k l1).bind fun t102 => (some (!t102))) else (some false)) = some r := by rw [if_pos rfl] at H; exact H
    clear H
    have H := H1
    clear H1
    by_cases c5 : (l1.length : Int) = (l0.length : Int)
    · rw [if_pos c5] at H
      have c5b0 : ((l1.length : Int) == (l0.length : Int)) = true := beq_iff_eq.mpr c5
      have c5b1 : ((l1.length : Int) != (l0.length : Int)) = false := bne_eq_false_iff_eq.mpr c5
      have c5b2 : (l1.length == l0.length) = true := by first | simpa using c5 | (simp at c5 ⊢; omega)
      clear c5
      replace H := Option.bind_eq_some_iff.mp H
      obtain ⟨t102, A60, H⟩ := H
      replace H : (some (!t102)) = some r := H
      have A6 := Aside0.mk A60
      clear A60
      obtain rfl := Option.some.inj H
      go_enter Try.func64, Try.ntmps64
      go_wp2_with (first | ((with_reducible refine gate_callee (f := 68) rfl ?_); refine goesL_ (some 6) rfl rfl Try.func68 (by kernel_rfl) rfl #[.slice A0 l0.length c0] rfl (by (try simp only [List.map_toArray, List.map_cons, List.map_nil]); first | done | rfl | (simp only [List.length_drop, List.length_take]; rfl)) ?_; (with_reducible refine (impl_isBlock.calls k _ _ l0 true _ ?side1 ?side2 A3.out).mono ?_); (case side1 => repeat (first | exact HR0.out | (with_reducible refine Kd.C_alloc ?_ _) | (with_reducible refine Kd.C_drewN ?_ _) | (with_reducible refine Kd.C_drew ?_))); (case side2 => exact HC0.out); rintro e w7 ⟨rfl, hb⟩; refine ⟨_, rfl, ?_⟩; have n0_ := Aside0.mk (below_step (by repeat (first | (with_reducible first | exact HB.out | apply below_alloc | apply pw_below_drewN | apply below_drew1) | exact HB.out)) hb); clear HB; have HB := n0_; clear n0_; (try clear hb); (try clear hb2); (try clear hk); (try clear hi)) | (go_at_call 112; (with_reducible refine (slices_ContainsFunc_impl_areCycles_1.calls k _ _ l1 t102 _ ?side1 ?side2 A6.out).mono ?_); (case side1 => repeat (first | exact (Kd.C_below HR1.out HB.out) | (with_reducible refine Kd.C_alloc ?_ _) | (with_reducible refine Kd.C_drewN ?_ _) | (with_reducible refine Kd.C_drew ?_))); (case side2 => exact HC1.out); rintro e w' ⟨rfl, ⟨nd, rfl⟩⟩))
      go_ret
      exact ⟨by first | rfl | (simp [errW_none, errW_some] <;> rfl) | (simp [*, errW_none, errW_some] <;> rfl), by repeat (first | (with_reducible first | exact HB.out | apply below_alloc | apply pw_below_drewN | apply below_drew1) | exact HB.out)⟩
    · rw [if_neg c5] at H
      have c5b0 : ((l1.length : Int) == (l0.length : Int)) = false := beq_eq_false_iff_ne.mpr c5
      have c5b1 : ((l1.length : Int) != (l0.length : Int)) = true := bne_iff_ne.mpr c5
      have c5b2 : (l1.length == l0.length) = false := by first | simpa using c5 | (simp at c5 ⊢; omega)
      obtain rfl := Option.some.inj H
      go_enter Try.func64, Try.ntmps64
      go_wp2_with (first | ((with_reducible refine gate_callee (f := 68) rfl ?_); refine goesL_ (some 6) rfl rfl Try.func68 (by kernel_rfl) rfl #[.slice A0 l0.length c0] rfl (by (try simp only [List.map_toArray, List.map_cons, List.map_nil]); first | done | rfl | (simp only [List.length_drop, List.length_take]; rfl)) ?_; (with_reducible refine (impl_isBlock.calls k _ _ l0 true _ ?side1 ?side2 A3.out).mono ?_); (case side1 => repeat (first | exact HR0.out | (with_reducible refine Kd.C_alloc ?_ _) | (with_reducible refine Kd.C_drewN ?_ _) | (with_reducible refine Kd.C_drew ?_))); (case side2 => exact HC0.out); rintro e w8 ⟨rfl, hb⟩; refine ⟨_, rfl, ?_⟩; have n0_ := Aside0.mk (below_step (by repeat (first | (with_reducible first | exact HB.out | apply below_alloc | apply pw_below_drewN | apply below_drew1) | exact HB.out)) hb); clear HB; have HB := n0_; clear n0_; (try clear hb); (try clear hb2); (try clear hk); (try clear hi)))
      go_ret
      exact ⟨by first | rfl | (simp [errW_none, errW_some] <;> rfl) | (simp [*, errW_none, errW_some] <;> rfl), by repeat (first | (with_reducible first | exact HB.out | apply below_alloc | apply pw_below_drewN | apply below_drew1) | exact HB.out)⟩
  · replace c4 := Bool.eq_false_iff.mpr c4
    subst c4
    have H1 : (some false) = some r := by rw [if_neg (show ¬ (false = true) by decide)] at H; exact H
    clear H
    have H := H1
    clear H1
    obtain rfl := Option.some.inj H
    go_enter Try.func64, Try.ntmps64
    go_wp2_with (first | ((with_reducible refine gate_callee (f := 68) rfl ?_); refine goesL_ (some 6) rfl rfl Try.func68 (by kernel_rfl) rfl #[.slice A0 l0.length c0] rfl (by (try simp only [List.map_toArray, List.map_cons, List.map_nil]); first | done | rfl | (simp only [List.length_drop, List.length_take]; rfl)) ?_; (with_reducible refine (impl_isBlock.calls k _ _ l0 false _ ?side1 ?side2 A3.out).mono ?_); (case side1 => repeat (first | exact HR0.out | (with_reducible refine Kd.C_alloc ?_ _) | (with_reducible refine Kd.C_drewN ?_ _) | (with_reducible refine Kd.C_drew ?_))); (case side2 => exact HC0.out); rintro e w9 ⟨rfl, hb⟩; refine ⟨_, rfl, ?_⟩; have n0_ := Aside0.mk (below_step (by repeat (first | (with_reducible first | exact HB.out | apply below_alloc | apply pw_below_drewN | apply below_drew1) | exact HB.out)) hb); clear HB; have HB := n0_; clear n0_; (try clear hb); (try clear hb2); (try clear hk); (try clear hi)))
    go_ret
    exact ⟨by first | rfl | (simp [errW_none, errW_some] <;> rfl) | (simp [*, errW_none, errW_some] <;> rfl), by repeat (first | (with_reducible first | exact HB.out | apply below_alloc | apply pw_below_drewN | apply below_drew1) | exact HB.out)⟩

end Go.Proofs.Ytkmdlompgbnnkaa.Q
end
section
namespace Go.Proofs.Ytkmdlompgbnnkaa.Q
open Go.RowKit Go.Proofs.YtkmdlompgbnnkaaW.PrintWords Go.Proofs.YtkmdlompgbnnkaaW.PrintLast Go.Proofs.YtkmdlompgbnnkaaW.PrintMore
attribute [local go_sem] max2_int min2_int max_two min_two max_three min_three max_four min_four
set_option linter.unusedVariables false
set_option linter.unusedSimpArgs false

/-! ### spec_l1All: function 109 -/
def spec_l1All.l0 : Nat → Int → Int → List Int → Int → Int → Option (Bool)
  | 0, _, _, _, _, _ => none
  | k + 1, x1, x2, x9, x10, x11 => if x11 < x10 then (if 0 ≤ x11 then (if x11 < (x9.length : Int) then ((spec_l1In.f (rd x9 x11) x1 x2).bind fun t102 => (if t102 = true then (spec_l1All.l0 k x1 x2 x9 x10 (wrap64 (x11 + 1))) else (some false))) else (none)) else (none)) else (some true)
def spec_l1All.f (k : Nat) (l0 : List Int) (a1 : Int) (a2 : Int) : Option (Bool) := spec_l1All.l0 k a1 a2 l0 (l0.length : Int) 0
theorem spec_l1All.mono_l : ∀ k, (∀ y0 y1 y2 y3 y4, LeO (spec_l1All.l0 k y0 y1 y2 y3 y4) (spec_l1All.l0 (k + 1) y0 y1 y2 y3 y4))
  | 0 => fun _ _ _ _ _ r h => by simp [spec_l1All.l0] at h
  | k + 1 => by
    have ih0 := spec_l1All.mono_l k
    · intro y0 y1 y2 y3 y4
      unfold spec_l1All.l0
      repeat' first
      | (with_reducible exact ih0 _ _ _ _ _)
      | (with_reducible exact LeO.refl _)
      | (with_reducible exact LeO.none _)
      | (with_reducible refine LeO.ite ?_ ?_)
      | (with_reducible refine LeO.bind ?_ (fun _ => ?_))
      | exact ih0 _ _ _ _ _
      | exact LeO.none _
      | refine LeO.ite ?_ ?_
      | refine LeO.bind ?_ (fun _ => ?_)
theorem spec_l1All.mono : ∀ a0 a1 a2 k, LeO (spec_l1All.f k a0 a1 a2) (spec_l1All.f (k + 1) a0 a1 a2) := by
  intro a0 a1 a2 k
  have ih0 := spec_l1All.mono_l k
  unfold spec_l1All.f
  repeat' first
      | (with_reducible exact ih0 _ _ _ _ _)
      | (with_reducible exact LeO.refl _)
      | (with_reducible exact LeO.none _)
      | (with_reducible refine LeO.ite ?_ ?_)
      | (with_reducible refine LeO.bind ?_ (fun _ => ?_))
      | exact ih0 _ _ _ _ _
      | exact LeO.none _
      | refine LeO.ite ?_ ?_
      | refine LeO.bind ?_ (fun _ => ?_)
set_option maxHeartbeats 8000000 in
set_option maxRecDepth 100000 in
theorem spec_l1All.calls (k : Nat) (A0 : Option Addr) (c0 : Nat) (l0 : List Int) (a1 : Int) (a2 : Int) (r : Bool) (w : World) (hr0 : Kd.C (Kd.int .i64) w A0 l0.length l0) (hc0 : l0.length ≤ c0) (h : spec_l1All.f k l0 a1 a2 = some r) :
    Calls Try.prog 109 #[.slice A0 l0.length c0, .int .i64 a1, .int .i64 a2] w fun e w' => e = .returned (.bool r) ∧ Drawn0 w w' := by
  have HR0 := Aside0.mk hr0
  have HC0 := Aside0.mk hc0
  clear hr0 hc0
  have H : (spec_l1All.l0 k a1 a2 l0 (l0.length : Int) 0) = some r := h
  clear h
  have H' := Aside0.mk H
  clear H
  go_enter Try.func109, Try.ntmps109
  go_wp2
  go_loopg [11] k (fun kq v11 w' => ∃ (x11_1 : Int), v11 = .int .i64 x11_1 ∧ Aside0 (spec_l1All.l0 kq a1 a2 l0 (l0.length : Int) x11_1 = some r) ∧ Aside0 (kq ≤ k) ∧ Drawn0 w w')
  case atStart => exact ⟨(0), (by first | rfl | (simp; done) | (simp [*]; done)), H', ⟨Nat.le_refl _⟩, by repeat (first | exact Drawn0.refl _ | apply Drawn0.step)⟩
  case round =>
    clear H'
    try clear c1
    try clear p2
    obtain ⟨x11_1, rfl, HA, HK1, ⟨m1, rfl⟩⟩ := hrel
    cases gk with
    | zero => exact absurd HA.out (by simp [spec_l1All.l0])
    | succ k1 =>
      have H := HA.out
      clear HA
      simp only [spec_l1All.l0] at H
      by_cases c4 : x11_1 < (l0.length : Int)
      · rw [if_pos c4] at H
        have c4b0 : decide (x11_1 < (l0.length : Int)) = true := decide_eq_true c4
        clear c4
        by_cases c5 : 0 ≤ x11_1
        · rw [if_pos c5] at H
          have c5b0 : decide (0 ≤ x11_1) = true := decide_eq_true c5
          clear c5
          by_cases c6 : x11_1 < (l0.length : Int)
          · rw [if_pos c6] at H
            have c6b0 : decide (x11_1 < (l0.length : Int)) = true := decide_eq_true c6
            clear c6
            replace H := Option.bind_eq_some_iff.mp H
            obtain ⟨t102, A70, H⟩ := H
            replace H : (if t102 = true then (spec_l1All.l0 k1 a1 a2 l0 (l0.length : Int) (wrap64 (x11_1 + 1))) else (some false)) = some r := H
            have A7 := Aside0.mk A70
            clear A70
            by_cases c8 : t102 = true
            · subst c8
              have H1 : (spec_l1All.l0 k1 a1 a2 l0 (l0.length : Int) (wrap64 (x11_1 + 1))) = some r := by rw [if_pos rfl] at H; exact H
              clear H
              have H := H1
              clear H1
              have H' := Aside0.mk H
              clear H
              have p101 : 0 ≤ (x11_1 : Int) := of_decide_eq_true (by first | (with_reducible assumption) | assumption)
              have q101 : x11_1 < (l0.length : Int) := of_decide_eq_true (by first | (with_reducible assumption) | assumption)
              obtain ⟨ad101, e101, hx101_0⟩ := Kd.at_int HR0.out x11_1 p101 q101
              cases e101
              replace p101 := eq_true p101
              replace q101 := eq_true q101
              go_wp2_with (first | ((with_reducible refine gate_callee (f := 74) rfl ?_); refine goesL_ (some 18) rfl rfl Try.func74 (by kernel_rfl) rfl #[.int .i64 (rd l0 x11_1), .int .i64 a1, .int .i64 a2] rfl (by (try simp only [List.map_toArray, List.map_cons, List.map_nil]); first | done | rfl | (simp only [List.length_drop, List.length_take]; rfl)) ?_; (with_reducible refine (spec_l1In.calls (rd l0 x11_1) a1 a2 true _ A7.out).mono ?_); rintro e w' ⟨rfl, ⟨nd, rfl⟩⟩; refine ⟨_, rfl, ?_⟩))
              go_roundg k1
              case measure => have := HK1.out; omega
              case rel => exact ⟨(wrap64 (x11_1 + 1)), (by first | rfl | (simp; done) | (simp [*]; done)), H', ⟨by have := HK1.out; omega⟩, by repeat (first | exact Drawn0.refl _ | apply Drawn0.step)⟩
            · replace c8 := Bool.eq_false_iff.mpr c8
              subst c8
              have H1 : (some false) = some r := by rw [if_neg (show ¬ (false = true) by decide)] at H; exact H
              clear H
              have H := H1
              clear H1
              obtain rfl := Option.some.inj H
              have p101 : 0 ≤ (x11_1 : Int) := of_decide_eq_true (by first | (with_reducible assumption) | assumption)
              have q101 : x11_1 < (l0.length : Int) := of_decide_eq_true (by first | (with_reducible assumption) | assumption)
              obtain ⟨ad101, e101, hx101_0⟩ := Kd.at_int HR0.out x11_1 p101 q101
              cases e101
              replace p101 := eq_true p101
              replace q101 := eq_true q101
              go_wp2_with (first | ((with_reducible refine gate_callee (f := 74) rfl ?_); refine goesL_ (some 18) rfl rfl Try.func74 (by kernel_rfl) rfl #[.int .i64 (rd l0 x11_1), .int .i64 a1, .int .i64 a2] rfl (by (try simp only [List.map_toArray, List.map_cons, List.map_nil]); first | done | rfl | (simp only [List.length_drop, List.length_take]; rfl)) ?_; (with_reducible refine (spec_l1In.calls (rd l0 x11_1) a1 a2 false _ A7.out).mono ?_); rintro e w' ⟨rfl, ⟨nd, rfl⟩⟩; refine ⟨_, rfl, ?_⟩))
              go_ret
              exact ⟨by first | rfl | (simp; done) | (simp [*]; done), by repeat (first | exact Drawn0.refl _ | apply Drawn0.step)⟩
          · rw [if_neg c6] at H
            exact absurd H (by simp)
        · rw [if_neg c5] at H
          exact absurd H (by simp)
      · rw [if_neg c4] at H
        have c4b0 : decide (x11_1 < (l0.length : Int)) = false := decide_eq_false c4
        clear c4
        obtain rfl := Option.some.inj H
        go_wp2
        go_ret
        exact ⟨by first | rfl | (simp; done) | (simp [*]; done), by repeat (first | exact Drawn0.refl _ | apply Drawn0.step)⟩

end Go.Proofs.Ytkmdlompgbnnkaa.Q
end
section
namespace Go.Proofs.Ytkmdlompgbnnkaa.Q
open Go.RowKit Go.Proofs.YtkmdlompgbnnkaaW.PrintWords Go.Proofs.YtkmdlompgbnnkaaW.PrintLast Go.Proofs.YtkmdlompgbnnkaaW.PrintMore
attribute [local go_sem] max2_int min2_int max_two min_two max_three min_three max_four min_four
set_option linter.unusedVariables false
set_option linter.unusedSimpArgs false

/-! ### spec_orGood: function 67 -/
def spec_orGood.f (k : Nat) (l0 : List (S84)) : Option (Bool) := if (l0.length : Int) ≤ 20 then ((spec_cdCode.f k l0).bind fun t101 => (some t101)) else (some false)
theorem spec_orGood.mono : ∀ a0 k, LeO (spec_orGood.f k a0) (spec_orGood.f (k + 1) a0) := by
  intro a0 k
  unfold spec_orGood.f
  repeat' first
      | (with_reducible exact spec_cdCode.mono _ _)
      | (with_reducible exact LeO.refl _)
      | (with_reducible exact LeO.none _)
      | (with_reducible refine LeO.ite ?_ ?_)
      | (with_reducible refine LeO.bind ?_ (fun _ => ?_))
      | exact spec_cdCode.mono _ _
      | exact LeO.none _
      | refine LeO.ite ?_ ?_
      | refine LeO.bind ?_ (fun _ => ?_)
set_option maxHeartbeats 8000000 in
set_option maxRecDepth 100000 in
theorem spec_orGood.calls (k : Nat) (A0 : Option Addr) (c0 : Nat) (l0 : List (S84)) (r : Bool) (w : World) (hr0 : Kd.C k84 w A0 l0.length l0) (hc0 : l0.length ≤ c0) (h : spec_orGood.f k l0 = some r) :
    Calls Try.prog 67 #[.slice A0 l0.length c0] w fun e w' => e = .returned (.bool r) ∧ Below w.heap.size w w' := by
  have HR0 := Aside0.mk hr0
  have HC0 := Aside0.mk hc0
  clear hr0 hc0
  have HB := Aside0.mk (Below.refl w.heap.size w)
  have H : (if (l0.length : Int) ≤ 20 then ((spec_cdCode.f k l0).bind fun t101 => (some t101)) else (some false)) = some r := h
  clear h
  by_cases c2 : (l0.length : Int) ≤ 20
  · rw [if_pos c2] at H
    have c2b0 : decide ((l0.length : Int) ≤ 20) = true := decide_eq_true c2
    have c2b1 : decide (l0.length ≤ 20) = true := decide_eq_true (by omega)
    clear c2
    replace H := Option.bind_eq_some_iff.mp H
    obtain ⟨t101, A30, H⟩ := H
    replace H : (some t101) = some r := H
    have A3 := Aside0.mk A30
    clear A30
    obtain rfl := Option.some.inj H
    go_enter Try.func67, Try.ntmps67
    go_wp2_with (first | (go_at_call 115; (with_reducible refine (spec_cdCode.calls k _ _ l0 t101 _ ?side1 ?side2 A3.out).mono ?_); (case side1 => repeat (first | exact HR0.out | (with_reducible refine Kd.C_alloc ?_ _) | (with_reducible refine Kd.C_drewN ?_ _) | (with_reducible refine Kd.C_drew ?_))); (case side2 => exact HC0.out); rintro e w4 ⟨rfl, hb⟩; have n0_ := Aside0.mk (below_step (by repeat (first | (with_reducible first | exact HB.out | apply below_alloc | apply pw_below_drewN | apply below_drew1) | exact HB.out)) hb); clear HB; have HB := n0_; clear n0_; (try clear hb); (try clear hb2); (try clear hk); (try clear hi)))
    go_ret
    exact ⟨by first | rfl | (simp [errW_none, errW_some] <;> rfl) | (simp [*, errW_none, errW_some] <;> rfl), by repeat (first | (with_reducible first | exact HB.out | apply below_alloc | apply pw_below_drewN | apply below_drew1) | exact HB.out)⟩
  · rw [if_neg c2] at H
    have c2b0 : decide ((l0.length : Int) ≤ 20) = false := decide_eq_false c2
    have c2b1 : decide (l0.length ≤ 20) = false := decide_eq_false (by omega)
    clear c2
    obtain rfl := Option.some.inj H
    go_enter Try.func67, Try.ntmps67
    go_wp2
    go_ret
    exact ⟨by first | rfl | (simp [errW_none, errW_some] <;> rfl) | (simp [*, errW_none, errW_some] <;> rfl), by repeat (first | (with_reducible first | exact HB.out | apply below_alloc | apply pw_below_drewN | apply below_drew1) | exact HB.out)⟩

end Go.Proofs.Ytkmdlompgbnnkaa.Q
end
section
namespace Go.Proofs.Ytkmdlompgbnnkaa.Q
open Go.RowKit Go.Proofs.YtkmdlompgbnnkaaW.PrintWords Go.Proofs.YtkmdlompgbnnkaaW.PrintLast Go.Proofs.YtkmdlompgbnnkaaW.PrintMore
attribute [local go_sem] max2_int min2_int max_two min_two max_three min_three max_four min_four
set_option linter.unusedVariables false
set_option linter.unusedSimpArgs false

/-! ### spec_orCycles: function 61 -/
def spec_orCycles.f (k : Nat) (l0 : List (S84)) (l1 : List Int) : Option (Bool) := (spec_orGood.f k l0).bind fun t101 => (if t101 = true then (if (l1.length : Int) = (l0.length : Int) then ((spec_l1All.f k l1 0 100).bind fun t102 => (some t102)) else (some false)) else (some false))
theorem spec_orCycles.mono : ∀ a0 a1 k, LeO (spec_orCycles.f k a0 a1) (spec_orCycles.f (k + 1) a0 a1) := by
  intro a0 a1 k
  unfold spec_orCycles.f
  repeat' first
      | (with_reducible exact spec_l1All.mono _ _ _ _)
      | (with_reducible exact spec_orGood.mono _ _)
      | (with_reducible exact LeO.refl _)
      | (with_reducible exact LeO.none _)
      | (with_reducible refine LeO.ite ?_ ?_)
      | (with_reducible refine LeO.bind ?_ (fun _ => ?_))
      | exact spec_l1All.mono _ _ _ _
      | exact spec_orGood.mono _ _
      | exact LeO.none _
      | refine LeO.ite ?_ ?_
      | refine LeO.bind ?_ (fun _ => ?_)
set_option maxHeartbeats 8000000 in
set_option maxRecDepth 100000 in
theorem spec_orCycles.calls (k : Nat) (A0 : Option Addr) (c0 : Nat) (l0 : List (S84)) (A1 : Option Addr) (c1 : Nat) (l1 : List Int) (r : Bool) (w : World) (hr0 : Kd.C k84 w A0 l0.length l0) (hc0 : l0.length ≤ c0) (hr1 : Kd.C (Kd.int .i64) w A1 l1.length l1) (hc1 : l1.length ≤ c1) (h : spec_orCycles.f k l0 l1 = some r) :
    Calls Try.prog 61 #[.slice A0 l0.length c0, .slice A1 l1.length c1] w fun e w' => e = .returned (.bool r) ∧ Below w.heap.size w w' := by
  have HR0 := Aside0.mk hr0
  have HC0 := Aside0.mk hc0
  clear hr0 hc0
  have HR1 := Aside0.mk hr1
  have HC1 := Aside0.mk hc1
  clear hr1 hc1
  have HB := Aside0.mk (Below.refl w.heap.size w)
  have H : ((spec_orGood.f k l0).bind fun t101 => (if t101 = true then (if (l1.length : Int) = (l0.length : Int) then ((spec_l1All.f k l1 0 100).bind fun t102 => (some t102)) else (some false)) else (some false))) = some r := h
  clear h
  replace H := Option.bind_eq_some_iff.mp H
  obtain ⟨t101, A30, H⟩ := H
  replace H : (if t101 = true then (if (l1.length : Int) = (l0.length : Int) then ((spec_l1All.f k l1 0 100).bind fun t102 => (some t102)) else (some false)) else (some false)) = some r := H
  have A3 := Aside0.mk A30
  clear A30
  by_cases c4 : t101 = true
  · subst c4
    have H1 : (if (l1.length : Int) = (l0.length : Int) then ((spec_l1All.f k l1 0 100).bind fun t102 => (some t102)) else (some false)) = some r := by rw [if_pos rfl] at H; exact H
    clear H
    have H := H1
    clear H1
    by_cases c5 : (l1.length : Int) = (l0.length : Int)
    · rw [if_pos c5] at H
      have c5b0 : ((l1.length : Int) == (l0.length : Int)) = true := beq_iff_eq.mpr c5
      have c5b1 : ((l1.length : Int) != (l0.length : Int)) = false := bne_eq_false_iff_eq.mpr c5
      have c5b2 : (l1.length == l0.length) = true := by first | simpa using c5 | (simp at c5 ⊢; omega)
      clear c5
      replace H := Option.bind_eq_some_iff.mp H
      obtain ⟨t102, A60, H⟩ := H
      replace H : (some t102) = some r := H
      have A6 := Aside0.mk A60
      clear A60
      obtain rfl := Option.some.inj H
      go_enter Try.func61, Try.ntmps61
      go_wp2_with (first | ((with_reducible refine gate_callee (f := 67) rfl ?_); refine goesL_ (some 6) rfl rfl Try.func67 (by kernel_rfl) rfl #[.slice A0 l0.length c0] rfl (by (try simp only [List.map_toArray, List.map_cons, List.map_nil]); first | done | rfl | (simp only [List.length_drop, List.length_take]; rfl)) ?_; (with_reducible refine (spec_orGood.calls k _ _ l0 true _ ?side1 ?side2 A3.out).mono ?_); (case side1 => repeat (first | exact HR0.out | (with_reducible refine Kd.C_alloc ?_ _) | (with_reducible refine Kd.C_drewN ?_ _) | (with_reducible refine Kd.C_drew ?_))); (case side2 => exact HC0.out); rintro e w7 ⟨rfl, hb⟩; refine ⟨_, rfl, ?_⟩; have n0_ := Aside0.mk (below_step (by repeat (first | (with_reducible first | exact HB.out | apply below_alloc | apply pw_below_drewN | apply below_drew1) | exact HB.out)) hb); clear HB; have HB := n0_; clear n0_; (try clear hb); (try clear hb2); (try clear hk); (try clear hi)) | (go_at_call 109; (with_reducible refine (spec_l1All.calls k _ _ l1 0 100 t102 _ ?side1 ?side2 A6.out).mono ?_); (case side1 => repeat (first | exact (Kd.C_below HR1.out HB.out) | (with_reducible refine Kd.C_alloc ?_ _) | (with_reducible refine Kd.C_drewN ?_ _) | (with_reducible refine Kd.C_drew ?_))); (case side2 => exact HC1.out); rintro e w' ⟨rfl, ⟨nd, rfl⟩⟩))
      go_ret
      exact ⟨by first | rfl | (simp [errW_none, errW_some] <;> rfl) | (simp [*, errW_none, errW_some] <;> rfl), by repeat (first | (with_reducible first | exact HB.out | apply below_alloc | apply pw_below_drewN | apply below_drew1) | exact HB.out)⟩
    · rw [if_neg c5] at H
      have c5b0 : ((l1.length : Int) == (l0.length : Int)) = false := beq_eq_false_iff_ne.mpr c5
      have c5b1 : ((l1.length : Int) != (l0.length : Int)) = true := bne_iff_ne.mpr c5
      have c5b2 : (l1.length == l0.length) = false := by first | simpa using c5 | (simp at c5 ⊢; omega)
      obtain rfl := Option.some.inj H
      go_enter Try.func61, Try.ntmps61
      go_wp2_with (first | ((with_reducible refine gate_callee (f := 67) rfl ?_); refine goesL_ (some 6) rfl rfl Try.func67 (by kernel_rfl) rfl #[.slice A0 l0.length c0] rfl (by (try simp only [List.map_toArray, List.map_cons, List.map_nil]); first | done | rfl | (simp only [List.length_drop, List.length_take]; rfl)) ?_; (with_reducible refine (spec_orGood.calls k _ _ l0 true _ ?side1 ?side2 A3.out).mono ?_); (case side1 => repeat (first | exact HR0.out | (with_reducible refine Kd.C_alloc ?_ _) | (with_reducible refine Kd.C_drewN ?_ _) | (with_reducible refine Kd.C_drew ?_))); (case side2 => exact HC0.out); rintro e w8 ⟨rfl, hb⟩; refine ⟨_, rfl, ?_⟩; have n0_ := Aside0.mk (below_step (by repeat (first | (with_reducible first | exact HB.out | apply below_alloc | apply pw_below_drewN | apply below_drew1) | exact HB.out)) hb); clear HB; have HB := n0_; clear n0_; (try clear hb); (try clear hb2); (try clear hk); (try clear hi)))
      go_ret
      exact ⟨by first | rfl | (simp [errW_none, errW_some] <;> rfl) | (simp [*, errW_none, errW_some] <;> rfl), by repeat (first | (with_reducible first | exact HB.out | apply below_alloc | apply pw_below_drewN | apply below_drew1) | exact HB.out)⟩
  · replace c4 := Bool.eq_false_iff.mpr c4
    subst c4
    have H1 : (some false) = some r := by rw [if_neg (show ¬ (false = true) by decide)] at H; exact H
    clear H
    have H := H1
    clear H1
    obtain rfl := Option.some.inj H
    go_enter Try.func61, Try.ntmps61
    go_wp2_with (first | ((with_reducible refine gate_callee (f := 67) rfl ?_); refine goesL_ (some 6) rfl rfl Try.func67 (by kernel_rfl) rfl #[.slice A0 l0.length c0] rfl (by (try simp only [List.map_toArray, List.map_cons, List.map_nil]); first | done | rfl | (simp only [List.length_drop, List.length_take]; rfl)) ?_; (with_reducible refine (spec_orGood.calls k _ _ l0 false _ ?side1 ?side2 A3.out).mono ?_); (case side1 => repeat (first | exact HR0.out | (with_reducible refine Kd.C_alloc ?_ _) | (with_reducible refine Kd.C_drewN ?_ _) | (with_reducible refine Kd.C_drew ?_))); (case side2 => exact HC0.out); rintro e w9 ⟨rfl, hb⟩; refine ⟨_, rfl, ?_⟩; have n0_ := Aside0.mk (below_step (by repeat (first | (with_reducible first | exact HB.out | apply below_alloc | apply pw_below_drewN | apply below_drew1) | exact HB.out)) hb); clear HB; have HB := n0_; clear n0_; (try clear hb); (try clear hb2); (try clear hk); (try clear hi)))
    go_ret
    exact ⟨by first | rfl | (simp [errW_none, errW_some] <;> rfl) | (simp [*, errW_none, errW_some] <;> rfl), by repeat (first | (with_reducible first | exact HB.out | apply below_alloc | apply pw_below_drewN | apply below_drew1) | exact HB.out)⟩

end Go.Proofs.Ytkmdlompgbnnkaa.Q
end
section
namespace Go.Proofs.Ytkmdlompgbnnkaa.PL
open Go Go.RowKit Go.Proofs.YtkmdlompgbnnkaaW.PrintWords Go.Proofs.YtkmdlompgbnnkaaW.PrintLast Go.Proofs.YtkmdlompgbnnkaaW.PrintMore Go.Proofs.Ytkmdlompgbnnkaa.Q
set_option linter.unusedSimpArgs false
set_option linter.unusedVariables false

def okCode (l : List Instr) : Bool := decide (l.length ≤ 40) && l.all (fun x => decide (okI x))
def okBlock (l : List Instr) : Bool := decide (l.length ≤ 20) && l.all (fun x => decide (okI x))

theorem isCode_ev (l : List Instr) : Ev (fun k => impl_IsCode.f k l) (okCode l) := by
  unfold impl_IsCode.f
  by_cases hl : l.length ≤ 40
  · refine Ev.ifp (by omega) ?_
    have h : Ev (fun k => slices_IndexFunc_impl_IsCode_1.f k l) (idx (fun x => !decide (okI x)) l) := by
      unfold slices_IndexFunc_impl_IsCode_1.f
      refine search_ev l _ (fun k i => slices_IndexFunc_impl_IsCode_1.l0 k l l.length i) ?_ (fun i x hi hx hp => ?_) (fun i x r hi hx hp hr => ?_)
      · refine Ev.step (f := fun _ => some (-1)) (fun k => ?_) (Ev.now _)
        simp only [slices_IndexFunc_impl_IsCode_1.l0]
        rw [if_neg (by omega)]
      · refine Ev.step (f := fun _ => some (i : Int)) (fun k => ?_) (Ev.now _)
        simp only [slices_IndexFunc_impl_IsCode_1.l0, impl_IsCode_1.f, rdI_eq hx, isInstr_eq, Option.bind_some, hp]
        rw [if_pos (by omega), if_pos (by omega), if_pos (by omega), if_pos trivial]
      · refine Ev.step (fun k => ?_) hr
        simp only [slices_IndexFunc_impl_IsCode_1.l0, impl_IsCode_1.f, rdI_eq hx, isInstr_eq, Option.bind_some, hp]
        rw [if_pos (by omega), if_pos (by omega), if_pos (by omega), if_neg (by simp), w64n i (by omega)]
    unfold slices_ContainsFunc_impl_IsCode_1.f
    refine Ev.bind (Ev.bind h (Ev.now _)) (Ev.some ?_)
    have e := idx_nonneg (fun x => !decide (okI x)) l
    unfold okCode
    rw [show decide (l.length ≤ 40) = true by simpa using hl, Bool.true_and]
    by_cases hc : 0 ≤ idx (fun x => !decide (okI x)) l
    · obtain ⟨x, hx, hx'⟩ := e.1 hc
      rw [decide_eq_true (show idx (fun x => !decide (okI x)) l ≥ 0 from hc)]
      symm
      simpa using ⟨x, hx, by simpa using hx'⟩
    · rw [decide_eq_false (show ¬ idx (fun x => !decide (okI x)) l ≥ 0 from hc)]
      symm
      have := fun h => hc (e.2 h)
      simpa using this
  · refine Ev.ifn (by omega) (Ev.some ?_)
    unfold okCode
    rw [show decide (l.length ≤ 40) = false by simpa using hl]
    rfl
theorem cdCode_ev (l : List Instr) : Ev (fun k => spec_cdCode.f k l) (okCode l) := by
  unfold spec_cdCode.f
  by_cases hl : l.length ≤ 40
  · refine Ev.ifn (by omega) ?_
    unfold okCode
    rw [show decide (l.length ≤ 40) = true by simpa using hl, Bool.true_and]
    refine all_ev l _ (fun k i => spec_cdCode.l0 k l l.length i) ?_ (fun i x hi hx hp => ?_) (fun i x r hi hx hp hr => ?_)
    · refine Ev.step (f := fun _ => some true) (fun k => ?_) (Ev.now _)
      simp only [spec_cdCode.l0]
      rw [if_neg (by omega)]
    · refine Ev.step (fun k => by simp only [spec_cdCode.l0, rdI_eq hx]; rfl) ?_
      refine Ev.ifp (by omega) (Ev.ifp (by omega) (Ev.ifp (by omega) ?_))
      exact Ev.bind (cdGood_ev x) (Ev.ifn (by simpa using hp) (Ev.now _))
    · refine Ev.step (fun k => by simp only [spec_cdCode.l0, rdI_eq hx, w64n i (show i < 4611686018427387904 by omega)]; rfl) ?_
      refine Ev.ifp (by omega) (Ev.ifp (by omega) (Ev.ifp (by omega) ?_))
      exact Ev.bind (cdGood_ev x) (Ev.ifp (by simpa using hp) hr)
  · refine Ev.ifp (by omega) (Ev.some ?_)
    unfold okCode
    rw [show decide (l.length ≤ 40) = false by simpa using hl]
    rfl
theorem okBlock_eq (l : List Instr) : okBlock l = (okCode l && decide (l.length ≤ 20)) := by
  unfold okBlock okCode
  by_cases h : l.length ≤ 20
  · simp [h, show l.length ≤ 40 by omega]
  · simp [h]
theorem isBlock_ev (l : List Instr) : Ev (fun k => impl_isBlock.f k l) (okBlock l) := by
  unfold impl_isBlock.f
  refine Ev.bind (isCode_ev l) ?_
  rw [okBlock_eq]
  cases h : okCode l
  · exact Ev.ifn (by simp) (Ev.some rfl)
  · refine Ev.ifp rfl (Ev.some ?_)
    rw [Bool.true_and, decide_eq_decide]
    omega
theorem orGood_ev (l : List Instr) : Ev (fun k => spec_orGood.f k l) (okBlock l) := by
  unfold spec_orGood.f
  rw [okBlock_eq]
  by_cases h : l.length ≤ 20
  · refine Ev.ifp (by omega) (Ev.bind (cdCode_ev l) (Ev.some ?_))
    simp [h]
  · refine Ev.ifn (by omega) (Ev.some ?_)
    simp [h]

def okCycles (l : List Instr) (c : List Int) : Bool := okBlock l && decide (c.length = l.length) && c.all (fun n => decide (0 ≤ n ∧ n ≤ 100))
theorem l1All_ev (c : List Int) (a b : Int) (hc : c.length ≤ 1048576) : Ev (fun k => spec_l1All.f k c a b) (c.all (fun n => decide (a ≤ n ∧ n ≤ b))) := by
  unfold spec_l1All.f
  refine all_ev c _ (fun k i => spec_l1All.l0 k a b c c.length i) ?_ (fun i x hi hx hp => ?_) (fun i x r hi hx hp hr => ?_)
  · refine Ev.step (f := fun _ => some true) (fun k => ?_) (Ev.now _)
    simp only [spec_l1All.l0]
    rw [if_neg (by omega)]
  · refine Ev.step (f := fun _ => some false) (fun k => ?_) (Ev.now _)
    simp only [spec_l1All.l0, rd_eq hx, l1In_eq, Option.bind_some, hp]
    rw [if_pos (by omega), if_pos (by omega), if_pos (by omega), if_neg (by simp)]
  · refine Ev.step (fun k => ?_) hr
    simp only [spec_l1All.l0, rd_eq hx, l1In_eq, Option.bind_some, hp]
    rw [if_pos (by omega), if_pos (by omega), if_pos (by omega), if_pos trivial, w64n i (by omega)]
theorem areCycles_ev (l : List Instr) (c : List Int) (hc : c.length ≤ 1048576) : Ev (fun k => impl_areCycles.f k l c) (okCycles l c) := by
  unfold impl_areCycles.f
  refine Ev.bind (isBlock_ev l) ?_
  unfold okCycles
  cases h : okBlock l
  · exact Ev.ifn (by simp) (Ev.some rfl)
  · refine Ev.ifp rfl ?_
    by_cases hl : c.length = l.length
    · refine Ev.ifp (by omega) ?_
      have h : Ev (fun k => slices_IndexFunc_impl_areCycles_1.f k c) (idx (fun n => !decide (0 ≤ n ∧ n ≤ 100)) c) := by
        unfold slices_IndexFunc_impl_areCycles_1.f
        refine search_ev c _ (fun k i => slices_IndexFunc_impl_areCycles_1.l0 k c c.length i) ?_ (fun i x hi hx hp => ?_) (fun i x r hi hx hp hr => ?_)
        · refine Ev.step (f := fun _ => some (-1)) (fun k => ?_) (Ev.now _)
          simp only [slices_IndexFunc_impl_areCycles_1.l0]
          rw [if_neg (by omega)]
        · refine Ev.step (f := fun _ => some (i : Int)) (fun k => ?_) (Ev.now _)
          simp only [slices_IndexFunc_impl_areCycles_1.l0, impl_areCycles_1.f, rd_eq hx, within_eq, Option.bind_some, hp]
          rw [if_pos (by omega), if_pos (by omega), if_pos (by omega), if_pos trivial]
        · refine Ev.step (fun k => ?_) hr
          simp only [slices_IndexFunc_impl_areCycles_1.l0, impl_areCycles_1.f, rd_eq hx, within_eq, Option.bind_some, hp]
          rw [if_pos (by omega), if_pos (by omega), if_pos (by omega), if_neg (by simp), w64n i (by omega)]
      unfold slices_ContainsFunc_impl_areCycles_1.f
      refine Ev.bind (Ev.bind h (Ev.now _)) (Ev.some ?_)
      have e := idx_nonneg (fun n : Int => !decide (0 ≤ n ∧ n ≤ 100)) c
      rw [show decide (c.length = l.length) = true by simpa using hl, Bool.true_and, Bool.true_and]
      by_cases hc : 0 ≤ idx (fun n : Int => !decide (0 ≤ n ∧ n ≤ 100)) c
      · obtain ⟨x, hx, hx'⟩ := e.1 hc
        rw [decide_eq_true (show idx (fun n : Int => !decide (0 ≤ n ∧ n ≤ 100)) c ≥ 0 from hc)]
        symm
        show _ = false
        rw [List.all_eq_false]
        exact ⟨x, hx, fun hd => by rw [hd] at hx'; cases hx'⟩
      · rw [decide_eq_false (show ¬ idx (fun n : Int => !decide (0 ≤ n ∧ n ≤ 100)) c ≥ 0 from hc)]
        symm
        show _ = true
        rw [List.all_eq_true]
        intro x hx
        have : ¬ ((!decide (0 ≤ x ∧ x ≤ 100)) = true) := fun h => hc (e.2 ⟨x, hx, h⟩)
        simpa using this
    · refine Ev.ifn (by omega) (Ev.some ?_)
      simp [hl]
theorem orCycles_ev (l : List Instr) (c : List Int) (hc : c.length ≤ 1048576) : Ev (fun k => spec_orCycles.f k l c) (okCycles l c) := by
  unfold spec_orCycles.f
  refine Ev.bind (orGood_ev l) ?_
  unfold okCycles
  cases h : okBlock l
  · exact Ev.ifn (by simp) (Ev.some rfl)
  · refine Ev.ifp rfl ?_
    by_cases hl : c.length = l.length
    · refine Ev.ifp (by omega) (Ev.bind (l1All_ev c 0 100 hc) (Ev.some ?_))
      simp [hl]
    · refine Ev.ifn (by omega) (Ev.some ?_)
      simp [hl]
end Go.Proofs.Ytkmdlompgbnnkaa.PL
end
section
namespace Go.Proofs.Ytkmdlompgbnnkaa.PL
open Go Go.RowKit Go.Proofs.YtkmdlompgbnnkaaW.PrintWords Go.Proofs.YtkmdlompgbnnkaaW.PrintLast Go.Proofs.YtkmdlompgbnnkaaW.PrintMore Go.Proofs.Ytkmdlompgbnnkaa.Q
set_option linter.unusedSimpArgs false
set_option linter.unusedVariables false

theorem and63_eq (n : Int) : bits .and .i64 n 63 = n % 64 := by
  have h63 : (BitVec.ofInt 64 63).toNat = 2 ^ 6 - 1 := by decide
  have key : (BitVec.ofInt 64 n &&& BitVec.ofInt 64 63).toNat = (n % ((2 ^ 64 : Nat) : Int)).toNat % 2 ^ 6 := by
    rw [BitVec.toNat_and, BitVec.toNat_ofInt, h63, Nat.and_two_pow_sub_one_eq_mod]
  show IntKind.i64.wrap ((BitVec.ofInt 64 n &&& BitVec.ofInt 64 63).toNat : Nat) = n % 64
  rw [key, IntKind.wrap_i64]
  omega
def okV (v : Int) : Prop := 0 ≤ v ∧ v ≤ 63
theorem okV_and (n : Int) : okV (bits .and .i64 n 63) := by
  rw [and63_eq]
  unfold okV
  omega
theorem bit_eq (b : Bool) : impl_bit.f b = some (if b = true then 1 else 0) := by
  cases b <;> rfl
theorem apply_eq (s : ByteArray) (a b : Int) : impl_apply.f s a b = spec_exApply.f s a b := by
  unfold impl_apply.f spec_exApply.f
  simp only [bit_eq, Option.bind_some]
  repeat refine ite_congr rfl (fun _ => rfl) (fun _ => ?_)
  refine ite_congr rfl (fun _ => ?_) (fun _ => ite_congr rfl (fun _ => ?_) (fun _ => rfl))
  · by_cases h : a < b
    · rw [if_pos h, if_pos (by simpa using h)]
    · rw [if_neg h, if_neg (by simpa using h)]
  · by_cases h : a = b
    · rw [if_pos h, if_pos (by simpa using h)]
    · rw [if_neg h, if_neg (by simpa using h)]
theorem ex_ite {c : Prop} [Decidable c] {x y : Option Int} {P : Int → Prop} (hx : ∃ v, x = some v ∧ P v) (hy : ∃ v, y = some v ∧ P v) : ∃ v, (if c then x else y) = some v ∧ P v := by
  by_cases h : c
  · rw [if_pos h]; exact hx
  · rw [if_neg h]; exact hy
theorem exApply_ok (s : ByteArray) (a b : Int) (hb : 0 ≤ b) : ∃ v, spec_exApply.f s a b = some v ∧ okV v := by
  unfold spec_exApply.f
  rw [if_pos hb, if_pos hb]
  repeat' refine ex_ite ?_ ?_
  all_goals exact ⟨_, rfl, okV_and _⟩

def okS (s : List Int) : Prop := s.length = 6 ∧ ∀ v ∈ s, okV v
theorem okS_rd {s : List Int} (h : okS s) {i : Int} (h0 : 0 ≤ i) (h1 : i ≤ 5) : okV (rd s i) := by
  have hi : i.toNat < s.length := by rw [h.1]; omega
  unfold rd
  rw [getD_eq s _ hi]
  exact h.2 _ (List.getElem_mem hi)
theorem okS_set {s : List Int} (h : okS s) (i : Nat) {v : Int} (hv : okV v) : okS (s.set i v) := by
  refine ⟨by rw [List.length_set]; exact h.1, fun u hu => ?_⟩
  rcases List.mem_or_eq_of_mem_set hu with hu | rfl
  · exact h.2 u hu
  · exact hv
theorem okI_regs {x : Instr} (h : okI x) : 0 ≤ x.f1 ∧ x.f1 ≤ 5 ∧ 0 ≤ x.f2 ∧ x.f2 ≤ 5 ∧ 0 ≤ x.f3 ∧ x.f3 ≤ 5 ∧ 0 ≤ x.f4 ∧ x.f4 ≤ 63 := by
  obtain ⟨hc, h1, h2, h3, h4⟩ := h
  rcases cls_cases x.f0 with e | e | e | e | e | e | e | e | e <;> simp only [e, shapeC] at h2 h3 h4 <;> simp at h2 h3 h4 <;> first | omega | exact absurd e hc
/-- What an instruction gives. -/
theorem value_ok (x : Instr) (s : List Int) (h : okI x) (hs : okS s) : ∃ v, spec_cdValue.f x.f0 x.f1 x.f2 x.f3 x.f4 s = some v ∧ okV v := by
  obtain ⟨h1, h1', h2, h2', h3, h3', h4, h4'⟩ := okI_regs h
  have hl := hs.1
  have ha := okS_rd hs h2 h2'
  have hb := okS_rd hs h3 h3'
  unfold spec_cdValue.f
  rw [if_pos h2, if_pos (by omega), if_pos h3, if_pos (by omega)]
  have one : ∀ t a b, 0 ≤ b → ∃ v, ((spec_exApply.f t a b).bind fun v => some v) = some v ∧ okV v := fun t a b hb => by
    obtain ⟨v, e, hv⟩ := exApply_ok t a b hb
    exact ⟨v, by rw [e]; rfl, hv⟩
  by_cases qset : x.f0.toList = ([115, 101, 116] : List UInt8)
  · rw [if_pos qset]
    exact ⟨_, rfl, h4, h4'⟩
  rw [if_neg qset]
  by_cases qmov : x.f0.toList = ([109, 111, 118] : List UInt8)
  · rw [if_pos qmov]
    exact ⟨_, rfl, ha⟩
  rw [if_neg qmov]
  by_cases qaddi : x.f0.toList = ([97, 100, 100, 105] : List UInt8)
  · rw [if_pos qaddi]
    exact one _ _ _ h4
  rw [if_neg qaddi]
  by_cases qandi : x.f0.toList = ([97, 110, 100, 105] : List UInt8)
  · rw [if_pos qandi]
    exact one _ _ _ h4
  rw [if_neg qandi]
  by_cases qxori : x.f0.toList = ([120, 111, 114, 105] : List UInt8)
  · rw [if_pos qxori]
    exact one _ _ _ h4
  rw [if_neg qxori]
  by_cases qshli : x.f0.toList = ([115, 104, 108, 105] : List UInt8)
  · rw [if_pos qshli]
    exact one _ _ _ h4
  rw [if_neg qshli]
  by_cases qshri : x.f0.toList = ([115, 104, 114, 105] : List UInt8)
  · rw [if_pos qshri]
    exact one _ _ _ h4
  rw [if_neg qshri]
  by_cases qlea : x.f0.toList = ([108, 101, 97] : List UInt8)
  · rw [if_pos qlea]
    obtain ⟨v, e, hv⟩ := exApply_ok (⟨#[115, 104, 108]⟩ : ByteArray) (rd s x.f3) x.f4 h4
    obtain ⟨v', e', hv'⟩ := exApply_ok (⟨#[97, 100, 100]⟩ : ByteArray) (rd s x.f2) v hv.1
    exact ⟨v', by rw [e, Option.bind_some, e']; rfl, hv'⟩
  rw [if_neg qlea]
  exact one _ _ _ hb.1
/-- The value of an instruction. -/
def valM (x : Instr) (s : List Int) : Int := (spec_cdValue.f x.f0 x.f1 x.f2 x.f3 x.f4 s).getD 0
def stepM (s : List Int) (x : Instr) : List Int := s.set x.f1.toNat (valM x s)
theorem valM_eq (x : Instr) (s : List Int) (h : okI x) (hs : okS s) : spec_cdValue.f x.f0 x.f1 x.f2 x.f3 x.f4 s = some (valM x s) ∧ okV (valM x s) := by
  obtain ⟨v, e, hv⟩ := value_ok x s h hs
  unfold valM
  rw [e]
  exact ⟨rfl, hv⟩
theorem stepM_ok (x : Instr) (s : List Int) (h : okI x) (hs : okS s) : okS (stepM s x) := okS_set hs _ (valM_eq x s h hs).2
theorem cut3 {s : ByteArray} {a b c d : UInt8} (h : s.toList = [a, b, c, d]) : (3 : Int) ≤ (s.size : Int) ∧ s.extract 0 3 = ⟨#[a, b, c]⟩ := by
  have e : s = ⟨#[a, b, c, d]⟩ := str_lit.1 h
  rw [e]
  exact ⟨by show (3 : Int) ≤ ((4 : Nat) : Int); decide, rfl⟩
theorem word_ev (x : Instr) (s : List Int) (h : okI x) (hs : okS s) : Ev (fun k => impl_Instr_word.f k x.f0 x.f1 x.f2 x.f3 x.f4 (rd s x.f2) (rd s x.f3)) (valM x s) := by
  obtain ⟨h1, h1', h2, h2', h3, h3', h4, h4'⟩ := okI_regs h
  have hl := hs.1
  have e := (valM_eq x s h hs).1
  generalize valM x s = v at e
  unfold spec_cdValue.f at e
  rw [if_pos h2, if_pos (by omega), if_pos h3, if_pos (by omega)] at e
  have bs : ∀ (o : Option Int) r, (o.bind fun v => some v) = some r → o = some r := fun o r h => by
    cases o with
    | none => cases h
    | some y => exact h
  unfold impl_Instr_word.f
  by_cases q1 : x.f0.toList = [115, 101, 116]
  · rw [if_pos q1] at e
    exact Ev.ifp q1 (Ev.const e)
  refine Ev.ifn q1 ?_
  rw [if_neg q1] at e
  by_cases q2 : x.f0.toList = [109, 111, 118]
  · rw [if_pos q2] at e
    exact Ev.ifp q2 (Ev.const e)
  refine Ev.ifn q2 ?_
  rw [if_neg q2] at e
  by_cases q3 : x.f0.toList = [108, 101, 97]
  · refine Ev.ifp q3 (Ev.const ?_)
    rw [if_neg (by rw [q3]; decide), if_neg (by rw [q3]; decide), if_neg (by rw [q3]; decide), if_neg (by rw [q3]; decide), if_neg (by rw [q3]; decide), if_pos q3] at e
    simp only [apply_eq]
    exact e
  refine Ev.ifn q3 ?_
  have imm : ∀ a b c d : UInt8, x.f0.toList = [a, b, c, d] → spec_exApply.f ⟨#[a, b, c]⟩ (rd s x.f2) x.f4 = some v → Ev (fun k => impl_Instr_word.j0 k (rd s x.f2) (rd s x.f3) (x.f0.toList == ([a, b, c, d] : List UInt8)) x.f0 x.f1 x.f2 x.f3 x.f4) v := fun a b c d q hv => by
    obtain ⟨hc, hc'⟩ := cut3 q
    refine Ev.step (fun k => by simp only [impl_Instr_word.j0]; rfl) (Ev.ifp (by rw [q]; simp) (Ev.ifp (by decide) (Ev.ifp hc (Ev.const ?_))))
    rw [apply_eq, hc', hv]
    rfl
  by_cases q4 : x.f0.toList = [97, 100, 100, 105]
  · rw [if_pos q4] at e
    exact Ev.ifp q4 (imm _ _ _ _ q4 (bs _ _ e))
  refine Ev.ifn q4 ?_
  rw [if_neg q4] at e
  by_cases q5 : x.f0.toList = [97, 110, 100, 105]
  · rw [if_pos q5] at e
    exact Ev.ifp q5 (imm _ _ _ _ q5 (bs _ _ e))
  refine Ev.ifn q5 ?_
  rw [if_neg q5] at e
  by_cases q6 : x.f0.toList = [120, 111, 114, 105]
  · rw [if_pos q6] at e
    exact Ev.ifp q6 (imm _ _ _ _ q6 (bs _ _ e))
  refine Ev.ifn q6 ?_
  rw [if_neg q6] at e
  by_cases q7 : x.f0.toList = [115, 104, 108, 105]
  · rw [if_pos q7] at e
    exact Ev.ifp q7 (imm _ _ _ _ q7 (bs _ _ e))
  refine Ev.ifn q7 ?_
  rw [if_neg q7] at e
  by_cases q8 : x.f0.toList = [115, 104, 114, 105]
  · rw [if_pos q8] at e
    exact imm _ _ _ _ q8 (bs _ _ e)
  rw [if_neg q8, if_neg q3] at e
  refine Ev.step (fun k => by simp only [impl_Instr_word.j0]; rfl) (Ev.ifn (by simpa using q8) (Ev.const ?_))
  rw [apply_eq, bs _ _ e]
  rfl
/-- A run. -/
def runM (l : List Instr) (s : List Int) : List Int := l.foldl stepM s
theorem runM_ok (l : List Instr) (h : ∀ x ∈ l, okI x) : ∀ s, okS s → okS (runM l s) := by
  induction l with
  | nil => exact fun s hs => hs
  | cons x l ih => exact fun s hs => ih (fun y hy => h y (List.mem_cons_of_mem _ hy)) _ (stepM_ok x s (h x (List.mem_cons_self)) hs)
theorem run_ev (l : List Instr) (hl : l.length ≤ 40) (h : ∀ x ∈ l, okI x) (s : List Int) (hs : okS s) : Ev (fun k => impl_run.f k l s) (runM l s) := by
  unfold impl_run.f
  have key : ∀ (d i : Nat) (s : List Int), okS s → i + d = l.length → Ev (fun k => impl_run.l0 k s l l.length i) (runM (l.drop i) s) := by
    intro d
    induction d with
    | zero =>
      intro i s hs hi
      refine Ev.step (f := fun _ => some s) (fun k => ?_) (Ev.some ?_)
      · simp only [impl_run.l0]
        rw [if_neg (by omega)]
      · rw [List.drop_of_length_le (by omega)]
        rfl
    | succ d ih =>
      intro i s hs hi
      have hlt : i < l.length := by omega
      have e : l.drop i = l[i] :: l.drop (i + 1) := List.drop_eq_getElem_cons hlt
      have hx := rdI_eq (getD_eq l i hlt)
      have ok := h l[i] (List.getElem_mem hlt)
      obtain ⟨h1, h1', h2, h2', h3, h3', h4, h4'⟩ := okI_regs ok
      have hq := hs.1
      rw [e]
      refine Ev.step (fun k => by simp only [impl_run.l0, hx]; rfl) ?_
      refine Ev.ifp (by omega) (Ev.ifp (by omega) (Ev.ifp (by omega) (Ev.ifp h2 (Ev.ifp (by omega) (Ev.ifp h3 (Ev.ifp (by omega) ?_))))))
      refine Ev.bind (word_ev l[i] s ok hs) ?_
      refine Ev.ifp h1 (Ev.ifp (by omega) ?_)
      rw [w64n i (by omega)]
      exact ih (i + 1) _ (stepM_ok _ s ok hs) (by omega)
  simpa using key l.length 0 s hs (by omega)
theorem own_eq (l : List Int) (h : l.length ≤ 1048576) : spec_l1Own.f l = some l := by
  unfold spec_l1Own.f
  rw [Option.bind_some, if_pos (by simp; omega)]
  rfl
theorem cdStep_eq (x : Instr) (s : List Int) (h : okI x) (hs : okS s) : spec_cdStep.f x.f0 x.f1 x.f2 x.f3 x.f4 s = some (stepM s x) := by
  obtain ⟨h1, h1', h2, h2', h3, h3', h4, h4'⟩ := okI_regs h
  have hq := hs.1
  unfold spec_cdStep.f
  rw [own_eq s (by omega), Option.bind_some, (valM_eq x s h hs).1, Option.bind_some, if_pos h1, if_pos (by omega)]
  rfl
theorem cdRun_ev (l : List Instr) (hl : l.length ≤ 40) (h : ∀ x ∈ l, okI x) (s : List Int) (hs : okS s) : Ev (fun k => spec_cdRun.f k l s) (runM l s) := by
  unfold spec_cdRun.f
  refine Ev.call (own_eq s (by rw [hs.1]; decide)) ?_
  have key : ∀ (d i : Nat) (s : List Int), okS s → i + d = l.length → Ev (fun k => spec_cdRun.l0 k s l l.length i) (runM (l.drop i) s) := by
    intro d
    induction d with
    | zero =>
      intro i s hs hi
      refine Ev.step (f := fun _ => some s) (fun k => ?_) (Ev.some ?_)
      · simp only [spec_cdRun.l0]
        rw [if_neg (by omega)]
      · rw [List.drop_of_length_le (by omega)]
        rfl
    | succ d ih =>
      intro i s hs hi
      have hlt : i < l.length := by omega
      have e : l.drop i = l[i] :: l.drop (i + 1) := List.drop_eq_getElem_cons hlt
      have hx := rdI_eq (getD_eq l i hlt)
      have ok := h l[i] (List.getElem_mem hlt)
      rw [e]
      refine Ev.step (fun k => ?_) (ih (i + 1) _ (stepM_ok _ s ok hs) (by omega))
      simp only [spec_cdRun.l0, hx]
      rw [if_pos (by omega), if_pos (by omega), if_pos (by omega), cdStep_eq _ s ok hs, Option.bind_some, w64n i (by omega)]
  simpa using key l.length 0 s hs (by omega)
/-- The start of a run. -/
def st0 (a b : Int) : List Int := [a, b, 0, 0, 0, 0]
theorem st0_ok {a b : Int} (ha : okV a) (hb : okV b) : okS (st0 a b) := by
  refine ⟨rfl, fun v hv => ?_⟩
  have hz : okV 0 := by unfold okV; decide
  simp only [st0, List.mem_cons, List.not_mem_nil, or_false] at hv
  rcases hv with rfl | rfl | rfl | rfl | rfl | rfl <;> assumption
/-- How a block ends. -/
def endM (l : List Instr) (a b : Int) : List Int := runM l (st0 a b)
theorem result_ev (l : List Instr) (hl : l.length ≤ 40) (h : ∀ x ∈ l, okI x) {a b : Int} (ha : okV a) (hb : okV b) : Ev (fun k => impl_result.f k l a b) (endM l a b) := by
  unfold impl_result.f
  refine Ev.ifp (by decide) (Ev.call rfl (Ev.ifp (by decide) (Ev.ifp (by decide) ?_)))
  exact Ev.bind (run_ev l hl h (st0 a b) (st0_ok ha hb)) (Ev.now _)
theorem cdStart_eq (a b : Int) : spec_cdStart.f a b = some (st0 a b) := rfl
/-- The ends of all runs. -/
def endsL (l : List Instr) : List (List Int) := (List.range 64).flatMap fun x0 : Nat => (List.range 64).map fun x1 : Nat => endM l x0 x1
def endsR (l : List Instr) (x0 n : Nat) : List (List Int) := (List.range n).map fun x1 : Nat => endM l x0 x1
def endsN (l : List Instr) (n : Nat) : List (List Int) := (List.range n).flatMap fun x0 => endsR l x0 64
theorem endsR_succ (l : List Instr) (x0 n : Nat) : endsR l x0 (n + 1) = endsR l x0 n ++ [endM l x0 n] := by simp [endsR, List.range_succ]
theorem endsN_succ (l : List Instr) (n : Nat) : endsN l (n + 1) = endsN l n ++ endsR l n 64 := by simp [endsN, List.range_succ]
theorem endsR_len (l : List Instr) (x0 n : Nat) : (endsR l x0 n).length = n := by simp [endsR]
theorem endsN_len (l : List Instr) (n : Nat) : (endsN l n).length = 64 * n := by
  induction n with
  | zero => rfl
  | succ n ih => rw [endsN_succ, List.length_append, ih, endsR_len]; omega
theorem vaEnds_ev (l : List Instr) (hl : l.length ≤ 40) (h : ∀ x ∈ l, okI x) : Ev (fun k => spec_vaEnds.f k l) (endsN l 64) := by
  unfold spec_vaEnds.f
  have inner : ∀ (i : Nat), i < 64 → (Ev (fun k => spec_vaEnds.l0 k l (endsN l (i + 1)) ((i + 1 : Nat) : Int)) (endsN l 64)) → ∀ (d j : Nat), j + d = 64 → Ev (fun k => spec_vaEnds.l1 k l (endsN l i ++ endsR l i j) i j) (endsN l 64) := by
    intro i hi H d
    induction d with
    | zero =>
      intro j hj
      have e : j = 64 := by omega
      subst e
      refine Ev.step (fun k => ?_) H
      simp only [spec_vaEnds.l1]
      rw [if_neg (by omega), w64n i (by omega), endsN_succ]
    | succ d ih =>
      intro j hj
      refine Ev.step (fun k => by simp only [spec_vaEnds.l1]; rfl) (Ev.ifp (by omega) (Ev.call (cdStart_eq _ _) ?_))
      refine Ev.bind (cdRun_ev l hl h _ (st0_ok (by unfold okV; omega) (by unfold okV; omega))) ?_
      refine Ev.ifp (by rw [List.length_append, endsN_len, endsR_len]; omega) ?_
      have := ih (j + 1) (by omega)
      rw [endsR_succ, ← List.append_assoc] at this
      rw [w64n j (by omega)]
      exact this
  have outer : ∀ (d i : Nat), i + d = 64 → Ev (fun k => spec_vaEnds.l0 k l (endsN l i) i) (endsN l 64) := by
    intro d
    induction d with
    | zero =>
      intro i hi
      have e : i = 64 := by omega
      subst e
      refine Ev.step (f := fun _ => some (endsN l 64)) (fun k => ?_) (Ev.now _)
      simp only [spec_vaEnds.l0]
      rw [if_neg (by omega)]
    | succ d ih =>
      intro i hi
      have := inner i (by omega) (ih (i + 1) (by omega)) 64 0 (by omega)
      refine Ev.step (fun k => ?_) this
      simp only [spec_vaEnds.l0]
      rw [if_pos (by omega)]
      simp [endsR]
  simpa [endsN] using outer 64 0 (by omega)
theorem vaGood_ev (l : List Instr) : Ev (fun k => spec_vaGood.f k l) (okBlock l) := by
  unfold spec_vaGood.f
  rw [okBlock_eq]
  by_cases h : (l.length : Int) ≤ 20
  · refine Ev.ifp h (Ev.bind (cdCode_ev l) (Ev.some ?_))
    rw [decide_eq_true (show l.length ≤ 20 by omega), Bool.and_true]
  · refine Ev.ifn h (Ev.some ?_)
    rw [decide_eq_false (show ¬ l.length ≤ 20 by omega), Bool.and_false]
end Go.Proofs.Ytkmdlompgbnnkaa.PL
end
section
namespace Go.Proofs.Ytkmdlompgbnnkaa.PL
open Go Go.RowKit Go.Proofs.YtkmdlompgbnnkaaW.PrintWords Go.Proofs.YtkmdlompgbnnkaaW.PrintLast Go.Proofs.YtkmdlompgbnnkaaW.PrintMore Go.Proofs.Ytkmdlompgbnnkaa.Q
set_option linter.unusedSimpArgs false
set_option linter.unusedVariables false

theorem range_blocks {α : Type} (f : Nat → Nat → α) (n : Nat) : (List.range n).flatMap (fun i => (List.range 64).map (fun j => f i j)) = (List.range (64 * n)).map (fun i => f (i / 64) (i % 64)) := by
  induction n with
  | zero => rfl
  | succ n ih =>
    rw [show List.range (n + 1) = List.range n ++ [n] from List.range_succ, List.flatMap_append, ih, show 64 * (n + 1) = 64 * n + 64 by omega, List.range_add, List.map_append, List.map_map]
    congr 1
    rw [List.flatMap_singleton]
    refine List.map_congr_left fun j hj => ?_
    have := List.mem_range.1 hj
    show f n j = f ((64 * n + j) / 64) ((64 * n + j) % 64)
    rw [show (64 * n + j) / 64 = n by omega, show (64 * n + j) % 64 = j by omega]
/-- How a block ends from the i-th inputs. -/
def endI (l : List Instr) (i : Nat) : List Int := endM l ((i / 64 : Nat) : Int) ((i % 64 : Nat) : Int)
theorem endsN_eq (l : List Instr) : endsN l 64 = (List.range 4096).map (endI l) := range_blocks (fun x0 x1 => endM l x0 x1) 64
theorem tabL_eq (g : Int → Int → Int) : tabL g 64 = (List.range 4096).map (fun i : Nat => g ((i / 64 : Nat) : Int) ((i % 64 : Nat) : Int)) := range_blocks (fun x0 x1 => g x0 x1) 64
theorem endI_ok (l : List Instr) (h : ∀ x ∈ l, okI x) (i : Nat) (hi : i < 4096) : okS (endI l i) := runM_ok l h _ (st0_ok (by unfold okV; omega) (by unfold okV; omega))

/-- The first register of the given ones in which two states differ. -/
def diffW (s t : List Int) : List Int → Option Int
  | [] => none
  | w :: ws => if rd s w = rd t w then diffW s t ws else some w
def witM (l m : List Instr) (ws : List Int) : Nat → Nat → List Int × Bool
  | 0, _ => ([], false)
  | d + 1, i => match diffW (endI l i) (endI m i) ws with
    | some w => ([((i / 64 : Nat) : Int), ((i % 64 : Nat) : Int), w], true)
    | none => witM l m ws d (i + 1)
def okW (ws : List Int) : Prop := ws.length ≤ 1048576 ∧ ∀ w ∈ ws, 0 ≤ w ∧ w ≤ 5
theorem rdL_eq {xs : List (List Int)} {i : Nat} {x : List Int} (h : ∀ d, xs.getD i d = x) : rd_L7 xs i = x := by unfold rd_L7; rw [Int.toNat_natCast]; exact h _
theorem rdL_ends (l : List Instr) (i : Nat) (hi : i < 4096) : rd_L7 (endsN l 64) i = endI l i := by
  refine rdL_eq fun d => ?_
  rw [endsN_eq]
  simp [List.getD, List.getElem?_map, List.getElem?_range hi]
theorem vaWit_ev (l m : List Instr) (hl : ∀ x ∈ l, okI x) (hm : ∀ x ∈ m, okI x) (ws : List Int) (hw : okW ws) : Ev (fun k => spec_vaWitness.f k (endsN l 64) (endsN m 64) ws) (witM l m ws 4096 0) := by
  unfold spec_vaWitness.f
  have key : ∀ (d i : Nat), i + d = 4096 → Ev (fun k => spec_vaWitness.l0 k (endsN m 64) ws (endsN l 64) ((endsN l 64).length : Nat) i) (witM l m ws d i) := by
    intro d
    induction d with
    | zero =>
      intro i hi
      refine Ev.step (f := fun _ => some ([], false)) (fun k => ?_) (Ev.now _)
      simp only [spec_vaWitness.l0]
      rw [if_neg (by rw [endsN_len]; omega)]
    | succ d ih =>
      intro i hi
      have Hl := (endI_ok l hl i (by omega)).1
      have Hm := (endI_ok m hm i (by omega)).1
      have L1 : (endsN l 64).length = 4096 := endsN_len l 64
      have L2 : (endsN m 64).length = 4096 := endsN_len m 64
      refine Ev.step (fun k => by simp only [spec_vaWitness.l0, rdL_ends l i (by omega)]; rfl) (Ev.ifp (by omega) (Ev.ifp (by omega) (Ev.ifp (by omega) ?_)))
      refine ev_eq (s := witM l m ws (d + 1) i) (loop_list (σ := Unit) ws (fun k _ j => spec_vaWitness.l1 k (endsN m 64) ws i (endI l i) (endsN l 64) ((endsN l 64).length : Nat) i ws ws.length j) (fun rest _ => match diffW (endI l i) (endI m i) rest with
        | some w => ([((i / 64 : Nat) : Int), ((i % 64 : Nat) : Int), w], true)
        | none => witM l m ws d (i + 1)) (fun _ => ?_) (fun j _ x rest hj hx H => ?_) ()) rfl
      · refine Ev.step (fun k => ?_) (ih (i + 1) (by omega))
        simp only [spec_vaWitness.l1]
        rw [if_neg (by omega), w64n i (by omega)]
      · have hr := rd_eq hx
        have hb : 0 ≤ x ∧ x ≤ 5 := hw.2 x (by
          have := hx 0
          rw [getD_eq ws j hj] at this
          rw [← this]
          exact List.getElem_mem hj)
        have hlen := hw.1
        refine Ev.step (fun k => by simp only [spec_vaWitness.l1, hr, rdL_ends m i (by omega)]; rfl) ?_
        refine Ev.ifp (by omega) (Ev.ifp (by omega) (Ev.ifp (by omega) (Ev.ifp hb.1 (Ev.ifp (by omega) (Ev.ifp (by omega) (Ev.ifp (by omega) (Ev.ifp (by omega) ?_)))))))
        by_cases q : rd (endI l i) x = rd (endI m i) x
        · refine Ev.ifp q ?_
          rw [w64n j (by omega)]
          simp only [diffW, if_pos q]
          exact H ()
        · refine Ev.ifn q (Ev.some ?_)
          simp only [diffW, if_neg q]
          rw [show Int.tdiv (i : Int) 64 = ((i / 64 : Nat) : Int) from rfl, show Int.tmod (i : Int) 64 = ((i % 64 : Nat) : Int) from rfl, w64 (by omega) (by omega)]
  simpa using key 4096 0 (by omega)

theorem ev_unif {α : Type} (n : Nat) (g : Nat → Nat → Option α) (r : Nat → α) (h : ∀ i, i < n → Ev (fun k => g k i) (r i)) : ∃ K, ∀ k, K ≤ k → ∀ i, i < n → g k i = some (r i) := by
  induction n with
  | zero => exact ⟨0, fun _ _ i hi => by omega⟩
  | succ n ih =>
    obtain ⟨K, hK⟩ := ih (fun i hi => h i (by omega))
    obtain ⟨K', hK'⟩ := h n (by omega)
    refine ⟨max K K', fun k hk i hi => ?_⟩
    by_cases e : i = n
    · rw [e]; exact hK' k (by omega)
    · exact hK k (by omega) i (by omega)
theorem leaves_ev (l : List Instr) (hl : l.length ≤ 40) (h : ∀ x ∈ l, okI x) (r : Int) (h0 : 0 ≤ r) (h1 : r ≤ 5) : Ev (fun k => impl_leaves.f k l r) ((List.range 4096).map fun i => rd (endI l i) r) := by
  obtain ⟨K, hK⟩ := ev_unif 4096 (fun k i => impl_result.f k l ((i / 64 : Nat) : Int) ((i % 64 : Nat) : Int)) (endI l) (fun i hi => result_ev l hl h (by unfold okV; omega) (by unfold okV; omega))
  have at2 : ∀ k, K ≤ k → ∀ x0 x1 : Nat, x0 < 64 → x1 < 64 → leafAt k l r x0 x1 = some (rd (endM l x0 x1) r) := fun k hk x0 x1 h0' h1' => by
    have := hK k hk (64 * x0 + x1) (by omega)
    unfold endI at this
    rw [show (64 * x0 + x1) / 64 = x0 by omega, show (64 * x0 + x1) % 64 = x1 by omega] at this
    have hl6 := (endI_ok l h (64 * x0 + x1) (by omega)).1
    unfold endI at hl6
    rw [show (64 * x0 + x1) / 64 = x0 by omega, show (64 * x0 + x1) % 64 = x1 by omega] at hl6
    unfold leafAt
    rw [this, Option.bind_some, if_pos ⟨h0, by omega⟩]
  refine ⟨K, fun k hk => ?_⟩
  show impl_leaves.f k l r = _
  unfold impl_leaves.f
  rw [if_pos ((leafOk_iff _ _ _).2 (fun x0 hx0 x1 hx1 => by rw [at2 k hk x0 x1 hx0 hx1]; rfl)), tabL_congr (g' := fun x0 x1 => rd (endM l x0 x1) r) (fun x0 x1 hx0 hx1 => by rw [at2 k hk x0 x1 hx0 hx1]; rfl), tabL_eq]
  rfl
theorem sEqual_ev (a b : List Int) (ha : a.length ≤ 1048576) : Ev (fun k => slices_Equal_int_int.f k a b) (decide (a = b)) := by
  unfold slices_Equal_int_int.f
  by_cases hl : a.length = b.length
  · refine Ev.ifp (by omega) ?_
    have key : ∀ (d i : Nat), i + d = a.length → Ev (fun k => slices_Equal_int_int.l0 k a b a.length i) (decide (a.drop i = b.drop i)) := by
      intro d
      induction d with
      | zero =>
        intro i hi
        refine Ev.step (f := fun _ => some true) (fun k => ?_) (Ev.some ?_)
        · simp only [slices_Equal_int_int.l0]
          rw [if_neg (by omega)]
        · rw [List.drop_of_length_le (by omega), List.drop_of_length_le (by omega)]
          rfl
      | succ d ih =>
        intro i hi
        have h1 : i < a.length := by omega
        have h2 : i < b.length := by omega
        have e1 : a.drop i = a[i] :: a.drop (i + 1) := List.drop_eq_getElem_cons h1
        have e2 : b.drop i = b[i] :: b.drop (i + 1) := List.drop_eq_getElem_cons h2
        refine Ev.step (fun k => by simp only [slices_Equal_int_int.l0, rd_eq (getD_eq a i h1), rd_eq (getD_eq b i h2)]; rfl) (Ev.ifp (by omega) (Ev.ifp (by omega) (Ev.ifp (by omega) (Ev.ifp (by omega) ?_))))
        rw [e1, e2]
        by_cases q : a[i] = b[i]
        · refine Ev.ifp q ?_
          rw [w64n i (by omega)]
          refine ev_eq (ih (i + 1) (by omega)) ?_
          rw [decide_eq_decide, List.cons_eq_cons]
          exact ⟨fun h => ⟨q, h⟩, fun h => h.2⟩
        · refine Ev.ifn q (Ev.some ?_)
          symm
          rw [decide_eq_false_iff_not]
          intro h
          exact q (List.cons.inj h).1
    simpa using key a.length 0 (by omega)
  · refine Ev.ifn (by omega) (Ev.some ?_)
    symm
    rw [decide_eq_false_iff_not]
    intro h
    exact hl (by rw [h])
theorem wit_one (l m : List Instr) (r : Int) : ∀ d i, (witM l m [r] d i).2 = false ↔ ∀ j, j < d → rd (endI l (i + j)) r = rd (endI m (i + j)) r := by
  intro d
  induction d with
  | zero => intro i; simp [witM]
  | succ d ih =>
    intro i
    unfold witM
    by_cases q : rd (endI l i) r = rd (endI m i) r
    · simp only [diffW, if_pos q]
      rw [ih (i + 1)]
      constructor
      · intro h j hj
        cases j with
        | zero => exact q
        | succ j => have := h j (by omega); rw [show i + (j + 1) = i + 1 + j by omega]; exact this
      · intro h j hj
        have := h (j + 1) (by omega)
        rw [show i + (j + 1) = i + 1 + j by omega] at this
        exact this
    · simp only [diffW, if_neg q]
      exact ⟨fun h => by simp at h, fun h => absurd (h 0 (by omega)) q⟩
end Go.Proofs.Ytkmdlompgbnnkaa.PL
end
section
namespace Go.Proofs.Ytkmdlompgbnnkaa.PL
open Go Go.RowKit Go.Proofs.YtkmdlompgbnnkaaW.PrintWords Go.Proofs.YtkmdlompgbnnkaaW.PrintLast Go.Proofs.YtkmdlompgbnnkaaW.PrintMore Go.Proofs.Ytkmdlompgbnnkaa.Q
set_option linter.unusedSimpArgs false
set_option linter.unusedVariables false

/-- Whether a register is left alone. -/
def untR (l : List Instr) (r : Int) : Bool × Bool := if okBlock l = true ∧ 0 ≤ r ∧ r ≤ 5 then (!(witM l [] [r] 4096 0).2, true) else (false, false)
theorem okBlock_parts {l : List Instr} (h : okBlock l = true) : l.length ≤ 20 ∧ ∀ x ∈ l, okI x := by
  unfold okBlock at h
  simp only [Bool.and_eq_true, decide_eq_true_eq, List.all_eq_true] at h
  exact h
theorem unt_eq (l : List Instr) (r : Int) : decide (((List.range 4096).map fun i => rd (endI l i) r) = ((List.range 4096).map fun i => rd (endI [] i) r)) = !(witM l [] [r] 4096 0).2 := by
  rw [Bool.eq_iff_iff, decide_eq_true_eq, Bool.not_eq_true', wit_one, List.map_inj_left]
  simp only [List.mem_range, Nat.zero_add]
theorem implUnt_ev (l : List Instr) (r : Int) : Ev (fun k => impl_IsUntouched.f k l r) (untR l r) := by
  unfold impl_IsUntouched.f untR
  refine Ev.bind (isBlock_ev l) ?_
  by_cases h : okBlock l = true
  · refine Ev.ifp h ?_
    refine Ev.call (isRegister_eq r) ?_
    obtain ⟨hl, hi⟩ := okBlock_parts h
    by_cases hr : 0 ≤ r ∧ r ≤ 5
    · rw [if_pos ⟨h, hr⟩, decide_eq_true hr]
      refine Ev.step (fun k => by simp only [impl_IsUntouched.j0]; rfl) (Ev.ifn (by decide) ?_)
      refine Ev.bind (leaves_ev l (by omega) hi r hr.1 hr.2) ?_
      refine Ev.bind (leaves_ev [] (by decide) (fun x hx => by cases hx) r hr.1 hr.2) ?_
      refine Ev.bind (sEqual_ev _ _ (by rw [List.length_map, List.length_range]; decide)) (Ev.some ?_)
      rw [unt_eq]
    · rw [if_neg (fun e => hr e.2), decide_eq_false hr]
      exact Ev.step (fun k => by simp only [impl_IsUntouched.j0]; rfl) (Ev.ifp (by decide) (Ev.now _))
  · rw [if_neg (fun e => h e.1)]
    refine Ev.ifn h ?_
    exact Ev.step (fun k => by simp only [impl_IsUntouched.j0]; rfl) (Ev.ifp (by decide) (Ev.now _))
theorem specUnt_ev (l : List Instr) (r : Int) : Ev (fun k => spec_IsUntouched.f k l r) (untR l r) := by
  unfold spec_IsUntouched.f untR
  refine Ev.bind (vaGood_ev l) ?_
  by_cases h : okBlock l = true
  · refine Ev.ifp h ?_
    refine Ev.call (cdReg_eq r) ?_
    obtain ⟨hl, hi⟩ := okBlock_parts h
    by_cases hr : 0 ≤ r ∧ r ≤ 5
    · rw [if_pos ⟨h, hr⟩, decide_eq_true hr]
      refine Ev.step (fun k => by simp only [spec_IsUntouched.j0]; rfl) (Ev.ifn (by decide) ?_)
      refine Ev.bind (vaEnds_ev l (by omega) hi) ?_
      refine Ev.bind (vaEnds_ev [] (by decide) (fun x hx => by cases hx)) ?_
      exact Ev.bind (vaWit_ev l [] hi (fun x hx => by cases hx) [r] ⟨by simp, fun w hw => by simp at hw; omega⟩) (Ev.now _)
    · rw [if_neg (fun e => hr e.2), decide_eq_false hr]
      exact Ev.step (fun k => by simp only [spec_IsUntouched.j0]; rfl) (Ev.ifp (by decide) (Ev.now _))
  · rw [if_neg (fun e => h e.1)]
    refine Ev.ifn h ?_
    exact Ev.step (fun k => by simp only [spec_IsUntouched.j0]; rfl) (Ev.ifp (by decide) (Ev.now _))
end Go.Proofs.Ytkmdlompgbnnkaa.PL
namespace Go.Proofs.Ytkmdlompgbnnkaa.Pure
open Go Go.RowKit Go.Proofs.YtkmdlompgbnnkaaW.PrintWords Go.Proofs.YtkmdlompgbnnkaaW.PrintLast Go.Proofs.YtkmdlompgbnnkaaW.PrintMore Go.Proofs.Ytkmdlompgbnnkaa.Q Go.Proofs.Ytkmdlompgbnnkaa.PL
set_option linter.unusedSimpArgs false
set_option linter.unusedVariables false
theorem FnExactIsUntouched : laws_FnExactIsUntouched.Pure := by
  intro a0 a1 h0 h1
  refine Ev.rounds (g := fun k => laws_FnExactIsUntouched.f k a0 a1) ?_
  unfold laws_FnExactIsUntouched.f
  obtain ⟨r, hr, hr'⟩ := szInstrS_ev a0 1048576 h0 (by decide) (by decide)
  refine Ev.bind hr ?_
  by_cases hn : r < 0
  · exact Ev.ifp hn (Ev.now _)
  have hl : a0.length ≤ 1048576 := by have := (hr' (by omega)).1; omega
  have hm : (a0.map cvI).length ≤ 1048576 := by simpa using hl
  refine Ev.ifn hn (Ev.bind (toInstrS_ev a0 hl) ?_)
  refine Ev.bind (specUnt_ev _ a1) ?_
  refine Ev.bind (toInstrS_ev a0 hl) ?_
  refine Ev.bind (implUnt_ev _ a1) ?_
  refine Ev.ifn (by simp) ?_
  rw [show ((untR (a0.map cvI) a1).2 != (untR (a0.map cvI) a1).2) = false by simp]
  refine Ev.step (fun k => by simp only [laws_FnExactIsUntouched.j0]; rfl) (Ev.ifn (by decide) ?_)
  exact Ev.bind (toInstrS_ev a0 hl) (Ev.bind (eqInstrS_refl _ hm) (Ev.ifp rfl (Ev.now _)))
end Go.Proofs.Ytkmdlompgbnnkaa.Pure
end
