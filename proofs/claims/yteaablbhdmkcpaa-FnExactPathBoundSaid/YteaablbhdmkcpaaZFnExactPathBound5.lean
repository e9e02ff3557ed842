/- Proved here: contracts of functions that the law FnExactPathBound reaches, and lemmas on what they compute; texts of this session and the printed words of the kit that they lean on, cut down and put together by its program link.py. Conditions: as each states. -/
import Derived.Carry
import Derived.Deep.Slices
import Derived.ProofKit
import Derived.Test.YteaablbhdmkcpaaZFnExactPathBound1
import Derived.Test.YteaablbhdmkcpaaZFnExactPathBound2
import Derived.Test.YteaablbhdmkcpaaZFnExactPathBound3
import Derived.Test.YteaablbhdmkcpaaZFnExactPathBound4
section
namespace Go.Proofs.Yteaablbhdmkcpaa.Q
open Go.RowKit Go.Proofs.YteaablbhdmkcpaaW.PrintWords Go.Proofs.YteaablbhdmkcpaaW.PrintLast Go.Proofs.YteaablbhdmkcpaaW.PrintMore
attribute [local go_sem] max2_int min2_int max_two min_two max_three min_three max_four min_four
set_option linter.unusedVariables false
set_option linter.unusedSimpArgs false
def laws_FnExactPathBound.j0 : Nat → List (S54) → List (S57) → Bool → Option (Bool)
  | 0, _, _, _ => none
  | k + 1, x0, x6, x34 => if x34 = true then (some false) else ((laws_toInstrS.f k x0).bind fun t112 => ((laws_eqInstrS.f k x6 t112).bind fun t115 => (if t115 = true then (some true) else (some false))))
def laws_FnExactPathBound.f (k : Nat) (l0 : List (S54)) : Option (Bool) := (laws_szInstrS.f k l0 1048576).bind fun t101 => (if t101 < 0 then (some true) else ((laws_toInstrS.f k l0).bind fun t102 => ((spec_PathBound.f k t102).bind fun bt105 => ((laws_toInstrS.f k l0).bind fun t107 => ((impl_PathBound.f k t107).bind fun bt110 => (if bt110.1 = bt105.1 then (laws_FnExactPathBound.j0 k l0 t107 (bt110.2 != bt105.2)) else (laws_FnExactPathBound.j0 k l0 t107 true)))))))
theorem laws_FnExactPathBound.mono_l : ∀ k, (∀ y0 y1 y2, LeO (laws_FnExactPathBound.j0 k y0 y1 y2) (laws_FnExactPathBound.j0 (k + 1) y0 y1 y2))
  | 0 => fun _ _ _ r h => by simp [laws_FnExactPathBound.j0] at h
  | k + 1 => by
    have ih0 := laws_FnExactPathBound.mono_l k
    · intro y0 y1 y2
      unfold laws_FnExactPathBound.j0
      repeat' first
      | (with_reducible exact ih0 _ _ _)
      | (with_reducible exact impl_PathBound.mono _ _)
      | (with_reducible exact laws_eqInstrS.mono _ _ _)
      | (with_reducible exact laws_szInstrS.mono _ _ _)
      | (with_reducible exact laws_toInstrS.mono _ _)
      | (with_reducible exact spec_PathBound.mono _ _)
      | (with_reducible exact LeO.refl _)
      | (with_reducible exact LeO.none _)
      | (with_reducible refine LeO.ite ?_ ?_)
      | (with_reducible refine LeO.bind ?_ (fun _ => ?_))
      | exact ih0 _ _ _
      | exact impl_PathBound.mono _ _
      | exact laws_eqInstrS.mono _ _ _
      | exact laws_szInstrS.mono _ _ _
      | exact laws_toInstrS.mono _ _
      | exact spec_PathBound.mono _ _
      | exact LeO.none _
      | refine LeO.ite ?_ ?_
      | refine LeO.bind ?_ (fun _ => ?_)
theorem laws_FnExactPathBound.mono : ∀ a0 k, LeO (laws_FnExactPathBound.f k a0) (laws_FnExactPathBound.f (k + 1) a0) := by
  intro a0 k
  have ih0 := laws_FnExactPathBound.mono_l k
  unfold laws_FnExactPathBound.f
  repeat' first
      | (with_reducible exact ih0 _ _ _)
      | (with_reducible exact impl_PathBound.mono _ _)
      | (with_reducible exact laws_eqInstrS.mono _ _ _)
      | (with_reducible exact laws_szInstrS.mono _ _ _)
      | (with_reducible exact laws_toInstrS.mono _ _)
      | (with_reducible exact spec_PathBound.mono _ _)
      | (with_reducible exact LeO.refl _)
      | (with_reducible exact LeO.none _)
      | (with_reducible refine LeO.ite ?_ ?_)
      | (with_reducible refine LeO.bind ?_ (fun _ => ?_))
      | exact ih0 _ _ _
      | exact impl_PathBound.mono _ _
      | exact laws_eqInstrS.mono _ _ _
      | exact laws_szInstrS.mono _ _ _
      | exact laws_toInstrS.mono _ _
      | exact spec_PathBound.mono _ _
      | exact LeO.none _
      | refine LeO.ite ?_ ?_
      | refine LeO.bind ?_ (fun _ => ?_)
set_option maxHeartbeats 8000000 in
set_option maxRecDepth 100000 in
theorem laws_FnExactPathBound.calls (k : Nat) (A0 : Option Addr) (c0 : Nat) (l0 : List (S54)) (r : Bool) (w : World) (hr0 : Kd.C k54 w A0 l0.length l0) (hc0 : l0.length ≤ c0) (h : laws_FnExactPathBound.f k l0 = some r) :
    Calls Try.prog 10 #[.slice A0 l0.length c0] w fun e w' => e = .returned (.bool r) ∧ Below w.heap.size w w' := by
  have HR0 := Aside0.mk hr0
  have HC0 := Aside0.mk hc0
  clear hr0 hc0
  have HB := Aside0.mk (Below.refl w.heap.size w)
  have H : ((laws_szInstrS.f k l0 1048576).bind fun t101 => (if t101 < 0 then (some true) else ((laws_toInstrS.f k l0).bind fun t102 => ((spec_PathBound.f k t102).bind fun bt105 => ((laws_toInstrS.f k l0).bind fun t107 => ((impl_PathBound.f k t107).bind fun bt110 => (if bt110.1 = bt105.1 then (laws_FnExactPathBound.j0 k l0 t107 (bt110.2 != bt105.2)) else (laws_FnExactPathBound.j0 k l0 t107 true)))))))) = some r := h
  clear h
  replace H := Option.bind_eq_some_iff.mp H
  obtain ⟨t101, A20, H⟩ := H
  replace H : (if t101 < 0 then (some true) else ((laws_toInstrS.f k l0).bind fun t102 => ((spec_PathBound.f k t102).bind fun bt105 => ((laws_toInstrS.f k l0).bind fun t107 => ((impl_PathBound.f k t107).bind fun bt110 => (if bt110.1 = bt105.1 then (laws_FnExactPathBound.j0 k l0 t107 (bt110.2 != bt105.2)) else (laws_FnExactPathBound.j0 k l0 t107 true))))))) = some r := H
  have A2 := Aside0.mk A20
  clear A20
  by_cases c3 : t101 < 0
  · rw [if_pos c3] at H
    have c3b0 : decide (t101 < 0) = true := decide_eq_true c3
    clear c3
    obtain rfl := Option.some.inj H
    go_enter Try.func10, Try.ntmps10
    go_wp2_with (first | ((with_reducible refine gate_callee (f := 14) rfl ?_); refine goesL_ (some 11) rfl rfl Try.func14 (by kernel_rfl) rfl #[.slice A0 l0.length c0, .int .i64 1048576] rfl (by (try simp only [List.map_toArray, List.map_cons, List.map_nil]); first | done | rfl | (simp only [List.length_drop, List.length_take]; rfl)) ?_; (with_reducible refine (laws_szInstrS.calls k _ _ l0 1048576 t101 _ ?side1 ?side2 A2.out).mono ?_); (case side1 => repeat (first | exact HR0.out | (with_reducible refine Kd.C_alloc ?_ _) | (with_reducible refine Kd.C_drewN ?_ _) | (with_reducible refine Kd.C_drew ?_))); (case side2 => exact HC0.out); rintro e w4 ⟨rfl, hb⟩; refine ⟨_, rfl, ?_⟩; have n0_ := Aside0.mk (below_step (by repeat (first | (with_reducible first | exact HB.out | apply below_alloc | apply pw_below_drewN | apply below_drew1) | exact HB.out)) hb); clear HB; have HB := n0_; clear n0_; (try clear hb); (try clear hb2); (try clear hk); (try clear hi)))
    go_ret
    exact ⟨by first | rfl | (simp [errW_none, errW_some] <;> rfl) | (simp [*, errW_none, errW_some] <;> rfl), by repeat (first | (with_reducible first | exact HB.out | apply below_alloc | apply pw_below_drewN | apply below_drew1) | exact HB.out)⟩
  rw [if_neg c3] at H
  have c3b0 : decide (t101 < 0) = false := decide_eq_false c3
  clear c3
  replace H := Option.bind_eq_some_iff.mp H
  obtain ⟨t102, A50, H⟩ := H
  replace H : ((spec_PathBound.f k t102).bind fun bt105 => ((laws_toInstrS.f k l0).bind fun t107 => ((impl_PathBound.f k t107).bind fun bt110 => (if bt110.1 = bt105.1 then (laws_FnExactPathBound.j0 k l0 t107 (bt110.2 != bt105.2)) else (laws_FnExactPathBound.j0 k l0 t107 true))))) = some r := H
  have A5 := Aside0.mk A50
  clear A50
  replace H := Option.bind_eq_some_iff.mp H
  obtain ⟨⟨t105, t106⟩, A60, H⟩ := H
  replace H : ((laws_toInstrS.f k l0).bind fun t107 => ((impl_PathBound.f k t107).bind fun bt110 => (if bt110.1 = t105 then (laws_FnExactPathBound.j0 k l0 t107 (bt110.2 != t106)) else (laws_FnExactPathBound.j0 k l0 t107 true)))) = some r := H
  have A6 := Aside0.mk A60
  clear A60
  replace H := Option.bind_eq_some_iff.mp H
  obtain ⟨t107, A70, H⟩ := H
  replace H : ((impl_PathBound.f k t107).bind fun bt110 => (if bt110.1 = t105 then (laws_FnExactPathBound.j0 k l0 t107 (bt110.2 != t106)) else (laws_FnExactPathBound.j0 k l0 t107 true))) = some r := H
  have A7 := Aside0.mk A70
  clear A70
  replace H := Option.bind_eq_some_iff.mp H
  obtain ⟨⟨t110, t111⟩, A80, H⟩ := H
  replace H : (if t110 = t105 then (laws_FnExactPathBound.j0 k l0 t107 (t111 != t106)) else (laws_FnExactPathBound.j0 k l0 t107 true)) = some r := H
  have A8 := Aside0.mk A80
  clear A80
  have HC9 := Aside0.mk H
  clear H
  go_enter Try.func10, Try.ntmps10
  go_upto_region 8 with (first | ((with_reducible refine gate_callee (f := 14) rfl ?_); refine goesL_ (some 11) rfl rfl Try.func14 (by kernel_rfl) rfl #[.slice A0 l0.length c0, .int .i64 1048576] rfl (by (try simp only [List.map_toArray, List.map_cons, List.map_nil]); first | done | rfl | (simp only [List.length_drop, List.length_take]; rfl)) ?_; (with_reducible refine (laws_szInstrS.calls k _ _ l0 1048576 t101 _ ?side1 ?side2 A2.out).mono ?_); (case side1 => repeat (first | exact HR0.out | (with_reducible refine Kd.C_alloc ?_ _) | (with_reducible refine Kd.C_drewN ?_ _) | (with_reducible refine Kd.C_drew ?_))); (case side2 => exact HC0.out); rintro e w10 ⟨rfl, hb⟩; refine ⟨_, rfl, ?_⟩; have n0_ := Aside0.mk (below_step (by repeat (first | (with_reducible first | exact HB.out | apply below_alloc | apply pw_below_drewN | apply below_drew1) | exact HB.out)) hb); clear HB; have HB := n0_; clear n0_; (try clear hb); (try clear hb2); (try clear hk); (try clear hi)) | ((with_reducible refine gate_callee (f := 16) rfl ?_); refine goesL_ (some 16) rfl rfl Try.func16 (by kernel_rfl) rfl #[.slice A0 l0.length c0] rfl (by (try simp only [List.map_toArray, List.map_cons, List.map_nil]); first | done | rfl | (simp only [List.length_drop, List.length_take]; rfl)) ?_; (with_reducible refine (laws_toInstrS.calls k _ _ l0 t102 _ ?side1 ?side2 A5.out).mono ?_); (case side1 => repeat (first | exact (Kd.C_below HR0.out HB.out) | (with_reducible refine Kd.C_alloc ?_ _) | (with_reducible refine Kd.C_drewN ?_ _) | (with_reducible refine Kd.C_drew ?_))); (case side2 => exact HC0.out); rintro e w11 ⟨v103, rfl, ho0, hb⟩; refine ⟨_, rfl, ?_⟩; have n0_ := Aside0.mk (Kd.R_lower ho0 (below_size (by repeat (first | (with_reducible first | exact HB.out | apply below_alloc | apply pw_below_drewN | apply below_drew1) | exact HB.out)))); have n1_ := Aside0.mk (below_step (by repeat (first | (with_reducible first | exact HB.out | apply below_alloc | apply pw_below_drewN | apply below_drew1) | exact HB.out)) hb); clear HB; have HO104 := n0_; have HB := n1_; clear n0_ n1_; (try clear hb); (try clear hb2); (try clear hk); (try clear hi); (try clear ho0); obtain ⟨Ao12, co12, eo12⟩ := Kd.R_slice HO104.out; subst eo12) | ((with_reducible refine gate_callee (f := 40) rfl ?_); refine goesL_ (some 17) rfl rfl Try.func40 (by kernel_rfl) rfl #[.slice Ao12 t102.length co12] rfl (by (try simp only [List.map_toArray, List.map_cons, List.map_nil]); first | done | rfl | (simp only [List.length_drop, List.length_take]; rfl)) ?_; (with_reducible refine (spec_PathBound.calls k _ _ t102 t105 t106 _ ?side1 ?side2 A6.out).mono ?_); (case side1 => repeat (first | exact (Kd.R_reads' HO104.out).2.2 | (with_reducible refine Kd.C_alloc ?_ _) | (with_reducible refine Kd.C_drewN ?_ _) | (with_reducible refine Kd.C_drew ?_))); (case side2 => exact (Kd.R_reads' HO104.out).2.1); rintro e w13 ⟨rfl, hb⟩; refine ⟨_, rfl, ?_⟩; have n0_ := Aside0.mk (Kd.R_below (by (with_reducible repeat (first | apply Kd.R_alloc | apply Kd.R_drewN | apply Kd.R_drew)); exact HO104.out) hb); have n1_ := Aside0.mk (below_step (by repeat (first | (with_reducible first | exact HB.out | apply below_alloc | apply pw_below_drewN | apply below_drew1) | exact HB.out)) hb); clear HO104; clear HB; have HO104 := n0_; have HB := n1_; clear n0_ n1_; (try clear hb); (try clear hb2); (try clear hk); (try clear hi)) | ((with_reducible refine gate_callee (f := 16) rfl ?_); refine goesL_ (some 21) rfl rfl Try.func16 (by kernel_rfl) rfl #[.slice A0 l0.length c0] rfl (by (try simp only [List.map_toArray, List.map_cons, List.map_nil]); first | done | rfl | (simp only [List.length_drop, List.length_take]; rfl)) ?_; (with_reducible refine (laws_toInstrS.calls k _ _ l0 t107 _ ?side1 ?side2 A7.out).mono ?_); (case side1 => repeat (first | exact (Kd.C_below HR0.out HB.out) | (with_reducible refine Kd.C_alloc ?_ _) | (with_reducible refine Kd.C_drewN ?_ _) | (with_reducible refine Kd.C_drew ?_))); (case side2 => exact HC0.out); rintro e w14 ⟨v108, rfl, ho0, hb⟩; refine ⟨_, rfl, ?_⟩; have n0_ := Aside0.mk (Kd.R_elder' (by (with_reducible repeat (first | apply Kd.R_alloc | apply Kd.R_drewN | apply Kd.R_drew)); exact HO104.out) (Kd.R_base ho0) hb); have n1_ := Aside0.mk (Kd.R_lower (Kd.R_new' ho0 (Kd.R_lt (by (with_reducible repeat (first | apply Kd.R_alloc | apply Kd.R_drewN | apply Kd.R_drew)); exact HO104.out))) (below_size (by repeat (first | (with_reducible first | exact HB.out | apply below_alloc | apply pw_below_drewN | apply below_drew1) | exact HB.out)))); have n2_ := Aside0.mk (below_step (by repeat (first | (with_reducible first | exact HB.out | apply below_alloc | apply pw_below_drewN | apply below_drew1) | exact HB.out)) hb); clear HO104; clear HB; have HO104 := n0_; have HO109 := n1_; have HB := n2_; clear n0_ n1_ n2_; (try clear hb); (try clear hb2); (try clear hk); (try clear hi); (try clear ho0); obtain ⟨Ao15, co15, eo15⟩ := Kd.R_slice HO109.out; subst eo15) | ((with_reducible refine gate_callee (f := 41) rfl ?_); refine goesL_ (some 24) rfl rfl Try.func41 (by kernel_rfl) rfl #[.slice Ao15 t107.length co15] rfl (by (try simp only [List.map_toArray, List.map_cons, List.map_nil]); first | done | rfl | (simp only [List.length_drop, List.length_take]; rfl)) ?_; (with_reducible refine (impl_PathBound.calls k _ _ t107 t110 t111 _ ?side1 ?side2 A8.out).mono ?_); (case side1 => repeat (first | exact (Kd.R_reads' HO109.out).2.2 | (with_reducible refine Kd.C_alloc ?_ _) | (with_reducible refine Kd.C_drewN ?_ _) | (with_reducible refine Kd.C_drew ?_))); (case side2 => exact (Kd.R_reads' HO109.out).2.1); rintro e w16 ⟨rfl, hb⟩; refine ⟨_, rfl, ?_⟩; have n0_ := Aside0.mk (Kd.R_below (by (with_reducible repeat (first | apply Kd.R_alloc | apply Kd.R_drewN | apply Kd.R_drew)); exact HO104.out) hb); have n1_ := Aside0.mk (Kd.R_below (by (with_reducible repeat (first | apply Kd.R_alloc | apply Kd.R_drewN | apply Kd.R_drew)); exact HO109.out) hb); have n2_ := Aside0.mk (below_step (by repeat (first | (with_reducible first | exact HB.out | apply below_alloc | apply pw_below_drewN | apply below_drew1) | exact HB.out)) hb); clear HO104; clear HO109; clear HB; have HO104 := n0_; have HO109 := n1_; have HB := n2_; clear n0_ n1_ n2_; (try clear hb); (try clear hb2); (try clear hk); (try clear hi)))
  (try simp only [Act.put, List.setIfInBounds_toArray, List.set_cons_zero, List.set_cons_succ])
  go_cut [34] (fun v34 wc => ∃ (kq : Nat) (x34_8 : Bool), v34 = .bool x34_8 ∧ Aside0 (laws_FnExactPathBound.j0 kq l0 t107 x34_8 = some r) ∧ Aside0 (kq ≤ k) ∧ Aside0 (Kd.R k57 57 wc w.heap.size (fun _ => True) (.slice Ao15 t107.length co15) t107) ∧ Aside0 (Below w.heap.size w wc))
  case first =>
    have H := HC9.out
    clear HC9
    by_cases c17 : t110 = t105
    rotate_left
    · rw [if_neg c17] at H
      have c17b0 : (t110 == t105) = false := beq_eq_false_iff_ne.mpr c17
      have c17b1 : (t110 != t105) = true := bne_iff_ne.mpr c17
      (first | rw [c17b0] | (simp only [i64_w, i32_w]; rw [c17b0]) | skip)
      have H' := Aside0.mk H
      clear H
      go_wp2
      go_meet
      case rel => exact ⟨_, (true), (by first | rfl | (simp; done) | (simp [*]; done)), H', ⟨by first | omega | exact Nat.le_refl _⟩, ⟨by (with_reducible repeat (first | apply Kd.R_alloc | apply Kd.R_drewN | apply Kd.R_drew)); exact Kd.R_mono HO109.out (fun _ hk => trivial)⟩, ⟨by repeat (first | (with_reducible first | exact HB.out | apply below_alloc | apply pw_below_drewN | apply below_drew1) | exact HB.out)⟩⟩
    rw [if_pos c17] at H
    have c17b0 : (t110 == t105) = true := beq_iff_eq.mpr c17
    have c17b1 : (t110 != t105) = false := bne_eq_false_iff_eq.mpr c17
    clear c17
    (first | rw [c17b0] | (simp only [i64_w, i32_w]; rw [c17b0]) | skip)
    have H' := Aside0.mk H
    clear H
    go_wp2
    go_meet
    case rel => exact ⟨_, ((t111 != t106)), (by first | rfl | (simp; done) | (simp [*]; done)), H', ⟨by first | omega | exact Nat.le_refl _⟩, ⟨by (with_reducible repeat (first | apply Kd.R_alloc | apply Kd.R_drewN | apply Kd.R_drew)); exact Kd.R_mono HO109.out (fun _ hk => trivial)⟩, ⟨by repeat (first | (with_reducible first | exact HB.out | apply below_alloc | apply pw_below_drewN | apply below_drew1) | exact HB.out)⟩⟩
  clear HC9
  try clear c1
  try clear p2
  try clear c3
  try clear c3b0
  try clear c4
  try clear c10
  try clear c14
  try clear c16
  try clear c17
  try clear c17b0
  try clear c17b1
  obtain ⟨kq, x34_8, rfl, HA, HJ8, HO_6, HB⟩ := hcut
  cases kq with
  | zero => exact absurd HA.out (by simp [laws_FnExactPathBound.j0])
  | succ kj8 =>
  have H := HA.out
  clear HA
  simp only [laws_FnExactPathBound.j0] at H
  by_cases c18 : x34_8 = true
  · subst c18
    have H1 : (some false) = some r := by rw [if_pos rfl] at H; exact H
    clear H
    have H := H1
    clear H1
    obtain rfl := Option.some.inj H
    go_wp2
    go_ret
    exact ⟨by first | rfl | (simp [errW_none, errW_some] <;> rfl) | (simp [*, errW_none, errW_some] <;> rfl), by repeat (first | (with_reducible first | exact HB.out | apply below_alloc | apply pw_below_drewN | apply below_drew1) | exact HB.out)⟩
  replace c18 := Bool.eq_false_iff.mpr c18
  subst c18
  have H1 : ((laws_toInstrS.f kj8 l0).bind fun t112 => ((laws_eqInstrS.f kj8 t107 t112).bind fun t115 => (if t115 = true then (some true) else (some false)))) = some r := by rw [if_neg (show ¬ (false = true) by decide)] at H; exact H
  clear H
  have H := H1
  clear H1
  replace H := Option.bind_eq_some_iff.mp H
  obtain ⟨t112, A190, H⟩ := H
  replace H : ((laws_eqInstrS.f kj8 t107 t112).bind fun t115 => (if t115 = true then (some true) else (some false))) = some r := H
  have A19 := Aside0.mk A190
  clear A190
  replace H := Option.bind_eq_some_iff.mp H
  obtain ⟨t115, A200, H⟩ := H
  replace H : (if t115 = true then (some true) else (some false)) = some r := H
  have A20 := Aside0.mk A200
  clear A200
  by_cases c21 : t115 = true
  · subst c21
    have H1 : (some true) = some r := by rw [if_pos rfl] at H; exact H
    clear H
    have H := H1
    clear H1
    obtain rfl := Option.some.inj H
    go_wp2_with (first | ((with_reducible refine gate_callee (f := 16) rfl ?_); refine goesL_ (some 37) rfl rfl Try.func16 (by kernel_rfl) rfl #[.slice A0 l0.length c0] rfl (by (try simp only [List.map_toArray, List.map_cons, List.map_nil]); first | done | rfl | (simp only [List.length_drop, List.length_take]; rfl)) ?_; (with_reducible refine (laws_toInstrS.calls kj8 _ _ l0 t112 _ ?side1 ?side2 A19.out).mono ?_); (case side1 => repeat (first | exact (Kd.C_below HR0.out HB.out) | (with_reducible refine Kd.C_alloc ?_ _) | (with_reducible refine Kd.C_drewN ?_ _) | (with_reducible refine Kd.C_drew ?_))); (case side2 => exact HC0.out); rintro e w22 ⟨v113, rfl, ho0, hb⟩; refine ⟨_, rfl, ?_⟩; have n0_ := Aside0.mk (Kd.R_elder' (by (with_reducible repeat (first | apply Kd.R_alloc | apply Kd.R_drewN | apply Kd.R_drew)); exact HO_6.out) (Kd.R_base ho0) hb); have n1_ := Aside0.mk (Kd.R_lower (Kd.R_new' ho0 (Kd.R_lt (by (with_reducible repeat (first | apply Kd.R_alloc | apply Kd.R_drewN | apply Kd.R_drew)); exact HO_6.out))) (below_size (by repeat (first | (with_reducible first | exact HB.out | apply below_alloc | apply pw_below_drewN | apply below_drew1) | exact HB.out)))); have n2_ := Aside0.mk (below_step (by repeat (first | (with_reducible first | exact HB.out | apply below_alloc | apply pw_below_drewN | apply below_drew1) | exact HB.out)) hb); clear HO_6; clear HB; have HO_6 := n0_; have HO114 := n1_; have HB := n2_; clear n0_ n1_ n2_; (try clear hb); (try clear hb2); (try clear hk); (try clear hi); (try clear ho0); obtain ⟨Ao23, co23, eo23⟩ := Kd.R_slice HO114.out; subst eo23) | ((with_reducible refine gate_callee (f := 19) rfl ?_); refine goesL_ (some 38) rfl rfl Try.func19 (by kernel_rfl) rfl #[.slice Ao15 t107.length co15, .slice Ao23 t112.length co23] rfl (by (try simp only [List.map_toArray, List.map_cons, List.map_nil]); first | done | rfl | (simp only [List.length_drop, List.length_take]; rfl)) ?_; (with_reducible refine (laws_eqInstrS.calls kj8 _ _ t107 _ _ t112 true _ ?side1 ?side2 ?side3 ?side4 A20.out).mono ?_); (case side1 => repeat (first | exact (Kd.R_reads' HO_6.out).2.2 | (with_reducible refine Kd.C_alloc ?_ _) | (with_reducible refine Kd.C_drewN ?_ _) | (with_reducible refine Kd.C_drew ?_))); (case side2 => exact (Kd.R_reads' HO_6.out).2.1); (case side3 => repeat (first | exact (Kd.R_reads' HO114.out).2.2 | (with_reducible refine Kd.C_alloc ?_ _) | (with_reducible refine Kd.C_drewN ?_ _) | (with_reducible refine Kd.C_drew ?_))); (case side4 => exact (Kd.R_reads' HO114.out).2.1); rintro e w24 ⟨rfl, hb⟩; refine ⟨_, rfl, ?_⟩; have n0_ := Aside0.mk (Kd.R_below (by (with_reducible repeat (first | apply Kd.R_alloc | apply Kd.R_drewN | apply Kd.R_drew)); exact HO_6.out) hb); have n1_ := Aside0.mk (Kd.R_below (by (with_reducible repeat (first | apply Kd.R_alloc | apply Kd.R_drewN | apply Kd.R_drew)); exact HO114.out) hb); have n2_ := Aside0.mk (below_step (by repeat (first | (with_reducible first | exact HB.out | apply below_alloc | apply pw_below_drewN | apply below_drew1) | exact HB.out)) hb); clear HO_6; clear HO114; clear HB; have HO_6 := n0_; have HO114 := n1_; have HB := n2_; clear n0_ n1_ n2_; (try clear hb); (try clear hb2); (try clear hk); (try clear hi)))
    go_ret
    exact ⟨by first | rfl | (simp [errW_none, errW_some] <;> rfl) | (simp [*, errW_none, errW_some] <;> rfl), by repeat (first | (with_reducible first | exact HB.out | apply below_alloc | apply pw_below_drewN | apply below_drew1) | exact HB.out)⟩
  replace c21 := Bool.eq_false_iff.mpr c21
  subst c21
  have H1 : (some false) = some r := by rw [if_neg (show ¬ (false = true) by decide)] at H; exact H
  clear H
  have H := H1
  clear H1
  obtain rfl := Option.some.inj H
  go_wp2_with (first | ((with_reducible refine gate_callee (f := 16) rfl ?_); refine goesL_ (some 37) rfl rfl Try.func16 (by kernel_rfl) rfl #[.slice A0 l0.length c0] rfl (by (try simp only [List.map_toArray, List.map_cons, List.map_nil]); first | done | rfl | (simp only [List.length_drop, List.length_take]; rfl)) ?_; (with_reducible refine (laws_toInstrS.calls kj8 _ _ l0 t112 _ ?side1 ?side2 A19.out).mono ?_); (case side1 => repeat (first | exact (Kd.C_below HR0.out HB.out) | (with_reducible refine Kd.C_alloc ?_ _) | (with_reducible refine Kd.C_drewN ?_ _) | (with_reducible refine Kd.C_drew ?_))); (case side2 => exact HC0.out); rintro e w25 ⟨v113, rfl, ho0, hb⟩; refine ⟨_, rfl, ?_⟩; have n0_ := Aside0.mk (Kd.R_elder' (by (with_reducible repeat (first | apply Kd.R_alloc | apply Kd.R_drewN | apply Kd.R_drew)); exact HO_6.out) (Kd.R_base ho0) hb); have n1_ := Aside0.mk (Kd.R_lower (Kd.R_new' ho0 (Kd.R_lt (by (with_reducible repeat (first | apply Kd.R_alloc | apply Kd.R_drewN | apply Kd.R_drew)); exact HO_6.out))) (below_size (by repeat (first | (with_reducible first | exact HB.out | apply below_alloc | apply pw_below_drewN | apply below_drew1) | exact HB.out)))); have n2_ := Aside0.mk (below_step (by repeat (first | (with_reducible first | exact HB.out | apply below_alloc | apply pw_below_drewN | apply below_drew1) | exact HB.out)) hb); clear HO_6; clear HB; have HO_6 := n0_; have HO114 := n1_; have HB := n2_; clear n0_ n1_ n2_; (try clear hb); (try clear hb2); (try clear hk); (try clear hi); (try clear ho0); obtain ⟨Ao26, co26, eo26⟩ := Kd.R_slice HO114.out; subst eo26) | ((with_reducible refine gate_callee (f := 19) rfl ?_); refine goesL_ (some 38) rfl rfl Try.func19 (by kernel_rfl) rfl #[.slice Ao15 t107.length co15, .slice Ao26 t112.length co26] rfl (by (try simp only [List.map_toArray, List.map_cons, List.map_nil]); first | done | rfl | (simp only [List.length_drop, List.length_take]; rfl)) ?_; (with_reducible refine (laws_eqInstrS.calls kj8 _ _ t107 _ _ t112 false _ ?side1 ?side2 ?side3 ?side4 A20.out).mono ?_); (case side1 => repeat (first | exact (Kd.R_reads' HO_6.out).2.2 | (with_reducible refine Kd.C_alloc ?_ _) | (with_reducible refine Kd.C_drewN ?_ _) | (with_reducible refine Kd.C_drew ?_))); (case side2 => exact (Kd.R_reads' HO_6.out).2.1); (case side3 => repeat (first | exact (Kd.R_reads' HO114.out).2.2 | (with_reducible refine Kd.C_alloc ?_ _) | (with_reducible refine Kd.C_drewN ?_ _) | (with_reducible refine Kd.C_drew ?_))); (case side4 => exact (Kd.R_reads' HO114.out).2.1); rintro e w27 ⟨rfl, hb⟩; refine ⟨_, rfl, ?_⟩; have n0_ := Aside0.mk (Kd.R_below (by (with_reducible repeat (first | apply Kd.R_alloc | apply Kd.R_drewN | apply Kd.R_drew)); exact HO_6.out) hb); have n1_ := Aside0.mk (Kd.R_below (by (with_reducible repeat (first | apply Kd.R_alloc | apply Kd.R_drewN | apply Kd.R_drew)); exact HO114.out) hb); have n2_ := Aside0.mk (below_step (by repeat (first | (with_reducible first | exact HB.out | apply below_alloc | apply pw_below_drewN | apply below_drew1) | exact HB.out)) hb); clear HO_6; clear HO114; clear HB; have HO_6 := n0_; have HO114 := n1_; have HB := n2_; clear n0_ n1_ n2_; (try clear hb); (try clear hb2); (try clear hk); (try clear hi)))
  go_ret
  exact ⟨by first | rfl | (simp [errW_none, errW_some] <;> rfl) | (simp [*, errW_none, errW_some] <;> rfl), by repeat (first | (with_reducible first | exact HB.out | apply below_alloc | apply pw_below_drewN | apply below_drew1) | exact HB.out)⟩
end Go.Proofs.Yteaablbhdmkcpaa.Q
end
section
namespace Go.Proofs.Yteaablbhdmkcpaa.Rd
open Go Go.RowKit Go.Proofs.YteaablbhdmkcpaaW.PrintWords Go.Proofs.YteaablbhdmkcpaaW.PrintLast Go.ChangeShapes Go.WideShapes Go.Deep
set_option linter.unusedSimpArgs false
set_option linter.unusedVariables false
structure RdK {α : Type} (d : Kd α) (P : Program) (t : TypeId) (Good : α → Prop) : Prop where
  size : P.cellsOf t = d.sz
  get : ∀ {H : Type} {enc : TypeId × Value → H} {w : World} {n : Nat} {cs : List Value} {x : DataW H × List MemPlace}, DataW.trod enc P w 0 (fun _ => true) true n t cs = some x → ∃ a, d.K w a cs ∧ Good a
def okInt (k : IntKind) (n : Int) : Prop := (Lit.int k n).wf = true
def okStr (s : ByteArray) : Prop := s.size ≤ maxLen
def okSl {α : Type} (G : α → Prop) (xs : List α) : Prop := xs.length ≤ maxLen ∧ ∀ x ∈ xs, G x
theorem rk_int {P : Program} {t : TypeId} {k : IntKind} (ht : P.underlying t = some (.int k)) (hs : P.cellsOf t = 1) : RdK (Kd.int k) P t (okInt k) :=
  ⟨hs, fun h => by obtain ⟨n, rfl, _, hw⟩ := DataW.trod_int ht h; exact ⟨n, rfl, hw⟩⟩
theorem rk_string {P : Program} {t : TypeId} (ht : P.underlying t = some .string) (hs : P.cellsOf t = 1) : RdK Kd.string P t okStr :=
  ⟨hs, fun h => by obtain ⟨n, rfl, _, hw⟩ := DataW.trod_string ht h; exact ⟨n, rfl, hw⟩⟩
theorem rk_slice {α : Type} {d : Kd α} {P : Program} {t e : TypeId} {G : α → Prop} (hd : RdK d P e G) (ht : P.underlying t = some (.slice e)) (hs : P.cellsOf t = 1) : RdK (Kd.slice e d) P t (okSl G) := by
  refine ⟨hs, fun {H enc w n cs x} h => ?_⟩
  rcases open_slice ht h with ⟨rfl, _⟩ | ⟨a, len, cap, m, n', D, Pl, rfl, _, hl, hm, hmm, _, hx⟩
  · exact ⟨[], ⟨none, 0, rfl, Nat.le_refl _, rfl, Nat.zero_le _, fun h => absurd h (Nat.lt_irrefl 0)⟩, Nat.zero_le _, fun _ h => by cases h⟩
  · have hc : m = cap := by simpa using hmm
    subst hc
    have key : ∀ i : Fin len, ∃ a' : α, ∃ cs', d.K w a' cs' ∧ G a' ∧ w.cells? 0 (a.add (i * P.cellsOf e)) (P.cellsOf e) = some cs' := fun i => by
      obtain ⟨cs', h1, h2⟩ := hx i (by omega)
      obtain ⟨a', h3, h4⟩ := hd.get h2
      exact ⟨a', cs', h3, h4, h1⟩
    have hlen : (List.ofFn fun i => Classical.choose (key i)).length = len := List.length_ofFn
    refine ⟨List.ofFn fun i => Classical.choose (key i), ⟨some a, m, by rw [hlen], by omega, hlen.trans hlen.symm, ?_, fun _ => ⟨a, rfl, fun j p hj => ?_⟩⟩, by rw [hlen]; omega, fun y hy => ?_⟩
    · rw [hlen]; unfold maxLen at hm; omega
    · have hjl : j < len := by
        have := (List.getElem?_eq_some_iff.1 hj).1
        rwa [hlen] at this
      rw [List.getElem?_ofFn, dif_pos hjl, Option.some.injEq] at hj
      obtain ⟨cs', h1, h2, h3⟩ := Classical.choose_spec (key ⟨j, hjl⟩)
      rw [hj] at h1 h2
      obtain ⟨_, h5, h6⟩ := World.cells?_some h3
      refine ⟨cs', d.K_len h1, h1, fun i u hi => ?_⟩
      have hil : i < P.cellsOf e := by
        have := (List.getElem?_eq_some_iff.1 hi).1
        omega
      have := h6 i hil
      rw [Go.Deep.add_add] at this
      rw [← hd.size]
      exact this.trans hi
    · obtain ⟨i, rfl⟩ := List.mem_ofFn.1 hy
      obtain ⟨cs', h1, h2, h3⟩ := Classical.choose_spec (key i)
      exact h2
structure RdF {α : Type} (d : Kd α) (P : Program) (fs : List Field) (off : Nat) (Good : α → Prop) : Prop where
  get : ∀ {H : Type} {enc : TypeId × Value → H} {w : World} {n : Nat} {cs : List Value}, cs.length = off + d.sz →
    (∀ f ∈ fs, ∃ y, DataW.trod enc P w 0 (fun _ => true) true n f.type ((cs.drop f.offset).take (P.cellsOf f.type)) = some y) → ∃ a, d.K w a (cs.drop off) ∧ Good a
theorem rf_one {α : Type} {d : Kd α} {P : Program} {f : Field} {G : α → Prop} (hd : RdK d P f.type G) : RdF d P [f] f.offset G := by
  refine ⟨fun {H enc w n cs} hl h => ?_⟩
  obtain ⟨y, hy⟩ := h f (List.mem_singleton.2 rfl)
  rw [hd.size, List.take_of_length_le (by rw [List.length_drop]; omega)] at hy
  exact hd.get hy
theorem rf_cons {α β : Type} {d : Kd α} {d' : Kd β} {P : Program} {f : Field} {fs : List Field} {G : α → Prop} {G' : β → Prop} {off' : Nat} (hd : RdK d P f.type G) (ho : off' = f.offset + d.sz) (hf : RdF d' P fs off' G') :
    RdF (Kd.pair d d') P (f :: fs) f.offset (fun x => G x.1 ∧ G' x.2) := by
  refine ⟨fun {H enc w n cs} hl h => ?_⟩
  have hl' : cs.length = f.offset + (d.sz + d'.sz) := hl
  obtain ⟨y, hy⟩ := h f List.mem_cons_self
  rw [hd.size] at hy
  obtain ⟨a, h1, h2⟩ := hd.get hy
  obtain ⟨b, h3, h4⟩ := hf.get (cs := cs) (by omega) (fun g hg => h g (List.mem_cons_of_mem _ hg))
  refine ⟨(a, b), ⟨_, _, ?_, h1, h3⟩, h2, h4⟩
  rw [ho, ← List.drop_drop, List.take_append_drop]
theorem rk_struct {α : Type} {d : Kd α} {P : Program} {t : TypeId} {fs : Array Field} {G : α → Prop} (ht : P.underlying t = some (.struct fs)) (hs : P.cellsOf t = d.sz) (hf : RdF d P fs.toList 0 G) : RdK d P t G := by
  refine ⟨hs, fun {H enc w n cs x} h => ?_⟩
  obtain ⟨xs, n', _, _, hl, hlen, hg⟩ := DataW.trod_struct ht h
  have := hf.get (cs := cs) (enc := enc) (w := w) (n := n') (by omega) (fun f hf' => by
    obtain ⟨i, hi, he⟩ := List.getElem_of_mem hf'
    have h1 : fs[i]? = some f := by rw [← Array.getElem?_toList, List.getElem?_eq_getElem hi, he]
    have h2 := hg i f h1
    rw [List.getElem?_eq_getElem (by rw [hlen]; simpa using hi)] at h2
    exact ⟨_, h2⟩)
  simpa using this
theorem rk_iso {α β : Type} {d : Kd α} {P : Program} {t : TypeId} {G : α → Prop} (hd : RdK d P t G) (f : β → α) (g : α → β) (hfg : ∀ a, f (g a) = a) : RdK (Kd.iso d f) P t (fun b => G (f b)) := by
  refine ⟨hd.size, fun {H enc w n cs x} h => ?_⟩
  obtain ⟨a, h1, h2⟩ := hd.get h
  exact ⟨g a, by show d.K w (f (g a)) cs; rw [hfg]; exact h1, by rw [hfg]; exact h2⟩
theorem arg_slice {α : Type} {d : Kd α} {P : Program} {t e : TypeId} {G : α → Prop} (hd : RdK (Kd.slice e d) P t (okSl G)) {H : Type} {enc : TypeId × Value → H} {w : World} {a : Option Addr} {len cap : Nat} {x : DataW H} {ps : List MemPlace}
    (h : DataW.Trod enc P w 0 (fun _ => true) true t (.slice a len cap) x ps) : ∃ xs : List α, len = xs.length ∧ xs.length ≤ cap ∧ Kd.C d w a xs.length xs ∧ okSl G xs := by
  obtain ⟨n, hn⟩ := h
  obtain ⟨xs, ⟨A, c, he, hl, hc⟩, hg⟩ := hd.get hn
  simp [Value.cells] at he
  obtain ⟨rfl, rfl, rfl⟩ := he
  exact ⟨xs, rfl, hl, hc, hg⟩
end Go.Proofs.Yteaablbhdmkcpaa.Rd
end
section
namespace Go.Proofs.Yteaablbhdmkcpaa.Q
open Go.RowKit Go.Proofs.YteaablbhdmkcpaaW.PrintWords Go.Proofs.YteaablbhdmkcpaaW.PrintLast Go.Proofs.YteaablbhdmkcpaaW.PrintMore
attribute [local go_sem] max2_int min2_int max_two min_two max_three min_three max_four min_four
set_option linter.unusedVariables false
set_option linter.unusedSimpArgs false
def good54 (x : S54) : Prop := Rd.okStr x.f0 ∧ (Rd.okInt .i64) x.f1 ∧ (Rd.okInt .i64) x.f2 ∧ (Rd.okInt .i64) x.f3 ∧ (Rd.okInt .i64) x.f4
theorem rd54 : Rd.RdK k54 Try.prog 54 good54 :=
  Rd.rk_iso (Rd.rk_struct Try.underlying54 (by kernel_rfl) (Rd.rf_cons (Rd.rk_string Try.underlying9 (by kernel_rfl)) rfl (Rd.rf_cons (Rd.rk_int Try.underlying3 (by kernel_rfl)) rfl (Rd.rf_cons (Rd.rk_int Try.underlying3 (by kernel_rfl)) rfl (Rd.rf_cons (Rd.rk_int Try.underlying3 (by kernel_rfl)) rfl (Rd.rf_one (Rd.rk_int Try.underlying3 (by kernel_rfl)))))))) (fun x : S54 => (x.f0, x.f1, x.f2, x.f3, x.f4)) (fun p => ⟨p.1, p.2.1, p.2.2.1, p.2.2.2.1, p.2.2.2.2⟩) (fun _ => rfl)
end Go.Proofs.Yteaablbhdmkcpaa.Q
end
section
namespace Go.Proofs.Yteaablbhdmkcpaa.Q
open Go.RowKit Go.Proofs.YteaablbhdmkcpaaW.PrintWords Go.Proofs.YteaablbhdmkcpaaW.PrintLast Go.Proofs.YteaablbhdmkcpaaW.PrintMore
attribute [local go_sem] max2_int min2_int max_two min_two max_three min_three max_four min_four
set_option linter.unusedVariables false
set_option linter.unusedSimpArgs false
def laws_FnExactPathBound.Pure : Prop := ∀ (a0 : List (S54)), (Rd.okSl good54) a0 → ∃ k, laws_FnExactPathBound.f k a0 = some true
end Go.Proofs.Yteaablbhdmkcpaa.Q
end
section
namespace Go.Proofs.Yteaablbhdmkcpaa.PL
open Go Go.RowKit Go.Proofs.YteaablbhdmkcpaaW.PrintWords Go.Proofs.YteaablbhdmkcpaaW.PrintLast Go.Proofs.YteaablbhdmkcpaaW.PrintMore Go.Proofs.Yteaablbhdmkcpaa.Q
set_option linter.unusedSimpArgs false
set_option linter.unusedVariables false
theorem w64 {x : Int} (h1 : -9223372036854775808 ≤ x) (h2 : x < 9223372036854775808) : wrap64 x = x := by unfold wrap64; omega
theorem w64n (i : Nat) (h : i < 4611686018427387904) : wrap64 ((i : Int) + 1) = ((i + 1 : Nat) : Int) := by unfold wrap64; omega
theorem Ev.some {α : Type} {a r : α} (h : a = r) : Ev (fun _ => some a) r := h ▸ Ev.now a
theorem Ev.const {α : Type} {g : Option α} {r : α} (h : g = Option.some r) : Ev (fun _ => g) r := by rw [h]; exact Ev.now r
theorem ev_eq {α : Type} {g : Nat → Option α} {r s : α} (h : Ev g r) (e : r = s) : Ev g s := e ▸ h
theorem Ev.ifp {α : Type} {c : Prop} [Decidable c] {g g' : Nat → Option α} {r : α} (h : c) (H : Ev g r) : Ev (fun k => if c then g k else g' k) r := Ev.congr (fun _ => if_pos h) H
theorem Ev.ifn {α : Type} {c : Prop} [Decidable c] {g g' : Nat → Option α} {r : α} (h : ¬ c) (H : Ev g' r) : Ev (fun k => if c then g k else g' k) r := Ev.congr (fun _ => if_neg h) H
theorem Ev.call {α β : Type} {g : Option α} {f : Nat → α → Option β} {a : α} {r : β} (h : g = Option.some a) (k : Ev (fun n => f n a) r) : Ev (fun n => g.bind (f n)) r := by
  rw [h]; exact k
theorem loop_up {σ ρ : Type} (n : Nat) (L : Nat → σ → Int → Option ρ) (M : Nat → σ → ρ) (hend : ∀ s, Ev (fun k => L k s n) (M n s))
    (hstep : ∀ (i : Nat) s, i < n → (∀ s', Ev (fun k => L k s' ((i + 1 : Nat) : Int)) (M (i + 1) s')) → Ev (fun k => L k s i) (M i s)) :
    ∀ (d i : Nat) s, i + d = n → Ev (fun k => L k s i) (M i s)
  | 0, i, s, h => by
    have e : i = n := by omega
    rw [e]
    exact hend s
  | d + 1, i, s, h => hstep i s (by omega) (fun s' => loop_up n L M hend hstep d (i + 1) s' (by omega))
theorem loop_list {α σ ρ : Type} (xs : List α) (L : Nat → σ → Int → Option ρ) (m : List α → σ → ρ) (hend : ∀ s, Ev (fun k => L k s (xs.length : Nat)) (m [] s))
    (hstep : ∀ (i : Nat) s x rest, i < xs.length → (∀ d, xs.getD i d = x) → (∀ s', Ev (fun k => L k s' ((i + 1 : Nat) : Int)) (m rest s')) → Ev (fun k => L k s i) (m (x :: rest) s)) (s : σ) :
    Ev (fun k => L k s 0) (m xs s) := by
  have := loop_up xs.length L (fun i s => m (xs.drop i) s) (fun s => by simpa using hend s) (fun i s hi ih => by
    have e : xs.drop i = xs[i] :: xs.drop (i + 1) := List.drop_eq_getElem_cons hi
    show Ev (fun k => L k s i) (m (xs.drop i) s)
    rw [e]
    exact hstep i s xs[i] _ hi (fun d => by simp [List.getD, List.getElem?_eq_getElem hi]) ih) xs.length 0 s (by omega)
  simpa using this
def idx {α : Type} (p : α → Bool) : List α → Int
  | [] => -1
  | x :: xs => if p x = true then 0 else if idx p xs < 0 then -1 else idx p xs + 1
theorem idx_nonneg {α : Type} (p : α → Bool) (xs : List α) : 0 ≤ idx p xs ↔ ∃ x ∈ xs, p x = true := by
  induction xs with
  | nil => simp [idx]
  | cons x xs ih =>
    unfold idx
    by_cases h : p x = true
    · simp [h]
    · by_cases h2 : idx p xs < 0
      · rw [if_neg h, if_pos h2]
        have : ¬ ∃ x ∈ xs, p x = true := fun e => by have := ih.2 e; omega
        simp [h]
        simpa using this
      · rw [if_neg h, if_neg h2]
        have := ih.1 (by omega)
        simp [h]
        exact ⟨fun _ => this, fun _ => by omega⟩
theorem idx_ge {α : Type} (p : α → Bool) (xs : List α) : -1 ≤ idx p xs := by
  induction xs with
  | nil => unfold idx; simp
  | cons x xs ih => unfold idx; split; · decide
                    · split <;> omega
theorem search_ev {α : Type} (xs : List α) (p : α → Bool) (L : Nat → Int → Option Int) (hend : Ev (fun k => L k (xs.length : Nat)) (-1))
    (hyes : ∀ (i : Nat) x, i < xs.length → (∀ d, xs.getD i d = x) → p x = true → Ev (fun k => L k i) (i : Int))
    (hno : ∀ (i : Nat) x r, i < xs.length → (∀ d, xs.getD i d = x) → p x = false → Ev (fun k => L k ((i + 1 : Nat) : Int)) r → Ev (fun k => L k i) r) : Ev (fun k => L k 0) (idx p xs) := by
  have key : ∀ (d i : Nat), i + d = xs.length → Ev (fun k => L k i) (if idx p (xs.drop i) < 0 then -1 else idx p (xs.drop i) + i) := by
    intro d
    induction d with
    | zero =>
      intro i hi
      rw [List.drop_of_length_le (by omega), if_pos (show idx p [] < 0 by unfold idx; decide)]
      have e : i = xs.length := by omega
      rw [e]; exact hend
    | succ d ih =>
      intro i hi
      have hlt : i < xs.length := by omega
      have e : xs.drop i = xs[i] :: xs.drop (i + 1) := List.drop_eq_getElem_cons hlt
      have hg : ∀ d, xs.getD i d = xs[i] := fun d => by simp [List.getD, List.getElem?_eq_getElem hlt]
      rw [e]
      unfold idx
      by_cases h : p xs[i] = true
      · rw [if_pos h, if_neg (by decide)]
        simpa using hyes i _ hlt hg h
      · refine hno i _ _ hlt hg (by simpa using h) (ev_eq (ih (i + 1) (by omega)) ?_)
        rw [if_neg h]
        by_cases h2 : idx p (xs.drop (i + 1)) < 0
        · rw [if_pos h2, if_pos h2, if_pos (by decide)]
        · rw [if_neg h2, if_neg h2, if_neg (by omega)]
          omega
  have := key xs.length 0 (by omega)
  simp only [List.drop_zero, Int.natCast_zero, Int.add_zero] at this
  refine ev_eq this ?_
  have := idx_ge p xs
  split <;> omega
theorem all_ev {α : Type} (xs : List α) (p : α → Bool) (L : Nat → Int → Option Bool) (hend : Ev (fun k => L k (xs.length : Nat)) true)
    (hno : ∀ (i : Nat) x, i < xs.length → (∀ d, xs.getD i d = x) → p x = false → Ev (fun k => L k i) false)
    (hyes : ∀ (i : Nat) x r, i < xs.length → (∀ d, xs.getD i d = x) → p x = true → Ev (fun k => L k ((i + 1 : Nat) : Int)) r → Ev (fun k => L k i) r) : Ev (fun k => L k 0) (xs.all p) := by
  refine loop_list (σ := Unit) xs (fun k _ i => L k i) (fun l _ => l.all p) (fun _ => hend) (fun i _ x rest hi hx ih => ?_) ()
  by_cases h : p x = true
  · exact hyes i x _ hi hx h (ev_eq (ih ()) (by simp [h]))
  · have h' : p x = false := by simpa using h
    exact ev_eq (hno i x hi hx h') (by simp [h'])
theorem rd_eq {xs : List Int} {i : Nat} {x : Int} (h : ∀ d, xs.getD i d = x) : rd xs i = x := by unfold rd; rw [Int.toNat_natCast]; exact h 0
theorem rdI_eq {xs : List S57} {i : Nat} {x : S57} (h : ∀ d, xs.getD i d = x) : rd_T57 xs i = x := by unfold rd_T57; rw [Int.toNat_natCast]; exact h _
theorem rdJ_eq {xs : List S54} {i : Nat} {x : S54} (h : ∀ d, xs.getD i d = x) : rd_T54 xs i = x := by unfold rd_T54; rw [Int.toNat_natCast]; exact h _
theorem getD_eq {α : Type} (xs : List α) (i : Nat) (h : i < xs.length) : ∀ d, xs.getD i d = xs[i] := fun d => by simp [List.getD, List.getElem?_eq_getElem h]
theorem set_fill {α : Type} (xs ys : List α) (z : α) (v : α) : (xs ++ List.replicate (ys.length + 1) z).set xs.length v = (xs ++ [v]) ++ List.replicate ys.length z := by
  rw [List.set_append_right _ _ (Nat.le_refl _)]
  simp [List.replicate_succ]
end Go.Proofs.Yteaablbhdmkcpaa.PL
end
section
namespace Go.Proofs.Yteaablbhdmkcpaa.Q
open Go.RowKit Go.Proofs.YteaablbhdmkcpaaW.PrintWords Go.Proofs.YteaablbhdmkcpaaW.PrintLast Go.Proofs.YteaablbhdmkcpaaW.PrintMore
attribute [local go_sem] max2_int min2_int max_two min_two max_three min_three max_four min_four
set_option linter.unusedVariables false
set_option linter.unusedSimpArgs false
end Go.Proofs.Yteaablbhdmkcpaa.Q
end
section
namespace Go.Proofs.Yteaablbhdmkcpaa.Q
open Go.RowKit Go.Proofs.YteaablbhdmkcpaaW.PrintWords Go.Proofs.YteaablbhdmkcpaaW.PrintLast Go.Proofs.YteaablbhdmkcpaaW.PrintMore
attribute [local go_sem] max2_int min2_int max_two min_two max_three min_three max_four min_four
set_option linter.unusedVariables false
set_option linter.unusedSimpArgs false
end Go.Proofs.Yteaablbhdmkcpaa.Q
end
section
namespace Go.Proofs.Yteaablbhdmkcpaa.PL
open Go Go.RowKit Go.Proofs.YteaablbhdmkcpaaW.PrintWords Go.Proofs.YteaablbhdmkcpaaW.PrintLast Go.Proofs.YteaablbhdmkcpaaW.PrintMore Go.Proofs.Yteaablbhdmkcpaa.Q
set_option linter.unusedSimpArgs false
set_option linter.unusedVariables false
abbrev Instr := S57
abbrev LInstr := S54
def cvI (x : LInstr) : Instr := ⟨x.f0, x.f1, x.f2, x.f3, x.f4⟩
theorem szInstr_eq (s : ByteArray) (a b c d r : Int) (hs : s.size ≤ maxLen) (h0 : 0 ≤ r) (h1 : r ≤ 1048576) : laws_szInstr.f s a b c d r = some (if r < s.size then -1 else r - s.size) := by
  unfold maxLen at hs
  unfold laws_szInstr.f
  rw [w64 (by omega) (by omega)]
  by_cases h : r < s.size
  · rw [if_pos (by omega), if_pos h]
  · rw [if_neg (by omega), if_neg h]
theorem szInstrS_ev (l : List LInstr) (a : Int) (hl : Rd.okSl good54 l) (h0 : 0 ≤ a) (h1 : a ≤ 1048576) :
    ∃ r, Ev (fun k => laws_szInstrS.f k l a) r ∧ (0 ≤ r → (l.length : Int) ≤ a ∧ (∀ x ∈ l, (x.f0.size : Int) ≤ a) ∧ r ≤ a) := by
  obtain ⟨hl1, hl2⟩ := hl
  unfold maxLen at hl1
  by_cases h : a < l.length
  · refine ⟨-1, ?_, fun h => absurd h (by decide)⟩
    unfold laws_szInstrS.f
    rw [w64 (by omega) (by omega)]
    simp only [show a - (l.length : Int) < 0 by omega, if_true]
    exact Ev.now _
  · have key : ∀ (d i : Nat) (r : Int), i + d = l.length → 0 ≤ r → r ≤ a → ∃ q, Ev (fun k => laws_szInstrS.l0 k l r i) q ∧ q ≤ a ∧ (0 ≤ q → ∀ x ∈ l.drop i, (x.f0.size : Int) ≤ a) := by
      intro d
      induction d with
      | zero =>
        intro i r hi hr _
        refine ⟨r, Ev.step (f := fun _ => some r) (fun k => ?_) (Ev.now _), by omega, fun _ x hx => ?_⟩
        · simp only [laws_szInstrS.l0]
          rw [if_neg (by omega)]
        · rw [List.drop_of_length_le (by omega)] at hx
          cases hx
      | succ d ih =>
        intro i r hi hr hra
        have hlt : i < l.length := by omega
        have e : l.drop i = l[i] :: l.drop (i + 1) := List.drop_eq_getElem_cons hlt
        have hx := rdJ_eq (getD_eq l i hlt)
        have hsz := (hl2 l[i] (List.getElem_mem hlt)).1
        by_cases hb : r < l[i].f0.size
        · refine ⟨-1, Ev.step (f := fun _ => some (-1)) (fun k => ?_) (Ev.now _), by omega, fun h => absurd h (by decide)⟩
          simp only [laws_szInstrS.l0]
          rw [if_pos (by omega), if_pos (by omega), hx, szInstr_eq _ _ _ _ _ _ hsz hr (by omega), if_pos hb]
          rfl
        · obtain ⟨q, hq, hqa, hq'⟩ := ih (i + 1) (r - l[i].f0.size) (by omega) (by omega) (by omega)
          refine ⟨q, Ev.step (f := fun k => laws_szInstrS.l0 k l (r - l[i].f0.size) ((i + 1 : Nat) : Int)) (fun k => ?_) hq, hqa, fun h x hx' => ?_⟩
          · simp only [laws_szInstrS.l0]
            rw [if_pos (by omega), if_pos (by omega), hx, szInstr_eq _ _ _ _ _ _ hsz hr (by omega), if_neg hb, Option.bind_some, if_neg (by omega), w64n i (by omega)]
          · rw [e] at hx'
            rcases List.mem_cons.1 hx' with rfl | hx'
            · omega
            · exact hq' h x hx'
    obtain ⟨q, hq, hqa, hq'⟩ := key l.length 0 (a - l.length) (by omega) (by omega) (by omega)
    refine ⟨q, ?_, fun h' => ⟨by omega, by simpa using hq' h', hqa⟩⟩
    unfold laws_szInstrS.f
    rw [w64 (by omega) (by omega)]
    simp only [show ¬ (a - (l.length : Int) < 0) by omega, if_false]
    simpa using hq
theorem toInstrS_ev (l : List LInstr) (hl : l.length ≤ 1048576) : Ev (fun k => laws_toInstrS.f k l) (l.map cvI) := by
  have key : ∀ (d i : Nat), i + d = l.length → Ev (fun k => laws_toInstrS.l0 k l ((l.take i).map cvI ++ List.replicate d z57) i) (l.map cvI) := by
    intro d
    induction d with
    | zero =>
      intro i hi
      refine Ev.step (f := fun _ => some _) (fun k => ?_) (Ev.now _)
      simp only [laws_toInstrS.l0]
      rw [if_neg (by omega), List.take_of_length_le (by omega)]
      simp
    | succ d ih =>
      intro i hi
      have hlt : i < l.length := by omega
      have hx := rdJ_eq (getD_eq l i hlt)
      refine Ev.step (fun k => ?_) (ih (i + 1) (by omega))
      simp only [laws_toInstrS.l0, laws_toInstr.f, Option.bind_some]
      rw [if_pos (by omega), if_pos (by omega), if_pos (by simp; omega), hx, w64n i (by omega)]
      congr 1
      have e : ((i : Int)).toNat = ((l.take i).map cvI).length := by simp; omega
      rw [e]
      have := set_fill ((l.take i).map cvI) (List.replicate d z57) z57 (cvI l[i])
      simp only [List.length_replicate] at this
      rw [show (⟨l[i].f0, l[i].f1, l[i].f2, l[i].f3, l[i].f4⟩ : Instr) = cvI l[i] from rfl, this]
      congr 1
      rw [List.take_succ_eq_append_getElem hlt, List.map_append]
      rfl
  unfold laws_toInstrS.f
  refine Ev.ifp (by omega) (Ev.ifp (by simp; omega) ?_)
  simpa using key l.length 0 (by omega)
theorem eqInstrS_refl (l : List Instr) (hl : l.length ≤ 1048576) : Ev (fun k => laws_eqInstrS.f k l l) true := by
  unfold laws_eqInstrS.f
  simp only [if_true]
  refine loop_list (σ := Unit) l (fun k _ i => laws_eqInstrS.l0 k l l i) (fun _ _ => true) (fun _ => ?_) (fun i _ x rest hi hx ih => ?_) ()
  · refine Ev.step (f := fun _ => some true) (fun k => ?_) (Ev.now _)
    simp only [laws_eqInstrS.l0]
    rw [if_neg (by omega)]
  · refine Ev.step (fun k => ?_) (ih ())
    simp only [laws_eqInstrS.l0, laws_eqInstr.f, reduceIte, Option.bind_some]
    rw [if_pos (by omega), if_pos (by omega), w64n i (by omega), if_pos (by omega)]
end Go.Proofs.Yteaablbhdmkcpaa.PL
end
section
namespace Go.Proofs.Yteaablbhdmkcpaa.PL
open Go Go.RowKit Go.Proofs.YteaablbhdmkcpaaW.PrintWords Go.Proofs.YteaablbhdmkcpaaW.PrintLast Go.Proofs.YteaablbhdmkcpaaW.PrintMore Go.Proofs.Yteaablbhdmkcpaa.Q
set_option linter.unusedSimpArgs false
set_option linter.unusedVariables false
abbrev zI : Instr := z57
theorem rdI_at (l : List Instr) (i : Nat) : rd_T57 l (i : Int) = l.getD i zI := by unfold rd_T57; rw [Int.toNat_natCast]
theorem rdI_take (l : List Instr) (i j : Nat) (h : j < i) : rd_T57 (l.take i) (j : Int) = l.getD j zI := by
  rw [rdI_at]
  simp only [List.getD, List.getElem?_take, if_pos h]
theorem rdN_mid (A B : List Int) (x : Int) (i : Nat) (h : A.length = i) : rd (A ++ x :: B) (i : Int) = x := by
  subst h
  refine rd_eq (fun d => ?_)
  simp [List.getD]
theorem setN_mid {α : Type} (A B : List α) (x y : α) (i : Nat) (h : A.length = i) : (A ++ x :: B).set ((i : Int)).toNat y = A ++ y :: B := by
  subst h
  rw [Int.toNat_natCast, List.set_append_right _ _ (Nat.le_refl _), Nat.sub_self]
  rfl
theorem setAt_mid {α : Type} (A B : List α) (x y : α) (i : Nat) (h : A.length = i) : (A ++ x :: B).set i y = A ++ y :: B := by
  subst h
  rw [List.set_append_right _ _ (Nat.le_refl _), Nat.sub_self]
  rfl
theorem rdW_mid (A B : List (List Int)) (x : List Int) (i : Nat) (h : A.length = i) : rd_L4 (A ++ x :: B) (i : Int) = x := by
  subst h
  unfold rd_L4
  rw [Int.toNat_natCast]
  simp [List.getD]
theorem okAt {P : Instr → Prop} (l : List Instr) (i : Nat) (h : i < l.length) (ok : ∀ x ∈ l, P x) : P (l.getD i zI) := by
  rw [getD_eq l i h]
  exact ok _ (List.getElem_mem h)
end Go.Proofs.Yteaablbhdmkcpaa.PL
end
section
namespace Go.Proofs.Yteaablbhdmkcpaa.PL
open Go Go.RowKit Go.Proofs.YteaablbhdmkcpaaW.PrintWords Go.Proofs.YteaablbhdmkcpaaW.PrintLast Go.Proofs.YteaablbhdmkcpaaW.PrintMore Go.Proofs.Yteaablbhdmkcpaa.Q
set_option linter.unusedSimpArgs false
set_option linter.unusedVariables false
def shapeC (c : Nat) : Bool × Bool × Bool × Int × Int :=
  match c with
  | 0 => (true, false, false, 0, 63)
  | 1 => (true, true, false, 0, 0)
  | 2 => (true, true, true, 0, 0)
  | 3 => (true, true, true, 0, 0)
  | 4 => (true, true, true, 0, 0)
  | 5 => (true, true, false, 0, 63)
  | 6 => (true, true, false, 1, 5)
  | 7 => (true, true, true, 1, 3)
  | _ => (false, false, false, 0, 0)
theorem shape_closed : ∀ p ∈ ops, spec_cdShape.f 20 p.1 = some (shapeC p.2) := by decide +kernel
theorem formOf_eq (s : ByteArray) : impl_formOf.f s = some (formC (cls s) s) := rfl
theorem shape_ev (s : ByteArray) : Ev (fun k => spec_cdShape.f k s) (shapeC (cls s)) := by
  refine op_cases (P := fun s => Ev (fun k => spec_cdShape.f k s) (shapeC (cls s))) s (fun p hp => ?_) (fun h => ?_)
  · rw [cls_op p hp]
    exact Ev.of (spec_cdShape.mono _) (shape_closed p hp)
  · rw [cls_none h]
    obtain ⟨h0, h1, h2, h3, h4, h5, h6, h7, h8, h9, h10, h11, h12, h13, h14, h15, h16, h17, h18, h19⟩ := not_ops h
    refine Ev.of (spec_cdShape.mono _) (k := 5) ?_
    simp only [spec_cdShape.f, spec_cdShape.j0, spec_cdShape.j1, spec_cdShape.j2, spec_cdShape.j3, h0, h1, h2, h3, h4, h5, h6, h7, h8, h9, h10, h11, h12, h13, h14, h15, h16, h17, h18, h19, if_false, beq_iff_eq]
    rfl
theorem l1In_eq (a b c : Int) : spec_l1In.f a b c = some (decide (b ≤ a ∧ a ≤ c)) := by
  unfold spec_l1In.f
  by_cases h : a ≥ b
  · rw [if_pos h]; congr 1; rw [decide_eq_decide]; omega
  · rw [if_neg h]; congr 1; symm; rw [decide_eq_false_iff_not]; omega
theorem cdReg_eq (a : Int) : spec_cdReg.f a = some (decide (0 ≤ a ∧ a ≤ 5)) := by
  unfold spec_cdReg.f
  rw [l1In_eq]; rfl
def okI (x : Instr) : Prop := cls x.f0 ≠ 8 ∧ (0 ≤ x.f1 ∧ x.f1 ≤ 5) ∧ ((shapeC (cls x.f0)).2.1 = true ∧ 0 ≤ x.f2 ∧ x.f2 ≤ 5 ∨ x.f2 = 0) ∧ ((shapeC (cls x.f0)).2.2.1 = true ∧ 0 ≤ x.f3 ∧ x.f3 ≤ 5 ∨ x.f3 = 0) ∧ (shapeC (cls x.f0)).2.2.2.1 ≤ x.f4 ∧ x.f4 ≤ (shapeC (cls x.f0)).2.2.2.2
instance (x : Instr) : Decidable (okI x) := by unfold okI; infer_instance
theorem cls_le (s : ByteArray) : cls s ≤ 8 := by
  refine op_cases (P := fun s => cls s ≤ 8) s (by decide +kernel) (fun h => by rw [cls_none h]; exact Nat.le_refl _)
theorem cls_cases (s : ByteArray) : cls s = 0 ∨ cls s = 1 ∨ cls s = 2 ∨ cls s = 3 ∨ cls s = 4 ∨ cls s = 5 ∨ cls s = 6 ∨ cls s = 7 ∨ cls s = 8 := by have := cls_le s; omega
theorem isInstr_eq (x : Instr) : impl_IsInstr.f x.f0 x.f1 x.f2 x.f3 x.f4 = some (decide (okI x)) := by
  unfold impl_IsInstr.f
  congr 1
  obtain ⟨s, d, a, b, m⟩ := x
  simp only [okI]
  rw [Bool.eq_iff_iff]
  simp only [okF, Bool.and_eq_true, Bool.or_eq_true, decide_eq_true_eq, Bool.not_eq_true', decide_eq_false_iff_not]
  rcases cls_cases s with h | h | h | h | h | h | h | h | h <;> simp only [h, formC, shapeC] <;> simp <;> omega
theorem cdGood_ev (x : Instr) : Ev (fun k => spec_cdGood.f k x.f0 x.f1 x.f2 x.f3 x.f4) (decide (okI x)) := by
  unfold spec_cdGood.f
  refine Ev.bind (shape_ev x.f0) (Ev.const ?_)
  obtain ⟨s, d, a, b, m⟩ := x
  simp only [l1In_eq, cdReg_eq, Option.bind_some, okI]
  rcases cls_cases s with h | h | h | h | h | h | h | h | h <;> simp only [h, shapeC] <;> by_cases h1 : 0 ≤ d ∧ d ≤ 5 <;> by_cases h2 : 0 ≤ a ∧ a ≤ 5 <;> by_cases h3 : 0 ≤ b ∧ b ≤ 5 <;> (try simp [h1, h2, h3]) <;> (repeat' split) <;> (try (rw [Bool.eq_iff_iff]; simp only [Bool.and_eq_true, decide_eq_true_eq, beq_iff_eq, true_iff, false_iff, Bool.false_eq_true, iff_false, iff_true])) <;> (try simp only [Option.some.injEq]) <;> (try (rw [Bool.eq_iff_iff]; simp only [Bool.and_eq_true, decide_eq_true_eq, beq_iff_eq, true_iff, false_iff, Bool.false_eq_true, iff_false, iff_true])) <;> (try omega)
end Go.Proofs.Yteaablbhdmkcpaa.PL
end
section
namespace Go.Proofs.Yteaablbhdmkcpaa.PL
open Go Go.RowKit Go.Proofs.YteaablbhdmkcpaaW.PrintWords Go.Proofs.YteaablbhdmkcpaaW.PrintLast Go.Proofs.YteaablbhdmkcpaaW.PrintMore Go.Proofs.Yteaablbhdmkcpaa.Q
set_option linter.unusedSimpArgs false
set_option linter.unusedVariables false
def costC (c : Nat) : Int := match c with | 3 => 2 | 4 => 4 | 8 => 0 | _ => 1
theorem cdCost_closed : ∀ p ∈ ops, spec_cdCost.f p.1 = some (costC p.2) := by decide +kernel
theorem formC_cost (c : Nat) (s : ByteArray) (hc : c ≤ 8) : (formC c s).2.2.2.2.1 = costC c := by
  rcases (show c = 0 ∨ c = 1 ∨ c = 2 ∨ c = 3 ∨ c = 4 ∨ c = 5 ∨ c = 6 ∨ c = 7 ∨ c = 8 by omega) with h | h | h | h | h | h | h | h | h <;> subst h <;> rfl
theorem cost_eq (x : Instr) : impl_Instr_cost.f x.f0 x.f1 x.f2 x.f3 x.f4 = some (costC (cls x.f0)) := by
  unfold impl_Instr_cost.f
  rw [formOf_eq, Option.bind_some, formC_cost _ _ (cls_le _)]
theorem cdCost_eq (s : ByteArray) (h : cls s ≠ 8) : spec_cdCost.f s = some (costC (cls s)) := by
  refine op_cases (P := fun s => cls s ≠ 8 → spec_cdCost.f s = some (costC (cls s))) s (fun p hp _ => ?_) (fun hn h => absurd (cls_none hn) h) h
  rw [cdCost_closed p hp, cls_op p hp]
theorem costC_le (c : Nat) : 0 ≤ costC c ∧ costC c ≤ 4 := by unfold costC; split <;> omega
end Go.Proofs.Yteaablbhdmkcpaa.PL
end
section
namespace Go.Proofs.Yteaablbhdmkcpaa.PL
open Go Go.RowKit Go.Proofs.YteaablbhdmkcpaaW.PrintWords Go.Proofs.YteaablbhdmkcpaaW.PrintLast Go.Proofs.YteaablbhdmkcpaaW.PrintMore Go.Proofs.Yteaablbhdmkcpaa.Q
set_option linter.unusedSimpArgs false
set_option linter.unusedVariables false
theorem formU1 (c : Nat) (s : ByteArray) (h : c ≤ 8) : (formC c s).1 = (shapeC c).2.1 := by
  rcases (show c = 0 ∨ c = 1 ∨ c = 2 ∨ c = 3 ∨ c = 4 ∨ c = 5 ∨ c = 6 ∨ c = 7 ∨ c = 8 by omega) with h | h | h | h | h | h | h | h | h <;> subst h <;> rfl
theorem formU2 (c : Nat) (s : ByteArray) (h : c ≤ 8) : (formC c s).2.1 = (shapeC c).2.2.1 := by
  rcases (show c = 0 ∨ c = 1 ∨ c = 2 ∨ c = 3 ∨ c = 4 ∨ c = 5 ∨ c = 6 ∨ c = 7 ∨ c = 8 by omega) with h | h | h | h | h | h | h | h | h <;> subst h <;> rfl
def two (a b : Int) : List Int := if a < b then [a, b] else if a = b then [a] else [b, a]
def readsM (x : Instr) : List Int :=
  if (shapeC (cls x.f0)).2.1 = true then (if (shapeC (cls x.f0)).2.2.1 = true then two x.f2 x.f3 else [x.f2]) else (if (shapeC (cls x.f0)).2.2.1 = true then [x.f3] else [])
theorem readsM_len (x : Instr) : (readsM x).length ≤ 2 := by
  unfold readsM two
  repeat' split
  all_goals simp
theorem ms_nil : ([] : List Int).mergeSort (fun x y => decide (x ≤ y)) = [] := by simp
theorem ms_one (a : Int) : [a].mergeSort (fun x y => decide (x ≤ y)) = [a] := by simp
theorem ms_two (a b : Int) : [a, b].mergeSort (fun x y => decide (x ≤ y)) = if a ≤ b then [a, b] else [b, a] := by
  by_cases h : a ≤ b
  · rw [if_pos h]
    exact List.mergeSort_of_pairwise (by simp [h])
  · rw [if_neg h]
    have p : [a, b].mergeSort (fun x y => decide (x ≤ y)) |>.Perm [b, a] := (List.mergeSort_perm _ _).trans (List.Perm.swap _ _ _)
    have s := List.pairwise_mergeSort (le := fun x y : Int => decide (x ≤ y)) (fun a b c h1 h2 => by simp at *; omega) (fun a b => by simp; omega) [a, b]
    refine List.Perm.eq_of_pairwise (le := fun x y : Int => decide (x ≤ y) = true) (fun a b _ _ h1 h2 => by simp at *; omega) s ?_ p
    simp; omega
theorem lc_nil : Go.Lib.compact ([] : List Int) = [] := rfl
theorem lc_one (a : Int) : Go.Lib.compact [a] = [a] := rfl
theorem lc_two (a b : Int) : Go.Lib.compact [a, b] = if b = a then [a] else [a, b] := by
  show (([0, 1] : List Nat).filter (Go.Lib.keeps #[a, b])).map (#[a, b][·]!) = _
  by_cases h : b = a
  · simp [Go.Lib.keeps, h]
  · simp [Go.Lib.keeps, h]
def twoL : List Int → List Int
  | [a, b] => two a b
  | l => l
theorem sortCompact (l : List Int) (h : l.length ≤ 2) : ∃ m, slices_Sort_int_int.f l = some m ∧ slices_Compact_int_int.f m = some (twoL l) := by
  match l, h with
  | [], _ => exact ⟨[], by unfold slices_Sort_int_int.f; rw [if_pos (by decide), ms_nil], by unfold slices_Compact_int_int.f; rw [if_pos (by decide), lc_nil]; rfl⟩
  | [a], _ => exact ⟨[a], by unfold slices_Sort_int_int.f; rw [if_pos (by simp), ms_one], by unfold slices_Compact_int_int.f; rw [if_pos (by simp), lc_one]; rfl⟩
  | [a, b], _ =>
    refine ⟨_, by unfold slices_Sort_int_int.f; rw [if_pos (by simp)], ?_⟩
    show slices_Compact_int_int.f _ = some (two a b)
    rw [ms_two]
    unfold slices_Compact_int_int.f two
    by_cases h : a ≤ b
    · rw [if_pos h, if_pos (by simp), lc_two]
      by_cases e : a = b
      · rw [if_pos e.symm, if_neg (by omega), if_pos e]
      · rw [if_neg (fun q => e q.symm), if_pos (by omega)]
    · rw [if_neg h, if_pos (by simp), lc_two, if_neg (by omega), if_neg (by omega), if_neg (by omega)]
theorem reads_ev (x : Instr) : Ev (fun k => impl_Instr_reads.f k x.f0 x.f1 x.f2 x.f3 x.f4) (readsM x) := by
  unfold impl_Instr_reads.f
  refine Ev.call (formOf_eq x.f0) (Ev.call rfl ?_)
  have c8 := cls_le x.f0
  rw [formU1 _ _ c8, formU2 _ _ c8]
  unfold readsM
  have fin : ∀ (l : List Int), l.length ≤ 2 → Ev (fun _ => (slices_Sort_int_int.f l).bind fun t => (slices_Compact_int_int.f t).bind fun t' => some t') (twoL l) := fun l hl => by
    obtain ⟨m, h1, h2⟩ := sortCompact l hl
    exact Ev.call h1 (Ev.call h2 (Ev.now _))
  by_cases ha : (shapeC (cls x.f0)).2.1 = true
  · refine Ev.ifp ha (Ev.ifp (by simp) (Ev.step (fun k => by simp only [impl_Instr_reads.j0]; rfl) ?_))
    by_cases hb : (shapeC (cls x.f0)).2.2.1 = true
    · refine Ev.ifp hb (Ev.ifp (by simp) ?_)
      rw [if_pos ha, if_pos hb]
      exact fin [x.f2, x.f3] (by simp)
    · refine Ev.ifn hb ?_
      rw [if_pos ha, if_neg hb]
      exact fin [x.f2] (by simp)
  · refine Ev.ifn ha (Ev.step (fun k => by simp only [impl_Instr_reads.j0]; rfl) ?_)
    by_cases hb : (shapeC (cls x.f0)).2.2.1 = true
    · refine Ev.ifp hb (Ev.ifp (by simp) ?_)
      rw [if_neg ha, if_pos hb]
      exact fin [x.f3] (by simp)
    · refine Ev.ifn hb ?_
      rw [if_neg ha, if_neg hb]
      exact fin [] (by simp)
theorem put_nil (n : Int) : Ev (fun k => spec_l1Put.f k [] n) [n] := by
  unfold spec_l1Put.f
  refine Ev.step (f := fun _ => some [n]) (fun k => ?_) (Ev.now _)
  simp only [spec_l1Put.l0]
  rw [if_neg (by simp)]
  rfl
theorem put_one (a n : Int) : Ev (fun k => spec_l1Put.f k [a] n) (two a n) := by
  unfold spec_l1Put.f two
  refine Ev.step (fun k => by simp only [spec_l1Put.l0, show rd [a] 0 = a from rfl]; rfl) (Ev.ifp (by simp) (Ev.ifp (by decide) ?_))
  by_cases h : a < n
  · rw [if_pos h]
    refine Ev.ifp h (Ev.step (f := fun _ => some [a, n]) (fun k => ?_) (Ev.now _))
    rw [show wrap64 (0 + 1) = 1 from by unfold wrap64; omega]
    simp only [spec_l1Put.l0]
    rw [if_neg (by simp)]
    rfl
  · refine Ev.ifn h ?_
    rw [if_neg h]
    by_cases e : a = n
    · refine Ev.ifp e ?_
      rw [if_pos e]
      exact Ev.now _
    · refine Ev.ifn e ?_
      rw [if_neg e]
      exact Ev.const rfl
theorem cdReads_ev (x : Instr) : Ev (fun k => spec_cdReads.f k x.f0 x.f1 x.f2 x.f3 x.f4) (readsM x) := by
  unfold spec_cdReads.f readsM
  refine Ev.bind (shape_ev x.f0) ?_
  by_cases ha : (shapeC (cls x.f0)).2.1 = true
  · refine Ev.ifp ha (Ev.bind (put_nil x.f2) ?_)
    by_cases hb : (shapeC (cls x.f0)).2.2.1 = true
    · refine Ev.ifp hb (Ev.bind (put_one x.f2 x.f3) ?_)
      rw [if_pos ha, if_pos hb]
      exact Ev.now _
    · refine Ev.ifn hb ?_
      rw [if_pos ha, if_neg hb]
      exact Ev.now _
  · refine Ev.ifn ha ?_
    by_cases hb : (shapeC (cls x.f0)).2.2.1 = true
    · refine Ev.ifp hb (Ev.bind (put_nil x.f3) ?_)
      rw [if_neg ha, if_pos hb]
      exact Ev.now _
    · refine Ev.ifn hb ?_
      rw [if_neg ha, if_neg hb]
      exact Ev.now _
theorem contains_ev (l : List Int) (n : Int) (hl : l.length ≤ 1048576) : Ev (fun k => slices_Contains_int_int.f k l n) (decide (n ∈ l)) := by
  have hs : Ev (fun k => slices_Index_int_int.f k l n) (idx (fun x => decide (n = x)) l) := by
    unfold slices_Index_int_int.f
    refine search_ev l _ (fun k i => slices_Index_int_int.l0 k l n l.length i) ?_ (fun i x hi hx hp => ?_) (fun i x r hi hx hp hr => ?_)
    · refine Ev.step (f := fun _ => some (-1)) (fun k => ?_) (Ev.now _)
      simp only [slices_Index_int_int.l0]
      rw [if_neg (by omega)]
    · exact Ev.step (fun k => by simp only [slices_Index_int_int.l0, rd_eq hx]; rfl) (Ev.ifp (by omega) (Ev.ifp (by omega) (Ev.ifp (by omega) (Ev.ifp (of_decide_eq_true hp) (Ev.now _)))))
    · refine Ev.step (fun k => by simp only [slices_Index_int_int.l0, rd_eq hx]; rfl) (Ev.ifp (by omega) (Ev.ifp (by omega) (Ev.ifp (by omega) (Ev.ifn (of_decide_eq_false hp) ?_))))
      rw [w64n i (by omega)]
      exact hr
  unfold slices_Contains_int_int.f
  refine Ev.bind hs (Ev.some ?_)
  have e := idx_nonneg (fun x => decide (n = x)) l
  rw [decide_eq_decide]
  constructor
  · intro h
    obtain ⟨x, hx, hx'⟩ := e.1 h
    rw [of_decide_eq_true hx']
    exact hx
  · exact fun h => e.2 ⟨n, h, decide_eq_true rfl⟩
theorem has_ev (l : List Int) (n : Int) (hl : l.length ≤ 1048576) : Ev (fun k => spec_l1Has.f k l n) (decide (n ∈ l)) := by
  unfold spec_l1Has.f
  refine loop_list (σ := Unit) l (fun k _ i => spec_l1Has.l0 k n l l.length i) (fun rest _ => decide (n ∈ rest)) (fun _ => ?_) (fun i _ x rest hi hx ih => ?_) ()
  · refine Ev.step (f := fun _ => some false) (fun k => ?_) (Ev.some (by simp))
    simp only [spec_l1Has.l0]
    rw [if_neg (by omega)]
  · refine Ev.step (fun k => by simp only [spec_l1Has.l0, rd_eq hx]; rfl) (Ev.ifp (by omega) (Ev.ifp (by omega) (Ev.ifp (by omega) ?_)))
    by_cases h : x = n
    · exact Ev.ifp h (Ev.some (by simp [h]))
    · refine Ev.ifn h ?_
      rw [w64n i (by omega)]
      refine ev_eq (ih ()) ?_
      rw [decide_eq_decide, List.mem_cons]
      exact ⟨.inr, fun q => q.elim (fun e => absurd e.symm h) id⟩
end Go.Proofs.Yteaablbhdmkcpaa.PL
end
section
namespace Go.Proofs.Yteaablbhdmkcpaa.PL
open Go Go.RowKit Go.Proofs.YteaablbhdmkcpaaW.PrintWords Go.Proofs.YteaablbhdmkcpaaW.PrintLast Go.Proofs.YteaablbhdmkcpaaW.PrintMore Go.Proofs.Yteaablbhdmkcpaa.Q
set_option linter.unusedSimpArgs false
set_option linter.unusedVariables false
def overB (l : List Instr) (j i : Nat) : Bool := ((l.take i).drop (j + 1)).any fun z => decide (z.f1 = (l.getD j zI).f1)
def dlyB (x y : Instr) (over : Bool) : Int :=
  if x.f1 ∈ readsM y ∧ over = false then max (if x.f1 = y.f1 then 1 else if y.f1 ∈ readsM x then 0 else -1) (costC (cls x.f0)) else if x.f1 = y.f1 then 1 else if y.f1 ∈ readsM x then 0 else -1
def dly (l : List Instr) (j i : Nat) : Int := dlyB (l.getD j zI) (l.getD i zI) (overB l j i)
theorem dly_le (l : List Instr) (j i : Nat) : -1 ≤ dly l j i ∧ dly l j i ≤ 4 := by
  have := costC_le (cls (l.getD j zI).f0)
  unfold dly dlyB
  repeat' split
  all_goals omega
def rowI (l : List Instr) (i m : Nat) : List Int := (List.range m).map fun j => dly l j i
theorem rowI_succ (l : List Instr) (i m : Nat) : rowI l i (m + 1) = rowI l i m ++ [dly l m i] := by simp [rowI, List.range_succ]
theorem rowI_len (l : List Instr) (i m : Nat) : (rowI l i m).length = m := by simp [rowI]
def tabI (l : List Instr) (m : Nat) : List (List Int) := (List.range m).map fun i => rowI l i i
theorem tabI_succ (l : List Instr) (m : Nat) : tabI l (m + 1) = tabI l m ++ [rowI l m m] := by simp [tabI, List.range_succ]
theorem tabI_len (l : List Instr) (m : Nat) : (tabI l m).length = m := by simp [tabI]
theorem mx_eq (a b : Int) : mx a b = max a b := by unfold mx; omega
theorem over_ev (l : List Instr) (hl : l.length ≤ 1048576) (x : Instr) : Ev (fun k => slices_ContainsFunc_impl_delays_1.f k l [x]) (l.any fun z => decide (z.f1 = x.f1)) := by
  have hs : Ev (fun k => slices_IndexFunc_impl_delays_1.f k l [x]) (idx (fun z => decide (z.f1 = x.f1)) l) := by
    unfold slices_IndexFunc_impl_delays_1.f
    refine search_ev l _ (fun k i => slices_IndexFunc_impl_delays_1.l0 k l l.length i [x]) ?_ (fun i z hi hx hp => ?_) (fun i z r hi hx hp hr => ?_)
    · refine Ev.step (f := fun _ => some (-1)) (fun k => ?_) (Ev.now _)
      simp only [slices_IndexFunc_impl_delays_1.l0]
      rw [if_neg (by omega)]
    · have hc : impl_delays_1.f z.f0 z.f1 z.f2 z.f3 z.f4 [x] = some (z.f1 == x.f1) := by unfold impl_delays_1.f; rw [if_pos (by simp)]; rfl
      exact Ev.step (fun k => by simp only [slices_IndexFunc_impl_delays_1.l0, rdI_eq hx, hc, Option.bind_some]; rfl) (Ev.ifp (by omega) (Ev.ifp (by omega) (Ev.ifp (by omega) (Ev.ifp (by simpa using hp) (Ev.now _)))))
    · have hc : impl_delays_1.f z.f0 z.f1 z.f2 z.f3 z.f4 [x] = some (z.f1 == x.f1) := by unfold impl_delays_1.f; rw [if_pos (by simp)]; rfl
      refine Ev.step (fun k => by simp only [slices_IndexFunc_impl_delays_1.l0, rdI_eq hx, hc, Option.bind_some]; rfl) (Ev.ifp (by omega) (Ev.ifp (by omega) (Ev.ifp (by omega) (Ev.ifn (by simpa using hp) ?_))))
      rw [w64n i (by omega)]
      exact hr
  unfold slices_ContainsFunc_impl_delays_1.f
  refine Ev.bind hs (Ev.some ?_)
  have e := idx_nonneg (fun z => decide (z.f1 = x.f1)) l
  cases h : l.any fun z => decide (z.f1 = x.f1) with
  | true =>
    obtain ⟨z, hz, hz'⟩ := List.any_eq_true.1 h
    exact decide_eq_true (e.2 ⟨z, hz, hz'⟩)
  | false =>
    refine decide_eq_false (fun q => ?_)
    obtain ⟨z, hz, hz'⟩ := e.1 q
    have := List.any_eq_false.1 h z hz
    exact this hz'
theorem repeat_eq (i : Nat) (h : i ≤ 1048576) : slices_Repeat_int_int.f [(-1)] (i : Int) = some (List.replicate i (-1)) := by
  unfold slices_Repeat_int_int.f
  rw [if_pos ⟨by simp, by omega, by omega⟩, Int.toNat_natCast]
  rfl
section
variable (l : List Instr) (hl : l.length ≤ 1048576) (A B : List (List Int)) (i j : Nat) (hA : A.length = i) (hj : j < i) (hi : i < l.length)
include hl hA hj hi
theorem implJ3_ev (P Q : List Int) (t : Int) (hP : P.length = j) (T : List (List Int))
    (hc : Ev (fun k => impl_delays.l1 k l (A ++ (P ++ (if (l.getD j zI).f1 ∈ readsM (l.getD i zI) ∧ overB l j i = false then max t (costC (cls (l.getD j zI).f0)) else t) :: Q) :: B) i l l.length i (l.take i) i ((j + 1 : Nat) : Int) (l.getD i zI).f0 (l.getD i zI).f1 (l.getD i zI).f2 (l.getD i zI).f3 (l.getD i zI).f4) T) :
    Ev (fun k => impl_delays.j3 k l (A ++ (P ++ t :: Q) :: B) i j l l.length i (l.take i) i j (l.getD i zI).f0 (l.getD i zI).f1 (l.getD i zI).f2 (l.getD i zI).f3 (l.getD i zI).f4 (l.getD j zI).f0 (l.getD j zI).f1 (l.getD j zI).f2 (l.getD j zI).f3 (l.getD j zI).f4) T := by
  refine Ev.step (fun k => by simp only [impl_delays.j3]; rfl) ?_
  rw [w64n j (by omega)]
  refine Ev.ifp (by omega) (Ev.ifp (by omega) (Ev.ifp (by omega) ?_))
  rw [Int.toNat_natCast, Int.toNat_natCast]
  have ho := over_ev ((l.take i).drop (j + 1)) (by simp only [List.length_drop, List.length_take]; omega) (l.getD j zI)
  refine Ev.bind ho (Ev.bind (reads_ev (l.getD i zI)) (Ev.bind (contains_ev _ _ (Nat.le_trans (readsM_len _) (by decide))) ?_))
  by_cases hr : (l.getD j zI).f1 ∈ readsM (l.getD i zI)
  · refine Ev.ifp (decide_eq_true hr) ?_
    cases ho' : overB l j i with
    | true =>
      rw [if_neg (fun q => by rw [ho'] at q; exact absurd q.2 (by decide))] at hc
      exact Ev.ifp ho' hc
    | false =>
      rw [if_pos ⟨hr, ho'⟩] at hc
      refine Ev.ifn (fun q => by rw [show overB l j i = true from q] at ho'; cases ho') ?_
      rw [rdW_mid A B _ i hA]
      refine Ev.ifp (by omega) (Ev.ifp (by rw [List.length_append, List.length_cons]; omega) (Ev.ifp (by omega) (Ev.ifp (by rw [List.length_append, List.length_cons]; omega) ?_)))
      refine Ev.call (cost_eq (l.getD j zI)) ?_
      rw [rdN_mid P Q t j hP, setN_mid P Q t _ j hP, setAt_mid A B _ _ i hA, mx_eq]
      exact hc
  · rw [if_neg (fun q => hr q.1)] at hc
    exact Ev.ifn (fun q => hr (of_decide_eq_true q)) hc
theorem implJ2_ev (P Q : List Int) (t : Int) (hP : P.length = j) (T : List (List Int)) (ht : t = if (l.getD i zI).f1 ∈ readsM (l.getD j zI) then 0 else -1)
    (hc : Ev (fun k => impl_delays.l1 k l (A ++ (P ++ dly l j i :: Q) :: B) i l l.length i (l.take i) i ((j + 1 : Nat) : Int) (l.getD i zI).f0 (l.getD i zI).f1 (l.getD i zI).f2 (l.getD i zI).f3 (l.getD i zI).f4) T) :
    Ev (fun k => impl_delays.j2 k l (A ++ (P ++ t :: Q) :: B) i j l l.length i (l.take i) i j (l.getD i zI).f0 (l.getD i zI).f1 (l.getD i zI).f2 (l.getD i zI).f3 (l.getD i zI).f4 (l.getD j zI).f0 (l.getD j zI).f1 (l.getD j zI).f2 (l.getD j zI).f3 (l.getD j zI).f4) T := by
  refine Ev.step (fun k => by simp only [impl_delays.j2]; rfl) ?_
  unfold dly dlyB at hc
  by_cases h : (l.getD j zI).f1 = (l.getD i zI).f1
  · rw [if_pos h] at hc
    refine Ev.ifp h ?_
    rw [rdW_mid A B _ i hA]
    refine Ev.ifp (by omega) (Ev.ifp (by rw [List.length_append, List.length_cons]; omega) (Ev.ifp (by omega) (Ev.ifp (by rw [List.length_append, List.length_cons]; omega) ?_)))
    rw [setN_mid P Q t _ j hP, setN_mid A B _ _ i hA]
    exact implJ3_ev l hl A B i j hA hj hi P Q 1 hP T hc
  · rw [if_neg h, ← ht] at hc
    exact Ev.ifn h (implJ3_ev l hl A B i j hA hj hi P Q t hP T hc)
theorem implL1_one (P Q : List Int) (hP : P.length = j) (T : List (List Int))
    (hc : Ev (fun k => impl_delays.l1 k l (A ++ (P ++ dly l j i :: Q) :: B) i l l.length i (l.take i) i ((j + 1 : Nat) : Int) (l.getD i zI).f0 (l.getD i zI).f1 (l.getD i zI).f2 (l.getD i zI).f3 (l.getD i zI).f4) T) :
    Ev (fun k => impl_delays.l1 k l (A ++ (P ++ (-1) :: Q) :: B) i l l.length i (l.take i) i j (l.getD i zI).f0 (l.getD i zI).f1 (l.getD i zI).f2 (l.getD i zI).f3 (l.getD i zI).f4) T := by
  have hti : (l.take i).length = i := by rw [List.length_take]; omega
  refine Ev.step (fun k => by simp only [impl_delays.l1]; rfl) (Ev.ifp (by omega) (Ev.ifp (by omega) (Ev.ifp (by omega) ?_)))
  rw [rdI_take l i j hj]
  refine Ev.bind (reads_ev (l.getD j zI)) (Ev.bind (contains_ev _ _ (Nat.le_trans (readsM_len _) (by decide))) ?_)
  by_cases hr : (l.getD i zI).f1 ∈ readsM (l.getD j zI)
  · refine Ev.ifp (decide_eq_true hr) ?_
    rw [rdW_mid A B _ i hA]
    refine Ev.ifp (by omega) (Ev.ifp (by rw [List.length_append, List.length_cons]; omega) (Ev.ifp (by rw [List.length_append, List.length_cons]; omega) ?_))
    rw [setN_mid P Q _ _ j hP, setN_mid A B _ _ i hA]
    exact implJ2_ev l hl A B i j hA hj hi P Q 0 hP T (by rw [if_pos hr]) hc
  · exact Ev.ifn (fun q => hr (of_decide_eq_true q)) (implJ2_ev l hl A B i j hA hj hi P Q (-1) hP T (by rw [if_neg hr]) hc)
end
theorem implRow_ev (l : List Instr) (hl : l.length ≤ 1048576) (A B : List (List Int)) (i : Nat) (hA : A.length = i) (hi : i < l.length) (T : List (List Int))
    (hc : Ev (fun k => impl_delays.l0 k l (A ++ rowI l i i :: B) l l.length (wrap64 ((i : Int) + 1))) T) :
    ∀ (d j : Nat), j + d = i → Ev (fun k => impl_delays.l1 k l (A ++ (rowI l i j ++ List.replicate d (-1)) :: B) i l l.length i (l.take i) i j (l.getD i zI).f0 (l.getD i zI).f1 (l.getD i zI).f2 (l.getD i zI).f3 (l.getD i zI).f4) T := by
  intro d
  induction d with
  | zero =>
    intro j hj
    obtain rfl : j = i := by omega
    rw [List.replicate_zero, List.append_nil]
    exact Ev.step (fun k => by simp only [impl_delays.l1]; rfl) (Ev.ifn (by omega) hc)
  | succ d ih =>
    intro j hj
    rw [List.replicate_succ]
    refine implL1_one l hl A B i j hA (by omega) hi (rowI l i j) (List.replicate d (-1)) (rowI_len l i j) T ?_
    have := ih (j + 1) (by omega)
    rw [rowI_succ, List.append_assoc, List.singleton_append] at this
    exact this
theorem delays_ev (l : List Instr) (hl : l.length ≤ 1048576) : Ev (fun k => impl_delays.f k l) (tabI l l.length) := by
  have key : ∀ (d i : Nat), i + d = l.length → Ev (fun k => impl_delays.l0 k l (tabI l i ++ List.replicate d []) l l.length i) (tabI l l.length) := by
    intro d
    induction d with
    | zero =>
      intro i hi
      obtain rfl : i = l.length := by omega
      rw [List.replicate_zero, List.append_nil]
      refine Ev.step (f := fun _ => some (tabI l l.length)) (fun k => ?_) (Ev.now _)
      simp only [impl_delays.l0]
      rw [if_neg (by omega)]
    | succ d ih =>
      intro i hi
      have hti : (l.take i).length = i := by rw [List.length_take]; omega
      rw [List.replicate_succ]
      refine Ev.step (fun k => by simp only [impl_delays.l0]; rfl) (Ev.ifp (by omega) (Ev.ifp (by omega) (Ev.ifp (by omega) (Ev.call (repeat_eq i (by omega)) ?_))))
      refine Ev.ifp (by rw [List.length_append, List.length_cons, tabI_len]; omega) (Ev.ifp (by omega) (Ev.call rfl ?_))
      rw [setN_mid (tabI l i) _ _ _ i (tabI_len l i), Int.toNat_natCast, hti, rdI_at]
      refine implRow_ev l hl (tabI l i) (List.replicate d []) i (tabI_len l i) (by omega) _ ?_ i 0 (by omega)
      rw [w64n i (by omega)]
      have := ih (i + 1) (by omega)
      rw [tabI_succ, List.append_assoc, List.singleton_append] at this
      exact this
  unfold impl_delays.f
  refine Ev.ifp (by omega) (Ev.ifp (by rw [Int.toNat_natCast]; omega) ?_)
  rw [Int.toNat_natCast]
  have := key l.length 0 (by omega)
  simpa [tabI] using this
theorem orDelay_ev (l : List Instr) (hl : l.length ≤ 1048576) (ok : ∀ x ∈ l, okI x) (i j : Nat) (hij : i < j) (hj : j < l.length) : Ev (fun k => spec_orDelay.f k l (i : Int) (j : Int)) (dly l i j) := by
  have hx := okAt (P := okI) l i (by omega) ok
  have last : ∀ (t : Int) (d p : Nat) (v : Int), p + d = j → i < p → (v = i ∨ (i : Int) < v) →
      Ev (fun k => spec_orDelay.l0 k l i j t v p (l.getD i zI).f0 (l.getD i zI).f1 (l.getD i zI).f2 (l.getD i zI).f3 (l.getD i zI).f4) (if v = i ∧ (((l.take j).drop p).any fun z => decide (z.f1 = (l.getD i zI).f1)) = false then max t (costC (cls (l.getD i zI).f0)) else t) := by
    intro t d
    induction d with
    | zero =>
      intro p v hp hip hv
      rw [List.drop_of_length_le (by rw [List.length_take]; omega)]
      refine Ev.step (fun k => by simp only [spec_orDelay.l0]; rfl) (Ev.ifn (by omega) ?_)
      have hm : spec_l1Most.f t (costC (cls (l.getD i zI).f0)) = some (max t (costC (cls (l.getD i zI).f0))) := by
        unfold spec_l1Most.f
        by_cases q : t > costC (cls (l.getD i zI).f0)
        · rw [if_pos q]; congr 1; omega
        · rw [if_neg q]; congr 1; omega
      by_cases h : v = i
      · refine Ev.ifp h (Ev.call (cdCost_eq _ hx.1) (Ev.call hm (Ev.some ?_)))
        rw [if_pos ⟨h, rfl⟩]
      · refine Ev.ifn h (Ev.some ?_)
        rw [if_neg (fun q => h q.1)]
    | succ d ih =>
      intro p v hp hip hv
      have hlt : p < (l.take j).length := by rw [List.length_take]; omega
      have e : (l.take j).drop p = (l.take j)[p] :: (l.take j).drop (p + 1) := List.drop_eq_getElem_cons hlt
      have e2 : (l.take j)[p] = l.getD p zI := by
        rw [List.getElem_take, getD_eq l p (by omega)]
      rw [e, e2, List.any_cons]
      refine Ev.step (fun k => by simp only [spec_orDelay.l0]; rfl) (Ev.ifp (by omega) (Ev.ifp (by omega) (Ev.ifp (by omega) ?_)))
      rw [rdI_at, w64n p (by omega)]
      by_cases h : (l.getD p zI).f1 = (l.getD i zI).f1
      · refine Ev.ifp h (ev_eq (ih (p + 1) p (by omega) (by omega) (.inr (by omega))) ?_)
        rw [if_neg (fun q => by have := q.1; omega), if_neg (fun q => by have := q.2; rw [decide_eq_true h] at this; cases this)]
      · refine Ev.ifn h (ev_eq (ih (p + 1) v (by omega) (by omega) hv) ?_)
        rw [decide_eq_false h, Bool.false_or]
  have j1 : ∀ t : Int, Ev (fun k => spec_orDelay.j1 k l i j t (l.getD i zI).f0 (l.getD i zI).f1 (l.getD i zI).f2 (l.getD i zI).f3 (l.getD i zI).f4 (l.getD j zI).f0 (l.getD j zI).f1 (l.getD j zI).f2 (l.getD j zI).f3 (l.getD j zI).f4)
      (if (l.getD i zI).f1 ∈ readsM (l.getD j zI) ∧ overB l i j = false then max t (costC (cls (l.getD i zI).f0)) else t) := by
    intro t
    refine Ev.step (fun k => by simp only [spec_orDelay.j1]; rfl) (Ev.bind (cdReads_ev (l.getD j zI)) (Ev.bind (has_ev _ _ (Nat.le_trans (readsM_len _) (by decide))) ?_))
    by_cases hr : (l.getD i zI).f1 ∈ readsM (l.getD j zI)
    · refine Ev.ifp (decide_eq_true hr) ?_
      rw [w64n i (by omega)]
      refine ev_eq (last t (j - (i + 1)) (i + 1) i (by omega) (by omega) (.inl rfl)) ?_
      unfold overB
      by_cases q : (((l.take j).drop (i + 1)).any fun z => decide (z.f1 = (l.getD i zI).f1)) = false
      · rw [if_pos ⟨rfl, q⟩, if_pos ⟨hr, q⟩]
      · rw [if_neg (fun z => q z.2), if_neg (fun z => q z.2)]
    · rw [if_neg (fun q => hr q.1)]
      exact Ev.ifn (fun q => hr (of_decide_eq_true q)) (Ev.now _)
  have j0 : ∀ t : Int, Ev (fun k => spec_orDelay.j0 k l i j t (l.getD i zI).f0 (l.getD i zI).f1 (l.getD i zI).f2 (l.getD i zI).f3 (l.getD i zI).f4 (l.getD j zI).f0 (l.getD j zI).f1 (l.getD j zI).f2 (l.getD j zI).f3 (l.getD j zI).f4)
      (if (l.getD i zI).f1 ∈ readsM (l.getD j zI) ∧ overB l i j = false then max (if (l.getD i zI).f1 = (l.getD j zI).f1 then 1 else t) (costC (cls (l.getD i zI).f0)) else if (l.getD i zI).f1 = (l.getD j zI).f1 then 1 else t) := by
    intro t
    refine Ev.step (fun k => by simp only [spec_orDelay.j0]; rfl) ?_
    by_cases h : (l.getD i zI).f1 = (l.getD j zI).f1
    · rw [if_pos h]
      exact Ev.ifp h (j1 1)
    · rw [if_neg h]
      exact Ev.ifn h (j1 t)
  unfold spec_orDelay.f
  refine Ev.ifp (by omega) (Ev.ifp (by omega) (Ev.ifp (by omega) (Ev.ifp (by omega) ?_)))
  rw [rdI_at, rdI_at]
  refine Ev.bind (cdReads_ev (l.getD i zI)) (Ev.bind (has_ev _ _ (Nat.le_trans (readsM_len _) (by decide))) ?_)
  unfold dly dlyB
  by_cases h : (l.getD j zI).f1 ∈ readsM (l.getD i zI)
  · rw [if_pos h]
    exact Ev.ifp (decide_eq_true h) (j0 0)
  · rw [if_neg h]
    exact Ev.ifn (fun q => h (of_decide_eq_true q)) (j0 (-1))
def dlyS (l : List Instr) (i j : Nat) : Int := if i < j then dly l i j else -1
def rowS (l : List Instr) (i m : Nat) : List Int := (List.range m).map fun j => dlyS l i j
theorem rowS_succ (l : List Instr) (i m : Nat) : rowS l i (m + 1) = rowS l i m ++ [dlyS l i m] := by simp [rowS, List.range_succ]
theorem rowS_len (l : List Instr) (i m : Nat) : (rowS l i m).length = m := by simp [rowS]
def tabS (l : List Instr) (m : Nat) : List (List Int) := (List.range m).map fun i => rowS l i l.length
theorem tabS_succ (l : List Instr) (m : Nat) : tabS l (m + 1) = tabS l m ++ [rowS l m l.length] := by simp [tabS, List.range_succ]
theorem tabS_len (l : List Instr) (m : Nat) : (tabS l m).length = m := by simp [tabS]
theorem orDelays_ev (l : List Instr) (hl : l.length ≤ 1048576) (ok : ∀ x ∈ l, okI x) : Ev (fun k => spec_orDelays.f k l) (tabS l l.length) := by
  have row : ∀ (rows : List (List Int)) (i : Nat) (T : List (List Int)), i < l.length → rows.length ≤ 1048576 → Ev (fun k => spec_orDelays.l0 k l (rows ++ [rowS l i l.length]) l.length (wrap64 ((i : Int) + 1))) T →
      ∀ (d j : Nat), j + d = l.length → Ev (fun k => spec_orDelays.l1 k l rows i (rowS l i j) l.length i l.length j) T := by
    intro rows i T hi hr hc d
    induction d with
    | zero =>
      intro j hj
      obtain rfl : j = l.length := by omega
      exact Ev.step (fun k => by simp only [spec_orDelays.l1]; rfl) (Ev.ifn (by omega) (Ev.ifp (by omega) hc))
    | succ d ih =>
      intro j hj
      have := ih (j + 1) (by omega)
      rw [rowS_succ] at this
      unfold dlyS at this
      refine Ev.step (fun k => by simp only [spec_orDelays.l1]; rfl) (Ev.ifp (by omega) ?_)
      rw [w64n j (by omega)]
      by_cases h : i < j
      · rw [if_pos h] at this
        exact Ev.ifp (by omega) (Ev.bind (orDelay_ev l hl ok i j h (by omega)) (Ev.ifp (by rw [rowS_len]; omega) this))
      · rw [if_neg h] at this
        exact Ev.ifn (by omega) (Ev.ifp (by rw [rowS_len]; omega) this)
  have key : ∀ (d i : Nat), i + d = l.length → Ev (fun k => spec_orDelays.l0 k l (tabS l i) l.length i) (tabS l l.length) := by
    intro d
    induction d with
    | zero =>
      intro i hi
      obtain rfl : i = l.length := by omega
      refine Ev.step (f := fun _ => some (tabS l l.length)) (fun k => ?_) (Ev.now _)
      simp only [spec_orDelays.l0]
      rw [if_neg (by omega)]
    | succ d ih =>
      intro i hi
      refine Ev.step (fun k => by simp only [spec_orDelays.l0]; rfl) (Ev.ifp (by omega) ?_)
      refine row (tabS l i) i _ (by omega) (by rw [tabS_len]; omega) ?_ l.length 0 (by omega)
      rw [w64n i (by omega), ← tabS_succ]
      exact ih (i + 1) (by omega)
  exact key l.length 0 (by omega)
end Go.Proofs.Yteaablbhdmkcpaa.PL
end
section
namespace Go.Proofs.Yteaablbhdmkcpaa.PL
open Go Go.RowKit Go.Proofs.YteaablbhdmkcpaaW.PrintWords Go.Proofs.YteaablbhdmkcpaaW.PrintLast Go.Proofs.YteaablbhdmkcpaaW.PrintMore Go.Proofs.Yteaablbhdmkcpaa.Q
set_option linter.unusedSimpArgs false
set_option linter.unusedVariables false
def okCode (l : List Instr) : Bool := decide (l.length ≤ 40) && l.all (fun x => decide (okI x))
def okBlock (l : List Instr) : Bool := decide (l.length ≤ 20) && l.all (fun x => decide (okI x))
theorem isCode_ev (l : List Instr) : Ev (fun k => impl_IsCode.f k l) (okCode l) := by
  unfold impl_IsCode.f
  by_cases hl : l.length ≤ 40
  · refine Ev.ifp (by omega) ?_
    have h : Ev (fun k => slices_IndexFunc_impl_IsCode_1.f k l) (idx (fun x => !decide (okI x)) l) := by
      unfold slices_IndexFunc_impl_IsCode_1.f
      refine search_ev l _ (fun k i => slices_IndexFunc_impl_IsCode_1.l0 k l l.length i) ?_ (fun i x hi hx hp => ?_) (fun i x r hi hx hp hr => ?_)
      · refine Ev.step (f := fun _ => some (-1)) (fun k => ?_) (Ev.now _)
        simp only [slices_IndexFunc_impl_IsCode_1.l0]
        rw [if_neg (by omega)]
      · refine Ev.step (f := fun _ => some (i : Int)) (fun k => ?_) (Ev.now _)
        simp only [slices_IndexFunc_impl_IsCode_1.l0, impl_IsCode_1.f, rdI_eq hx, isInstr_eq, Option.bind_some, hp]
        rw [if_pos (by omega), if_pos (by omega), if_pos (by omega), if_pos trivial]
      · refine Ev.step (fun k => ?_) hr
        simp only [slices_IndexFunc_impl_IsCode_1.l0, impl_IsCode_1.f, rdI_eq hx, isInstr_eq, Option.bind_some, hp]
        rw [if_pos (by omega), if_pos (by omega), if_pos (by omega), if_neg (by simp), w64n i (by omega)]
    unfold slices_ContainsFunc_impl_IsCode_1.f
    refine Ev.bind (Ev.bind h (Ev.now _)) (Ev.some ?_)
    have e := idx_nonneg (fun x => !decide (okI x)) l
    unfold okCode
    rw [show decide (l.length ≤ 40) = true by simpa using hl, Bool.true_and]
    by_cases hc : 0 ≤ idx (fun x => !decide (okI x)) l
    · obtain ⟨x, hx, hx'⟩ := e.1 hc
      rw [decide_eq_true (show idx (fun x => !decide (okI x)) l ≥ 0 from hc)]
      symm
      simpa using ⟨x, hx, by simpa using hx'⟩
    · rw [decide_eq_false (show ¬ idx (fun x => !decide (okI x)) l ≥ 0 from hc)]
      symm
      have := fun h => hc (e.2 h)
      simpa using this
  · refine Ev.ifn (by omega) (Ev.some ?_)
    unfold okCode
    rw [show decide (l.length ≤ 40) = false by simpa using hl]
    rfl
theorem cdCode_ev (l : List Instr) : Ev (fun k => spec_cdCode.f k l) (okCode l) := by
  unfold spec_cdCode.f
  by_cases hl : l.length ≤ 40
  · refine Ev.ifn (by omega) ?_
    unfold okCode
    rw [show decide (l.length ≤ 40) = true by simpa using hl, Bool.true_and]
    refine all_ev l _ (fun k i => spec_cdCode.l0 k l l.length i) ?_ (fun i x hi hx hp => ?_) (fun i x r hi hx hp hr => ?_)
    · refine Ev.step (f := fun _ => some true) (fun k => ?_) (Ev.now _)
      simp only [spec_cdCode.l0]
      rw [if_neg (by omega)]
    · refine Ev.step (fun k => by simp only [spec_cdCode.l0, rdI_eq hx]; rfl) ?_
      refine Ev.ifp (by omega) (Ev.ifp (by omega) (Ev.ifp (by omega) ?_))
      exact Ev.bind (cdGood_ev x) (Ev.ifn (by simpa using hp) (Ev.now _))
    · refine Ev.step (fun k => by simp only [spec_cdCode.l0, rdI_eq hx, w64n i (show i < 4611686018427387904 by omega)]; rfl) ?_
      refine Ev.ifp (by omega) (Ev.ifp (by omega) (Ev.ifp (by omega) ?_))
      exact Ev.bind (cdGood_ev x) (Ev.ifp (by simpa using hp) hr)
  · refine Ev.ifp (by omega) (Ev.some ?_)
    unfold okCode
    rw [show decide (l.length ≤ 40) = false by simpa using hl]
    rfl
theorem okBlock_eq (l : List Instr) : okBlock l = (okCode l && decide (l.length ≤ 20)) := by
  unfold okBlock okCode
  by_cases h : l.length ≤ 20
  · simp [h, show l.length ≤ 40 by omega]
  · simp [h]
theorem okBlock_of {l : List Instr} (h : okBlock l = true) : l.length ≤ 20 ∧ ∀ x ∈ l, okI x := by
  unfold okBlock at h
  simp only [Bool.and_eq_true, decide_eq_true_eq, List.all_eq_true] at h
  exact h
theorem isBlock_ev (l : List Instr) : Ev (fun k => impl_isBlock.f k l) (okBlock l) := by
  unfold impl_isBlock.f
  refine Ev.bind (isCode_ev l) ?_
  rw [okBlock_eq]
  cases h : okCode l
  · exact Ev.ifn (by simp) (Ev.some rfl)
  · refine Ev.ifp rfl (Ev.some ?_)
    rw [Bool.true_and, decide_eq_decide]
    omega
end Go.Proofs.Yteaablbhdmkcpaa.PL
end
section
namespace Go.Proofs.Yteaablbhdmkcpaa.PL
open Go Go.RowKit Go.Proofs.YteaablbhdmkcpaaW.PrintWords Go.Proofs.YteaablbhdmkcpaaW.PrintLast Go.Proofs.YteaablbhdmkcpaaW.PrintMore Go.Proofs.Yteaablbhdmkcpaa.Q
set_option linter.unusedSimpArgs false
set_option linter.unusedVariables false
theorem orGood_ev (l : List Instr) : Ev (fun k => spec_orGood.f k l) (okBlock l) := by
  unfold spec_orGood.f
  rw [okBlock_eq]
  by_cases h : l.length ≤ 20
  · refine Ev.ifp (by omega) (Ev.bind (cdCode_ev l) (Ev.some ?_))
    simp [h]
  · refine Ev.ifn (by omega) (Ev.some ?_)
    simp [h]
end Go.Proofs.Yteaablbhdmkcpaa.PL
end
section
namespace Go.Proofs.Yteaablbhdmkcpaa.Q
open Go.RowKit Go.Proofs.YteaablbhdmkcpaaW.PrintWords Go.Proofs.YteaablbhdmkcpaaW.PrintLast Go.Proofs.YteaablbhdmkcpaaW.PrintMore
attribute [local go_sem] max2_int min2_int max_two min_two max_three min_three max_four min_four
set_option linter.unusedVariables false
set_option linter.unusedSimpArgs false
end Go.Proofs.Yteaablbhdmkcpaa.Q
end
section
namespace Go.Proofs.Yteaablbhdmkcpaa.PL
open Go Go.RowKit Go.Proofs.YteaablbhdmkcpaaW.PrintWords Go.Proofs.YteaablbhdmkcpaaW.PrintLast Go.Proofs.YteaablbhdmkcpaaW.PrintMore Go.Proofs.Yteaablbhdmkcpaa.Q
set_option linter.unusedSimpArgs false
set_option linter.unusedVariables false
end Go.Proofs.Yteaablbhdmkcpaa.PL
end
section
namespace Go.Proofs.Yteaablbhdmkcpaa.Q
open Go.RowKit Go.Proofs.YteaablbhdmkcpaaW.PrintWords Go.Proofs.YteaablbhdmkcpaaW.PrintLast Go.Proofs.YteaablbhdmkcpaaW.PrintMore
attribute [local go_sem] max2_int min2_int max_two min_two max_three min_three max_four min_four
set_option linter.unusedVariables false
set_option linter.unusedSimpArgs false
end Go.Proofs.Yteaablbhdmkcpaa.Q
end
section
namespace Go.Proofs.Yteaablbhdmkcpaa.Q
open Go.RowKit Go.Proofs.YteaablbhdmkcpaaW.PrintWords Go.Proofs.YteaablbhdmkcpaaW.PrintLast Go.Proofs.YteaablbhdmkcpaaW.PrintMore
attribute [local go_sem] max2_int min2_int max_two min_two max_three min_three max_four min_four
set_option linter.unusedVariables false
set_option linter.unusedSimpArgs false
end Go.Proofs.Yteaablbhdmkcpaa.Q
end
section
namespace Go.Proofs.Yteaablbhdmkcpaa.Q
open Go.RowKit Go.Proofs.YteaablbhdmkcpaaW.PrintWords Go.Proofs.YteaablbhdmkcpaaW.PrintLast Go.Proofs.YteaablbhdmkcpaaW.PrintMore
attribute [local go_sem] max2_int min2_int max_two min_two max_three min_three max_four min_four
set_option linter.unusedVariables false
set_option linter.unusedSimpArgs false
end Go.Proofs.Yteaablbhdmkcpaa.Q
end
section
namespace Go.Proofs.Yteaablbhdmkcpaa.PL
open Go Go.RowKit Go.Proofs.YteaablbhdmkcpaaW.PrintWords Go.Proofs.YteaablbhdmkcpaaW.PrintLast Go.Proofs.YteaablbhdmkcpaaW.PrintMore Go.Proofs.Yteaablbhdmkcpaa.Q
set_option linter.unusedSimpArgs false
set_option linter.unusedVariables false
theorem tabI_at (l : List Instr) (m i : Nat) (h : i < m) : rd_L4 (tabI l m) (i : Int) = rowI l i i := by
  unfold rd_L4
  rw [Int.toNat_natCast]
  simp [tabI, List.getD, h]
theorem rowI_at (l : List Instr) (i m j : Nat) (h : j < m) : rd (rowI l i m) (j : Int) = dly l j i := rd_eq (fun d => by simp [rowI, List.getD, h])
theorem tabS_at (l : List Instr) (m i : Nat) (h : i < m) : rd_L4 (tabS l m) (i : Int) = rowS l i l.length := by
  unfold rd_L4
  rw [Int.toNat_natCast]
  simp [tabS, List.getD, h]
theorem rowS_at (l : List Instr) (i m j : Nat) (h : j < m) : rd (rowS l i m) (j : Int) = dlyS l i j := rd_eq (fun d => by simp [rowS, List.getD, h])
end Go.Proofs.Yteaablbhdmkcpaa.PL
end
section
namespace Go.Proofs.Yteaablbhdmkcpaa.Q
open Go.RowKit Go.Proofs.YteaablbhdmkcpaaW.PrintWords Go.Proofs.YteaablbhdmkcpaaW.PrintLast Go.Proofs.YteaablbhdmkcpaaW.PrintMore
attribute [local go_sem] max2_int min2_int max_two min_two max_three min_three max_four min_four
set_option linter.unusedVariables false
set_option linter.unusedSimpArgs false
end Go.Proofs.Yteaablbhdmkcpaa.Q
end
section
namespace Go.Proofs.Yteaablbhdmkcpaa.Q
open Go.RowKit Go.Proofs.YteaablbhdmkcpaaW.PrintWords Go.Proofs.YteaablbhdmkcpaaW.PrintLast Go.Proofs.YteaablbhdmkcpaaW.PrintMore
attribute [local go_sem] max2_int min2_int max_two min_two max_three min_three max_four min_four
set_option linter.unusedVariables false
set_option linter.unusedSimpArgs false
end Go.Proofs.Yteaablbhdmkcpaa.Q
end
section
namespace Go.Proofs.Yteaablbhdmkcpaa.PL
open Go Go.RowKit Go.Proofs.YteaablbhdmkcpaaW.PrintWords Go.Proofs.YteaablbhdmkcpaaW.PrintLast Go.Proofs.YteaablbhdmkcpaaW.PrintMore Go.Proofs.Yteaablbhdmkcpaa.Q
set_option linter.unusedSimpArgs false
set_option linter.unusedVariables false
theorem getD_app (A B : List Int) (u : Nat) : (A ++ B).getD u 0 = if u < A.length then A.getD u 0 else B.getD (u - A.length) 0 := by
  simp only [List.getD_eq_getElem?_getD, List.getElem?_append]
  split <;> rfl
theorem most_eq (a b : Int) : spec_l1Most.f a b = some (max a b) := by
  unfold spec_l1Most.f
  by_cases q : a > b
  · rw [if_pos q]; congr 1; omega
  · rw [if_neg q]; congr 1; omega
section
variable (l : List Instr) (hl : l.length ≤ 20)
include hl
end
end Go.Proofs.Yteaablbhdmkcpaa.PL
end
section
namespace Go.Proofs.Yteaablbhdmkcpaa.Q
open Go.RowKit Go.Proofs.YteaablbhdmkcpaaW.PrintWords Go.Proofs.YteaablbhdmkcpaaW.PrintLast Go.Proofs.YteaablbhdmkcpaaW.PrintMore
attribute [local go_sem] max2_int min2_int max_two min_two max_three min_three max_four min_four
set_option linter.unusedVariables false
set_option linter.unusedSimpArgs false
end Go.Proofs.Yteaablbhdmkcpaa.Q
end
section
namespace Go.Proofs.Yteaablbhdmkcpaa.Q
open Go.RowKit Go.Proofs.YteaablbhdmkcpaaW.PrintWords Go.Proofs.YteaablbhdmkcpaaW.PrintLast Go.Proofs.YteaablbhdmkcpaaW.PrintMore
attribute [local go_sem] max2_int min2_int max_two min_two max_three min_three max_four min_four
set_option linter.unusedVariables false
set_option linter.unusedSimpArgs false
end Go.Proofs.Yteaablbhdmkcpaa.Q
end
section
namespace Go.Proofs.Yteaablbhdmkcpaa.PL
open Go Go.RowKit Go.Proofs.YteaablbhdmkcpaaW.PrintWords Go.Proofs.YteaablbhdmkcpaaW.PrintLast Go.Proofs.YteaablbhdmkcpaaW.PrintMore Go.Proofs.Yteaablbhdmkcpaa.Q
set_option linter.unusedSimpArgs false
set_option linter.unusedVariables false
def laC (l : List Instr) (a : Int) (i : Nat) (S : List Int) : Nat → Int
  | 0 => a - costC (cls (l.getD i zI).f0)
  | u + 1 => if dly l i (i + 1 + u) ≥ 0 then min (laC l a i S u) (S.getD u 0 - dly l i (i + 1 + u)) else laC l a i S u
def laL (l : List Instr) (a : Int) (n : Nat) : Nat → List Int
  | 0 => []
  | d + 1 => laC l a (n - 1 - d) (laL l a n d) d :: laL l a n d
theorem laL_len (l : List Instr) (a : Int) (n : Nat) : ∀ d, (laL l a n d).length = d
  | 0 => rfl
  | d + 1 => by rw [laL, List.length_cons, laL_len l a n d]
theorem laC_bd (l : List Instr) (a : Int) (i : Nat) (S : List Int) (B : Int) (hB : 4 ≤ B) (n : Nat) (hS : ∀ u, u < n → a - B ≤ S.getD u 0 ∧ S.getD u 0 ≤ a) : ∀ u, u ≤ n → a - (B + 4) ≤ laC l a i S u ∧ laC l a i S u ≤ a
  | 0, _ => by have := costC_le (cls (l.getD i zI).f0); unfold laC; omega
  | u + 1, h => by
    have ih := laC_bd l a i S B hB n hS u (by omega)
    have hd := dly_le l i (i + 1 + u)
    have hp := hS u (by omega)
    unfold laC
    split <;> omega
theorem laL_bd (l : List Instr) (a : Int) (n : Nat) : ∀ d u : Nat, u < d → a - 4 * ((d : Int) + 1) ≤ (laL l a n d).getD u 0 ∧ (laL l a n d).getD u 0 ≤ a
  | 0, u, h => absurd h (by omega)
  | d + 1, u, h => by
    have ih := laL_bd l a n d
    have hc := laC_bd l a (n - 1 - d) (laL l a n d) (4 * ((d : Int) + 1)) (by omega) d ih d (Nat.le_refl _)
    unfold laL
    cases u with
    | zero => show a - _ ≤ laC l a (n - 1 - d) (laL l a n d) d ∧ laC l a (n - 1 - d) (laL l a n d) d ≤ a; omega
    | succ u => show a - _ ≤ (laL l a n d).getD u 0 ∧ (laL l a n d).getD u 0 ≤ a; have := ih u (by omega); omega
theorem rd_behind (Z S : List Int) (v : Int) (i u : Nat) (hZ : Z.length = i) : rd (Z ++ v :: S) ((i + 1 + u : Nat) : Int) = S.getD u 0 := by
  unfold rd
  rw [Int.toNat_natCast, getD_app, if_neg (by omega), show i + 1 + u - Z.length = u + 1 by omega]
  rfl
theorem set_midN {α : Type} (A B : List α) (x y : α) (i : Nat) (h : A.length = i) : (A ++ x :: B).set i y = A ++ y :: B := by
  have := setN_mid A B x y i h
  rwa [Int.toNat_natCast] at this
theorem latIn_eq (l : List Instr) (hl : l.length ≤ 20) (a : Int) (ha : -100 ≤ a ∧ a ≤ 100) (i : Nat) (Z : List Int) (hZ : Z.length = i) (e : Nat) (he : i + 1 + e = l.length) :
    ∀ (d u : Nat), u + d = e → impl_latest.inn (tabI l l.length) i d (i + 1 + u) (Z ++ laC l a i (laL l a l.length e) u :: laL l a l.length e) = Z ++ laC l a i (laL l a l.length e) e :: laL l a l.length e := by
  intro d
  induction d with
  | zero =>
    intro u hu
    obtain rfl : u = e := by omega
    rfl
  | succ d ih =>
    intro u hu
    have next := ih (u + 1) (by omega)
    unfold impl_latest.inn
    rw [tabI_at l l.length (i + 1 + u) (by omega), rowI_at l (i + 1 + u) (i + 1 + u) i (by omega), rdN_mid _ _ _ i hZ, rd_behind _ _ _ i u hZ, show i + 1 + u + 1 = i + 1 + (u + 1) by omega]
    rw [← next]
    congr 1
    by_cases h : dly l i (i + 1 + u) ≥ 0
    · rw [if_pos h]
      have b1 := laL_bd l a l.length e u (by omega)
      have b2 := dly_le l i (i + 1 + u)
      rw [w64 (by omega) (by omega), show ∀ x y : Int, mn x y = min x y from fun x y => by unfold mn; omega, set_midN _ _ _ _ i hZ]
      rw [show laC l a i (laL l a l.length e) (u + 1) = min (laC l a i (laL l a l.length e) u) ((laL l a l.length e).getD u 0 - dly l i (i + 1 + u)) from if_pos h]
    · rw [if_neg h]
      rw [show laC l a i (laL l a l.length e) (u + 1) = laC l a i (laL l a l.length e) u from if_neg h]
theorem latAll_eq (l : List Instr) (hl : l.length ≤ 20) (a : Int) (ha : -100 ≤ a ∧ a ≤ 100) (cs : List Int) (hcs : ∀ i, i < l.length → rd cs (i : Nat) = costC (cls (l.getD i zI).f0)) :
    ∀ d, d ≤ l.length → ((List.range d).map fun j => l.length - 1 - j).foldl (impl_latest.step (tabI l l.length) cs a l.length) (List.replicate l.length 0) = List.replicate (l.length - d) 0 ++ laL l a l.length d := by
  intro d
  induction d with
  | zero =>
    intro _
    rw [laL, List.append_nil]
    rfl
  | succ d ih =>
    intro hd
    rw [List.range_succ, List.map_append, List.foldl_append, ih (by omega), List.map_singleton]
    show impl_latest.step _ _ _ _ _ (l.length - 1 - d) = _
    generalize hi : l.length - 1 - d = i
    have hc := costC_le (cls (l.getD i zI).f0)
    have key := latIn_eq l hl a ha i (List.replicate i 0) (List.length_replicate) d (by omega) d 0 (by omega)
    unfold impl_latest.step
    rw [show l.length - 1 - i = d by omega, show l.length - d = i + 1 by omega, List.replicate_succ', List.append_assoc, List.singleton_append, set_midN _ _ _ _ i List.length_replicate, hcs i (by omega), w64 (by omega) (by omega), show l.length - (d + 1) = i by omega]
    rw [laL, hi]
    exact key
theorem costs_eq : ∀ l : List Instr, impl_latest.costs l = some (l.map fun x => costC (cls x.f0))
  | [] => rfl
  | x :: xs => by
    unfold impl_latest.costs
    rw [cost_eq, costs_eq xs]
    rfl
theorem okT_tab (l : List Instr) (hl : l.length ≤ 20) : impl_latest.okT (tabI l l.length) l.length = true := by
  unfold impl_latest.okT
  rw [Bool.and_eq_true, decide_eq_true_eq, List.all_eq_true]
  refine ⟨⟨tabI_len l l.length, by omega⟩, fun j hj => ?_⟩
  rw [decide_eq_true_eq, tabI_at l l.length j (List.mem_range.1 hj), rowI_len]
  exact Nat.le_refl _
theorem latest_ev (l : List Instr) (hl : l.length ≤ 20) (a : Int) (ha : -100 ≤ a ∧ a ≤ 100) : Ev (fun k => impl_latest.f k l a) (laL l a l.length l.length) := by
  unfold impl_latest.f
  refine Ev.bind (delays_ev l (by omega)) (Ev.call (costs_eq l) (Ev.ifp (okT_tab l hl) (Ev.some ?_)))
  have := latAll_eq l hl a ha (l.map fun x => costC (cls x.f0)) (fun i hi => rd_eq (fun d => by simp [List.getD, hi])) l.length (Nat.le_refl _)
  rw [Nat.sub_self] at this
  exact this
section
variable (l : List Instr) (hl : l.length ≤ 20) (ok : ∀ x ∈ l, okI x) (a : Int) (ha : -100 ≤ a ∧ a ≤ 100)
include hl ha
end
end Go.Proofs.Yteaablbhdmkcpaa.PL
end
section
namespace Go.Proofs.Yteaablbhdmkcpaa.Q
open Go.RowKit Go.Proofs.YteaablbhdmkcpaaW.PrintWords Go.Proofs.YteaablbhdmkcpaaW.PrintLast Go.Proofs.YteaablbhdmkcpaaW.PrintMore
attribute [local go_sem] max2_int min2_int max_two min_two max_three min_three max_four min_four
set_option linter.unusedVariables false
set_option linter.unusedSimpArgs false
end Go.Proofs.Yteaablbhdmkcpaa.Q
end
section
namespace Go.Proofs.Yteaablbhdmkcpaa.Q
open Go.RowKit Go.Proofs.YteaablbhdmkcpaaW.PrintWords Go.Proofs.YteaablbhdmkcpaaW.PrintLast Go.Proofs.YteaablbhdmkcpaaW.PrintMore
attribute [local go_sem] max2_int min2_int max_two min_two max_three min_three max_four min_four
set_option linter.unusedVariables false
set_option linter.unusedSimpArgs false
end Go.Proofs.Yteaablbhdmkcpaa.Q
end
section
namespace Go.Proofs.Yteaablbhdmkcpaa.Q
open Go.RowKit Go.Proofs.YteaablbhdmkcpaaW.PrintWords Go.Proofs.YteaablbhdmkcpaaW.PrintLast Go.Proofs.YteaablbhdmkcpaaW.PrintMore
attribute [local go_sem] max2_int min2_int max_two min_two max_three min_three max_four min_four
set_option linter.unusedVariables false
set_option linter.unusedSimpArgs false
end Go.Proofs.Yteaablbhdmkcpaa.Q
end
section
namespace Go.Proofs.Yteaablbhdmkcpaa.Q
open Go.RowKit Go.Proofs.YteaablbhdmkcpaaW.PrintWords Go.Proofs.YteaablbhdmkcpaaW.PrintLast Go.Proofs.YteaablbhdmkcpaaW.PrintMore
attribute [local go_sem] max2_int min2_int max_two min_two max_three min_three max_four min_four
set_option linter.unusedVariables false
set_option linter.unusedSimpArgs false
end Go.Proofs.Yteaablbhdmkcpaa.Q
end
section
namespace Go.Proofs.Yteaablbhdmkcpaa.Q
open Go.RowKit Go.Proofs.YteaablbhdmkcpaaW.PrintWords Go.Proofs.YteaablbhdmkcpaaW.PrintLast Go.Proofs.YteaablbhdmkcpaaW.PrintMore
attribute [local go_sem] max2_int min2_int max_two min_two max_three min_three max_four min_four
set_option linter.unusedVariables false
set_option linter.unusedSimpArgs false
end Go.Proofs.Yteaablbhdmkcpaa.Q
end
section
namespace Go.Proofs.Yteaablbhdmkcpaa.PL
open Go Go.RowKit Go.Proofs.YteaablbhdmkcpaaW.PrintWords Go.Proofs.YteaablbhdmkcpaaW.PrintLast Go.Proofs.YteaablbhdmkcpaaW.PrintMore Go.Proofs.Yteaablbhdmkcpaa.Q
set_option linter.unusedSimpArgs false
set_option linter.unusedVariables false
end Go.Proofs.Yteaablbhdmkcpaa.PL
end
section
namespace Go.Proofs.Yteaablbhdmkcpaa.PL
open Go Go.RowKit Go.Proofs.YteaablbhdmkcpaaW.PrintWords Go.Proofs.YteaablbhdmkcpaaW.PrintLast Go.Proofs.YteaablbhdmkcpaaW.PrintMore Go.Proofs.Yteaablbhdmkcpaa.Q
set_option linter.unusedSimpArgs false
set_option linter.unusedVariables false
theorem bne_self' (b : Bool) : (b != b) = false := by simp
end Go.Proofs.Yteaablbhdmkcpaa.PL
end
section
namespace Go.Proofs.Yteaablbhdmkcpaa.PL
open Go Go.RowKit Go.Proofs.YteaablbhdmkcpaaW.PrintWords Go.Proofs.YteaablbhdmkcpaaW.PrintLast Go.Proofs.YteaablbhdmkcpaaW.PrintMore Go.Proofs.Yteaablbhdmkcpaa.Q
set_option linter.unusedSimpArgs false
set_option linter.unusedVariables false
def ngL (xs : List Int) : List Int := xs.map fun x => -x
theorem ngL_len (xs : List Int) : (ngL xs).length = xs.length := by simp [ngL]
theorem ngL_getD (xs : List Int) (u : Nat) : (ngL xs).getD u 0 = -(xs.getD u 0) := by
  unfold ngL
  rw [List.getD_eq_getElem?_getD, List.getD_eq_getElem?_getD, List.getElem?_map]
  cases xs[u]? <;> rfl
def hts (l : List Instr) (d : Nat) : List Int := ngL (laL l 0 l.length d)
def pbR (l : List Instr) : Int × Bool := if okBlock l = true then ((hts l l.length).foldl max 0, true) else (0, false)
theorem foldl_max (a : Int) : ∀ (xs : List Int) (b : Int), xs.foldl max (max a b) = max a (xs.foldl max b)
  | [], _ => rfl
  | x :: xs, b => by
    show xs.foldl max (max (max a b) x) = max a (xs.foldl max (max b x))
    rw [Int.max_assoc, foldl_max a xs (max b x)]
theorem implH_ev (l : List Instr) (hl : l.length ≤ 20) : Ev (fun k => impl_heights.f k l) (hts l l.length) := by
  have hb := laL_bd l 0 l.length l.length
  have hn := laL_len l 0 l.length l.length
  unfold impl_heights.f
  refine Ev.bind (latest_ev l hl 0 (by omega)) ?_
  unfold hts
  generalize laL l 0 l.length l.length = X at hb hn ⊢
  have key : ∀ (d i : Nat), i + d = X.length → Ev (fun k => impl_heights.l0 k (ngL (X.take i) ++ X.drop i) X.length i) (ngL X) := by
    intro d
    induction d with
    | zero =>
      intro i hi
      obtain rfl : i = X.length := by omega
      rw [List.take_length, List.drop_length, List.append_nil]
      refine Ev.step (f := fun _ => some (ngL X)) (fun k => ?_) (Ev.now _)
      simp only [impl_heights.l0]
      rw [if_neg (by omega)]
    | succ d ih =>
      intro i hi
      have next := ih (i + 1) (by omega)
      have hlt : i < X.length := by omega
      have hbi := hb i (by omega)
      rw [getD_eq X i hlt] at hbi
      have ht : (ngL (X.take i)).length = i := by rw [ngL_len, List.length_take]; omega
      rw [List.take_succ_eq_append_getElem hlt, show ngL (X.take i ++ [X[i]]) = ngL (X.take i) ++ [-X[i]] from List.map_append, List.append_assoc, List.singleton_append] at next
      rw [List.drop_eq_getElem_cons hlt]
      refine Ev.step (fun k => by simp only [impl_heights.l0]; rfl) (Ev.ifp (by omega) (Ev.ifp (by omega) ?_))
      refine Ev.ifp (by rw [List.length_append, List.length_cons, List.length_drop, ht]; omega) ?_
      rw [rdN_mid _ _ _ i ht, w64 (by omega) (by omega), setN_mid _ _ _ _ i ht, w64n i (by omega)]
      exact next
  have := key X.length 0 (by omega)
  simpa [ngL] using this
theorem max_ev (X : List Int) (h0 : 0 < X.length) (hX : X.length ≤ 1048576) : Ev (fun k => slices_Max_int_int.f k X) ((X.drop 1).foldl max (rd X 0)) := by
  have key : ∀ (d i : Nat) (m : Int), i + d = X.length → Ev (fun k => slices_Max_int_int.l0 k X m i) ((X.drop i).foldl max m) := by
    intro d
    induction d with
    | zero =>
      intro i m hi
      refine Ev.step (f := fun _ => some m) (fun k => ?_) (Ev.some ?_)
      · simp only [slices_Max_int_int.l0]
        rw [if_neg (by omega)]
      · rw [List.drop_of_length_le (by omega)]
        rfl
    | succ d ih =>
      intro i m hi
      have hlt : i < X.length := by omega
      have next := ih (i + 1) (max m X[i]) (by omega)
      rw [List.drop_eq_getElem_cons hlt]
      refine Ev.step (fun k => by simp only [slices_Max_int_int.l0]; rfl) (Ev.ifp (by omega) (Ev.ifp (by omega) ?_))
      rw [rd_eq (getD_eq X i hlt), mx_eq, w64n i (by omega)]
      exact next
  unfold slices_Max_int_int.f
  exact Ev.ifn (by omega) (Ev.ifp (by omega) (key (X.length - 1) 1 _ (by omega)))
theorem implPB_ev (l : List Instr) (hl : l.length ≤ 1048576) : Ev (fun k => impl_PathBound.f k l) (pbR l) := by
  unfold impl_PathBound.f
  refine Ev.bind (isBlock_ev l) ?_
  by_cases h : okBlock l = true
  · obtain ⟨h1, h2⟩ := okBlock_of h
    rw [show pbR l = ((hts l l.length).foldl max 0, true) from if_pos h]
    have hh : (hts l l.length).length = l.length := by unfold hts; rw [ngL_len, laL_len]
    refine Ev.ifp h (Ev.bind (implH_ev l h1) (Ev.ifp (by omega) ?_))
    have hlen : (hts l l.length ++ [0]).length = l.length + 1 := by rw [List.length_append, hh]; rfl
    refine Ev.bind (max_ev (hts l l.length ++ [0]) (by omega) (by omega)) (Ev.some ?_)
    congr 1
    cases hts l l.length with
    | nil => rfl
    | cons x t =>
      show (t ++ [0]).foldl max x = t.foldl max (max 0 x)
      rw [List.foldl_append, foldl_max]
      show max (t.foldl max x) 0 = max 0 (t.foldl max x)
      exact Int.max_comm _ _
  · rw [show pbR l = (0, false) from if_neg h]
    exact Ev.ifn h (Ev.now _)
theorem specH_row (l : List Instr) (hl : l.length ≤ 20) (i : Nat) (Z : List Int) (hZ : Z.length = i) (e : Nat) (he : i + 1 + e = l.length) (T : List Int)
    (hc : Ev (fun k => spec_orHeights.l0 k l (tabS l l.length) (Z ++ -(laC l 0 i (laL l 0 l.length e) e) :: hts l e) (wrap64 ((i : Int) - 1))) T) :
    ∀ (d u : Nat), u + d = e → Ev (fun k => spec_orHeights.l1 k l (tabS l l.length) (Z ++ -(laC l 0 i (laL l 0 l.length e) u) :: hts l e) i ((i + 1 + u : Nat) : Int)) T := by
  intro d
  induction d with
  | zero =>
    intro u hu
    obtain rfl : u = e := by omega
    exact Ev.step (fun k => by simp only [spec_orHeights.l1]; rfl) (Ev.ifn (by omega) hc)
  | succ d ih =>
    intro u hu
    have next := ih (u + 1) (by omega)
    have hh : (hts l e).length = e := by unfold hts; rw [ngL_len, laL_len]
    have hlen : (Z ++ -(laC l 0 i (laL l 0 l.length e) u) :: hts l e).length = l.length := by rw [List.length_append, List.length_cons, hh]; omega
    refine Ev.step (fun k => by simp only [spec_orHeights.l1]; rfl) (Ev.ifp (by omega) (Ev.ifp (by omega) (Ev.ifp (by rw [tabS_len]; omega) (Ev.ifp (by omega) ?_))))
    rw [tabS_at l l.length i (by omega)]
    refine Ev.ifp (by rw [rowS_len]; omega) ?_
    rw [rowS_at l i l.length (i + 1 + u) (by omega), show dlyS l i (i + 1 + u) = dly l i (i + 1 + u) from if_pos (by omega), w64n (i + 1 + u) (by omega), show i + 1 + u + 1 = i + 1 + (u + 1) by omega]
    by_cases h : dly l i (i + 1 + u) ≥ 0
    · rw [show laC l 0 i (laL l 0 l.length e) (u + 1) = min (laC l 0 i (laL l 0 l.length e) u) ((laL l 0 l.length e).getD u 0 - dly l i (i + 1 + u)) from if_pos h] at next
      have b1 := laL_bd l 0 l.length e u (by omega)
      have b2 := dly_le l i (i + 1 + u)
      refine Ev.ifp h (Ev.ifp (by omega) (Ev.ifp (by omega) ?_))
      rw [rdN_mid _ _ _ i hZ, rd_behind _ _ _ i u hZ, show (hts l e).getD u 0 = -((laL l 0 l.length e).getD u 0) from ngL_getD _ _, w64 (by omega) (by omega)]
      refine Ev.call (most_eq _ _) ?_
      rw [setN_mid _ _ _ _ i hZ, show max (-(laC l 0 i (laL l 0 l.length e) u)) (dly l i (i + 1 + u) + -((laL l 0 l.length e).getD u 0)) = -(min (laC l 0 i (laL l 0 l.length e) u) ((laL l 0 l.length e).getD u 0 - dly l i (i + 1 + u))) by omega]
      exact next
    · rw [show laC l 0 i (laL l 0 l.length e) (u + 1) = laC l 0 i (laL l 0 l.length e) u from if_neg h] at next
      exact Ev.ifn h next
theorem specH_ev (l : List Instr) (hl : l.length ≤ 20) (ok : ∀ x ∈ l, okI x) : Ev (fun k => spec_orHeights.f k l) (hts l l.length) := by
  unfold spec_orHeights.f
  refine Ev.bind (orDelays_ev l (by omega) ok) ?_
  refine Ev.ifp (by omega) (Ev.ifp (by omega) ?_)
  rw [Int.toNat_natCast, w64 (by omega) (by omega)]
  have key : ∀ (m d : Nat), d + m = l.length → Ev (fun k => spec_orHeights.l0 k l (tabS l l.length) (List.replicate m 0 ++ hts l d) ((m : Int) - 1)) (hts l l.length) := by
    intro m
    induction m with
    | zero =>
      intro d hd
      obtain rfl : d = l.length := by omega
      exact Ev.step (fun k => by simp only [spec_orHeights.l0]; rfl) (Ev.ifn (by omega) (Ev.some rfl))
    | succ m ih =>
      intro d hd
      have hok := ok (l.getD m zI) (by rw [getD_eq l m (by omega)]; exact List.getElem_mem _)
      have hlenR : (List.replicate m (0 : Int)).length = m := List.length_replicate
      have hh : (hts l d).length = d := by unfold hts; rw [ngL_len, laL_len]
      refine Ev.step (fun k => by simp only [spec_orHeights.l0]; rfl) (Ev.ifp (by omega) ?_)
      rw [show ((m + 1 : Nat) : Int) - 1 = (m : Int) by omega]
      refine Ev.ifp (by omega) (Ev.ifp (by omega) ?_)
      rw [rdI_eq (x := l.getD m zI) (fun d' => by rw [getD_eq l m (by omega) d', getD_eq l m (by omega) zI])]
      refine Ev.call (cdCost_eq _ hok.1) (Ev.ifp (by rw [List.length_append, List.length_replicate, hh]; omega) ?_)
      rw [List.replicate_succ', List.append_assoc, List.singleton_append, setN_mid _ _ _ _ m hlenR, w64n m (by omega)]
      have hlast : hts l (d + 1) = -(laC l 0 m (laL l 0 l.length d) d) :: hts l d := by
        have : hts l (d + 1) = -(laC l 0 (l.length - 1 - d) (laL l 0 l.length d) d) :: hts l d := rfl
        rw [this, show l.length - 1 - d = m by omega]
      have row := specH_row l hl m (List.replicate m 0) hlenR d (by omega) (hts l l.length) (by rw [← hlast, w64 (by omega) (by omega)]; exact ih (d + 1) (by omega)) d 0 (by omega)
      rw [show -(laC l 0 m (laL l 0 l.length d) 0) = costC (cls (l.getD m zI).f0) by show -((0 : Int) - _) = _; omega] at row
      exact row
  have := key l.length 0 (by omega)
  rw [show hts l 0 = [] from rfl, List.append_nil] at this
  exact this
theorem specPB_ev (l : List Instr) (hl : l.length ≤ 1048576) : Ev (fun k => spec_PathBound.f k l) (pbR l) := by
  unfold spec_PathBound.f
  refine Ev.bind (orGood_ev l) ?_
  by_cases h : okBlock l = true
  · obtain ⟨h1, h2⟩ := okBlock_of h
    rw [show pbR l = ((hts l l.length).foldl max 0, true) from if_pos h]
    have hh : (hts l l.length).length = l.length := by unfold hts; rw [ngL_len, laL_len]
    have hp : Ev (fun k => spec_orPath.f k l) ((hts l l.length).foldl max 0) := by
      unfold spec_orPath.f
      refine Ev.bind (specH_ev l h1 h2) ?_
      generalize hts l l.length = X at hh ⊢
      have key : ∀ (d i : Nat) (m : Int), i + d = X.length → Ev (fun k => spec_orPath.l0 k m X X.length i) ((X.drop i).foldl max m) := by
        intro d
        induction d with
        | zero =>
          intro i m hi
          refine Ev.step (f := fun _ => some m) (fun k => ?_) (Ev.some ?_)
          · simp only [spec_orPath.l0]
            rw [if_neg (by omega)]
          · rw [List.drop_of_length_le (by omega)]
            rfl
        | succ d ih =>
          intro i m hi
          have hlt : i < X.length := by omega
          have next := ih (i + 1) (max m X[i]) (by omega)
          rw [List.drop_eq_getElem_cons hlt]
          refine Ev.step (fun k => by simp only [spec_orPath.l0]; rfl) (Ev.ifp (by omega) (Ev.ifp (by omega) (Ev.ifp (by omega) ?_)))
          rw [rd_eq (getD_eq X i hlt)]
          refine Ev.call (most_eq _ _) ?_
          rw [w64n i (by omega)]
          exact next
      exact key X.length 0 0 (by omega)
    exact Ev.ifp h (Ev.bind hp (Ev.now _))
  · rw [show pbR l = (0, false) from if_neg h]
    exact Ev.ifn h (Ev.now _)
end Go.Proofs.Yteaablbhdmkcpaa.PL
namespace Go.Proofs.Yteaablbhdmkcpaa.Pure
open Go Go.RowKit Go.Proofs.YteaablbhdmkcpaaW.PrintWords Go.Proofs.YteaablbhdmkcpaaW.PrintLast Go.Proofs.YteaablbhdmkcpaaW.PrintMore Go.Proofs.Yteaablbhdmkcpaa.Q Go.Proofs.Yteaablbhdmkcpaa.PL
set_option linter.unusedSimpArgs false
set_option linter.unusedVariables false
theorem FnExactPathBound : laws_FnExactPathBound.Pure := by
  intro a0 h0
  refine Ev.rounds (g := fun k => laws_FnExactPathBound.f k a0) ?_
  unfold laws_FnExactPathBound.f
  obtain ⟨r0, hr0, hr0'⟩ := szInstrS_ev a0 1048576 h0 (by decide) (by decide)
  refine Ev.bind hr0 ?_
  by_cases hn0 : r0 < 0
  · exact Ev.ifp hn0 (Ev.now _)
  have hl0 := hr0' (by omega)
  have q0 := hl0.2.2
  refine Ev.ifn hn0 ?_
  have b0 : a0.length ≤ 1048576 := by have := hl0.1; omega
  refine Ev.bind (toInstrS_ev a0 b0) (?_)
  refine Ev.bind (specPB_ev (a0.map cvI) (by simpa using b0)) ?_
  refine Ev.bind (toInstrS_ev a0 b0) (?_)
  refine Ev.bind (implPB_ev (a0.map cvI) (by simpa using b0)) ?_
  refine Ev.ifp rfl ?_
  rw [bne_self' _]
  refine Ev.step (fun k => by simp only [laws_FnExactPathBound.j0]; rfl) (Ev.ifn (by decide) ?_)
  exact Ev.bind (toInstrS_ev a0 b0) (Ev.bind (eqInstrS_refl _ (by simpa using b0)) (Ev.ifp rfl (Ev.now _)))
end Go.Proofs.Yteaablbhdmkcpaa.Pure
end
