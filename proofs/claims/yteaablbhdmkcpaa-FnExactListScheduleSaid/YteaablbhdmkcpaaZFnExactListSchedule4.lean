/- Proved here: contracts of functions that the law FnExactListSchedule reaches, and lemmas on what they compute; texts of this session and the printed words of the kit that they lean on, cut down and put together by its program link.py. Conditions: as each states. -/
import Derived.Test.YteaablbhdmkcpaaZFnExactListSchedule1
import Derived.Test.YteaablbhdmkcpaaZFnExactListSchedule2
import Derived.Test.YteaablbhdmkcpaaZFnExactListSchedule3
section
namespace Go.Proofs.Yteaablbhdmkcpaa.Q
open Go.RowKit Go.Proofs.YteaablbhdmkcpaaW.PrintWords Go.Proofs.YteaablbhdmkcpaaW.PrintLast Go.Proofs.YteaablbhdmkcpaaW.PrintMore
attribute [local go_sem] max2_int min2_int max_two min_two max_three min_three max_four min_four
set_option linter.unusedVariables false
set_option linter.unusedSimpArgs false
def spec_cdGood.f (k : Nat) (a0_0 : ByteArray) (a0_1 : Int) (a0_2 : Int) (a0_3 : Int) (a0_4 : Int) : Option (Bool) := (spec_cdShape.f k a0_0).bind fun bt102 => (if bt102.1 = true then ((spec_cdReg.f a0_1).bind fun t107 => (if t107 = true then ((spec_cdReg.f a0_2).bind fun t108 => (if t108 = true then ((spec_cdReg.f a0_3).bind fun t109 => (if t109 = true then ((spec_l1In.f a0_4 bt102.2.2.2.1 bt102.2.2.2.2).bind fun t110 => (if t110 = true then (if bt102.2.1 = true then (if bt102.2.2.1 = true then (some true) else (some (a0_3 == 0))) else (if a0_2 = 0 then (if bt102.2.2.1 = true then (some true) else (some (a0_3 == 0))) else (some false))) else (some false))) else (some false))) else (some false))) else (some false))) else (some false))
theorem spec_cdGood.mono : ∀ a0 a1 a2 a3 a4 k, LeO (spec_cdGood.f k a0 a1 a2 a3 a4) (spec_cdGood.f (k + 1) a0 a1 a2 a3 a4) := by
 intro a0 a1 a2 a3 a4 k
 unfold spec_cdGood.f
 repeat' first
     | (with_reducible first | exact spec_cdShape.mono _ _ | exact LeO.refl _ | exact LeO.none _ | refine LeO.ite ?_ ?_ | refine LeO.bind ?_ (fun _ => ?_))
     | exact LeO.none _
     | refine LeO.ite ?_ ?_
     | refine LeO.bind ?_ (fun _ => ?_)
set_option maxHeartbeats 8000000 in
set_option maxRecDepth 100000 in
theorem spec_cdGood.calls (k : Nat) (a0_0 : ByteArray) (a0_1 : Int) (a0_2 : Int) (a0_3 : Int) (a0_4 : Int) (r : Bool) (w : World) (h : spec_cdGood.f k a0_0 a0_1 a0_2 a0_3 a0_4 = some r) :
   Calls Try.prog 102 #[.agg #[.string a0_0, .int .i64 a0_1, .int .i64 a0_2, .int .i64 a0_3, .int .i64 a0_4]] w fun e w' => e = .returned (.bool r) ∧ Below w.heap.size w w' := by
 have hu57 := Try.underlying57
 have HB := zA (Below.refl w.heap.size w)
 have H : ((spec_cdShape.f k a0_0).bind fun bt102 => (if bt102.1 = true then ((spec_cdReg.f a0_1).bind fun t107 => (if t107 = true then ((spec_cdReg.f a0_2).bind fun t108 => (if t108 = true then ((spec_cdReg.f a0_3).bind fun t109 => (if t109 = true then ((spec_l1In.f a0_4 bt102.2.2.2.1 bt102.2.2.2.2).bind fun t110 => (if t110 = true then (if bt102.2.1 = true then (if bt102.2.2.1 = true then (some true) else (some (a0_3 == 0))) else (if a0_2 = 0 then (if bt102.2.2.1 = true then (some true) else (some (a0_3 == 0))) else (some false))) else (some false))) else (some false))) else (some false))) else (some false))) else (some false))) = some r := h
 clear h
 replace H := zob H
 obtain ⟨⟨t102, t103, t104, t105, t106⟩, A20, H⟩ := H
 replace H : (if t102 = true then ((spec_cdReg.f a0_1).bind fun t107 => (if t107 = true then ((spec_cdReg.f a0_2).bind fun t108 => (if t108 = true then ((spec_cdReg.f a0_3).bind fun t109 => (if t109 = true then ((spec_l1In.f a0_4 t105 t106).bind fun t110 => (if t110 = true then (if t103 = true then (if t104 = true then (some true) else (some (a0_3 == 0))) else (if a0_2 = 0 then (if t104 = true then (some true) else (some (a0_3 == 0))) else (some false))) else (some false))) else (some false))) else (some false))) else (some false))) else (some false)) = some r := H
 have A2 := zA A20
 clear A20
 by_cases c3 : t102 = true
 rotate_left
 · replace c3 := zbf c3
   subst c3
   replace H : (some false) = some r := by rw [if_neg (show ¬ (false = true) by decide)] at H; exact H
   obtain rfl := zsi H
   go_enter Try.func102, Try.ntmps102
   go_wp2_with (first | ((with_reducible refine gate_dst (N := 1) rfl ?_); refine box_event ?hg (N := 1) ?hd (cs := #[.string a0_0, .int .i64 a0_1, .int .i64 a0_2, .int .i64 a0_3, .int .i64 a0_4]) (t := 57) ?hr ?_; (case hd => rfl); (case hg => rfl); (case hr => go_simp <;> rfl); intro gb101 hg w34 hbox hb; have zs := zpair (by repeat (first | (with_reducible first | exact HB.out | apply zba | apply zbn | apply zbd) | exact HB.out)) hb; have n0_ := zA (zs.1); have n1_ := zA (hbox); have n2_ := zA ((by rw [hg]; exact zs.2 : w.heap.size ≤ gb101)); have n3_ := n2_; clear HB; have HB := n0_; have BK101 := n1_; have GW101 := n2_; have GE101 := n3_; clear n0_ n1_ n2_ n3_; clear zs hb hbox hg; obtain ⟨hcz35_0, hcz35_1, hcz35_2, hcz35_3, hcz35_4⟩ := zc5 w34 (.string a0_0) (.int .i64 a0_1) (.int .i64 a0_2) (.int .i64 a0_3) (.int .i64 a0_4) BK101.out; obtain ⟨hfz35_0, hfz35_1, hfz35_2, hfz35_3, hfz35_4⟩ := zf5 BK101.out) | ((with_reducible refine gate_callee (f := 115) rfl ?_); refine goesL_ (some 11) rfl rfl Try.func115 (by kernel_rfl) rfl #[.string a0_0] rfl (by (try simp only [List.map_toArray, List.map_cons, List.map_nil]); first | done | rfl | (simp only [List.length_drop, List.length_take]; rfl)) ?_; (with_reducible refine (spec_cdShape.calls k a0_0 false t103 t104 t105 t106 _ A2.out).mono ?_); rintro e w' ⟨rfl, ⟨nd, rfl⟩⟩; refine ⟨_, rfl, ?_⟩))
   go_ret
   exact ⟨by first | rfl | (simp [errW_none, errW_some] <;> rfl) | (simp [*, errW_none, errW_some] <;> rfl), by repeat (first | (with_reducible first | exact HB.out | apply zba | apply zbn | apply zbd | refine below_set ?_ GE101.out) | exact HB.out)⟩
 subst c3
 replace H : ((spec_cdReg.f a0_1).bind fun t107 => (if t107 = true then ((spec_cdReg.f a0_2).bind fun t108 => (if t108 = true then ((spec_cdReg.f a0_3).bind fun t109 => (if t109 = true then ((spec_l1In.f a0_4 t105 t106).bind fun t110 => (if t110 = true then (if t103 = true then (if t104 = true then (some true) else (some (a0_3 == 0))) else (if a0_2 = 0 then (if t104 = true then (some true) else (some (a0_3 == 0))) else (some false))) else (some false))) else (some false))) else (some false))) else (some false))) = some r := by rw [if_pos rfl] at H; exact H
 replace H := zob H
 obtain ⟨t107, A40, H⟩ := H
 replace H : (if t107 = true then ((spec_cdReg.f a0_2).bind fun t108 => (if t108 = true then ((spec_cdReg.f a0_3).bind fun t109 => (if t109 = true then ((spec_l1In.f a0_4 t105 t106).bind fun t110 => (if t110 = true then (if t103 = true then (if t104 = true then (some true) else (some (a0_3 == 0))) else (if a0_2 = 0 then (if t104 = true then (some true) else (some (a0_3 == 0))) else (some false))) else (some false))) else (some false))) else (some false))) else (some false)) = some r := H
 have A4 := zA A40
 clear A40
 by_cases c5 : t107 = true
 rotate_left
 · replace c5 := zbf c5
   subst c5
   replace H : (some false) = some r := by rw [if_neg (show ¬ (false = true) by decide)] at H; exact H
   obtain rfl := zsi H
   go_enter Try.func102, Try.ntmps102
   go_wp2_with (first | ((with_reducible refine gate_dst (N := 1) rfl ?_); refine box_event ?hg (N := 1) ?hd (cs := #[.string a0_0, .int .i64 a0_1, .int .i64 a0_2, .int .i64 a0_3, .int .i64 a0_4]) (t := 57) ?hr ?_; (case hd => rfl); (case hg => rfl); (case hr => go_simp <;> rfl); intro gb101 hg w32 hbox hb; have zs := zpair (by repeat (first | (with_reducible first | exact HB.out | apply zba | apply zbn | apply zbd) | exact HB.out)) hb; have n0_ := zA (zs.1); have n1_ := zA (hbox); have n2_ := zA ((by rw [hg]; exact zs.2 : w.heap.size ≤ gb101)); have n3_ := n2_; clear HB; have HB := n0_; have BK101 := n1_; have GW101 := n2_; have GE101 := n3_; clear n0_ n1_ n2_ n3_; clear zs hb hbox hg; obtain ⟨hcz33_0, hcz33_1, hcz33_2, hcz33_3, hcz33_4⟩ := zc5 w32 (.string a0_0) (.int .i64 a0_1) (.int .i64 a0_2) (.int .i64 a0_3) (.int .i64 a0_4) BK101.out; obtain ⟨hfz33_0, hfz33_1, hfz33_2, hfz33_3, hfz33_4⟩ := zf5 BK101.out) | ((with_reducible refine gate_callee (f := 115) rfl ?_); refine goesL_ (some 11) rfl rfl Try.func115 (by kernel_rfl) rfl #[.string a0_0] rfl (by (try simp only [List.map_toArray, List.map_cons, List.map_nil]); first | done | rfl | (simp only [List.length_drop, List.length_take]; rfl)) ?_; (with_reducible refine (spec_cdShape.calls k a0_0 true t103 t104 t105 t106 _ A2.out).mono ?_); rintro e w' ⟨rfl, ⟨nd, rfl⟩⟩; refine ⟨_, rfl, ?_⟩) | (go_at_call 116; (with_reducible refine (spec_cdReg.calls a0_1 false _ A4.out).mono ?_); rintro e w' ⟨rfl, ⟨nd, rfl⟩⟩))
   go_ret
   exact ⟨by first | rfl | (simp [errW_none, errW_some] <;> rfl) | (simp [*, errW_none, errW_some] <;> rfl), by repeat (first | (with_reducible first | exact HB.out | apply zba | apply zbn | apply zbd | refine below_set ?_ GE101.out) | exact HB.out)⟩
 subst c5
 replace H : ((spec_cdReg.f a0_2).bind fun t108 => (if t108 = true then ((spec_cdReg.f a0_3).bind fun t109 => (if t109 = true then ((spec_l1In.f a0_4 t105 t106).bind fun t110 => (if t110 = true then (if t103 = true then (if t104 = true then (some true) else (some (a0_3 == 0))) else (if a0_2 = 0 then (if t104 = true then (some true) else (some (a0_3 == 0))) else (some false))) else (some false))) else (some false))) else (some false))) = some r := by rw [if_pos rfl] at H; exact H
 replace H := zob H
 obtain ⟨t108, A60, H⟩ := H
 replace H : (if t108 = true then ((spec_cdReg.f a0_3).bind fun t109 => (if t109 = true then ((spec_l1In.f a0_4 t105 t106).bind fun t110 => (if t110 = true then (if t103 = true then (if t104 = true then (some true) else (some (a0_3 == 0))) else (if a0_2 = 0 then (if t104 = true then (some true) else (some (a0_3 == 0))) else (some false))) else (some false))) else (some false))) else (some false)) = some r := H
 have A6 := zA A60
 clear A60
 by_cases c7 : t108 = true
 rotate_left
 · replace c7 := zbf c7
   subst c7
   replace H : (some false) = some r := by rw [if_neg (show ¬ (false = true) by decide)] at H; exact H
   obtain rfl := zsi H
   go_enter Try.func102, Try.ntmps102
   go_wp2_with (first | ((with_reducible refine gate_dst (N := 1) rfl ?_); refine box_event ?hg (N := 1) ?hd (cs := #[.string a0_0, .int .i64 a0_1, .int .i64 a0_2, .int .i64 a0_3, .int .i64 a0_4]) (t := 57) ?hr ?_; (case hd => rfl); (case hg => rfl); (case hr => go_simp <;> rfl); intro gb101 hg w30 hbox hb; have zs := zpair (by repeat (first | (with_reducible first | exact HB.out | apply zba | apply zbn | apply zbd) | exact HB.out)) hb; have n0_ := zA (zs.1); have n1_ := zA (hbox); have n2_ := zA ((by rw [hg]; exact zs.2 : w.heap.size ≤ gb101)); have n3_ := n2_; clear HB; have HB := n0_; have BK101 := n1_; have GW101 := n2_; have GE101 := n3_; clear n0_ n1_ n2_ n3_; clear zs hb hbox hg; obtain ⟨hcz31_0, hcz31_1, hcz31_2, hcz31_3, hcz31_4⟩ := zc5 w30 (.string a0_0) (.int .i64 a0_1) (.int .i64 a0_2) (.int .i64 a0_3) (.int .i64 a0_4) BK101.out; obtain ⟨hfz31_0, hfz31_1, hfz31_2, hfz31_3, hfz31_4⟩ := zf5 BK101.out) | ((with_reducible refine gate_callee (f := 115) rfl ?_); refine goesL_ (some 11) rfl rfl Try.func115 (by kernel_rfl) rfl #[.string a0_0] rfl (by (try simp only [List.map_toArray, List.map_cons, List.map_nil]); first | done | rfl | (simp only [List.length_drop, List.length_take]; rfl)) ?_; (with_reducible refine (spec_cdShape.calls k a0_0 true t103 t104 t105 t106 _ A2.out).mono ?_); rintro e w' ⟨rfl, ⟨nd, rfl⟩⟩; refine ⟨_, rfl, ?_⟩) | (go_at_call 116; (with_reducible refine (spec_cdReg.calls a0_1 true _ A4.out).mono ?_); rintro e w' ⟨rfl, ⟨nd, rfl⟩⟩) | (go_at_call 116; (with_reducible refine (spec_cdReg.calls a0_2 false _ A6.out).mono ?_); rintro e w' ⟨rfl, ⟨nd, rfl⟩⟩))
   go_ret
   exact ⟨by first | rfl | (simp [errW_none, errW_some] <;> rfl) | (simp [*, errW_none, errW_some] <;> rfl), by repeat (first | (with_reducible first | exact HB.out | apply zba | apply zbn | apply zbd | refine below_set ?_ GE101.out) | exact HB.out)⟩
 subst c7
 replace H : ((spec_cdReg.f a0_3).bind fun t109 => (if t109 = true then ((spec_l1In.f a0_4 t105 t106).bind fun t110 => (if t110 = true then (if t103 = true then (if t104 = true then (some true) else (some (a0_3 == 0))) else (if a0_2 = 0 then (if t104 = true then (some true) else (some (a0_3 == 0))) else (some false))) else (some false))) else (some false))) = some r := by rw [if_pos rfl] at H; exact H
 replace H := zob H
 obtain ⟨t109, A80, H⟩ := H
 replace H : (if t109 = true then ((spec_l1In.f a0_4 t105 t106).bind fun t110 => (if t110 = true then (if t103 = true then (if t104 = true then (some true) else (some (a0_3 == 0))) else (if a0_2 = 0 then (if t104 = true then (some true) else (some (a0_3 == 0))) else (some false))) else (some false))) else (some false)) = some r := H
 have A8 := zA A80
 clear A80
 by_cases c9 : t109 = true
 rotate_left
 · replace c9 := zbf c9
   subst c9
   replace H : (some false) = some r := by rw [if_neg (show ¬ (false = true) by decide)] at H; exact H
   obtain rfl := zsi H
   go_enter Try.func102, Try.ntmps102
   go_wp2_with (first | ((with_reducible refine gate_dst (N := 1) rfl ?_); refine box_event ?hg (N := 1) ?hd (cs := #[.string a0_0, .int .i64 a0_1, .int .i64 a0_2, .int .i64 a0_3, .int .i64 a0_4]) (t := 57) ?hr ?_; (case hd => rfl); (case hg => rfl); (case hr => go_simp <;> rfl); intro gb101 hg w28 hbox hb; have zs := zpair (by repeat (first | (with_reducible first | exact HB.out | apply zba | apply zbn | apply zbd) | exact HB.out)) hb; have n0_ := zA (zs.1); have n1_ := zA (hbox); have n2_ := zA ((by rw [hg]; exact zs.2 : w.heap.size ≤ gb101)); have n3_ := n2_; clear HB; have HB := n0_; have BK101 := n1_; have GW101 := n2_; have GE101 := n3_; clear n0_ n1_ n2_ n3_; clear zs hb hbox hg; obtain ⟨hcz29_0, hcz29_1, hcz29_2, hcz29_3, hcz29_4⟩ := zc5 w28 (.string a0_0) (.int .i64 a0_1) (.int .i64 a0_2) (.int .i64 a0_3) (.int .i64 a0_4) BK101.out; obtain ⟨hfz29_0, hfz29_1, hfz29_2, hfz29_3, hfz29_4⟩ := zf5 BK101.out) | ((with_reducible refine gate_callee (f := 115) rfl ?_); refine goesL_ (some 11) rfl rfl Try.func115 (by kernel_rfl) rfl #[.string a0_0] rfl (by (try simp only [List.map_toArray, List.map_cons, List.map_nil]); first | done | rfl | (simp only [List.length_drop, List.length_take]; rfl)) ?_; (with_reducible refine (spec_cdShape.calls k a0_0 true t103 t104 t105 t106 _ A2.out).mono ?_); rintro e w' ⟨rfl, ⟨nd, rfl⟩⟩; refine ⟨_, rfl, ?_⟩) | (go_at_call 116; (with_reducible refine (spec_cdReg.calls a0_1 true _ A4.out).mono ?_); rintro e w' ⟨rfl, ⟨nd, rfl⟩⟩) | (go_at_call 116; (with_reducible refine (spec_cdReg.calls a0_2 true _ A6.out).mono ?_); rintro e w' ⟨rfl, ⟨nd, rfl⟩⟩) | (go_at_call 116; (with_reducible refine (spec_cdReg.calls a0_3 false _ A8.out).mono ?_); rintro e w' ⟨rfl, ⟨nd, rfl⟩⟩))
   go_ret
   exact ⟨by first | rfl | (simp [errW_none, errW_some] <;> rfl) | (simp [*, errW_none, errW_some] <;> rfl), by repeat (first | (with_reducible first | exact HB.out | apply zba | apply zbn | apply zbd | refine below_set ?_ GE101.out) | exact HB.out)⟩
 subst c9
 replace H : ((spec_l1In.f a0_4 t105 t106).bind fun t110 => (if t110 = true then (if t103 = true then (if t104 = true then (some true) else (some (a0_3 == 0))) else (if a0_2 = 0 then (if t104 = true then (some true) else (some (a0_3 == 0))) else (some false))) else (some false))) = some r := by rw [if_pos rfl] at H; exact H
 replace H := zob H
 obtain ⟨t110, A100, H⟩ := H
 replace H : (if t110 = true then (if t103 = true then (if t104 = true then (some true) else (some (a0_3 == 0))) else (if a0_2 = 0 then (if t104 = true then (some true) else (some (a0_3 == 0))) else (some false))) else (some false)) = some r := H
 have A10 := zA A100
 clear A100
 by_cases c11 : t110 = true
 rotate_left
 · replace c11 := zbf c11
   subst c11
   replace H : (some false) = some r := by rw [if_neg (show ¬ (false = true) by decide)] at H; exact H
   obtain rfl := zsi H
   go_enter Try.func102, Try.ntmps102
   go_wp2_with (first | ((with_reducible refine gate_dst (N := 1) rfl ?_); refine box_event ?hg (N := 1) ?hd (cs := #[.string a0_0, .int .i64 a0_1, .int .i64 a0_2, .int .i64 a0_3, .int .i64 a0_4]) (t := 57) ?hr ?_; (case hd => rfl); (case hg => rfl); (case hr => go_simp <;> rfl); intro gb101 hg w26 hbox hb; have zs := zpair (by repeat (first | (with_reducible first | exact HB.out | apply zba | apply zbn | apply zbd) | exact HB.out)) hb; have n0_ := zA (zs.1); have n1_ := zA (hbox); have n2_ := zA ((by rw [hg]; exact zs.2 : w.heap.size ≤ gb101)); have n3_ := n2_; clear HB; have HB := n0_; have BK101 := n1_; have GW101 := n2_; have GE101 := n3_; clear n0_ n1_ n2_ n3_; clear zs hb hbox hg; obtain ⟨hcz27_0, hcz27_1, hcz27_2, hcz27_3, hcz27_4⟩ := zc5 w26 (.string a0_0) (.int .i64 a0_1) (.int .i64 a0_2) (.int .i64 a0_3) (.int .i64 a0_4) BK101.out; obtain ⟨hfz27_0, hfz27_1, hfz27_2, hfz27_3, hfz27_4⟩ := zf5 BK101.out) | ((with_reducible refine gate_callee (f := 115) rfl ?_); refine goesL_ (some 11) rfl rfl Try.func115 (by kernel_rfl) rfl #[.string a0_0] rfl (by (try simp only [List.map_toArray, List.map_cons, List.map_nil]); first | done | rfl | (simp only [List.length_drop, List.length_take]; rfl)) ?_; (with_reducible refine (spec_cdShape.calls k a0_0 true t103 t104 t105 t106 _ A2.out).mono ?_); rintro e w' ⟨rfl, ⟨nd, rfl⟩⟩; refine ⟨_, rfl, ?_⟩) | (go_at_call 116; (with_reducible refine (spec_cdReg.calls a0_1 true _ A4.out).mono ?_); rintro e w' ⟨rfl, ⟨nd, rfl⟩⟩) | (go_at_call 116; (with_reducible refine (spec_cdReg.calls a0_2 true _ A6.out).mono ?_); rintro e w' ⟨rfl, ⟨nd, rfl⟩⟩) | (go_at_call 116; (with_reducible refine (spec_cdReg.calls a0_3 true _ A8.out).mono ?_); rintro e w' ⟨rfl, ⟨nd, rfl⟩⟩) | (go_at_call 70; (with_reducible refine (spec_l1In.calls a0_4 t105 t106 false _ A10.out).mono ?_); rintro e w' ⟨rfl, ⟨nd, rfl⟩⟩))
   go_ret
   exact ⟨by first | rfl | (simp [errW_none, errW_some] <;> rfl) | (simp [*, errW_none, errW_some] <;> rfl), by repeat (first | (with_reducible first | exact HB.out | apply zba | apply zbn | apply zbd | refine below_set ?_ GE101.out) | exact HB.out)⟩
 subst c11
 replace H : (if t103 = true then (if t104 = true then (some true) else (some (a0_3 == 0))) else (if a0_2 = 0 then (if t104 = true then (some true) else (some (a0_3 == 0))) else (some false))) = some r := by rw [if_pos rfl] at H; exact H
 by_cases c12 : t103 = true
 · subst c12
   replace H : (if t104 = true then (some true) else (some (a0_3 == 0))) = some r := by rw [if_pos rfl] at H; exact H
   by_cases c13 : t104 = true
   · subst c13
     replace H : (some true) = some r := by rw [if_pos rfl] at H; exact H
     obtain rfl := zsi H
     go_enter Try.func102, Try.ntmps102
     go_wp2_with (first | ((with_reducible refine gate_dst (N := 1) rfl ?_); refine box_event ?hg (N := 1) ?hd (cs := #[.string a0_0, .int .i64 a0_1, .int .i64 a0_2, .int .i64 a0_3, .int .i64 a0_4]) (t := 57) ?hr ?_; (case hd => rfl); (case hg => rfl); (case hr => go_simp <;> rfl); intro gb101 hg w14 hbox hb; have zs := zpair (by repeat (first | (with_reducible first | exact HB.out | apply zba | apply zbn | apply zbd) | exact HB.out)) hb; have n0_ := zA (zs.1); have n1_ := zA (hbox); have n2_ := zA ((by rw [hg]; exact zs.2 : w.heap.size ≤ gb101)); have n3_ := n2_; clear HB; have HB := n0_; have BK101 := n1_; have GW101 := n2_; have GE101 := n3_; clear n0_ n1_ n2_ n3_; clear zs hb hbox hg; obtain ⟨hcz15_0, hcz15_1, hcz15_2, hcz15_3, hcz15_4⟩ := zc5 w14 (.string a0_0) (.int .i64 a0_1) (.int .i64 a0_2) (.int .i64 a0_3) (.int .i64 a0_4) BK101.out; obtain ⟨hfz15_0, hfz15_1, hfz15_2, hfz15_3, hfz15_4⟩ := zf5 BK101.out) | ((with_reducible refine gate_callee (f := 115) rfl ?_); refine goesL_ (some 11) rfl rfl Try.func115 (by kernel_rfl) rfl #[.string a0_0] rfl (by (try simp only [List.map_toArray, List.map_cons, List.map_nil]); first | done | rfl | (simp only [List.length_drop, List.length_take]; rfl)) ?_; (with_reducible refine (spec_cdShape.calls k a0_0 true true true t105 t106 _ A2.out).mono ?_); rintro e w' ⟨rfl, ⟨nd, rfl⟩⟩; refine ⟨_, rfl, ?_⟩) | (go_at_call 116; (with_reducible refine (spec_cdReg.calls a0_1 true _ A4.out).mono ?_); rintro e w' ⟨rfl, ⟨nd, rfl⟩⟩) | (go_at_call 116; (with_reducible refine (spec_cdReg.calls a0_2 true _ A6.out).mono ?_); rintro e w' ⟨rfl, ⟨nd, rfl⟩⟩) | (go_at_call 116; (with_reducible refine (spec_cdReg.calls a0_3 true _ A8.out).mono ?_); rintro e w' ⟨rfl, ⟨nd, rfl⟩⟩) | (go_at_call 70; (with_reducible refine (spec_l1In.calls a0_4 t105 t106 true _ A10.out).mono ?_); rintro e w' ⟨rfl, ⟨nd, rfl⟩⟩))
     go_ret
     exact ⟨by first | rfl | (simp [errW_none, errW_some] <;> rfl) | (simp [*, errW_none, errW_some] <;> rfl), by repeat (first | (with_reducible first | exact HB.out | apply zba | apply zbn | apply zbd | refine below_set ?_ GE101.out) | exact HB.out)⟩
   replace c13 := zbf c13
   subst c13
   replace H : (some (a0_3 == 0)) = some r := by rw [if_neg (show ¬ (false = true) by decide)] at H; exact H
   obtain rfl := zsi H
   go_enter Try.func102, Try.ntmps102
   go_wp2_with (first | ((with_reducible refine gate_dst (N := 1) rfl ?_); refine box_event ?hg (N := 1) ?hd (cs := #[.string a0_0, .int .i64 a0_1, .int .i64 a0_2, .int .i64 a0_3, .int .i64 a0_4]) (t := 57) ?hr ?_; (case hd => rfl); (case hg => rfl); (case hr => go_simp <;> rfl); intro gb101 hg w16 hbox hb; have zs := zpair (by repeat (first | (with_reducible first | exact HB.out | apply zba | apply zbn | apply zbd) | exact HB.out)) hb; have n0_ := zA (zs.1); have n1_ := zA (hbox); have n2_ := zA ((by rw [hg]; exact zs.2 : w.heap.size ≤ gb101)); have n3_ := n2_; clear HB; have HB := n0_; have BK101 := n1_; have GW101 := n2_; have GE101 := n3_; clear n0_ n1_ n2_ n3_; clear zs hb hbox hg; obtain ⟨hcz17_0, hcz17_1, hcz17_2, hcz17_3, hcz17_4⟩ := zc5 w16 (.string a0_0) (.int .i64 a0_1) (.int .i64 a0_2) (.int .i64 a0_3) (.int .i64 a0_4) BK101.out; obtain ⟨hfz17_0, hfz17_1, hfz17_2, hfz17_3, hfz17_4⟩ := zf5 BK101.out) | ((with_reducible refine gate_callee (f := 115) rfl ?_); refine goesL_ (some 11) rfl rfl Try.func115 (by kernel_rfl) rfl #[.string a0_0] rfl (by (try simp only [List.map_toArray, List.map_cons, List.map_nil]); first | done | rfl | (simp only [List.length_drop, List.length_take]; rfl)) ?_; (with_reducible refine (spec_cdShape.calls k a0_0 true true false t105 t106 _ A2.out).mono ?_); rintro e w' ⟨rfl, ⟨nd, rfl⟩⟩; refine ⟨_, rfl, ?_⟩) | (go_at_call 116; (with_reducible refine (spec_cdReg.calls a0_1 true _ A4.out).mono ?_); rintro e w' ⟨rfl, ⟨nd, rfl⟩⟩) | (go_at_call 116; (with_reducible refine (spec_cdReg.calls a0_2 true _ A6.out).mono ?_); rintro e w' ⟨rfl, ⟨nd, rfl⟩⟩) | (go_at_call 116; (with_reducible refine (spec_cdReg.calls a0_3 true _ A8.out).mono ?_); rintro e w' ⟨rfl, ⟨nd, rfl⟩⟩) | (go_at_call 70; (with_reducible refine (spec_l1In.calls a0_4 t105 t106 true _ A10.out).mono ?_); rintro e w' ⟨rfl, ⟨nd, rfl⟩⟩))
   go_ret
   exact ⟨by first | rfl | (simp [errW_none, errW_some] <;> rfl) | (simp [*, errW_none, errW_some] <;> rfl), by repeat (first | (with_reducible first | exact HB.out | apply zba | apply zbn | apply zbd | refine below_set ?_ GE101.out) | exact HB.out)⟩
 replace c12 := zbf c12
 subst c12
 replace H : (if a0_2 = 0 then (if t104 = true then (some true) else (some (a0_3 == 0))) else (some false)) = some r := by rw [if_neg (show ¬ (false = true) by decide)] at H; exact H
 by_cases c18 : a0_2 = 0
 rotate_left
 · rw [if_neg c18] at H
   have c18b0 : (a0_2 == 0) = false := beq_eq_false_iff_ne.mpr c18
   have c18b1 : (a0_2 != 0) = true := bne_iff_ne.mpr c18
   obtain rfl := zsi H
   go_enter Try.func102, Try.ntmps102
   go_wp2_with (first | ((with_reducible refine gate_dst (N := 1) rfl ?_); refine box_event ?hg (N := 1) ?hd (cs := #[.string a0_0, .int .i64 a0_1, .int .i64 a0_2, .int .i64 a0_3, .int .i64 a0_4]) (t := 57) ?hr ?_; (case hd => rfl); (case hg => rfl); (case hr => go_simp <;> rfl); intro gb101 hg w24 hbox hb; have zs := zpair (by repeat (first | (with_reducible first | exact HB.out | apply zba | apply zbn | apply zbd) | exact HB.out)) hb; have n0_ := zA (zs.1); have n1_ := zA (hbox); have n2_ := zA ((by rw [hg]; exact zs.2 : w.heap.size ≤ gb101)); have n3_ := n2_; clear HB; have HB := n0_; have BK101 := n1_; have GW101 := n2_; have GE101 := n3_; clear n0_ n1_ n2_ n3_; clear zs hb hbox hg; obtain ⟨hcz25_0, hcz25_1, hcz25_2, hcz25_3, hcz25_4⟩ := zc5 w24 (.string a0_0) (.int .i64 a0_1) (.int .i64 a0_2) (.int .i64 a0_3) (.int .i64 a0_4) BK101.out; obtain ⟨hfz25_0, hfz25_1, hfz25_2, hfz25_3, hfz25_4⟩ := zf5 BK101.out) | ((with_reducible refine gate_callee (f := 115) rfl ?_); refine goesL_ (some 11) rfl rfl Try.func115 (by kernel_rfl) rfl #[.string a0_0] rfl (by (try simp only [List.map_toArray, List.map_cons, List.map_nil]); first | done | rfl | (simp only [List.length_drop, List.length_take]; rfl)) ?_; (with_reducible refine (spec_cdShape.calls k a0_0 true false t104 t105 t106 _ A2.out).mono ?_); rintro e w' ⟨rfl, ⟨nd, rfl⟩⟩; refine ⟨_, rfl, ?_⟩) | (go_at_call 116; (with_reducible refine (spec_cdReg.calls a0_1 true _ A4.out).mono ?_); rintro e w' ⟨rfl, ⟨nd, rfl⟩⟩) | (go_at_call 116; (with_reducible refine (spec_cdReg.calls a0_2 true _ A6.out).mono ?_); rintro e w' ⟨rfl, ⟨nd, rfl⟩⟩) | (go_at_call 116; (with_reducible refine (spec_cdReg.calls a0_3 true _ A8.out).mono ?_); rintro e w' ⟨rfl, ⟨nd, rfl⟩⟩) | (go_at_call 70; (with_reducible refine (spec_l1In.calls a0_4 t105 t106 true _ A10.out).mono ?_); rintro e w' ⟨rfl, ⟨nd, rfl⟩⟩))
   go_ret
   exact ⟨by first | rfl | (simp [errW_none, errW_some] <;> rfl) | (simp [*, errW_none, errW_some] <;> rfl), by repeat (first | (with_reducible first | exact HB.out | apply zba | apply zbn | apply zbd | refine below_set ?_ GE101.out) | exact HB.out)⟩
 rw [if_pos c18] at H
 have c18b0 : (a0_2 == 0) = true := beq_iff_eq.mpr c18
 have c18b1 : (a0_2 != 0) = false := bne_eq_false_iff_eq.mpr c18
 clear c18
 by_cases c19 : t104 = true
 · subst c19
   replace H : (some true) = some r := by rw [if_pos rfl] at H; exact H
   obtain rfl := zsi H
   go_enter Try.func102, Try.ntmps102
   go_wp2_with (first | ((with_reducible refine gate_dst (N := 1) rfl ?_); refine box_event ?hg (N := 1) ?hd (cs := #[.string a0_0, .int .i64 a0_1, .int .i64 a0_2, .int .i64 a0_3, .int .i64 a0_4]) (t := 57) ?hr ?_; (case hd => rfl); (case hg => rfl); (case hr => go_simp <;> rfl); intro gb101 hg w20 hbox hb; have zs := zpair (by repeat (first | (with_reducible first | exact HB.out | apply zba | apply zbn | apply zbd) | exact HB.out)) hb; have n0_ := zA (zs.1); have n1_ := zA (hbox); have n2_ := zA ((by rw [hg]; exact zs.2 : w.heap.size ≤ gb101)); have n3_ := n2_; clear HB; have HB := n0_; have BK101 := n1_; have GW101 := n2_; have GE101 := n3_; clear n0_ n1_ n2_ n3_; clear zs hb hbox hg; obtain ⟨hcz21_0, hcz21_1, hcz21_2, hcz21_3, hcz21_4⟩ := zc5 w20 (.string a0_0) (.int .i64 a0_1) (.int .i64 a0_2) (.int .i64 a0_3) (.int .i64 a0_4) BK101.out; obtain ⟨hfz21_0, hfz21_1, hfz21_2, hfz21_3, hfz21_4⟩ := zf5 BK101.out) | ((with_reducible refine gate_callee (f := 115) rfl ?_); refine goesL_ (some 11) rfl rfl Try.func115 (by kernel_rfl) rfl #[.string a0_0] rfl (by (try simp only [List.map_toArray, List.map_cons, List.map_nil]); first | done | rfl | (simp only [List.length_drop, List.length_take]; rfl)) ?_; (with_reducible refine (spec_cdShape.calls k a0_0 true false true t105 t106 _ A2.out).mono ?_); rintro e w' ⟨rfl, ⟨nd, rfl⟩⟩; refine ⟨_, rfl, ?_⟩) | (go_at_call 116; (with_reducible refine (spec_cdReg.calls a0_1 true _ A4.out).mono ?_); rintro e w' ⟨rfl, ⟨nd, rfl⟩⟩) | (go_at_call 116; (with_reducible refine (spec_cdReg.calls a0_2 true _ A6.out).mono ?_); rintro e w' ⟨rfl, ⟨nd, rfl⟩⟩) | (go_at_call 116; (with_reducible refine (spec_cdReg.calls a0_3 true _ A8.out).mono ?_); rintro e w' ⟨rfl, ⟨nd, rfl⟩⟩) | (go_at_call 70; (with_reducible refine (spec_l1In.calls a0_4 t105 t106 true _ A10.out).mono ?_); rintro e w' ⟨rfl, ⟨nd, rfl⟩⟩))
   go_ret
   exact ⟨by first | rfl | (simp [errW_none, errW_some] <;> rfl) | (simp [*, errW_none, errW_some] <;> rfl), by repeat (first | (with_reducible first | exact HB.out | apply zba | apply zbn | apply zbd | refine below_set ?_ GE101.out) | exact HB.out)⟩
 replace c19 := zbf c19
 subst c19
 replace H : (some (a0_3 == 0)) = some r := by rw [if_neg (show ¬ (false = true) by decide)] at H; exact H
 obtain rfl := zsi H
 go_enter Try.func102, Try.ntmps102
 go_wp2_with (first | ((with_reducible refine gate_dst (N := 1) rfl ?_); refine box_event ?hg (N := 1) ?hd (cs := #[.string a0_0, .int .i64 a0_1, .int .i64 a0_2, .int .i64 a0_3, .int .i64 a0_4]) (t := 57) ?hr ?_; (case hd => rfl); (case hg => rfl); (case hr => go_simp <;> rfl); intro gb101 hg w22 hbox hb; have zs := zpair (by repeat (first | (with_reducible first | exact HB.out | apply zba | apply zbn | apply zbd) | exact HB.out)) hb; have n0_ := zA (zs.1); have n1_ := zA (hbox); have n2_ := zA ((by rw [hg]; exact zs.2 : w.heap.size ≤ gb101)); have n3_ := n2_; clear HB; have HB := n0_; have BK101 := n1_; have GW101 := n2_; have GE101 := n3_; clear n0_ n1_ n2_ n3_; clear zs hb hbox hg; obtain ⟨hcz23_0, hcz23_1, hcz23_2, hcz23_3, hcz23_4⟩ := zc5 w22 (.string a0_0) (.int .i64 a0_1) (.int .i64 a0_2) (.int .i64 a0_3) (.int .i64 a0_4) BK101.out; obtain ⟨hfz23_0, hfz23_1, hfz23_2, hfz23_3, hfz23_4⟩ := zf5 BK101.out) | ((with_reducible refine gate_callee (f := 115) rfl ?_); refine goesL_ (some 11) rfl rfl Try.func115 (by kernel_rfl) rfl #[.string a0_0] rfl (by (try simp only [List.map_toArray, List.map_cons, List.map_nil]); first | done | rfl | (simp only [List.length_drop, List.length_take]; rfl)) ?_; (with_reducible refine (spec_cdShape.calls k a0_0 true false false t105 t106 _ A2.out).mono ?_); rintro e w' ⟨rfl, ⟨nd, rfl⟩⟩; refine ⟨_, rfl, ?_⟩) | (go_at_call 116; (with_reducible refine (spec_cdReg.calls a0_1 true _ A4.out).mono ?_); rintro e w' ⟨rfl, ⟨nd, rfl⟩⟩) | (go_at_call 116; (with_reducible refine (spec_cdReg.calls a0_2 true _ A6.out).mono ?_); rintro e w' ⟨rfl, ⟨nd, rfl⟩⟩) | (go_at_call 116; (with_reducible refine (spec_cdReg.calls a0_3 true _ A8.out).mono ?_); rintro e w' ⟨rfl, ⟨nd, rfl⟩⟩) | (go_at_call 70; (with_reducible refine (spec_l1In.calls a0_4 t105 t106 true _ A10.out).mono ?_); rintro e w' ⟨rfl, ⟨nd, rfl⟩⟩))
 go_ret
 exact ⟨by first | rfl | (simp [errW_none, errW_some] <;> rfl) | (simp [*, errW_none, errW_some] <;> rfl), by repeat (first | (with_reducible first | exact HB.out | apply zba | apply zbn | apply zbd | refine below_set ?_ GE101.out) | exact HB.out)⟩
def spec_cdCode.l0 : Nat → List (S57) → Int → Int → Option (Bool)
 | 0, _, _, _ => none
 | k + 1, x8, x9, x10 => if x10 < x9 then (if 0 ≤ x10 then (if x10 < (x8.length : Int) then ((spec_cdGood.f k ((rd_T57 x8 x10).f0) ((rd_T57 x8 x10).f1) ((rd_T57 x8 x10).f2) ((rd_T57 x8 x10).f3) ((rd_T57 x8 x10).f4)).bind fun t103 => (if t103 = true then (spec_cdCode.l0 k x8 x9 (wrap64 (x10 + 1))) else (some false))) else (none)) else (none)) else (some true)
def spec_cdCode.f (k : Nat) (l0 : List (S57)) : Option (Bool) := if (l0.length : Int) > 40 then (some false) else (spec_cdCode.l0 k l0 (l0.length : Int) 0)
theorem spec_cdCode.mono_l : ∀ k, (∀ y0 y1 y2, LeO (spec_cdCode.l0 k y0 y1 y2) (spec_cdCode.l0 (k + 1) y0 y1 y2))
 | 0 => fun _ _ _ r h => by simp [spec_cdCode.l0] at h
 | k + 1 => by
   have ih0 := spec_cdCode.mono_l k
   · intro y0 y1 y2
     unfold spec_cdCode.l0
     repeat' first
     | (with_reducible first | exact ih0 _ _ _ | exact spec_cdGood.mono _ _ _ _ _ _ | exact LeO.refl _ | exact LeO.none _ | refine LeO.ite ?_ ?_ | refine LeO.bind ?_ (fun _ => ?_))
     | exact LeO.none _
     | refine LeO.ite ?_ ?_
     | refine LeO.bind ?_ (fun _ => ?_)
theorem spec_cdCode.mono : ∀ a0 k, LeO (spec_cdCode.f k a0) (spec_cdCode.f (k + 1) a0) := by
 intro a0 k
 have ih0 := spec_cdCode.mono_l k
 unfold spec_cdCode.f
 repeat' first
     | (with_reducible first | exact ih0 _ _ _ | exact spec_cdGood.mono _ _ _ _ _ _ | exact LeO.refl _ | exact LeO.none _ | refine LeO.ite ?_ ?_ | refine LeO.bind ?_ (fun _ => ?_))
     | exact LeO.none _
     | refine LeO.ite ?_ ?_
     | refine LeO.bind ?_ (fun _ => ?_)
set_option maxHeartbeats 8000000 in
set_option maxRecDepth 100000 in
theorem spec_cdCode.calls (k : Nat) (A0 : Option Addr) (c0 : Nat) (l0 : List (S57)) (r : Bool) (w : World) (hr0 : Kd.C k57 w A0 l0.length l0) (hc0 : l0.length ≤ c0) (h : spec_cdCode.f k l0 = some r) :
   Calls Try.prog 83 #[.slice A0 l0.length c0] w fun e w' => e = .returned (.bool r) ∧ Below w.heap.size w w' := by
 have hu57 := Try.underlying57
 have HR0 := zA hr0
 have HC0 := zA hc0
 clear hr0 hc0
 have HB := zA (Below.refl w.heap.size w)
 have H : (if (l0.length : Int) > 40 then (some false) else (spec_cdCode.l0 k l0 (l0.length : Int) 0)) = some r := h
 clear h
 by_cases c2 : (l0.length : Int) > 40
 · rw [if_pos c2] at H
   have c2b0 : decide (40 < (l0.length : Int)) = true := zdt c2
   have c2b1 : decide (40 < l0.length) = true := zdt (by omega)
   clear c2
   obtain rfl := zsi H
   go_enter Try.func83, Try.ntmps83
   go_wp2
   go_ret
   exact ⟨by first | rfl | (simp [errW_none, errW_some] <;> rfl) | (simp [*, errW_none, errW_some] <;> rfl), by repeat (first | (with_reducible first | exact HB.out | apply zba | apply zbn | apply zbd) | exact HB.out)⟩
 rw [if_neg c2] at H
 have c2b0 : decide (40 < (l0.length : Int)) = false := zdf c2
 have c2b1 : decide (40 < l0.length) = false := zdf (by omega)
 clear c2
 have H' := zA H
 clear H
 go_enter Try.func83, Try.ntmps83
 go_wp2
 go_loopg [10] k (fun kq v10 w' => ∃ (x10_1 : Int), v10 = .int .i64 x10_1 ∧ Aside0 (spec_cdCode.l0 kq l0 (l0.length : Int) x10_1 = some r) ∧ Aside0 (kq ≤ k) ∧ Aside0 (Below w.heap.size w w'))
 case atStart => exact ⟨(0), (by first | rfl | (simp; done) | (simp [*]; done)), H', ⟨zlr _⟩, ⟨by repeat (first | (with_reducible first | exact HB.out | apply zba | apply zbn | apply zbd) | exact HB.out)⟩⟩
 clear H'
 try clear c2
 try clear c2b0
 try clear c2b1
 try clear p2
 obtain ⟨x10_1, rfl, HA, HK1, HB⟩ := hrel
 cases gk with
 | zero => exact absurd HA.out (by simp [spec_cdCode.l0])
 | succ k1 =>
 have H := HA.out
 clear HA
 simp only [spec_cdCode.l0] at H
 by_cases c3 : x10_1 < (l0.length : Int)
 rotate_left
 · rw [if_neg c3] at H
   have c3b0 : decide (x10_1 < (l0.length : Int)) = false := zdf c3
   clear c3
   obtain rfl := zsi H
   go_wp2
   go_ret
   exact ⟨by first | rfl | (simp [errW_none, errW_some] <;> rfl) | (simp [*, errW_none, errW_some] <;> rfl), by repeat (first | (with_reducible first | exact HB.out | apply zba | apply zbn | apply zbd) | exact HB.out)⟩
 rw [if_pos c3] at H
 have c3b0 : decide (x10_1 < (l0.length : Int)) = true := zdt c3
 clear c3
 by_cases c4 : 0 ≤ x10_1
 rotate_left
 · rw [if_neg c4] at H
   exact absurd H (by simp)
 rw [if_pos c4] at H
 have c4b0 : decide (0 ≤ x10_1) = true := zdt c4
 clear c4
 by_cases c5 : x10_1 < (l0.length : Int)
 rotate_left
 · rw [if_neg c5] at H
   exact absurd H (by simp)
 rw [if_pos c5] at H
 have c5b0 : decide (x10_1 < (l0.length : Int)) = true := zdt c5
 clear c5
 replace H := zob H
 obtain ⟨t103, A60, H⟩ := H
 replace H : (if t103 = true then (spec_cdCode.l0 k1 l0 (l0.length : Int) (wrap64 (x10_1 + 1))) else (some false)) = some r := H
 have A6 := zA A60
 clear A60
 by_cases c7 : t103 = true
 rotate_left
 · replace c7 := zbf c7
   subst c7
   replace H : (some false) = some r := by rw [if_neg (show ¬ (false = true) by decide)] at H; exact H
   obtain rfl := zsi H
   have p101 : 0 ≤ (x10_1 : Int) := zde (by assumption)
   have q101 : x10_1 < (l0.length : Int) := zde (by assumption)
   obtain ⟨ad101, e101, hx101_0, hx101_1, hx101_2, hx101_3, hx101_4⟩ := at_T57 HR0.out x10_1 p101 q101
   cases e101
   replace hx101_0 := zkep HB.out hx101_0
   replace hx101_1 := zkep HB.out hx101_1
   replace hx101_2 := zkep HB.out hx101_2
   replace hx101_3 := zkep HB.out hx101_3
   replace hx101_4 := zkep HB.out hx101_4
   replace p101 := eq_true p101
   replace q101 := eq_true q101
   go_wp2_with (first | ((with_reducible refine gate_dst (N := 4) rfl ?_); refine box_event ?hg (N := 4) ?hd (cs := #[.string (⟨#[]⟩ : ByteArray), .int .i64 0, .int .i64 0, .int .i64 0, .int .i64 0]) (t := 57) ?hr ?_; (case hd => rfl); (case hg => rfl); (case hr => go_simp <;> rfl); intro gb102 hg w11 hbox hb; have zs := zpair (by repeat (first | (with_reducible first | exact HB.out | apply zba | apply zbn | apply zbd) | exact HB.out)) hb; have n0_ := zA (zs.1); have n1_ := zA (hbox); have n2_ := zA ((by rw [hg]; exact zs.2 : w.heap.size ≤ gb102)); have n3_ := n2_; clear HB; have HB := n0_; have BK102 := n1_; have GW102 := n2_; have GE102 := n3_; clear n0_ n1_ n2_ n3_; clear zs hb hbox hg; obtain ⟨hcz12_0, hcz12_1, hcz12_2, hcz12_3, hcz12_4⟩ := zc5 w11 (.string (⟨#[]⟩ : ByteArray)) (.int .i64 0) (.int .i64 0) (.int .i64 0) (.int .i64 0) BK102.out; obtain ⟨hfz12_0, hfz12_1, hfz12_2, hfz12_3, hfz12_4⟩ := zf5 BK102.out) | ((with_reducible refine gate_callee (f := 102) rfl ?_); refine goesL_ (some 15) rfl rfl Try.func102 (by kernel_rfl) rfl #[.agg #[.string ((rd_T57 l0 x10_1).f0), .int .i64 ((rd_T57 l0 x10_1).f1), .int .i64 ((rd_T57 l0 x10_1).f2), .int .i64 ((rd_T57 l0 x10_1).f3), .int .i64 ((rd_T57 l0 x10_1).f4)]] rfl (by (try simp only [List.map_toArray, List.map_cons, List.map_nil]); first | done | rfl | (simp only [List.length_drop, List.length_take]; rfl)) ?_; (with_reducible refine (spec_cdGood.calls k1 ((rd_T57 l0 x10_1).f0) ((rd_T57 l0 x10_1).f1) ((rd_T57 l0 x10_1).f2) ((rd_T57 l0 x10_1).f3) ((rd_T57 l0 x10_1).f4) false _ A6.out).mono ?_); rintro e w13 ⟨rfl, hb⟩; refine ⟨_, rfl, ?_⟩; have n0_ := zA (blk_below (g := gb102) (o := .cells #[.string ((rd_T57 l0 x10_1).f0), .int .i64 ((rd_T57 l0 x10_1).f1), .int .i64 ((rd_T57 l0 x10_1).f2), .int .i64 ((rd_T57 l0 x10_1).f3), .int .i64 ((rd_T57 l0 x10_1).f4)] 57 (0, 0)) (by (with_reducible repeat (first | refine zkn ?_ _ | refine zkd ?_ | refine zka ?_ _)); refine blk_put (cs := #[.string ((rd_T57 l0 x10_1).f0), .int .i64 ((rd_T57 l0 x10_1).f1), .int .i64 ((rd_T57 l0 x10_1).f2), .int .i64 ((rd_T57 l0 x10_1).f3), .int .i64 0]) ?_ 4 _ rfl; (with_reducible repeat (first | refine zkn ?_ _ | refine zkd ?_ | refine zka ?_ _)); refine blk_put (cs := #[.string ((rd_T57 l0 x10_1).f0), .int .i64 ((rd_T57 l0 x10_1).f1), .int .i64 ((rd_T57 l0 x10_1).f2), .int .i64 0, .int .i64 0]) ?_ 3 _ rfl; (with_reducible repeat (first | refine zkn ?_ _ | refine zkd ?_ | refine zka ?_ _)); refine blk_put (cs := #[.string ((rd_T57 l0 x10_1).f0), .int .i64 ((rd_T57 l0 x10_1).f1), .int .i64 0, .int .i64 0, .int .i64 0]) ?_ 2 _ rfl; (with_reducible repeat (first | refine zkn ?_ _ | refine zkd ?_ | refine zka ?_ _)); refine blk_put (cs := #[.string ((rd_T57 l0 x10_1).f0), .int .i64 0, .int .i64 0, .int .i64 0, .int .i64 0]) ?_ 1 _ rfl; (with_reducible repeat (first | refine zkn ?_ _ | refine zkd ?_ | refine zka ?_ _)); refine blk_put (cs := #[.string (⟨#[]⟩ : ByteArray), .int .i64 0, .int .i64 0, .int .i64 0, .int .i64 0]) ?_ 0 _ rfl; (with_reducible repeat (first | refine zkn ?_ _ | refine zkd ?_ | refine zka ?_ _)); exact BK102.out) hb); have n1_ := zA (below_step (by repeat (first | (with_reducible first | exact HB.out | apply zba | apply zbn | apply zbd | refine below_set ?_ GE102.out) | exact HB.out)) hb); clear BK102 HB; have BK102 := n0_; have HB := n1_; clear n0_ n1_; (try clear hb)))
   go_ret
   exact ⟨by first | rfl | (simp [errW_none, errW_some] <;> rfl) | (simp [*, errW_none, errW_some] <;> rfl), by repeat (first | (with_reducible first | exact HB.out | apply zba | apply zbn | apply zbd | refine below_set ?_ GE102.out) | exact HB.out)⟩
 subst c7
 replace H : (spec_cdCode.l0 k1 l0 (l0.length : Int) (wrap64 (x10_1 + 1))) = some r := by rw [if_pos rfl] at H; exact H
 have H' := zA H
 clear H
 have p101 : 0 ≤ (x10_1 : Int) := zde (by assumption)
 have q101 : x10_1 < (l0.length : Int) := zde (by assumption)
 obtain ⟨ad101, e101, hx101_0, hx101_1, hx101_2, hx101_3, hx101_4⟩ := at_T57 HR0.out x10_1 p101 q101
 cases e101
 replace hx101_0 := zkep HB.out hx101_0
 replace hx101_1 := zkep HB.out hx101_1
 replace hx101_2 := zkep HB.out hx101_2
 replace hx101_3 := zkep HB.out hx101_3
 replace hx101_4 := zkep HB.out hx101_4
 replace p101 := eq_true p101
 replace q101 := eq_true q101
 go_wp2_with (first | ((with_reducible refine gate_dst (N := 4) rfl ?_); refine box_event ?hg (N := 4) ?hd (cs := #[.string (⟨#[]⟩ : ByteArray), .int .i64 0, .int .i64 0, .int .i64 0, .int .i64 0]) (t := 57) ?hr ?_; (case hd => rfl); (case hg => rfl); (case hr => go_simp <;> rfl); intro gb102 hg w8 hbox hb; have zs := zpair (by repeat (first | (with_reducible first | exact HB.out | apply zba | apply zbn | apply zbd) | exact HB.out)) hb; have n0_ := zA (zs.1); have n1_ := zA (hbox); have n2_ := zA ((by rw [hg]; exact zs.2 : w.heap.size ≤ gb102)); have n3_ := n2_; clear HB; have HB := n0_; have BK102 := n1_; have GW102 := n2_; have GE102 := n3_; clear n0_ n1_ n2_ n3_; clear zs hb hbox hg; obtain ⟨hcz9_0, hcz9_1, hcz9_2, hcz9_3, hcz9_4⟩ := zc5 w8 (.string (⟨#[]⟩ : ByteArray)) (.int .i64 0) (.int .i64 0) (.int .i64 0) (.int .i64 0) BK102.out; obtain ⟨hfz9_0, hfz9_1, hfz9_2, hfz9_3, hfz9_4⟩ := zf5 BK102.out) | ((with_reducible refine gate_callee (f := 102) rfl ?_); refine goesL_ (some 15) rfl rfl Try.func102 (by kernel_rfl) rfl #[.agg #[.string ((rd_T57 l0 x10_1).f0), .int .i64 ((rd_T57 l0 x10_1).f1), .int .i64 ((rd_T57 l0 x10_1).f2), .int .i64 ((rd_T57 l0 x10_1).f3), .int .i64 ((rd_T57 l0 x10_1).f4)]] rfl (by (try simp only [List.map_toArray, List.map_cons, List.map_nil]); first | done | rfl | (simp only [List.length_drop, List.length_take]; rfl)) ?_; (with_reducible refine (spec_cdGood.calls k1 ((rd_T57 l0 x10_1).f0) ((rd_T57 l0 x10_1).f1) ((rd_T57 l0 x10_1).f2) ((rd_T57 l0 x10_1).f3) ((rd_T57 l0 x10_1).f4) true _ A6.out).mono ?_); rintro e w10 ⟨rfl, hb⟩; refine ⟨_, rfl, ?_⟩; have n0_ := zA (blk_below (g := gb102) (o := .cells #[.string ((rd_T57 l0 x10_1).f0), .int .i64 ((rd_T57 l0 x10_1).f1), .int .i64 ((rd_T57 l0 x10_1).f2), .int .i64 ((rd_T57 l0 x10_1).f3), .int .i64 ((rd_T57 l0 x10_1).f4)] 57 (0, 0)) (by (with_reducible repeat (first | refine zkn ?_ _ | refine zkd ?_ | refine zka ?_ _)); refine blk_put (cs := #[.string ((rd_T57 l0 x10_1).f0), .int .i64 ((rd_T57 l0 x10_1).f1), .int .i64 ((rd_T57 l0 x10_1).f2), .int .i64 ((rd_T57 l0 x10_1).f3), .int .i64 0]) ?_ 4 _ rfl; (with_reducible repeat (first | refine zkn ?_ _ | refine zkd ?_ | refine zka ?_ _)); refine blk_put (cs := #[.string ((rd_T57 l0 x10_1).f0), .int .i64 ((rd_T57 l0 x10_1).f1), .int .i64 ((rd_T57 l0 x10_1).f2), .int .i64 0, .int .i64 0]) ?_ 3 _ rfl; (with_reducible repeat (first | refine zkn ?_ _ | refine zkd ?_ | refine zka ?_ _)); refine blk_put (cs := #[.string ((rd_T57 l0 x10_1).f0), .int .i64 ((rd_T57 l0 x10_1).f1), .int .i64 0, .int .i64 0, .int .i64 0]) ?_ 2 _ rfl; (with_reducible repeat (first | refine zkn ?_ _ | refine zkd ?_ | refine zka ?_ _)); refine blk_put (cs := #[.string ((rd_T57 l0 x10_1).f0), .int .i64 0, .int .i64 0, .int .i64 0, .int .i64 0]) ?_ 1 _ rfl; (with_reducible repeat (first | refine zkn ?_ _ | refine zkd ?_ | refine zka ?_ _)); refine blk_put (cs := #[.string (⟨#[]⟩ : ByteArray), .int .i64 0, .int .i64 0, .int .i64 0, .int .i64 0]) ?_ 0 _ rfl; (with_reducible repeat (first | refine zkn ?_ _ | refine zkd ?_ | refine zka ?_ _)); exact BK102.out) hb); have n1_ := zA (below_step (by repeat (first | (with_reducible first | exact HB.out | apply zba | apply zbn | apply zbd | refine below_set ?_ GE102.out) | exact HB.out)) hb); clear BK102 HB; have BK102 := n0_; have HB := n1_; clear n0_ n1_; (try clear hb)))
 go_roundg k1
 case measure => have := HK1.out; omega
 case rel => exact ⟨(wrap64 (x10_1 + 1)), (by first | rfl | (simp; done) | (simp [*]; done)), H', ⟨by have := HK1.out; omega⟩, ⟨by repeat (first | (with_reducible first | exact HB.out | apply zba | apply zbn | apply zbd | refine below_set ?_ GE102.out) | exact HB.out)⟩⟩
def spec_orGood.f (k : Nat) (l0 : List (S57)) : Option (Bool) := if (l0.length : Int) ≤ 20 then ((spec_cdCode.f k l0).bind fun t101 => (some t101)) else (some false)
theorem spec_orGood.mono : ∀ a0 k, LeO (spec_orGood.f k a0) (spec_orGood.f (k + 1) a0) := by
 intro a0 k
 unfold spec_orGood.f
 repeat' first
     | (with_reducible first | exact spec_cdCode.mono _ _ | exact LeO.refl _ | exact LeO.none _ | refine LeO.ite ?_ ?_ | refine LeO.bind ?_ (fun _ => ?_))
     | exact LeO.none _
     | refine LeO.ite ?_ ?_
     | refine LeO.bind ?_ (fun _ => ?_)
set_option maxHeartbeats 8000000 in
set_option maxRecDepth 100000 in
theorem spec_orGood.calls (k : Nat) (A0 : Option Addr) (c0 : Nat) (l0 : List (S57)) (r : Bool) (w : World) (hr0 : Kd.C k57 w A0 l0.length l0) (hc0 : l0.length ≤ c0) (h : spec_orGood.f k l0 = some r) :
   Calls Try.prog 49 #[.slice A0 l0.length c0] w fun e w' => e = .returned (.bool r) ∧ Below w.heap.size w w' := by
 have HR0 := zA hr0
 have HC0 := zA hc0
 clear hr0 hc0
 have HB := zA (Below.refl w.heap.size w)
 have H : (if (l0.length : Int) ≤ 20 then ((spec_cdCode.f k l0).bind fun t101 => (some t101)) else (some false)) = some r := h
 clear h
 by_cases c2 : (l0.length : Int) ≤ 20
 · rw [if_pos c2] at H
   have c2b0 : decide ((l0.length : Int) ≤ 20) = true := zdt c2
   have c2b1 : decide (l0.length ≤ 20) = true := zdt (by omega)
   clear c2
   replace H := zob H
   obtain ⟨t101, A30, H⟩ := H
   replace H : (some t101) = some r := H
   have A3 := zA A30
   clear A30
   obtain rfl := zsi H
   go_enter Try.func49, Try.ntmps49
   go_wp2_with (first | (go_at_call 83; (with_reducible refine (spec_cdCode.calls k _ _ l0 t101 _ ?side1 ?side2 A3.out).mono ?_); (case side1 => repeat (first | exact HR0.out | (with_reducible first | refine zCa ?_ _ | refine zCn ?_ _ | refine zCd ?_))); (case side2 => exact HC0.out); rintro e w4 ⟨rfl, hb⟩; have n0_ := zA (below_step (by repeat (first | (with_reducible first | exact HB.out | apply zba | apply zbn | apply zbd) | exact HB.out)) hb); clear HB; have HB := n0_; clear n0_; (try clear hb)))
   go_ret
   exact ⟨by first | rfl | (simp [errW_none, errW_some] <;> rfl) | (simp [*, errW_none, errW_some] <;> rfl), by repeat (first | (with_reducible first | exact HB.out | apply zba | apply zbn | apply zbd) | exact HB.out)⟩
 · rw [if_neg c2] at H
   have c2b0 : decide ((l0.length : Int) ≤ 20) = false := zdf c2
   have c2b1 : decide (l0.length ≤ 20) = false := zdf (by omega)
   clear c2
   obtain rfl := zsi H
   go_enter Try.func49, Try.ntmps49
   go_wp2
   go_ret
   exact ⟨by first | rfl | (simp [errW_none, errW_some] <;> rfl) | (simp [*, errW_none, errW_some] <;> rfl), by repeat (first | (with_reducible first | exact HB.out | apply zba | apply zbn | apply zbd) | exact HB.out)⟩
def spec_l1Has.l0 : Nat → Int → List Int → Int → Int → Option (Bool)
 | 0, _, _, _, _ => none
 | k + 1, x1, x7, x8, x9 => if x9 < x8 then (if 0 ≤ x9 then (if x9 < (x7.length : Int) then (if (rd x7 x9) = x1 then (some true) else (spec_l1Has.l0 k x1 x7 x8 (wrap64 (x9 + 1)))) else (none)) else (none)) else (some false)
def spec_l1Has.f (k : Nat) (l0 : List Int) (a1 : Int) : Option (Bool) := spec_l1Has.l0 k a1 l0 (l0.length : Int) 0
theorem spec_l1Has.mono_l : ∀ k, (∀ y0 y1 y2 y3, LeO (spec_l1Has.l0 k y0 y1 y2 y3) (spec_l1Has.l0 (k + 1) y0 y1 y2 y3))
 | 0 => fun _ _ _ _ r h => by simp [spec_l1Has.l0] at h
 | k + 1 => by
   have ih0 := spec_l1Has.mono_l k
   · intro y0 y1 y2 y3
     unfold spec_l1Has.l0
     repeat' first
     | (with_reducible first | exact ih0 _ _ _ _ | exact LeO.refl _ | exact LeO.none _ | refine LeO.ite ?_ ?_ | refine LeO.bind ?_ (fun _ => ?_))
     | exact LeO.none _
     | refine LeO.ite ?_ ?_
     | refine LeO.bind ?_ (fun _ => ?_)
theorem spec_l1Has.mono : ∀ a0 a1 k, LeO (spec_l1Has.f k a0 a1) (spec_l1Has.f (k + 1) a0 a1) := by
 intro a0 a1 k
 have ih0 := spec_l1Has.mono_l k
 unfold spec_l1Has.f
 repeat' first
     | (with_reducible first | exact ih0 _ _ _ _ | exact LeO.refl _ | exact LeO.none _ | refine LeO.ite ?_ ?_ | refine LeO.bind ?_ (fun _ => ?_))
     | exact LeO.none _
     | refine LeO.ite ?_ ?_
     | refine LeO.bind ?_ (fun _ => ?_)
set_option maxHeartbeats 8000000 in
set_option maxRecDepth 100000 in
theorem spec_l1Has.calls (k : Nat) (A0 : Option Addr) (c0 : Nat) (l0 : List Int) (a1 : Int) (r : Bool) (w : World) (hr0 : Kd.C (Kd.int .i64) w A0 l0.length l0) (hc0 : l0.length ≤ c0) (h : spec_l1Has.f k l0 a1 = some r) :
   Calls Try.prog 60 #[.slice A0 l0.length c0, .int .i64 a1] w fun e w' => e = .returned (.bool r) ∧ Drawn0 w w' := by
 have HR0 := zA hr0
 have HC0 := zA hc0
 clear hr0 hc0
 have H : (spec_l1Has.l0 k a1 l0 (l0.length : Int) 0) = some r := h
 clear h
 have H' := zA H
 clear H
 go_enter Try.func60, Try.ntmps60
 go_wp2
 go_loopg [9] k (fun kq v9 w' => ∃ (x9_1 : Int), v9 = .int .i64 x9_1 ∧ Aside0 (spec_l1Has.l0 kq a1 l0 (l0.length : Int) x9_1 = some r) ∧ Aside0 (kq ≤ k) ∧ Drawn0 w w')
 case atStart => exact ⟨(0), (by first | rfl | (simp; done) | (simp [*]; done)), H', ⟨zlr _⟩, by repeat (first | exact Drawn0.refl _ | apply Drawn0.step)⟩
 clear H'
 try clear p2
 obtain ⟨x9_1, rfl, HA, HK1, ⟨m1, rfl⟩⟩ := hrel
 cases gk with
 | zero => exact absurd HA.out (by simp [spec_l1Has.l0])
 | succ k1 =>
 have H := HA.out
 clear HA
 simp only [spec_l1Has.l0] at H
 by_cases c3 : x9_1 < (l0.length : Int)
 rotate_left
 · rw [if_neg c3] at H
   have c3b0 : decide (x9_1 < (l0.length : Int)) = false := zdf c3
   clear c3
   obtain rfl := zsi H
   go_wp2
   go_ret
   exact ⟨by first | rfl | (simp; done) | (simp [*]; done), by repeat (first | exact Drawn0.refl _ | apply Drawn0.step)⟩
 rw [if_pos c3] at H
 have c3b0 : decide (x9_1 < (l0.length : Int)) = true := zdt c3
 clear c3
 by_cases c4 : 0 ≤ x9_1
 rotate_left
 · rw [if_neg c4] at H
   exact absurd H (by simp)
 rw [if_pos c4] at H
 have c4b0 : decide (0 ≤ x9_1) = true := zdt c4
 clear c4
 by_cases c5 : x9_1 < (l0.length : Int)
 rotate_left
 · rw [if_neg c5] at H
   exact absurd H (by simp)
 rw [if_pos c5] at H
 have c5b0 : decide (x9_1 < (l0.length : Int)) = true := zdt c5
 clear c5
 by_cases c6 : (rd l0 x9_1) = a1
 · rw [if_pos c6] at H
   have c6b0 : ((rd l0 x9_1) == a1) = true := beq_iff_eq.mpr c6
   have c6b1 : ((rd l0 x9_1) != a1) = false := bne_eq_false_iff_eq.mpr c6
   clear c6
   obtain rfl := zsi H
   have p101 : 0 ≤ (x9_1 : Int) := zde (by assumption)
   have q101 : x9_1 < (l0.length : Int) := zde (by assumption)
   obtain ⟨ad101, e101, hx101_0⟩ := Kd.at_int HR0.out x9_1 p101 q101
   cases e101
   replace p101 := eq_true p101
   replace q101 := eq_true q101
   go_wp2
   go_ret
   exact ⟨by first | rfl | (simp; done) | (simp [*]; done), by repeat (first | exact Drawn0.refl _ | apply Drawn0.step)⟩
 rw [if_neg c6] at H
 have c6b0 : ((rd l0 x9_1) == a1) = false := beq_eq_false_iff_ne.mpr c6
 have c6b1 : ((rd l0 x9_1) != a1) = true := bne_iff_ne.mpr c6
 have H' := zA H
 clear H
 have p101 : 0 ≤ (x9_1 : Int) := zde (by assumption)
 have q101 : x9_1 < (l0.length : Int) := zde (by assumption)
 obtain ⟨ad101, e101, hx101_0⟩ := Kd.at_int HR0.out x9_1 p101 q101
 cases e101
 replace p101 := eq_true p101
 replace q101 := eq_true q101
 go_wp2
 go_roundg k1
 case measure => have := HK1.out; omega
 case rel => exact ⟨(wrap64 (x9_1 + 1)), (by first | rfl | (simp; done) | (simp [*]; done)), H', ⟨by have := HK1.out; omega⟩, by repeat (first | exact Drawn0.refl _ | apply Drawn0.step)⟩
def spec_cdCost.f (a0 : ByteArray) : Option (Int) := if a0.toList = ([109, 117, 108] : List UInt8) then (some 4) else (if a0.toList = ([115, 104, 108] : List UInt8) then (some 2) else (if a0.toList = ([115, 104, 114] : List UInt8) then (some 2) else (some 1)))
set_option maxHeartbeats 8000000 in
set_option maxRecDepth 100000 in
theorem spec_cdCost.calls (a0 : ByteArray) (r : Int) (w : World) (h : spec_cdCost.f a0 = some r) :
   Calls Try.prog 71 #[.string a0] w fun e w' => e = .returned (.int .i64 r) ∧ Drawn0 w w' := by
 have H : (if a0.toList = ([109, 117, 108] : List UInt8) then (some 4) else (if a0.toList = ([115, 104, 108] : List UInt8) then (some 2) else (if a0.toList = ([115, 104, 114] : List UInt8) then (some 2) else (some 1)))) = some r := h
 clear h
 by_cases c2 : a0.toList = ([109, 117, 108] : List UInt8)
 · rw [if_pos c2] at H
   have c2b0 : (a0.toList == ([109, 117, 108] : List UInt8)) = true := beq_iff_eq.mpr c2
   have c2b1 : (a0.toList != ([109, 117, 108] : List UInt8)) = false := bne_eq_false_iff_eq.mpr c2
   clear c2
   obtain rfl := zsi H
   go_enter Try.func71, Try.ntmps71
   go_wp2
   go_ret
   exact ⟨by first | rfl | (simp; done) | (simp [*]; done), by repeat (first | exact Drawn0.refl _ | apply Drawn0.step)⟩
 rw [if_neg c2] at H
 have c2b0 : (a0.toList == ([109, 117, 108] : List UInt8)) = false := beq_eq_false_iff_ne.mpr c2
 have c2b1 : (a0.toList != ([109, 117, 108] : List UInt8)) = true := bne_iff_ne.mpr c2
 by_cases c3 : a0.toList = ([115, 104, 108] : List UInt8)
 · rw [if_pos c3] at H
   have c3b0 : (a0.toList == ([115, 104, 108] : List UInt8)) = true := beq_iff_eq.mpr c3
   have c3b1 : (a0.toList != ([115, 104, 108] : List UInt8)) = false := bne_eq_false_iff_eq.mpr c3
   clear c3
   obtain rfl := zsi H
   go_enter Try.func71, Try.ntmps71
   go_wp2
   go_ret
   exact ⟨by first | rfl | (simp; done) | (simp [*]; done), by repeat (first | exact Drawn0.refl _ | apply Drawn0.step)⟩
 rw [if_neg c3] at H
 have c3b0 : (a0.toList == ([115, 104, 108] : List UInt8)) = false := beq_eq_false_iff_ne.mpr c3
 have c3b1 : (a0.toList != ([115, 104, 108] : List UInt8)) = true := bne_iff_ne.mpr c3
 by_cases c4 : a0.toList = ([115, 104, 114] : List UInt8)
 rotate_left
 · rw [if_neg c4] at H
   have c4b0 : (a0.toList == ([115, 104, 114] : List UInt8)) = false := beq_eq_false_iff_ne.mpr c4
   have c4b1 : (a0.toList != ([115, 104, 114] : List UInt8)) = true := bne_iff_ne.mpr c4
   obtain rfl := zsi H
   go_enter Try.func71, Try.ntmps71
   go_wp2
   go_ret
   exact ⟨by first | rfl | (simp; done) | (simp [*]; done), by repeat (first | exact Drawn0.refl _ | apply Drawn0.step)⟩
 rw [if_pos c4] at H
 have c4b0 : (a0.toList == ([115, 104, 114] : List UInt8)) = true := beq_iff_eq.mpr c4
 have c4b1 : (a0.toList != ([115, 104, 114] : List UInt8)) = false := bne_eq_false_iff_eq.mpr c4
 clear c4
 obtain rfl := zsi H
 go_enter Try.func71, Try.ntmps71
 go_wp2
 go_ret
 exact ⟨by first | rfl | (simp; done) | (simp [*]; done), by repeat (first | exact Drawn0.refl _ | apply Drawn0.step)⟩
def spec_l1Put.l0 : Nat → List Int → Int → Int → Option (List Int)
 | 0, _, _, _ => none
 | k + 1, x0, x1, x5 => if x5 < (x0.length : Int) then (if 0 ≤ x5 then (if (rd x0 x5) < x1 then (spec_l1Put.l0 k x0 x1 (wrap64 (x5 + 1))) else (if (rd x0 x5) = x1 then (some x0) else ((some (([] : List Int) : List Int)).bind fun y103 => (if x5 ≤ (x0.length : Int) then ((some (x0.take (x5 : Int).toNat : List Int)).bind fun y106 => (if y103.length + y106.length < 17592186044416 then ((some (y103 ++ y106 : List Int)).bind fun y110 => (if y110.length < 17592186044416 then ((some (y110 ++ [x1] : List Int)).bind fun y113 => ((some (x0.drop (x5 : Int).toNat : List Int)).bind fun y116 => (if y113.length + y116.length < 17592186044416 then (some (y113 ++ y116)) else (none)))) else (none))) else (none))) else (none))))) else (none)) else ((some (([] : List Int) : List Int)).bind fun y123 => (if 0 ≤ x5 then (if x5 ≤ (x0.length : Int) then ((some (x0.take (x5 : Int).toNat : List Int)).bind fun y126 => (if y123.length + y126.length < 17592186044416 then ((some (y123 ++ y126 : List Int)).bind fun y130 => (if y130.length < 17592186044416 then ((some (y130 ++ [x1] : List Int)).bind fun y133 => ((some (x0.drop (x5 : Int).toNat : List Int)).bind fun y136 => (if y133.length + y136.length < 17592186044416 then (some (y133 ++ y136)) else (none)))) else (none))) else (none))) else (none)) else (none)))
def spec_l1Put.f (k : Nat) (l0 : List Int) (a1 : Int) : Option (List Int) := spec_l1Put.l0 k l0 a1 0
theorem spec_l1Put.mono_l : ∀ k, (∀ y0 y1 y2, LeO (spec_l1Put.l0 k y0 y1 y2) (spec_l1Put.l0 (k + 1) y0 y1 y2))
 | 0 => fun _ _ _ r h => by simp [spec_l1Put.l0] at h
 | k + 1 => by
   have ih0 := spec_l1Put.mono_l k
   · intro y0 y1 y2
     unfold spec_l1Put.l0
     repeat' first
     | (with_reducible first | exact ih0 _ _ _ | exact LeO.refl _ | exact LeO.none _ | refine LeO.ite ?_ ?_ | refine LeO.bind ?_ (fun _ => ?_))
     | exact LeO.none _
     | refine LeO.ite ?_ ?_
     | refine LeO.bind ?_ (fun _ => ?_)
theorem spec_l1Put.mono : ∀ a0 a1 k, LeO (spec_l1Put.f k a0 a1) (spec_l1Put.f (k + 1) a0 a1) := by
 intro a0 a1 k
 have ih0 := spec_l1Put.mono_l k
 unfold spec_l1Put.f
 repeat' first
     | (with_reducible first | exact ih0 _ _ _ | exact LeO.refl _ | exact LeO.none _ | refine LeO.ite ?_ ?_ | refine LeO.bind ?_ (fun _ => ?_))
     | exact LeO.none _
     | refine LeO.ite ?_ ?_
     | refine LeO.bind ?_ (fun _ => ?_)
set_option maxHeartbeats 8000000 in
set_option maxRecDepth 100000 in
theorem spec_l1Put.calls (k : Nat) (P0_ : Nat → Prop) (u9000_ : Value) (l0 : List Int) (a1 : Int) (r : List Int) (w0 w : World) (hB : Below w0.heap.size w0 w) (ho0 : Kd.R (Kd.int .i64) 3 w w0.heap.size P0_ u9000_ l0) (h : spec_l1Put.f k l0 a1 = some r) :
   Calls Try.prog 117 #[u9000_, .int .i64 a1] w fun e w' => ∃ v0_ : Value, e = .returned (v0_) ∧ Kd.R (Kd.int .i64) 3 w' w0.heap.size (fun k_ => (P0_ k_ ∨ w.heap.size ≤ k_)) v0_ r ∧ Below w0.heap.size w0 w' ∧ Kept w w' (fun k_ => P0_ k_) := by
 have HO0 := zA (show Kd.R (Kd.int .i64) 3 w w0.heap.size (fun k_ => (P0_ k_ ∨ w.heap.size ≤ k_)) u9000_ l0 from Kd.R_mono ho0 (fun k_ hk => (.inl hk)))
 have HK := zA (Kept.refl w (fun k_ => P0_ k_))
 have HW0 := zA hB.size
 have HB := zA hB
 clear hB
 have H : (spec_l1Put.l0 k l0 a1 0) = some r := h
 clear h
 have H' := zA H
 clear H
 go_enter Try.func117, Try.ntmps117
 go_wp2
 go_loopg [5] k (fun kq v5 w' => ∃ (x5_1 : Int), v5 = .int .i64 x5_1 ∧ Aside0 (spec_l1Put.l0 kq l0 a1 x5_1 = some r) ∧ Aside0 (kq ≤ k) ∧ Aside0 (Kd.R (Kd.int .i64) 3 w' w0.heap.size (fun k_ => (P0_ k_ ∨ w.heap.size ≤ k_)) u9000_ l0) ∧ Aside0 (Kept w w' (fun k_ => P0_ k_)) ∧ Aside0 (Below w0.heap.size w0 w'))
 case atStart => exact ⟨(0), (by first | rfl | (simp; done) | (simp [*]; done)), H', ⟨zlr _⟩, ⟨by (with_reducible repeat (first | apply zRa | apply zRn | apply zRd)); exact HO0.out⟩, ⟨by repeat (first | (with_reducible first | exact HK.out | apply Kept.alloc | apply Kept.drewN | apply Kept.drew) | exact HK.out)⟩, ⟨by repeat (first | (with_reducible first | exact HB.out | apply zba | apply zbn | apply zbd) | exact HB.out)⟩⟩
 clear H'
 try clear c1
 try clear p2
 obtain ⟨x5_1, rfl, HA, HK1, HO_0, HK, HB⟩ := hrel
 cases gk with
 | zero => exact absurd HA.out (by simp [spec_l1Put.l0])
 | succ k1 =>
 have H := HA.out
 clear HA
 simp only [spec_l1Put.l0] at H
 by_cases c3 : x5_1 < (l0.length : Int)
 rotate_left
 · rw [if_neg c3] at H
   have c3b0 : decide (x5_1 < (l0.length : Int)) = false := zdf c3
   clear c3
   obtain ⟨y123, hy123⟩ : ∃ y_ : List Int, y_ = (([] : List Int)) := ⟨_, rfl⟩
   replace H : (if 0 ≤ x5_1 then (if x5_1 ≤ (l0.length : Int) then ((some (l0.take (x5_1 : Int).toNat : List Int)).bind fun y126 => (if y123.length + y126.length < 17592186044416 then ((some (y123 ++ y126 : List Int)).bind fun y130 => (if y130.length < 17592186044416 then ((some (y130 ++ [a1] : List Int)).bind fun y133 => ((some (l0.drop (x5_1 : Int).toNat : List Int)).bind fun y136 => (if y133.length + y136.length < 17592186044416 then (some (y133 ++ y136)) else (none)))) else (none))) else (none))) else (none)) else (none)) = some r := by first | (rw [hy123]; with_reducible exact H) | (have H2_ := (Option.bind_some _ _).symm.trans H; rw [hy123]; with_reducible exact H2_) | (have H2_ := (Option.bind_some _ _).symm.trans H; with_reducible exact H2_) | with_reducible exact H | (rw [hy123]; exact H) | exact H
   have Ny123 := zA hy123
   clear hy123
   by_cases c24 : 0 ≤ x5_1
   rotate_left
   · rw [if_neg c24] at H
     exact absurd H (by simp)
   rw [if_pos c24] at H
   have c24b0 := eq_true c24
   have c24b1 : decide (0 ≤ x5_1) = true := zdt c24
   clear c24
   by_cases c25 : x5_1 ≤ (l0.length : Int)
   rotate_left
   · rw [if_neg c25] at H
     exact absurd H (by simp)
   rw [if_pos c25] at H
   have c25b0 := eq_true c25
   have c25b1 : decide (x5_1 ≤ (l0.length : Int)) = true := zdt c25
   clear c25
   obtain ⟨y126, hy126⟩ : ∃ y_ : List Int, y_ = (l0.take (x5_1 : Int).toNat) := ⟨_, rfl⟩
   replace H : (if y123.length + y126.length < 17592186044416 then ((some (y123 ++ y126 : List Int)).bind fun y130 => (if y130.length < 17592186044416 then ((some (y130 ++ [a1] : List Int)).bind fun y133 => ((some (l0.drop (x5_1 : Int).toNat : List Int)).bind fun y136 => (if y133.length + y136.length < 17592186044416 then (some (y133 ++ y136)) else (none)))) else (none))) else (none)) = some r := by first | (rw [hy126]; with_reducible exact H) | (have H2_ := (Option.bind_some _ _).symm.trans H; rw [hy126]; with_reducible exact H2_) | (have H2_ := (Option.bind_some _ _).symm.trans H; with_reducible exact H2_) | with_reducible exact H | (rw [hy126]; exact H) | exact H
   have Ny126 := zA hy126
   clear hy126
   by_cases c26 : y123.length + y126.length < 17592186044416
   rotate_left
   · rw [if_neg c26] at H
     exact absurd H (by simp)
   rw [if_pos c26] at H
   have LMc26 := zA c26
   clear c26
   obtain ⟨y130, hy130⟩ : ∃ y_ : List Int, y_ = (y123 ++ y126) := ⟨_, rfl⟩
   replace H : (if y130.length < 17592186044416 then ((some (y130 ++ [a1] : List Int)).bind fun y133 => ((some (l0.drop (x5_1 : Int).toNat : List Int)).bind fun y136 => (if y133.length + y136.length < 17592186044416 then (some (y133 ++ y136)) else (none)))) else (none)) = some r := by first | (rw [hy130]; with_reducible exact H) | (have H2_ := (Option.bind_some _ _).symm.trans H; rw [hy130]; with_reducible exact H2_) | (have H2_ := (Option.bind_some _ _).symm.trans H; with_reducible exact H2_) | with_reducible exact H | (rw [hy130]; exact H) | exact H
   have Ny130 := zA hy130
   clear hy130
   by_cases c27 : y130.length < 17592186044416
   rotate_left
   · rw [if_neg c27] at H
     exact absurd H (by simp)
   rw [if_pos c27] at H
   have LMc27 := zA c27
   clear c27
   obtain ⟨y133, hy133⟩ : ∃ y_ : List Int, y_ = (y130 ++ [a1]) := ⟨_, rfl⟩
   replace H : ((some (l0.drop (x5_1 : Int).toNat : List Int)).bind fun y136 => (if y133.length + y136.length < 17592186044416 then (some (y133 ++ y136)) else (none))) = some r := by first | (rw [hy133]; with_reducible exact H) | (have H2_ := (Option.bind_some _ _).symm.trans H; rw [hy133]; with_reducible exact H2_) | (have H2_ := (Option.bind_some _ _).symm.trans H; with_reducible exact H2_) | with_reducible exact H | (rw [hy133]; exact H) | exact H
   have Ny133 := zA hy133
   clear hy133
   have c28b0 := eq_true (zde (by assumption) : 0 ≤ x5_1)
   have c29b0 := eq_true (zde (by assumption) : x5_1 ≤ (l0.length : Int))
   obtain ⟨y136, hy136⟩ : ∃ y_ : List Int, y_ = (l0.drop (x5_1 : Int).toNat) := ⟨_, rfl⟩
   replace H : (if y133.length + y136.length < 17592186044416 then (some (y133 ++ y136)) else (none)) = some r := by first | (rw [hy136]; with_reducible exact H) | (have H2_ := (Option.bind_some _ _).symm.trans H; rw [hy136]; with_reducible exact H2_) | (have H2_ := (Option.bind_some _ _).symm.trans H; with_reducible exact H2_) | with_reducible exact H | (rw [hy136]; exact H) | exact H
   have Ny136 := zA hy136
   clear hy136
   by_cases c30 : y133.length + y136.length < 17592186044416
   rotate_left
   · rw [if_neg c30] at H
     exact absurd H (by simp)
   rw [if_pos c30] at H
   have LMc30 := zA c30
   clear c30
   obtain ⟨y140, hy140⟩ : ∃ y_ : List Int, y_ = (y133 ++ y136) := ⟨_, rfl⟩
   replace H : (some y140) = some r := by first | (rw [hy140]; with_reducible exact H) | (have H2_ := (Option.bind_some _ _).symm.trans H; rw [hy140]; with_reducible exact H2_) | (have H2_ := (Option.bind_some _ _).symm.trans H; with_reducible exact H2_) | with_reducible exact H | (rw [hy140]; exact H) | exact H
   have Ny140 := zA hy140
   clear hy140
   obtain rfl := zsi H
   obtain ⟨Ao31, co31, eo31⟩ := Kd.R_slice HO_0.out
   subst eo31
   go_wp2_with (first | ((with_reducible refine gate_dst (N := 34) rfl ?_); refine Kd.R_lit (Kd.int .i64) _ 3 ?hg (N := 34) ?hd (xs := ([] : List Int)) (inner := []) (ok := fun _ => True) (okp := fun _ => True) ?hr ?hp (fun _ hk => hk) trivial (Below.refl _ _) (zlr _) (by simp) ?_; (case hd => rfl); (case hg => rfl); (case hr => go_simp <;> rfl); (case hp => exact (Reps.none _ _)); intro v124 w32 ho33 hb hg_ hnew_; clear hg_ hnew_; (first | rw [← Ny123.out] at ho33 | (simp only [Int.reduceToNat] at ho33; rw [← Ny123.out] at ho33)); have n0_ := zA (Kd.R_elder' (by (with_reducible repeat (first | apply zRa | apply zRn | apply zRd)); exact HO_0.out) (Kd.R_base ho33) hb); have n1_ := zA (Kd.R_lower (Kd.R_new' (Kd.R_newM (M := fun k_ => (P0_ k_ ∨ w.heap.size ≤ k_)) ho33 (by first | exact HK.out.1 | exact (show Kept w _ (fun k_ => P0_ k_) from by repeat (first | (with_reducible first | exact HK.out | apply Kept.alloc | apply Kept.drewN | apply Kept.drew) | exact HK.out)).1) (fun k_ h_ => .inr h_)) (Kd.R_lt (by (with_reducible repeat (first | apply zRa | apply zRn | apply zRd)); exact HO_0.out))) (below_size (by repeat (first | (with_reducible first | exact HB.out | apply zba | apply zbn | apply zbd) | exact HB.out)))); have n2_ := zA (Kept.below (S := (fun k_ => P0_ k_)) (by repeat (first | (with_reducible first | exact HK.out | apply Kept.alloc | apply Kept.drewN | apply Kept.drew) | exact HK.out)) hb); have n3_ := zA (below_step (by repeat (first | (with_reducible first | exact HB.out | apply zba | apply zbn | apply zbd) | exact HB.out)) hb); clear HO_0; clear HK; clear HB; have HO_0 := n0_; have HO125 := n1_; have HK := n2_; have HB := n3_; clear n0_ n1_ n2_ n3_; clear hb ho33; have q34 : (x5_1 : Int) ≤ ((l0.length : Int) : Int) := zde (by assumption); obtain ⟨i034, hi034, _, hsz34, _⟩ := info_parts info3; have hroom34 : l0.length ≤ co31 := (zRr HO_0.out).2.1; have hC34 : Kd.C (Kd.int .i64) _ Ao31 l0.length l0 := (zRr HO_0.out).2.2; have hcut34 := cut_to (P := Try.prog) 34 3 .i64 Try.underlying34 hi034 Ao31 l0.length co31 x5_1 (zde (by assumption)) q34 hroom34; have hr34 := Kd.C_take (m := (x5_1 : Int).toNat) hC34 (by omega); have hy34 : y126.length = (x5_1 : Int).toNat := (by rw [Ny126.out, List.length_take]; omega); rw [← Ny126.out] at hr34; rw [← hy34] at hcut34; have HR129 := zA hr34; have HC129 := zA (show y126.length ≤ co31 from by omega); clear hr34 hC34 hroom34 hi034 hsz34; have KY34 := zA hy34; clear hy34; have KL34 := zA (show (x5_1 : Int).toNat ≤ l0.length from by omega); replace q34 := eq_true q34) | ((with_reducible refine gate_builtin (b := .append) (xs := #[.tmp 34, .tmp 37]) rfl ?_); at_builtin; refine Kd.R_append_rows (Kd.int .i64) (w0 := w0) w0.heap.size rfl (.tmp 34) (.tmp 37) 34 3 (.int .i64 0) 8 rfl Try.underlying34 info3 rfl (by decide) (by omega) v124 y123 y126 _ _ _ (fun k_ => (P0_ k_ ∨ w.heap.size ≤ k_) ∧ some k_ ≠ (.slice Ao31 l0.length co31 : Value).ownBlock) (fun _ => False) rfl rfl ?aO ?aR (fun _ _ h => h) (fun _ h => h.elim) ?aF ?aB ?aS ?aL ?_; (case aR => repeat (first | exact (by repeat (first | (with_reducible exact HR129.out) | (with_reducible first | refine zCa ?_ _ | refine zCn ?_ _ | refine zCd ?_) | exact HR129.out)) | (with_reducible first | refine zCa ?_ _ | refine zCn ?_ _ | refine zCd ?_))); (case aB => exact (by repeat (first | (with_reducible first | exact HB.out | apply zba | apply zbn | apply zbd) | exact HB.out))); (case aF => exact (fun k_ hk => ⟨(.inr (Nat.le_trans (by first | exact HK.out.1 | exact (show Kept w _ (fun k_ => P0_ k_) from by repeat (first | (with_reducible first | exact HK.out | apply Kept.alloc | apply Kept.drewN | apply Kept.drew) | exact HK.out)).1) hk)), Kd.fresh' (Kd.R_lt (by (with_reducible repeat (first | apply zRa | apply zRn | apply zRd)); exact HO_0.out)) k_ hk⟩)); (case aO => exact (by (with_reducible repeat (first | apply zRa | apply zRn | apply zRd)); exact Kd.R_mono HO125.out (fun _ hk => ⟨hk.1.1, hk.2⟩))); (case aS => exact (below_size (by repeat (first | (with_reducible first | exact HB.out | apply zba | apply zbn | apply zbd) | exact HB.out)))); (case aL => have := LMc26.out; omega); intro v131 w35 ho hb hg hat; rw [← Ny130.out] at ho; have n0_ := zA (Kd.R_after (ok := (fun k_ => (P0_ k_ ∨ w.heap.size ≤ k_))) (by (with_reducible repeat (first | apply zRa | apply zRn | apply zRd)); exact HO_0.out) hg hat); have n1_ := zA (hb); have n2_ := zA (Kept.of_grown (S := (fun k_ => P0_ k_)) hg (by repeat (first | (with_reducible first | exact HK.out | apply Kept.alloc | apply Kept.drewN | apply Kept.drew) | exact HK.out)) (fun k_ e_ => (HO125.out.1 k_ e_).1.1)); have n3_ := zA ((show Kd.C (Kd.int .i64) w35 Ao31 y126.length y126 from by rw [Ny126.out]; exact Kd.C_take (m := (x5_1 : Int).toNat) ((zRr (Kd.R_after (ok := (fun k_ => (P0_ k_ ∨ w.heap.size ≤ k_))) (by (with_reducible repeat (first | apply zRa | apply zRn | apply zRd)); exact HO_0.out) hg hat)).2.2) KL34.out)); have n4_ := zA (ho); clear HO_0 HB; clear HK; clear HR129 HO125; have HO_0 := n0_; have HB := n1_; have HK := n2_; have HR129 := n3_; have HO132 := n4_; clear n0_ n1_ n2_ n3_ n4_; clear ho hb hg hat) | ((with_reducible refine gate_builtin (b := .append) (xs := #[.tmp 39, .tmp 41]) rfl ?_); at_builtin; refine Kd.R_append (Kd.int .i64) (w0 := w0) w0.heap.size rfl (.tmp 39) (.tmp 41) 34 3 (.int .i64 0) 8 rfl Try.underlying34 info3 rfl (by decide) (by omega) v131 y130 a1 [.int .i64 a1] (fun k_ => (P0_ k_ ∨ w.heap.size ≤ k_) ∧ some k_ ≠ (.slice Ao31 l0.length co31 : Value).ownBlock) (fun _ => False) rfl rfl ?aP (fun _ hk => hk.elim) ?aF ?aO ?aB ?aS ?aL ?_; (case aP => exact rfl); (case aB => exact (by repeat (first | (with_reducible first | exact HB.out | apply zba | apply zbn | apply zbd) | exact HB.out))); (case aF => exact (fun k_ hk => ⟨(.inr (Nat.le_trans (by first | exact HK.out.1 | exact (show Kept w _ (fun k_ => P0_ k_) from by repeat (first | (with_reducible first | exact HK.out | apply Kept.alloc | apply Kept.drewN | apply Kept.drew) | exact HK.out)).1) hk)), Kd.fresh' (Kd.R_lt (by (with_reducible repeat (first | apply zRa | apply zRn | apply zRd)); exact HO_0.out)) k_ hk⟩)); (case aO => exact (by (with_reducible repeat (first | apply zRa | apply zRn | apply zRd)); exact HO132.out)); (case aS => exact (below_size (by repeat (first | (with_reducible first | exact HB.out | apply zba | apply zbn | apply zbd) | exact HB.out)))); (case aL => have := LMc27.out; omega); intro v134 w36 ho hb hg hat; rw [← Ny133.out] at ho; have n0_ := zA (Kd.R_after (ok := (fun k_ => (P0_ k_ ∨ w.heap.size ≤ k_))) (by (with_reducible repeat (first | apply zRa | apply zRn | apply zRd)); exact HO_0.out) hg hat); have n1_ := zA (hb); have n2_ := zA (Kept.of_grown (S := (fun k_ => P0_ k_)) hg (by repeat (first | (with_reducible first | exact HK.out | apply Kept.alloc | apply Kept.drewN | apply Kept.drew) | exact HK.out)) (fun k_ e_ => (HO132.out.1 k_ e_).1)); have n3_ := zA ((show Kd.C (Kd.int .i64) w36 Ao31 y126.length y126 from by rw [Ny126.out]; exact Kd.C_take (m := (x5_1 : Int).toNat) ((zRr (Kd.R_after (ok := (fun k_ => (P0_ k_ ∨ w.heap.size ≤ k_))) (by (with_reducible repeat (first | apply zRa | apply zRn | apply zRd)); exact HO_0.out) hg hat)).2.2) KL34.out)); have n4_ := zA (ho); clear HO_0 HB; clear HK; clear HR129 HO132; have HO_0 := n0_; have HB := n1_; have HK := n2_; have HR129 := n3_; have HO135 := n4_; clear n0_ n1_ n2_ n3_ n4_; clear ho hb hg hat; have q37 : (x5_1 : Int) ≤ ((l0.length : Int) : Int) := zde (by assumption); obtain ⟨i037, hi037, _, hsz37, _⟩ := info_parts info3; have hroom37 : l0.length ≤ co31 := (zRr HO_0.out).2.1; have hC37 : Kd.C (Kd.int .i64) _ Ao31 l0.length l0 := (zRr HO_0.out).2.2; have q037 : (0 : Int) ≤ (x5_1 : Int) := zde (by assumption); have hcut37 := cut_from (P := Try.prog) 34 3 .i64 Try.underlying34 hi037 1 hsz37 Ao31 l0.length co31 x5_1 q037 q37; have hr37 := Kd.C_drop (m := (x5_1 : Int).toNat) (c := co31) hC37 (by omega) hroom37; obtain ⟨A37, hA37⟩ : ∃ A1, A1 = (if co31 = (x5_1 : Int).toNat then Ao31 else (Ao31 : Option Addr).map (·.add ((x5_1 : Int).toNat * 1))) := ⟨_, rfl⟩; obtain ⟨c37, hc37⟩ : ∃ c1, c1 = co31 - (x5_1 : Int).toNat := ⟨_, rfl⟩; have hy37 : y136.length = l0.length - (x5_1 : Int).toNat := (by rw [Ny136.out, List.length_drop] <;> omega); rw [show (l0).drop (x5_1 : Int).toNat = y136 from Ny136.out.symm] at hr37; replace hr37 : Kd.C (Kd.int .i64) _ A37 y136.length y136 := (by rw [hA37]; exact hr37); rw [← hy37, ← hA37, ← hc37] at hcut37; have HR139 := zA hr37; have HC139 := zA (show y136.length ≤ c37 from by rw [hy37, hc37]; exact Nat.sub_le_sub_right hroom37 _); clear hr37 hC37 hroom37 hi037 hsz37 hc37; have KY37 := zA hy37; have KA37 := zA hA37; clear hy37 hA37; have KL37 := zA (show (x5_1 : Int).toNat ≤ l0.length from by omega); replace q37 := eq_true q37) | ((with_reducible refine gate_builtin (b := .append) (xs := #[.tmp 43, .tmp 46]) rfl ?_); at_builtin; refine Kd.R_append_rows (Kd.int .i64) (w0 := w0) w0.heap.size rfl (.tmp 43) (.tmp 46) 34 3 (.int .i64 0) 8 rfl Try.underlying34 info3 rfl (by decide) (by omega) v134 y133 y136 _ _ _ (fun k_ => (P0_ k_ ∨ w.heap.size ≤ k_) ∧ some k_ ≠ (.slice Ao31 l0.length co31 : Value).ownBlock) (fun _ => False) rfl rfl ?aO ?aR (fun _ _ h => h) (fun _ h => h.elim) ?aF ?aB ?aS ?aL ?_; (case aR => repeat (first | exact (by repeat (first | (with_reducible exact HR139.out) | (with_reducible first | refine zCa ?_ _ | refine zCn ?_ _ | refine zCd ?_) | exact HR139.out)) | (with_reducible first | refine zCa ?_ _ | refine zCn ?_ _ | refine zCd ?_))); (case aB => exact (by repeat (first | (with_reducible first | exact HB.out | apply zba | apply zbn | apply zbd) | exact HB.out))); (case aF => exact (fun k_ hk => ⟨(.inr (Nat.le_trans (by first | exact HK.out.1 | exact (show Kept w _ (fun k_ => P0_ k_) from by repeat (first | (with_reducible first | exact HK.out | apply Kept.alloc | apply Kept.drewN | apply Kept.drew) | exact HK.out)).1) hk)), Kd.fresh' (Kd.R_lt (by (with_reducible repeat (first | apply zRa | apply zRn | apply zRd)); exact HO_0.out)) k_ hk⟩)); (case aO => exact (by (with_reducible repeat (first | apply zRa | apply zRn | apply zRd)); exact HO135.out)); (case aS => exact (below_size (by repeat (first | (with_reducible first | exact HB.out | apply zba | apply zbn | apply zbd) | exact HB.out)))); (case aL => have := LMc30.out; omega); intro v141 w38 ho hb hg hat; rw [← Ny140.out] at ho; have n0_ := zA (Kd.R_after (ok := (fun k_ => (P0_ k_ ∨ w.heap.size ≤ k_))) (by (with_reducible repeat (first | apply zRa | apply zRn | apply zRd)); exact HO_0.out) hg hat); have n1_ := zA (hb); have n2_ := zA (Kept.of_grown (S := (fun k_ => P0_ k_)) hg (by repeat (first | (with_reducible first | exact HK.out | apply Kept.alloc | apply Kept.drewN | apply Kept.drew) | exact HK.out)) (fun k_ e_ => (HO135.out.1 k_ e_).1)); have n3_ := zA ((show Kd.C (Kd.int .i64) w38 Ao31 y126.length y126 from by rw [Ny126.out]; exact Kd.C_take (m := (x5_1 : Int).toNat) ((zRr (Kd.R_after (ok := (fun k_ => (P0_ k_ ∨ w.heap.size ≤ k_))) (by (with_reducible repeat (first | apply zRa | apply zRn | apply zRd)); exact HO_0.out) hg hat)).2.2) KL34.out)); have n4_ := zA ((show Kd.C (Kd.int .i64) w38 A37 y136.length y136 from by rw [Ny136.out, KA37.out]; exact Kd.C_drop (m := (x5_1 : Int).toNat) (c := co31) ((zRr (Kd.R_after (ok := (fun k_ => (P0_ k_ ∨ w.heap.size ≤ k_))) (by (with_reducible repeat (first | apply zRa | apply zRn | apply zRd)); exact HO_0.out) hg hat)).2.2) KL37.out ((zRr (Kd.R_after (ok := (fun k_ => (P0_ k_ ∨ w.heap.size ≤ k_))) (by (with_reducible repeat (first | apply zRa | apply zRn | apply zRd)); exact HO_0.out) hg hat)).2.1))); have n5_ := zA (ho); clear HO_0 HB; clear HK; clear HR129 HR139 HO135; have HO_0 := n0_; have HB := n1_; have HK := n2_; have HR129 := n3_; have HR139 := n4_; have HO142 := n5_; clear n0_ n1_ n2_ n3_ n4_ n5_; clear ho hb hg hat))
   go_ret
   exact ⟨_, by first | rfl | (simp [errW_none, errW_some] <;> rfl) | (simp [*, errW_none, errW_some] <;> rfl), by (with_reducible repeat (first | apply zRa | apply zRn | apply zRd)); exact Kd.R_mono HO142.out (fun _ hk => hk.1), by repeat (first | (with_reducible first | exact HB.out | apply zba | apply zbn | apply zbd) | exact HB.out), by repeat (first | (with_reducible first | exact HK.out | apply Kept.alloc | apply Kept.drewN | apply Kept.drew) | exact HK.out)⟩
 rw [if_pos c3] at H
 have c3b0 : decide (x5_1 < (l0.length : Int)) = true := zdt c3
 clear c3
 by_cases c4 : 0 ≤ x5_1
 rotate_left
 · rw [if_neg c4] at H
   exact absurd H (by simp)
 rw [if_pos c4] at H
 have c4b0 : decide (0 ≤ x5_1) = true := zdt c4
 clear c4
 by_cases c5 : (rd l0 x5_1) < a1
 · rw [if_pos c5] at H
   have c5b0 : decide ((rd l0 x5_1) < a1) = true := zdt c5
   clear c5
   have H' := zA H
   clear H
   obtain ⟨Ao6, co6, eo6⟩ := Kd.R_slice HO_0.out
   subst eo6
   have p101 : 0 ≤ (x5_1 : Int) := zde (by assumption)
   have q101 : x5_1 < (l0.length : Int) := zde (by assumption)
   obtain ⟨ad101, e101, hx101_0⟩ := Kd.at_int (zRr HO_0.out).2.2 x5_1 p101 q101
   cases e101
   replace p101 := eq_true p101
   replace q101 := eq_true q101
   go_wp2
   go_roundg k1
   case measure => have := HK1.out; omega
   case rel => exact ⟨(wrap64 (x5_1 + 1)), (by first | rfl | (simp; done) | (simp [*]; done)), H', ⟨by have := HK1.out; omega⟩, ⟨by (with_reducible repeat (first | apply zRa | apply zRn | apply zRd)); exact HO_0.out⟩, ⟨by repeat (first | (with_reducible first | exact HK.out | apply Kept.alloc | apply Kept.drewN | apply Kept.drew) | exact HK.out)⟩, ⟨by repeat (first | (with_reducible first | exact HB.out | apply zba | apply zbn | apply zbd) | exact HB.out)⟩⟩
 rw [if_neg c5] at H
 have c5b0 : decide ((rd l0 x5_1) < a1) = false := zdf c5
 clear c5
 by_cases c7 : (rd l0 x5_1) = a1
 · rw [if_pos c7] at H
   have c7b0 : ((rd l0 x5_1) == a1) = true := beq_iff_eq.mpr c7
   have c7b1 : ((rd l0 x5_1) != a1) = false := bne_eq_false_iff_eq.mpr c7
   clear c7
   obtain rfl := zsi H
   obtain ⟨Ao8, co8, eo8⟩ := Kd.R_slice HO_0.out
   subst eo8
   have p101 : 0 ≤ (x5_1 : Int) := zde (by assumption)
   have q101 : x5_1 < (l0.length : Int) := zde (by assumption)
   obtain ⟨ad101, e101, hx101_0⟩ := Kd.at_int (zRr HO_0.out).2.2 x5_1 p101 q101
   cases e101
   replace p101 := eq_true p101
   replace q101 := eq_true q101
   have p102 : 0 ≤ (x5_1 : Int) := zde (by assumption)
   have q102 : x5_1 < (l0.length : Int) := zde (by assumption)
   obtain ⟨ad102, e102, hx102_0⟩ := Kd.at_int (zRr HO_0.out).2.2 x5_1 p102 q102
   obtain rfl : ad101 = ad102 := (by injection e102)
   replace p102 := eq_true p102
   replace q102 := eq_true q102
   go_wp2
   go_ret
   exact ⟨_, by first | rfl | (simp [errW_none, errW_some] <;> rfl) | (simp [*, errW_none, errW_some] <;> rfl), by (with_reducible repeat (first | apply zRa | apply zRn | apply zRd)); exact HO_0.out, by repeat (first | (with_reducible first | exact HB.out | apply zba | apply zbn | apply zbd) | exact HB.out), by repeat (first | (with_reducible first | exact HK.out | apply Kept.alloc | apply Kept.drewN | apply Kept.drew) | exact HK.out)⟩
 rw [if_neg c7] at H
 have c7b0 : ((rd l0 x5_1) == a1) = false := beq_eq_false_iff_ne.mpr c7
 have c7b1 : ((rd l0 x5_1) != a1) = true := bne_iff_ne.mpr c7
 obtain ⟨y103, hy103⟩ : ∃ y_ : List Int, y_ = (([] : List Int)) := ⟨_, rfl⟩
 replace H : (if x5_1 ≤ (l0.length : Int) then ((some (l0.take (x5_1 : Int).toNat : List Int)).bind fun y106 => (if y103.length + y106.length < 17592186044416 then ((some (y103 ++ y106 : List Int)).bind fun y110 => (if y110.length < 17592186044416 then ((some (y110 ++ [a1] : List Int)).bind fun y113 => ((some (l0.drop (x5_1 : Int).toNat : List Int)).bind fun y116 => (if y113.length + y116.length < 17592186044416 then (some (y113 ++ y116)) else (none)))) else (none))) else (none))) else (none)) = some r := by first | (rw [hy103]; with_reducible exact H) | (have H2_ := (Option.bind_some _ _).symm.trans H; rw [hy103]; with_reducible exact H2_) | (have H2_ := (Option.bind_some _ _).symm.trans H; with_reducible exact H2_) | with_reducible exact H | (rw [hy103]; exact H) | exact H
 have Ny103 := zA hy103
 clear hy103
 have c9b0 := eq_true (zde (by assumption) : 0 ≤ x5_1)
 by_cases c10 : x5_1 ≤ (l0.length : Int)
 rotate_left
 · rw [if_neg c10] at H
   exact absurd H (by simp)
 rw [if_pos c10] at H
 have c10b0 := eq_true c10
 have c10b1 : decide (x5_1 ≤ (l0.length : Int)) = true := zdt c10
 clear c10
 obtain ⟨y106, hy106⟩ : ∃ y_ : List Int, y_ = (l0.take (x5_1 : Int).toNat) := ⟨_, rfl⟩
 replace H : (if y103.length + y106.length < 17592186044416 then ((some (y103 ++ y106 : List Int)).bind fun y110 => (if y110.length < 17592186044416 then ((some (y110 ++ [a1] : List Int)).bind fun y113 => ((some (l0.drop (x5_1 : Int).toNat : List Int)).bind fun y116 => (if y113.length + y116.length < 17592186044416 then (some (y113 ++ y116)) else (none)))) else (none))) else (none)) = some r := by first | (rw [hy106]; with_reducible exact H) | (have H2_ := (Option.bind_some _ _).symm.trans H; rw [hy106]; with_reducible exact H2_) | (have H2_ := (Option.bind_some _ _).symm.trans H; with_reducible exact H2_) | with_reducible exact H | (rw [hy106]; exact H) | exact H
 have Ny106 := zA hy106
 clear hy106
 by_cases c11 : y103.length + y106.length < 17592186044416
 rotate_left
 · rw [if_neg c11] at H
   exact absurd H (by simp)
 rw [if_pos c11] at H
 have LMc11 := zA c11
 clear c11
 obtain ⟨y110, hy110⟩ : ∃ y_ : List Int, y_ = (y103 ++ y106) := ⟨_, rfl⟩
 replace H : (if y110.length < 17592186044416 then ((some (y110 ++ [a1] : List Int)).bind fun y113 => ((some (l0.drop (x5_1 : Int).toNat : List Int)).bind fun y116 => (if y113.length + y116.length < 17592186044416 then (some (y113 ++ y116)) else (none)))) else (none)) = some r := by first | (rw [hy110]; with_reducible exact H) | (have H2_ := (Option.bind_some _ _).symm.trans H; rw [hy110]; with_reducible exact H2_) | (have H2_ := (Option.bind_some _ _).symm.trans H; with_reducible exact H2_) | with_reducible exact H | (rw [hy110]; exact H) | exact H
 have Ny110 := zA hy110
 clear hy110
 by_cases c12 : y110.length < 17592186044416
 rotate_left
 · rw [if_neg c12] at H
   exact absurd H (by simp)
 rw [if_pos c12] at H
 have LMc12 := zA c12
 clear c12
 obtain ⟨y113, hy113⟩ : ∃ y_ : List Int, y_ = (y110 ++ [a1]) := ⟨_, rfl⟩
 replace H : ((some (l0.drop (x5_1 : Int).toNat : List Int)).bind fun y116 => (if y113.length + y116.length < 17592186044416 then (some (y113 ++ y116)) else (none))) = some r := by first | (rw [hy113]; with_reducible exact H) | (have H2_ := (Option.bind_some _ _).symm.trans H; rw [hy113]; with_reducible exact H2_) | (have H2_ := (Option.bind_some _ _).symm.trans H; with_reducible exact H2_) | with_reducible exact H | (rw [hy113]; exact H) | exact H
 have Ny113 := zA hy113
 clear hy113
 have c13b0 := eq_true (zde (by assumption) : 0 ≤ x5_1)
 have c14b0 := eq_true (zde (by assumption) : x5_1 ≤ (l0.length : Int))
 obtain ⟨y116, hy116⟩ : ∃ y_ : List Int, y_ = (l0.drop (x5_1 : Int).toNat) := ⟨_, rfl⟩
 replace H : (if y113.length + y116.length < 17592186044416 then (some (y113 ++ y116)) else (none)) = some r := by first | (rw [hy116]; with_reducible exact H) | (have H2_ := (Option.bind_some _ _).symm.trans H; rw [hy116]; with_reducible exact H2_) | (have H2_ := (Option.bind_some _ _).symm.trans H; with_reducible exact H2_) | with_reducible exact H | (rw [hy116]; exact H) | exact H
 have Ny116 := zA hy116
 clear hy116
 by_cases c15 : y113.length + y116.length < 17592186044416
 rotate_left
 · rw [if_neg c15] at H
   exact absurd H (by simp)
 rw [if_pos c15] at H
 have LMc15 := zA c15
 clear c15
 obtain ⟨y120, hy120⟩ : ∃ y_ : List Int, y_ = (y113 ++ y116) := ⟨_, rfl⟩
 replace H : (some y120) = some r := by first | (rw [hy120]; with_reducible exact H) | (have H2_ := (Option.bind_some _ _).symm.trans H; rw [hy120]; with_reducible exact H2_) | (have H2_ := (Option.bind_some _ _).symm.trans H; with_reducible exact H2_) | with_reducible exact H | (rw [hy120]; exact H) | exact H
 have Ny120 := zA hy120
 clear hy120
 obtain rfl := zsi H
 obtain ⟨Ao16, co16, eo16⟩ := Kd.R_slice HO_0.out
 subst eo16
 have p101 : 0 ≤ (x5_1 : Int) := zde (by assumption)
 have q101 : x5_1 < (l0.length : Int) := zde (by assumption)
 obtain ⟨ad101, e101, hx101_0⟩ := Kd.at_int (zRr HO_0.out).2.2 x5_1 p101 q101
 cases e101
 replace p101 := eq_true p101
 replace q101 := eq_true q101
 have p102 : 0 ≤ (x5_1 : Int) := zde (by assumption)
 have q102 : x5_1 < (l0.length : Int) := zde (by assumption)
 obtain ⟨ad102, e102, hx102_0⟩ := Kd.at_int (zRr HO_0.out).2.2 x5_1 p102 q102
 obtain rfl : ad101 = ad102 := (by injection e102)
 replace p102 := eq_true p102
 replace q102 := eq_true q102
 go_wp2_with (first | ((with_reducible refine gate_dst (N := 34) rfl ?_); refine Kd.R_lit (Kd.int .i64) _ 3 ?hg (N := 34) ?hd (xs := ([] : List Int)) (inner := []) (ok := fun _ => True) (okp := fun _ => True) ?hr ?hp (fun _ hk => hk) trivial (Below.refl _ _) (zlr _) (by simp) ?_; (case hd => rfl); (case hg => rfl); (case hr => go_simp <;> rfl); (case hp => exact (Reps.none _ _)); intro v104 w17 ho18 hb hg_ hnew_; clear hg_ hnew_; (first | rw [← Ny103.out] at ho18 | (simp only [Int.reduceToNat] at ho18; rw [← Ny103.out] at ho18)); have n0_ := zA (Kd.R_elder' (by (with_reducible repeat (first | apply zRa | apply zRn | apply zRd)); exact HO_0.out) (Kd.R_base ho18) hb); have n1_ := zA (Kd.R_lower (Kd.R_new' (Kd.R_newM (M := fun k_ => (P0_ k_ ∨ w.heap.size ≤ k_)) ho18 (by first | exact HK.out.1 | exact (show Kept w _ (fun k_ => P0_ k_) from by repeat (first | (with_reducible first | exact HK.out | apply Kept.alloc | apply Kept.drewN | apply Kept.drew) | exact HK.out)).1) (fun k_ h_ => .inr h_)) (Kd.R_lt (by (with_reducible repeat (first | apply zRa | apply zRn | apply zRd)); exact HO_0.out))) (below_size (by repeat (first | (with_reducible first | exact HB.out | apply zba | apply zbn | apply zbd) | exact HB.out)))); have n2_ := zA (Kept.below (S := (fun k_ => P0_ k_)) (by repeat (first | (with_reducible first | exact HK.out | apply Kept.alloc | apply Kept.drewN | apply Kept.drew) | exact HK.out)) hb); have n3_ := zA (below_step (by repeat (first | (with_reducible first | exact HB.out | apply zba | apply zbn | apply zbd) | exact HB.out)) hb); clear HO_0; clear HK; clear HB; have HO_0 := n0_; have HO105 := n1_; have HK := n2_; have HB := n3_; clear n0_ n1_ n2_ n3_; clear hb ho18; have q19 : (x5_1 : Int) ≤ ((l0.length : Int) : Int) := zde (by assumption); obtain ⟨i019, hi019, _, hsz19, _⟩ := info_parts info3; have hroom19 : l0.length ≤ co16 := (zRr HO_0.out).2.1; have hC19 : Kd.C (Kd.int .i64) _ (some ad101) l0.length l0 := (zRr HO_0.out).2.2; have hcut19 := cut_to (P := Try.prog) 34 3 .i64 Try.underlying34 hi019 (some ad101) l0.length co16 x5_1 (zde (by assumption)) q19 hroom19; have hr19 := Kd.C_take (m := (x5_1 : Int).toNat) hC19 (by omega); have hy19 : y106.length = (x5_1 : Int).toNat := (by rw [Ny106.out, List.length_take]; omega); rw [← Ny106.out] at hr19; rw [← hy19] at hcut19; have HR109 := zA hr19; have HC109 := zA (show y106.length ≤ co16 from by omega); clear hr19 hC19 hroom19 hi019 hsz19; have KY19 := zA hy19; clear hy19; have KL19 := zA (show (x5_1 : Int).toNat ≤ l0.length from by omega); replace q19 := eq_true q19) | ((with_reducible refine gate_builtin (b := .append) (xs := #[.tmp 34, .tmp 37]) rfl ?_); at_builtin; refine Kd.R_append_rows (Kd.int .i64) (w0 := w0) w0.heap.size rfl (.tmp 34) (.tmp 37) 34 3 (.int .i64 0) 8 rfl Try.underlying34 info3 rfl (by decide) (by omega) v104 y103 y106 _ _ _ (fun k_ => (P0_ k_ ∨ w.heap.size ≤ k_) ∧ some k_ ≠ (.slice (some ad101) l0.length co16 : Value).ownBlock) (fun _ => False) rfl rfl ?aO ?aR (fun _ _ h => h) (fun _ h => h.elim) ?aF ?aB ?aS ?aL ?_; (case aR => repeat (first | exact (by repeat (first | (with_reducible exact HR109.out) | (with_reducible first | refine zCa ?_ _ | refine zCn ?_ _ | refine zCd ?_) | exact HR109.out)) | (with_reducible first | refine zCa ?_ _ | refine zCn ?_ _ | refine zCd ?_))); (case aB => exact (by repeat (first | (with_reducible first | exact HB.out | apply zba | apply zbn | apply zbd) | exact HB.out))); (case aF => exact (fun k_ hk => ⟨(.inr (Nat.le_trans (by first | exact HK.out.1 | exact (show Kept w _ (fun k_ => P0_ k_) from by repeat (first | (with_reducible first | exact HK.out | apply Kept.alloc | apply Kept.drewN | apply Kept.drew) | exact HK.out)).1) hk)), Kd.fresh' (Kd.R_lt (by (with_reducible repeat (first | apply zRa | apply zRn | apply zRd)); exact HO_0.out)) k_ hk⟩)); (case aO => exact (by (with_reducible repeat (first | apply zRa | apply zRn | apply zRd)); exact Kd.R_mono HO105.out (fun _ hk => ⟨hk.1.1, hk.2⟩))); (case aS => exact (below_size (by repeat (first | (with_reducible first | exact HB.out | apply zba | apply zbn | apply zbd) | exact HB.out)))); (case aL => have := LMc11.out; omega); intro v111 w20 ho hb hg hat; rw [← Ny110.out] at ho; have n0_ := zA (Kd.R_after (ok := (fun k_ => (P0_ k_ ∨ w.heap.size ≤ k_))) (by (with_reducible repeat (first | apply zRa | apply zRn | apply zRd)); exact HO_0.out) hg hat); have n1_ := zA (hb); have n2_ := zA (Kept.of_grown (S := (fun k_ => P0_ k_)) hg (by repeat (first | (with_reducible first | exact HK.out | apply Kept.alloc | apply Kept.drewN | apply Kept.drew) | exact HK.out)) (fun k_ e_ => (HO105.out.1 k_ e_).1.1)); have n3_ := zA ((show Kd.C (Kd.int .i64) w20 (some ad101) y106.length y106 from by rw [Ny106.out]; exact Kd.C_take (m := (x5_1 : Int).toNat) ((zRr (Kd.R_after (ok := (fun k_ => (P0_ k_ ∨ w.heap.size ≤ k_))) (by (with_reducible repeat (first | apply zRa | apply zRn | apply zRd)); exact HO_0.out) hg hat)).2.2) KL19.out)); have n4_ := zA (ho); clear HO_0 HB; clear HK; clear HR109 HO105; have HO_0 := n0_; have HB := n1_; have HK := n2_; have HR109 := n3_; have HO112 := n4_; clear n0_ n1_ n2_ n3_ n4_; clear ho hb hg hat) | ((with_reducible refine gate_builtin (b := .append) (xs := #[.tmp 39, .tmp 41]) rfl ?_); at_builtin; refine Kd.R_append (Kd.int .i64) (w0 := w0) w0.heap.size rfl (.tmp 39) (.tmp 41) 34 3 (.int .i64 0) 8 rfl Try.underlying34 info3 rfl (by decide) (by omega) v111 y110 a1 [.int .i64 a1] (fun k_ => (P0_ k_ ∨ w.heap.size ≤ k_) ∧ some k_ ≠ (.slice (some ad101) l0.length co16 : Value).ownBlock) (fun _ => False) rfl rfl ?aP (fun _ hk => hk.elim) ?aF ?aO ?aB ?aS ?aL ?_; (case aP => exact rfl); (case aB => exact (by repeat (first | (with_reducible first | exact HB.out | apply zba | apply zbn | apply zbd) | exact HB.out))); (case aF => exact (fun k_ hk => ⟨(.inr (Nat.le_trans (by first | exact HK.out.1 | exact (show Kept w _ (fun k_ => P0_ k_) from by repeat (first | (with_reducible first | exact HK.out | apply Kept.alloc | apply Kept.drewN | apply Kept.drew) | exact HK.out)).1) hk)), Kd.fresh' (Kd.R_lt (by (with_reducible repeat (first | apply zRa | apply zRn | apply zRd)); exact HO_0.out)) k_ hk⟩)); (case aO => exact (by (with_reducible repeat (first | apply zRa | apply zRn | apply zRd)); exact HO112.out)); (case aS => exact (below_size (by repeat (first | (with_reducible first | exact HB.out | apply zba | apply zbn | apply zbd) | exact HB.out)))); (case aL => have := LMc12.out; omega); intro v114 w21 ho hb hg hat; rw [← Ny113.out] at ho; have n0_ := zA (Kd.R_after (ok := (fun k_ => (P0_ k_ ∨ w.heap.size ≤ k_))) (by (with_reducible repeat (first | apply zRa | apply zRn | apply zRd)); exact HO_0.out) hg hat); have n1_ := zA (hb); have n2_ := zA (Kept.of_grown (S := (fun k_ => P0_ k_)) hg (by repeat (first | (with_reducible first | exact HK.out | apply Kept.alloc | apply Kept.drewN | apply Kept.drew) | exact HK.out)) (fun k_ e_ => (HO112.out.1 k_ e_).1)); have n3_ := zA ((show Kd.C (Kd.int .i64) w21 (some ad101) y106.length y106 from by rw [Ny106.out]; exact Kd.C_take (m := (x5_1 : Int).toNat) ((zRr (Kd.R_after (ok := (fun k_ => (P0_ k_ ∨ w.heap.size ≤ k_))) (by (with_reducible repeat (first | apply zRa | apply zRn | apply zRd)); exact HO_0.out) hg hat)).2.2) KL19.out)); have n4_ := zA (ho); clear HO_0 HB; clear HK; clear HR109 HO112; have HO_0 := n0_; have HB := n1_; have HK := n2_; have HR109 := n3_; have HO115 := n4_; clear n0_ n1_ n2_ n3_ n4_; clear ho hb hg hat; have q22 : (x5_1 : Int) ≤ ((l0.length : Int) : Int) := zde (by assumption); obtain ⟨i022, hi022, _, hsz22, _⟩ := info_parts info3; have hroom22 : l0.length ≤ co16 := (zRr HO_0.out).2.1; have hC22 : Kd.C (Kd.int .i64) _ (some ad101) l0.length l0 := (zRr HO_0.out).2.2; have q022 : (0 : Int) ≤ (x5_1 : Int) := zde (by assumption); have hcut22 := cut_from (P := Try.prog) 34 3 .i64 Try.underlying34 hi022 1 hsz22 (some ad101) l0.length co16 x5_1 q022 q22; have hr22 := Kd.C_drop (m := (x5_1 : Int).toNat) (c := co16) hC22 (by omega) hroom22; obtain ⟨A22, hA22⟩ : ∃ A1, A1 = (if co16 = (x5_1 : Int).toNat then (some ad101) else ((some ad101) : Option Addr).map (·.add ((x5_1 : Int).toNat * 1))) := ⟨_, rfl⟩; obtain ⟨c22, hc22⟩ : ∃ c1, c1 = co16 - (x5_1 : Int).toNat := ⟨_, rfl⟩; have hy22 : y116.length = l0.length - (x5_1 : Int).toNat := (by rw [Ny116.out, List.length_drop] <;> omega); rw [show (l0).drop (x5_1 : Int).toNat = y116 from Ny116.out.symm] at hr22; replace hr22 : Kd.C (Kd.int .i64) _ A22 y116.length y116 := (by rw [hA22]; exact hr22); rw [← hy22, ← hA22, ← hc22] at hcut22; have HR119 := zA hr22; have HC119 := zA (show y116.length ≤ c22 from by rw [hy22, hc22]; exact Nat.sub_le_sub_right hroom22 _); clear hr22 hC22 hroom22 hi022 hsz22 hc22; have KY22 := zA hy22; have KA22 := zA hA22; clear hy22 hA22; have KL22 := zA (show (x5_1 : Int).toNat ≤ l0.length from by omega); replace q22 := eq_true q22) | ((with_reducible refine gate_builtin (b := .append) (xs := #[.tmp 43, .tmp 46]) rfl ?_); at_builtin; refine Kd.R_append_rows (Kd.int .i64) (w0 := w0) w0.heap.size rfl (.tmp 43) (.tmp 46) 34 3 (.int .i64 0) 8 rfl Try.underlying34 info3 rfl (by decide) (by omega) v114 y113 y116 _ _ _ (fun k_ => (P0_ k_ ∨ w.heap.size ≤ k_) ∧ some k_ ≠ (.slice (some ad101) l0.length co16 : Value).ownBlock) (fun _ => False) rfl rfl ?aO ?aR (fun _ _ h => h) (fun _ h => h.elim) ?aF ?aB ?aS ?aL ?_; (case aR => repeat (first | exact (by repeat (first | (with_reducible exact HR119.out) | (with_reducible first | refine zCa ?_ _ | refine zCn ?_ _ | refine zCd ?_) | exact HR119.out)) | (with_reducible first | refine zCa ?_ _ | refine zCn ?_ _ | refine zCd ?_))); (case aB => exact (by repeat (first | (with_reducible first | exact HB.out | apply zba | apply zbn | apply zbd) | exact HB.out))); (case aF => exact (fun k_ hk => ⟨(.inr (Nat.le_trans (by first | exact HK.out.1 | exact (show Kept w _ (fun k_ => P0_ k_) from by repeat (first | (with_reducible first | exact HK.out | apply Kept.alloc | apply Kept.drewN | apply Kept.drew) | exact HK.out)).1) hk)), Kd.fresh' (Kd.R_lt (by (with_reducible repeat (first | apply zRa | apply zRn | apply zRd)); exact HO_0.out)) k_ hk⟩)); (case aO => exact (by (with_reducible repeat (first | apply zRa | apply zRn | apply zRd)); exact HO115.out)); (case aS => exact (below_size (by repeat (first | (with_reducible first | exact HB.out | apply zba | apply zbn | apply zbd) | exact HB.out)))); (case aL => have := LMc15.out; omega); intro v121 w23 ho hb hg hat; rw [← Ny120.out] at ho; have n0_ := zA (Kd.R_after (ok := (fun k_ => (P0_ k_ ∨ w.heap.size ≤ k_))) (by (with_reducible repeat (first | apply zRa | apply zRn | apply zRd)); exact HO_0.out) hg hat); have n1_ := zA (hb); have n2_ := zA (Kept.of_grown (S := (fun k_ => P0_ k_)) hg (by repeat (first | (with_reducible first | exact HK.out | apply Kept.alloc | apply Kept.drewN | apply Kept.drew) | exact HK.out)) (fun k_ e_ => (HO115.out.1 k_ e_).1)); have n3_ := zA ((show Kd.C (Kd.int .i64) w23 (some ad101) y106.length y106 from by rw [Ny106.out]; exact Kd.C_take (m := (x5_1 : Int).toNat) ((zRr (Kd.R_after (ok := (fun k_ => (P0_ k_ ∨ w.heap.size ≤ k_))) (by (with_reducible repeat (first | apply zRa | apply zRn | apply zRd)); exact HO_0.out) hg hat)).2.2) KL19.out)); have n4_ := zA ((show Kd.C (Kd.int .i64) w23 A22 y116.length y116 from by rw [Ny116.out, KA22.out]; exact Kd.C_drop (m := (x5_1 : Int).toNat) (c := co16) ((zRr (Kd.R_after (ok := (fun k_ => (P0_ k_ ∨ w.heap.size ≤ k_))) (by (with_reducible repeat (first | apply zRa | apply zRn | apply zRd)); exact HO_0.out) hg hat)).2.2) KL22.out ((zRr (Kd.R_after (ok := (fun k_ => (P0_ k_ ∨ w.heap.size ≤ k_))) (by (with_reducible repeat (first | apply zRa | apply zRn | apply zRd)); exact HO_0.out) hg hat)).2.1))); have n5_ := zA (ho); clear HO_0 HB; clear HK; clear HR109 HR119 HO115; have HO_0 := n0_; have HB := n1_; have HK := n2_; have HR109 := n3_; have HR119 := n4_; have HO122 := n5_; clear n0_ n1_ n2_ n3_ n4_ n5_; clear ho hb hg hat))
 go_ret
 exact ⟨_, by first | rfl | (simp [errW_none, errW_some] <;> rfl) | (simp [*, errW_none, errW_some] <;> rfl), by (with_reducible repeat (first | apply zRa | apply zRn | apply zRd)); exact Kd.R_mono HO122.out (fun _ hk => hk.1), by repeat (first | (with_reducible first | exact HB.out | apply zba | apply zbn | apply zbd) | exact HB.out), by repeat (first | (with_reducible first | exact HK.out | apply Kept.alloc | apply Kept.drewN | apply Kept.drew) | exact HK.out)⟩
def spec_cdReads.f (k : Nat) (a0_0 : ByteArray) (a0_1 : Int) (a0_2 : Int) (a0_3 : Int) (a0_4 : Int) : Option (List Int) := (spec_cdShape.f k a0_0).bind fun bt102 => (if bt102.2.1 = true then ((spec_l1Put.f k ([] : List Int) a0_2).bind fun t107 => (if bt102.2.2.1 = true then ((spec_l1Put.f k t107 a0_3).bind fun t110 => (some t110)) else (some t107))) else (if bt102.2.2.1 = true then ((spec_l1Put.f k ([] : List Int) a0_3).bind fun t113 => (some t113)) else (some ([] : List Int))))
theorem spec_cdReads.mono : ∀ a0 a1 a2 a3 a4 k, LeO (spec_cdReads.f k a0 a1 a2 a3 a4) (spec_cdReads.f (k + 1) a0 a1 a2 a3 a4) := by
 intro a0 a1 a2 a3 a4 k
 unfold spec_cdReads.f
 repeat' first
     | (with_reducible first | exact spec_cdShape.mono _ _ | exact spec_l1Put.mono _ _ _ | exact LeO.refl _ | exact LeO.none _ | refine LeO.ite ?_ ?_ | refine LeO.bind ?_ (fun _ => ?_))
     | exact LeO.none _
     | refine LeO.ite ?_ ?_
     | refine LeO.bind ?_ (fun _ => ?_)
set_option maxHeartbeats 8000000 in
set_option maxRecDepth 100000 in
theorem spec_cdReads.calls (k : Nat) (a0_0 : ByteArray) (a0_1 : Int) (a0_2 : Int) (a0_3 : Int) (a0_4 : Int) (r : List Int) (w : World) (h : spec_cdReads.f k a0_0 a0_1 a0_2 a0_3 a0_4 = some r) :
   Calls Try.prog 103 #[.agg #[.string a0_0, .int .i64 a0_1, .int .i64 a0_2, .int .i64 a0_3, .int .i64 a0_4]] w fun e w' => ∃ v0_ : Value, e = .returned (v0_) ∧ Kd.R (Kd.int .i64) 3 w' w.heap.size (fun _ => True) v0_ r ∧ Below w.heap.size w w' := by
 have hu57 := Try.underlying57
 have HB := zA (Below.refl w.heap.size w)
 have H : ((spec_cdShape.f k a0_0).bind fun bt102 => (if bt102.2.1 = true then ((spec_l1Put.f k ([] : List Int) a0_2).bind fun t107 => (if bt102.2.2.1 = true then ((spec_l1Put.f k t107 a0_3).bind fun t110 => (some t110)) else (some t107))) else (if bt102.2.2.1 = true then ((spec_l1Put.f k ([] : List Int) a0_3).bind fun t113 => (some t113)) else (some ([] : List Int))))) = some r := h
 clear h
 replace H := zob H
 obtain ⟨⟨t102, t103, t104, t105, t106⟩, A20, H⟩ := H
 replace H : (if t103 = true then ((spec_l1Put.f k ([] : List Int) a0_2).bind fun t107 => (if t104 = true then ((spec_l1Put.f k t107 a0_3).bind fun t110 => (some t110)) else (some t107))) else (if t104 = true then ((spec_l1Put.f k ([] : List Int) a0_3).bind fun t113 => (some t113)) else (some ([] : List Int)))) = some r := H
 have A2 := zA A20
 clear A20
 by_cases c3 : t103 = true
 rotate_left
 · replace c3 := zbf c3
   subst c3
   replace H : (if t104 = true then ((spec_l1Put.f k ([] : List Int) a0_3).bind fun t113 => (some t113)) else (some ([] : List Int))) = some r := by rw [if_neg (show ¬ (false = true) by decide)] at H; exact H
   by_cases c16 : t104 = true
   rotate_left
   · replace c16 := zbf c16
     subst c16
     replace H : (some ([] : List Int)) = some r := by rw [if_neg (show ¬ (false = true) by decide)] at H; exact H
     obtain rfl := zsi H
     go_enter Try.func103, Try.ntmps103
     go_wp2_with (first | ((with_reducible refine gate_dst (N := 1) rfl ?_); refine box_event ?hg (N := 1) ?hd (cs := #[.string a0_0, .int .i64 a0_1, .int .i64 a0_2, .int .i64 a0_3, .int .i64 a0_4]) (t := 57) ?hr ?_; (case hd => rfl); (case hg => rfl); (case hr => go_simp <;> rfl); intro gb101 hg w21 hbox hb; have zs := zpair (by repeat (first | (with_reducible first | exact HB.out | apply zba | apply zbn | apply zbd) | exact HB.out)) hb; have n0_ := zA (zs.1); have n1_ := zA (hbox); have n2_ := zA ((by rw [hg]; exact zs.2 : w.heap.size ≤ gb101)); have n3_ := n2_; clear HB; have HB := n0_; have BK101 := n1_; have GW101 := n2_; have GE101 := n3_; clear n0_ n1_ n2_ n3_; clear zs hb hbox hg; obtain ⟨hcz22_0, hcz22_1, hcz22_2, hcz22_3, hcz22_4⟩ := zc5 w21 (.string a0_0) (.int .i64 a0_1) (.int .i64 a0_2) (.int .i64 a0_3) (.int .i64 a0_4) BK101.out; obtain ⟨hfz22_0, hfz22_1, hfz22_2, hfz22_3, hfz22_4⟩ := zf5 BK101.out) | ((with_reducible refine gate_callee (f := 115) rfl ?_); refine goesL_ (some 12) rfl rfl Try.func115 (by kernel_rfl) rfl #[.string a0_0] rfl (by (try simp only [List.map_toArray, List.map_cons, List.map_nil]); first | done | rfl | (simp only [List.length_drop, List.length_take]; rfl)) ?_; (with_reducible refine (spec_cdShape.calls k a0_0 t102 false false t105 t106 _ A2.out).mono ?_); rintro e w' ⟨rfl, ⟨nd, rfl⟩⟩; refine ⟨_, rfl, ?_⟩))
     go_ret
     exact ⟨_, by first | rfl | (simp [errW_none, errW_some] <;> rfl) | (simp [*, errW_none, errW_some] <;> rfl), by first | exact Kd.R_nil _ _ _ _ _ | exact Kd.N_nil _ _ _ _ _ | exact Kd.V_nil _ _ _ _ _ | exact Kd.Q_nil _ _ _ _ _ | exact Kd.S_nil _ _ _ _ _, by repeat (first | (with_reducible first | exact HB.out | apply zba | apply zbn | apply zbd | refine below_set ?_ GE101.out) | exact HB.out)⟩
   subst c16
   replace H : ((spec_l1Put.f k ([] : List Int) a0_3).bind fun t113 => (some t113)) = some r := by rw [if_pos rfl] at H; exact H
   replace H := zob H
   obtain ⟨t113, A170, H⟩ := H
   replace H : (some t113) = some r := H
   have A17 := zA A170
   clear A170
   obtain rfl := zsi H
   go_enter Try.func103, Try.ntmps103
   go_wp2_with (first | ((with_reducible refine gate_dst (N := 1) rfl ?_); refine box_event ?hg (N := 1) ?hd (cs := #[.string a0_0, .int .i64 a0_1, .int .i64 a0_2, .int .i64 a0_3, .int .i64 a0_4]) (t := 57) ?hr ?_; (case hd => rfl); (case hg => rfl); (case hr => go_simp <;> rfl); intro gb101 hg w18 hbox hb; have zs := zpair (by repeat (first | (with_reducible first | exact HB.out | apply zba | apply zbn | apply zbd) | exact HB.out)) hb; have n0_ := zA (zs.1); have n1_ := zA (hbox); have n2_ := zA ((by rw [hg]; exact zs.2 : w.heap.size ≤ gb101)); have n3_ := n2_; clear HB; have HB := n0_; have BK101 := n1_; have GW101 := n2_; have GE101 := n3_; clear n0_ n1_ n2_ n3_; clear zs hb hbox hg; obtain ⟨hcz19_0, hcz19_1, hcz19_2, hcz19_3, hcz19_4⟩ := zc5 w18 (.string a0_0) (.int .i64 a0_1) (.int .i64 a0_2) (.int .i64 a0_3) (.int .i64 a0_4) BK101.out; obtain ⟨hfz19_0, hfz19_1, hfz19_2, hfz19_3, hfz19_4⟩ := zf5 BK101.out) | ((with_reducible refine gate_callee (f := 115) rfl ?_); refine goesL_ (some 12) rfl rfl Try.func115 (by kernel_rfl) rfl #[.string a0_0] rfl (by (try simp only [List.map_toArray, List.map_cons, List.map_nil]); first | done | rfl | (simp only [List.length_drop, List.length_take]; rfl)) ?_; (with_reducible refine (spec_cdShape.calls k a0_0 t102 false true t105 t106 _ A2.out).mono ?_); rintro e w' ⟨rfl, ⟨nd, rfl⟩⟩; refine ⟨_, rfl, ?_⟩) | ((with_reducible refine gate_callee (f := 117) rfl ?_); refine goesL_ (some 27) rfl rfl Try.func117 (by kernel_rfl) rfl #[.slice none 0 0, .int .i64 a0_3] rfl (by (try simp only [List.map_toArray, List.map_cons, List.map_nil]); first | done | rfl | (simp only [List.length_drop, List.length_take]; rfl)) ?_; (refine (spec_l1Put.calls k (fun k_ => some k_ = (.slice none 0 0 : Value).ownBlock) (.slice none 0 0) ([] : List Int) a0_3 t113 w _ ?side1 ?side2 A17.out).mono ?_); (case side1 => repeat (first | (with_reducible first | exact HB.out | apply zba | apply zbn | apply zbd | refine below_set ?_ GE101.out) | exact HB.out)); (case side2 => exact Kd.R_nil _ _ _ _ _); rintro e w20 ⟨v114, rfl, ho0, hb, hkp⟩; refine ⟨_, rfl, ?_⟩; have n0_ := zA (blk_kept (by (with_reducible repeat (first | refine zkn ?_ _ | refine zkd ?_ | refine zka ?_ _)); exact BK101.out) hkp (fun hs_ => (fun e_ => by simp [Value.ownBlock] at e_) hs_)); have n1_ := zA (Kd.R_mono (ok' := fun k_ => True) ho0 (fun k_ hk_ => trivial)); have n2_ := zA (hb); clear BK101 HB; have BK101 := n0_; have HO115 := n1_; have HB := n2_; clear n0_ n1_ n2_; (try clear hb); (try clear hkp); (try clear ho0)))
   go_ret
   exact ⟨_, by first | rfl | (simp [errW_none, errW_some] <;> rfl) | (simp [*, errW_none, errW_some] <;> rfl), by (with_reducible repeat (first | apply zRa | apply zRn | apply zRd)); exact HO115.out, by repeat (first | (with_reducible first | exact HB.out | apply zba | apply zbn | apply zbd | refine below_set ?_ GE101.out) | exact HB.out)⟩
 subst c3
 replace H : ((spec_l1Put.f k ([] : List Int) a0_2).bind fun t107 => (if t104 = true then ((spec_l1Put.f k t107 a0_3).bind fun t110 => (some t110)) else (some t107))) = some r := by rw [if_pos rfl] at H; exact H
 replace H := zob H
 obtain ⟨t107, A40, H⟩ := H
 replace H : (if t104 = true then ((spec_l1Put.f k t107 a0_3).bind fun t110 => (some t110)) else (some t107)) = some r := H
 have A4 := zA A40
 clear A40
 by_cases c5 : t104 = true
 rotate_left
 · replace c5 := zbf c5
   subst c5
   replace H : (some t107) = some r := by rw [if_neg (show ¬ (false = true) by decide)] at H; exact H
   obtain rfl := zsi H
   go_enter Try.func103, Try.ntmps103
   go_wp2_with (first | ((with_reducible refine gate_dst (N := 1) rfl ?_); refine box_event ?hg (N := 1) ?hd (cs := #[.string a0_0, .int .i64 a0_1, .int .i64 a0_2, .int .i64 a0_3, .int .i64 a0_4]) (t := 57) ?hr ?_; (case hd => rfl); (case hg => rfl); (case hr => go_simp <;> rfl); intro gb101 hg w13 hbox hb; have zs := zpair (by repeat (first | (with_reducible first | exact HB.out | apply zba | apply zbn | apply zbd) | exact HB.out)) hb; have n0_ := zA (zs.1); have n1_ := zA (hbox); have n2_ := zA ((by rw [hg]; exact zs.2 : w.heap.size ≤ gb101)); have n3_ := n2_; clear HB; have HB := n0_; have BK101 := n1_; have GW101 := n2_; have GE101 := n3_; clear n0_ n1_ n2_ n3_; clear zs hb hbox hg; obtain ⟨hcz14_0, hcz14_1, hcz14_2, hcz14_3, hcz14_4⟩ := zc5 w13 (.string a0_0) (.int .i64 a0_1) (.int .i64 a0_2) (.int .i64 a0_3) (.int .i64 a0_4) BK101.out; obtain ⟨hfz14_0, hfz14_1, hfz14_2, hfz14_3, hfz14_4⟩ := zf5 BK101.out) | ((with_reducible refine gate_callee (f := 115) rfl ?_); refine goesL_ (some 12) rfl rfl Try.func115 (by kernel_rfl) rfl #[.string a0_0] rfl (by (try simp only [List.map_toArray, List.map_cons, List.map_nil]); first | done | rfl | (simp only [List.length_drop, List.length_take]; rfl)) ?_; (with_reducible refine (spec_cdShape.calls k a0_0 t102 true false t105 t106 _ A2.out).mono ?_); rintro e w' ⟨rfl, ⟨nd, rfl⟩⟩; refine ⟨_, rfl, ?_⟩) | ((with_reducible refine gate_callee (f := 117) rfl ?_); refine goesL_ (some 22) rfl rfl Try.func117 (by kernel_rfl) rfl #[.slice none 0 0, .int .i64 a0_2] rfl (by (try simp only [List.map_toArray, List.map_cons, List.map_nil]); first | done | rfl | (simp only [List.length_drop, List.length_take]; rfl)) ?_; (refine (spec_l1Put.calls k (fun k_ => some k_ = (.slice none 0 0 : Value).ownBlock) (.slice none 0 0) ([] : List Int) a0_2 t107 w _ ?side1 ?side2 A4.out).mono ?_); (case side1 => repeat (first | (with_reducible first | exact HB.out | apply zba | apply zbn | apply zbd | refine below_set ?_ GE101.out) | exact HB.out)); (case side2 => exact Kd.R_nil _ _ _ _ _); rintro e w15 ⟨v108, rfl, ho0, hb, hkp⟩; refine ⟨_, rfl, ?_⟩; have n0_ := zA (blk_kept (by (with_reducible repeat (first | refine zkn ?_ _ | refine zkd ?_ | refine zka ?_ _)); exact BK101.out) hkp (fun hs_ => (fun e_ => by simp [Value.ownBlock] at e_) hs_)); have n1_ := zA (Kd.R_mono (ok' := fun k_ => True) ho0 (fun k_ hk_ => trivial)); have n2_ := zA (hb); clear BK101 HB; have BK101 := n0_; have HO109 := n1_; have HB := n2_; clear n0_ n1_ n2_; (try clear hb); (try clear hkp); (try clear ho0)))
   go_ret
   exact ⟨_, by first | rfl | (simp [errW_none, errW_some] <;> rfl) | (simp [*, errW_none, errW_some] <;> rfl), by (with_reducible repeat (first | apply zRa | apply zRn | apply zRd)); exact HO109.out, by repeat (first | (with_reducible first | exact HB.out | apply zba | apply zbn | apply zbd | refine below_set ?_ GE101.out) | exact HB.out)⟩
 subst c5
 replace H : ((spec_l1Put.f k t107 a0_3).bind fun t110 => (some t110)) = some r := by rw [if_pos rfl] at H; exact H
 replace H := zob H
 obtain ⟨t110, A60, H⟩ := H
 replace H : (some t110) = some r := H
 have A6 := zA A60
 clear A60
 obtain rfl := zsi H
 go_enter Try.func103, Try.ntmps103
 go_wp2_with (first | ((with_reducible refine gate_dst (N := 1) rfl ?_); refine box_event ?hg (N := 1) ?hd (cs := #[.string a0_0, .int .i64 a0_1, .int .i64 a0_2, .int .i64 a0_3, .int .i64 a0_4]) (t := 57) ?hr ?_; (case hd => rfl); (case hg => rfl); (case hr => go_simp <;> rfl); intro gb101 hg w7 hbox hb; have zs := zpair (by repeat (first | (with_reducible first | exact HB.out | apply zba | apply zbn | apply zbd) | exact HB.out)) hb; have n0_ := zA (zs.1); have n1_ := zA (hbox); have n2_ := zA ((by rw [hg]; exact zs.2 : w.heap.size ≤ gb101)); have n3_ := n2_; clear HB; have HB := n0_; have BK101 := n1_; have GW101 := n2_; have GE101 := n3_; clear n0_ n1_ n2_ n3_; clear zs hb hbox hg; obtain ⟨hcz8_0, hcz8_1, hcz8_2, hcz8_3, hcz8_4⟩ := zc5 w7 (.string a0_0) (.int .i64 a0_1) (.int .i64 a0_2) (.int .i64 a0_3) (.int .i64 a0_4) BK101.out; obtain ⟨hfz8_0, hfz8_1, hfz8_2, hfz8_3, hfz8_4⟩ := zf5 BK101.out) | ((with_reducible refine gate_callee (f := 115) rfl ?_); refine goesL_ (some 12) rfl rfl Try.func115 (by kernel_rfl) rfl #[.string a0_0] rfl (by (try simp only [List.map_toArray, List.map_cons, List.map_nil]); first | done | rfl | (simp only [List.length_drop, List.length_take]; rfl)) ?_; (with_reducible refine (spec_cdShape.calls k a0_0 t102 true true t105 t106 _ A2.out).mono ?_); rintro e w' ⟨rfl, ⟨nd, rfl⟩⟩; refine ⟨_, rfl, ?_⟩) | ((with_reducible refine gate_callee (f := 117) rfl ?_); refine goesL_ (some 22) rfl rfl Try.func117 (by kernel_rfl) rfl #[.slice none 0 0, .int .i64 a0_2] rfl (by (try simp only [List.map_toArray, List.map_cons, List.map_nil]); first | done | rfl | (simp only [List.length_drop, List.length_take]; rfl)) ?_; (refine (spec_l1Put.calls k (fun k_ => some k_ = (.slice none 0 0 : Value).ownBlock) (.slice none 0 0) ([] : List Int) a0_2 t107 w _ ?side1 ?side2 A4.out).mono ?_); (case side1 => repeat (first | (with_reducible first | exact HB.out | apply zba | apply zbn | apply zbd | refine below_set ?_ GE101.out) | exact HB.out)); (case side2 => exact Kd.R_nil _ _ _ _ _); rintro e w9 ⟨v108, rfl, ho0, hb, hkp⟩; refine ⟨_, rfl, ?_⟩; have n0_ := zA (blk_kept (by (with_reducible repeat (first | refine zkn ?_ _ | refine zkd ?_ | refine zka ?_ _)); exact BK101.out) hkp (fun hs_ => (fun e_ => by simp [Value.ownBlock] at e_) hs_)); have n1_ := zA (Kd.R_mono (ok' := fun k_ => True) ho0 (fun k_ hk_ => trivial)); have n2_ := zA (hb); clear BK101 HB; have BK101 := n0_; have HO109 := n1_; have HB := n2_; clear n0_ n1_ n2_; (try clear hb); (try clear hkp); (try clear ho0); obtain ⟨hcz10_0, hcz10_1, hcz10_2, hcz10_3, hcz10_4⟩ := zc5 w9 (.string a0_0) (.int .i64 a0_1) (.int .i64 a0_2) (.int .i64 a0_3) (.int .i64 a0_4) BK101.out; obtain ⟨hfz10_0, hfz10_1, hfz10_2, hfz10_3, hfz10_4⟩ := zf5 BK101.out; obtain ⟨Ao11, co11, eo11⟩ := Kd.R_slice HO109.out; subst eo11) | ((with_reducible refine gate_callee (f := 117) rfl ?_); refine goesL_ (some 27) rfl rfl Try.func117 (by kernel_rfl) rfl #[.slice Ao11 t107.length co11, .int .i64 a0_3] rfl (by (try simp only [List.map_toArray, List.map_cons, List.map_nil]); first | done | rfl | (simp only [List.length_drop, List.length_take]; rfl)) ?_; (with_reducible refine (spec_l1Put.calls k (fun k_ => some k_ = (.slice Ao11 t107.length co11 : Value).ownBlock) (.slice Ao11 t107.length co11) t107 a0_3 t110 w _ ?side1 ?side2 A6.out).mono ?_); (case side1 => repeat (first | (with_reducible first | exact HB.out | apply zba | apply zbn | apply zbd | refine below_set ?_ GE101.out) | exact HB.out)); (case side2 => exact Kd.R_tight rfl HO109.out); rintro e w12 ⟨v111, rfl, ho0, hb, hkp⟩; refine ⟨_, rfl, ?_⟩; have n0_ := zA (blk_kept (by (with_reducible repeat (first | refine zkn ?_ _ | refine zkd ?_ | refine zka ?_ _)); exact BK101.out) hkp (fun hs_ => (fun e_ => (Kd.R_ne HO109.out BK101.out (by decide)) e_) hs_)); have n1_ := zA (Kd.R_mono (ok' := fun k_ => True) ho0 (fun k_ hk_ => trivial)); have n2_ := zA (hb); clear BK101 HB HO109; have BK101 := n0_; have HO112 := n1_; have HB := n2_; clear n0_ n1_ n2_; (try clear hb); (try clear hkp); (try clear ho0)))
 go_ret
 exact ⟨_, by first | rfl | (simp [errW_none, errW_some] <;> rfl) | (simp [*, errW_none, errW_some] <;> rfl), by (with_reducible repeat (first | apply zRa | apply zRn | apply zRd)); exact HO112.out, by repeat (first | (with_reducible first | exact HB.out | apply zba | apply zbn | apply zbd | refine below_set ?_ GE101.out) | exact HB.out)⟩
def spec_l1Most.f (a0 : Int) (a1 : Int) : Option (Int) := if a0 > a1 then (some a0) else (some a1)
set_option maxHeartbeats 8000000 in
set_option maxRecDepth 100000 in
theorem spec_l1Most.calls (a0 : Int) (a1 : Int) (r : Int) (w : World) (h : spec_l1Most.f a0 a1 = some r) :
   Calls Try.prog 92 #[.int .i64 a0, .int .i64 a1] w fun e w' => e = .returned (.int .i64 r) ∧ Drawn0 w w' := by
 have H : (if a0 > a1 then (some a0) else (some a1)) = some r := h
 clear h
 by_cases c3 : a0 > a1
 · rw [if_pos c3] at H
   have c3b0 : decide (a1 < a0) = true := zdt c3
   clear c3
   obtain rfl := zsi H
   go_enter Try.func92, Try.ntmps92
   go_wp2
   go_ret
   exact ⟨by first | rfl | (simp; done) | (simp [*]; done), by repeat (first | exact Drawn0.refl _ | apply Drawn0.step)⟩
 · rw [if_neg c3] at H
   have c3b0 : decide (a1 < a0) = false := zdf c3
   clear c3
   obtain rfl := zsi H
   go_enter Try.func92, Try.ntmps92
   go_wp2
   go_ret
   exact ⟨by first | rfl | (simp; done) | (simp [*]; done), by repeat (first | exact Drawn0.refl _ | apply Drawn0.step)⟩
end Go.Proofs.Yteaablbhdmkcpaa.Q
end
section
namespace Go.Proofs.Yteaablbhdmkcpaa.Q
open Go.RowKit Go.Proofs.YteaablbhdmkcpaaW.PrintWords Go.Proofs.YteaablbhdmkcpaaW.PrintLast Go.Proofs.YteaablbhdmkcpaaW.PrintMore
attribute [local go_sem] max2_int min2_int max_two min_two max_three min_three max_four min_four
set_option linter.unusedVariables false
set_option linter.unusedSimpArgs false
mutual
def spec_orDelay.j0 : Nat → List (S57) → Int → Int → Int → ByteArray → Int → Int → Int → Int → ByteArray → Int → Int → Int → Int → Option (Int)
 | 0, _, _, _, _, _, _, _, _, _, _, _, _, _, _ => none
 | k + 1, x0, x1, x2, x9, x104000, x104001, x104002, x104003, x104004, x105000, x105001, x105002, x105003, x105004 => if x104001 = x105001 then (spec_orDelay.j1 k x0 x1 x2 1 x104000 x104001 x104002 x104003 x104004 x105000 x105001 x105002 x105003 x105004) else (spec_orDelay.j1 k x0 x1 x2 x9 x104000 x104001 x104002 x104003 x104004 x105000 x105001 x105002 x105003 x105004)
def spec_orDelay.j1 : Nat → List (S57) → Int → Int → Int → ByteArray → Int → Int → Int → Int → ByteArray → Int → Int → Int → Int → Option (Int)
 | 0, _, _, _, _, _, _, _, _, _, _, _, _, _, _ => none
 | k + 1, x0, x1, x2, x9, x104000, x104001, x104002, x104003, x104004, x105000, x105001, x105002, x105003, x105004 => (spec_cdReads.f k x105000 x105001 x105002 x105003 x105004).bind fun t109 => ((spec_l1Has.f k t109 x104001).bind fun t112 => (if t112 = true then (spec_orDelay.l0 k x0 x1 x2 x9 x1 (wrap64 (x1 + 1)) x104000 x104001 x104002 x104003 x104004) else (some x9)))
def spec_orDelay.l0 : Nat → List (S57) → Int → Int → Int → Int → Int → ByteArray → Int → Int → Int → Int → Option (Int)
 | 0, _, _, _, _, _, _, _, _, _, _, _ => none
 | k + 1, x0, x1, x2, x9, x10, x11, x104000, x104001, x104002, x104003, x104004 => if x11 < x2 then (if 0 ≤ x11 then (if x11 < (x0.length : Int) then (if ((rd_T57 x0 x11).f1) = x104001 then (spec_orDelay.l0 k x0 x1 x2 x9 x11 (wrap64 (x11 + 1)) x104000 x104001 x104002 x104003 x104004) else (spec_orDelay.l0 k x0 x1 x2 x9 x10 (wrap64 (x11 + 1)) x104000 x104001 x104002 x104003 x104004)) else (none)) else (none)) else (if x10 = x1 then ((spec_cdCost.f x104000).bind fun t114 => ((spec_l1Most.f x9 t114).bind fun t115 => (some t115))) else (some x9))
end
def spec_orDelay.f (k : Nat) (l0 : List (S57)) (a1 : Int) (a2 : Int) : Option (Int) := if 0 ≤ a1 then (if a1 < (l0.length : Int) then (if 0 ≤ a2 then (if a2 < (l0.length : Int) then ((spec_cdReads.f k ((rd_T57 l0 a1).f0) ((rd_T57 l0 a1).f1) ((rd_T57 l0 a1).f2) ((rd_T57 l0 a1).f3) ((rd_T57 l0 a1).f4)).bind fun t105 => ((spec_l1Has.f k t105 ((rd_T57 l0 a2).f1)).bind fun t108 => (if t108 = true then (spec_orDelay.j0 k l0 a1 a2 0 ((rd_T57 l0 a1).f0) ((rd_T57 l0 a1).f1) ((rd_T57 l0 a1).f2) ((rd_T57 l0 a1).f3) ((rd_T57 l0 a1).f4) ((rd_T57 l0 a2).f0) ((rd_T57 l0 a2).f1) ((rd_T57 l0 a2).f2) ((rd_T57 l0 a2).f3) ((rd_T57 l0 a2).f4)) else (spec_orDelay.j0 k l0 a1 a2 (-1) ((rd_T57 l0 a1).f0) ((rd_T57 l0 a1).f1) ((rd_T57 l0 a1).f2) ((rd_T57 l0 a1).f3) ((rd_T57 l0 a1).f4) ((rd_T57 l0 a2).f0) ((rd_T57 l0 a2).f1) ((rd_T57 l0 a2).f2) ((rd_T57 l0 a2).f3) ((rd_T57 l0 a2).f4))))) else (none)) else (none)) else (none)) else (none)
theorem spec_orDelay.mono_l : ∀ k, (∀ y0 y1 y2 y3 y4 y5 y6 y7 y8 y9 y10 y11 y12 y13, LeO (spec_orDelay.j0 k y0 y1 y2 y3 y4 y5 y6 y7 y8 y9 y10 y11 y12 y13) (spec_orDelay.j0 (k + 1) y0 y1 y2 y3 y4 y5 y6 y7 y8 y9 y10 y11 y12 y13)) ∧ (∀ y0 y1 y2 y3 y4 y5 y6 y7 y8 y9 y10 y11 y12 y13, LeO (spec_orDelay.j1 k y0 y1 y2 y3 y4 y5 y6 y7 y8 y9 y10 y11 y12 y13) (spec_orDelay.j1 (k + 1) y0 y1 y2 y3 y4 y5 y6 y7 y8 y9 y10 y11 y12 y13)) ∧ (∀ y0 y1 y2 y3 y4 y5 y6 y7 y8 y9 y10, LeO (spec_orDelay.l0 k y0 y1 y2 y3 y4 y5 y6 y7 y8 y9 y10) (spec_orDelay.l0 (k + 1) y0 y1 y2 y3 y4 y5 y6 y7 y8 y9 y10))
 | 0 => ⟨fun _ _ _ _ _ _ _ _ _ _ _ _ _ _ r h => by simp [spec_orDelay.j0] at h, fun _ _ _ _ _ _ _ _ _ _ _ _ _ _ r h => by simp [spec_orDelay.j1] at h, fun _ _ _ _ _ _ _ _ _ _ _ r h => by simp [spec_orDelay.l0] at h⟩
 | k + 1 => by
   obtain ⟨ih0, ih1, ih2⟩ := spec_orDelay.mono_l k
   refine ⟨?_, ?_, ?_⟩
   · intro y0 y1 y2 y3 y4 y5 y6 y7 y8 y9 y10 y11 y12 y13
     unfold spec_orDelay.j0
     repeat' first
     | (with_reducible first | exact ih0 _ _ _ _ _ _ _ _ _ _ _ _ _ _ | exact ih1 _ _ _ _ _ _ _ _ _ _ _ _ _ _ | exact ih2 _ _ _ _ _ _ _ _ _ _ _ | exact spec_cdReads.mono _ _ _ _ _ _ | exact spec_l1Has.mono _ _ _ | exact LeO.refl _ | exact LeO.none _ | refine LeO.ite ?_ ?_ | refine LeO.bind ?_ (fun _ => ?_))
     | exact LeO.none _
     | refine LeO.ite ?_ ?_
     | refine LeO.bind ?_ (fun _ => ?_)
   · intro y0 y1 y2 y3 y4 y5 y6 y7 y8 y9 y10 y11 y12 y13
     unfold spec_orDelay.j1
     repeat' first
     | (with_reducible first | exact ih0 _ _ _ _ _ _ _ _ _ _ _ _ _ _ | exact ih1 _ _ _ _ _ _ _ _ _ _ _ _ _ _ | exact ih2 _ _ _ _ _ _ _ _ _ _ _ | exact spec_cdReads.mono _ _ _ _ _ _ | exact spec_l1Has.mono _ _ _ | exact LeO.refl _ | exact LeO.none _ | refine LeO.ite ?_ ?_ | refine LeO.bind ?_ (fun _ => ?_))
     | exact LeO.none _
     | refine LeO.ite ?_ ?_
     | refine LeO.bind ?_ (fun _ => ?_)
   · intro y0 y1 y2 y3 y4 y5 y6 y7 y8 y9 y10
     unfold spec_orDelay.l0
     repeat' first
     | (with_reducible first | exact ih0 _ _ _ _ _ _ _ _ _ _ _ _ _ _ | exact ih1 _ _ _ _ _ _ _ _ _ _ _ _ _ _ | exact ih2 _ _ _ _ _ _ _ _ _ _ _ | exact spec_cdReads.mono _ _ _ _ _ _ | exact spec_l1Has.mono _ _ _ | exact LeO.refl _ | exact LeO.none _ | refine LeO.ite ?_ ?_ | refine LeO.bind ?_ (fun _ => ?_))
     | exact LeO.none _
     | refine LeO.ite ?_ ?_
     | refine LeO.bind ?_ (fun _ => ?_)
theorem spec_orDelay.mono : ∀ a0 a1 a2 k, LeO (spec_orDelay.f k a0 a1 a2) (spec_orDelay.f (k + 1) a0 a1 a2) := by
 intro a0 a1 a2 k
 obtain ⟨ih0, ih1, ih2⟩ := spec_orDelay.mono_l k
 unfold spec_orDelay.f
 repeat' first
     | (with_reducible first | exact ih0 _ _ _ _ _ _ _ _ _ _ _ _ _ _ | exact ih1 _ _ _ _ _ _ _ _ _ _ _ _ _ _ | exact ih2 _ _ _ _ _ _ _ _ _ _ _ | exact spec_cdReads.mono _ _ _ _ _ _ | exact spec_l1Has.mono _ _ _ | exact LeO.refl _ | exact LeO.none _ | refine LeO.ite ?_ ?_ | refine LeO.bind ?_ (fun _ => ?_))
     | exact LeO.none _
     | refine LeO.ite ?_ ?_
     | refine LeO.bind ?_ (fun _ => ?_)
def spec_orDelay.T1 : Bool × List (List Nat × List Nat) := (true, [([], []), ([], []), ([0, 1], [0, 1]), ([2], [2]), ([], []), ([], []), ([4, 5], [4, 5]), ([6], [6]), ([], []), ([], []), ([8, 3, 0, 1, 2, 3, 8, 9], [3, 8]), ([9, 7, 10, 0, 1, 2, 3, 4, 5, 6, 7, 8, 9, 10], [7, 9])])
def spec_orDelay.B1 : List Nat := [0, 0, 3, 7, 0, 0, 48, 112, 0, 0, 783, 2047]
theorem spec_orDelay.tab1 : rtab .any (opsOf Try.f84 1) = spec_orDelay.T1 := by kernel_rfl
theorem spec_orDelay.bits1 : waitsOk spec_orDelay.T1.2 spec_orDelay.B1 = true := by kernel_rfl
def spec_orDelay.T12 : Bool × List (List Nat × List Nat) := (true, [([], []), ([], []), ([0, 1], [0, 1]), ([2], [2]), ([3], [3]), ([], []), ([5], [5]), ([4, 6], [4, 6])])
def spec_orDelay.B12 : List Nat := [0, 0, 3, 7, 15, 0, 32, 127]
theorem spec_orDelay.tab12 : rtab .any (opsOf Try.f84 12) = spec_orDelay.T12 := by kernel_rfl
theorem spec_orDelay.bits12 : waitsOk spec_orDelay.T12.2 spec_orDelay.B12 = true := by kernel_rfl
set_option maxHeartbeats 8000000 in
set_option maxRecDepth 100000 in
theorem spec_orDelay.calls (k : Nat) (A0 : Option Addr) (c0 : Nat) (l0 : List (S57)) (a1 : Int) (a2 : Int) (r : Int) (w : World) (hr0 : Kd.C k57 w A0 l0.length l0) (hc0 : l0.length ≤ c0) (h : spec_orDelay.f k l0 a1 a2 = some r) :
   Calls Try.prog 84 #[.slice A0 l0.length c0, .int .i64 a1, .int .i64 a2] w fun e w' => e = .returned (.int .i64 r) ∧ Below w.heap.size w w' := by
 have hu57 := Try.underlying57
 have HR0 := zA hr0
 have HC0 := zA hc0
 clear hr0 hc0
 have HB := zA (Below.refl w.heap.size w)
 have H : (if 0 ≤ a1 then (if a1 < (l0.length : Int) then (if 0 ≤ a2 then (if a2 < (l0.length : Int) then ((spec_cdReads.f k ((rd_T57 l0 a1).f0) ((rd_T57 l0 a1).f1) ((rd_T57 l0 a1).f2) ((rd_T57 l0 a1).f3) ((rd_T57 l0 a1).f4)).bind fun t105 => ((spec_l1Has.f k t105 ((rd_T57 l0 a2).f1)).bind fun t108 => (if t108 = true then (spec_orDelay.j0 k l0 a1 a2 0 ((rd_T57 l0 a1).f0) ((rd_T57 l0 a1).f1) ((rd_T57 l0 a1).f2) ((rd_T57 l0 a1).f3) ((rd_T57 l0 a1).f4) ((rd_T57 l0 a2).f0) ((rd_T57 l0 a2).f1) ((rd_T57 l0 a2).f2) ((rd_T57 l0 a2).f3) ((rd_T57 l0 a2).f4)) else (spec_orDelay.j0 k l0 a1 a2 (-1) ((rd_T57 l0 a1).f0) ((rd_T57 l0 a1).f1) ((rd_T57 l0 a1).f2) ((rd_T57 l0 a1).f3) ((rd_T57 l0 a1).f4) ((rd_T57 l0 a2).f0) ((rd_T57 l0 a2).f1) ((rd_T57 l0 a2).f2) ((rd_T57 l0 a2).f3) ((rd_T57 l0 a2).f4))))) else (none)) else (none)) else (none)) else (none)) = some r := h
 clear h
 by_cases c4 : 0 ≤ a1
 rotate_left
 · rw [if_neg c4] at H
   exact absurd H (by simp)
 rw [if_pos c4] at H
 have c4b0 : decide (0 ≤ a1) = true := zdt c4
 clear c4
 by_cases c5 : a1 < (l0.length : Int)
 rotate_left
 · rw [if_neg c5] at H
   exact absurd H (by simp)
 rw [if_pos c5] at H
 have c5b0 : decide (a1 < (l0.length : Int)) = true := zdt c5
 clear c5
 by_cases c6 : 0 ≤ a2
 rotate_left
 · rw [if_neg c6] at H
   exact absurd H (by simp)
 rw [if_pos c6] at H
 have c6b0 : decide (0 ≤ a2) = true := zdt c6
 clear c6
 by_cases c7 : a2 < (l0.length : Int)
 rotate_left
 · rw [if_neg c7] at H
   exact absurd H (by simp)
 rw [if_pos c7] at H
 have c7b0 : decide (a2 < (l0.length : Int)) = true := zdt c7
 clear c7
 replace H := zob H
 obtain ⟨t105, A80, H⟩ := H
 replace H : ((spec_l1Has.f k t105 ((rd_T57 l0 a2).f1)).bind fun t108 => (if t108 = true then (spec_orDelay.j0 k l0 a1 a2 0 ((rd_T57 l0 a1).f0) ((rd_T57 l0 a1).f1) ((rd_T57 l0 a1).f2) ((rd_T57 l0 a1).f3) ((rd_T57 l0 a1).f4) ((rd_T57 l0 a2).f0) ((rd_T57 l0 a2).f1) ((rd_T57 l0 a2).f2) ((rd_T57 l0 a2).f3) ((rd_T57 l0 a2).f4)) else (spec_orDelay.j0 k l0 a1 a2 (-1) ((rd_T57 l0 a1).f0) ((rd_T57 l0 a1).f1) ((rd_T57 l0 a1).f2) ((rd_T57 l0 a1).f3) ((rd_T57 l0 a1).f4) ((rd_T57 l0 a2).f0) ((rd_T57 l0 a2).f1) ((rd_T57 l0 a2).f2) ((rd_T57 l0 a2).f3) ((rd_T57 l0 a2).f4)))) = some r := H
 have A8 := zA A80
 clear A80
 replace H := zob H
 obtain ⟨t108, A90, H⟩ := H
 replace H : (if t108 = true then (spec_orDelay.j0 k l0 a1 a2 0 ((rd_T57 l0 a1).f0) ((rd_T57 l0 a1).f1) ((rd_T57 l0 a1).f2) ((rd_T57 l0 a1).f3) ((rd_T57 l0 a1).f4) ((rd_T57 l0 a2).f0) ((rd_T57 l0 a2).f1) ((rd_T57 l0 a2).f2) ((rd_T57 l0 a2).f3) ((rd_T57 l0 a2).f4)) else (spec_orDelay.j0 k l0 a1 a2 (-1) ((rd_T57 l0 a1).f0) ((rd_T57 l0 a1).f1) ((rd_T57 l0 a1).f2) ((rd_T57 l0 a1).f3) ((rd_T57 l0 a1).f4) ((rd_T57 l0 a2).f0) ((rd_T57 l0 a2).f1) ((rd_T57 l0 a2).f2) ((rd_T57 l0 a2).f3) ((rd_T57 l0 a2).f4))) = some r := H
 have A9 := zA A90
 clear A90
 have HC10 := zA H
 clear H
 go_enter Try.func84, Try.ntmps84
 try go_wp2
 have n0_ := zA (zbd HB.out)
 clear HB
 have HB := n0_
 clear n0_
 have p101 : 0 ≤ (a1 : Int) := zde (by assumption)
 have q101 : a1 < (l0.length : Int) := zde (by assumption)
 obtain ⟨ad101, e101, hx101_0, hx101_1, hx101_2, hx101_3, hx101_4⟩ := at_T57 HR0.out a1 p101 q101
 have hw101_4 := hx101_4
 have hw101_3 := hx101_3
 have hw101_2 := hx101_2
 have hw101_1 := hx101_1
 have hw101_0 := hx101_0
 cases e101
 replace hx101_0 := zkep HB.out hx101_0
 replace hx101_1 := zkep HB.out hx101_1
 replace hx101_2 := zkep HB.out hx101_2
 replace hx101_3 := zkep HB.out hx101_3
 replace hx101_4 := zkep HB.out hx101_4
 replace p101 := eq_true p101
 replace q101 := eq_true q101
 have p102 : 0 ≤ (a2 : Int) := zde (by assumption)
 have q102 : a2 < (l0.length : Int) := zde (by assumption)
 obtain ⟨ad102, e102, hx102_0, hx102_1, hx102_2, hx102_3, hx102_4⟩ := at_T57 HR0.out a2 p102 q102
 have hw102_4 := hx102_4
 have hw102_3 := hx102_3
 have hw102_2 := hx102_2
 have hw102_1 := hx102_1
 have hw102_0 := hx102_0
 obtain rfl : ad101 = ad102 := (by injection e102)
 replace hx102_0 := zkep HB.out hx102_0
 replace hx102_1 := zkep HB.out hx102_1
 replace hx102_2 := zkep HB.out hx102_2
 replace hx102_3 := zkep HB.out hx102_3
 replace hx102_4 := zkep HB.out hx102_4
 replace p102 := eq_true p102
 replace q102 := eq_true q102
 refine start_ (n := 12) (S := fun w' => w'.cell? (ad101.add ((a1).toNat * 5)) = some (.string ((rd_T57 l0 a1).f0)) ∧ w'.cell? ⟨(ad101.add ((a1).toNat * 5)).block, (ad101.add ((a1).toNat * 5)).off + 1, none⟩ = some (.int .i64 ((rd_T57 l0 a1).f1)) ∧ w'.cell? ⟨(ad101.add ((a1).toNat * 5)).block, (ad101.add ((a1).toNat * 5)).off + 2, none⟩ = some (.int .i64 ((rd_T57 l0 a1).f2)) ∧ w'.cell? ⟨(ad101.add ((a1).toNat * 5)).block, (ad101.add ((a1).toNat * 5)).off + 3, none⟩ = some (.int .i64 ((rd_T57 l0 a1).f3)) ∧ w'.cell? ⟨(ad101.add ((a1).toNat * 5)).block, (ad101.add ((a1).toNat * 5)).off + 4, none⟩ = some (.int .i64 ((rd_T57 l0 a1).f4)) ∧ w'.cell? (ad101.add ((a2).toNat * 5)) = some (.string ((rd_T57 l0 a2).f0)) ∧ w'.cell? ⟨(ad101.add ((a2).toNat * 5)).block, (ad101.add ((a2).toNat * 5)).off + 1, none⟩ = some (.int .i64 ((rd_T57 l0 a2).f1)) ∧ w'.cell? ⟨(ad101.add ((a2).toNat * 5)).block, (ad101.add ((a2).toNat * 5)).off + 2, none⟩ = some (.int .i64 ((rd_T57 l0 a2).f2)) ∧ w'.cell? ⟨(ad101.add ((a2).toNat * 5)).block, (ad101.add ((a2).toNat * 5)).off + 3, none⟩ = some (.int .i64 ((rd_T57 l0 a2).f3)) ∧ w'.cell? ⟨(ad101.add ((a2).toNat * 5)).block, (ad101.add ((a2).toNat * 5)).off + 4, none⟩ = some (.int .i64 ((rd_T57 l0 a2).f4))) (ds := []) #[false, false, false, false, false, false, false, false, false, false, false, false] (by kernel_rfl) rfl rfl ⟨(zkep HB.out hw101_0), (zkep HB.out hw101_1), (zkep HB.out hw101_2), (zkep HB.out hw101_3), (zkep HB.out hw101_4), (zkep HB.out hw102_0), (zkep HB.out hw102_1), (zkep HB.out hw102_2), (zkep HB.out hw102_3), (zkep HB.out hw102_4)⟩ (fun hHeld => ?_); refine with_tabW spec_orDelay.tab1 spec_orDelay.bits1 (fun HT_ HW_ => ?_)
 generalize w.drew = w11 at HB hx101_0 hx101_1 hx101_2 hx101_3 hx101_4 hx102_0 hx102_1 hx102_2 hx102_3 hx102_4 hHeld ⊢
 refine pure_ (i := 0) (N := some 12) (v := ?_) (a' := ?_) #[true, false, false, false, false, false, false, false, false, false, false, false] rfl rfl (any_of HT_.out (by kernel_rfl)) (fun _ _ _ h => h) (Or.inl ⟨by rfl, ?_⟩) ?_ ?_
 rotate_left
 · intro w'
   go_simp
   with_reducible rfl
 rotate_left
 · simp only [Act.put, List.setIfInBounds_toArray, List.set_cons_zero, List.set_cons_succ, i64_w, i32_w]
   rfl
 refine pure_ (i := 1) (N := some 13) (v := ?_) (a' := ?_) #[true, true, false, false, false, false, false, false, false, false, false, false] rfl rfl (any_of HT_.out (by kernel_rfl)) (fun _ _ _ h => h) (Or.inl ⟨by rfl, ?_⟩) ?_ ?_
 rotate_left
 · intro w'
   go_simp
   with_reducible rfl
 rotate_left
 · simp only [Act.put, List.setIfInBounds_toArray, List.set_cons_zero, List.set_cons_succ, i64_w, i32_w]
   rfl
 refine pure_ (i := 2) (N := some 14) (v := ?_) (a' := ?_) #[true, true, true, false, false, false, false, false, false, false, false, false] rfl rfl (any_of HT_.out (by kernel_rfl)) (fun _ _ _ h => h) (Or.inl ⟨by rfl, ?_⟩) ?_ ?_
 rotate_left
 · intro w'
   go_simp
   with_reducible rfl
 rotate_left
 · simp only [Act.put, List.setIfInBounds_toArray, List.set_cons_zero, List.set_cons_succ, i64_w, i32_w]
   rfl
 refine pure_ (i := 4) (N := some 16) (v := ?_) (a' := ?_) #[true, true, true, false, true, false, false, false, false, false, false, false] rfl rfl (any_of HT_.out (by kernel_rfl)) (fun _ _ _ h => h) (Or.inl ⟨by rfl, ?_⟩) ?_ ?_
 rotate_left
 · intro w'
   go_simp
   with_reducible rfl
 rotate_left
 · simp only [Act.put, List.setIfInBounds_toArray, List.set_cons_zero, List.set_cons_succ, i64_w, i32_w]
   rfl
 refine pure_ (i := 5) (N := some 17) (v := ?_) (a' := ?_) #[true, true, true, false, true, true, false, false, false, false, false, false] rfl rfl (any_of HT_.out (by kernel_rfl)) (fun _ _ _ h => h) (Or.inl ⟨by rfl, ?_⟩) ?_ ?_
 rotate_left
 · intro w'
   go_simp
   with_reducible rfl
 rotate_left
 · simp only [Act.put, List.setIfInBounds_toArray, List.set_cons_zero, List.set_cons_succ, i64_w, i32_w]
   rfl
 refine pure_ (i := 6) (N := some 18) (v := ?_) (a' := ?_) #[true, true, true, false, true, true, true, false, false, false, false, false] rfl rfl (any_of HT_.out (by kernel_rfl)) (fun _ _ _ h => h) (Or.inl ⟨by rfl, ?_⟩) ?_ ?_
 rotate_left
 · intro w'
   go_simp
   with_reducible rfl
 rotate_left
 · simp only [Act.put, List.setIfInBounds_toArray, List.set_cons_zero, List.set_cons_succ, i64_w, i32_w]
   rfl
 refine take_ (i := 3) (N := some 15) (v := ?_) (a' := ?_) #[true, true, true, true, true, true, true, false, false, false, false, false] rfl rfl (take_ofW HT_.out HW_.out (by kernel_rfl)) (fun _ _ _ h => h) (Or.inl ⟨by rfl, ?_⟩) hHeld ?_ ?_
 rotate_left
 · rintro w' ⟨s0, s1, s2, s3, s4, s5, s6, s7, s8, s9⟩
   go_simp
   with_reducible rfl
 rotate_left
 · simp only [Act.put, List.setIfInBounds_toArray, List.set_cons_zero, List.set_cons_succ, i64_w, i32_w]
   rfl
 refine take_ (i := 7) (N := some 19) (v := ?_) (a' := ?_) #[true, true, true, true, true, true, true, true, false, false, false, false] rfl rfl (take_ofW HT_.out HW_.out (by kernel_rfl)) (fun _ _ _ h => h) (Or.inl ⟨by rfl, ?_⟩) hHeld ?_ ?_
 rotate_left
 · rintro w' ⟨s0, s1, s2, s3, s4, s5, s6, s7, s8, s9⟩
   go_simp
   with_reducible rfl
 rotate_left
 · simp only [Act.put, List.setIfInBounds_toArray, List.set_cons_zero, List.set_cons_succ, i64_w, i32_w]
   rfl
 refine join_ (σ := Nat × Nat) 2 #[true, true, true, true, true, true, true, true, true, true, false, false] (fun s_ => [(7, .pointer (some ⟨s_.1, 0, none⟩)), (8, .pointer (some ⟨s_.2, 0, none⟩))]) (fun s_ w' => (w'.cell? (ad101.add ((a1).toNat * 5)) = some (.string ((rd_T57 l0 a1).f0)) ∧ w'.cell? ⟨(ad101.add ((a1).toNat * 5)).block, (ad101.add ((a1).toNat * 5)).off + 1, none⟩ = some (.int .i64 ((rd_T57 l0 a1).f1)) ∧ w'.cell? ⟨(ad101.add ((a1).toNat * 5)).block, (ad101.add ((a1).toNat * 5)).off + 2, none⟩ = some (.int .i64 ((rd_T57 l0 a1).f2)) ∧ w'.cell? ⟨(ad101.add ((a1).toNat * 5)).block, (ad101.add ((a1).toNat * 5)).off + 3, none⟩ = some (.int .i64 ((rd_T57 l0 a1).f3)) ∧ w'.cell? ⟨(ad101.add ((a1).toNat * 5)).block, (ad101.add ((a1).toNat * 5)).off + 4, none⟩ = some (.int .i64 ((rd_T57 l0 a1).f4)) ∧ w'.cell? (ad101.add ((a2).toNat * 5)) = some (.string ((rd_T57 l0 a2).f0)) ∧ w'.cell? ⟨(ad101.add ((a2).toNat * 5)).block, (ad101.add ((a2).toNat * 5)).off + 1, none⟩ = some (.int .i64 ((rd_T57 l0 a2).f1)) ∧ w'.cell? ⟨(ad101.add ((a2).toNat * 5)).block, (ad101.add ((a2).toNat * 5)).off + 2, none⟩ = some (.int .i64 ((rd_T57 l0 a2).f2)) ∧ w'.cell? ⟨(ad101.add ((a2).toNat * 5)).block, (ad101.add ((a2).toNat * 5)).off + 3, none⟩ = some (.int .i64 ((rd_T57 l0 a2).f3)) ∧ w'.cell? ⟨(ad101.add ((a2).toNat * 5)).block, (ad101.add ((a2).toNat * 5)).off + 4, none⟩ = some (.int .i64 ((rd_T57 l0 a2).f4))) ∧ (w'.heap[s_.1]? = some (.cells #[.string (⟨#[]⟩ : ByteArray), .int .i64 0, .int .i64 0, .int .i64 0, .int .i64 0] 57 (0, 0))) ∧ (w'.heap[s_.2]? = some (.cells #[.string (⟨#[]⟩ : ByteArray), .int .i64 0, .int .i64 0, .int .i64 0, .int .i64 0] 57 (0, 0))) ∧ (w.heap.size ≤ s_.1) ∧ (w.heap.size ≤ s_.1) ∧ (s_.2 ≠ s_.1) ∧ (s_.1 ≠ s_.2) ∧ (w.heap.size ≤ s_.2) ∧ (w.heap.size ≤ s_.2) ∧ (Below w.heap.size w w')) ?_ ?_
 rotate_left
 · intro hCont
   refine two_ (i := 8) (j := 9) (Ni := some 7) (Nj := some 8) #[true, true, true, true, true, true, true, true, true, false, false, false] #[true, true, true, true, true, true, true, true, false, true, false, false] rfl rfl rfl rfl (two_of HT_.out (by kernel_rfl)) (by decide) (by decide) (fun K hK => ?_) (fun K hK => ?_)
   · skip
     refine box_step ?hg (N := 7) ?hd (cs := #[.string (⟨#[]⟩ : ByteArray), .int .i64 0, .int .i64 0, .int .i64 0, .int .i64 0]) (t := 57) ?hr ?_; (case hd => rfl); (case hg => rfl); (case hr => go_simp <;> rfl)
     intro gb103 hg w12 hbox hb
     have n0_ := zA (below_step (by repeat (first | (with_reducible first | exact HB.out | apply zba | apply zbn | apply zbd) | exact HB.out)) hb)
     have n1_ := zA (hbox)
     have n2_ := zA ((by rw [hg]; exact (below_size (by repeat (first | (with_reducible first | exact HB.out | apply zba | apply zbn | apply zbd) | exact HB.out))) : w.heap.size ≤ gb103))
     have n3_ := zA ((by rw [hg]; exact (below_size (by repeat (first | (with_reducible first | exact HB.out | apply zba | apply zbn | apply zbd) | exact HB.out))) : w.heap.size ≤ gb103))
     clear HB
     have HB := n0_
     have BK103 := n1_
     have GW103 := n2_
     have GE103 := n3_
     clear n0_ n1_ n2_ n3_
     clear hb hbox hg
     refine hK.out _ _ ⟨(zkep HB.out hw101_0), (zkep HB.out hw101_1), (zkep HB.out hw101_2), (zkep HB.out hw101_3), (zkep HB.out hw101_4), (zkep HB.out hw102_0), (zkep HB.out hw102_1), (zkep HB.out hw102_2), (zkep HB.out hw102_3), (zkep HB.out hw102_4)⟩ (fun hHeld => ?_)
     clear hK K
     refine norm_ (a' := ?_) ?_ ?_
     rotate_left
     · show Act.put _ (some 7) _ = _
       simp only [Act.put, List.setIfInBounds_toArray, List.set_cons_zero, List.set_cons_succ, i64_w, i32_w]
       rfl
     refine one_ (i := 9) (N := some 8) #[true, true, true, true, true, true, true, true, true, true, false, false] rfl rfl (one_of HT_.out (by kernel_rfl)) (by decide) (fun K hK => ?_)
     refine box_step ?hg (N := 8) ?hd (cs := #[.string (⟨#[]⟩ : ByteArray), .int .i64 0, .int .i64 0, .int .i64 0, .int .i64 0]) (t := 57) ?hr ?_; (case hd => rfl); (case hg => rfl); (case hr => go_simp <;> rfl)
     intro gb104 hg w13 hbox hb
     have n0_ := zA (blk_below (g := gb103) (o := .cells #[.string (⟨#[]⟩ : ByteArray), .int .i64 0, .int .i64 0, .int .i64 0, .int .i64 0] 57 (0, 0)) (by (with_reducible repeat (first | refine zkn ?_ _ | refine zkd ?_ | refine zka ?_ _)); exact BK103.out) hb)
     have n1_ := zA (below_step (by repeat (first | (with_reducible first | exact HB.out | apply zba | apply zbn | apply zbd | refine below_set ?_ GE103.out) | exact HB.out)) hb)
     have n2_ := zA (hbox)
     have n3_ := zA ((by rw [hg]; exact (below_size (by repeat (first | (with_reducible first | exact HB.out | apply zba | apply zbn | apply zbd | refine below_set ?_ GE103.out) | exact HB.out))) : w.heap.size ≤ gb104))
     have n4_ := zA ((by rw [hg]; exact (below_size (by repeat (first | (with_reducible first | exact HB.out | apply zba | apply zbn | apply zbd | refine below_set ?_ GE103.out) | exact HB.out))) : w.heap.size ≤ gb104))
     have n5_ := zA ((by rw [hg]; exact Nat.ne_of_lt (zlt BK103.out (fun h => by (with_reducible repeat (first | refine zkn ?_ _ | refine zkd ?_ | refine zka ?_ _)); exact h)) : gb103 ≠ gb104))
     have n6_ := zA ((by rw [hg]; exact Nat.ne_of_gt (zlt BK103.out (fun h => by (with_reducible repeat (first | refine zkn ?_ _ | refine zkd ?_ | refine zka ?_ _)); exact h)) : gb104 ≠ gb103))
     clear BK103
     clear HB
     have BK103 := n0_
     have HB := n1_
     have BK104 := n2_
     have GW104 := n3_
     have GE104 := n4_
     have NB103_104 := n5_
     have NB104_103 := n6_
     clear n0_ n1_ n2_ n3_ n4_ n5_ n6_
     clear hb hbox hg
     refine hK.out _ _ ⟨(zkep HB.out hw101_0), (zkep HB.out hw101_1), (zkep HB.out hw101_2), (zkep HB.out hw101_3), (zkep HB.out hw101_4), (zkep HB.out hw102_0), (zkep HB.out hw102_1), (zkep HB.out hw102_2), (zkep HB.out hw102_3), (zkep HB.out hw102_4)⟩ (fun hHeld => ?_)
     clear hK K
     refine norm_ (a' := ?_) ?_ ?_
     rotate_left
     · show Act.put _ (some 8) _ = _
       simp only [Act.put, List.setIfInBounds_toArray, List.set_cons_zero, List.set_cons_succ, i64_w, i32_w]
       rfl
     exact norm_ (by simp only [putAll, Act.put, List.setIfInBounds_toArray, List.set_cons_zero, List.set_cons_succ]) (hCont (gb103, gb104) _ ⟨hHeld, (by (with_reducible repeat (first | refine zkn ?_ _ | refine zkd ?_ | refine zka ?_ _)); exact BK103.out), (by (with_reducible repeat (first | refine zkn ?_ _ | refine zkd ?_ | refine zka ?_ _)); exact BK104.out), GW103.out, GE103.out, NB104_103.out, NB103_104.out, GW104.out, GE104.out, (by repeat (first | (with_reducible first | exact HB.out | apply zba | apply zbn | apply zbd | refine below_set ?_ GE103.out | refine below_set ?_ GE104.out) | exact HB.out))⟩)
   skip
   refine box_step ?hg (N := 8) ?hd (cs := #[.string (⟨#[]⟩ : ByteArray), .int .i64 0, .int .i64 0, .int .i64 0, .int .i64 0]) (t := 57) ?hr ?_; (case hd => rfl); (case hg => rfl); (case hr => go_simp <;> rfl)
   intro gb104 hg w12 hbox hb
   have n0_ := zA (below_step (by repeat (first | (with_reducible first | exact HB.out | apply zba | apply zbn | apply zbd) | exact HB.out)) hb)
   have n1_ := zA (hbox)
   have n2_ := zA ((by rw [hg]; exact (below_size (by repeat (first | (with_reducible first | exact HB.out | apply zba | apply zbn | apply zbd) | exact HB.out))) : w.heap.size ≤ gb104))
   have n3_ := zA ((by rw [hg]; exact (below_size (by repeat (first | (with_reducible first | exact HB.out | apply zba | apply zbn | apply zbd) | exact HB.out))) : w.heap.size ≤ gb104))
   clear HB
   have HB := n0_
   have BK104 := n1_
   have GW104 := n2_
   have GE104 := n3_
   clear n0_ n1_ n2_ n3_
   clear hb hbox hg
   refine hK.out _ _ ⟨(zkep HB.out hw101_0), (zkep HB.out hw101_1), (zkep HB.out hw101_2), (zkep HB.out hw101_3), (zkep HB.out hw101_4), (zkep HB.out hw102_0), (zkep HB.out hw102_1), (zkep HB.out hw102_2), (zkep HB.out hw102_3), (zkep HB.out hw102_4)⟩ (fun hHeld => ?_)
   clear hK K
   refine norm_ (a' := ?_) ?_ ?_
   rotate_left
   · show Act.put _ (some 8) _ = _
     simp only [Act.put, List.setIfInBounds_toArray, List.set_cons_zero, List.set_cons_succ, i64_w, i32_w]
     rfl
   refine one_ (i := 8) (N := some 7) #[true, true, true, true, true, true, true, true, true, true, false, false] rfl rfl (one_of HT_.out (by kernel_rfl)) (by decide) (fun K hK => ?_)
   refine box_step ?hg (N := 7) ?hd (cs := #[.string (⟨#[]⟩ : ByteArray), .int .i64 0, .int .i64 0, .int .i64 0, .int .i64 0]) (t := 57) ?hr ?_; (case hd => rfl); (case hg => rfl); (case hr => go_simp <;> rfl)
   intro gb103 hg w13 hbox hb
   have n0_ := zA (blk_below (g := gb104) (o := .cells #[.string (⟨#[]⟩ : ByteArray), .int .i64 0, .int .i64 0, .int .i64 0, .int .i64 0] 57 (0, 0)) (by (with_reducible repeat (first | refine zkn ?_ _ | refine zkd ?_ | refine zka ?_ _)); exact BK104.out) hb)
   have n1_ := zA (below_step (by repeat (first | (with_reducible first | exact HB.out | apply zba | apply zbn | apply zbd | refine below_set ?_ GE104.out) | exact HB.out)) hb)
   have n2_ := zA (hbox)
   have n3_ := zA ((by rw [hg]; exact (below_size (by repeat (first | (with_reducible first | exact HB.out | apply zba | apply zbn | apply zbd | refine below_set ?_ GE104.out) | exact HB.out))) : w.heap.size ≤ gb103))
   have n4_ := zA ((by rw [hg]; exact (below_size (by repeat (first | (with_reducible first | exact HB.out | apply zba | apply zbn | apply zbd | refine below_set ?_ GE104.out) | exact HB.out))) : w.heap.size ≤ gb103))
   have n5_ := zA ((by rw [hg]; exact Nat.ne_of_lt (zlt BK104.out (fun h => by (with_reducible repeat (first | refine zkn ?_ _ | refine zkd ?_ | refine zka ?_ _)); exact h)) : gb104 ≠ gb103))
   have n6_ := zA ((by rw [hg]; exact Nat.ne_of_gt (zlt BK104.out (fun h => by (with_reducible repeat (first | refine zkn ?_ _ | refine zkd ?_ | refine zka ?_ _)); exact h)) : gb103 ≠ gb104))
   clear BK104
   clear HB
   have BK104 := n0_
   have HB := n1_
   have BK103 := n2_
   have GW103 := n3_
   have GE103 := n4_
   have NB104_103 := n5_
   have NB103_104 := n6_
   clear n0_ n1_ n2_ n3_ n4_ n5_ n6_
   clear hb hbox hg
   refine hK.out _ _ ⟨(zkep HB.out hw101_0), (zkep HB.out hw101_1), (zkep HB.out hw101_2), (zkep HB.out hw101_3), (zkep HB.out hw101_4), (zkep HB.out hw102_0), (zkep HB.out hw102_1), (zkep HB.out hw102_2), (zkep HB.out hw102_3), (zkep HB.out hw102_4)⟩ (fun hHeld => ?_)
   clear hK K
   refine norm_ (a' := ?_) ?_ ?_
   rotate_left
   · show Act.put _ (some 7) _ = _
     simp only [Act.put, List.setIfInBounds_toArray, List.set_cons_zero, List.set_cons_succ, i64_w, i32_w]
     rfl
   exact norm_ (by simp only [putAll, Act.put, List.setIfInBounds_toArray, List.set_cons_zero, List.set_cons_succ]) (hCont (gb103, gb104) _ ⟨hHeld, (by (with_reducible repeat (first | refine zkn ?_ _ | refine zkd ?_ | refine zka ?_ _)); exact BK103.out), (by (with_reducible repeat (first | refine zkn ?_ _ | refine zkd ?_ | refine zka ?_ _)); exact BK104.out), GW103.out, GE103.out, NB104_103.out, NB103_104.out, GW104.out, GE104.out, (by repeat (first | (with_reducible first | exact HB.out | apply zba | apply zbn | apply zbd | refine below_set ?_ GE104.out | refine below_set ?_ GE103.out) | exact HB.out))⟩)
 rintro ⟨gb103, gb104⟩ w14 ⟨hS_, h0_, h1_, h2_, h3_, h4_, h5_, h6_, h7_, h8_⟩
 have n0_ : Aside0 (w14.heap[gb103]? = some (.cells #[.string (⟨#[]⟩ : ByteArray), .int .i64 0, .int .i64 0, .int .i64 0, .int .i64 0] 57 (0, 0))) := ⟨h0_⟩
 have n1_ : Aside0 (w14.heap[gb104]? = some (.cells #[.string (⟨#[]⟩ : ByteArray), .int .i64 0, .int .i64 0, .int .i64 0, .int .i64 0] 57 (0, 0))) := ⟨h1_⟩
 have n2_ : Aside0 (w.heap.size ≤ gb103) := ⟨h2_⟩
 have n3_ : Aside0 (w.heap.size ≤ gb103) := ⟨h3_⟩
 have n4_ : Aside0 (gb104 ≠ gb103) := ⟨h4_⟩
 have n5_ : Aside0 (gb103 ≠ gb104) := ⟨h5_⟩
 have n6_ : Aside0 (w.heap.size ≤ gb104) := ⟨h6_⟩
 have n7_ : Aside0 (w.heap.size ≤ gb104) := ⟨h7_⟩
 have n8_ : Aside0 (Below w.heap.size w w14) := ⟨h8_⟩
 clear HB
 clear h0_ h1_ h2_ h3_ h4_ h5_ h6_ h7_ h8_
 have BK103 := n0_
 have BK104 := n1_
 have GW103 := n2_
 have GE103 := n3_
 have NB104_103 := n4_
 have NB103_104 := n5_
 have GW104 := n6_
 have GE104 := n7_
 have HB := n8_
 clear n0_ n1_ n2_ n3_ n4_ n5_ n6_ n7_ n8_
 have hHeld : w14.cell? (ad101.add ((a1).toNat * 5)) = some (.string ((rd_T57 l0 a1).f0)) ∧ w14.cell? ⟨(ad101.add ((a1).toNat * 5)).block, (ad101.add ((a1).toNat * 5)).off + 1, none⟩ = some (.int .i64 ((rd_T57 l0 a1).f1)) ∧ w14.cell? ⟨(ad101.add ((a1).toNat * 5)).block, (ad101.add ((a1).toNat * 5)).off + 2, none⟩ = some (.int .i64 ((rd_T57 l0 a1).f2)) ∧ w14.cell? ⟨(ad101.add ((a1).toNat * 5)).block, (ad101.add ((a1).toNat * 5)).off + 3, none⟩ = some (.int .i64 ((rd_T57 l0 a1).f3)) ∧ w14.cell? ⟨(ad101.add ((a1).toNat * 5)).block, (ad101.add ((a1).toNat * 5)).off + 4, none⟩ = some (.int .i64 ((rd_T57 l0 a1).f4)) ∧ w14.cell? (ad101.add ((a2).toNat * 5)) = some (.string ((rd_T57 l0 a2).f0)) ∧ w14.cell? ⟨(ad101.add ((a2).toNat * 5)).block, (ad101.add ((a2).toNat * 5)).off + 1, none⟩ = some (.int .i64 ((rd_T57 l0 a2).f1)) ∧ w14.cell? ⟨(ad101.add ((a2).toNat * 5)).block, (ad101.add ((a2).toNat * 5)).off + 2, none⟩ = some (.int .i64 ((rd_T57 l0 a2).f2)) ∧ w14.cell? ⟨(ad101.add ((a2).toNat * 5)).block, (ad101.add ((a2).toNat * 5)).off + 3, none⟩ = some (.int .i64 ((rd_T57 l0 a2).f3)) ∧ w14.cell? ⟨(ad101.add ((a2).toNat * 5)).block, (ad101.add ((a2).toNat * 5)).off + 4, none⟩ = some (.int .i64 ((rd_T57 l0 a2).f4)) := hS_
 refine norm_ (a' := ?_) ?_ ?_
 rotate_left
 · simp only [putAll, Act.put, List.setIfInBounds_toArray, List.set_cons_zero, List.set_cons_succ]
   rfl
 refine one_ (i := 10) (N := none) #[true, true, true, true, true, true, true, true, true, true, true, false] rfl rfl (one_of HT_.out (by kernel_rfl)) (by decide) (fun K hK => ?_)
 have hs15 : w14.cell? ⟨gb103, 0, none⟩ = some (.string (⟨#[]⟩ : ByteArray)) := (blk_cell BK103.out 0).trans rfl
 have hfs15 := blk_frozen BK103.out 0
 have hns15_1 := NB104_103.out
 have hms15_1 := NB103_104.out
 have hs16 : w14.cell? ⟨gb103, 1, none⟩ = some (.int .i64 0) := (blk_cell BK103.out 1).trans rfl
 have hfs16 := blk_frozen BK103.out 1
 have hns16_1 := NB104_103.out
 have hms16_1 := NB103_104.out
 have hs17 : w14.cell? ⟨gb103, 2, none⟩ = some (.int .i64 0) := (blk_cell BK103.out 2).trans rfl
 have hfs17 := blk_frozen BK103.out 2
 have hns17_1 := NB104_103.out
 have hms17_1 := NB103_104.out
 have hs18 : w14.cell? ⟨gb103, 3, none⟩ = some (.int .i64 0) := (blk_cell BK103.out 3).trans rfl
 have hfs18 := blk_frozen BK103.out 3
 have hns18_1 := NB104_103.out
 have hms18_1 := NB103_104.out
 have hs19 : w14.cell? ⟨gb103, 4, none⟩ = some (.int .i64 0) := (blk_cell BK103.out 4).trans rfl
 have hfs19 := blk_frozen BK103.out 4
 have hns19_1 := NB104_103.out
 have hms19_1 := NB103_104.out
 refine skip_ (w1 := ?_) (by rfl) rfl ?_ ?_
 rotate_left
 · go_simp
   rfl
 refine hK.out _ _ ⟨((cell_far (p := ⟨gb103, _, none⟩) (zfar hw101_0 GW103.out :) _).trans (((cell_far (p := ⟨gb103, _, none⟩) (zfar hw101_0 GW103.out :) _).trans (((cell_far (p := ⟨gb103, _, none⟩) (zfar hw101_0 GW103.out :) _).trans (((cell_far (p := ⟨gb103, _, none⟩) (zfar hw101_0 GW103.out :) _).trans (((cell_far (p := ⟨gb103, _, none⟩) (zfar hw101_0 GW103.out :) _).trans (hHeld.1)))))))))), ((cell_far (p := ⟨gb103, _, none⟩) (zfar hw101_1 GW103.out :) _).trans (((cell_far (p := ⟨gb103, _, none⟩) (zfar hw101_1 GW103.out :) _).trans (((cell_far (p := ⟨gb103, _, none⟩) (zfar hw101_1 GW103.out :) _).trans (((cell_far (p := ⟨gb103, _, none⟩) (zfar hw101_1 GW103.out :) _).trans (((cell_far (p := ⟨gb103, _, none⟩) (zfar hw101_1 GW103.out :) _).trans (hHeld.2.1)))))))))), ((cell_far (p := ⟨gb103, _, none⟩) (zfar hw101_2 GW103.out :) _).trans (((cell_far (p := ⟨gb103, _, none⟩) (zfar hw101_2 GW103.out :) _).trans (((cell_far (p := ⟨gb103, _, none⟩) (zfar hw101_2 GW103.out :) _).trans (((cell_far (p := ⟨gb103, _, none⟩) (zfar hw101_2 GW103.out :) _).trans (((cell_far (p := ⟨gb103, _, none⟩) (zfar hw101_2 GW103.out :) _).trans (hHeld.2.2.1)))))))))), ((cell_far (p := ⟨gb103, _, none⟩) (zfar hw101_3 GW103.out :) _).trans (((cell_far (p := ⟨gb103, _, none⟩) (zfar hw101_3 GW103.out :) _).trans (((cell_far (p := ⟨gb103, _, none⟩) (zfar hw101_3 GW103.out :) _).trans (((cell_far (p := ⟨gb103, _, none⟩) (zfar hw101_3 GW103.out :) _).trans (((cell_far (p := ⟨gb103, _, none⟩) (zfar hw101_3 GW103.out :) _).trans (hHeld.2.2.2.1)))))))))), ((cell_far (p := ⟨gb103, _, none⟩) (zfar hw101_4 GW103.out :) _).trans (((cell_far (p := ⟨gb103, _, none⟩) (zfar hw101_4 GW103.out :) _).trans (((cell_far (p := ⟨gb103, _, none⟩) (zfar hw101_4 GW103.out :) _).trans (((cell_far (p := ⟨gb103, _, none⟩) (zfar hw101_4 GW103.out :) _).trans (((cell_far (p := ⟨gb103, _, none⟩) (zfar hw101_4 GW103.out :) _).trans (hHeld.2.2.2.2.1)))))))))), ((cell_far (p := ⟨gb103, _, none⟩) (zfar hw102_0 GW103.out :) _).trans (((cell_far (p := ⟨gb103, _, none⟩) (zfar hw102_0 GW103.out :) _).trans (((cell_far (p := ⟨gb103, _, none⟩) (zfar hw102_0 GW103.out :) _).trans (((cell_far (p := ⟨gb103, _, none⟩) (zfar hw102_0 GW103.out :) _).trans (((cell_far (p := ⟨gb103, _, none⟩) (zfar hw102_0 GW103.out :) _).trans (hHeld.2.2.2.2.2.1)))))))))), ((cell_far (p := ⟨gb103, _, none⟩) (zfar hw102_1 GW103.out :) _).trans (((cell_far (p := ⟨gb103, _, none⟩) (zfar hw102_1 GW103.out :) _).trans (((cell_far (p := ⟨gb103, _, none⟩) (zfar hw102_1 GW103.out :) _).trans (((cell_far (p := ⟨gb103, _, none⟩) (zfar hw102_1 GW103.out :) _).trans (((cell_far (p := ⟨gb103, _, none⟩) (zfar hw102_1 GW103.out :) _).trans (hHeld.2.2.2.2.2.2.1)))))))))), ((cell_far (p := ⟨gb103, _, none⟩) (zfar hw102_2 GW103.out :) _).trans (((cell_far (p := ⟨gb103, _, none⟩) (zfar hw102_2 GW103.out :) _).trans (((cell_far (p := ⟨gb103, _, none⟩) (zfar hw102_2 GW103.out :) _).trans (((cell_far (p := ⟨gb103, _, none⟩) (zfar hw102_2 GW103.out :) _).trans (((cell_far (p := ⟨gb103, _, none⟩) (zfar hw102_2 GW103.out :) _).trans (hHeld.2.2.2.2.2.2.2.1)))))))))), ((cell_far (p := ⟨gb103, _, none⟩) (zfar hw102_3 GW103.out :) _).trans (((cell_far (p := ⟨gb103, _, none⟩) (zfar hw102_3 GW103.out :) _).trans (((cell_far (p := ⟨gb103, _, none⟩) (zfar hw102_3 GW103.out :) _).trans (((cell_far (p := ⟨gb103, _, none⟩) (zfar hw102_3 GW103.out :) _).trans (((cell_far (p := ⟨gb103, _, none⟩) (zfar hw102_3 GW103.out :) _).trans (hHeld.2.2.2.2.2.2.2.2.1)))))))))), ((cell_far (p := ⟨gb103, _, none⟩) (zfar hw102_4 GW103.out :) _).trans (((cell_far (p := ⟨gb103, _, none⟩) (zfar hw102_4 GW103.out :) _).trans (((cell_far (p := ⟨gb103, _, none⟩) (zfar hw102_4 GW103.out :) _).trans (((cell_far (p := ⟨gb103, _, none⟩) (zfar hw102_4 GW103.out :) _).trans (((cell_far (p := ⟨gb103, _, none⟩) (zfar hw102_4 GW103.out :) _).trans (hHeld.2.2.2.2.2.2.2.2.2))))))))))⟩ (fun hHeld => ?_)
 clear hK K
 refine one_ (i := 11) (N := none) #[true, true, true, true, true, true, true, true, true, true, true, true] rfl rfl (one_of HT_.out (by kernel_rfl)) (by decide) (fun K hK => ?_)
 have hs20 : w14.cell? ⟨gb104, 0, none⟩ = some (.string (⟨#[]⟩ : ByteArray)) := (blk_cell BK104.out 0).trans rfl
 have hfs20 := blk_frozen BK104.out 0
 have hns20_0 := NB103_104.out
 have hms20_0 := NB104_103.out
 have hs21 : w14.cell? ⟨gb104, 1, none⟩ = some (.int .i64 0) := (blk_cell BK104.out 1).trans rfl
 have hfs21 := blk_frozen BK104.out 1
 have hns21_0 := NB103_104.out
 have hms21_0 := NB104_103.out
 have hs22 : w14.cell? ⟨gb104, 2, none⟩ = some (.int .i64 0) := (blk_cell BK104.out 2).trans rfl
 have hfs22 := blk_frozen BK104.out 2
 have hns22_0 := NB103_104.out
 have hms22_0 := NB104_103.out
 have hs23 : w14.cell? ⟨gb104, 3, none⟩ = some (.int .i64 0) := (blk_cell BK104.out 3).trans rfl
 have hfs23 := blk_frozen BK104.out 3
 have hns23_0 := NB103_104.out
 have hms23_0 := NB104_103.out
 have hs24 : w14.cell? ⟨gb104, 4, none⟩ = some (.int .i64 0) := (blk_cell BK104.out 4).trans rfl
 have hfs24 := blk_frozen BK104.out 4
 have hns24_0 := NB103_104.out
 have hms24_0 := NB104_103.out
 refine skip_ (w1 := ?_) (by rfl) rfl ?_ ?_
 rotate_left
 · go_simp
   rfl
 refine hK.out _ _ ⟨((cell_far (p := ⟨gb104, _, none⟩) (zfar hw101_0 GW104.out :) _).trans (((cell_far (p := ⟨gb104, _, none⟩) (zfar hw101_0 GW104.out :) _).trans (((cell_far (p := ⟨gb104, _, none⟩) (zfar hw101_0 GW104.out :) _).trans (((cell_far (p := ⟨gb104, _, none⟩) (zfar hw101_0 GW104.out :) _).trans (((cell_far (p := ⟨gb104, _, none⟩) (zfar hw101_0 GW104.out :) _).trans (hHeld.1)))))))))), ((cell_far (p := ⟨gb104, _, none⟩) (zfar hw101_1 GW104.out :) _).trans (((cell_far (p := ⟨gb104, _, none⟩) (zfar hw101_1 GW104.out :) _).trans (((cell_far (p := ⟨gb104, _, none⟩) (zfar hw101_1 GW104.out :) _).trans (((cell_far (p := ⟨gb104, _, none⟩) (zfar hw101_1 GW104.out :) _).trans (((cell_far (p := ⟨gb104, _, none⟩) (zfar hw101_1 GW104.out :) _).trans (hHeld.2.1)))))))))), ((cell_far (p := ⟨gb104, _, none⟩) (zfar hw101_2 GW104.out :) _).trans (((cell_far (p := ⟨gb104, _, none⟩) (zfar hw101_2 GW104.out :) _).trans (((cell_far (p := ⟨gb104, _, none⟩) (zfar hw101_2 GW104.out :) _).trans (((cell_far (p := ⟨gb104, _, none⟩) (zfar hw101_2 GW104.out :) _).trans (((cell_far (p := ⟨gb104, _, none⟩) (zfar hw101_2 GW104.out :) _).trans (hHeld.2.2.1)))))))))), ((cell_far (p := ⟨gb104, _, none⟩) (zfar hw101_3 GW104.out :) _).trans (((cell_far (p := ⟨gb104, _, none⟩) (zfar hw101_3 GW104.out :) _).trans (((cell_far (p := ⟨gb104, _, none⟩) (zfar hw101_3 GW104.out :) _).trans (((cell_far (p := ⟨gb104, _, none⟩) (zfar hw101_3 GW104.out :) _).trans (((cell_far (p := ⟨gb104, _, none⟩) (zfar hw101_3 GW104.out :) _).trans (hHeld.2.2.2.1)))))))))), ((cell_far (p := ⟨gb104, _, none⟩) (zfar hw101_4 GW104.out :) _).trans (((cell_far (p := ⟨gb104, _, none⟩) (zfar hw101_4 GW104.out :) _).trans (((cell_far (p := ⟨gb104, _, none⟩) (zfar hw101_4 GW104.out :) _).trans (((cell_far (p := ⟨gb104, _, none⟩) (zfar hw101_4 GW104.out :) _).trans (((cell_far (p := ⟨gb104, _, none⟩) (zfar hw101_4 GW104.out :) _).trans (hHeld.2.2.2.2.1)))))))))), ((cell_far (p := ⟨gb104, _, none⟩) (zfar hw102_0 GW104.out :) _).trans (((cell_far (p := ⟨gb104, _, none⟩) (zfar hw102_0 GW104.out :) _).trans (((cell_far (p := ⟨gb104, _, none⟩) (zfar hw102_0 GW104.out :) _).trans (((cell_far (p := ⟨gb104, _, none⟩) (zfar hw102_0 GW104.out :) _).trans (((cell_far (p := ⟨gb104, _, none⟩) (zfar hw102_0 GW104.out :) _).trans (hHeld.2.2.2.2.2.1)))))))))), ((cell_far (p := ⟨gb104, _, none⟩) (zfar hw102_1 GW104.out :) _).trans (((cell_far (p := ⟨gb104, _, none⟩) (zfar hw102_1 GW104.out :) _).trans (((cell_far (p := ⟨gb104, _, none⟩) (zfar hw102_1 GW104.out :) _).trans (((cell_far (p := ⟨gb104, _, none⟩) (zfar hw102_1 GW104.out :) _).trans (((cell_far (p := ⟨gb104, _, none⟩) (zfar hw102_1 GW104.out :) _).trans (hHeld.2.2.2.2.2.2.1)))))))))), ((cell_far (p := ⟨gb104, _, none⟩) (zfar hw102_2 GW104.out :) _).trans (((cell_far (p := ⟨gb104, _, none⟩) (zfar hw102_2 GW104.out :) _).trans (((cell_far (p := ⟨gb104, _, none⟩) (zfar hw102_2 GW104.out :) _).trans (((cell_far (p := ⟨gb104, _, none⟩) (zfar hw102_2 GW104.out :) _).trans (((cell_far (p := ⟨gb104, _, none⟩) (zfar hw102_2 GW104.out :) _).trans (hHeld.2.2.2.2.2.2.2.1)))))))))), ((cell_far (p := ⟨gb104, _, none⟩) (zfar hw102_3 GW104.out :) _).trans (((cell_far (p := ⟨gb104, _, none⟩) (zfar hw102_3 GW104.out :) _).trans (((cell_far (p := ⟨gb104, _, none⟩) (zfar hw102_3 GW104.out :) _).trans (((cell_far (p := ⟨gb104, _, none⟩) (zfar hw102_3 GW104.out :) _).trans (((cell_far (p := ⟨gb104, _, none⟩) (zfar hw102_3 GW104.out :) _).trans (hHeld.2.2.2.2.2.2.2.2.1)))))))))), ((cell_far (p := ⟨gb104, _, none⟩) (zfar hw102_4 GW104.out :) _).trans (((cell_far (p := ⟨gb104, _, none⟩) (zfar hw102_4 GW104.out :) _).trans (((cell_far (p := ⟨gb104, _, none⟩) (zfar hw102_4 GW104.out :) _).trans (((cell_far (p := ⟨gb104, _, none⟩) (zfar hw102_4 GW104.out :) _).trans (((cell_far (p := ⟨gb104, _, none⟩) (zfar hw102_4 GW104.out :) _).trans (hHeld.2.2.2.2.2.2.2.2.2))))))))))⟩ (fun hHeld => ?_)
 clear hK K
 refine done_ (done_of HT_.out (by kernel_rfl)) ?_
 try go_wp2
 have n0_ : Aside0 (((((((((((w14.setCell ⟨gb103, 0, none⟩ (.string ((rd_T57 l0 a1).f0))).setCell ⟨gb103, 1, none⟩ (.int .i64 ((rd_T57 l0 a1).f1))).setCell ⟨gb103, 2, none⟩ (.int .i64 ((rd_T57 l0 a1).f2))).setCell ⟨gb103, 3, none⟩ (.int .i64 ((rd_T57 l0 a1).f3))).setCell ⟨gb103, 4, none⟩ (.int .i64 ((rd_T57 l0 a1).f4))).setCell ⟨gb104, 0, none⟩ (.string ((rd_T57 l0 a2).f0))).setCell ⟨gb104, 1, none⟩ (.int .i64 ((rd_T57 l0 a2).f1))).setCell ⟨gb104, 2, none⟩ (.int .i64 ((rd_T57 l0 a2).f2))).setCell ⟨gb104, 3, none⟩ (.int .i64 ((rd_T57 l0 a2).f3))).setCell ⟨gb104, 4, none⟩ (.int .i64 ((rd_T57 l0 a2).f4))).heap[gb103]? = some (.cells #[.string ((rd_T57 l0 a1).f0), .int .i64 ((rd_T57 l0 a1).f1), .int .i64 ((rd_T57 l0 a1).f2), .int .i64 ((rd_T57 l0 a1).f3), .int .i64 ((rd_T57 l0 a1).f4)] 57 (0, 0))) := ⟨by (with_reducible repeat (first | refine zkn ?_ _ | refine zkd ?_ | refine zka ?_ _)); refine blk_far ?_ NB103_104.out _; (with_reducible repeat (first | refine zkn ?_ _ | refine zkd ?_ | refine zka ?_ _)); refine blk_far ?_ NB103_104.out _; (with_reducible repeat (first | refine zkn ?_ _ | refine zkd ?_ | refine zka ?_ _)); refine blk_far ?_ NB103_104.out _; (with_reducible repeat (first | refine zkn ?_ _ | refine zkd ?_ | refine zka ?_ _)); refine blk_far ?_ NB103_104.out _; (with_reducible repeat (first | refine zkn ?_ _ | refine zkd ?_ | refine zka ?_ _)); refine blk_far ?_ NB103_104.out _; (with_reducible repeat (first | refine zkn ?_ _ | refine zkd ?_ | refine zka ?_ _)); refine blk_put (cs := #[.string ((rd_T57 l0 a1).f0), .int .i64 ((rd_T57 l0 a1).f1), .int .i64 ((rd_T57 l0 a1).f2), .int .i64 ((rd_T57 l0 a1).f3), .int .i64 0]) ?_ 4 _ rfl; (with_reducible repeat (first | refine zkn ?_ _ | refine zkd ?_ | refine zka ?_ _)); refine blk_put (cs := #[.string ((rd_T57 l0 a1).f0), .int .i64 ((rd_T57 l0 a1).f1), .int .i64 ((rd_T57 l0 a1).f2), .int .i64 0, .int .i64 0]) ?_ 3 _ rfl; (with_reducible repeat (first | refine zkn ?_ _ | refine zkd ?_ | refine zka ?_ _)); refine blk_put (cs := #[.string ((rd_T57 l0 a1).f0), .int .i64 ((rd_T57 l0 a1).f1), .int .i64 0, .int .i64 0, .int .i64 0]) ?_ 2 _ rfl; (with_reducible repeat (first | refine zkn ?_ _ | refine zkd ?_ | refine zka ?_ _)); refine blk_put (cs := #[.string ((rd_T57 l0 a1).f0), .int .i64 0, .int .i64 0, .int .i64 0, .int .i64 0]) ?_ 1 _ rfl; (with_reducible repeat (first | refine zkn ?_ _ | refine zkd ?_ | refine zka ?_ _)); refine blk_put (cs := #[.string (⟨#[]⟩ : ByteArray), .int .i64 0, .int .i64 0, .int .i64 0, .int .i64 0]) ?_ 0 _ rfl; (with_reducible repeat (first | refine zkn ?_ _ | refine zkd ?_ | refine zka ?_ _)); exact BK103.out⟩
 have n1_ : Aside0 (((((((((((w14.setCell ⟨gb103, 0, none⟩ (.string ((rd_T57 l0 a1).f0))).setCell ⟨gb103, 1, none⟩ (.int .i64 ((rd_T57 l0 a1).f1))).setCell ⟨gb103, 2, none⟩ (.int .i64 ((rd_T57 l0 a1).f2))).setCell ⟨gb103, 3, none⟩ (.int .i64 ((rd_T57 l0 a1).f3))).setCell ⟨gb103, 4, none⟩ (.int .i64 ((rd_T57 l0 a1).f4))).setCell ⟨gb104, 0, none⟩ (.string ((rd_T57 l0 a2).f0))).setCell ⟨gb104, 1, none⟩ (.int .i64 ((rd_T57 l0 a2).f1))).setCell ⟨gb104, 2, none⟩ (.int .i64 ((rd_T57 l0 a2).f2))).setCell ⟨gb104, 3, none⟩ (.int .i64 ((rd_T57 l0 a2).f3))).setCell ⟨gb104, 4, none⟩ (.int .i64 ((rd_T57 l0 a2).f4))).heap[gb104]? = some (.cells #[.string ((rd_T57 l0 a2).f0), .int .i64 ((rd_T57 l0 a2).f1), .int .i64 ((rd_T57 l0 a2).f2), .int .i64 ((rd_T57 l0 a2).f3), .int .i64 ((rd_T57 l0 a2).f4)] 57 (0, 0))) := ⟨by (with_reducible repeat (first | refine zkn ?_ _ | refine zkd ?_ | refine zka ?_ _)); refine blk_put (cs := #[.string ((rd_T57 l0 a2).f0), .int .i64 ((rd_T57 l0 a2).f1), .int .i64 ((rd_T57 l0 a2).f2), .int .i64 ((rd_T57 l0 a2).f3), .int .i64 0]) ?_ 4 _ rfl; (with_reducible repeat (first | refine zkn ?_ _ | refine zkd ?_ | refine zka ?_ _)); refine blk_put (cs := #[.string ((rd_T57 l0 a2).f0), .int .i64 ((rd_T57 l0 a2).f1), .int .i64 ((rd_T57 l0 a2).f2), .int .i64 0, .int .i64 0]) ?_ 3 _ rfl; (with_reducible repeat (first | refine zkn ?_ _ | refine zkd ?_ | refine zka ?_ _)); refine blk_put (cs := #[.string ((rd_T57 l0 a2).f0), .int .i64 ((rd_T57 l0 a2).f1), .int .i64 0, .int .i64 0, .int .i64 0]) ?_ 2 _ rfl; (with_reducible repeat (first | refine zkn ?_ _ | refine zkd ?_ | refine zka ?_ _)); refine blk_put (cs := #[.string ((rd_T57 l0 a2).f0), .int .i64 0, .int .i64 0, .int .i64 0, .int .i64 0]) ?_ 1 _ rfl; (with_reducible repeat (first | refine zkn ?_ _ | refine zkd ?_ | refine zka ?_ _)); refine blk_put (cs := #[.string (⟨#[]⟩ : ByteArray), .int .i64 0, .int .i64 0, .int .i64 0, .int .i64 0]) ?_ 0 _ rfl; (with_reducible repeat (first | refine zkn ?_ _ | refine zkd ?_ | refine zka ?_ _)); refine blk_far ?_ NB104_103.out _; (with_reducible repeat (first | refine zkn ?_ _ | refine zkd ?_ | refine zka ?_ _)); refine blk_far ?_ NB104_103.out _; (with_reducible repeat (first | refine zkn ?_ _ | refine zkd ?_ | refine zka ?_ _)); refine blk_far ?_ NB104_103.out _; (with_reducible repeat (first | refine zkn ?_ _ | refine zkd ?_ | refine zka ?_ _)); refine blk_far ?_ NB104_103.out _; (with_reducible repeat (first | refine zkn ?_ _ | refine zkd ?_ | refine zka ?_ _)); refine blk_far ?_ NB104_103.out _; (with_reducible repeat (first | refine zkn ?_ _ | refine zkd ?_ | refine zka ?_ _)); exact BK104.out⟩
 have n2_ : Aside0 (Below w.heap.size w ((((((((((w14.setCell ⟨gb103, 0, none⟩ (.string ((rd_T57 l0 a1).f0))).setCell ⟨gb103, 1, none⟩ (.int .i64 ((rd_T57 l0 a1).f1))).setCell ⟨gb103, 2, none⟩ (.int .i64 ((rd_T57 l0 a1).f2))).setCell ⟨gb103, 3, none⟩ (.int .i64 ((rd_T57 l0 a1).f3))).setCell ⟨gb103, 4, none⟩ (.int .i64 ((rd_T57 l0 a1).f4))).setCell ⟨gb104, 0, none⟩ (.string ((rd_T57 l0 a2).f0))).setCell ⟨gb104, 1, none⟩ (.int .i64 ((rd_T57 l0 a2).f1))).setCell ⟨gb104, 2, none⟩ (.int .i64 ((rd_T57 l0 a2).f2))).setCell ⟨gb104, 3, none⟩ (.int .i64 ((rd_T57 l0 a2).f3))).setCell ⟨gb104, 4, none⟩ (.int .i64 ((rd_T57 l0 a2).f4)))) := ⟨by repeat (first | (with_reducible first | exact HB.out | apply zba | apply zbn | apply zbd | refine below_set ?_ GE103.out | refine below_set ?_ GE104.out) | exact HB.out)⟩
 (try clear BK103)
 (try clear BK104)
 (try clear HB)
 generalize ((((((((((w14.setCell ⟨gb103, 0, none⟩ (.string ((rd_T57 l0 a1).f0))).setCell ⟨gb103, 1, none⟩ (.int .i64 ((rd_T57 l0 a1).f1))).setCell ⟨gb103, 2, none⟩ (.int .i64 ((rd_T57 l0 a1).f2))).setCell ⟨gb103, 3, none⟩ (.int .i64 ((rd_T57 l0 a1).f3))).setCell ⟨gb103, 4, none⟩ (.int .i64 ((rd_T57 l0 a1).f4))).setCell ⟨gb104, 0, none⟩ (.string ((rd_T57 l0 a2).f0))).setCell ⟨gb104, 1, none⟩ (.int .i64 ((rd_T57 l0 a2).f1))).setCell ⟨gb104, 2, none⟩ (.int .i64 ((rd_T57 l0 a2).f2))).setCell ⟨gb104, 3, none⟩ (.int .i64 ((rd_T57 l0 a2).f3))).setCell ⟨gb104, 4, none⟩ (.int .i64 ((rd_T57 l0 a2).f4))) = w25 at n0_ n1_ n2_ ⊢
 have BK103 := n0_
 have BK104 := n1_
 have HB := n2_
 clear n0_ n1_ n2_
 have n0_ := zA (zkd BK103.out)
 have n1_ := zA (zkd BK104.out)
 have n2_ := zA (zbd HB.out)
 clear BK103
 clear BK104
 clear HB
 have BK103 := n0_
 have BK104 := n1_
 have HB := n2_
 clear n0_ n1_ n2_
 refine start_ (n := 5) (S := fun w' => w'.cell? ⟨gb103, 0, none⟩ = some (.string ((rd_T57 l0 a1).f0)) ∧ w'.cell? ⟨gb103, 1, none⟩ = some (.int .i64 ((rd_T57 l0 a1).f1)) ∧ w'.cell? ⟨gb103, 2, none⟩ = some (.int .i64 ((rd_T57 l0 a1).f2)) ∧ w'.cell? ⟨gb103, 3, none⟩ = some (.int .i64 ((rd_T57 l0 a1).f3)) ∧ w'.cell? ⟨gb103, 4, none⟩ = some (.int .i64 ((rd_T57 l0 a1).f4)) ∧ w'.cell? ⟨gb104, 0, none⟩ = some (.string ((rd_T57 l0 a2).f0)) ∧ w'.cell? ⟨gb104, 1, none⟩ = some (.int .i64 ((rd_T57 l0 a2).f1)) ∧ w'.cell? ⟨gb104, 2, none⟩ = some (.int .i64 ((rd_T57 l0 a2).f2)) ∧ w'.cell? ⟨gb104, 3, none⟩ = some (.int .i64 ((rd_T57 l0 a2).f3)) ∧ w'.cell? ⟨gb104, 4, none⟩ = some (.int .i64 ((rd_T57 l0 a2).f4))) (ds := []) #[false, false, false, false, false] (by kernel_rfl) rfl rfl ⟨(blk_cell BK103.out 0).trans rfl, (blk_cell BK103.out 1).trans rfl, (blk_cell BK103.out 2).trans rfl, (blk_cell BK103.out 3).trans rfl, (blk_cell BK103.out 4).trans rfl, (blk_cell BK104.out 0).trans rfl, (blk_cell BK104.out 1).trans rfl, (blk_cell BK104.out 2).trans rfl, (blk_cell BK104.out 3).trans rfl, (blk_cell BK104.out 4).trans rfl⟩ (fun hHeld => ?_)
 generalize w25.drew = w26 at BK103 BK104 HB hHeld ⊢
 refine pure_ (i := 2) (N := some 22) (v := ?_) (a' := ?_) #[false, false, true, false, false] rfl rfl (by kernel_rfl) (fun _ _ _ h => h) (Or.inl ⟨by rfl, ?_⟩) ?_ ?_
 rotate_left
 · intro w'
   go_simp
   with_reducible rfl
 rotate_left
 · simp only [Act.put, List.setIfInBounds_toArray, List.set_cons_zero, List.set_cons_succ, i64_w, i32_w]
   rfl
 refine take_ (i := 0) (N := some 20) (v := ?_) (a' := ?_) #[true, false, true, false, false] rfl rfl (by kernel_rfl) (fun _ _ _ h => h) (Or.inl ⟨by rfl, ?_⟩) hHeld ?_ ?_
 rotate_left
 · rintro w' ⟨s0, s1, s2, s3, s4, s5, s6, s7, s8, s9⟩
   go_simp
   with_reducible rfl
 rotate_left
 · simp only [Act.put, List.setIfInBounds_toArray, List.set_cons_zero, List.set_cons_succ, i64_w, i32_w]
   rfl
 refine take_ (i := 3) (N := some 23) (v := ?_) (a' := ?_) #[true, false, true, true, false] rfl rfl (by kernel_rfl) (fun _ _ _ h => h) (Or.inl ⟨by rfl, ?_⟩) hHeld ?_ ?_
 rotate_left
 · rintro w' ⟨s0, s1, s2, s3, s4, s5, s6, s7, s8, s9⟩
   go_simp
   with_reducible rfl
 rotate_left
 · simp only [Act.put, List.setIfInBounds_toArray, List.set_cons_zero, List.set_cons_succ, i64_w, i32_w]
   rfl
 refine one_ (i := 1) (N := some 21) #[true, true, true, true, false] rfl rfl (by kernel_rfl) (by decide) (fun K hK => ?_)
 refine goes_ Try.func103 (by kernel_rfl) rfl #[.agg #[.string ((rd_T57 l0 a1).f0), .int .i64 ((rd_T57 l0 a1).f1), .int .i64 ((rd_T57 l0 a1).f2), .int .i64 ((rd_T57 l0 a1).f3), .int .i64 ((rd_T57 l0 a1).f4)]] (by rfl) rfl rfl (by (try simp only [List.map_toArray, List.map_cons, List.map_nil]); first | done | rfl | (simp only [List.length_drop, List.length_take]; rfl)) ?_
 with_reducible refine (spec_cdReads.calls k ((rd_T57 l0 a1).f0) ((rd_T57 l0 a1).f1) ((rd_T57 l0 a1).f2) ((rd_T57 l0 a1).f3) ((rd_T57 l0 a1).f4) t105 _ A8.out).mono ?_
 rintro e w27 ⟨v106, rfl, ho0, hb⟩
 refine ⟨_, rfl, ?_⟩
 have n0_ := zA (Kd.R_lower ho0 (below_size (by repeat (first | (with_reducible first | exact HB.out | apply zba | apply zbn | apply zbd | refine below_set ?_ GE103.out | refine below_set ?_ GE104.out) | exact HB.out))))
 have n1_ := zA (blk_below (g := gb103) (o := .cells #[.string ((rd_T57 l0 a1).f0), .int .i64 ((rd_T57 l0 a1).f1), .int .i64 ((rd_T57 l0 a1).f2), .int .i64 ((rd_T57 l0 a1).f3), .int .i64 ((rd_T57 l0 a1).f4)] 57 (0, 0)) (by (with_reducible repeat (first | refine zkn ?_ _ | refine zkd ?_ | refine zka ?_ _)); exact BK103.out) hb)
 have n2_ := zA (blk_below (g := gb104) (o := .cells #[.string ((rd_T57 l0 a2).f0), .int .i64 ((rd_T57 l0 a2).f1), .int .i64 ((rd_T57 l0 a2).f2), .int .i64 ((rd_T57 l0 a2).f3), .int .i64 ((rd_T57 l0 a2).f4)] 57 (0, 0)) (by (with_reducible repeat (first | refine zkn ?_ _ | refine zkd ?_ | refine zka ?_ _)); exact BK104.out) hb)
 have n3_ := zA (below_step (by repeat (first | (with_reducible first | exact HB.out | apply zba | apply zbn | apply zbd | refine below_set ?_ GE103.out | refine below_set ?_ GE104.out) | exact HB.out)) hb)
 clear BK103
 clear BK104
 clear HB
 have HO107 := n0_
 have BK103 := n1_
 have BK104 := n2_
 have HB := n3_
 clear n0_ n1_ n2_ n3_
 (try clear hb)
 (try clear hb2)
 (try clear hk)
 (try clear hi)
 (try clear ho0)
 obtain ⟨Ao28, co28, eo28⟩ := Kd.R_slice HO107.out
 (first | subst eo28 | (injection eo28 with f1_ f2_ f3_; have f4_ := f1_.symm; have f5_ := f3_.symm; clear f1_ f2_ f3_; subst f4_; subst f5_))
 refine hK.out _ _ ⟨(blk_cell BK103.out 0).trans rfl, (blk_cell BK103.out 1).trans rfl, (blk_cell BK103.out 2).trans rfl, (blk_cell BK103.out 3).trans rfl, (blk_cell BK103.out 4).trans rfl, (blk_cell BK104.out 0).trans rfl, (blk_cell BK104.out 1).trans rfl, (blk_cell BK104.out 2).trans rfl, (blk_cell BK104.out 3).trans rfl, (blk_cell BK104.out 4).trans rfl⟩ (fun hHeld => ?_)
 clear hK K
 refine norm_ (a' := ?_) ?_ ?_
 rotate_left
 · show Act.put _ (some 21) _ = _
   simp only [Act.put, List.setIfInBounds_toArray, List.set_cons_zero, List.set_cons_succ, i64_w, i32_w]
   rfl
 refine one_ (i := 4) (N := some 24) #[true, true, true, true, true] rfl rfl (by kernel_rfl) (by decide) (fun K hK => ?_)
 refine goes_ Try.func60 (by kernel_rfl) rfl #[.slice Ao28 t105.length co28, .int .i64 ((rd_T57 l0 a2).f1)] (by rfl) rfl rfl (by (try simp only [List.map_toArray, List.map_cons, List.map_nil]); first | done | rfl | (simp only [List.length_drop, List.length_take]; rfl)) ?_
 with_reducible refine (spec_l1Has.calls k _ _ t105 ((rd_T57 l0 a2).f1) t108 _ ?side1 ?side2 A9.out).mono ?_
 (case side1 => repeat (first | exact (zRr HO107.out).2.2 | (with_reducible first | refine zCa ?_ _ | refine zCn ?_ _ | refine zCd ?_)))
 (case side2 => exact (zRr HO107.out).2.1)
 rintro e w' ⟨rfl, ⟨nd, rfl⟩⟩
 refine ⟨_, rfl, ?_⟩
 refine hK.out _ _ ⟨(blk_cell BK103.out 0).trans rfl, (blk_cell BK103.out 1).trans rfl, (blk_cell BK103.out 2).trans rfl, (blk_cell BK103.out 3).trans rfl, (blk_cell BK103.out 4).trans rfl, (blk_cell BK104.out 0).trans rfl, (blk_cell BK104.out 1).trans rfl, (blk_cell BK104.out 2).trans rfl, (blk_cell BK104.out 3).trans rfl, (blk_cell BK104.out 4).trans rfl⟩ (fun hHeld => ?_)
 clear hK K
 refine norm_ (a' := ?_) ?_ ?_
 rotate_left
 · show Act.put _ (some 24) _ = _
   simp only [Act.put, List.setIfInBounds_toArray, List.set_cons_zero, List.set_cons_succ, i64_w, i32_w]
   rfl
 refine done_ (by kernel_rfl) ?_
 (try (rw [drewN_self w27]; generalize hq_ : World.drewN w27 _ = w27; have n0_ := zA (Kd.R_at hq_ HO107.out); have n1_ := zA (blk_at hq_ BK103.out); have n2_ := zA (blk_at hq_ BK104.out); have n3_ := zA (below_at hq_ HB.out); clear hq_ HO107 BK103 BK104 HB; have HO107 := n0_; have BK103 := n1_; have BK104 := n2_; have HB := n3_; clear n0_ n1_ n2_ n3_))
 go_upto_if 24 with (fail)
 go_cut [9] (fun v9 wc => ∃ (kq : Nat) (x9_9 : Int), v9 = .int .i64 x9_9 ∧ Aside0 (spec_orDelay.j0 kq l0 a1 a2 x9_9 ((rd_T57 l0 a1).f0) ((rd_T57 l0 a1).f1) ((rd_T57 l0 a1).f2) ((rd_T57 l0 a1).f3) ((rd_T57 l0 a1).f4) ((rd_T57 l0 a2).f0) ((rd_T57 l0 a2).f1) ((rd_T57 l0 a2).f2) ((rd_T57 l0 a2).f3) ((rd_T57 l0 a2).f4) = some r) ∧ Aside0 (kq ≤ k) ∧ Aside0 (wc.heap[gb103]? = some (.cells #[.string ((rd_T57 l0 a1).f0), .int .i64 ((rd_T57 l0 a1).f1), .int .i64 ((rd_T57 l0 a1).f2), .int .i64 ((rd_T57 l0 a1).f3), .int .i64 ((rd_T57 l0 a1).f4)] 57 (0, 0))) ∧ Aside0 (wc.heap[gb104]? = some (.cells #[.string ((rd_T57 l0 a2).f0), .int .i64 ((rd_T57 l0 a2).f1), .int .i64 ((rd_T57 l0 a2).f2), .int .i64 ((rd_T57 l0 a2).f3), .int .i64 ((rd_T57 l0 a2).f4)] 57 (0, 0))) ∧ Aside0 (Below w.heap.size w wc))
 case first =>
   have H := HC10.out
   clear HC10
   by_cases c29 : t108 = true
   · subst c29
     replace H : (spec_orDelay.j0 k l0 a1 a2 0 ((rd_T57 l0 a1).f0) ((rd_T57 l0 a1).f1) ((rd_T57 l0 a1).f2) ((rd_T57 l0 a1).f3) ((rd_T57 l0 a1).f4) ((rd_T57 l0 a2).f0) ((rd_T57 l0 a2).f1) ((rd_T57 l0 a2).f2) ((rd_T57 l0 a2).f3) ((rd_T57 l0 a2).f4)) = some r := by rw [if_pos rfl] at H; exact H
     have H' := zA H
     clear H
     go_wp2
     go_meet
     case rel => exact ⟨_, (0), (by first | rfl | (simp; done) | (simp [*]; done)), H', ⟨by first | omega | exact zlr _⟩, ⟨by (with_reducible repeat (first | refine zkn ?_ _ | refine zkd ?_ | refine zka ?_ _)); exact BK103.out⟩, ⟨by (with_reducible repeat (first | refine zkn ?_ _ | refine zkd ?_ | refine zka ?_ _)); exact BK104.out⟩, ⟨by repeat (first | (with_reducible first | exact HB.out | apply zba | apply zbn | apply zbd | refine below_set ?_ GE103.out | refine below_set ?_ GE104.out) | exact HB.out)⟩⟩
   replace c29 := zbf c29
   subst c29
   replace H : (spec_orDelay.j0 k l0 a1 a2 (-1) ((rd_T57 l0 a1).f0) ((rd_T57 l0 a1).f1) ((rd_T57 l0 a1).f2) ((rd_T57 l0 a1).f3) ((rd_T57 l0 a1).f4) ((rd_T57 l0 a2).f0) ((rd_T57 l0 a2).f1) ((rd_T57 l0 a2).f2) ((rd_T57 l0 a2).f3) ((rd_T57 l0 a2).f4)) = some r := by rw [if_neg (show ¬ (false = true) by decide)] at H; exact H
   have H' := zA H
   clear H
   go_wp2
   go_meet
   case rel => exact ⟨_, ((-1)), (by first | rfl | (simp; done) | (simp [*]; done)), H', ⟨by first | omega | exact zlr _⟩, ⟨by (with_reducible repeat (first | refine zkn ?_ _ | refine zkd ?_ | refine zka ?_ _)); exact BK103.out⟩, ⟨by (with_reducible repeat (first | refine zkn ?_ _ | refine zkd ?_ | refine zka ?_ _)); exact BK104.out⟩, ⟨by repeat (first | (with_reducible first | exact HB.out | apply zba | apply zbn | apply zbd | refine below_set ?_ GE103.out | refine below_set ?_ GE104.out) | exact HB.out)⟩⟩
 clear HC10
 try clear c1
 try clear p1
 try clear q1
 try clear hx1
 try clear c2
 try clear p2
 try clear c4
 try clear c4b0
 try clear c5
 try clear c5b0
 try clear c6
 try clear c6b0
 try clear c7
 try clear c7b0
 try clear c8
 try clear c10
 try clear p10
 try clear q10
 try clear hx10
 try clear c29
 try clear hx101_0
 try clear hx101_1
 try clear hx101_2
 try clear hx101_3
 try clear hx101_4
 try clear hx102_0
 try clear hx102_1
 try clear hx102_2
 try clear hx102_3
 try clear hx102_4
 try clear p101
 try clear p102
 try clear q101
 try clear q102
 obtain ⟨kq, x9_9, rfl, HA, HJ9, BK103, BK104, HB⟩ := hcut
 cases kq with
 | zero => exact absurd HA.out (by simp [spec_orDelay.j0])
 | succ kj9 =>
 have H := HA.out
 clear HA
 simp only [spec_orDelay.j0] at H
 have HC30 := zA H
 clear H
 have hnb31 := NB103_104.out
 have hnc31 := NB104_103.out
 obtain ⟨hcz32_0, hcz32_1, hcz32_2, hcz32_3, hcz32_4⟩ := zc5 wc (.string ((rd_T57 l0 a1).f0)) (.int .i64 ((rd_T57 l0 a1).f1)) (.int .i64 ((rd_T57 l0 a1).f2)) (.int .i64 ((rd_T57 l0 a1).f3)) (.int .i64 ((rd_T57 l0 a1).f4)) BK103.out
 obtain ⟨hfz32_0, hfz32_1, hfz32_2, hfz32_3, hfz32_4⟩ := zf5 BK103.out
 obtain ⟨hcz33_0, hcz33_1, hcz33_2, hcz33_3, hcz33_4⟩ := zc5 wc (.string ((rd_T57 l0 a2).f0)) (.int .i64 ((rd_T57 l0 a2).f1)) (.int .i64 ((rd_T57 l0 a2).f2)) (.int .i64 ((rd_T57 l0 a2).f3)) (.int .i64 ((rd_T57 l0 a2).f4)) BK104.out
 obtain ⟨hfz33_0, hfz33_1, hfz33_2, hfz33_3, hfz33_4⟩ := zf5 BK104.out
 go_upto_if 29 with (fail)
 go_cut [9] (fun v9 wc => ∃ (kq : Nat) (x9_29 : Int), v9 = .int .i64 x9_29 ∧ Aside0 (spec_orDelay.j1 kq l0 a1 a2 x9_29 ((rd_T57 l0 a1).f0) ((rd_T57 l0 a1).f1) ((rd_T57 l0 a1).f2) ((rd_T57 l0 a1).f3) ((rd_T57 l0 a1).f4) ((rd_T57 l0 a2).f0) ((rd_T57 l0 a2).f1) ((rd_T57 l0 a2).f2) ((rd_T57 l0 a2).f3) ((rd_T57 l0 a2).f4) = some r) ∧ Aside0 (kq ≤ kj9) ∧ Aside0 (wc.heap[gb103]? = some (.cells #[.string ((rd_T57 l0 a1).f0), .int .i64 ((rd_T57 l0 a1).f1), .int .i64 ((rd_T57 l0 a1).f2), .int .i64 ((rd_T57 l0 a1).f3), .int .i64 ((rd_T57 l0 a1).f4)] 57 (0, 0))) ∧ Aside0 (wc.heap[gb104]? = some (.cells #[.string ((rd_T57 l0 a2).f0), .int .i64 ((rd_T57 l0 a2).f1), .int .i64 ((rd_T57 l0 a2).f2), .int .i64 ((rd_T57 l0 a2).f3), .int .i64 ((rd_T57 l0 a2).f4)] 57 (0, 0))) ∧ Aside0 (Below w.heap.size w wc))
 case first =>
   have H := HC30.out
   clear HC30
   by_cases c34 : ((rd_T57 l0 a1).f1) = ((rd_T57 l0 a2).f1)
   rotate_left
   · rw [if_neg c34] at H
     have c34b0 : (((rd_T57 l0 a1).f1) == ((rd_T57 l0 a2).f1)) = false := beq_eq_false_iff_ne.mpr c34
     have c34b1 : (((rd_T57 l0 a1).f1) != ((rd_T57 l0 a2).f1)) = true := bne_iff_ne.mpr c34
     (first | rw [c34b0] | (simp only [i64_w, i32_w]; rw [c34b0]) | skip)
     have H' := zA H
     clear H
     go_wp2
     go_meet
     case rel => exact ⟨_, (x9_9), (by first | rfl | (simp; done) | (simp [*]; done)), H', ⟨by have := HJ9.out; first | omega | exact zlr _⟩, ⟨by (with_reducible repeat (first | refine zkn ?_ _ | refine zkd ?_ | refine zka ?_ _)); exact BK103.out⟩, ⟨by (with_reducible repeat (first | refine zkn ?_ _ | refine zkd ?_ | refine zka ?_ _)); exact BK104.out⟩, ⟨by repeat (first | (with_reducible first | exact HB.out | apply zba | apply zbn | apply zbd | refine below_set ?_ GE103.out | refine below_set ?_ GE104.out) | exact HB.out)⟩⟩
   rw [if_pos c34] at H
   have c34b0 : (((rd_T57 l0 a1).f1) == ((rd_T57 l0 a2).f1)) = true := beq_iff_eq.mpr c34
   have c34b1 : (((rd_T57 l0 a1).f1) != ((rd_T57 l0 a2).f1)) = false := bne_eq_false_iff_eq.mpr c34
   clear c34
   (first | rw [c34b0] | (simp only [i64_w, i32_w]; rw [c34b0]) | skip)
   have H' := zA H
   clear H
   go_wp2
   go_meet
   case rel => exact ⟨_, (1), (by first | rfl | (simp; done) | (simp [*]; done)), H', ⟨by have := HJ9.out; first | omega | exact zlr _⟩, ⟨by (with_reducible repeat (first | refine zkn ?_ _ | refine zkd ?_ | refine zka ?_ _)); exact BK103.out⟩, ⟨by (with_reducible repeat (first | refine zkn ?_ _ | refine zkd ?_ | refine zka ?_ _)); exact BK104.out⟩, ⟨by repeat (first | (with_reducible first | exact HB.out | apply zba | apply zbn | apply zbd | refine below_set ?_ GE103.out | refine below_set ?_ GE104.out) | exact HB.out)⟩⟩
 clear HC30
 try clear c1
 try clear p1
 try clear q1
 try clear hx1
 try clear c2
 try clear p2
 try clear c3
 try clear c4
 try clear c4b0
 try clear c5
 try clear c5b0
 try clear c6
 try clear c6b0
 try clear c7
 try clear c7b0
 try clear c8
 try clear c10
 try clear p10
 try clear q10
 try clear hx10
 try clear c29
 try clear c31
 try clear c34
 try clear c34b0
 try clear c34b1
 try clear hcz32_0
 try clear hcz32_1
 try clear hcz32_2
 try clear hcz32_3
 try clear hcz32_4
 try clear hcz33_0
 try clear hcz33_1
 try clear hcz33_2
 try clear hcz33_3
 try clear hcz33_4
 try clear hfz32_0
 try clear hfz32_1
 try clear hfz32_2
 try clear hfz32_3
 try clear hfz32_4
 try clear hfz33_0
 try clear hfz33_1
 try clear hfz33_2
 try clear hfz33_3
 try clear hfz33_4
 try clear hx101_0
 try clear hx101_1
 try clear hx101_2
 try clear hx101_3
 try clear hx101_4
 try clear hx102_0
 try clear hx102_1
 try clear hx102_2
 try clear hx102_3
 try clear hx102_4
 try clear p1
 try clear p10
 try clear p101
 try clear p102
 try clear p2
 try clear q1
 try clear q10
 try clear q101
 try clear q102
 obtain ⟨kq, x9_29, rfl, HA, HJ29, BK103, BK104, HB⟩ := hcut
 cases kq with
 | zero => exact absurd HA.out (by simp [spec_orDelay.j1])
 | succ kj29 =>
 have H := HA.out
 clear HA
 simp only [spec_orDelay.j1] at H
 replace H := zob H
 obtain ⟨t109, A350, H⟩ := H
 replace H : ((spec_l1Has.f kj29 t109 ((rd_T57 l0 a1).f1)).bind fun t112 => (if t112 = true then (spec_orDelay.l0 kj29 l0 a1 a2 x9_29 a1 (wrap64 (a1 + 1)) ((rd_T57 l0 a1).f0) ((rd_T57 l0 a1).f1) ((rd_T57 l0 a1).f2) ((rd_T57 l0 a1).f3) ((rd_T57 l0 a1).f4)) else (some x9_29))) = some r := H
 have A35 := zA A350
 clear A350
 replace H := zob H
 obtain ⟨t112, A360, H⟩ := H
 replace H : (if t112 = true then (spec_orDelay.l0 kj29 l0 a1 a2 x9_29 a1 (wrap64 (a1 + 1)) ((rd_T57 l0 a1).f0) ((rd_T57 l0 a1).f1) ((rd_T57 l0 a1).f2) ((rd_T57 l0 a1).f3) ((rd_T57 l0 a1).f4)) else (some x9_29)) = some r := H
 have A36 := zA A360
 clear A360
 by_cases c37 : t112 = true
 rotate_left
 · replace c37 := zbf c37
   subst c37
   replace H : (some x9_29) = some r := by rw [if_neg (show ¬ (false = true) by decide)] at H; exact H
   obtain rfl := zsi H
   try go_wp2
   have n0_ := zA (zkd BK103.out)
   have n1_ := zA (zkd BK104.out)
   have n2_ := zA (zbd HB.out)
   clear BK103
   clear BK104
   clear HB
   have BK103 := n0_
   have BK104 := n1_
   have HB := n2_
   clear n0_ n1_ n2_
   refine start_ (n := 5) (S := fun w' => w'.cell? ⟨gb104, 0, none⟩ = some (.string ((rd_T57 l0 a2).f0)) ∧ w'.cell? ⟨gb104, 1, none⟩ = some (.int .i64 ((rd_T57 l0 a2).f1)) ∧ w'.cell? ⟨gb104, 2, none⟩ = some (.int .i64 ((rd_T57 l0 a2).f2)) ∧ w'.cell? ⟨gb104, 3, none⟩ = some (.int .i64 ((rd_T57 l0 a2).f3)) ∧ w'.cell? ⟨gb104, 4, none⟩ = some (.int .i64 ((rd_T57 l0 a2).f4)) ∧ w'.cell? ⟨gb103, 0, none⟩ = some (.string ((rd_T57 l0 a1).f0)) ∧ w'.cell? ⟨gb103, 1, none⟩ = some (.int .i64 ((rd_T57 l0 a1).f1)) ∧ w'.cell? ⟨gb103, 2, none⟩ = some (.int .i64 ((rd_T57 l0 a1).f2)) ∧ w'.cell? ⟨gb103, 3, none⟩ = some (.int .i64 ((rd_T57 l0 a1).f3)) ∧ w'.cell? ⟨gb103, 4, none⟩ = some (.int .i64 ((rd_T57 l0 a1).f4))) (ds := []) #[false, false, false, false, false] (by kernel_rfl) rfl rfl ⟨(blk_cell BK104.out 0).trans rfl, (blk_cell BK104.out 1).trans rfl, (blk_cell BK104.out 2).trans rfl, (blk_cell BK104.out 3).trans rfl, (blk_cell BK104.out 4).trans rfl, (blk_cell BK103.out 0).trans rfl, (blk_cell BK103.out 1).trans rfl, (blk_cell BK103.out 2).trans rfl, (blk_cell BK103.out 3).trans rfl, (blk_cell BK103.out 4).trans rfl⟩ (fun hHeld => ?_)
   generalize wc.drew = w52 at BK103 BK104 HB hHeld ⊢
   refine pure_ (i := 2) (N := some 32) (v := ?_) (a' := ?_) #[false, false, true, false, false] rfl rfl (by kernel_rfl) (fun _ _ _ h => h) (Or.inl ⟨by rfl, ?_⟩) ?_ ?_
   rotate_left
   · intro w'
     go_simp
     with_reducible rfl
   rotate_left
   · simp only [Act.put, List.setIfInBounds_toArray, List.set_cons_zero, List.set_cons_succ, i64_w, i32_w]
     rfl
   refine take_ (i := 0) (N := some 30) (v := ?_) (a' := ?_) #[true, false, true, false, false] rfl rfl (by kernel_rfl) (fun _ _ _ h => h) (Or.inl ⟨by rfl, ?_⟩) hHeld ?_ ?_
   rotate_left
   · rintro w' ⟨s0, s1, s2, s3, s4, s5, s6, s7, s8, s9⟩
     go_simp
     with_reducible rfl
   rotate_left
   · simp only [Act.put, List.setIfInBounds_toArray, List.set_cons_zero, List.set_cons_succ, i64_w, i32_w]
     rfl
   refine take_ (i := 3) (N := some 33) (v := ?_) (a' := ?_) #[true, false, true, true, false] rfl rfl (by kernel_rfl) (fun _ _ _ h => h) (Or.inl ⟨by rfl, ?_⟩) hHeld ?_ ?_
   rotate_left
   · rintro w' ⟨s0, s1, s2, s3, s4, s5, s6, s7, s8, s9⟩
     go_simp
     with_reducible rfl
   rotate_left
   · simp only [Act.put, List.setIfInBounds_toArray, List.set_cons_zero, List.set_cons_succ, i64_w, i32_w]
     rfl
   refine one_ (i := 1) (N := some 31) #[true, true, true, true, false] rfl rfl (by kernel_rfl) (by decide) (fun K hK => ?_)
   refine goes_ Try.func103 (by kernel_rfl) rfl #[.agg #[.string ((rd_T57 l0 a2).f0), .int .i64 ((rd_T57 l0 a2).f1), .int .i64 ((rd_T57 l0 a2).f2), .int .i64 ((rd_T57 l0 a2).f3), .int .i64 ((rd_T57 l0 a2).f4)]] (by rfl) rfl rfl (by (try simp only [List.map_toArray, List.map_cons, List.map_nil]); first | done | rfl | (simp only [List.length_drop, List.length_take]; rfl)) ?_
   with_reducible refine (spec_cdReads.calls kj29 ((rd_T57 l0 a2).f0) ((rd_T57 l0 a2).f1) ((rd_T57 l0 a2).f2) ((rd_T57 l0 a2).f3) ((rd_T57 l0 a2).f4) t109 _ A35.out).mono ?_
   rintro e w53 ⟨v110, rfl, ho0, hb⟩
   refine ⟨_, rfl, ?_⟩
   have n0_ := zA (Kd.R_lower ho0 (below_size (by repeat (first | (with_reducible first | exact HB.out | apply zba | apply zbn | apply zbd | refine below_set ?_ GE103.out | refine below_set ?_ GE104.out) | exact HB.out))))
   have n1_ := zA (blk_below (g := gb103) (o := .cells #[.string ((rd_T57 l0 a1).f0), .int .i64 ((rd_T57 l0 a1).f1), .int .i64 ((rd_T57 l0 a1).f2), .int .i64 ((rd_T57 l0 a1).f3), .int .i64 ((rd_T57 l0 a1).f4)] 57 (0, 0)) (by (with_reducible repeat (first | refine zkn ?_ _ | refine zkd ?_ | refine zka ?_ _)); exact BK103.out) hb)
   have n2_ := zA (blk_below (g := gb104) (o := .cells #[.string ((rd_T57 l0 a2).f0), .int .i64 ((rd_T57 l0 a2).f1), .int .i64 ((rd_T57 l0 a2).f2), .int .i64 ((rd_T57 l0 a2).f3), .int .i64 ((rd_T57 l0 a2).f4)] 57 (0, 0)) (by (with_reducible repeat (first | refine zkn ?_ _ | refine zkd ?_ | refine zka ?_ _)); exact BK104.out) hb)
   have n3_ := zA (below_step (by repeat (first | (with_reducible first | exact HB.out | apply zba | apply zbn | apply zbd | refine below_set ?_ GE103.out | refine below_set ?_ GE104.out) | exact HB.out)) hb)
   clear BK103
   clear BK104
   clear HB
   have HO111 := n0_
   have BK103 := n1_
   have BK104 := n2_
   have HB := n3_
   clear n0_ n1_ n2_ n3_
   (try clear hb)
   (try clear hb2)
   (try clear hk)
   (try clear hi)
   (try clear ho0)
   obtain ⟨Ao54, co54, eo54⟩ := Kd.R_slice HO111.out
   (first | subst eo54 | (injection eo54 with f1_ f2_ f3_; have f4_ := f1_.symm; have f5_ := f3_.symm; clear f1_ f2_ f3_; subst f4_; subst f5_))
   refine hK.out _ _ ⟨(blk_cell BK104.out 0).trans rfl, (blk_cell BK104.out 1).trans rfl, (blk_cell BK104.out 2).trans rfl, (blk_cell BK104.out 3).trans rfl, (blk_cell BK104.out 4).trans rfl, (blk_cell BK103.out 0).trans rfl, (blk_cell BK103.out 1).trans rfl, (blk_cell BK103.out 2).trans rfl, (blk_cell BK103.out 3).trans rfl, (blk_cell BK103.out 4).trans rfl⟩ (fun hHeld => ?_)
   clear hK K
   refine norm_ (a' := ?_) ?_ ?_
   rotate_left
   · show Act.put _ (some 31) _ = _
     simp only [Act.put, List.setIfInBounds_toArray, List.set_cons_zero, List.set_cons_succ, i64_w, i32_w]
     rfl
   refine one_ (i := 4) (N := some 34) #[true, true, true, true, true] rfl rfl (by kernel_rfl) (by decide) (fun K hK => ?_)
   refine goes_ Try.func60 (by kernel_rfl) rfl #[.slice Ao54 t109.length co54, .int .i64 ((rd_T57 l0 a1).f1)] (by rfl) rfl rfl (by (try simp only [List.map_toArray, List.map_cons, List.map_nil]); first | done | rfl | (simp only [List.length_drop, List.length_take]; rfl)) ?_
   with_reducible refine (spec_l1Has.calls kj29 _ _ t109 ((rd_T57 l0 a1).f1) false _ ?side1 ?side2 A36.out).mono ?_
   (case side1 => repeat (first | exact (zRr HO111.out).2.2 | (with_reducible first | refine zCa ?_ _ | refine zCn ?_ _ | refine zCd ?_)))
   (case side2 => exact (zRr HO111.out).2.1)
   rintro e w' ⟨rfl, ⟨nd, rfl⟩⟩
   refine ⟨_, rfl, ?_⟩
   refine hK.out _ _ ⟨(blk_cell BK104.out 0).trans rfl, (blk_cell BK104.out 1).trans rfl, (blk_cell BK104.out 2).trans rfl, (blk_cell BK104.out 3).trans rfl, (blk_cell BK104.out 4).trans rfl, (blk_cell BK103.out 0).trans rfl, (blk_cell BK103.out 1).trans rfl, (blk_cell BK103.out 2).trans rfl, (blk_cell BK103.out 3).trans rfl, (blk_cell BK103.out 4).trans rfl⟩ (fun hHeld => ?_)
   clear hK K
   refine norm_ (a' := ?_) ?_ ?_
   rotate_left
   · show Act.put _ (some 34) _ = _
     simp only [Act.put, List.setIfInBounds_toArray, List.set_cons_zero, List.set_cons_succ, i64_w, i32_w]
     rfl
   refine done_ (by kernel_rfl) ?_
   (try (rw [drewN_self w53]; generalize hq_ : World.drewN w53 _ = w53; have n0_ := zA (Kd.R_at hq_ HO111.out); have n1_ := zA (blk_at hq_ BK103.out); have n2_ := zA (blk_at hq_ BK104.out); have n3_ := zA (below_at hq_ HB.out); clear hq_ HO111 BK103 BK104 HB; have HO111 := n0_; have BK103 := n1_; have BK104 := n2_; have HB := n3_; clear n0_ n1_ n2_ n3_))
   try go_wp2
   go_ret
   exact ⟨by first | rfl | (simp [errW_none, errW_some] <;> rfl) | (simp [*, errW_none, errW_some] <;> rfl), by repeat (first | (with_reducible first | exact HB.out | apply zba | apply zbn | apply zbd | refine below_set ?_ GE103.out | refine below_set ?_ GE104.out) | exact HB.out)⟩
 subst c37
 replace H : (spec_orDelay.l0 kj29 l0 a1 a2 x9_29 a1 (wrap64 (a1 + 1)) ((rd_T57 l0 a1).f0) ((rd_T57 l0 a1).f1) ((rd_T57 l0 a1).f2) ((rd_T57 l0 a1).f3) ((rd_T57 l0 a1).f4)) = some r := by rw [if_pos rfl] at H; exact H
 have H' := zA H
 clear H
 try go_wp2
 have n0_ := zA (zkd BK103.out)
 have n1_ := zA (zkd BK104.out)
 have n2_ := zA (zbd HB.out)
 clear BK103
 clear BK104
 clear HB
 have BK103 := n0_
 have BK104 := n1_
 have HB := n2_
 clear n0_ n1_ n2_
 refine start_ (n := 5) (S := fun w' => w'.cell? ⟨gb104, 0, none⟩ = some (.string ((rd_T57 l0 a2).f0)) ∧ w'.cell? ⟨gb104, 1, none⟩ = some (.int .i64 ((rd_T57 l0 a2).f1)) ∧ w'.cell? ⟨gb104, 2, none⟩ = some (.int .i64 ((rd_T57 l0 a2).f2)) ∧ w'.cell? ⟨gb104, 3, none⟩ = some (.int .i64 ((rd_T57 l0 a2).f3)) ∧ w'.cell? ⟨gb104, 4, none⟩ = some (.int .i64 ((rd_T57 l0 a2).f4)) ∧ w'.cell? ⟨gb103, 0, none⟩ = some (.string ((rd_T57 l0 a1).f0)) ∧ w'.cell? ⟨gb103, 1, none⟩ = some (.int .i64 ((rd_T57 l0 a1).f1)) ∧ w'.cell? ⟨gb103, 2, none⟩ = some (.int .i64 ((rd_T57 l0 a1).f2)) ∧ w'.cell? ⟨gb103, 3, none⟩ = some (.int .i64 ((rd_T57 l0 a1).f3)) ∧ w'.cell? ⟨gb103, 4, none⟩ = some (.int .i64 ((rd_T57 l0 a1).f4))) (ds := []) #[false, false, false, false, false] (by kernel_rfl) rfl rfl ⟨(blk_cell BK104.out 0).trans rfl, (blk_cell BK104.out 1).trans rfl, (blk_cell BK104.out 2).trans rfl, (blk_cell BK104.out 3).trans rfl, (blk_cell BK104.out 4).trans rfl, (blk_cell BK103.out 0).trans rfl, (blk_cell BK103.out 1).trans rfl, (blk_cell BK103.out 2).trans rfl, (blk_cell BK103.out 3).trans rfl, (blk_cell BK103.out 4).trans rfl⟩ (fun hHeld => ?_)
 generalize wc.drew = w38 at BK103 BK104 HB hHeld ⊢
 refine pure_ (i := 2) (N := some 32) (v := ?_) (a' := ?_) #[false, false, true, false, false] rfl rfl (by kernel_rfl) (fun _ _ _ h => h) (Or.inl ⟨by rfl, ?_⟩) ?_ ?_
 rotate_left
 · intro w'
   go_simp
   with_reducible rfl
 rotate_left
 · simp only [Act.put, List.setIfInBounds_toArray, List.set_cons_zero, List.set_cons_succ, i64_w, i32_w]
   rfl
 refine take_ (i := 0) (N := some 30) (v := ?_) (a' := ?_) #[true, false, true, false, false] rfl rfl (by kernel_rfl) (fun _ _ _ h => h) (Or.inl ⟨by rfl, ?_⟩) hHeld ?_ ?_
 rotate_left
 · rintro w' ⟨s0, s1, s2, s3, s4, s5, s6, s7, s8, s9⟩
   go_simp
   with_reducible rfl
 rotate_left
 · simp only [Act.put, List.setIfInBounds_toArray, List.set_cons_zero, List.set_cons_succ, i64_w, i32_w]
   rfl
 refine take_ (i := 3) (N := some 33) (v := ?_) (a' := ?_) #[true, false, true, true, false] rfl rfl (by kernel_rfl) (fun _ _ _ h => h) (Or.inl ⟨by rfl, ?_⟩) hHeld ?_ ?_
 rotate_left
 · rintro w' ⟨s0, s1, s2, s3, s4, s5, s6, s7, s8, s9⟩
   go_simp
   with_reducible rfl
 rotate_left
 · simp only [Act.put, List.setIfInBounds_toArray, List.set_cons_zero, List.set_cons_succ, i64_w, i32_w]
   rfl
 refine one_ (i := 1) (N := some 31) #[true, true, true, true, false] rfl rfl (by kernel_rfl) (by decide) (fun K hK => ?_)
 refine goes_ Try.func103 (by kernel_rfl) rfl #[.agg #[.string ((rd_T57 l0 a2).f0), .int .i64 ((rd_T57 l0 a2).f1), .int .i64 ((rd_T57 l0 a2).f2), .int .i64 ((rd_T57 l0 a2).f3), .int .i64 ((rd_T57 l0 a2).f4)]] (by rfl) rfl rfl (by (try simp only [List.map_toArray, List.map_cons, List.map_nil]); first | done | rfl | (simp only [List.length_drop, List.length_take]; rfl)) ?_
 with_reducible refine (spec_cdReads.calls kj29 ((rd_T57 l0 a2).f0) ((rd_T57 l0 a2).f1) ((rd_T57 l0 a2).f2) ((rd_T57 l0 a2).f3) ((rd_T57 l0 a2).f4) t109 _ A35.out).mono ?_
 rintro e w39 ⟨v110, rfl, ho0, hb⟩
 refine ⟨_, rfl, ?_⟩
 have n0_ := zA (Kd.R_lower ho0 (below_size (by repeat (first | (with_reducible first | exact HB.out | apply zba | apply zbn | apply zbd | refine below_set ?_ GE103.out | refine below_set ?_ GE104.out) | exact HB.out))))
 have n1_ := zA (blk_below (g := gb103) (o := .cells #[.string ((rd_T57 l0 a1).f0), .int .i64 ((rd_T57 l0 a1).f1), .int .i64 ((rd_T57 l0 a1).f2), .int .i64 ((rd_T57 l0 a1).f3), .int .i64 ((rd_T57 l0 a1).f4)] 57 (0, 0)) (by (with_reducible repeat (first | refine zkn ?_ _ | refine zkd ?_ | refine zka ?_ _)); exact BK103.out) hb)
 have n2_ := zA (blk_below (g := gb104) (o := .cells #[.string ((rd_T57 l0 a2).f0), .int .i64 ((rd_T57 l0 a2).f1), .int .i64 ((rd_T57 l0 a2).f2), .int .i64 ((rd_T57 l0 a2).f3), .int .i64 ((rd_T57 l0 a2).f4)] 57 (0, 0)) (by (with_reducible repeat (first | refine zkn ?_ _ | refine zkd ?_ | refine zka ?_ _)); exact BK104.out) hb)
 have n3_ := zA (below_step (by repeat (first | (with_reducible first | exact HB.out | apply zba | apply zbn | apply zbd | refine below_set ?_ GE103.out | refine below_set ?_ GE104.out) | exact HB.out)) hb)
 clear BK103
 clear BK104
 clear HB
 have HO111 := n0_
 have BK103 := n1_
 have BK104 := n2_
 have HB := n3_
 clear n0_ n1_ n2_ n3_
 (try clear hb)
 (try clear hb2)
 (try clear hk)
 (try clear hi)
 (try clear ho0)
 obtain ⟨Ao40, co40, eo40⟩ := Kd.R_slice HO111.out
 (first | subst eo40 | (injection eo40 with f1_ f2_ f3_; have f4_ := f1_.symm; have f5_ := f3_.symm; clear f1_ f2_ f3_; subst f4_; subst f5_))
 refine hK.out _ _ ⟨(blk_cell BK104.out 0).trans rfl, (blk_cell BK104.out 1).trans rfl, (blk_cell BK104.out 2).trans rfl, (blk_cell BK104.out 3).trans rfl, (blk_cell BK104.out 4).trans rfl, (blk_cell BK103.out 0).trans rfl, (blk_cell BK103.out 1).trans rfl, (blk_cell BK103.out 2).trans rfl, (blk_cell BK103.out 3).trans rfl, (blk_cell BK103.out 4).trans rfl⟩ (fun hHeld => ?_)
 clear hK K
 refine norm_ (a' := ?_) ?_ ?_
 rotate_left
 · show Act.put _ (some 31) _ = _
   simp only [Act.put, List.setIfInBounds_toArray, List.set_cons_zero, List.set_cons_succ, i64_w, i32_w]
   rfl
 refine one_ (i := 4) (N := some 34) #[true, true, true, true, true] rfl rfl (by kernel_rfl) (by decide) (fun K hK => ?_)
 refine goes_ Try.func60 (by kernel_rfl) rfl #[.slice Ao40 t109.length co40, .int .i64 ((rd_T57 l0 a1).f1)] (by rfl) rfl rfl (by (try simp only [List.map_toArray, List.map_cons, List.map_nil]); first | done | rfl | (simp only [List.length_drop, List.length_take]; rfl)) ?_
 with_reducible refine (spec_l1Has.calls kj29 _ _ t109 ((rd_T57 l0 a1).f1) true _ ?side1 ?side2 A36.out).mono ?_
 (case side1 => repeat (first | exact (zRr HO111.out).2.2 | (with_reducible first | refine zCa ?_ _ | refine zCn ?_ _ | refine zCd ?_)))
 (case side2 => exact (zRr HO111.out).2.1)
 rintro e w' ⟨rfl, ⟨nd, rfl⟩⟩
 refine ⟨_, rfl, ?_⟩
 refine hK.out _ _ ⟨(blk_cell BK104.out 0).trans rfl, (blk_cell BK104.out 1).trans rfl, (blk_cell BK104.out 2).trans rfl, (blk_cell BK104.out 3).trans rfl, (blk_cell BK104.out 4).trans rfl, (blk_cell BK103.out 0).trans rfl, (blk_cell BK103.out 1).trans rfl, (blk_cell BK103.out 2).trans rfl, (blk_cell BK103.out 3).trans rfl, (blk_cell BK103.out 4).trans rfl⟩ (fun hHeld => ?_)
 clear hK K
 refine norm_ (a' := ?_) ?_ ?_
 rotate_left
 · show Act.put _ (some 34) _ = _
   simp only [Act.put, List.setIfInBounds_toArray, List.set_cons_zero, List.set_cons_succ, i64_w, i32_w]
   rfl
 refine done_ (by kernel_rfl) ?_
 (try (rw [drewN_self w39]; generalize hq_ : World.drewN w39 _ = w39; have n0_ := zA (Kd.R_at hq_ HO111.out); have n1_ := zA (blk_at hq_ BK103.out); have n2_ := zA (blk_at hq_ BK104.out); have n3_ := zA (below_at hq_ HB.out); clear hq_ HO111 BK103 BK104 HB; have HO111 := n0_; have BK103 := n1_; have BK104 := n2_; have HB := n3_; clear n0_ n1_ n2_ n3_))
 try go_wp2
 go_loopg [10, 11] kj29 (fun kq v10 v11 w' => ∃ (x10_3 : Int) (x11_3 : Int), v10 = .int .i64 x10_3 ∧ v11 = .int .i64 x11_3 ∧ Aside0 (spec_orDelay.l0 kq l0 a1 a2 x9_29 x10_3 x11_3 ((rd_T57 l0 a1).f0) ((rd_T57 l0 a1).f1) ((rd_T57 l0 a1).f2) ((rd_T57 l0 a1).f3) ((rd_T57 l0 a1).f4) = some r) ∧ Aside0 (kq ≤ kj29) ∧ Aside0 (w'.heap[gb103]? = some (.cells #[.string ((rd_T57 l0 a1).f0), .int .i64 ((rd_T57 l0 a1).f1), .int .i64 ((rd_T57 l0 a1).f2), .int .i64 ((rd_T57 l0 a1).f3), .int .i64 ((rd_T57 l0 a1).f4)] 57 (0, 0))) ∧ Aside0 (w'.heap[gb104]? = some (.cells #[.string ((rd_T57 l0 a2).f0), .int .i64 ((rd_T57 l0 a2).f1), .int .i64 ((rd_T57 l0 a2).f2), .int .i64 ((rd_T57 l0 a2).f3), .int .i64 ((rd_T57 l0 a2).f4)] 57 (0, 0))) ∧ Aside0 (Below w.heap.size w w'))
 case atStart => exact ⟨(a1), (wrap64 (a1 + 1)), (by first | rfl | (simp; done) | (simp [*]; done)), (by first | rfl | (simp; done) | (simp [*]; done)), H', ⟨zlr _⟩, ⟨by (with_reducible repeat (first | refine zkn ?_ _ | refine zkd ?_ | refine zka ?_ _)); exact BK103.out⟩, ⟨by (with_reducible repeat (first | refine zkn ?_ _ | refine zkd ?_ | refine zka ?_ _)); exact BK104.out⟩, ⟨by repeat (first | (with_reducible first | exact HB.out | apply zba | apply zbn | apply zbd | refine below_set ?_ GE103.out | refine below_set ?_ GE104.out) | exact HB.out)⟩⟩
 clear H'
 try clear c1
 try clear p1
 try clear q1
 try clear hx1
 try clear c2
 try clear p2
 try clear c3
 try clear c4
 try clear c4b0
 try clear c5
 try clear c5b0
 try clear c6
 try clear c6b0
 try clear p6
 try clear c7
 try clear c7b0
 try clear c8
 try clear c10
 try clear p10
 try clear q10
 try clear hx10
 try clear c29
 try clear c31
 try clear c34
 try clear c34b0
 try clear c34b1
 try clear c37
 try clear hcz32_0
 try clear hcz32_1
 try clear hcz32_2
 try clear hcz32_3
 try clear hcz32_4
 try clear hcz33_0
 try clear hcz33_1
 try clear hcz33_2
 try clear hcz33_3
 try clear hcz33_4
 try clear hfz32_0
 try clear hfz32_1
 try clear hfz32_2
 try clear hfz32_3
 try clear hfz32_4
 try clear hfz33_0
 try clear hfz33_1
 try clear hfz33_2
 try clear hfz33_3
 try clear hfz33_4
 try clear hx101_0
 try clear hx101_1
 try clear hx101_2
 try clear hx101_3
 try clear hx101_4
 try clear hx102_0
 try clear hx102_1
 try clear hx102_2
 try clear hx102_3
 try clear hx102_4
 try clear p1
 try clear p10
 try clear p101
 try clear p102
 try clear p2
 try clear q1
 try clear q10
 try clear q101
 try clear q102
 obtain ⟨x10_3, x11_3, rfl, rfl, HA, HK3, BK103, BK104, HB⟩ := hrel
 cases gk with
 | zero => exact absurd HA.out (by simp [spec_orDelay.l0])
 | succ k3 =>
 have H := HA.out
 clear HA
 simp only [spec_orDelay.l0] at H
 by_cases c41 : x11_3 < a2
 rotate_left
 · rw [if_neg c41] at H
   have c41b0 : decide (x11_3 < a2) = false := zdf c41
   clear c41
   by_cases c47 : x10_3 = a1
   rotate_left
   · rw [if_neg c47] at H
     have c47b0 : (x10_3 == a1) = false := beq_eq_false_iff_ne.mpr c47
     have c47b1 : (x10_3 != a1) = true := bne_iff_ne.mpr c47
     obtain rfl := zsi H
     go_wp2
     go_ret
     exact ⟨by first | rfl | (simp [errW_none, errW_some] <;> rfl) | (simp [*, errW_none, errW_some] <;> rfl), by repeat (first | (with_reducible first | exact HB.out | apply zba | apply zbn | apply zbd | refine below_set ?_ GE103.out | refine below_set ?_ GE104.out) | exact HB.out)⟩
   rw [if_pos c47] at H
   have c47b0 : (x10_3 == a1) = true := beq_iff_eq.mpr c47
   have c47b1 : (x10_3 != a1) = false := bne_eq_false_iff_eq.mpr c47
   clear c47
   replace H := zob H
   obtain ⟨t114, A480, H⟩ := H
   replace H : ((spec_l1Most.f x9_29 t114).bind fun t115 => (some t115)) = some r := H
   have A48 := zA A480
   clear A480
   replace H := zob H
   obtain ⟨t115, A490, H⟩ := H
   replace H : (some t115) = some r := H
   have A49 := zA A490
   clear A490
   obtain rfl := zsi H
   have hnb50 := NB103_104.out
   have hnc50 := NB104_103.out
   obtain ⟨hcz51_0, hcz51_1, hcz51_2, hcz51_3, hcz51_4⟩ := zc5 wr (.string ((rd_T57 l0 a1).f0)) (.int .i64 ((rd_T57 l0 a1).f1)) (.int .i64 ((rd_T57 l0 a1).f2)) (.int .i64 ((rd_T57 l0 a1).f3)) (.int .i64 ((rd_T57 l0 a1).f4)) BK103.out
   obtain ⟨hfz51_0, hfz51_1, hfz51_2, hfz51_3, hfz51_4⟩ := zf5 BK103.out
   go_wp2_with (first | ((with_reducible refine gate_callee (f := 71) rfl ?_); refine goesL_ (some 58) rfl rfl Try.func71 (by kernel_rfl) rfl #[.string ((rd_T57 l0 a1).f0)] rfl (by (try simp only [List.map_toArray, List.map_cons, List.map_nil]); first | done | rfl | (simp only [List.length_drop, List.length_take]; rfl)) ?_; (with_reducible refine (spec_cdCost.calls ((rd_T57 l0 a1).f0) t114 _ A48.out).mono ?_); rintro e w' ⟨rfl, ⟨nd, rfl⟩⟩; refine ⟨_, rfl, ?_⟩) | ((with_reducible refine gate_callee (f := 92) rfl ?_); refine goesL_ (some 59) rfl rfl Try.func92 (by kernel_rfl) rfl #[.int .i64 x9_29, .int .i64 t114] rfl (by (try simp only [List.map_toArray, List.map_cons, List.map_nil]); first | done | rfl | (simp only [List.length_drop, List.length_take]; rfl)) ?_; (with_reducible refine (spec_l1Most.calls x9_29 t114 t115 _ A49.out).mono ?_); rintro e w' ⟨rfl, ⟨nd, rfl⟩⟩; refine ⟨_, rfl, ?_⟩))
   go_ret
   exact ⟨by first | rfl | (simp [errW_none, errW_some] <;> rfl) | (simp [*, errW_none, errW_some] <;> rfl), by repeat (first | (with_reducible first | exact HB.out | apply zba | apply zbn | apply zbd | refine below_set ?_ GE103.out | refine below_set ?_ GE104.out) | exact HB.out)⟩
 rw [if_pos c41] at H
 have c41b0 : decide (x11_3 < a2) = true := zdt c41
 clear c41
 by_cases c42 : 0 ≤ x11_3
 rotate_left
 · rw [if_neg c42] at H
   exact absurd H (by simp)
 rw [if_pos c42] at H
 have c42b0 : decide (0 ≤ x11_3) = true := zdt c42
 clear c42
 by_cases c43 : x11_3 < (l0.length : Int)
 rotate_left
 · rw [if_neg c43] at H
   exact absurd H (by simp)
 rw [if_pos c43] at H
 have c43b0 : decide (x11_3 < (l0.length : Int)) = true := zdt c43
 clear c43
 by_cases c44 : ((rd_T57 l0 x11_3).f1) = ((rd_T57 l0 a1).f1)
 rotate_left
 · rw [if_neg c44] at H
   have c44b0 : (((rd_T57 l0 x11_3).f1) == ((rd_T57 l0 a1).f1)) = false := beq_eq_false_iff_ne.mpr c44
   have c44b1 : (((rd_T57 l0 x11_3).f1) != ((rd_T57 l0 a1).f1)) = true := bne_iff_ne.mpr c44
   have H' := zA H
   clear H
   try go_wp2
   have n0_ := zA (zkd BK103.out)
   have n1_ := zA (zkd BK104.out)
   have n2_ := zA (zbd HB.out)
   clear BK103
   clear BK104
   clear HB
   have BK103 := n0_
   have BK104 := n1_
   have HB := n2_
   clear n0_ n1_ n2_
   have p113 : 0 ≤ (x11_3 : Int) := zde (by assumption)
   have q113 : x11_3 < (l0.length : Int) := zde (by assumption)
   obtain ⟨ad113, e113, hx113_0, hx113_1, hx113_2, hx113_3, hx113_4⟩ := at_T57 HR0.out x11_3 p113 q113
   have hw113_4 := hx113_4
   have hw113_3 := hx113_3
   have hw113_2 := hx113_2
   have hw113_1 := hx113_1
   have hw113_0 := hx113_0
   obtain rfl : ad101 = ad113 := (by injection e113)
   replace hx113_0 := zkep HB.out hx113_0
   replace hx113_1 := zkep HB.out hx113_1
   replace hx113_2 := zkep HB.out hx113_2
   replace hx113_3 := zkep HB.out hx113_3
   replace hx113_4 := zkep HB.out hx113_4
   replace p113 := eq_true p113
   replace q113 := eq_true q113
   refine start_ (n := 8) (S := fun w' => w'.cell? ⟨gb103, 0, none⟩ = some (.string ((rd_T57 l0 a1).f0)) ∧ w'.cell? ⟨gb103, 1, none⟩ = some (.int .i64 ((rd_T57 l0 a1).f1)) ∧ w'.cell? ⟨gb103, 2, none⟩ = some (.int .i64 ((rd_T57 l0 a1).f2)) ∧ w'.cell? ⟨gb103, 3, none⟩ = some (.int .i64 ((rd_T57 l0 a1).f3)) ∧ w'.cell? ⟨gb103, 4, none⟩ = some (.int .i64 ((rd_T57 l0 a1).f4)) ∧ w'.cell? (ad101.add ((x11_3).toNat * 5)) = some (.string ((rd_T57 l0 x11_3).f0)) ∧ w'.cell? ⟨(ad101.add ((x11_3).toNat * 5)).block, (ad101.add ((x11_3).toNat * 5)).off + 1, none⟩ = some (.int .i64 ((rd_T57 l0 x11_3).f1)) ∧ w'.cell? ⟨(ad101.add ((x11_3).toNat * 5)).block, (ad101.add ((x11_3).toNat * 5)).off + 2, none⟩ = some (.int .i64 ((rd_T57 l0 x11_3).f2)) ∧ w'.cell? ⟨(ad101.add ((x11_3).toNat * 5)).block, (ad101.add ((x11_3).toNat * 5)).off + 3, none⟩ = some (.int .i64 ((rd_T57 l0 x11_3).f3)) ∧ w'.cell? ⟨(ad101.add ((x11_3).toNat * 5)).block, (ad101.add ((x11_3).toNat * 5)).off + 4, none⟩ = some (.int .i64 ((rd_T57 l0 x11_3).f4))) (ds := []) #[false, false, false, false, false, false, false, false] (by kernel_rfl) rfl rfl ⟨(blk_cell BK103.out 0).trans rfl, (blk_cell BK103.out 1).trans rfl, (blk_cell BK103.out 2).trans rfl, (blk_cell BK103.out 3).trans rfl, (blk_cell BK103.out 4).trans rfl, (zkep HB.out hw113_0), (zkep HB.out hw113_1), (zkep HB.out hw113_2), (zkep HB.out hw113_3), (zkep HB.out hw113_4)⟩ (fun hHeld => ?_); refine with_tabW spec_orDelay.tab12 spec_orDelay.bits12 (fun HT_ HW_ => ?_)
   generalize wr.drew = w46 at BK103 BK104 HB hx113_0 hx113_1 hx113_2 hx113_3 hx113_4 hHeld ⊢
   refine pure_ (i := 0) (N := some 43) (v := ?_) (a' := ?_) #[true, false, false, false, false, false, false, false] rfl rfl (any_of HT_.out (by kernel_rfl)) (fun _ _ _ h => h) (Or.inl ⟨by rfl, ?_⟩) ?_ ?_
   rotate_left
   · intro w'
     go_simp
     with_reducible rfl
   rotate_left
   · simp only [Act.put, List.setIfInBounds_toArray, List.set_cons_zero, List.set_cons_succ, i64_w, i32_w]
     rfl
   refine pure_ (i := 1) (N := some 44) (v := ?_) (a' := ?_) #[true, true, false, false, false, false, false, false] rfl rfl (any_of HT_.out (by kernel_rfl)) (fun _ _ _ h => h) (Or.inl ⟨by rfl, ?_⟩) ?_ ?_
   rotate_left
   · intro w'
     go_simp
     with_reducible rfl
   rotate_left
   · simp only [Act.put, List.setIfInBounds_toArray, List.set_cons_zero, List.set_cons_succ, i64_w, i32_w]
     rfl
   refine pure_ (i := 2) (N := some 45) (v := ?_) (a' := ?_) #[true, true, true, false, false, false, false, false] rfl rfl (any_of HT_.out (by kernel_rfl)) (fun _ _ _ h => h) (Or.inl ⟨by rfl, ?_⟩) ?_ ?_
   rotate_left
   · intro w'
     go_simp
     with_reducible rfl
   rotate_left
   · simp only [Act.put, List.setIfInBounds_toArray, List.set_cons_zero, List.set_cons_succ, i64_w, i32_w]
     rfl
   refine pure_ (i := 3) (N := some 46) (v := ?_) (a' := ?_) #[true, true, true, true, false, false, false, false] rfl rfl (any_of HT_.out (by kernel_rfl)) (fun _ _ _ h => h) (Or.inl ⟨by rfl, ?_⟩) ?_ ?_
   rotate_left
   · intro w'
     go_simp
     with_reducible rfl
   rotate_left
   · simp only [Act.put, List.setIfInBounds_toArray, List.set_cons_zero, List.set_cons_succ, i64_w, i32_w]
     rfl
   refine pure_ (i := 5) (N := some 48) (v := ?_) (a' := ?_) #[true, true, true, true, false, true, false, false] rfl rfl (any_of HT_.out (by kernel_rfl)) (fun _ _ _ h => h) (Or.inl ⟨by rfl, ?_⟩) ?_ ?_
   rotate_left
   · intro w'
     go_simp
     with_reducible rfl
   rotate_left
   · simp only [Act.put, List.setIfInBounds_toArray, List.set_cons_zero, List.set_cons_succ, i64_w, i32_w]
     rfl
   refine take_ (i := 4) (N := some 47) (v := ?_) (a' := ?_) #[true, true, true, true, true, true, false, false] rfl rfl (take_ofW HT_.out HW_.out (by kernel_rfl)) (fun _ _ _ h => h) (Or.inl ⟨by rfl, ?_⟩) hHeld ?_ ?_
   rotate_left
   · rintro w' ⟨s0, s1, s2, s3, s4, s5, s6, s7, s8, s9⟩
     go_simp
     with_reducible rfl
   rotate_left
   · simp only [Act.put, List.setIfInBounds_toArray, List.set_cons_zero, List.set_cons_succ, i64_w, i32_w]
     rfl
   refine take_ (i := 6) (N := some 49) (v := ?_) (a' := ?_) #[true, true, true, true, true, true, true, false] rfl rfl (take_ofW HT_.out HW_.out (by kernel_rfl)) (fun _ _ _ h => h) (Or.inl ⟨by rfl, ?_⟩) hHeld ?_ ?_
   rotate_left
   · rintro w' ⟨s0, s1, s2, s3, s4, s5, s6, s7, s8, s9⟩
     go_simp
     with_reducible rfl
   rotate_left
   · simp only [Act.put, List.setIfInBounds_toArray, List.set_cons_zero, List.set_cons_succ, i64_w, i32_w]
     rfl
   refine pure_ (i := 7) (N := some 50) (v := ?_) (a' := ?_) #[true, true, true, true, true, true, true, true] rfl rfl (any_of HT_.out (by kernel_rfl)) (fun _ _ _ h => h) (Or.inl ⟨by rfl, ?_⟩) ?_ ?_
   rotate_left
   · intro w'
     go_simp
     with_reducible rfl
   rotate_left
   · simp only [Act.put, List.setIfInBounds_toArray, List.set_cons_zero, List.set_cons_succ, i64_w, i32_w]
     rfl
   refine done_ (done_of HT_.out (by kernel_rfl)) ?_
   try go_wp2
   go_roundg k3
   case measure => have := HJ9.out; have := HJ29.out; have := HK3.out; omega
   case rel => exact ⟨(x10_3), (wrap64 (x11_3 + 1)), (by first | rfl | (simp; done) | (simp [*]; done)), (by first | rfl | (simp; done) | (simp [*]; done)), H', ⟨by have := HJ9.out; have := HJ29.out; have := HK3.out; omega⟩, ⟨by (with_reducible repeat (first | refine zkn ?_ _ | refine zkd ?_ | refine zka ?_ _)); exact BK103.out⟩, ⟨by (with_reducible repeat (first | refine zkn ?_ _ | refine zkd ?_ | refine zka ?_ _)); exact BK104.out⟩, ⟨by repeat (first | (with_reducible first | exact HB.out | apply zba | apply zbn | apply zbd | refine below_set ?_ GE103.out | refine below_set ?_ GE104.out) | exact HB.out)⟩⟩
 rw [if_pos c44] at H
 have c44b0 : (((rd_T57 l0 x11_3).f1) == ((rd_T57 l0 a1).f1)) = true := beq_iff_eq.mpr c44
 have c44b1 : (((rd_T57 l0 x11_3).f1) != ((rd_T57 l0 a1).f1)) = false := bne_eq_false_iff_eq.mpr c44
 clear c44
 have H' := zA H
 clear H
 try go_wp2
 have n0_ := zA (zkd BK103.out)
 have n1_ := zA (zkd BK104.out)
 have n2_ := zA (zbd HB.out)
 clear BK103
 clear BK104
 clear HB
 have BK103 := n0_
 have BK104 := n1_
 have HB := n2_
 clear n0_ n1_ n2_
 have p113 : 0 ≤ (x11_3 : Int) := zde (by assumption)
 have q113 : x11_3 < (l0.length : Int) := zde (by assumption)
 obtain ⟨ad113, e113, hx113_0, hx113_1, hx113_2, hx113_3, hx113_4⟩ := at_T57 HR0.out x11_3 p113 q113
 have hw113_4 := hx113_4
 have hw113_3 := hx113_3
 have hw113_2 := hx113_2
 have hw113_1 := hx113_1
 have hw113_0 := hx113_0
 obtain rfl : ad101 = ad113 := (by injection e113)
 replace hx113_0 := zkep HB.out hx113_0
 replace hx113_1 := zkep HB.out hx113_1
 replace hx113_2 := zkep HB.out hx113_2
 replace hx113_3 := zkep HB.out hx113_3
 replace hx113_4 := zkep HB.out hx113_4
 replace p113 := eq_true p113
 replace q113 := eq_true q113
 refine start_ (n := 8) (S := fun w' => w'.cell? ⟨gb103, 0, none⟩ = some (.string ((rd_T57 l0 a1).f0)) ∧ w'.cell? ⟨gb103, 1, none⟩ = some (.int .i64 ((rd_T57 l0 a1).f1)) ∧ w'.cell? ⟨gb103, 2, none⟩ = some (.int .i64 ((rd_T57 l0 a1).f2)) ∧ w'.cell? ⟨gb103, 3, none⟩ = some (.int .i64 ((rd_T57 l0 a1).f3)) ∧ w'.cell? ⟨gb103, 4, none⟩ = some (.int .i64 ((rd_T57 l0 a1).f4)) ∧ w'.cell? (ad101.add ((x11_3).toNat * 5)) = some (.string ((rd_T57 l0 x11_3).f0)) ∧ w'.cell? ⟨(ad101.add ((x11_3).toNat * 5)).block, (ad101.add ((x11_3).toNat * 5)).off + 1, none⟩ = some (.int .i64 ((rd_T57 l0 x11_3).f1)) ∧ w'.cell? ⟨(ad101.add ((x11_3).toNat * 5)).block, (ad101.add ((x11_3).toNat * 5)).off + 2, none⟩ = some (.int .i64 ((rd_T57 l0 x11_3).f2)) ∧ w'.cell? ⟨(ad101.add ((x11_3).toNat * 5)).block, (ad101.add ((x11_3).toNat * 5)).off + 3, none⟩ = some (.int .i64 ((rd_T57 l0 x11_3).f3)) ∧ w'.cell? ⟨(ad101.add ((x11_3).toNat * 5)).block, (ad101.add ((x11_3).toNat * 5)).off + 4, none⟩ = some (.int .i64 ((rd_T57 l0 x11_3).f4))) (ds := []) #[false, false, false, false, false, false, false, false] (by kernel_rfl) rfl rfl ⟨(blk_cell BK103.out 0).trans rfl, (blk_cell BK103.out 1).trans rfl, (blk_cell BK103.out 2).trans rfl, (blk_cell BK103.out 3).trans rfl, (blk_cell BK103.out 4).trans rfl, (zkep HB.out hw113_0), (zkep HB.out hw113_1), (zkep HB.out hw113_2), (zkep HB.out hw113_3), (zkep HB.out hw113_4)⟩ (fun hHeld => ?_); refine with_tabW spec_orDelay.tab12 spec_orDelay.bits12 (fun HT_ HW_ => ?_)
 generalize wr.drew = w45 at BK103 BK104 HB hx113_0 hx113_1 hx113_2 hx113_3 hx113_4 hHeld ⊢
 refine pure_ (i := 0) (N := some 43) (v := ?_) (a' := ?_) #[true, false, false, false, false, false, false, false] rfl rfl (any_of HT_.out (by kernel_rfl)) (fun _ _ _ h => h) (Or.inl ⟨by rfl, ?_⟩) ?_ ?_
 rotate_left
 · intro w'
   go_simp
   with_reducible rfl
 rotate_left
 · simp only [Act.put, List.setIfInBounds_toArray, List.set_cons_zero, List.set_cons_succ, i64_w, i32_w]
   rfl
 refine pure_ (i := 1) (N := some 44) (v := ?_) (a' := ?_) #[true, true, false, false, false, false, false, false] rfl rfl (any_of HT_.out (by kernel_rfl)) (fun _ _ _ h => h) (Or.inl ⟨by rfl, ?_⟩) ?_ ?_
 rotate_left
 · intro w'
   go_simp
   with_reducible rfl
 rotate_left
 · simp only [Act.put, List.setIfInBounds_toArray, List.set_cons_zero, List.set_cons_succ, i64_w, i32_w]
   rfl
 refine pure_ (i := 2) (N := some 45) (v := ?_) (a' := ?_) #[true, true, true, false, false, false, false, false] rfl rfl (any_of HT_.out (by kernel_rfl)) (fun _ _ _ h => h) (Or.inl ⟨by rfl, ?_⟩) ?_ ?_
 rotate_left
 · intro w'
   go_simp
   with_reducible rfl
 rotate_left
 · simp only [Act.put, List.setIfInBounds_toArray, List.set_cons_zero, List.set_cons_succ, i64_w, i32_w]
   rfl
 refine pure_ (i := 3) (N := some 46) (v := ?_) (a' := ?_) #[true, true, true, true, false, false, false, false] rfl rfl (any_of HT_.out (by kernel_rfl)) (fun _ _ _ h => h) (Or.inl ⟨by rfl, ?_⟩) ?_ ?_
 rotate_left
 · intro w'
   go_simp
   with_reducible rfl
 rotate_left
 · simp only [Act.put, List.setIfInBounds_toArray, List.set_cons_zero, List.set_cons_succ, i64_w, i32_w]
   rfl
 refine pure_ (i := 5) (N := some 48) (v := ?_) (a' := ?_) #[true, true, true, true, false, true, false, false] rfl rfl (any_of HT_.out (by kernel_rfl)) (fun _ _ _ h => h) (Or.inl ⟨by rfl, ?_⟩) ?_ ?_
 rotate_left
 · intro w'
   go_simp
   with_reducible rfl
 rotate_left
 · simp only [Act.put, List.setIfInBounds_toArray, List.set_cons_zero, List.set_cons_succ, i64_w, i32_w]
   rfl
 refine take_ (i := 4) (N := some 47) (v := ?_) (a' := ?_) #[true, true, true, true, true, true, false, false] rfl rfl (take_ofW HT_.out HW_.out (by kernel_rfl)) (fun _ _ _ h => h) (Or.inl ⟨by rfl, ?_⟩) hHeld ?_ ?_
 rotate_left
 · rintro w' ⟨s0, s1, s2, s3, s4, s5, s6, s7, s8, s9⟩
   go_simp
   with_reducible rfl
 rotate_left
 · simp only [Act.put, List.setIfInBounds_toArray, List.set_cons_zero, List.set_cons_succ, i64_w, i32_w]
   rfl
 refine take_ (i := 6) (N := some 49) (v := ?_) (a' := ?_) #[true, true, true, true, true, true, true, false] rfl rfl (take_ofW HT_.out HW_.out (by kernel_rfl)) (fun _ _ _ h => h) (Or.inl ⟨by rfl, ?_⟩) hHeld ?_ ?_
 rotate_left
 · rintro w' ⟨s0, s1, s2, s3, s4, s5, s6, s7, s8, s9⟩
   go_simp
   with_reducible rfl
 rotate_left
 · simp only [Act.put, List.setIfInBounds_toArray, List.set_cons_zero, List.set_cons_succ, i64_w, i32_w]
   rfl
 refine pure_ (i := 7) (N := some 50) (v := ?_) (a' := ?_) #[true, true, true, true, true, true, true, true] rfl rfl (any_of HT_.out (by kernel_rfl)) (fun _ _ _ h => h) (Or.inl ⟨by rfl, ?_⟩) ?_ ?_
 rotate_left
 · intro w'
   go_simp
   with_reducible rfl
 rotate_left
 · simp only [Act.put, List.setIfInBounds_toArray, List.set_cons_zero, List.set_cons_succ, i64_w, i32_w]
   rfl
 refine done_ (done_of HT_.out (by kernel_rfl)) ?_
 try go_wp2
 go_roundg k3
 case measure => have := HJ9.out; have := HJ29.out; have := HK3.out; omega
 case rel => exact ⟨(x11_3), (wrap64 (x11_3 + 1)), (by first | rfl | (simp; done) | (simp [*]; done)), (by first | rfl | (simp; done) | (simp [*]; done)), H', ⟨by have := HJ9.out; have := HJ29.out; have := HK3.out; omega⟩, ⟨by (with_reducible repeat (first | refine zkn ?_ _ | refine zkd ?_ | refine zka ?_ _)); exact BK103.out⟩, ⟨by (with_reducible repeat (first | refine zkn ?_ _ | refine zkd ?_ | refine zka ?_ _)); exact BK104.out⟩, ⟨by repeat (first | (with_reducible first | exact HB.out | apply zba | apply zbn | apply zbd | refine below_set ?_ GE103.out | refine below_set ?_ GE104.out) | exact HB.out)⟩⟩
end Go.Proofs.Yteaablbhdmkcpaa.Q
end
section
namespace Go.Proofs.Yteaablbhdmkcpaa.Q
open Go.RowKit Go.Proofs.YteaablbhdmkcpaaW.PrintWords Go.Proofs.YteaablbhdmkcpaaW.PrintLast Go.Proofs.YteaablbhdmkcpaaW.PrintMore
attribute [local go_sem] max2_int min2_int max_two min_two max_three min_three max_four min_four
set_option linter.unusedVariables false
set_option linter.unusedSimpArgs false
mutual
def spec_orDelays.l0 : Nat → List (S57) → List (List Int) → Int → Int → Option ((List (List Int)))
 | 0, _, _, _, _ => none
 | k + 1, x0, x3, x9, x10 => if x10 < x9 then (spec_orDelays.l1 k x0 x3 x10 ([] : List Int) x9 x10 (x0.length : Int) 0) else (some x3)
def spec_orDelays.l1 : Nat → List (S57) → List (List Int) → Int → List Int → Int → Int → Int → Int → Option ((List (List Int)))
 | 0, _, _, _, _, _, _, _, _ => none
 | k + 1, x0, x3, x4, x5, x9, x10, x14, x15 => if x15 < x14 then (if x4 < x15 then ((spec_orDelay.f k x0 x4 x15).bind fun t101 => (if x5.length < 17592186044416 then (spec_orDelays.l1 k x0 x3 x4 (x5 ++ [t101]) x9 x10 x14 (wrap64 (x15 + 1))) else (none))) else (if x5.length < 17592186044416 then (spec_orDelays.l1 k x0 x3 x4 (x5 ++ [(-1)]) x9 x10 x14 (wrap64 (x15 + 1))) else (none))) else (if x3.length < 5864062014805 then (spec_orDelays.l0 k x0 (x3 ++ [x5]) x9 (wrap64 (x10 + 1))) else (none))
end
def spec_orDelays.f (k : Nat) (l0 : List (S57)) : Option ((List (List Int))) := spec_orDelays.l0 k l0 ([] : List (List Int)) (l0.length : Int) 0
theorem spec_orDelays.mono_l : ∀ k, (∀ y0 y1 y2 y3, LeO (spec_orDelays.l0 k y0 y1 y2 y3) (spec_orDelays.l0 (k + 1) y0 y1 y2 y3)) ∧ (∀ y0 y1 y2 y3 y4 y5 y6 y7, LeO (spec_orDelays.l1 k y0 y1 y2 y3 y4 y5 y6 y7) (spec_orDelays.l1 (k + 1) y0 y1 y2 y3 y4 y5 y6 y7))
 | 0 => ⟨fun _ _ _ _ r h => by simp [spec_orDelays.l0] at h, fun _ _ _ _ _ _ _ _ r h => by simp [spec_orDelays.l1] at h⟩
 | k + 1 => by
   obtain ⟨ih0, ih1⟩ := spec_orDelays.mono_l k
   refine ⟨?_, ?_⟩
   · intro y0 y1 y2 y3
     unfold spec_orDelays.l0
     repeat' first
     | (with_reducible first | exact ih0 _ _ _ _ | exact ih1 _ _ _ _ _ _ _ _ | exact spec_orDelay.mono _ _ _ _ | exact LeO.refl _ | exact LeO.none _ | refine LeO.ite ?_ ?_ | refine LeO.bind ?_ (fun _ => ?_))
     | exact LeO.none _
     | refine LeO.ite ?_ ?_
     | refine LeO.bind ?_ (fun _ => ?_)
   · intro y0 y1 y2 y3 y4 y5 y6 y7
     unfold spec_orDelays.l1
     repeat' first
     | (with_reducible first | exact ih0 _ _ _ _ | exact ih1 _ _ _ _ _ _ _ _ | exact spec_orDelay.mono _ _ _ _ | exact LeO.refl _ | exact LeO.none _ | refine LeO.ite ?_ ?_ | refine LeO.bind ?_ (fun _ => ?_))
     | exact LeO.none _
     | refine LeO.ite ?_ ?_
     | refine LeO.bind ?_ (fun _ => ?_)
theorem spec_orDelays.mono : ∀ a0 k, LeO (spec_orDelays.f k a0) (spec_orDelays.f (k + 1) a0) := by
 intro a0 k
 obtain ⟨ih0, ih1⟩ := spec_orDelays.mono_l k
 unfold spec_orDelays.f
 repeat' first
     | (with_reducible first | exact ih0 _ _ _ _ | exact ih1 _ _ _ _ _ _ _ _ | exact spec_orDelay.mono _ _ _ _ | exact LeO.refl _ | exact LeO.none _ | refine LeO.ite ?_ ?_ | refine LeO.bind ?_ (fun _ => ?_))
     | exact LeO.none _
     | refine LeO.ite ?_ ?_
     | refine LeO.bind ?_ (fun _ => ?_)
set_option maxHeartbeats 8000000 in
set_option maxRecDepth 100000 in
theorem spec_orDelays.calls (k : Nat) (A0 : Option Addr) (c0 : Nat) (l0 : List (S57)) (r : List (List Int)) (w : World) (hr0 : Kd.C k57 w A0 l0.length l0) (hc0 : l0.length ≤ c0) (h : spec_orDelays.f k l0 = some r) :
   Calls Try.prog 50 #[.slice A0 l0.length c0] w fun e w' => ∃ v0_ : Value, e = .returned (v0_) ∧ Kd.S (Kd.slice 3 (Kd.int .i64)) 34 w' w.heap.size (fun _ => True) v0_ r ∧ Below w.heap.size w w' := by
 have HR0 := zA hr0
 have HC0 := zA hc0
 clear hr0 hc0
 have HB := zA (Below.refl w.heap.size w)
 have H : (spec_orDelays.l0 k l0 ([] : List (List Int)) (l0.length : Int) 0) = some r := h
 clear h
 have H' := zA H
 clear H
 go_enter Try.func50, Try.ntmps50
 go_wp2
 go_loopg [3, 10] k (fun kq v3 v10 w' => ∃ (x3_1 : List (List Int)) (x10_1 : Int), v10 = .int .i64 x10_1 ∧ Aside0 (spec_orDelays.l0 kq l0 x3_1 (l0.length : Int) x10_1 = some r) ∧ Aside0 (kq ≤ k) ∧ Aside0 (Kd.S (Kd.slice 3 (Kd.int .i64)) 34 w' w.heap.size (fun _ => True) v3 x3_1) ∧ Aside0 (Below w.heap.size w w'))
 case atStart => exact ⟨(([] : List (List Int))), (0), (by first | rfl | (simp; done) | (simp [*]; done)), H', ⟨zlr _⟩, ⟨by first | exact Kd.S_nil _ _ _ _ _ | exact Kd.N_nil _ _ _ _ _ | exact Kd.V_nil _ _ _ _ _ | exact Kd.Q_nil _ _ _ _ _ | exact Kd.R_nil _ _ _ _ _⟩, ⟨by repeat (first | (with_reducible first | exact HB.out | apply zba | apply zbn | apply zbd) | exact HB.out)⟩⟩
 clear H'
 obtain ⟨x3_1, x10_1, rfl, HA, HK1, HO_3, HB⟩ := hrel
 cases gk with
 | zero => exact absurd HA.out (by simp [spec_orDelays.l0])
 | succ k1 =>
 have H := HA.out
 clear HA
 simp only [spec_orDelays.l0] at H
 by_cases c2 : x10_1 < (l0.length : Int)
 rotate_left
 · rw [if_neg c2] at H
   have c2b0 : decide (x10_1 < (l0.length : Int)) = false := zdf c2
   clear c2
   obtain rfl := zsi H
   go_wp2
   go_ret
   exact ⟨_, by first | rfl | (simp [errW_none, errW_some] <;> rfl) | (simp [*, errW_none, errW_some] <;> rfl), by (with_reducible repeat (first | apply zSa | apply zSn | apply zSd)); exact HO_3.out, by repeat (first | (with_reducible first | exact HB.out | apply zba | apply zbn | apply zbd) | exact HB.out)⟩
 rw [if_pos c2] at H
 have c2b0 : decide (x10_1 < (l0.length : Int)) = true := zdt c2
 clear c2
 have H' := zA H
 clear H
 go_wp2
 go_loopg [5, 15] k1 (fun kq v5 v15 w' => ∃ (x5_2 : List Int) (x15_2 : Int), v15 = .int .i64 x15_2 ∧ Aside0 (spec_orDelays.l1 kq l0 x3_1 x10_1 x5_2 (l0.length : Int) x10_1 (l0.length : Int) x15_2 = some r) ∧ Aside0 (kq ≤ k1) ∧ Aside0 (Kd.S (Kd.slice 3 (Kd.int .i64)) 34 w' w.heap.size (fun k_ => some k_ ≠ (v5 : Value).ownBlock) u3 x3_1) ∧ Aside0 (Kd.R (Kd.int .i64) 3 w' w.heap.size (fun _ => True) v5 x5_2) ∧ Aside0 (Below w.heap.size w w'))
 case atStart => exact ⟨(([] : List Int)), (0), (by first | rfl | (simp; done) | (simp [*]; done)), H', ⟨zlr _⟩, ⟨by (with_reducible repeat (first | apply zSa | apply zSn | apply zSd)); exact Kd.S_mono HO_3.out (fun _ hk => (by simp [Value.ownBlock]))⟩, ⟨by first | exact Kd.R_nil _ _ _ _ _ | exact Kd.N_nil _ _ _ _ _ | exact Kd.V_nil _ _ _ _ _ | exact Kd.Q_nil _ _ _ _ _ | exact Kd.S_nil _ _ _ _ _⟩, ⟨by repeat (first | (with_reducible first | exact HB.out | apply zba | apply zbn | apply zbd) | exact HB.out)⟩⟩
 clear H'
 try clear c2
 try clear c2b0
 try clear p2
 obtain ⟨x5_2, x15_2, rfl, HA, HK2, HO_3, HO_5, HB⟩ := hrel
 cases gk with
 | zero => exact absurd HA.out (by simp [spec_orDelays.l1])
 | succ k2 =>
 have H := HA.out
 clear HA
 simp only [spec_orDelays.l1] at H
 by_cases c3 : x15_2 < (l0.length : Int)
 rotate_left
 · rw [if_neg c3] at H
   have c3b0 : decide (x15_2 < (l0.length : Int)) = false := zdf c3
   clear c3
   by_cases c11 : x3_1.length < 5864062014805
   rotate_left
   · rw [if_neg c11] at H
     exact absurd H (by simp)
   rw [if_pos c11] at H
   have LMc11 := zA c11
   clear c11
   obtain ⟨y108, hy108⟩ : ∃ y_ : List (List Int), y_ = (x3_1 ++ [x5_2]) := ⟨_, rfl⟩
   replace H : (spec_orDelays.l0 k2 l0 y108 (l0.length : Int) (wrap64 (x10_1 + 1))) = some r := by first | (rw [hy108]; with_reducible exact H) | (have H2_ := (Option.bind_some _ _).symm.trans H; rw [hy108]; with_reducible exact H2_) | (have H2_ := (Option.bind_some _ _).symm.trans H; with_reducible exact H2_) | with_reducible exact H | (rw [hy108]; exact H) | exact H
   have Ny108 := zA hy108
   clear hy108
   have H' := zA H
   clear H
   obtain ⟨Ao13, co13, eo13⟩ := Kd.R_slice HO_5.out
   subst eo13
   go_wp2_with (first | ((with_reducible refine gate_builtin (b := .append) (xs := #[.tmp 30, .tmp 32]) rfl ?_); at_builtin; refine Kd.S_append (Kd.slice 3 (Kd.int .i64)) (w0 := w) w.heap.size rfl (.tmp 30) (.tmp 32) 24 34 (.slice none 0 0) 24 rfl Try.underlying24 info34 rfl (by decide) (by omega) u3 x3_1 x5_2 [.slice Ao13 x5_2.length co13] (fun _ => True) (fun k_ => some k_ = (.slice Ao13 x5_2.length co13 : Value).ownBlock) rfl rfl ?aP (fun k_ hk_ => ((Kd.R_mono (ok' := fun k_ => ((fun _ => True)) k_ ∧ some k_ ≠ (u3 : Value).ownBlock) (Kd.R_apart' (HO_5.out) (Kd.S_typed HO_3.out) (by decide)) (fun k_ hk => ⟨trivial, hk.2⟩))).1 k_ hk_.symm) ?aF ?aO ?aB ?aS ?aL ?_; (case aP => exact Kd.M_row (Kd.R_mono (Kd.R_tight rfl (Kd.R_mono (ok' := fun k_ => ((fun _ => True)) k_ ∧ some k_ ≠ (u3 : Value).ownBlock) (Kd.R_apart' (HO_5.out) (Kd.S_typed HO_3.out) (by decide)) (fun k_ hk => ⟨trivial, hk.2⟩))) (fun _ h_ => h_))); (case aB => exact (by repeat (first | (with_reducible first | exact HB.out | apply zba | apply zbn | apply zbd) | exact HB.out))); (case aF => exact (fun _ _ => trivial)); (case aO => exact (by (with_reducible repeat (first | apply zSa | apply zSn | apply zSd)); exact Kd.S_mono HO_3.out (fun k_ hk => ⟨trivial, fun e_ => hk e_⟩))); (case aS => exact (below_size (by repeat (first | (with_reducible first | exact HB.out | apply zba | apply zbn | apply zbd) | exact HB.out)))); (case aL => have := LMc11.out; omega); intro v109 w12 ho hb hg hat; rw [← Ny108.out] at ho; have n0_ := zA (hb); have n1_ := zA (ho); clear HB HO_3 HO_5; have HB := n0_; have HO110 := n1_; clear n0_ n1_; clear ho hb hg hat))
   go_roundg k2
   case measure => have := HK1.out; have := HK2.out; omega
   case rel => exact ⟨(y108), (wrap64 (x10_1 + 1)), (by first | rfl | (simp; done) | (simp [*]; done)), H', ⟨by have := HK1.out; have := HK2.out; omega⟩, ⟨by (with_reducible repeat (first | apply zSa | apply zSn | apply zSd)); exact HO110.out⟩, ⟨by repeat (first | (with_reducible first | exact HB.out | apply zba | apply zbn | apply zbd) | exact HB.out)⟩⟩
 rw [if_pos c3] at H
 have c3b0 : decide (x15_2 < (l0.length : Int)) = true := zdt c3
 clear c3
 by_cases c4 : x10_1 < x15_2
 rotate_left
 · rw [if_neg c4] at H
   have c4b0 : decide (x10_1 < x15_2) = false := zdf c4
   clear c4
   by_cases c9 : x5_2.length < 17592186044416
   rotate_left
   · rw [if_neg c9] at H
     exact absurd H (by simp)
   rw [if_pos c9] at H
   have LMc9 := zA c9
   clear c9
   obtain ⟨y105, hy105⟩ : ∃ y_ : List Int, y_ = (x5_2 ++ [(-1)]) := ⟨_, rfl⟩
   replace H : (spec_orDelays.l1 k2 l0 x3_1 x10_1 y105 (l0.length : Int) x10_1 (l0.length : Int) (wrap64 (x15_2 + 1))) = some r := by first | (rw [hy105]; with_reducible exact H) | (have H2_ := (Option.bind_some _ _).symm.trans H; rw [hy105]; with_reducible exact H2_) | (have H2_ := (Option.bind_some _ _).symm.trans H; with_reducible exact H2_) | with_reducible exact H | (rw [hy105]; exact H) | exact H
   have Ny105 := zA hy105
   clear hy105
   have H' := zA H
   clear H
   go_wp2_with (first | ((with_reducible refine gate_builtin (b := .append) (xs := #[.tmp 25, .tmp 27]) rfl ?_); at_builtin; refine Kd.R_append (Kd.int .i64) (w0 := w) w.heap.size rfl (.tmp 25) (.tmp 27) 34 3 (.int .i64 0) 8 rfl Try.underlying34 info3 rfl (by decide) (by omega) u5 x5_2 (-1) [.int .i64 (-1)] (fun _ => True) (fun _ => False) rfl rfl ?aP (fun _ hk => hk.elim) ?aF ?aO ?aB ?aS ?aL ?_; (case aP => exact rfl); (case aB => exact (by repeat (first | (with_reducible first | exact HB.out | apply zba | apply zbn | apply zbd) | exact HB.out))); (case aF => exact (fun _ _ => trivial)); (case aO => exact (by (with_reducible repeat (first | apply zRa | apply zRn | apply zRd)); exact HO_5.out)); (case aS => exact (below_size (by repeat (first | (with_reducible first | exact HB.out | apply zba | apply zbn | apply zbd) | exact HB.out)))); (case aL => have := LMc9.out; omega); intro v106 w10 ho hb hg hat; rw [← Ny105.out] at ho; have n0_ := zA (Kd.S_after (ok := (fun _ => True)) (by (with_reducible repeat (first | apply zSa | apply zSn | apply zSd)); exact Kd.S_mono HO_3.out (fun _ hk => ⟨trivial, hk⟩)) hg hat); have n1_ := zA (hb); have n2_ := zA (ho); clear HO_3 HB HO_5; have HO_3 := n0_; have HB := n1_; have HO107 := n2_; clear n0_ n1_ n2_; clear ho hb hg hat))
   go_roundg k2
   case measure => have := HK1.out; have := HK2.out; omega
   case rel => exact ⟨(y105), (wrap64 (x15_2 + 1)), (by first | rfl | (simp; done) | (simp [*]; done)), H', ⟨by have := HK1.out; have := HK2.out; omega⟩, ⟨by (with_reducible repeat (first | apply zSa | apply zSn | apply zSd)); exact Kd.S_mono HO_3.out (fun _ hk => hk.2)⟩, ⟨by (with_reducible repeat (first | apply zRa | apply zRn | apply zRd)); exact HO107.out⟩, ⟨by repeat (first | (with_reducible first | exact HB.out | apply zba | apply zbn | apply zbd) | exact HB.out)⟩⟩
 rw [if_pos c4] at H
 have c4b0 : decide (x10_1 < x15_2) = true := zdt c4
 clear c4
 replace H := zob H
 obtain ⟨t101, A50, H⟩ := H
 replace H : (if x5_2.length < 17592186044416 then (spec_orDelays.l1 k2 l0 x3_1 x10_1 (x5_2 ++ [t101]) (l0.length : Int) x10_1 (l0.length : Int) (wrap64 (x15_2 + 1))) else (none)) = some r := H
 have A5 := zA A50
 clear A50
 by_cases c6 : x5_2.length < 17592186044416
 rotate_left
 · rw [if_neg c6] at H
   exact absurd H (by simp)
 rw [if_pos c6] at H
 have LMc6 := zA c6
 clear c6
 obtain ⟨y102, hy102⟩ : ∃ y_ : List Int, y_ = (x5_2 ++ [t101]) := ⟨_, rfl⟩
 replace H : (spec_orDelays.l1 k2 l0 x3_1 x10_1 y102 (l0.length : Int) x10_1 (l0.length : Int) (wrap64 (x15_2 + 1))) = some r := by first | (rw [hy102]; with_reducible exact H) | (have H2_ := (Option.bind_some _ _).symm.trans H; rw [hy102]; with_reducible exact H2_) | (have H2_ := (Option.bind_some _ _).symm.trans H; with_reducible exact H2_) | with_reducible exact H | (rw [hy102]; exact H) | exact H
 have Ny102 := zA hy102
 clear hy102
 have H' := zA H
 clear H
 go_wp2_with (first | ((with_reducible refine gate_callee (f := 84) rfl ?_); refine goesL_ (some 24) rfl rfl Try.func84 (by kernel_rfl) rfl #[.slice A0 l0.length c0, .int .i64 x10_1, .int .i64 x15_2] rfl (by (try simp only [List.map_toArray, List.map_cons, List.map_nil]); first | done | rfl | (simp only [List.length_drop, List.length_take]; rfl)) ?_; (with_reducible refine (spec_orDelay.calls k2 _ _ l0 x10_1 x15_2 t101 _ ?side1 ?side2 A5.out).mono ?_); (case side1 => repeat (first | exact (zCb HR0.out HB.out) | (with_reducible first | refine zCa ?_ _ | refine zCn ?_ _ | refine zCd ?_))); (case side2 => exact HC0.out); rintro e w7 ⟨rfl, hb⟩; refine ⟨_, rfl, ?_⟩; have n0_ := zA (Kd.S_below (by (with_reducible repeat (first | apply zSa | apply zSn | apply zSd)); exact HO_3.out) hb); have n1_ := zA (zRb (by (with_reducible repeat (first | apply zRa | apply zRn | apply zRd)); exact HO_5.out) hb); have n2_ := zA (below_step (by repeat (first | (with_reducible first | exact HB.out | apply zba | apply zbn | apply zbd) | exact HB.out)) hb); clear HO_3 HO_5 HB; have HO_3 := n0_; have HO_5 := n1_; have HB := n2_; clear n0_ n1_ n2_; (try clear hb); (try clear hk)) | ((with_reducible refine gate_builtin (b := .append) (xs := #[.tmp 25, .tmp 27]) rfl ?_); at_builtin; refine Kd.R_append (Kd.int .i64) (w0 := w) w.heap.size rfl (.tmp 25) (.tmp 27) 34 3 (.int .i64 0) 8 rfl Try.underlying34 info3 rfl (by decide) (by omega) u5 x5_2 t101 [.int .i64 t101] (fun _ => True) (fun _ => False) rfl rfl ?aP (fun _ hk => hk.elim) ?aF ?aO ?aB ?aS ?aL ?_; (case aP => exact rfl); (case aB => exact (by repeat (first | (with_reducible first | exact HB.out | apply zba | apply zbn | apply zbd) | exact HB.out))); (case aF => exact (fun _ _ => trivial)); (case aO => exact (by (with_reducible repeat (first | apply zRa | apply zRn | apply zRd)); exact HO_5.out)); (case aS => exact (below_size (by repeat (first | (with_reducible first | exact HB.out | apply zba | apply zbn | apply zbd) | exact HB.out)))); (case aL => have := LMc6.out; omega); intro v103 w8 ho hb hg hat; rw [← Ny102.out] at ho; have n0_ := zA (Kd.S_after (ok := (fun _ => True)) (by (with_reducible repeat (first | apply zSa | apply zSn | apply zSd)); exact Kd.S_mono HO_3.out (fun _ hk => ⟨trivial, hk⟩)) hg hat); have n1_ := zA (hb); have n2_ := zA (ho); clear HO_3 HB HO_5; have HO_3 := n0_; have HB := n1_; have HO104 := n2_; clear n0_ n1_ n2_; clear ho hb hg hat))
 go_roundg k2
 case measure => have := HK1.out; have := HK2.out; omega
 case rel => exact ⟨(y102), (wrap64 (x15_2 + 1)), (by first | rfl | (simp; done) | (simp [*]; done)), H', ⟨by have := HK1.out; have := HK2.out; omega⟩, ⟨by (with_reducible repeat (first | apply zSa | apply zSn | apply zSd)); exact Kd.S_mono HO_3.out (fun _ hk => hk.2)⟩, ⟨by (with_reducible repeat (first | apply zRa | apply zRn | apply zRd)); exact HO104.out⟩, ⟨by repeat (first | (with_reducible first | exact HB.out | apply zba | apply zbn | apply zbd) | exact HB.out)⟩⟩
end Go.Proofs.Yteaablbhdmkcpaa.Q
end
section
namespace Go.Proofs.Yteaablbhdmkcpaa.Q
open Go.RowKit Go.Proofs.YteaablbhdmkcpaaW.PrintWords Go.Proofs.YteaablbhdmkcpaaW.PrintLast Go.Proofs.YteaablbhdmkcpaaW.PrintMore
attribute [local go_sem] max2_int min2_int max_two min_two max_three min_three max_four min_four
set_option linter.unusedVariables false
set_option linter.unusedSimpArgs false
mutual
def spec_orHeights.l0 : Nat → List (S57) → List (List Int) → List Int → Int → Option (List Int)
 | 0, _, _, _, _ => none
 | k + 1, x0, x3, x4, x5 => if x5 ≥ 0 then (if 0 ≤ x5 then (if x5 < (x0.length : Int) then ((spec_cdCost.f ((rd_T57 x0 x5).f0)).bind fun t108 => (if x5 < (x4.length : Int) then (spec_orHeights.l1 k x0 x3 (x4.set (x5 : Int).toNat t108) x5 (wrap64 (x5 + 1))) else (none))) else (none)) else (none)) else (some x4)
def spec_orHeights.l1 : Nat → List (S57) → List (List Int) → List Int → Int → Int → Option (List Int)
 | 0, _, _, _, _, _ => none
 | k + 1, x0, x3, x4, x5, x6 => if x6 < (x0.length : Int) then (if 0 ≤ x5 then (if x5 < (x3.length : Int) then (if 0 ≤ x6 then (if x6 < ((rd_L4 x3 x5).length : Int) then (if (rd (rd_L4 x3 x5) x6) ≥ 0 then (if x5 < (x4.length : Int) then (if x6 < (x4.length : Int) then ((spec_l1Most.f (rd x4 x5) (wrap64 ((rd (rd_L4 x3 x5) x6) + (rd x4 x6)))).bind fun t116 => (spec_orHeights.l1 k x0 x3 (x4.set (x5 : Int).toNat t116) x5 (wrap64 (x6 + 1)))) else (none)) else (none)) else (spec_orHeights.l1 k x0 x3 x4 x5 (wrap64 (x6 + 1)))) else (none)) else (none)) else (none)) else (none)) else (spec_orHeights.l0 k x0 x3 x4 (wrap64 (x5 - 1)))
end
def spec_orHeights.f (k : Nat) (l0 : List (S57)) : Option (List Int) := (spec_orDelays.f k l0).bind fun t101 => (if 0 ≤ (l0.length : Int) then (if ((l0.length : Int) : Int).toNat ≤ 35184372088832 then (spec_orHeights.l0 k l0 t101 (List.replicate ((l0.length : Int) : Int).toNat 0) (wrap64 ((l0.length : Int) - 1))) else (none)) else (none))
theorem spec_orHeights.mono_l : ∀ k, (∀ y0 y1 y2 y3, LeO (spec_orHeights.l0 k y0 y1 y2 y3) (spec_orHeights.l0 (k + 1) y0 y1 y2 y3)) ∧ (∀ y0 y1 y2 y3 y4, LeO (spec_orHeights.l1 k y0 y1 y2 y3 y4) (spec_orHeights.l1 (k + 1) y0 y1 y2 y3 y4))
 | 0 => ⟨fun _ _ _ _ r h => by simp [spec_orHeights.l0] at h, fun _ _ _ _ _ r h => by simp [spec_orHeights.l1] at h⟩
 | k + 1 => by
   obtain ⟨ih0, ih1⟩ := spec_orHeights.mono_l k
   refine ⟨?_, ?_⟩
   · intro y0 y1 y2 y3
     unfold spec_orHeights.l0
     repeat' first
     | (with_reducible first | exact ih0 _ _ _ _ | exact ih1 _ _ _ _ _ | exact spec_orDelays.mono _ _ | exact LeO.refl _ | exact LeO.none _ | refine LeO.ite ?_ ?_ | refine LeO.bind ?_ (fun _ => ?_))
     | exact LeO.none _
     | refine LeO.ite ?_ ?_
     | refine LeO.bind ?_ (fun _ => ?_)
   · intro y0 y1 y2 y3 y4
     unfold spec_orHeights.l1
     repeat' first
     | (with_reducible first | exact ih0 _ _ _ _ | exact ih1 _ _ _ _ _ | exact spec_orDelays.mono _ _ | exact LeO.refl _ | exact LeO.none _ | refine LeO.ite ?_ ?_ | refine LeO.bind ?_ (fun _ => ?_))
     | exact LeO.none _
     | refine LeO.ite ?_ ?_
     | refine LeO.bind ?_ (fun _ => ?_)
theorem spec_orHeights.mono : ∀ a0 k, LeO (spec_orHeights.f k a0) (spec_orHeights.f (k + 1) a0) := by
 intro a0 k
 obtain ⟨ih0, ih1⟩ := spec_orHeights.mono_l k
 unfold spec_orHeights.f
 repeat' first
     | (with_reducible first | exact ih0 _ _ _ _ | exact ih1 _ _ _ _ _ | exact spec_orDelays.mono _ _ | exact LeO.refl _ | exact LeO.none _ | refine LeO.ite ?_ ?_ | refine LeO.bind ?_ (fun _ => ?_))
     | exact LeO.none _
     | refine LeO.ite ?_ ?_
     | refine LeO.bind ?_ (fun _ => ?_)
def spec_orHeights.T11 : Bool × List (List Nat × List Nat) := (true, [([], []), ([], []), ([], []), ([], []), ([2, 3], [2, 3]), ([4], [4]), ([], []), ([], []), ([6, 7], [6, 7]), ([8], [8]), ([], []), ([9, 10], [9, 10]), ([11], [11]), ([], []), ([], []), ([13, 14], [13, 14]), ([15], [15]), ([12, 16], [12, 16]), ([5, 17], [5, 17]), ([0, 1, 0, 1, 2, 3, 4, 5, 6, 7, 8, 9, 10, 11, 12, 13, 14, 15, 16, 17, 18], [0, 1]), ([19, 18, 18, 0, 1, 2, 3, 4, 5, 6, 7, 8, 9, 10, 11, 12, 13, 14, 15, 16, 17, 18], [18, 19])])
def spec_orHeights.B11 : List Nat := [0, 0, 0, 0, 12, 28, 0, 0, 192, 448, 0, 1984, 4032, 0, 0, 24576, 57344, 131008, 262140, 524287, 1048575]
theorem spec_orHeights.tab11 : rtab .any (opsOf Try.f94 11) = spec_orHeights.T11 := by kernel_rfl
theorem spec_orHeights.bits11 : waitsOk spec_orHeights.T11.2 spec_orHeights.B11 = true := by kernel_rfl
set_option maxHeartbeats 8000000 in
set_option maxRecDepth 100000 in
theorem spec_orHeights.calls (k : Nat) (A0 : Option Addr) (c0 : Nat) (l0 : List (S57)) (r : List Int) (w : World) (hr0 : Kd.C k57 w A0 l0.length l0) (hc0 : l0.length ≤ c0) (h : spec_orHeights.f k l0 = some r) :
   Calls Try.prog 94 #[.slice A0 l0.length c0] w fun e w' => ∃ v0_ : Value, e = .returned (v0_) ∧ Kd.R (Kd.int .i64) 3 w' w.heap.size (fun _ => True) v0_ r ∧ Below w.heap.size w w' := by
 have HR0 := zA hr0
 have HC0 := zA hc0
 clear hr0 hc0
 have HB := zA (Below.refl w.heap.size w)
 have H : ((spec_orDelays.f k l0).bind fun t101 => (if 0 ≤ (l0.length : Int) then (if ((l0.length : Int) : Int).toNat ≤ 35184372088832 then (spec_orHeights.l0 k l0 t101 (List.replicate ((l0.length : Int) : Int).toNat 0) (wrap64 ((l0.length : Int) - 1))) else (none)) else (none))) = some r := h
 clear h
 replace H := zob H
 obtain ⟨t101, A20, H⟩ := H
 replace H : (if 0 ≤ (l0.length : Int) then (if ((l0.length : Int) : Int).toNat ≤ 35184372088832 then (spec_orHeights.l0 k l0 t101 (List.replicate ((l0.length : Int) : Int).toNat 0) (wrap64 ((l0.length : Int) - 1))) else (none)) else (none)) = some r := H
 have A2 := zA A20
 clear A20
 by_cases c3 : 0 ≤ (l0.length : Int)
 rotate_left
 · rw [if_neg c3] at H
   exact absurd H (by simp)
 rw [if_pos c3] at H
 have c3b0 := eq_true c3
 have c3b1 : decide (0 ≤ (l0.length : Int)) = true := zdt c3
 clear c3
 by_cases c4 : ((l0.length : Int) : Int).toNat ≤ 35184372088832
 rotate_left
 · rw [if_neg c4] at H
   exact absurd H (by simp)
 rw [if_pos c4] at H
 have c4b0 := eq_true c4
 have c4b1 : decide (((l0.length : Int) : Int).toNat ≤ 35184372088832) = true := zdt c4
 clear c4
 obtain ⟨y104, hy104⟩ : ∃ y_ : List Int, y_ = (List.replicate ((l0.length : Int) : Int).toNat 0) := ⟨_, rfl⟩
 replace H : (spec_orHeights.l0 k l0 t101 y104 (wrap64 ((l0.length : Int) - 1))) = some r := by first | (rw [hy104]; with_reducible exact H) | (have H2_ := (Option.bind_some _ _).symm.trans H; rw [hy104]; with_reducible exact H2_) | (have H2_ := (Option.bind_some _ _).symm.trans H; with_reducible exact H2_) | with_reducible exact H | (rw [hy104]; exact H) | exact H
 have Ny104 := zA hy104
 clear hy104
 have H' := zA H
 clear H
 go_enter Try.func94, Try.ntmps94
 go_wp2_with (first | ((with_reducible refine gate_callee (f := 50) rfl ?_); refine goesL_ (some 8) rfl rfl Try.func50 (by kernel_rfl) rfl #[.slice A0 l0.length c0] rfl (by (try simp only [List.map_toArray, List.map_cons, List.map_nil]); first | done | rfl | (simp only [List.length_drop, List.length_take]; rfl)) ?_; (with_reducible refine (spec_orDelays.calls k _ _ l0 t101 _ ?side1 ?side2 A2.out).mono ?_); (case side1 => repeat (first | exact HR0.out | (with_reducible first | refine zCa ?_ _ | refine zCn ?_ _ | refine zCd ?_))); (case side2 => exact HC0.out); rintro e w5 ⟨v102, rfl, ho0, hb⟩; refine ⟨_, rfl, ?_⟩; have n0_ := zA (Kd.S_lower ho0 (below_size (by repeat (first | (with_reducible first | exact HB.out | apply zba | apply zbn | apply zbd) | exact HB.out)))); have n1_ := zA (below_step (by repeat (first | (with_reducible first | exact HB.out | apply zba | apply zbn | apply zbd) | exact HB.out)) hb); clear HB; have HO103 := n0_; have HB := n1_; clear n0_ n1_; (try clear hb); (try clear hk); (try clear ho0)) | ((with_reducible refine gate_dst (N := 11) rfl ?_); refine Kd.R_make (Kd.int .i64) _ 3 rfl (N := 11) rfl 34 _ _ rfl (l0.length : Int) rfl rfl Try.underlying34 (.int .i64 0) 8 info3 rfl (by decide) (by omega) 0 (ok := fun _ => True) (okp := fun _ => True) rfl (fun _ hk => hk) trivial (zde (by assumption)) (Nat.le_trans (Nat.mul_le_mul_right _ (zde (by assumption) : (l0.length : Int).toNat ≤ 35184372088832)) (by omega)) (Below.refl _ _) (zlr _) ?_; intro v105 w6 ho7 hb hg_ hnew_; clear hg_ hnew_; (first | rw [← Ny104.out] at ho7 | (simp only [Int.reduceToNat] at ho7; rw [← Ny104.out] at ho7)); have n0_ := zA (Kd.S_elder' (by (with_reducible repeat (first | apply zSa | apply zSn | apply zSd)); exact HO103.out) (Kd.R_base ho7) hb); have n1_ := zA (Kd.R_lower ho7 (below_size (by repeat (first | (with_reducible first | exact HB.out | apply zba | apply zbn | apply zbd) | exact HB.out)))); have n2_ := zA (below_step (by repeat (first | (with_reducible first | exact HB.out | apply zba | apply zbn | apply zbd) | exact HB.out)) hb); clear HO103 HB; have HO103 := n0_; have HO106 := n1_; have HB := n2_; clear n0_ n1_ n2_; clear hb ho7))
 go_loopg [5] k (fun kq v5 w' => ∃ (x4_1 : List Int) (x5_1 : Int), v5 = .int .i64 x5_1 ∧ Aside0 (spec_orHeights.l0 kq l0 t101 x4_1 x5_1 = some r) ∧ Aside0 (kq ≤ k) ∧ Aside0 (Kd.S (Kd.slice 3 (Kd.int .i64)) 34 w' w.heap.size (fun k_ => some k_ ≠ (v105 : Value).ownBlock) v102 t101) ∧ Aside0 (Kd.R (Kd.int .i64) 3 w' w.heap.size (fun _ => True) v105 x4_1) ∧ Aside0 (Below w.heap.size w w'))
 case atStart => exact ⟨(y104), (wrap64 ((l0.length : Int) - 1)), (by first | rfl | (simp; done) | (simp [*]; done)), H', ⟨zlr _⟩, ⟨by (with_reducible repeat (first | apply zSa | apply zSn | apply zSd)); exact Kd.S_mono HO103.out (fun _ hk => hk.2)⟩, ⟨by (with_reducible repeat (first | apply zRa | apply zRn | apply zRd)); exact HO106.out⟩, ⟨by repeat (first | (with_reducible first | exact HB.out | apply zba | apply zbn | apply zbd) | exact HB.out)⟩⟩
 clear H'
 try clear p2
 try clear c3
 try clear c3b0
 try clear c3b1
 try clear c4
 try clear c4b0
 try clear c4b1
 try clear c5
 try clear p6
 obtain ⟨x4_1, x5_1, rfl, HA, HK1, HO_3, HO_4, HB⟩ := hrel
 cases gk with
 | zero => exact absurd HA.out (by simp [spec_orHeights.l0])
 | succ k1 =>
 have H := HA.out
 clear HA
 simp only [spec_orHeights.l0] at H
 by_cases c8 : x5_1 ≥ 0
 rotate_left
 · rw [if_neg c8] at H
   have c8b0 : decide (0 ≤ x5_1) = false := zdf c8
   clear c8
   obtain rfl := zsi H
   go_wp2
   go_ret
   exact ⟨_, by first | rfl | (simp [errW_none, errW_some] <;> rfl) | (simp [*, errW_none, errW_some] <;> rfl), by (with_reducible repeat (first | apply zRa | apply zRn | apply zRd)); exact HO_4.out, by repeat (first | (with_reducible first | exact HB.out | apply zba | apply zbn | apply zbd) | exact HB.out)⟩
 rw [if_pos c8] at H
 have c8b0 : decide (0 ≤ x5_1) = true := zdt c8
 clear c8
 by_cases c9 : 0 ≤ x5_1
 rotate_left
 · rw [if_neg c9] at H
   exact absurd H (by simp)
 rw [if_pos c9] at H
 have c9b0 : decide (0 ≤ x5_1) = true := zdt c9
 clear c9
 by_cases c10 : x5_1 < (l0.length : Int)
 rotate_left
 · rw [if_neg c10] at H
   exact absurd H (by simp)
 rw [if_pos c10] at H
 have c10b0 : decide (x5_1 < (l0.length : Int)) = true := zdt c10
 clear c10
 replace H := zob H
 obtain ⟨t108, A110, H⟩ := H
 replace H : (if x5_1 < (x4_1.length : Int) then (spec_orHeights.l1 k1 l0 t101 (x4_1.set (x5_1 : Int).toNat t108) x5_1 (wrap64 (x5_1 + 1))) else (none)) = some r := H
 have A11 := zA A110
 clear A110
 by_cases c12 : x5_1 < (x4_1.length : Int)
 rotate_left
 · rw [if_neg c12] at H
   exact absurd H (by simp)
 rw [if_pos c12] at H
 have c12b0 : decide (x5_1 < (x4_1.length : Int)) = true := zdt c12
 clear c12
 obtain ⟨y109, hy109⟩ : ∃ y_ : List Int, y_ = (x4_1.set (x5_1 : Int).toNat t108) := ⟨_, rfl⟩
 replace H : (spec_orHeights.l1 k1 l0 t101 y109 x5_1 (wrap64 (x5_1 + 1))) = some r := by first | (rw [hy109]; with_reducible exact H) | (have H2_ := (Option.bind_some _ _).symm.trans H; rw [hy109]; with_reducible exact H2_) | (have H2_ := (Option.bind_some _ _).symm.trans H; with_reducible exact H2_) | with_reducible exact H | (rw [hy109]; exact H) | exact H
 have Ny109 := zA hy109
 clear hy109
 have H' := zA H
 clear H
 have p107 : 0 ≤ (x5_1 : Int) := zde (by assumption)
 have q107 : x5_1 < (l0.length : Int) := zde (by assumption)
 obtain ⟨ad107, e107, hx107_0, hx107_1, hx107_2, hx107_3, hx107_4⟩ := at_T57 HR0.out x5_1 p107 q107
 cases e107
 replace hx107_0 := zkep HB.out hx107_0
 replace hx107_1 := zkep HB.out hx107_1
 replace hx107_2 := zkep HB.out hx107_2
 replace hx107_3 := zkep HB.out hx107_3
 replace hx107_4 := zkep HB.out hx107_4
 replace p107 := eq_true p107
 replace q107 := eq_true q107
 go_wp2_with (first | ((with_reducible refine gate_callee (f := 71) rfl ?_); refine goesL_ (some 26) rfl rfl Try.func71 (by kernel_rfl) rfl #[.string ((rd_T57 l0 x5_1).f0)] rfl (by (try simp only [List.map_toArray, List.map_cons, List.map_nil]); first | done | rfl | (simp only [List.length_drop, List.length_take]; rfl)) ?_; (with_reducible refine (spec_cdCost.calls ((rd_T57 l0 x5_1).f0) t108 _ A11.out).mono ?_); rintro e w' ⟨rfl, ⟨nd, rfl⟩⟩; refine ⟨_, rfl, ?_⟩; (try (rw [drewN_self wr]; generalize hq_ : World.drewN wr _ = wr; have n0_ : Aside0 (Kd.S (Kd.slice 3 (Kd.int .i64)) 34 wr w.heap.size (fun k_ => some k_ ≠ (v105 : Value).ownBlock) v102 t101) := ⟨by rw [← hq_]; exact (by (with_reducible repeat (first | apply zSa | apply zSn | apply zSd)); exact HO_3.out)⟩; have n1_ : Aside0 (Kd.R (Kd.int .i64) 3 wr w.heap.size (fun _ => True) v105 x4_1) := ⟨by rw [← hq_]; exact (by (with_reducible repeat (first | apply zRa | apply zRn | apply zRd)); exact HO_4.out)⟩; have n2_ : Aside0 (Below w.heap.size w wr) := ⟨by rw [← hq_]; exact (by repeat (first | (with_reducible first | exact HB.out | apply zba | apply zbn | apply zbd) | exact HB.out))⟩; clear HO_3 HO_4 HB hq_; have HO_3 := n0_; have HO_4 := n1_; have HB := n2_; clear n0_ n1_ n2_)); have p13 : 0 ≤ (x5_1 : Int) := zde (by assumption); have q13 : (x5_1 : Int) < ((x4_1.length : Int) : Int) := zde (by assumption); obtain ⟨go13, co13, eo13, gb13, gl13, cl13, HG13⟩ := Kd.R_form HO_4.out (by omega); (first | cases eo13 | (injection eo13 with ea_ en_ ec_; (first | subst ea_ | (injection ea_ with ea_; subst ea_)); subst ec_; clear en_)); have GB13 := zA gb13; have GG13 := zA HG13; clear gb13 gl13 HG13; obtain ⟨hx13_0, hf13_0⟩ := Kd.R_celln 0 HO_4.out (x5_1 : Int) p13 q13; replace p13 := eq_true p13; replace q13 := eq_true q13; obtain ⟨hy14_, hz14_⟩ := Kd.R_celln 0 HO_4.out (x5_1 : Int) (zde (by assumption)) (zde (by assumption)); have HP14 := Kd.R_putg HO_4.out (x5_1 : Int) t108) | ((with_reducible refine gate_store (t := 3) (p := 27) rfl ?_); refine store_event (t := 3) (p := 27) (v := ?vo_w15) (w1 := (wr.setCell ⟨go13, (x5_1 : Int).toNat, none⟩ (.int .i64 t108))) ?hg ?ho ?hn ?hr ?_; (case ho => rfl); (case hg => rfl); (case hn => rfl); (case hr => go_simp <;> rfl); intro w15 hw; have hg : wr.grownBy w15 (some go13) := (by rw [hw]; exact HP14.2); have hp_ : Kd.R (Kd.int .i64) 3 w15 w.heap.size (fun _ => True) (.slice (some ⟨go13, 0, none⟩) x4_1.length co13) y109 := (by rw [hw, Ny109.out]; exact HP14.1); clear HP14; have n0_ := zA (Kd.S_after (v := (.slice (some ⟨go13, 0, none⟩) x4_1.length co13)) (v1 := (.slice (some ⟨go13, 0, none⟩) x4_1.length co13)) (ok := (fun _ => True)) (by (with_reducible repeat (first | apply zSa | apply zSn | apply zSd)); exact Kd.S_mono HO_3.out (fun _ hk => ⟨trivial, hk⟩)) hg (.inl rfl)); have n1_ := zA (hp_); have n2_ := zA ((by rw [hw]; exact below_set (HB.out) GB13.out : Below w.heap.size w w15)); clear HO_3 HO_4 HB; have HO_3 := n0_; have HO_4 := n1_; have HB := n2_; clear n0_ n1_ n2_; clear hg hw hp_))
 go_loopg [6] k1 (fun kq v6 w' => ∃ (x4_2 : List Int) (x6_2 : Int), v6 = .int .i64 x6_2 ∧ Aside0 (spec_orHeights.l1 kq l0 t101 x4_2 x5_1 x6_2 = some r) ∧ Aside0 (kq ≤ k1) ∧ Aside0 (Kd.S (Kd.slice 3 (Kd.int .i64)) 34 w' w.heap.size (fun k_ => some k_ ≠ ((.slice (some ⟨go13, 0, none⟩) x4_1.length co13) : Value).ownBlock) v102 t101) ∧ Aside0 (Kd.R (Kd.int .i64) 3 w' w.heap.size (fun _ => True) (.slice (some ⟨go13, 0, none⟩) x4_1.length co13) x4_2) ∧ Aside0 (Below w.heap.size w w'))
 case atStart => exact ⟨(y109), (wrap64 (x5_1 + 1)), (by first | rfl | (simp; done) | (simp [*]; done)), H', ⟨zlr _⟩, ⟨by (with_reducible repeat (first | apply zSa | apply zSn | apply zSd)); exact Kd.S_mono HO_3.out (fun _ hk => hk.2)⟩, ⟨by (with_reducible repeat (first | apply zRa | apply zRn | apply zRd)); exact HO_4.out⟩, ⟨by repeat (first | (with_reducible first | exact HB.out | apply zba | apply zbn | apply zbd) | exact HB.out)⟩⟩
 clear H'
 try clear c1
 try clear p1
 try clear q1
 try clear hx1
 try clear hf1
 try clear p2
 try clear c3
 try clear c3b0
 try clear c3b1
 try clear c4
 try clear c4b0
 try clear c4b1
 try clear c5
 try clear p6
 try clear c7
 try clear c8
 try clear c8b0
 try clear c9
 try clear c9b0
 try clear c10
 try clear c10b0
 try clear p10
 try clear q10
 try clear hx10
 try clear c12
 try clear c12b0
 try clear p13
 try clear q13
 try clear hx13
 try clear hf13
 try clear hx107_0
 try clear hx107_1
 try clear hx107_2
 try clear hx107_3
 try clear hx107_4
 try clear hx13_0
 try clear p107
 try clear p13
 try clear p2
 try clear p6
 try clear q107
 try clear q13
 obtain ⟨x4_2, x6_2, rfl, HA, HK2, HO_3, HO_4, HB⟩ := hrel
 have hl4_2 := (zRr HO_4.out).1
 rw [hl4_2] at HO_4
 (try simp only [hl4_2])
 (try simp only [hl4_2] at HO_3)
 cases gk with
 | zero => exact absurd HA.out (by simp [spec_orHeights.l1])
 | succ k2 =>
 have H := HA.out
 clear HA
 simp only [spec_orHeights.l1] at H
 by_cases c16 : x6_2 < (l0.length : Int)
 rotate_left
 · rw [if_neg c16] at H
   have c16b0 : decide (x6_2 < (l0.length : Int)) = false := zdf c16
   clear c16
   have H' := zA H
   clear H
   go_wp2
   (try simp only [← hl4_2])
   go_roundg k2
   case measure => have := HK1.out; have := HK2.out; omega
   case rel => exact ⟨(x4_2), (wrap64 (x5_1 - 1)), (by first | rfl | (simp; done) | (simp [*]; done)), H', ⟨by have := HK1.out; have := HK2.out; omega⟩, ⟨by (try simp only [hl4_2]); (with_reducible repeat (first | apply zSa | apply zSn | apply zSd)); exact HO_3.out⟩, ⟨by (try simp only [hl4_2]); (with_reducible repeat (first | apply zRa | apply zRn | apply zRd)); exact HO_4.out⟩, ⟨by repeat (first | (with_reducible first | exact HB.out | apply zba | apply zbn | apply zbd) | exact HB.out)⟩⟩
 rw [if_pos c16] at H
 have c16b0 : decide (x6_2 < (l0.length : Int)) = true := zdt c16
 clear c16
 by_cases c17 : 0 ≤ x5_1
 rotate_left
 · rw [if_neg c17] at H
   exact absurd H (by simp)
 rw [if_pos c17] at H
 have c17b0 : decide (0 ≤ x5_1) = true := zdt c17
 clear c17
 by_cases c18 : x5_1 < (t101.length : Int)
 rotate_left
 · rw [if_neg c18] at H
   exact absurd H (by simp)
 rw [if_pos c18] at H
 have c18b0 : decide (x5_1 < (t101.length : Int)) = true := zdt c18
 clear c18
 by_cases c19 : 0 ≤ x6_2
 rotate_left
 · rw [if_neg c19] at H
   exact absurd H (by simp)
 rw [if_pos c19] at H
 have c19b0 : decide (0 ≤ x6_2) = true := zdt c19
 clear c19
 by_cases c20 : x6_2 < ((rd_L4 t101 x5_1).length : Int)
 rotate_left
 · rw [if_neg c20] at H
   exact absurd H (by simp)
 rw [if_pos c20] at H
 have c20b0 : decide (x6_2 < ((rd_L4 t101 x5_1).length : Int)) = true := zdt c20
 clear c20
 by_cases c21 : (rd (rd_L4 t101 x5_1) x6_2) ≥ 0
 rotate_left
 · rw [if_neg c21] at H
   have c21b0 : decide (0 ≤ (rd (rd_L4 t101 x5_1) x6_2)) = false := zdf c21
   clear c21
   have H' := zA H
   clear H
   obtain ⟨Ao29, co29, eo29⟩ := Kd.S_slice HO_3.out
   subst eo29
   have p110 : 0 ≤ (x5_1 : Int) := zde (by assumption)
   have q110 : x5_1 < (t101.length : Int) := zde (by assumption)
   obtain ⟨ad110, A110_0, c110_0, e110, hx110_0, hl110_0, hi110_0⟩ := at_L4 (zSr HO_3.out).2.2 x5_1 p110 q110
   cases e110
   obtain ⟨ce110, hce110, hMe110, hcc110⟩ := Kd.S_get HO_3.out [] x5_1 p110 (by first | exact q110 | exact zde (by assumption) | (have e_ := (zSr HO_3.out).1; omega))
   obtain ⟨ve110_0, rfl, ge110_0⟩ := hMe110
   have hv110_0 := hcc110 0 _ rfl
   rw [Nat.add_zero, show ((Kd.slice 3 (Kd.int .i64))).sz = 1 from rfl, Nat.mul_one] at hv110_0
   replace hv110_0 := zsi (hv110_0.symm.trans hx110_0)
   rw [hv110_0] at ge110_0
   have HL110_0 := zA (show Kd.R (Kd.int .i64) 3 _ _ _ _ (rd_L4 t101 x5_1) from ge110_0)
   clear hv110_0 ge110_0
   clear hcc110 hce110
   have HR110_0 := zA hi110_0
   have HC110_0 := zA hl110_0
   clear hi110_0 hl110_0
   replace p110 := eq_true p110
   replace q110 := eq_true q110
   have p111 : 0 ≤ (x6_2 : Int) := zde (by assumption)
   have q111 : x6_2 < ((rd_L4 t101 x5_1).length : Int) := zde (by assumption)
   obtain ⟨ad111, e111, hx111_0⟩ := Kd.at_int (by repeat (first | (with_reducible exact HR110_0.out) | (with_reducible first | refine zCa ?_ _ | refine zCn ?_ _ | refine zCd ?_) | exact HR110_0.out)) x6_2 p111 q111
   cases e111
   replace p111 := eq_true p111
   replace q111 := eq_true q111
   go_wp2
   (try simp only [← hl4_2])
   go_roundg k2
   case measure => have := HK1.out; have := HK2.out; omega
   case rel => exact ⟨(x4_2), (wrap64 (x6_2 + 1)), (by first | rfl | (simp; done) | (simp [*]; done)), H', ⟨by have := HK1.out; have := HK2.out; omega⟩, ⟨by (try simp only [hl4_2]); (with_reducible repeat (first | apply zSa | apply zSn | apply zSd)); exact HO_3.out⟩, ⟨by (try simp only [hl4_2]); (with_reducible repeat (first | apply zRa | apply zRn | apply zRd)); exact HO_4.out⟩, ⟨by repeat (first | (with_reducible first | exact HB.out | apply zba | apply zbn | apply zbd) | exact HB.out)⟩⟩
 rw [if_pos c21] at H
 have c21b0 : decide (0 ≤ (rd (rd_L4 t101 x5_1) x6_2)) = true := zdt c21
 clear c21
 by_cases c22 : x5_1 < (x4_2.length : Int)
 rotate_left
 · rw [if_neg c22] at H
   exact absurd H (by simp)
 rw [if_pos c22] at H
 have c22b0 : decide (x5_1 < (x4_2.length : Int)) = true := zdt c22
 clear c22
 by_cases c23 : x6_2 < (x4_2.length : Int)
 rotate_left
 · rw [if_neg c23] at H
   exact absurd H (by simp)
 rw [if_pos c23] at H
 have c23b0 : decide (x6_2 < (x4_2.length : Int)) = true := zdt c23
 clear c23
 replace H := zob H
 obtain ⟨t116, A240, H⟩ := H
 replace H : (spec_orHeights.l1 k2 l0 t101 (x4_2.set (x5_1 : Int).toNat t116) x5_1 (wrap64 (x6_2 + 1))) = some r := H
 have A24 := zA A240
 clear A240
 obtain ⟨y117, hy117⟩ : ∃ y_ : List Int, y_ = (x4_2.set (x5_1 : Int).toNat t116) := ⟨_, rfl⟩
 replace H : (spec_orHeights.l1 k2 l0 t101 y117 x5_1 (wrap64 (x6_2 + 1))) = some r := by first | (rw [hy117]; with_reducible exact H) | (have H2_ := (Option.bind_some _ _).symm.trans H; rw [hy117]; with_reducible exact H2_) | (have H2_ := (Option.bind_some _ _).symm.trans H; with_reducible exact H2_) | with_reducible exact H | (rw [hy117]; exact H) | exact H
 have Ny117 := zA hy117
 clear hy117
 have H' := zA H
 clear H
 obtain ⟨Ao26, co26, eo26⟩ := Kd.S_slice HO_3.out
 subst eo26
 have p110 : 0 ≤ (x5_1 : Int) := zde (by assumption)
 have q110 : x5_1 < (t101.length : Int) := zde (by assumption)
 obtain ⟨ad110, A110_0, c110_0, e110, hx110_0, hl110_0, hi110_0⟩ := at_L4 (zSr HO_3.out).2.2 x5_1 p110 q110
 cases e110
 obtain ⟨ce110, hce110, hMe110, hcc110⟩ := Kd.S_get HO_3.out [] x5_1 p110 (by first | exact q110 | exact zde (by assumption) | (have e_ := (zSr HO_3.out).1; omega))
 obtain ⟨ve110_0, rfl, ge110_0⟩ := hMe110
 have hv110_0 := hcc110 0 _ rfl
 rw [Nat.add_zero, show ((Kd.slice 3 (Kd.int .i64))).sz = 1 from rfl, Nat.mul_one] at hv110_0
 replace hv110_0 := zsi (hv110_0.symm.trans hx110_0)
 rw [hv110_0] at ge110_0
 have HL110_0 := zA (show Kd.R (Kd.int .i64) 3 _ _ _ _ (rd_L4 t101 x5_1) from ge110_0)
 clear hv110_0 ge110_0
 clear hcc110 hce110
 have HR110_0 := zA hi110_0
 have HC110_0 := zA hl110_0
 clear hi110_0 hl110_0
 replace p110 := eq_true p110
 replace q110 := eq_true q110
 have p111 : 0 ≤ (x6_2 : Int) := zde (by assumption)
 have q111 : x6_2 < ((rd_L4 t101 x5_1).length : Int) := zde (by assumption)
 obtain ⟨ad111, e111, hx111_0⟩ := Kd.at_int (by repeat (first | (with_reducible exact HR110_0.out) | (with_reducible first | refine zCa ?_ _ | refine zCn ?_ _ | refine zCd ?_) | exact HR110_0.out)) x6_2 p111 q111
 cases e111
 replace p111 := eq_true p111
 replace q111 := eq_true q111
 try go_wp2
 have n0_ := zA (zSd HO_3.out)
 have n1_ := zA (zRd HO_4.out)
 have n2_ := zA (zRd HL110_0.out)
 have n3_ := zA (zCd HR110_0.out)
 have n4_ := zA (zbd HB.out)
 clear HO_3
 clear HO_4
 clear HL110_0
 clear HR110_0
 clear HB
 have HO_3 := n0_
 have HO_4 := n1_
 have HL110_0 := n2_
 have HR110_0 := n3_
 have HB := n4_
 clear n0_ n1_ n2_ n3_ n4_
 have p112 : 0 ≤ (x5_1 : Int) := zde (by assumption)
 have q112 : x5_1 < (x4_2.length : Int) := zde (by assumption)
 obtain ⟨ad112, e112, hx112_0⟩ := Kd.at_int (zRr HO_4.out).2.2 x5_1 p112 q112
 obtain rfl : (⟨go13, 0, none⟩ : Addr) = ad112 := (by injection e112)
 (first | simp only [add_plain] at hx112_0 | simp only [add_at] at hx112_0 | simp only [Addr.add, Nat.zero_add] at hx112_0 | skip)
 replace p112 := eq_true p112
 replace q112 := eq_true q112
 have p113 : 0 ≤ (x5_1 : Int) := zde (by assumption)
 have q113 : x5_1 < (t101.length : Int) := zde (by assumption)
 obtain ⟨ad113, A113_0, c113_0, e113, hx113_0, hl113_0, hi113_0⟩ := at_L4 (zSr HO_3.out).2.2 x5_1 p113 q113
 obtain rfl : ad110 = ad113 := (by injection e113)
 obtain ⟨ce113, hce113, hMe113, hcc113⟩ := Kd.S_get HO_3.out [] x5_1 p113 (by first | exact q113 | exact zde (by assumption) | (have e_ := (zSr HO_3.out).1; omega))
 obtain ⟨ve113_0, rfl, ge113_0⟩ := hMe113
 have hv113_0 := hcc113 0 _ rfl
 rw [Nat.add_zero, show ((Kd.slice 3 (Kd.int .i64))).sz = 1 from rfl, Nat.mul_one] at hv113_0
 replace hv113_0 := zsi (hv113_0.symm.trans hx113_0)
 rw [hv113_0] at ge113_0
 have HL113_0 := zA (show Kd.R (Kd.int .i64) 3 _ _ _ _ (rd_L4 t101 x5_1) from ge113_0)
 clear hv113_0 ge113_0
 clear hcc113 hce113
 have HR113_0 := zA hi113_0
 have HC113_0 := zA hl113_0
 clear hi113_0 hl113_0
 replace p113 := eq_true p113
 replace q113 := eq_true q113
 have p114 : 0 ≤ (x6_2 : Int) := zde (by assumption)
 have q114 : x6_2 < ((rd_L4 t101 x5_1).length : Int) := zde (by assumption)
 obtain ⟨ad114, e114, hx114_0⟩ := Kd.at_int (by repeat (first | (with_reducible exact HR113_0.out) | (with_reducible first | refine zCa ?_ _ | refine zCn ?_ _ | refine zCd ?_) | exact HR113_0.out)) x6_2 p114 q114
 cases e114
 replace p114 := eq_true p114
 replace q114 := eq_true q114
 have p115 : 0 ≤ (x6_2 : Int) := zde (by assumption)
 have q115 : x6_2 < (x4_2.length : Int) := zde (by assumption)
 obtain ⟨ad115, e115, hx115_0⟩ := Kd.at_int (zRr HO_4.out).2.2 x6_2 p115 q115
 obtain rfl : (⟨go13, 0, none⟩ : Addr) = ad115 := (by injection e115)
 (first | simp only [add_plain] at hx115_0 | simp only [add_at] at hx115_0 | simp only [Addr.add, Nat.zero_add] at hx115_0 | skip)
 replace p115 := eq_true p115
 replace q115 := eq_true q115
 refine start_ (n := 21) (S := fun w' => w'.cell? ⟨go13, (x5_1).toNat, none⟩ = some (.int .i64 (rd x4_2 x5_1)) ∧ w'.cell? (ad110.add (x5_1).toNat) = some (.slice (some ad114) (rd_L4 t101 x5_1).length c113_0) ∧ w'.cell? (ad114.add (x6_2).toNat) = some (.int .i64 (rd (rd_L4 t101 x5_1) x6_2)) ∧ w'.cell? ⟨go13, (x6_2).toNat, none⟩ = some (.int .i64 (rd x4_2 x6_2))) (ds := [20]) #[false, false, false, false, false, false, false, false, false, false, false, false, false, false, false, false, false, false, false, false, false] (by kernel_rfl) rfl rfl ⟨hx112_0, hx113_0, hx114_0, hx115_0⟩ (fun hHeld => ?_); refine with_tabW spec_orHeights.tab11 spec_orHeights.bits11 (fun HT_ HW_ => ?_)
 generalize wr.drew = w27 at HO_3 HO_4 HL110_0 HR110_0 HB HL113_0 HR113_0 hx112_0 hx113_0 hx114_0 hx115_0 hHeld ⊢
 refine pure_ (i := 0) (N := some 44) (v := ?_) (a' := ?_) #[true, false, false, false, false, false, false, false, false, false, false, false, false, false, false, false, false, false, false, false, false] rfl rfl (any_of HT_.out (by kernel_rfl)) (fun _ _ _ h => h) (Or.inl ⟨by rfl, ?_⟩) ?_ ?_
 rotate_left
 · intro w'
   go_simp
   with_reducible rfl
 rotate_left
 · simp only [Act.put, List.setIfInBounds_toArray, List.set_cons_zero, List.set_cons_succ, i64_w, i32_w]
   rfl
 refine pure_ (i := 1) (N := some 45) (v := ?_) (a' := ?_) #[true, true, false, false, false, false, false, false, false, false, false, false, false, false, false, false, false, false, false, false, false] rfl rfl (any_of HT_.out (by kernel_rfl)) (fun _ _ _ h => h) (Or.inl ⟨by rfl, ?_⟩) ?_ ?_
 rotate_left
 · intro w'
   go_simp
   with_reducible rfl
 rotate_left
 · simp only [Act.put, List.setIfInBounds_toArray, List.set_cons_zero, List.set_cons_succ, i64_w, i32_w]
   rfl
 refine pure_ (i := 2) (N := some 46) (v := ?_) (a' := ?_) #[true, true, true, false, false, false, false, false, false, false, false, false, false, false, false, false, false, false, false, false, false] rfl rfl (any_of HT_.out (by kernel_rfl)) (fun _ _ _ h => h) (Or.inl ⟨by rfl, ?_⟩) ?_ ?_
 rotate_left
 · intro w'
   go_simp
   with_reducible rfl
 rotate_left
 · simp only [Act.put, List.setIfInBounds_toArray, List.set_cons_zero, List.set_cons_succ, i64_w, i32_w]
   rfl
 refine pure_ (i := 3) (N := some 47) (v := ?_) (a' := ?_) #[true, true, true, true, false, false, false, false, false, false, false, false, false, false, false, false, false, false, false, false, false] rfl rfl (any_of HT_.out (by kernel_rfl)) (fun _ _ _ h => h) (Or.inl ⟨by rfl, ?_⟩) ?_ ?_
 rotate_left
 · intro w'
   go_simp
   with_reducible rfl
 rotate_left
 · simp only [Act.put, List.setIfInBounds_toArray, List.set_cons_zero, List.set_cons_succ, i64_w, i32_w]
   rfl
 refine pure_ (i := 4) (N := some 48) (v := ?_) (a' := ?_) #[true, true, true, true, true, false, false, false, false, false, false, false, false, false, false, false, false, false, false, false, false] rfl rfl (any_of HT_.out (by kernel_rfl)) (fun _ _ _ h => h) (Or.inl ⟨by rfl, ?_⟩) ?_ ?_
 rotate_left
 · intro w'
   go_simp
   with_reducible rfl
 rotate_left
 · simp only [Act.put, List.setIfInBounds_toArray, List.set_cons_zero, List.set_cons_succ, i64_w, i32_w]
   rfl
 refine pure_ (i := 6) (N := some 50) (v := ?_) (a' := ?_) #[true, true, true, true, true, false, true, false, false, false, false, false, false, false, false, false, false, false, false, false, false] rfl rfl (any_of HT_.out (by kernel_rfl)) (fun _ _ _ h => h) (Or.inl ⟨by rfl, ?_⟩) ?_ ?_
 rotate_left
 · intro w'
   go_simp
   with_reducible rfl
 rotate_left
 · simp only [Act.put, List.setIfInBounds_toArray, List.set_cons_zero, List.set_cons_succ, i64_w, i32_w]
   rfl
 refine pure_ (i := 7) (N := some 51) (v := ?_) (a' := ?_) #[true, true, true, true, true, false, true, true, false, false, false, false, false, false, false, false, false, false, false, false, false] rfl rfl (any_of HT_.out (by kernel_rfl)) (fun _ _ _ h => h) (Or.inl ⟨by rfl, ?_⟩) ?_ ?_
 rotate_left
 · intro w'
   go_simp
   with_reducible rfl
 rotate_left
 · simp only [Act.put, List.setIfInBounds_toArray, List.set_cons_zero, List.set_cons_succ, i64_w, i32_w]
   rfl
 refine pure_ (i := 8) (N := some 52) (v := ?_) (a' := ?_) #[true, true, true, true, true, false, true, true, true, false, false, false, false, false, false, false, false, false, false, false, false] rfl rfl (any_of HT_.out (by kernel_rfl)) (fun _ _ _ h => h) (Or.inl ⟨by rfl, ?_⟩) ?_ ?_
 rotate_left
 · intro w'
   go_simp
   with_reducible rfl
 rotate_left
 · simp only [Act.put, List.setIfInBounds_toArray, List.set_cons_zero, List.set_cons_succ, i64_w, i32_w]
   rfl
 refine pure_ (i := 10) (N := some 54) (v := ?_) (a' := ?_) #[true, true, true, true, true, false, true, true, true, false, true, false, false, false, false, false, false, false, false, false, false] rfl rfl (any_of HT_.out (by kernel_rfl)) (fun _ _ _ h => h) (Or.inl ⟨by rfl, ?_⟩) ?_ ?_
 rotate_left
 · intro w'
   go_simp
   with_reducible rfl
 rotate_left
 · simp only [Act.put, List.setIfInBounds_toArray, List.set_cons_zero, List.set_cons_succ, i64_w, i32_w]
   rfl
 refine pure_ (i := 13) (N := some 57) (v := ?_) (a' := ?_) #[true, true, true, true, true, false, true, true, true, false, true, false, false, true, false, false, false, false, false, false, false] rfl rfl (any_of HT_.out (by kernel_rfl)) (fun _ _ _ h => h) (Or.inl ⟨by rfl, ?_⟩) ?_ ?_
 rotate_left
 · intro w'
   go_simp
   with_reducible rfl
 rotate_left
 · simp only [Act.put, List.setIfInBounds_toArray, List.set_cons_zero, List.set_cons_succ, i64_w, i32_w]
   rfl
 refine pure_ (i := 14) (N := some 58) (v := ?_) (a' := ?_) #[true, true, true, true, true, false, true, true, true, false, true, false, false, true, true, false, false, false, false, false, false] rfl rfl (any_of HT_.out (by kernel_rfl)) (fun _ _ _ h => h) (Or.inl ⟨by rfl, ?_⟩) ?_ ?_
 rotate_left
 · intro w'
   go_simp
   with_reducible rfl
 rotate_left
 · simp only [Act.put, List.setIfInBounds_toArray, List.set_cons_zero, List.set_cons_succ, i64_w, i32_w]
   rfl
 refine pure_ (i := 15) (N := some 59) (v := ?_) (a' := ?_) #[true, true, true, true, true, false, true, true, true, false, true, false, false, true, true, true, false, false, false, false, false] rfl rfl (any_of HT_.out (by kernel_rfl)) (fun _ _ _ h => h) (Or.inl ⟨by rfl, ?_⟩) ?_ ?_
 rotate_left
 · intro w'
   go_simp
   with_reducible rfl
 rotate_left
 · simp only [Act.put, List.setIfInBounds_toArray, List.set_cons_zero, List.set_cons_succ, i64_w, i32_w]
   rfl
 refine take_ (i := 5) (N := some 49) (v := ?_) (a' := ?_) #[true, true, true, true, true, true, true, true, true, false, true, false, false, true, true, true, false, false, false, false, false] rfl rfl (take_ofW HT_.out HW_.out (by kernel_rfl)) (fun _ _ _ h => h) (Or.inl ⟨by rfl, ?_⟩) hHeld ?_ ?_
 rotate_left
 · rintro w' ⟨s0, s1, s2, s3⟩
   go_simp
   with_reducible rfl
 rotate_left
 · simp only [Act.put, List.setIfInBounds_toArray, List.set_cons_zero, List.set_cons_succ, i64_w, i32_w]
   rfl
 refine take_ (i := 9) (N := some 53) (v := ?_) (a' := ?_) #[true, true, true, true, true, true, true, true, true, true, true, false, false, true, true, true, false, false, false, false, false] rfl rfl (take_ofW HT_.out HW_.out (by kernel_rfl)) (fun _ _ _ h => h) (Or.inl ⟨by rfl, ?_⟩) hHeld ?_ ?_
 rotate_left
 · rintro w' ⟨s0, s1, s2, s3⟩
   go_simp
   with_reducible rfl
 rotate_left
 · simp only [Act.put, List.setIfInBounds_toArray, List.set_cons_zero, List.set_cons_succ, i64_w, i32_w]
   rfl
 refine pure_ (i := 11) (N := some 55) (v := ?_) (a' := ?_) #[true, true, true, true, true, true, true, true, true, true, true, true, false, true, true, true, false, false, false, false, false] rfl rfl (any_of HT_.out (by kernel_rfl)) (fun _ _ _ h => h) (Or.inl ⟨by rfl, ?_⟩) ?_ ?_
 rotate_left
 · intro w'
   go_simp
   with_reducible rfl
 rotate_left
 · simp only [Act.put, List.setIfInBounds_toArray, List.set_cons_zero, List.set_cons_succ, i64_w, i32_w]
   rfl
 refine take_ (i := 12) (N := some 56) (v := ?_) (a' := ?_) #[true, true, true, true, true, true, true, true, true, true, true, true, true, true, true, true, false, false, false, false, false] rfl rfl (take_ofW HT_.out HW_.out (by kernel_rfl)) (fun _ _ _ h => h) (Or.inl ⟨by rfl, ?_⟩) hHeld ?_ ?_
 rotate_left
 · rintro w' ⟨s0, s1, s2, s3⟩
   go_simp
   with_reducible rfl
 rotate_left
 · simp only [Act.put, List.setIfInBounds_toArray, List.set_cons_zero, List.set_cons_succ, i64_w, i32_w]
   rfl
 refine take_ (i := 16) (N := some 60) (v := ?_) (a' := ?_) #[true, true, true, true, true, true, true, true, true, true, true, true, true, true, true, true, true, false, false, false, false] rfl rfl (take_ofW HT_.out HW_.out (by kernel_rfl)) (fun _ _ _ h => h) (Or.inl ⟨by rfl, ?_⟩) hHeld ?_ ?_
 rotate_left
 · rintro w' ⟨s0, s1, s2, s3⟩
   go_simp
   with_reducible rfl
 rotate_left
 · simp only [Act.put, List.setIfInBounds_toArray, List.set_cons_zero, List.set_cons_succ, i64_w, i32_w]
   rfl
 refine pure_ (i := 17) (N := some 61) (v := ?_) (a' := ?_) #[true, true, true, true, true, true, true, true, true, true, true, true, true, true, true, true, true, true, false, false, false] rfl rfl (any_of HT_.out (by kernel_rfl)) (fun _ _ _ h => h) (Or.inl ⟨by rfl, ?_⟩) ?_ ?_
 rotate_left
 · intro w'
   go_simp
   with_reducible rfl
 rotate_left
 · simp only [Act.put, List.setIfInBounds_toArray, List.set_cons_zero, List.set_cons_succ, i64_w, i32_w]
   rfl
 refine one_ (i := 18) (N := some 62) #[true, true, true, true, true, true, true, true, true, true, true, true, true, true, true, true, true, true, true, false, false] rfl rfl (one_of HT_.out (by kernel_rfl)) (by decide) (fun K hK => ?_)
 refine goes_ Try.func92 (by kernel_rfl) rfl #[.int .i64 (rd x4_2 x5_1), .int .i64 (wrap64 ((rd (rd_L4 t101 x5_1) x6_2) + (rd x4_2 x6_2)))] (by rfl) rfl rfl (by (try simp only [List.map_toArray, List.map_cons, List.map_nil]); first | done | rfl | (simp only [List.length_drop, List.length_take]; rfl)) ?_
 with_reducible refine (spec_l1Most.calls (rd x4_2 x5_1) (wrap64 ((rd (rd_L4 t101 x5_1) x6_2) + (rd x4_2 x6_2))) t116 _ A24.out).mono ?_
 rintro e w' ⟨rfl, ⟨nd, rfl⟩⟩
 refine ⟨_, rfl, ?_⟩
 have p25 : 0 ≤ (x5_1 : Int) := zde (by assumption)
 have q25 : (x5_1 : Int) < ((x4_2.length : Int) : Int) := zde (by assumption)
 obtain ⟨hx25_0, hf25_0⟩ := Kd.R_celln 0 HO_4.out (x5_1 : Int) p25 q25
 replace p25 := eq_true p25
 replace q25 := eq_true q25
 have HP28 := Kd.R_putn HO_4.out (x5_1 : Int) t116
 rw [← Ny117.out] at HP28
 have HQ28 := zA HP28
 clear HP28
 refine hK.out _ _ ⟨hHeld.1, hHeld.2.1, hHeld.2.2.1, hHeld.2.2.2⟩ (fun hHeld => ?_)
 clear hK K
 refine norm_ (a' := ?_) ?_ ?_
 rotate_left
 · show Act.put _ (some 62) _ = _
   simp only [Act.put, List.setIfInBounds_toArray, List.set_cons_zero, List.set_cons_succ, i64_w, i32_w]
   rfl
 refine pure_ (i := 19) (N := some 63) (v := ?_) (a' := ?_) #[true, true, true, true, true, true, true, true, true, true, true, true, true, true, true, true, true, true, true, true, false] rfl rfl (any_of HT_.out (by kernel_rfl)) (fun _ _ _ h => h) (Or.inl ⟨by rfl, ?_⟩) ?_ ?_
 rotate_left
 · intro w'
   go_simp
   with_reducible rfl
 rotate_left
 · simp only [Act.put, List.setIfInBounds_toArray, List.set_cons_zero, List.set_cons_succ, i64_w, i32_w]
   rfl
 refine last_ (i := 20) (N := none) #[true, true, true, true, true, true, true, true, true, true, true, true, true, true, true, true, true, true, true, true, true] rfl rfl (one_of HT_.out (by kernel_rfl)) (by decide) (fun K hK => ?_)
 refine skip_ (w1 := ?_) (by rfl) rfl ?_ ?_
 rotate_left
 · go_simp
   rfl
 refine hK.out _ _ ?_
 clear hK K
 refine done_ (done_of HT_.out (by kernel_rfl)) ?_
 try go_wp2
 (try simp only [← hl4_2])
 go_roundg k2
 case measure => have := HK1.out; have := HK2.out; omega
 case rel => exact ⟨(y117), (wrap64 (x6_2 + 1)), (by first | rfl | (simp; done) | (simp [*]; done)), H', ⟨by have := HK1.out; have := HK2.out; omega⟩, ⟨by (try simp only [hl4_2]); (with_reducible repeat (first | apply zSa | apply zSn | apply zSd)); exact Kd.S_mono (Kd.S_far (p := ⟨go13, (x5_1 : Int).toNat, none⟩) (Kd.S_mono HO_3.out (fun k_ hk => (⟨hk, fun e_ => hk (by rw [e_]; rfl)⟩ : _ ∧ k_ ≠ go13))) (fun _ hk => hk.2) (.int .i64 t116)) (fun _ hk => hk.1)⟩, ⟨by (try simp only [hl4_2]); (with_reducible repeat (first | apply zRa | apply zRn | apply zRd)); exact HQ28.out⟩, ⟨by repeat (first | (with_reducible first | exact HB.out | apply zba | apply zbn | apply zbd | refine below_set ?_ GB13.out) | exact HB.out)⟩⟩
end Go.Proofs.Yteaablbhdmkcpaa.Q
end
section
namespace Go.Proofs.Yteaablbhdmkcpaa.Q
open Go.RowKit Go.Proofs.YteaablbhdmkcpaaW.PrintWords Go.Proofs.YteaablbhdmkcpaaW.PrintLast Go.Proofs.YteaablbhdmkcpaaW.PrintMore
attribute [local go_sem] max2_int min2_int max_two min_two max_three min_three max_four min_four
set_option linter.unusedVariables false
set_option linter.unusedSimpArgs false
def spec_orNone.l0 : Nat → Int → List Int → Option (List Int)
 | 0, _, _ => none
 | k + 1, x0, x3 => if x0 > 0 then (if x3.length < 17592186044416 then (spec_orNone.l0 k (wrap64 (x0 - 1)) (x3 ++ [(-1)])) else (none)) else (some x3)
def spec_orNone.f (k : Nat) (a0 : Int) : Option (List Int) := spec_orNone.l0 k a0 ([] : List Int)
theorem spec_orNone.mono_l : ∀ k, (∀ y0 y1, LeO (spec_orNone.l0 k y0 y1) (spec_orNone.l0 (k + 1) y0 y1))
 | 0 => fun _ _ r h => by simp [spec_orNone.l0] at h
 | k + 1 => by
   have ih0 := spec_orNone.mono_l k
   · intro y0 y1
     unfold spec_orNone.l0
     repeat' first
     | (with_reducible first | exact ih0 _ _ | exact LeO.refl _ | exact LeO.none _ | refine LeO.ite ?_ ?_ | refine LeO.bind ?_ (fun _ => ?_))
     | exact LeO.none _
     | refine LeO.ite ?_ ?_
     | refine LeO.bind ?_ (fun _ => ?_)
theorem spec_orNone.mono : ∀ a0 k, LeO (spec_orNone.f k a0) (spec_orNone.f (k + 1) a0) := by
 intro a0 k
 have ih0 := spec_orNone.mono_l k
 unfold spec_orNone.f
 repeat' first
     | (with_reducible first | exact ih0 _ _ | exact LeO.refl _ | exact LeO.none _ | refine LeO.ite ?_ ?_ | refine LeO.bind ?_ (fun _ => ?_))
     | exact LeO.none _
     | refine LeO.ite ?_ ?_
     | refine LeO.bind ?_ (fun _ => ?_)
set_option maxHeartbeats 8000000 in
set_option maxRecDepth 100000 in
theorem spec_orNone.calls (k : Nat) (a0 : Int) (r : List Int) (w : World) (h : spec_orNone.f k a0 = some r) :
   Calls Try.prog 98 #[.int .i64 a0] w fun e w' => ∃ v0_ : Value, e = .returned (v0_) ∧ Kd.R (Kd.int .i64) 3 w' w.heap.size (fun _ => True) v0_ r ∧ Below w.heap.size w w' := by
 have HB := zA (Below.refl w.heap.size w)
 have H : (spec_orNone.l0 k a0 ([] : List Int)) = some r := h
 clear h
 have H' := zA H
 clear H
 go_enter Try.func98, Try.ntmps98
 go_wp2
 go_loopg [0, 3] k (fun kq v0 v3 w' => ∃ (x0_1 : Int) (x3_1 : List Int), v0 = .int .i64 x0_1 ∧ Aside0 (spec_orNone.l0 kq x0_1 x3_1 = some r) ∧ Aside0 (kq ≤ k) ∧ Aside0 (Kd.R (Kd.int .i64) 3 w' w.heap.size (fun _ => True) v3 x3_1) ∧ Aside0 (Below w.heap.size w w'))
 case atStart => exact ⟨(a0), (([] : List Int)), (by first | rfl | (simp; done) | (simp [*]; done)), H', ⟨zlr _⟩, ⟨by first | exact Kd.R_nil _ _ _ _ _ | exact Kd.N_nil _ _ _ _ _ | exact Kd.V_nil _ _ _ _ _ | exact Kd.Q_nil _ _ _ _ _ | exact Kd.S_nil _ _ _ _ _⟩, ⟨by repeat (first | (with_reducible first | exact HB.out | apply zba | apply zbn | apply zbd) | exact HB.out)⟩⟩
 clear H'
 obtain ⟨x0_1, x3_1, rfl, HA, HK1, HO_3, HB⟩ := hrel
 cases gk with
 | zero => exact absurd HA.out (by simp [spec_orNone.l0])
 | succ k1 =>
 have H := HA.out
 clear HA
 simp only [spec_orNone.l0] at H
 by_cases c2 : x0_1 > 0
 rotate_left
 · rw [if_neg c2] at H
   have c2b0 : decide (0 < x0_1) = false := zdf c2
   clear c2
   obtain rfl := zsi H
   go_wp2
   go_ret
   exact ⟨_, by first | rfl | (simp [errW_none, errW_some] <;> rfl) | (simp [*, errW_none, errW_some] <;> rfl), by (with_reducible repeat (first | apply zRa | apply zRn | apply zRd)); exact HO_3.out, by repeat (first | (with_reducible first | exact HB.out | apply zba | apply zbn | apply zbd) | exact HB.out)⟩
 rw [if_pos c2] at H
 have c2b0 : decide (0 < x0_1) = true := zdt c2
 clear c2
 by_cases c3 : x3_1.length < 17592186044416
 rotate_left
 · rw [if_neg c3] at H
   exact absurd H (by simp)
 rw [if_pos c3] at H
 have LMc3 := zA c3
 clear c3
 obtain ⟨y101, hy101⟩ : ∃ y_ : List Int, y_ = (x3_1 ++ [(-1)]) := ⟨_, rfl⟩
 replace H : (spec_orNone.l0 k1 (wrap64 (x0_1 - 1)) y101) = some r := by first | (rw [hy101]; with_reducible exact H) | (have H2_ := (Option.bind_some _ _).symm.trans H; rw [hy101]; with_reducible exact H2_) | (have H2_ := (Option.bind_some _ _).symm.trans H; with_reducible exact H2_) | with_reducible exact H | (rw [hy101]; exact H) | exact H
 have Ny101 := zA hy101
 clear hy101
 have H' := zA H
 clear H
 go_wp2_with (first | ((with_reducible refine gate_builtin (b := .append) (xs := #[.tmp 8, .tmp 9]) rfl ?_); at_builtin; refine Kd.R_append (Kd.int .i64) (w0 := w) w.heap.size rfl (.tmp 8) (.tmp 9) 34 3 (.int .i64 0) 8 rfl Try.underlying34 info3 rfl (by decide) (by omega) u3 x3_1 (-1) [.int .i64 (-1)] (fun _ => True) (fun _ => False) rfl rfl ?aP (fun _ hk => hk.elim) ?aF ?aO ?aB ?aS ?aL ?_; (case aP => exact rfl); (case aB => exact (by repeat (first | (with_reducible first | exact HB.out | apply zba | apply zbn | apply zbd) | exact HB.out))); (case aF => exact (fun _ _ => trivial)); (case aO => exact (by (with_reducible repeat (first | apply zRa | apply zRn | apply zRd)); exact HO_3.out)); (case aS => exact (below_size (by repeat (first | (with_reducible first | exact HB.out | apply zba | apply zbn | apply zbd) | exact HB.out)))); (case aL => have := LMc3.out; omega); intro v102 w4 ho hb hg hat; rw [← Ny101.out] at ho; have n0_ := zA (hb); have n1_ := zA (ho); clear HB HO_3; have HB := n0_; have HO103 := n1_; clear n0_ n1_; clear ho hb hg hat))
 go_roundg k1
 case measure => have := HK1.out; omega
 case rel => exact ⟨(wrap64 (x0_1 - 1)), (y101), (by first | rfl | (simp; done) | (simp [*]; done)), H', ⟨by have := HK1.out; omega⟩, ⟨by (with_reducible repeat (first | apply zRa | apply zRn | apply zRd)); exact HO103.out⟩, ⟨by repeat (first | (with_reducible first | exact HB.out | apply zba | apply zbn | apply zbd) | exact HB.out)⟩⟩
end Go.Proofs.Yteaablbhdmkcpaa.Q
end
