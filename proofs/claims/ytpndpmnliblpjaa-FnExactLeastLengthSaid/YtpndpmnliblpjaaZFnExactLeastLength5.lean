/- Proved here: contracts of functions that the law FnExactLeastLength reaches, and lemmas on what they compute; texts of this session and the printed words of the kit that they lean on, cut down and put together by its program link.py. Conditions: as each states. -/
import Derived.Carry
import Derived.Deep.Slices
import Derived.ProofKit
import Derived.Test.YtpndpmnliblpjaaZFnExactLeastLength1
import Derived.Test.YtpndpmnliblpjaaZFnExactLeastLength2
import Derived.Test.YtpndpmnliblpjaaZFnExactLeastLength3
import Derived.Test.YtpndpmnliblpjaaZFnExactLeastLength4
section
namespace Go.Proofs.Ytpndpmnliblpjaa.Q
open Go.RowKit Go.Proofs.YtpndpmnliblpjaaW.PrintWords Go.Proofs.YtpndpmnliblpjaaW.PrintLast Go.Proofs.YtpndpmnliblpjaaW.PrintMore
attribute [local go_sem] max2_int min2_int max_two min_two max_three min_three max_four min_four
set_option linter.unusedVariables false
set_option linter.unusedSimpArgs false
def spec_cdReg.f (a0 : Int) : Option (Bool) := (spec_l1In.f a0 0 5).bind fun t101 => (some t101)
set_option maxHeartbeats 8000000 in
set_option maxRecDepth 100000 in
theorem spec_cdReg.calls (a0 : Int) (r : Bool) (w : World) (h : spec_cdReg.f a0 = some r) :
   Calls Try.prog 61 #[.int .i64 a0] w fun e w' => e = .returned (.bool r) ∧ Drawn0 w w' := by
 have H : ((spec_l1In.f a0 0 5).bind fun t101 => (some t101)) = some r := h
 clear h
 replace H := zob H
 obtain ⟨t101, A20, H⟩ := H
 replace H : (some t101) = some r := H
 have A2 := zA A20
 clear A20
 obtain rfl := zsi H
 go_enter Try.func61, Try.ntmps61
 go_wp2_with (first | ((with_reducible refine gate_callee (f := 60) rfl ?_); refine goesL_ (some 4) rfl rfl Try.func60 (by kernel_rfl) rfl #[.int .i64 a0, .int .i64 0, .int .i64 5] rfl (by (try simp only [List.map_toArray, List.map_cons, List.map_nil]); first | done | rfl | (simp only [List.length_drop, List.length_take]; rfl)) ?_; (with_reducible refine (spec_l1In.calls a0 0 5 t101 _ A2.out).mono ?_); rintro e w' ⟨rfl, ⟨nd, rfl⟩⟩; refine ⟨_, rfl, ?_⟩))
 go_ret
 exact ⟨by first | rfl | (simp; done) | (simp [*]; done), by repeat (first | exact Drawn0.refl _ | apply Drawn0.step)⟩
def spec_cdGood.f (k : Nat) (a0_0 : ByteArray) (a0_1 : Int) (a0_2 : Int) (a0_3 : Int) (a0_4 : Int) : Option (Bool) := (spec_cdShape.f k a0_0).bind fun bt102 => (if bt102.1 = true then ((spec_cdReg.f a0_1).bind fun t107 => (if t107 = true then ((spec_cdReg.f a0_2).bind fun t108 => (if t108 = true then ((spec_cdReg.f a0_3).bind fun t109 => (if t109 = true then ((spec_l1In.f a0_4 bt102.2.2.2.1 bt102.2.2.2.2).bind fun t110 => (if t110 = true then (if bt102.2.1 = true then (if bt102.2.2.1 = true then (some true) else (some (a0_3 == 0))) else (if a0_2 = 0 then (if bt102.2.2.1 = true then (some true) else (some (a0_3 == 0))) else (some false))) else (some false))) else (some false))) else (some false))) else (some false))) else (some false))
theorem spec_cdGood.mono : ∀ a0 a1 a2 a3 a4 k, LeO (spec_cdGood.f k a0 a1 a2 a3 a4) (spec_cdGood.f (k + 1) a0 a1 a2 a3 a4) := by
 intro a0 a1 a2 a3 a4 k
 unfold spec_cdGood.f
 repeat' first
     | (with_reducible first | exact spec_cdShape.mono _ _ | exact LeO.refl _ | exact LeO.none _ | refine LeO.ite ?_ ?_ | refine LeO.bind ?_ (fun _ => ?_))
     | exact LeO.none _
     | refine LeO.ite ?_ ?_
     | refine LeO.bind ?_ (fun _ => ?_)
set_option maxHeartbeats 8000000 in
set_option maxRecDepth 100000 in
theorem spec_cdGood.calls (k : Nat) (a0_0 : ByteArray) (a0_1 : Int) (a0_2 : Int) (a0_3 : Int) (a0_4 : Int) (r : Bool) (w : World) (h : spec_cdGood.f k a0_0 a0_1 a0_2 a0_3 a0_4 = some r) :
   Calls Try.prog 157 #[.agg #[.string a0_0, .int .i64 a0_1, .int .i64 a0_2, .int .i64 a0_3, .int .i64 a0_4]] w fun e w' => e = .returned (.bool r) ∧ Below w.heap.size w w' := by
 have hu73 := Try.underlying73
 have HB := zA (Below.refl w.heap.size w)
 have H : ((spec_cdShape.f k a0_0).bind fun bt102 => (if bt102.1 = true then ((spec_cdReg.f a0_1).bind fun t107 => (if t107 = true then ((spec_cdReg.f a0_2).bind fun t108 => (if t108 = true then ((spec_cdReg.f a0_3).bind fun t109 => (if t109 = true then ((spec_l1In.f a0_4 bt102.2.2.2.1 bt102.2.2.2.2).bind fun t110 => (if t110 = true then (if bt102.2.1 = true then (if bt102.2.2.1 = true then (some true) else (some (a0_3 == 0))) else (if a0_2 = 0 then (if bt102.2.2.1 = true then (some true) else (some (a0_3 == 0))) else (some false))) else (some false))) else (some false))) else (some false))) else (some false))) else (some false))) = some r := h
 clear h
 replace H := zob H
 obtain ⟨⟨t102, t103, t104, t105, t106⟩, A20, H⟩ := H
 replace H : (if t102 = true then ((spec_cdReg.f a0_1).bind fun t107 => (if t107 = true then ((spec_cdReg.f a0_2).bind fun t108 => (if t108 = true then ((spec_cdReg.f a0_3).bind fun t109 => (if t109 = true then ((spec_l1In.f a0_4 t105 t106).bind fun t110 => (if t110 = true then (if t103 = true then (if t104 = true then (some true) else (some (a0_3 == 0))) else (if a0_2 = 0 then (if t104 = true then (some true) else (some (a0_3 == 0))) else (some false))) else (some false))) else (some false))) else (some false))) else (some false))) else (some false)) = some r := H
 have A2 := zA A20
 clear A20
 by_cases c3 : t102 = true
 rotate_left
 · replace c3 := zbf c3
   subst c3
   replace H : (some false) = some r := by rw [if_neg (show ¬ (false = true) by decide)] at H; exact H
   obtain rfl := zsi H
   go_enter Try.func157, Try.ntmps157
   go_wp2_with (first | ((with_reducible refine gate_dst (N := 1) rfl ?_); refine box_event ?hg (N := 1) ?hd (cs := #[.string a0_0, .int .i64 a0_1, .int .i64 a0_2, .int .i64 a0_3, .int .i64 a0_4]) (t := 73) ?hr ?_; (case hd => rfl); (case hg => rfl); (case hr => go_simp <;> rfl); intro gb101 hg w34 hbox hb; have zs := zpair (by repeat (first | (with_reducible first | exact HB.out | apply zba | apply zbn | apply zbd) | exact HB.out)) hb; have n0_ := zA (zs.1); have n1_ := zA (hbox); have n2_ := zA ((by rw [hg]; exact zs.2 : w.heap.size ≤ gb101)); have n3_ := n2_; clear HB; have HB := n0_; have BK101 := n1_; have GW101 := n2_; have GE101 := n3_; clear n0_ n1_ n2_ n3_; clear zs hb hbox hg; obtain ⟨hcz35_0, hcz35_1, hcz35_2, hcz35_3, hcz35_4⟩ := zc5 w34 (.string a0_0) (.int .i64 a0_1) (.int .i64 a0_2) (.int .i64 a0_3) (.int .i64 a0_4) BK101.out; obtain ⟨hfz35_0, hfz35_1, hfz35_2, hfz35_3, hfz35_4⟩ := zf5 BK101.out) | ((with_reducible refine gate_callee (f := 142) rfl ?_); refine goesL_ (some 11) rfl rfl Try.func142 (by kernel_rfl) rfl #[.string a0_0] rfl (by (try simp only [List.map_toArray, List.map_cons, List.map_nil]); first | done | rfl | (simp only [List.length_drop, List.length_take]; rfl)) ?_; (with_reducible refine (spec_cdShape.calls k a0_0 false t103 t104 t105 t106 _ A2.out).mono ?_); rintro e w' ⟨rfl, ⟨nd, rfl⟩⟩; refine ⟨_, rfl, ?_⟩))
   go_ret
   exact ⟨by first | rfl | (simp [errW_none, errW_some] <;> rfl) | (simp [*, errW_none, errW_some] <;> rfl), by repeat (first | (with_reducible first | exact HB.out | apply zba | apply zbn | apply zbd | refine below_set ?_ GE101.out) | exact HB.out)⟩
 subst c3
 replace H : ((spec_cdReg.f a0_1).bind fun t107 => (if t107 = true then ((spec_cdReg.f a0_2).bind fun t108 => (if t108 = true then ((spec_cdReg.f a0_3).bind fun t109 => (if t109 = true then ((spec_l1In.f a0_4 t105 t106).bind fun t110 => (if t110 = true then (if t103 = true then (if t104 = true then (some true) else (some (a0_3 == 0))) else (if a0_2 = 0 then (if t104 = true then (some true) else (some (a0_3 == 0))) else (some false))) else (some false))) else (some false))) else (some false))) else (some false))) = some r := by rw [if_pos rfl] at H; exact H
 replace H := zob H
 obtain ⟨t107, A40, H⟩ := H
 replace H : (if t107 = true then ((spec_cdReg.f a0_2).bind fun t108 => (if t108 = true then ((spec_cdReg.f a0_3).bind fun t109 => (if t109 = true then ((spec_l1In.f a0_4 t105 t106).bind fun t110 => (if t110 = true then (if t103 = true then (if t104 = true then (some true) else (some (a0_3 == 0))) else (if a0_2 = 0 then (if t104 = true then (some true) else (some (a0_3 == 0))) else (some false))) else (some false))) else (some false))) else (some false))) else (some false)) = some r := H
 have A4 := zA A40
 clear A40
 by_cases c5 : t107 = true
 rotate_left
 · replace c5 := zbf c5
   subst c5
   replace H : (some false) = some r := by rw [if_neg (show ¬ (false = true) by decide)] at H; exact H
   obtain rfl := zsi H
   go_enter Try.func157, Try.ntmps157
   go_wp2_with (first | ((with_reducible refine gate_dst (N := 1) rfl ?_); refine box_event ?hg (N := 1) ?hd (cs := #[.string a0_0, .int .i64 a0_1, .int .i64 a0_2, .int .i64 a0_3, .int .i64 a0_4]) (t := 73) ?hr ?_; (case hd => rfl); (case hg => rfl); (case hr => go_simp <;> rfl); intro gb101 hg w32 hbox hb; have zs := zpair (by repeat (first | (with_reducible first | exact HB.out | apply zba | apply zbn | apply zbd) | exact HB.out)) hb; have n0_ := zA (zs.1); have n1_ := zA (hbox); have n2_ := zA ((by rw [hg]; exact zs.2 : w.heap.size ≤ gb101)); have n3_ := n2_; clear HB; have HB := n0_; have BK101 := n1_; have GW101 := n2_; have GE101 := n3_; clear n0_ n1_ n2_ n3_; clear zs hb hbox hg; obtain ⟨hcz33_0, hcz33_1, hcz33_2, hcz33_3, hcz33_4⟩ := zc5 w32 (.string a0_0) (.int .i64 a0_1) (.int .i64 a0_2) (.int .i64 a0_3) (.int .i64 a0_4) BK101.out; obtain ⟨hfz33_0, hfz33_1, hfz33_2, hfz33_3, hfz33_4⟩ := zf5 BK101.out) | ((with_reducible refine gate_callee (f := 142) rfl ?_); refine goesL_ (some 11) rfl rfl Try.func142 (by kernel_rfl) rfl #[.string a0_0] rfl (by (try simp only [List.map_toArray, List.map_cons, List.map_nil]); first | done | rfl | (simp only [List.length_drop, List.length_take]; rfl)) ?_; (with_reducible refine (spec_cdShape.calls k a0_0 true t103 t104 t105 t106 _ A2.out).mono ?_); rintro e w' ⟨rfl, ⟨nd, rfl⟩⟩; refine ⟨_, rfl, ?_⟩) | (go_at_call 61; (with_reducible refine (spec_cdReg.calls a0_1 false _ A4.out).mono ?_); rintro e w' ⟨rfl, ⟨nd, rfl⟩⟩))
   go_ret
   exact ⟨by first | rfl | (simp [errW_none, errW_some] <;> rfl) | (simp [*, errW_none, errW_some] <;> rfl), by repeat (first | (with_reducible first | exact HB.out | apply zba | apply zbn | apply zbd | refine below_set ?_ GE101.out) | exact HB.out)⟩
 subst c5
 replace H : ((spec_cdReg.f a0_2).bind fun t108 => (if t108 = true then ((spec_cdReg.f a0_3).bind fun t109 => (if t109 = true then ((spec_l1In.f a0_4 t105 t106).bind fun t110 => (if t110 = true then (if t103 = true then (if t104 = true then (some true) else (some (a0_3 == 0))) else (if a0_2 = 0 then (if t104 = true then (some true) else (some (a0_3 == 0))) else (some false))) else (some false))) else (some false))) else (some false))) = some r := by rw [if_pos rfl] at H; exact H
 replace H := zob H
 obtain ⟨t108, A60, H⟩ := H
 replace H : (if t108 = true then ((spec_cdReg.f a0_3).bind fun t109 => (if t109 = true then ((spec_l1In.f a0_4 t105 t106).bind fun t110 => (if t110 = true then (if t103 = true then (if t104 = true then (some true) else (some (a0_3 == 0))) else (if a0_2 = 0 then (if t104 = true then (some true) else (some (a0_3 == 0))) else (some false))) else (some false))) else (some false))) else (some false)) = some r := H
 have A6 := zA A60
 clear A60
 by_cases c7 : t108 = true
 rotate_left
 · replace c7 := zbf c7
   subst c7
   replace H : (some false) = some r := by rw [if_neg (show ¬ (false = true) by decide)] at H; exact H
   obtain rfl := zsi H
   go_enter Try.func157, Try.ntmps157
   go_wp2_with (first | ((with_reducible refine gate_dst (N := 1) rfl ?_); refine box_event ?hg (N := 1) ?hd (cs := #[.string a0_0, .int .i64 a0_1, .int .i64 a0_2, .int .i64 a0_3, .int .i64 a0_4]) (t := 73) ?hr ?_; (case hd => rfl); (case hg => rfl); (case hr => go_simp <;> rfl); intro gb101 hg w30 hbox hb; have zs := zpair (by repeat (first | (with_reducible first | exact HB.out | apply zba | apply zbn | apply zbd) | exact HB.out)) hb; have n0_ := zA (zs.1); have n1_ := zA (hbox); have n2_ := zA ((by rw [hg]; exact zs.2 : w.heap.size ≤ gb101)); have n3_ := n2_; clear HB; have HB := n0_; have BK101 := n1_; have GW101 := n2_; have GE101 := n3_; clear n0_ n1_ n2_ n3_; clear zs hb hbox hg; obtain ⟨hcz31_0, hcz31_1, hcz31_2, hcz31_3, hcz31_4⟩ := zc5 w30 (.string a0_0) (.int .i64 a0_1) (.int .i64 a0_2) (.int .i64 a0_3) (.int .i64 a0_4) BK101.out; obtain ⟨hfz31_0, hfz31_1, hfz31_2, hfz31_3, hfz31_4⟩ := zf5 BK101.out) | ((with_reducible refine gate_callee (f := 142) rfl ?_); refine goesL_ (some 11) rfl rfl Try.func142 (by kernel_rfl) rfl #[.string a0_0] rfl (by (try simp only [List.map_toArray, List.map_cons, List.map_nil]); first | done | rfl | (simp only [List.length_drop, List.length_take]; rfl)) ?_; (with_reducible refine (spec_cdShape.calls k a0_0 true t103 t104 t105 t106 _ A2.out).mono ?_); rintro e w' ⟨rfl, ⟨nd, rfl⟩⟩; refine ⟨_, rfl, ?_⟩) | (go_at_call 61; (with_reducible refine (spec_cdReg.calls a0_1 true _ A4.out).mono ?_); rintro e w' ⟨rfl, ⟨nd, rfl⟩⟩) | (go_at_call 61; (with_reducible refine (spec_cdReg.calls a0_2 false _ A6.out).mono ?_); rintro e w' ⟨rfl, ⟨nd, rfl⟩⟩))
   go_ret
   exact ⟨by first | rfl | (simp [errW_none, errW_some] <;> rfl) | (simp [*, errW_none, errW_some] <;> rfl), by repeat (first | (with_reducible first | exact HB.out | apply zba | apply zbn | apply zbd | refine below_set ?_ GE101.out) | exact HB.out)⟩
 subst c7
 replace H : ((spec_cdReg.f a0_3).bind fun t109 => (if t109 = true then ((spec_l1In.f a0_4 t105 t106).bind fun t110 => (if t110 = true then (if t103 = true then (if t104 = true then (some true) else (some (a0_3 == 0))) else (if a0_2 = 0 then (if t104 = true then (some true) else (some (a0_3 == 0))) else (some false))) else (some false))) else (some false))) = some r := by rw [if_pos rfl] at H; exact H
 replace H := zob H
 obtain ⟨t109, A80, H⟩ := H
 replace H : (if t109 = true then ((spec_l1In.f a0_4 t105 t106).bind fun t110 => (if t110 = true then (if t103 = true then (if t104 = true then (some true) else (some (a0_3 == 0))) else (if a0_2 = 0 then (if t104 = true then (some true) else (some (a0_3 == 0))) else (some false))) else (some false))) else (some false)) = some r := H
 have A8 := zA A80
 clear A80
 by_cases c9 : t109 = true
 rotate_left
 · replace c9 := zbf c9
   subst c9
   replace H : (some false) = some r := by rw [if_neg (show ¬ (false = true) by decide)] at H; exact H
   obtain rfl := zsi H
   go_enter Try.func157, Try.ntmps157
   go_wp2_with (first | ((with_reducible refine gate_dst (N := 1) rfl ?_); refine box_event ?hg (N := 1) ?hd (cs := #[.string a0_0, .int .i64 a0_1, .int .i64 a0_2, .int .i64 a0_3, .int .i64 a0_4]) (t := 73) ?hr ?_; (case hd => rfl); (case hg => rfl); (case hr => go_simp <;> rfl); intro gb101 hg w28 hbox hb; have zs := zpair (by repeat (first | (with_reducible first | exact HB.out | apply zba | apply zbn | apply zbd) | exact HB.out)) hb; have n0_ := zA (zs.1); have n1_ := zA (hbox); have n2_ := zA ((by rw [hg]; exact zs.2 : w.heap.size ≤ gb101)); have n3_ := n2_; clear HB; have HB := n0_; have BK101 := n1_; have GW101 := n2_; have GE101 := n3_; clear n0_ n1_ n2_ n3_; clear zs hb hbox hg; obtain ⟨hcz29_0, hcz29_1, hcz29_2, hcz29_3, hcz29_4⟩ := zc5 w28 (.string a0_0) (.int .i64 a0_1) (.int .i64 a0_2) (.int .i64 a0_3) (.int .i64 a0_4) BK101.out; obtain ⟨hfz29_0, hfz29_1, hfz29_2, hfz29_3, hfz29_4⟩ := zf5 BK101.out) | ((with_reducible refine gate_callee (f := 142) rfl ?_); refine goesL_ (some 11) rfl rfl Try.func142 (by kernel_rfl) rfl #[.string a0_0] rfl (by (try simp only [List.map_toArray, List.map_cons, List.map_nil]); first | done | rfl | (simp only [List.length_drop, List.length_take]; rfl)) ?_; (with_reducible refine (spec_cdShape.calls k a0_0 true t103 t104 t105 t106 _ A2.out).mono ?_); rintro e w' ⟨rfl, ⟨nd, rfl⟩⟩; refine ⟨_, rfl, ?_⟩) | (go_at_call 61; (with_reducible refine (spec_cdReg.calls a0_1 true _ A4.out).mono ?_); rintro e w' ⟨rfl, ⟨nd, rfl⟩⟩) | (go_at_call 61; (with_reducible refine (spec_cdReg.calls a0_2 true _ A6.out).mono ?_); rintro e w' ⟨rfl, ⟨nd, rfl⟩⟩) | (go_at_call 61; (with_reducible refine (spec_cdReg.calls a0_3 false _ A8.out).mono ?_); rintro e w' ⟨rfl, ⟨nd, rfl⟩⟩))
   go_ret
   exact ⟨by first | rfl | (simp [errW_none, errW_some] <;> rfl) | (simp [*, errW_none, errW_some] <;> rfl), by repeat (first | (with_reducible first | exact HB.out | apply zba | apply zbn | apply zbd | refine below_set ?_ GE101.out) | exact HB.out)⟩
 subst c9
 replace H : ((spec_l1In.f a0_4 t105 t106).bind fun t110 => (if t110 = true then (if t103 = true then (if t104 = true then (some true) else (some (a0_3 == 0))) else (if a0_2 = 0 then (if t104 = true then (some true) else (some (a0_3 == 0))) else (some false))) else (some false))) = some r := by rw [if_pos rfl] at H; exact H
 replace H := zob H
 obtain ⟨t110, A100, H⟩ := H
 replace H : (if t110 = true then (if t103 = true then (if t104 = true then (some true) else (some (a0_3 == 0))) else (if a0_2 = 0 then (if t104 = true then (some true) else (some (a0_3 == 0))) else (some false))) else (some false)) = some r := H
 have A10 := zA A100
 clear A100
 by_cases c11 : t110 = true
 rotate_left
 · replace c11 := zbf c11
   subst c11
   replace H : (some false) = some r := by rw [if_neg (show ¬ (false = true) by decide)] at H; exact H
   obtain rfl := zsi H
   go_enter Try.func157, Try.ntmps157
   go_wp2_with (first | ((with_reducible refine gate_dst (N := 1) rfl ?_); refine box_event ?hg (N := 1) ?hd (cs := #[.string a0_0, .int .i64 a0_1, .int .i64 a0_2, .int .i64 a0_3, .int .i64 a0_4]) (t := 73) ?hr ?_; (case hd => rfl); (case hg => rfl); (case hr => go_simp <;> rfl); intro gb101 hg w26 hbox hb; have zs := zpair (by repeat (first | (with_reducible first | exact HB.out | apply zba | apply zbn | apply zbd) | exact HB.out)) hb; have n0_ := zA (zs.1); have n1_ := zA (hbox); have n2_ := zA ((by rw [hg]; exact zs.2 : w.heap.size ≤ gb101)); have n3_ := n2_; clear HB; have HB := n0_; have BK101 := n1_; have GW101 := n2_; have GE101 := n3_; clear n0_ n1_ n2_ n3_; clear zs hb hbox hg; obtain ⟨hcz27_0, hcz27_1, hcz27_2, hcz27_3, hcz27_4⟩ := zc5 w26 (.string a0_0) (.int .i64 a0_1) (.int .i64 a0_2) (.int .i64 a0_3) (.int .i64 a0_4) BK101.out; obtain ⟨hfz27_0, hfz27_1, hfz27_2, hfz27_3, hfz27_4⟩ := zf5 BK101.out) | ((with_reducible refine gate_callee (f := 142) rfl ?_); refine goesL_ (some 11) rfl rfl Try.func142 (by kernel_rfl) rfl #[.string a0_0] rfl (by (try simp only [List.map_toArray, List.map_cons, List.map_nil]); first | done | rfl | (simp only [List.length_drop, List.length_take]; rfl)) ?_; (with_reducible refine (spec_cdShape.calls k a0_0 true t103 t104 t105 t106 _ A2.out).mono ?_); rintro e w' ⟨rfl, ⟨nd, rfl⟩⟩; refine ⟨_, rfl, ?_⟩) | (go_at_call 61; (with_reducible refine (spec_cdReg.calls a0_1 true _ A4.out).mono ?_); rintro e w' ⟨rfl, ⟨nd, rfl⟩⟩) | (go_at_call 61; (with_reducible refine (spec_cdReg.calls a0_2 true _ A6.out).mono ?_); rintro e w' ⟨rfl, ⟨nd, rfl⟩⟩) | (go_at_call 61; (with_reducible refine (spec_cdReg.calls a0_3 true _ A8.out).mono ?_); rintro e w' ⟨rfl, ⟨nd, rfl⟩⟩) | (go_at_call 60; (with_reducible refine (spec_l1In.calls a0_4 t105 t106 false _ A10.out).mono ?_); rintro e w' ⟨rfl, ⟨nd, rfl⟩⟩))
   go_ret
   exact ⟨by first | rfl | (simp [errW_none, errW_some] <;> rfl) | (simp [*, errW_none, errW_some] <;> rfl), by repeat (first | (with_reducible first | exact HB.out | apply zba | apply zbn | apply zbd | refine below_set ?_ GE101.out) | exact HB.out)⟩
 subst c11
 replace H : (if t103 = true then (if t104 = true then (some true) else (some (a0_3 == 0))) else (if a0_2 = 0 then (if t104 = true then (some true) else (some (a0_3 == 0))) else (some false))) = some r := by rw [if_pos rfl] at H; exact H
 by_cases c12 : t103 = true
 · subst c12
   replace H : (if t104 = true then (some true) else (some (a0_3 == 0))) = some r := by rw [if_pos rfl] at H; exact H
   by_cases c13 : t104 = true
   · subst c13
     replace H : (some true) = some r := by rw [if_pos rfl] at H; exact H
     obtain rfl := zsi H
     go_enter Try.func157, Try.ntmps157
     go_wp2_with (first | ((with_reducible refine gate_dst (N := 1) rfl ?_); refine box_event ?hg (N := 1) ?hd (cs := #[.string a0_0, .int .i64 a0_1, .int .i64 a0_2, .int .i64 a0_3, .int .i64 a0_4]) (t := 73) ?hr ?_; (case hd => rfl); (case hg => rfl); (case hr => go_simp <;> rfl); intro gb101 hg w14 hbox hb; have zs := zpair (by repeat (first | (with_reducible first | exact HB.out | apply zba | apply zbn | apply zbd) | exact HB.out)) hb; have n0_ := zA (zs.1); have n1_ := zA (hbox); have n2_ := zA ((by rw [hg]; exact zs.2 : w.heap.size ≤ gb101)); have n3_ := n2_; clear HB; have HB := n0_; have BK101 := n1_; have GW101 := n2_; have GE101 := n3_; clear n0_ n1_ n2_ n3_; clear zs hb hbox hg; obtain ⟨hcz15_0, hcz15_1, hcz15_2, hcz15_3, hcz15_4⟩ := zc5 w14 (.string a0_0) (.int .i64 a0_1) (.int .i64 a0_2) (.int .i64 a0_3) (.int .i64 a0_4) BK101.out; obtain ⟨hfz15_0, hfz15_1, hfz15_2, hfz15_3, hfz15_4⟩ := zf5 BK101.out) | ((with_reducible refine gate_callee (f := 142) rfl ?_); refine goesL_ (some 11) rfl rfl Try.func142 (by kernel_rfl) rfl #[.string a0_0] rfl (by (try simp only [List.map_toArray, List.map_cons, List.map_nil]); first | done | rfl | (simp only [List.length_drop, List.length_take]; rfl)) ?_; (with_reducible refine (spec_cdShape.calls k a0_0 true true true t105 t106 _ A2.out).mono ?_); rintro e w' ⟨rfl, ⟨nd, rfl⟩⟩; refine ⟨_, rfl, ?_⟩) | (go_at_call 61; (with_reducible refine (spec_cdReg.calls a0_1 true _ A4.out).mono ?_); rintro e w' ⟨rfl, ⟨nd, rfl⟩⟩) | (go_at_call 61; (with_reducible refine (spec_cdReg.calls a0_2 true _ A6.out).mono ?_); rintro e w' ⟨rfl, ⟨nd, rfl⟩⟩) | (go_at_call 61; (with_reducible refine (spec_cdReg.calls a0_3 true _ A8.out).mono ?_); rintro e w' ⟨rfl, ⟨nd, rfl⟩⟩) | (go_at_call 60; (with_reducible refine (spec_l1In.calls a0_4 t105 t106 true _ A10.out).mono ?_); rintro e w' ⟨rfl, ⟨nd, rfl⟩⟩))
     go_ret
     exact ⟨by first | rfl | (simp [errW_none, errW_some] <;> rfl) | (simp [*, errW_none, errW_some] <;> rfl), by repeat (first | (with_reducible first | exact HB.out | apply zba | apply zbn | apply zbd | refine below_set ?_ GE101.out) | exact HB.out)⟩
   replace c13 := zbf c13
   subst c13
   replace H : (some (a0_3 == 0)) = some r := by rw [if_neg (show ¬ (false = true) by decide)] at H; exact H
   obtain rfl := zsi H
   go_enter Try.func157, Try.ntmps157
   go_wp2_with (first | ((with_reducible refine gate_dst (N := 1) rfl ?_); refine box_event ?hg (N := 1) ?hd (cs := #[.string a0_0, .int .i64 a0_1, .int .i64 a0_2, .int .i64 a0_3, .int .i64 a0_4]) (t := 73) ?hr ?_; (case hd => rfl); (case hg => rfl); (case hr => go_simp <;> rfl); intro gb101 hg w16 hbox hb; have zs := zpair (by repeat (first | (with_reducible first | exact HB.out | apply zba | apply zbn | apply zbd) | exact HB.out)) hb; have n0_ := zA (zs.1); have n1_ := zA (hbox); have n2_ := zA ((by rw [hg]; exact zs.2 : w.heap.size ≤ gb101)); have n3_ := n2_; clear HB; have HB := n0_; have BK101 := n1_; have GW101 := n2_; have GE101 := n3_; clear n0_ n1_ n2_ n3_; clear zs hb hbox hg; obtain ⟨hcz17_0, hcz17_1, hcz17_2, hcz17_3, hcz17_4⟩ := zc5 w16 (.string a0_0) (.int .i64 a0_1) (.int .i64 a0_2) (.int .i64 a0_3) (.int .i64 a0_4) BK101.out; obtain ⟨hfz17_0, hfz17_1, hfz17_2, hfz17_3, hfz17_4⟩ := zf5 BK101.out) | ((with_reducible refine gate_callee (f := 142) rfl ?_); refine goesL_ (some 11) rfl rfl Try.func142 (by kernel_rfl) rfl #[.string a0_0] rfl (by (try simp only [List.map_toArray, List.map_cons, List.map_nil]); first | done | rfl | (simp only [List.length_drop, List.length_take]; rfl)) ?_; (with_reducible refine (spec_cdShape.calls k a0_0 true true false t105 t106 _ A2.out).mono ?_); rintro e w' ⟨rfl, ⟨nd, rfl⟩⟩; refine ⟨_, rfl, ?_⟩) | (go_at_call 61; (with_reducible refine (spec_cdReg.calls a0_1 true _ A4.out).mono ?_); rintro e w' ⟨rfl, ⟨nd, rfl⟩⟩) | (go_at_call 61; (with_reducible refine (spec_cdReg.calls a0_2 true _ A6.out).mono ?_); rintro e w' ⟨rfl, ⟨nd, rfl⟩⟩) | (go_at_call 61; (with_reducible refine (spec_cdReg.calls a0_3 true _ A8.out).mono ?_); rintro e w' ⟨rfl, ⟨nd, rfl⟩⟩) | (go_at_call 60; (with_reducible refine (spec_l1In.calls a0_4 t105 t106 true _ A10.out).mono ?_); rintro e w' ⟨rfl, ⟨nd, rfl⟩⟩))
   go_ret
   exact ⟨by first | rfl | (simp [errW_none, errW_some] <;> rfl) | (simp [*, errW_none, errW_some] <;> rfl), by repeat (first | (with_reducible first | exact HB.out | apply zba | apply zbn | apply zbd | refine below_set ?_ GE101.out) | exact HB.out)⟩
 replace c12 := zbf c12
 subst c12
 replace H : (if a0_2 = 0 then (if t104 = true then (some true) else (some (a0_3 == 0))) else (some false)) = some r := by rw [if_neg (show ¬ (false = true) by decide)] at H; exact H
 by_cases c18 : a0_2 = 0
 rotate_left
 · rw [if_neg c18] at H
   have c18b0 : (a0_2 == 0) = false := beq_eq_false_iff_ne.mpr c18
   have c18b1 : (a0_2 != 0) = true := bne_iff_ne.mpr c18
   obtain rfl := zsi H
   go_enter Try.func157, Try.ntmps157
   go_wp2_with (first | ((with_reducible refine gate_dst (N := 1) rfl ?_); refine box_event ?hg (N := 1) ?hd (cs := #[.string a0_0, .int .i64 a0_1, .int .i64 a0_2, .int .i64 a0_3, .int .i64 a0_4]) (t := 73) ?hr ?_; (case hd => rfl); (case hg => rfl); (case hr => go_simp <;> rfl); intro gb101 hg w24 hbox hb; have zs := zpair (by repeat (first | (with_reducible first | exact HB.out | apply zba | apply zbn | apply zbd) | exact HB.out)) hb; have n0_ := zA (zs.1); have n1_ := zA (hbox); have n2_ := zA ((by rw [hg]; exact zs.2 : w.heap.size ≤ gb101)); have n3_ := n2_; clear HB; have HB := n0_; have BK101 := n1_; have GW101 := n2_; have GE101 := n3_; clear n0_ n1_ n2_ n3_; clear zs hb hbox hg; obtain ⟨hcz25_0, hcz25_1, hcz25_2, hcz25_3, hcz25_4⟩ := zc5 w24 (.string a0_0) (.int .i64 a0_1) (.int .i64 a0_2) (.int .i64 a0_3) (.int .i64 a0_4) BK101.out; obtain ⟨hfz25_0, hfz25_1, hfz25_2, hfz25_3, hfz25_4⟩ := zf5 BK101.out) | ((with_reducible refine gate_callee (f := 142) rfl ?_); refine goesL_ (some 11) rfl rfl Try.func142 (by kernel_rfl) rfl #[.string a0_0] rfl (by (try simp only [List.map_toArray, List.map_cons, List.map_nil]); first | done | rfl | (simp only [List.length_drop, List.length_take]; rfl)) ?_; (with_reducible refine (spec_cdShape.calls k a0_0 true false t104 t105 t106 _ A2.out).mono ?_); rintro e w' ⟨rfl, ⟨nd, rfl⟩⟩; refine ⟨_, rfl, ?_⟩) | (go_at_call 61; (with_reducible refine (spec_cdReg.calls a0_1 true _ A4.out).mono ?_); rintro e w' ⟨rfl, ⟨nd, rfl⟩⟩) | (go_at_call 61; (with_reducible refine (spec_cdReg.calls a0_2 true _ A6.out).mono ?_); rintro e w' ⟨rfl, ⟨nd, rfl⟩⟩) | (go_at_call 61; (with_reducible refine (spec_cdReg.calls a0_3 true _ A8.out).mono ?_); rintro e w' ⟨rfl, ⟨nd, rfl⟩⟩) | (go_at_call 60; (with_reducible refine (spec_l1In.calls a0_4 t105 t106 true _ A10.out).mono ?_); rintro e w' ⟨rfl, ⟨nd, rfl⟩⟩))
   go_ret
   exact ⟨by first | rfl | (simp [errW_none, errW_some] <;> rfl) | (simp [*, errW_none, errW_some] <;> rfl), by repeat (first | (with_reducible first | exact HB.out | apply zba | apply zbn | apply zbd | refine below_set ?_ GE101.out) | exact HB.out)⟩
 rw [if_pos c18] at H
 have c18b0 : (a0_2 == 0) = true := beq_iff_eq.mpr c18
 have c18b1 : (a0_2 != 0) = false := bne_eq_false_iff_eq.mpr c18
 clear c18
 by_cases c19 : t104 = true
 · subst c19
   replace H : (some true) = some r := by rw [if_pos rfl] at H; exact H
   obtain rfl := zsi H
   go_enter Try.func157, Try.ntmps157
   go_wp2_with (first | ((with_reducible refine gate_dst (N := 1) rfl ?_); refine box_event ?hg (N := 1) ?hd (cs := #[.string a0_0, .int .i64 a0_1, .int .i64 a0_2, .int .i64 a0_3, .int .i64 a0_4]) (t := 73) ?hr ?_; (case hd => rfl); (case hg => rfl); (case hr => go_simp <;> rfl); intro gb101 hg w20 hbox hb; have zs := zpair (by repeat (first | (with_reducible first | exact HB.out | apply zba | apply zbn | apply zbd) | exact HB.out)) hb; have n0_ := zA (zs.1); have n1_ := zA (hbox); have n2_ := zA ((by rw [hg]; exact zs.2 : w.heap.size ≤ gb101)); have n3_ := n2_; clear HB; have HB := n0_; have BK101 := n1_; have GW101 := n2_; have GE101 := n3_; clear n0_ n1_ n2_ n3_; clear zs hb hbox hg; obtain ⟨hcz21_0, hcz21_1, hcz21_2, hcz21_3, hcz21_4⟩ := zc5 w20 (.string a0_0) (.int .i64 a0_1) (.int .i64 a0_2) (.int .i64 a0_3) (.int .i64 a0_4) BK101.out; obtain ⟨hfz21_0, hfz21_1, hfz21_2, hfz21_3, hfz21_4⟩ := zf5 BK101.out) | ((with_reducible refine gate_callee (f := 142) rfl ?_); refine goesL_ (some 11) rfl rfl Try.func142 (by kernel_rfl) rfl #[.string a0_0] rfl (by (try simp only [List.map_toArray, List.map_cons, List.map_nil]); first | done | rfl | (simp only [List.length_drop, List.length_take]; rfl)) ?_; (with_reducible refine (spec_cdShape.calls k a0_0 true false true t105 t106 _ A2.out).mono ?_); rintro e w' ⟨rfl, ⟨nd, rfl⟩⟩; refine ⟨_, rfl, ?_⟩) | (go_at_call 61; (with_reducible refine (spec_cdReg.calls a0_1 true _ A4.out).mono ?_); rintro e w' ⟨rfl, ⟨nd, rfl⟩⟩) | (go_at_call 61; (with_reducible refine (spec_cdReg.calls a0_2 true _ A6.out).mono ?_); rintro e w' ⟨rfl, ⟨nd, rfl⟩⟩) | (go_at_call 61; (with_reducible refine (spec_cdReg.calls a0_3 true _ A8.out).mono ?_); rintro e w' ⟨rfl, ⟨nd, rfl⟩⟩) | (go_at_call 60; (with_reducible refine (spec_l1In.calls a0_4 t105 t106 true _ A10.out).mono ?_); rintro e w' ⟨rfl, ⟨nd, rfl⟩⟩))
   go_ret
   exact ⟨by first | rfl | (simp [errW_none, errW_some] <;> rfl) | (simp [*, errW_none, errW_some] <;> rfl), by repeat (first | (with_reducible first | exact HB.out | apply zba | apply zbn | apply zbd | refine below_set ?_ GE101.out) | exact HB.out)⟩
 replace c19 := zbf c19
 subst c19
 replace H : (some (a0_3 == 0)) = some r := by rw [if_neg (show ¬ (false = true) by decide)] at H; exact H
 obtain rfl := zsi H
 go_enter Try.func157, Try.ntmps157
 go_wp2_with (first | ((with_reducible refine gate_dst (N := 1) rfl ?_); refine box_event ?hg (N := 1) ?hd (cs := #[.string a0_0, .int .i64 a0_1, .int .i64 a0_2, .int .i64 a0_3, .int .i64 a0_4]) (t := 73) ?hr ?_; (case hd => rfl); (case hg => rfl); (case hr => go_simp <;> rfl); intro gb101 hg w22 hbox hb; have zs := zpair (by repeat (first | (with_reducible first | exact HB.out | apply zba | apply zbn | apply zbd) | exact HB.out)) hb; have n0_ := zA (zs.1); have n1_ := zA (hbox); have n2_ := zA ((by rw [hg]; exact zs.2 : w.heap.size ≤ gb101)); have n3_ := n2_; clear HB; have HB := n0_; have BK101 := n1_; have GW101 := n2_; have GE101 := n3_; clear n0_ n1_ n2_ n3_; clear zs hb hbox hg; obtain ⟨hcz23_0, hcz23_1, hcz23_2, hcz23_3, hcz23_4⟩ := zc5 w22 (.string a0_0) (.int .i64 a0_1) (.int .i64 a0_2) (.int .i64 a0_3) (.int .i64 a0_4) BK101.out; obtain ⟨hfz23_0, hfz23_1, hfz23_2, hfz23_3, hfz23_4⟩ := zf5 BK101.out) | ((with_reducible refine gate_callee (f := 142) rfl ?_); refine goesL_ (some 11) rfl rfl Try.func142 (by kernel_rfl) rfl #[.string a0_0] rfl (by (try simp only [List.map_toArray, List.map_cons, List.map_nil]); first | done | rfl | (simp only [List.length_drop, List.length_take]; rfl)) ?_; (with_reducible refine (spec_cdShape.calls k a0_0 true false false t105 t106 _ A2.out).mono ?_); rintro e w' ⟨rfl, ⟨nd, rfl⟩⟩; refine ⟨_, rfl, ?_⟩) | (go_at_call 61; (with_reducible refine (spec_cdReg.calls a0_1 true _ A4.out).mono ?_); rintro e w' ⟨rfl, ⟨nd, rfl⟩⟩) | (go_at_call 61; (with_reducible refine (spec_cdReg.calls a0_2 true _ A6.out).mono ?_); rintro e w' ⟨rfl, ⟨nd, rfl⟩⟩) | (go_at_call 61; (with_reducible refine (spec_cdReg.calls a0_3 true _ A8.out).mono ?_); rintro e w' ⟨rfl, ⟨nd, rfl⟩⟩) | (go_at_call 60; (with_reducible refine (spec_l1In.calls a0_4 t105 t106 true _ A10.out).mono ?_); rintro e w' ⟨rfl, ⟨nd, rfl⟩⟩))
 go_ret
 exact ⟨by first | rfl | (simp [errW_none, errW_some] <;> rfl) | (simp [*, errW_none, errW_some] <;> rfl), by repeat (first | (with_reducible first | exact HB.out | apply zba | apply zbn | apply zbd | refine below_set ?_ GE101.out) | exact HB.out)⟩
def spec_cdCode.l0 : Nat → List (S73) → Int → Int → Option (Bool)
 | 0, _, _, _ => none
 | k + 1, x8, x9, x10 => if x10 < x9 then (if 0 ≤ x10 then (if x10 < (x8.length : Int) then ((spec_cdGood.f k ((rd_T73 x8 x10).f0) ((rd_T73 x8 x10).f1) ((rd_T73 x8 x10).f2) ((rd_T73 x8 x10).f3) ((rd_T73 x8 x10).f4)).bind fun t103 => (if t103 = true then (spec_cdCode.l0 k x8 x9 (wrap64 (x10 + 1))) else (some false))) else (none)) else (none)) else (some true)
def spec_cdCode.f (k : Nat) (l0 : List (S73)) : Option (Bool) := if (l0.length : Int) > 40 then (some false) else (spec_cdCode.l0 k l0 (l0.length : Int) 0)
theorem spec_cdCode.mono_l : ∀ k, (∀ y0 y1 y2, LeO (spec_cdCode.l0 k y0 y1 y2) (spec_cdCode.l0 (k + 1) y0 y1 y2))
 | 0 => fun _ _ _ r h => by simp [spec_cdCode.l0] at h
 | k + 1 => by
   have ih0 := spec_cdCode.mono_l k
   · intro y0 y1 y2
     unfold spec_cdCode.l0
     repeat' first
     | (with_reducible first | exact ih0 _ _ _ | exact spec_cdGood.mono _ _ _ _ _ _ | exact LeO.refl _ | exact LeO.none _ | refine LeO.ite ?_ ?_ | refine LeO.bind ?_ (fun _ => ?_))
     | exact LeO.none _
     | refine LeO.ite ?_ ?_
     | refine LeO.bind ?_ (fun _ => ?_)
theorem spec_cdCode.mono : ∀ a0 k, LeO (spec_cdCode.f k a0) (spec_cdCode.f (k + 1) a0) := by
 intro a0 k
 have ih0 := spec_cdCode.mono_l k
 unfold spec_cdCode.f
 repeat' first
     | (with_reducible first | exact ih0 _ _ _ | exact spec_cdGood.mono _ _ _ _ _ _ | exact LeO.refl _ | exact LeO.none _ | refine LeO.ite ?_ ?_ | refine LeO.bind ?_ (fun _ => ?_))
     | exact LeO.none _
     | refine LeO.ite ?_ ?_
     | refine LeO.bind ?_ (fun _ => ?_)
set_option maxHeartbeats 8000000 in
set_option maxRecDepth 100000 in
theorem spec_cdCode.calls (k : Nat) (A0 : Option Addr) (c0 : Nat) (l0 : List (S73)) (r : Bool) (w : World) (hr0 : Kd.C k73 w A0 l0.length l0) (hc0 : l0.length ≤ c0) (h : spec_cdCode.f k l0 = some r) :
   Calls Try.prog 99 #[.slice A0 l0.length c0] w fun e w' => e = .returned (.bool r) ∧ Below w.heap.size w w' := by
 have hu73 := Try.underlying73
 have HR0 := zA hr0
 have HC0 := zA hc0
 clear hr0 hc0
 have HB := zA (Below.refl w.heap.size w)
 have H : (if (l0.length : Int) > 40 then (some false) else (spec_cdCode.l0 k l0 (l0.length : Int) 0)) = some r := h
 clear h
 by_cases c2 : (l0.length : Int) > 40
 · rw [if_pos c2] at H
   have c2b0 : decide (40 < (l0.length : Int)) = true := zdt c2
   have c2b1 : decide (40 < l0.length) = true := zdt (by omega)
   clear c2
   obtain rfl := zsi H
   go_enter Try.func99, Try.ntmps99
   go_wp2
   go_ret
   exact ⟨by first | rfl | (simp [errW_none, errW_some] <;> rfl) | (simp [*, errW_none, errW_some] <;> rfl), by repeat (first | (with_reducible first | exact HB.out | apply zba | apply zbn | apply zbd) | exact HB.out)⟩
 rw [if_neg c2] at H
 have c2b0 : decide (40 < (l0.length : Int)) = false := zdf c2
 have c2b1 : decide (40 < l0.length) = false := zdf (by omega)
 clear c2
 have H' := zA H
 clear H
 go_enter Try.func99, Try.ntmps99
 go_wp2
 go_loopg [10] k (fun kq v10 w' => ∃ (x10_1 : Int), v10 = .int .i64 x10_1 ∧ Aside0 (spec_cdCode.l0 kq l0 (l0.length : Int) x10_1 = some r) ∧ Aside0 (kq ≤ k) ∧ Aside0 (Below w.heap.size w w'))
 case atStart => exact ⟨(0), (by first | rfl | (simp; done) | (simp [*]; done)), H', ⟨zlr _⟩, ⟨by repeat (first | (with_reducible first | exact HB.out | apply zba | apply zbn | apply zbd) | exact HB.out)⟩⟩
 clear H'
 try clear c2
 try clear c2b0
 try clear c2b1
 try clear p2
 obtain ⟨x10_1, rfl, HA, HK1, HB⟩ := hrel
 cases gk with
 | zero => exact absurd HA.out (by simp [spec_cdCode.l0])
 | succ k1 =>
 have H := HA.out
 clear HA
 simp only [spec_cdCode.l0] at H
 by_cases c3 : x10_1 < (l0.length : Int)
 rotate_left
 · rw [if_neg c3] at H
   have c3b0 : decide (x10_1 < (l0.length : Int)) = false := zdf c3
   clear c3
   obtain rfl := zsi H
   go_wp2
   go_ret
   exact ⟨by first | rfl | (simp [errW_none, errW_some] <;> rfl) | (simp [*, errW_none, errW_some] <;> rfl), by repeat (first | (with_reducible first | exact HB.out | apply zba | apply zbn | apply zbd) | exact HB.out)⟩
 rw [if_pos c3] at H
 have c3b0 : decide (x10_1 < (l0.length : Int)) = true := zdt c3
 clear c3
 by_cases c4 : 0 ≤ x10_1
 rotate_left
 · rw [if_neg c4] at H
   exact absurd H (by simp)
 rw [if_pos c4] at H
 have c4b0 : decide (0 ≤ x10_1) = true := zdt c4
 clear c4
 by_cases c5 : x10_1 < (l0.length : Int)
 rotate_left
 · rw [if_neg c5] at H
   exact absurd H (by simp)
 rw [if_pos c5] at H
 have c5b0 : decide (x10_1 < (l0.length : Int)) = true := zdt c5
 clear c5
 replace H := zob H
 obtain ⟨t103, A60, H⟩ := H
 replace H : (if t103 = true then (spec_cdCode.l0 k1 l0 (l0.length : Int) (wrap64 (x10_1 + 1))) else (some false)) = some r := H
 have A6 := zA A60
 clear A60
 by_cases c7 : t103 = true
 rotate_left
 · replace c7 := zbf c7
   subst c7
   replace H : (some false) = some r := by rw [if_neg (show ¬ (false = true) by decide)] at H; exact H
   obtain rfl := zsi H
   have p101 : 0 ≤ (x10_1 : Int) := zde (by assumption)
   have q101 : x10_1 < (l0.length : Int) := zde (by assumption)
   obtain ⟨ad101, e101, hx101_0, hx101_1, hx101_2, hx101_3, hx101_4⟩ := at_T73 HR0.out x10_1 p101 q101
   cases e101
   replace hx101_0 := zkep HB.out hx101_0
   replace hx101_1 := zkep HB.out hx101_1
   replace hx101_2 := zkep HB.out hx101_2
   replace hx101_3 := zkep HB.out hx101_3
   replace hx101_4 := zkep HB.out hx101_4
   replace p101 := eq_true p101
   replace q101 := eq_true q101
   go_wp2_with (first | ((with_reducible refine gate_dst (N := 4) rfl ?_); refine box_event ?hg (N := 4) ?hd (cs := #[.string (⟨#[]⟩ : ByteArray), .int .i64 0, .int .i64 0, .int .i64 0, .int .i64 0]) (t := 73) ?hr ?_; (case hd => rfl); (case hg => rfl); (case hr => go_simp <;> rfl); intro gb102 hg w11 hbox hb; have zs := zpair (by repeat (first | (with_reducible first | exact HB.out | apply zba | apply zbn | apply zbd) | exact HB.out)) hb; have n0_ := zA (zs.1); have n1_ := zA (hbox); have n2_ := zA ((by rw [hg]; exact zs.2 : w.heap.size ≤ gb102)); have n3_ := n2_; clear HB; have HB := n0_; have BK102 := n1_; have GW102 := n2_; have GE102 := n3_; clear n0_ n1_ n2_ n3_; clear zs hb hbox hg; obtain ⟨hcz12_0, hcz12_1, hcz12_2, hcz12_3, hcz12_4⟩ := zc5 w11 (.string (⟨#[]⟩ : ByteArray)) (.int .i64 0) (.int .i64 0) (.int .i64 0) (.int .i64 0) BK102.out; obtain ⟨hfz12_0, hfz12_1, hfz12_2, hfz12_3, hfz12_4⟩ := zf5 BK102.out) | ((with_reducible refine gate_callee (f := 157) rfl ?_); refine goesL_ (some 15) rfl rfl Try.func157 (by kernel_rfl) rfl #[.agg #[.string ((rd_T73 l0 x10_1).f0), .int .i64 ((rd_T73 l0 x10_1).f1), .int .i64 ((rd_T73 l0 x10_1).f2), .int .i64 ((rd_T73 l0 x10_1).f3), .int .i64 ((rd_T73 l0 x10_1).f4)]] rfl (by (try simp only [List.map_toArray, List.map_cons, List.map_nil]); first | done | rfl | (simp only [List.length_drop, List.length_take]; rfl)) ?_; (with_reducible refine (spec_cdGood.calls k1 ((rd_T73 l0 x10_1).f0) ((rd_T73 l0 x10_1).f1) ((rd_T73 l0 x10_1).f2) ((rd_T73 l0 x10_1).f3) ((rd_T73 l0 x10_1).f4) false _ A6.out).mono ?_); rintro e w13 ⟨rfl, hb⟩; refine ⟨_, rfl, ?_⟩; have n0_ := zA (blk_below (g := gb102) (o := .cells #[.string ((rd_T73 l0 x10_1).f0), .int .i64 ((rd_T73 l0 x10_1).f1), .int .i64 ((rd_T73 l0 x10_1).f2), .int .i64 ((rd_T73 l0 x10_1).f3), .int .i64 ((rd_T73 l0 x10_1).f4)] 73 (0, 0)) (by (with_reducible repeat (first | refine zkn ?_ _ | refine zkd ?_ | refine zka ?_ _)); refine blk_put (cs := #[.string ((rd_T73 l0 x10_1).f0), .int .i64 ((rd_T73 l0 x10_1).f1), .int .i64 ((rd_T73 l0 x10_1).f2), .int .i64 ((rd_T73 l0 x10_1).f3), .int .i64 0]) ?_ 4 _ rfl; (with_reducible repeat (first | refine zkn ?_ _ | refine zkd ?_ | refine zka ?_ _)); refine blk_put (cs := #[.string ((rd_T73 l0 x10_1).f0), .int .i64 ((rd_T73 l0 x10_1).f1), .int .i64 ((rd_T73 l0 x10_1).f2), .int .i64 0, .int .i64 0]) ?_ 3 _ rfl; (with_reducible repeat (first | refine zkn ?_ _ | refine zkd ?_ | refine zka ?_ _)); refine blk_put (cs := #[.string ((rd_T73 l0 x10_1).f0), .int .i64 ((rd_T73 l0 x10_1).f1), .int .i64 0, .int .i64 0, .int .i64 0]) ?_ 2 _ rfl; (with_reducible repeat (first | refine zkn ?_ _ | refine zkd ?_ | refine zka ?_ _)); refine blk_put (cs := #[.string ((rd_T73 l0 x10_1).f0), .int .i64 0, .int .i64 0, .int .i64 0, .int .i64 0]) ?_ 1 _ rfl; (with_reducible repeat (first | refine zkn ?_ _ | refine zkd ?_ | refine zka ?_ _)); refine blk_put (cs := #[.string (⟨#[]⟩ : ByteArray), .int .i64 0, .int .i64 0, .int .i64 0, .int .i64 0]) ?_ 0 _ rfl; (with_reducible repeat (first | refine zkn ?_ _ | refine zkd ?_ | refine zka ?_ _)); exact BK102.out) hb); have n1_ := zA (below_step (by repeat (first | (with_reducible first | exact HB.out | apply zba | apply zbn | apply zbd | refine below_set ?_ GE102.out) | exact HB.out)) hb); clear BK102 HB; have BK102 := n0_; have HB := n1_; clear n0_ n1_; (try clear hb)))
   go_ret
   exact ⟨by first | rfl | (simp [errW_none, errW_some] <;> rfl) | (simp [*, errW_none, errW_some] <;> rfl), by repeat (first | (with_reducible first | exact HB.out | apply zba | apply zbn | apply zbd | refine below_set ?_ GE102.out) | exact HB.out)⟩
 subst c7
 replace H : (spec_cdCode.l0 k1 l0 (l0.length : Int) (wrap64 (x10_1 + 1))) = some r := by rw [if_pos rfl] at H; exact H
 have H' := zA H
 clear H
 have p101 : 0 ≤ (x10_1 : Int) := zde (by assumption)
 have q101 : x10_1 < (l0.length : Int) := zde (by assumption)
 obtain ⟨ad101, e101, hx101_0, hx101_1, hx101_2, hx101_3, hx101_4⟩ := at_T73 HR0.out x10_1 p101 q101
 cases e101
 replace hx101_0 := zkep HB.out hx101_0
 replace hx101_1 := zkep HB.out hx101_1
 replace hx101_2 := zkep HB.out hx101_2
 replace hx101_3 := zkep HB.out hx101_3
 replace hx101_4 := zkep HB.out hx101_4
 replace p101 := eq_true p101
 replace q101 := eq_true q101
 go_wp2_with (first | ((with_reducible refine gate_dst (N := 4) rfl ?_); refine box_event ?hg (N := 4) ?hd (cs := #[.string (⟨#[]⟩ : ByteArray), .int .i64 0, .int .i64 0, .int .i64 0, .int .i64 0]) (t := 73) ?hr ?_; (case hd => rfl); (case hg => rfl); (case hr => go_simp <;> rfl); intro gb102 hg w8 hbox hb; have zs := zpair (by repeat (first | (with_reducible first | exact HB.out | apply zba | apply zbn | apply zbd) | exact HB.out)) hb; have n0_ := zA (zs.1); have n1_ := zA (hbox); have n2_ := zA ((by rw [hg]; exact zs.2 : w.heap.size ≤ gb102)); have n3_ := n2_; clear HB; have HB := n0_; have BK102 := n1_; have GW102 := n2_; have GE102 := n3_; clear n0_ n1_ n2_ n3_; clear zs hb hbox hg; obtain ⟨hcz9_0, hcz9_1, hcz9_2, hcz9_3, hcz9_4⟩ := zc5 w8 (.string (⟨#[]⟩ : ByteArray)) (.int .i64 0) (.int .i64 0) (.int .i64 0) (.int .i64 0) BK102.out; obtain ⟨hfz9_0, hfz9_1, hfz9_2, hfz9_3, hfz9_4⟩ := zf5 BK102.out) | ((with_reducible refine gate_callee (f := 157) rfl ?_); refine goesL_ (some 15) rfl rfl Try.func157 (by kernel_rfl) rfl #[.agg #[.string ((rd_T73 l0 x10_1).f0), .int .i64 ((rd_T73 l0 x10_1).f1), .int .i64 ((rd_T73 l0 x10_1).f2), .int .i64 ((rd_T73 l0 x10_1).f3), .int .i64 ((rd_T73 l0 x10_1).f4)]] rfl (by (try simp only [List.map_toArray, List.map_cons, List.map_nil]); first | done | rfl | (simp only [List.length_drop, List.length_take]; rfl)) ?_; (with_reducible refine (spec_cdGood.calls k1 ((rd_T73 l0 x10_1).f0) ((rd_T73 l0 x10_1).f1) ((rd_T73 l0 x10_1).f2) ((rd_T73 l0 x10_1).f3) ((rd_T73 l0 x10_1).f4) true _ A6.out).mono ?_); rintro e w10 ⟨rfl, hb⟩; refine ⟨_, rfl, ?_⟩; have n0_ := zA (blk_below (g := gb102) (o := .cells #[.string ((rd_T73 l0 x10_1).f0), .int .i64 ((rd_T73 l0 x10_1).f1), .int .i64 ((rd_T73 l0 x10_1).f2), .int .i64 ((rd_T73 l0 x10_1).f3), .int .i64 ((rd_T73 l0 x10_1).f4)] 73 (0, 0)) (by (with_reducible repeat (first | refine zkn ?_ _ | refine zkd ?_ | refine zka ?_ _)); refine blk_put (cs := #[.string ((rd_T73 l0 x10_1).f0), .int .i64 ((rd_T73 l0 x10_1).f1), .int .i64 ((rd_T73 l0 x10_1).f2), .int .i64 ((rd_T73 l0 x10_1).f3), .int .i64 0]) ?_ 4 _ rfl; (with_reducible repeat (first | refine zkn ?_ _ | refine zkd ?_ | refine zka ?_ _)); refine blk_put (cs := #[.string ((rd_T73 l0 x10_1).f0), .int .i64 ((rd_T73 l0 x10_1).f1), .int .i64 ((rd_T73 l0 x10_1).f2), .int .i64 0, .int .i64 0]) ?_ 3 _ rfl; (with_reducible repeat (first | refine zkn ?_ _ | refine zkd ?_ | refine zka ?_ _)); refine blk_put (cs := #[.string ((rd_T73 l0 x10_1).f0), .int .i64 ((rd_T73 l0 x10_1).f1), .int .i64 0, .int .i64 0, .int .i64 0]) ?_ 2 _ rfl; (with_reducible repeat (first | refine zkn ?_ _ | refine zkd ?_ | refine zka ?_ _)); refine blk_put (cs := #[.string ((rd_T73 l0 x10_1).f0), .int .i64 0, .int .i64 0, .int .i64 0, .int .i64 0]) ?_ 1 _ rfl; (with_reducible repeat (first | refine zkn ?_ _ | refine zkd ?_ | refine zka ?_ _)); refine blk_put (cs := #[.string (⟨#[]⟩ : ByteArray), .int .i64 0, .int .i64 0, .int .i64 0, .int .i64 0]) ?_ 0 _ rfl; (with_reducible repeat (first | refine zkn ?_ _ | refine zkd ?_ | refine zka ?_ _)); exact BK102.out) hb); have n1_ := zA (below_step (by repeat (first | (with_reducible first | exact HB.out | apply zba | apply zbn | apply zbd | refine below_set ?_ GE102.out) | exact HB.out)) hb); clear BK102 HB; have BK102 := n0_; have HB := n1_; clear n0_ n1_; (try clear hb)))
 go_roundg k1
 case measure => have := HK1.out; omega
 case rel => exact ⟨(wrap64 (x10_1 + 1)), (by first | rfl | (simp; done) | (simp [*]; done)), H', ⟨by have := HK1.out; omega⟩, ⟨by repeat (first | (with_reducible first | exact HB.out | apply zba | apply zbn | apply zbd | refine below_set ?_ GE102.out) | exact HB.out)⟩⟩
def spec_orGood.f (k : Nat) (l0 : List (S73)) : Option (Bool) := if (l0.length : Int) ≤ 20 then ((spec_cdCode.f k l0).bind fun t101 => (some t101)) else (some false)
theorem spec_orGood.mono : ∀ a0 k, LeO (spec_orGood.f k a0) (spec_orGood.f (k + 1) a0) := by
 intro a0 k
 unfold spec_orGood.f
 repeat' first
     | (with_reducible first | exact spec_cdCode.mono _ _ | exact LeO.refl _ | exact LeO.none _ | refine LeO.ite ?_ ?_ | refine LeO.bind ?_ (fun _ => ?_))
     | exact LeO.none _
     | refine LeO.ite ?_ ?_
     | refine LeO.bind ?_ (fun _ => ?_)
set_option maxHeartbeats 8000000 in
set_option maxRecDepth 100000 in
theorem spec_orGood.calls (k : Nat) (A0 : Option Addr) (c0 : Nat) (l0 : List (S73)) (r : Bool) (w : World) (hr0 : Kd.C k73 w A0 l0.length l0) (hc0 : l0.length ≤ c0) (h : spec_orGood.f k l0 = some r) :
   Calls Try.prog 44 #[.slice A0 l0.length c0] w fun e w' => e = .returned (.bool r) ∧ Below w.heap.size w w' := by
 have HR0 := zA hr0
 have HC0 := zA hc0
 clear hr0 hc0
 have HB := zA (Below.refl w.heap.size w)
 have H : (if (l0.length : Int) ≤ 20 then ((spec_cdCode.f k l0).bind fun t101 => (some t101)) else (some false)) = some r := h
 clear h
 by_cases c2 : (l0.length : Int) ≤ 20
 · rw [if_pos c2] at H
   have c2b0 : decide ((l0.length : Int) ≤ 20) = true := zdt c2
   have c2b1 : decide (l0.length ≤ 20) = true := zdt (by omega)
   clear c2
   replace H := zob H
   obtain ⟨t101, A30, H⟩ := H
   replace H : (some t101) = some r := H
   have A3 := zA A30
   clear A30
   obtain rfl := zsi H
   go_enter Try.func44, Try.ntmps44
   go_wp2_with (first | (go_at_call 99; (with_reducible refine (spec_cdCode.calls k _ _ l0 t101 _ ?side1 ?side2 A3.out).mono ?_); (case side1 => repeat (first | exact HR0.out | (with_reducible first | refine zCa ?_ _ | refine zCn ?_ _ | refine zCd ?_))); (case side2 => exact HC0.out); rintro e w4 ⟨rfl, hb⟩; have n0_ := zA (below_step (by repeat (first | (with_reducible first | exact HB.out | apply zba | apply zbn | apply zbd) | exact HB.out)) hb); clear HB; have HB := n0_; clear n0_; (try clear hb)))
   go_ret
   exact ⟨by first | rfl | (simp [errW_none, errW_some] <;> rfl) | (simp [*, errW_none, errW_some] <;> rfl), by repeat (first | (with_reducible first | exact HB.out | apply zba | apply zbn | apply zbd) | exact HB.out)⟩
 · rw [if_neg c2] at H
   have c2b0 : decide ((l0.length : Int) ≤ 20) = false := zdf c2
   have c2b1 : decide (l0.length ≤ 20) = false := zdf (by omega)
   clear c2
   obtain rfl := zsi H
   go_enter Try.func44, Try.ntmps44
   go_wp2
   go_ret
   exact ⟨by first | rfl | (simp [errW_none, errW_some] <;> rfl) | (simp [*, errW_none, errW_some] <;> rfl), by repeat (first | (with_reducible first | exact HB.out | apply zba | apply zbn | apply zbd) | exact HB.out)⟩
def spec_orLength.l0 : Nat → List Int → Int → List (S73) → Int → Int → Option (Int)
 | 0, _, _, _, _, _ => none
 | k + 1, x1, x5, x8, x9, x10 => if x10 < x9 then (if 0 ≤ x10 then (if x10 < (x8.length : Int) then (if x10 < (x1.length : Int) then ((spec_cdCost.f ((rd_T73 x8 x10).f0)).bind fun t104 => ((spec_l1Most.f x5 (wrap64 ((rd x1 x10) + t104))).bind fun t105 => (spec_orLength.l0 k x1 t105 x8 x9 (wrap64 (x10 + 1))))) else (none)) else (none)) else (none)) else (some x5)
def spec_orLength.f (k : Nat) (l0 : List (S73)) (l1 : List Int) : Option (Int) := spec_orLength.l0 k l1 0 l0 (l0.length : Int) 0
theorem spec_orLength.mono_l : ∀ k, (∀ y0 y1 y2 y3 y4, LeO (spec_orLength.l0 k y0 y1 y2 y3 y4) (spec_orLength.l0 (k + 1) y0 y1 y2 y3 y4))
 | 0 => fun _ _ _ _ _ r h => by simp [spec_orLength.l0] at h
 | k + 1 => by
   have ih0 := spec_orLength.mono_l k
   · intro y0 y1 y2 y3 y4
     unfold spec_orLength.l0
     repeat' first
     | (with_reducible first | exact ih0 _ _ _ _ _ | exact LeO.refl _ | exact LeO.none _ | refine LeO.ite ?_ ?_ | refine LeO.bind ?_ (fun _ => ?_))
     | exact LeO.none _
     | refine LeO.ite ?_ ?_
     | refine LeO.bind ?_ (fun _ => ?_)
theorem spec_orLength.mono : ∀ a0 a1 k, LeO (spec_orLength.f k a0 a1) (spec_orLength.f (k + 1) a0 a1) := by
 intro a0 a1 k
 have ih0 := spec_orLength.mono_l k
 unfold spec_orLength.f
 repeat' first
     | (with_reducible first | exact ih0 _ _ _ _ _ | exact LeO.refl _ | exact LeO.none _ | refine LeO.ite ?_ ?_ | refine LeO.bind ?_ (fun _ => ?_))
     | exact LeO.none _
     | refine LeO.ite ?_ ?_
     | refine LeO.bind ?_ (fun _ => ?_)
set_option maxHeartbeats 8000000 in
set_option maxRecDepth 100000 in
theorem spec_orLength.calls (k : Nat) (A0 : Option Addr) (c0 : Nat) (l0 : List (S73)) (A1 : Option Addr) (c1 : Nat) (l1 : List Int) (r : Int) (w : World) (hr0 : Kd.C k73 w A0 l0.length l0) (hc0 : l0.length ≤ c0) (hr1 : Kd.C (Kd.int .i64) w A1 l1.length l1) (hc1 : l1.length ≤ c1) (h : spec_orLength.f k l0 l1 = some r) :
   Calls Try.prog 58 #[.slice A0 l0.length c0, .slice A1 l1.length c1] w fun e w' => e = .returned (.int .i64 r) ∧ Below w.heap.size w w' := by
 have hu73 := Try.underlying73
 have HR0 := zA hr0
 have HC0 := zA hc0
 clear hr0 hc0
 have HR1 := zA hr1
 have HC1 := zA hc1
 clear hr1 hc1
 have HB := zA (Below.refl w.heap.size w)
 have H : (spec_orLength.l0 k l1 0 l0 (l0.length : Int) 0) = some r := h
 clear h
 have H' := zA H
 clear H
 go_enter Try.func58, Try.ntmps58
 go_wp2
 repeat (go_quiet (fail); try go_wp2)
 go_loopg [5, 10] k (fun kq v5 v10 w' => ∃ (x5_1 : Int) (x10_1 : Int), v5 = .int .i64 x5_1 ∧ v10 = .int .i64 x10_1 ∧ Aside0 (spec_orLength.l0 kq l1 x5_1 l0 (l0.length : Int) x10_1 = some r) ∧ Aside0 (kq ≤ k) ∧ Aside0 (Below w.heap.size w w'))
 case atStart => exact ⟨(0), (0), (by first | rfl | (simp; done) | (simp [*]; done)), (by first | rfl | (simp; done) | (simp [*]; done)), H', ⟨zlr _⟩, ⟨by repeat (first | (with_reducible first | exact HB.out | apply zba | apply zbn | apply zbd) | exact HB.out)⟩⟩
 clear H'
 try clear c1
 try clear p2
 obtain ⟨x5_1, x10_1, rfl, rfl, HA, HK1, HB⟩ := hrel
 cases gk with
 | zero => exact absurd HA.out (by simp [spec_orLength.l0])
 | succ k1 =>
 have H := HA.out
 clear HA
 simp only [spec_orLength.l0] at H
 by_cases c3 : x10_1 < (l0.length : Int)
 rotate_left
 · rw [if_neg c3] at H
   have c3b0 : decide (x10_1 < (l0.length : Int)) = false := zdf c3
   clear c3
   obtain rfl := zsi H
   go_wp2
   repeat (go_quiet (fail); try go_wp2)
   go_ret
   exact ⟨by first | rfl | (simp [errW_none, errW_some] <;> rfl) | (simp [*, errW_none, errW_some] <;> rfl), by repeat (first | (with_reducible first | exact HB.out | apply zba | apply zbn | apply zbd) | exact HB.out)⟩
 rw [if_pos c3] at H
 have c3b0 : decide (x10_1 < (l0.length : Int)) = true := zdt c3
 clear c3
 by_cases c4 : 0 ≤ x10_1
 rotate_left
 · rw [if_neg c4] at H
   exact absurd H (by simp)
 rw [if_pos c4] at H
 have c4b0 : decide (0 ≤ x10_1) = true := zdt c4
 clear c4
 by_cases c5 : x10_1 < (l0.length : Int)
 rotate_left
 · rw [if_neg c5] at H
   exact absurd H (by simp)
 rw [if_pos c5] at H
 have c5b0 : decide (x10_1 < (l0.length : Int)) = true := zdt c5
 clear c5
 by_cases c6 : x10_1 < (l1.length : Int)
 rotate_left
 · rw [if_neg c6] at H
   exact absurd H (by simp)
 rw [if_pos c6] at H
 have c6b0 : decide (x10_1 < (l1.length : Int)) = true := zdt c6
 clear c6
 replace H := zob H
 obtain ⟨t104, A70, H⟩ := H
 replace H : ((spec_l1Most.f x5_1 (wrap64 ((rd l1 x10_1) + t104))).bind fun t105 => (spec_orLength.l0 k1 l1 t105 l0 (l0.length : Int) (wrap64 (x10_1 + 1)))) = some r := H
 have A7 := zA A70
 clear A70
 replace H := zob H
 obtain ⟨t105, A80, H⟩ := H
 replace H : (spec_orLength.l0 k1 l1 t105 l0 (l0.length : Int) (wrap64 (x10_1 + 1))) = some r := H
 have A8 := zA A80
 clear A80
 have H' := zA H
 clear H
 have p101 : 0 ≤ (x10_1 : Int) := zde (by assumption)
 have q101 : x10_1 < (l0.length : Int) := zde (by assumption)
 obtain ⟨ad101, e101, hx101_0, hx101_1, hx101_2, hx101_3, hx101_4⟩ := at_T73 HR0.out x10_1 p101 q101
 cases e101
 replace hx101_0 := zkep HB.out hx101_0
 replace hx101_1 := zkep HB.out hx101_1
 replace hx101_2 := zkep HB.out hx101_2
 replace hx101_3 := zkep HB.out hx101_3
 replace hx101_4 := zkep HB.out hx101_4
 replace p101 := eq_true p101
 replace q101 := eq_true q101
 go_wp2_with (first | ((with_reducible refine gate_dst (N := 7) rfl ?_); refine box_event ?hg (N := 7) ?hd (cs := #[.string (⟨#[]⟩ : ByteArray), .int .i64 0, .int .i64 0, .int .i64 0, .int .i64 0]) (t := 73) ?hr ?_; (case hd => rfl); (case hg => rfl); (case hr => go_simp <;> rfl); intro gb102 hg w9 hbox hb; have zs := zpair (by repeat (first | (with_reducible first | exact HB.out | apply zba | apply zbn | apply zbd) | exact HB.out)) hb; have n0_ := zA (zs.1); have n1_ := zA (hbox); have n2_ := zA ((by rw [hg]; exact zs.2 : w.heap.size ≤ gb102)); have n3_ := n2_; clear HB; have HB := n0_; have BK102 := n1_; have GW102 := n2_; have GE102 := n3_; clear n0_ n1_ n2_ n3_; clear zs hb hbox hg; obtain ⟨hcz10_0, hcz10_1, hcz10_2, hcz10_3, hcz10_4⟩ := zc5 w9 (.string (⟨#[]⟩ : ByteArray)) (.int .i64 0) (.int .i64 0) (.int .i64 0) (.int .i64 0) BK102.out; obtain ⟨hfz10_0, hfz10_1, hfz10_2, hfz10_3, hfz10_4⟩ := zf5 BK102.out; have p103 : 0 ≤ (x10_1 : Int) := zde (by assumption); have q103 : x10_1 < (l1.length : Int) := zde (by assumption); obtain ⟨ad103, e103, hx103_0⟩ := Kd.at_int HR1.out x10_1 p103 q103; cases e103; have hn103_0 : ad103.block ≠ gb102 := Nat.ne_of_lt (Nat.lt_of_lt_of_le (by have := World.block_lt_of_cell? _ _ hx103_0; first | rwa [add_block] at this | exact this) GW102.out); have hn103_1 : ad103.block ≠ gb102 := Nat.ne_of_lt (Nat.lt_of_lt_of_le (by have := World.block_lt_of_cell? _ _ hx103_0; first | rwa [add_block] at this | exact this) GW102.out); have hn103_2 : ad103.block ≠ gb102 := Nat.ne_of_lt (Nat.lt_of_lt_of_le (by have := World.block_lt_of_cell? _ _ hx103_0; first | rwa [add_block] at this | exact this) GW102.out); have hn103_3 : ad103.block ≠ gb102 := Nat.ne_of_lt (Nat.lt_of_lt_of_le (by have := World.block_lt_of_cell? _ _ hx103_0; first | rwa [add_block] at this | exact this) GW102.out); have hn103_4 : ad103.block ≠ gb102 := Nat.ne_of_lt (Nat.lt_of_lt_of_le (by have := World.block_lt_of_cell? _ _ hx103_0; first | rwa [add_block] at this | exact this) GW102.out); replace hx103_0 := zkep HB.out hx103_0; replace hx103_0 := (cell_far (p := ⟨gb102, 0, none⟩) (by first | (rw [add_block]; exact hn103_0) | (show (Addr.add _ _).block ≠ _; rw [add_block]; exact hn103_0) | exact hn103_0) (.string ((rd_T73 l0 x10_1).f0))).trans hx103_0; replace hx103_0 := (cell_far (p := ⟨gb102, 1, none⟩) (by first | (rw [add_block]; exact hn103_1) | (show (Addr.add _ _).block ≠ _; rw [add_block]; exact hn103_1) | exact hn103_1) (.int .i64 ((rd_T73 l0 x10_1).f1))).trans hx103_0; replace hx103_0 := (cell_far (p := ⟨gb102, 2, none⟩) (by first | (rw [add_block]; exact hn103_2) | (show (Addr.add _ _).block ≠ _; rw [add_block]; exact hn103_2) | exact hn103_2) (.int .i64 ((rd_T73 l0 x10_1).f2))).trans hx103_0; replace hx103_0 := (cell_far (p := ⟨gb102, 3, none⟩) (by first | (rw [add_block]; exact hn103_3) | (show (Addr.add _ _).block ≠ _; rw [add_block]; exact hn103_3) | exact hn103_3) (.int .i64 ((rd_T73 l0 x10_1).f3))).trans hx103_0; replace hx103_0 := (cell_far (p := ⟨gb102, 4, none⟩) (by first | (rw [add_block]; exact hn103_4) | (show (Addr.add _ _).block ≠ _; rw [add_block]; exact hn103_4) | exact hn103_4) (.int .i64 ((rd_T73 l0 x10_1).f4))).trans hx103_0; (try have hy103_0 := fun (n_ : Nat) => (show (((((((w9.drewN n_).setCell ⟨gb102, 0, none⟩ (.string ((rd_T73 l0 x10_1).f0))).setCell ⟨gb102, 1, none⟩ (.int .i64 ((rd_T73 l0 x10_1).f1))).setCell ⟨gb102, 2, none⟩ (.int .i64 ((rd_T73 l0 x10_1).f2))).setCell ⟨gb102, 3, none⟩ (.int .i64 ((rd_T73 l0 x10_1).f3))).setCell ⟨gb102, 4, none⟩ (.int .i64 ((rd_T73 l0 x10_1).f4)))).cell? _ = some _ from hx103_0)); clear hn103_0; clear hn103_1; clear hn103_2; clear hn103_3; clear hn103_4; replace p103 := eq_true p103; replace q103 := eq_true q103) | (go_at_call 116; (with_reducible refine (spec_cdCost.calls ((rd_T73 l0 x10_1).f0) t104 _ A7.out).mono ?_); rintro e w' ⟨rfl, ⟨nd, rfl⟩⟩; (try first | exact ⟨rfl, _, World.drewN_drewN _ _ _⟩ | exact ⟨rfl, _, Eq.trans (World.drewN_drewN _ _ _) (congrArg (World.drewN _) (Nat.add_assoc _ _ _))⟩)) | (go_at_call 102; (with_reducible refine (spec_l1Most.calls x5_1 (wrap64 ((rd l1 x10_1) + t104)) t105 _ A8.out).mono ?_); rintro e w' ⟨rfl, ⟨nd, rfl⟩⟩; (try first | exact ⟨rfl, _, World.drewN_drewN _ _ _⟩ | exact ⟨rfl, _, Eq.trans (World.drewN_drewN _ _ _) (congrArg (World.drewN _) (Nat.add_assoc _ _ _))⟩)))
 repeat (go_quiet (first | ((with_reducible refine gate_dst (N := 7) rfl ?_); refine box_event ?hg (N := 7) ?hd (cs := #[.string (⟨#[]⟩ : ByteArray), .int .i64 0, .int .i64 0, .int .i64 0, .int .i64 0]) (t := 73) ?hr ?_; (case hd => rfl); (case hg => rfl); (case hr => go_simp <;> rfl); intro gb102 hg w9 hbox hb; have zs := zpair (by repeat (first | (with_reducible first | exact HB.out | apply zba | apply zbn | apply zbd) | exact HB.out)) hb; have n0_ := zA (zs.1); have n1_ := zA (hbox); have n2_ := zA ((by rw [hg]; exact zs.2 : w.heap.size ≤ gb102)); have n3_ := n2_; clear HB; have HB := n0_; have BK102 := n1_; have GW102 := n2_; have GE102 := n3_; clear n0_ n1_ n2_ n3_; clear zs hb hbox hg; obtain ⟨hcz10_0, hcz10_1, hcz10_2, hcz10_3, hcz10_4⟩ := zc5 w9 (.string (⟨#[]⟩ : ByteArray)) (.int .i64 0) (.int .i64 0) (.int .i64 0) (.int .i64 0) BK102.out; obtain ⟨hfz10_0, hfz10_1, hfz10_2, hfz10_3, hfz10_4⟩ := zf5 BK102.out; have p103 : 0 ≤ (x10_1 : Int) := zde (by assumption); have q103 : x10_1 < (l1.length : Int) := zde (by assumption); obtain ⟨ad103, e103, hx103_0⟩ := Kd.at_int HR1.out x10_1 p103 q103; cases e103; have hn103_0 : ad103.block ≠ gb102 := Nat.ne_of_lt (Nat.lt_of_lt_of_le (by have := World.block_lt_of_cell? _ _ hx103_0; first | rwa [add_block] at this | exact this) GW102.out); have hn103_1 : ad103.block ≠ gb102 := Nat.ne_of_lt (Nat.lt_of_lt_of_le (by have := World.block_lt_of_cell? _ _ hx103_0; first | rwa [add_block] at this | exact this) GW102.out); have hn103_2 : ad103.block ≠ gb102 := Nat.ne_of_lt (Nat.lt_of_lt_of_le (by have := World.block_lt_of_cell? _ _ hx103_0; first | rwa [add_block] at this | exact this) GW102.out); have hn103_3 : ad103.block ≠ gb102 := Nat.ne_of_lt (Nat.lt_of_lt_of_le (by have := World.block_lt_of_cell? _ _ hx103_0; first | rwa [add_block] at this | exact this) GW102.out); have hn103_4 : ad103.block ≠ gb102 := Nat.ne_of_lt (Nat.lt_of_lt_of_le (by have := World.block_lt_of_cell? _ _ hx103_0; first | rwa [add_block] at this | exact this) GW102.out); replace hx103_0 := zkep HB.out hx103_0; replace hx103_0 := (cell_far (p := ⟨gb102, 0, none⟩) (by first | (rw [add_block]; exact hn103_0) | (show (Addr.add _ _).block ≠ _; rw [add_block]; exact hn103_0) | exact hn103_0) (.string ((rd_T73 l0 x10_1).f0))).trans hx103_0; replace hx103_0 := (cell_far (p := ⟨gb102, 1, none⟩) (by first | (rw [add_block]; exact hn103_1) | (show (Addr.add _ _).block ≠ _; rw [add_block]; exact hn103_1) | exact hn103_1) (.int .i64 ((rd_T73 l0 x10_1).f1))).trans hx103_0; replace hx103_0 := (cell_far (p := ⟨gb102, 2, none⟩) (by first | (rw [add_block]; exact hn103_2) | (show (Addr.add _ _).block ≠ _; rw [add_block]; exact hn103_2) | exact hn103_2) (.int .i64 ((rd_T73 l0 x10_1).f2))).trans hx103_0; replace hx103_0 := (cell_far (p := ⟨gb102, 3, none⟩) (by first | (rw [add_block]; exact hn103_3) | (show (Addr.add _ _).block ≠ _; rw [add_block]; exact hn103_3) | exact hn103_3) (.int .i64 ((rd_T73 l0 x10_1).f3))).trans hx103_0; replace hx103_0 := (cell_far (p := ⟨gb102, 4, none⟩) (by first | (rw [add_block]; exact hn103_4) | (show (Addr.add _ _).block ≠ _; rw [add_block]; exact hn103_4) | exact hn103_4) (.int .i64 ((rd_T73 l0 x10_1).f4))).trans hx103_0; (try have hy103_0 := fun (n_ : Nat) => (show (((((((w9.drewN n_).setCell ⟨gb102, 0, none⟩ (.string ((rd_T73 l0 x10_1).f0))).setCell ⟨gb102, 1, none⟩ (.int .i64 ((rd_T73 l0 x10_1).f1))).setCell ⟨gb102, 2, none⟩ (.int .i64 ((rd_T73 l0 x10_1).f2))).setCell ⟨gb102, 3, none⟩ (.int .i64 ((rd_T73 l0 x10_1).f3))).setCell ⟨gb102, 4, none⟩ (.int .i64 ((rd_T73 l0 x10_1).f4)))).cell? _ = some _ from hx103_0)); clear hn103_0; clear hn103_1; clear hn103_2; clear hn103_3; clear hn103_4; replace p103 := eq_true p103; replace q103 := eq_true q103) | (go_at_call 116; (with_reducible refine (spec_cdCost.calls ((rd_T73 l0 x10_1).f0) t104 _ A7.out).mono ?_); rintro e w' ⟨rfl, ⟨nd, rfl⟩⟩; (try first | exact ⟨rfl, _, World.drewN_drewN _ _ _⟩ | exact ⟨rfl, _, Eq.trans (World.drewN_drewN _ _ _) (congrArg (World.drewN _) (Nat.add_assoc _ _ _))⟩)) | (go_at_call 102; (with_reducible refine (spec_l1Most.calls x5_1 (wrap64 ((rd l1 x10_1) + t104)) t105 _ A8.out).mono ?_); rintro e w' ⟨rfl, ⟨nd, rfl⟩⟩; (try first | exact ⟨rfl, _, World.drewN_drewN _ _ _⟩ | exact ⟨rfl, _, Eq.trans (World.drewN_drewN _ _ _) (congrArg (World.drewN _) (Nat.add_assoc _ _ _))⟩))); try go_wp2_with (first | ((with_reducible refine gate_dst (N := 7) rfl ?_); refine box_event ?hg (N := 7) ?hd (cs := #[.string (⟨#[]⟩ : ByteArray), .int .i64 0, .int .i64 0, .int .i64 0, .int .i64 0]) (t := 73) ?hr ?_; (case hd => rfl); (case hg => rfl); (case hr => go_simp <;> rfl); intro gb102 hg w9 hbox hb; have zs := zpair (by repeat (first | (with_reducible first | exact HB.out | apply zba | apply zbn | apply zbd) | exact HB.out)) hb; have n0_ := zA (zs.1); have n1_ := zA (hbox); have n2_ := zA ((by rw [hg]; exact zs.2 : w.heap.size ≤ gb102)); have n3_ := n2_; clear HB; have HB := n0_; have BK102 := n1_; have GW102 := n2_; have GE102 := n3_; clear n0_ n1_ n2_ n3_; clear zs hb hbox hg; obtain ⟨hcz10_0, hcz10_1, hcz10_2, hcz10_3, hcz10_4⟩ := zc5 w9 (.string (⟨#[]⟩ : ByteArray)) (.int .i64 0) (.int .i64 0) (.int .i64 0) (.int .i64 0) BK102.out; obtain ⟨hfz10_0, hfz10_1, hfz10_2, hfz10_3, hfz10_4⟩ := zf5 BK102.out; have p103 : 0 ≤ (x10_1 : Int) := zde (by assumption); have q103 : x10_1 < (l1.length : Int) := zde (by assumption); obtain ⟨ad103, e103, hx103_0⟩ := Kd.at_int HR1.out x10_1 p103 q103; cases e103; have hn103_0 : ad103.block ≠ gb102 := Nat.ne_of_lt (Nat.lt_of_lt_of_le (by have := World.block_lt_of_cell? _ _ hx103_0; first | rwa [add_block] at this | exact this) GW102.out); have hn103_1 : ad103.block ≠ gb102 := Nat.ne_of_lt (Nat.lt_of_lt_of_le (by have := World.block_lt_of_cell? _ _ hx103_0; first | rwa [add_block] at this | exact this) GW102.out); have hn103_2 : ad103.block ≠ gb102 := Nat.ne_of_lt (Nat.lt_of_lt_of_le (by have := World.block_lt_of_cell? _ _ hx103_0; first | rwa [add_block] at this | exact this) GW102.out); have hn103_3 : ad103.block ≠ gb102 := Nat.ne_of_lt (Nat.lt_of_lt_of_le (by have := World.block_lt_of_cell? _ _ hx103_0; first | rwa [add_block] at this | exact this) GW102.out); have hn103_4 : ad103.block ≠ gb102 := Nat.ne_of_lt (Nat.lt_of_lt_of_le (by have := World.block_lt_of_cell? _ _ hx103_0; first | rwa [add_block] at this | exact this) GW102.out); replace hx103_0 := zkep HB.out hx103_0; replace hx103_0 := (cell_far (p := ⟨gb102, 0, none⟩) (by first | (rw [add_block]; exact hn103_0) | (show (Addr.add _ _).block ≠ _; rw [add_block]; exact hn103_0) | exact hn103_0) (.string ((rd_T73 l0 x10_1).f0))).trans hx103_0; replace hx103_0 := (cell_far (p := ⟨gb102, 1, none⟩) (by first | (rw [add_block]; exact hn103_1) | (show (Addr.add _ _).block ≠ _; rw [add_block]; exact hn103_1) | exact hn103_1) (.int .i64 ((rd_T73 l0 x10_1).f1))).trans hx103_0; replace hx103_0 := (cell_far (p := ⟨gb102, 2, none⟩) (by first | (rw [add_block]; exact hn103_2) | (show (Addr.add _ _).block ≠ _; rw [add_block]; exact hn103_2) | exact hn103_2) (.int .i64 ((rd_T73 l0 x10_1).f2))).trans hx103_0; replace hx103_0 := (cell_far (p := ⟨gb102, 3, none⟩) (by first | (rw [add_block]; exact hn103_3) | (show (Addr.add _ _).block ≠ _; rw [add_block]; exact hn103_3) | exact hn103_3) (.int .i64 ((rd_T73 l0 x10_1).f3))).trans hx103_0; replace hx103_0 := (cell_far (p := ⟨gb102, 4, none⟩) (by first | (rw [add_block]; exact hn103_4) | (show (Addr.add _ _).block ≠ _; rw [add_block]; exact hn103_4) | exact hn103_4) (.int .i64 ((rd_T73 l0 x10_1).f4))).trans hx103_0; (try have hy103_0 := fun (n_ : Nat) => (show (((((((w9.drewN n_).setCell ⟨gb102, 0, none⟩ (.string ((rd_T73 l0 x10_1).f0))).setCell ⟨gb102, 1, none⟩ (.int .i64 ((rd_T73 l0 x10_1).f1))).setCell ⟨gb102, 2, none⟩ (.int .i64 ((rd_T73 l0 x10_1).f2))).setCell ⟨gb102, 3, none⟩ (.int .i64 ((rd_T73 l0 x10_1).f3))).setCell ⟨gb102, 4, none⟩ (.int .i64 ((rd_T73 l0 x10_1).f4)))).cell? _ = some _ from hx103_0)); clear hn103_0; clear hn103_1; clear hn103_2; clear hn103_3; clear hn103_4; replace p103 := eq_true p103; replace q103 := eq_true q103) | (go_at_call 116; (with_reducible refine (spec_cdCost.calls ((rd_T73 l0 x10_1).f0) t104 _ A7.out).mono ?_); rintro e w' ⟨rfl, ⟨nd, rfl⟩⟩; (try first | exact ⟨rfl, _, World.drewN_drewN _ _ _⟩ | exact ⟨rfl, _, Eq.trans (World.drewN_drewN _ _ _) (congrArg (World.drewN _) (Nat.add_assoc _ _ _))⟩)) | (go_at_call 102; (with_reducible refine (spec_l1Most.calls x5_1 (wrap64 ((rd l1 x10_1) + t104)) t105 _ A8.out).mono ?_); rintro e w' ⟨rfl, ⟨nd, rfl⟩⟩; (try first | exact ⟨rfl, _, World.drewN_drewN _ _ _⟩ | exact ⟨rfl, _, Eq.trans (World.drewN_drewN _ _ _) (congrArg (World.drewN _) (Nat.add_assoc _ _ _))⟩))))
 go_roundg k1
 case measure => have := HK1.out; omega
 case rel => exact ⟨(t105), (wrap64 (x10_1 + 1)), (by first | rfl | (simp; done) | (simp [*]; done)), (by first | rfl | (simp; done) | (simp [*]; done)), H', ⟨by have := HK1.out; omega⟩, ⟨by repeat (first | (with_reducible first | exact HB.out | apply zba | apply zbn | apply zbd | refine below_set ?_ GE102.out) | exact HB.out)⟩⟩
def spec_orWide.f (a0 : Int) : Option (Bool) := (spec_l1In.f a0 1 3).bind fun t101 => (some t101)
set_option maxHeartbeats 8000000 in
set_option maxRecDepth 100000 in
theorem spec_orWide.calls (a0 : Int) (r : Bool) (w : World) (h : spec_orWide.f a0 = some r) :
   Calls Try.prog 45 #[.int .i64 a0] w fun e w' => e = .returned (.bool r) ∧ Drawn0 w w' := by
 have H : ((spec_l1In.f a0 1 3).bind fun t101 => (some t101)) = some r := h
 clear h
 replace H := zob H
 obtain ⟨t101, A20, H⟩ := H
 replace H : (some t101) = some r := H
 have A2 := zA A20
 clear A20
 obtain rfl := zsi H
 go_enter Try.func45, Try.ntmps45
 go_wp2_with (first | ((with_reducible refine gate_callee (f := 60) rfl ?_); refine goesL_ (some 4) rfl rfl Try.func60 (by kernel_rfl) rfl #[.int .i64 a0, .int .i64 1, .int .i64 3] rfl (by (try simp only [List.map_toArray, List.map_cons, List.map_nil]); first | done | rfl | (simp only [List.length_drop, List.length_take]; rfl)) ?_; (with_reducible refine (spec_l1In.calls a0 1 3 t101 _ A2.out).mono ?_); rintro e w' ⟨rfl, ⟨nd, rfl⟩⟩; refine ⟨_, rfl, ?_⟩))
 go_ret
 exact ⟨by first | rfl | (simp; done) | (simp [*]; done), by repeat (first | exact Drawn0.refl _ | apply Drawn0.step)⟩
def spec_LeastLength.j0 : Nat → List (S73) → Int → Bool → Option (Int × Bool)
 | 0, _, _, _ => none
 | k + 1, x0, x1, x18 => if x18 = true then (some (0, false)) else ((spec_orBest.f k x0 x1).bind fun t103 => ((spec_orLength.f k x0 t103).bind fun t106 => (some (t106, true))))
def spec_LeastLength.f (k : Nat) (l0 : List (S73)) (a1 : Int) : Option (Int × Bool) := (spec_orGood.f k l0).bind fun t101 => (if t101 = true then ((spec_orWide.f a1).bind fun t102 => (if t102 = true then (spec_LeastLength.j0 k l0 a1 (decide ((l0.length : Int) > 7))) else (spec_LeastLength.j0 k l0 a1 true))) else (spec_LeastLength.j0 k l0 a1 true))
theorem spec_LeastLength.mono_l : ∀ k, (∀ y0 y1 y2, LeO (spec_LeastLength.j0 k y0 y1 y2) (spec_LeastLength.j0 (k + 1) y0 y1 y2))
 | 0 => fun _ _ _ r h => by simp [spec_LeastLength.j0] at h
 | k + 1 => by
   have ih0 := spec_LeastLength.mono_l k
   · intro y0 y1 y2
     unfold spec_LeastLength.j0
     repeat' first
     | (with_reducible first | exact ih0 _ _ _ | exact spec_orBest.mono _ _ _ | exact spec_orGood.mono _ _ | exact spec_orLength.mono _ _ _ | exact LeO.refl _ | exact LeO.none _ | refine LeO.ite ?_ ?_ | refine LeO.bind ?_ (fun _ => ?_))
     | exact LeO.none _
     | refine LeO.ite ?_ ?_
     | refine LeO.bind ?_ (fun _ => ?_)
theorem spec_LeastLength.mono : ∀ a0 a1 k, LeO (spec_LeastLength.f k a0 a1) (spec_LeastLength.f (k + 1) a0 a1) := by
 intro a0 a1 k
 have ih0 := spec_LeastLength.mono_l k
 unfold spec_LeastLength.f
 repeat' first
     | (with_reducible first | exact ih0 _ _ _ | exact spec_orBest.mono _ _ _ | exact spec_orGood.mono _ _ | exact spec_orLength.mono _ _ _ | exact LeO.refl _ | exact LeO.none _ | refine LeO.ite ?_ ?_ | refine LeO.bind ?_ (fun _ => ?_))
     | exact LeO.none _
     | refine LeO.ite ?_ ?_
     | refine LeO.bind ?_ (fun _ => ?_)
set_option maxHeartbeats 8000000 in
set_option maxRecDepth 100000 in
theorem spec_LeastLength.calls (k : Nat) (A0 : Option Addr) (c0 : Nat) (l0 : List (S73)) (a1 : Int) (r1 : Int) (r2 : Bool) (w : World) (hr0 : Kd.C k73 w A0 l0.length l0) (hc0 : l0.length ≤ c0) (h : spec_LeastLength.f k l0 a1 = some (r1, r2)) :
   Calls Try.prog 18 #[.slice A0 l0.length c0, .int .i64 a1] w fun e w' => e = .returned (.tuple #[.int .i64 r1, .bool r2]) ∧ Below w.heap.size w w' := by
 have HR0 := zA hr0
 have HC0 := zA hc0
 clear hr0 hc0
 have HB := zA (Below.refl w.heap.size w)
 have H : ((spec_orGood.f k l0).bind fun t101 => (if t101 = true then ((spec_orWide.f a1).bind fun t102 => (if t102 = true then (spec_LeastLength.j0 k l0 a1 (decide ((l0.length : Int) > 7))) else (spec_LeastLength.j0 k l0 a1 true))) else (spec_LeastLength.j0 k l0 a1 true))) = some (r1, r2) := h
 clear h
 have HC3 := zA H
 clear H
 go_enter Try.func18, Try.ntmps18
 go_upto_region 1 with (fail)
 go_cut [18] (fun v18 wc => ∃ (kq : Nat) (x18_2 : Bool), v18 = .bool x18_2 ∧ Aside0 (spec_LeastLength.j0 kq l0 a1 x18_2 = some (r1, r2)) ∧ Aside0 (kq ≤ k) ∧ Aside0 (Below w.heap.size w wc))
 case first =>
   have H := HC3.out
   clear HC3
   replace H := zob H
   obtain ⟨t101, A40, H⟩ := H
   replace H : (if t101 = true then ((spec_orWide.f a1).bind fun t102 => (if t102 = true then (spec_LeastLength.j0 k l0 a1 (decide ((l0.length : Int) > 7))) else (spec_LeastLength.j0 k l0 a1 true))) else (spec_LeastLength.j0 k l0 a1 true)) = some (r1, r2) := H
   have A4 := zA A40
   clear A40
   by_cases c5 : t101 = true
   rotate_left
   · replace c5 := zbf c5
     subst c5
     replace H : (spec_LeastLength.j0 k l0 a1 true) = some (r1, r2) := by rw [if_neg (show ¬ (false = true) by decide)] at H; exact H
     have H' := zA H
     clear H
     go_wp2_with (first | ((with_reducible refine gate_callee (f := 44) rfl ?_); refine goesL_ (some 7) rfl rfl Try.func44 (by kernel_rfl) rfl #[.slice A0 l0.length c0] rfl (by (try simp only [List.map_toArray, List.map_cons, List.map_nil]); first | done | rfl | (simp only [List.length_drop, List.length_take]; rfl)) ?_; (with_reducible refine (spec_orGood.calls k _ _ l0 false _ ?side1 ?side2 A4.out).mono ?_); (case side1 => repeat (first | exact (zCb HR0.out HB.out) | (with_reducible first | refine zCa ?_ _ | refine zCn ?_ _ | refine zCd ?_))); (case side2 => exact HC0.out); rintro e w10 ⟨rfl, hb⟩; refine ⟨_, rfl, ?_⟩; have n0_ := zA (below_step (by repeat (first | (with_reducible first | exact HB.out | apply zba | apply zbn | apply zbd) | exact HB.out)) hb); clear HB; have HB := n0_; clear n0_; (try clear hb)))
     go_meet
     case rel => exact ⟨_, (true), (by first | rfl | (simp; done) | (simp [*]; done)), H', ⟨by first | omega | exact zlr _⟩, ⟨by repeat (first | (with_reducible first | exact HB.out | apply zba | apply zbn | apply zbd) | exact HB.out)⟩⟩
   subst c5
   replace H : ((spec_orWide.f a1).bind fun t102 => (if t102 = true then (spec_LeastLength.j0 k l0 a1 (decide ((l0.length : Int) > 7))) else (spec_LeastLength.j0 k l0 a1 true))) = some (r1, r2) := by rw [if_pos rfl] at H; exact H
   replace H := zob H
   obtain ⟨t102, A60, H⟩ := H
   replace H : (if t102 = true then (spec_LeastLength.j0 k l0 a1 (decide ((l0.length : Int) > 7))) else (spec_LeastLength.j0 k l0 a1 true)) = some (r1, r2) := H
   have A6 := zA A60
   clear A60
   by_cases c7 : t102 = true
   · subst c7
     replace H : (spec_LeastLength.j0 k l0 a1 (decide ((l0.length : Int) > 7))) = some (r1, r2) := by rw [if_pos rfl] at H; exact H
     have H' := zA H
     clear H
     go_wp2_with (first | ((with_reducible refine gate_callee (f := 44) rfl ?_); refine goesL_ (some 7) rfl rfl Try.func44 (by kernel_rfl) rfl #[.slice A0 l0.length c0] rfl (by (try simp only [List.map_toArray, List.map_cons, List.map_nil]); first | done | rfl | (simp only [List.length_drop, List.length_take]; rfl)) ?_; (with_reducible refine (spec_orGood.calls k _ _ l0 true _ ?side1 ?side2 A4.out).mono ?_); (case side1 => repeat (first | exact (zCb HR0.out HB.out) | (with_reducible first | refine zCa ?_ _ | refine zCn ?_ _ | refine zCd ?_))); (case side2 => exact HC0.out); rintro e w8 ⟨rfl, hb⟩; refine ⟨_, rfl, ?_⟩; have n0_ := zA (below_step (by repeat (first | (with_reducible first | exact HB.out | apply zba | apply zbn | apply zbd) | exact HB.out)) hb); clear HB; have HB := n0_; clear n0_; (try clear hb)) | (go_at_call 45; (with_reducible refine (spec_orWide.calls a1 true _ A6.out).mono ?_); rintro e w' ⟨rfl, ⟨nd, rfl⟩⟩))
     go_meet
     case rel => exact ⟨_, (decide ((l0.length : Int) > 7)), (by first | rfl | (simp; done) | (simp [*]; done)), H', ⟨by first | omega | exact zlr _⟩, ⟨by repeat (first | (with_reducible first | exact HB.out | apply zba | apply zbn | apply zbd) | exact HB.out)⟩⟩
   replace c7 := zbf c7
   subst c7
   replace H : (spec_LeastLength.j0 k l0 a1 true) = some (r1, r2) := by rw [if_neg (show ¬ (false = true) by decide)] at H; exact H
   have H' := zA H
   clear H
   go_wp2_with (first | ((with_reducible refine gate_callee (f := 44) rfl ?_); refine goesL_ (some 7) rfl rfl Try.func44 (by kernel_rfl) rfl #[.slice A0 l0.length c0] rfl (by (try simp only [List.map_toArray, List.map_cons, List.map_nil]); first | done | rfl | (simp only [List.length_drop, List.length_take]; rfl)) ?_; (with_reducible refine (spec_orGood.calls k _ _ l0 true _ ?side1 ?side2 A4.out).mono ?_); (case side1 => repeat (first | exact (zCb HR0.out HB.out) | (with_reducible first | refine zCa ?_ _ | refine zCn ?_ _ | refine zCd ?_))); (case side2 => exact HC0.out); rintro e w9 ⟨rfl, hb⟩; refine ⟨_, rfl, ?_⟩; have n0_ := zA (below_step (by repeat (first | (with_reducible first | exact HB.out | apply zba | apply zbn | apply zbd) | exact HB.out)) hb); clear HB; have HB := n0_; clear n0_; (try clear hb)) | (go_at_call 45; (with_reducible refine (spec_orWide.calls a1 false _ A6.out).mono ?_); rintro e w' ⟨rfl, ⟨nd, rfl⟩⟩))
   go_meet
   case rel => exact ⟨_, (true), (by first | rfl | (simp; done) | (simp [*]; done)), H', ⟨by first | omega | exact zlr _⟩, ⟨by repeat (first | (with_reducible first | exact HB.out | apply zba | apply zbn | apply zbd) | exact HB.out)⟩⟩
 clear HC3
 try clear c1
 try clear p2
 try clear c4
 try clear c5
 try clear c7
 obtain ⟨kq, x18_2, rfl, HA, HJ2, HB⟩ := hcut
 cases kq with
 | zero => exact absurd HA.out (by simp [spec_LeastLength.j0])
 | succ kj2 =>
 have H := HA.out
 clear HA
 simp only [spec_LeastLength.j0] at H
 by_cases c11 : x18_2 = true
 · subst c11
   replace H : (some (0, false)) = some (r1, r2) := by rw [if_pos rfl] at H; exact H
   simp only [Option.some.injEq, Prod.mk.injEq] at H
   obtain ⟨rfl, rfl⟩ := H
   go_wp2
   go_ret2
   exact ⟨by first | rfl | (simp [errW_none, errW_some] <;> rfl) | (simp [*, errW_none, errW_some] <;> rfl), by repeat (first | (with_reducible first | exact HB.out | apply zba | apply zbn | apply zbd) | exact HB.out)⟩
 replace c11 := zbf c11
 subst c11
 replace H : ((spec_orBest.f kj2 l0 a1).bind fun t103 => ((spec_orLength.f kj2 l0 t103).bind fun t106 => (some (t106, true)))) = some (r1, r2) := by rw [if_neg (show ¬ (false = true) by decide)] at H; exact H
 replace H := zob H
 obtain ⟨t103, A120, H⟩ := H
 replace H : ((spec_orLength.f kj2 l0 t103).bind fun t106 => (some (t106, true))) = some (r1, r2) := H
 have A12 := zA A120
 clear A120
 replace H := zob H
 obtain ⟨t106, A130, H⟩ := H
 replace H : (some (t106, true)) = some (r1, r2) := H
 have A13 := zA A130
 clear A130
 simp only [Option.some.injEq, Prod.mk.injEq] at H
 obtain ⟨rfl, rfl⟩ := H
 go_wp2_with (first | ((with_reducible refine gate_callee (f := 46) rfl ?_); refine goesL_ (some 22) rfl rfl Try.func46 (by kernel_rfl) rfl #[.slice A0 l0.length c0, .int .i64 a1] rfl (by (try simp only [List.map_toArray, List.map_cons, List.map_nil]); first | done | rfl | (simp only [List.length_drop, List.length_take]; rfl)) ?_; (with_reducible refine (spec_orBest.calls kj2 _ _ l0 a1 t103 _ ?side1 ?side2 A12.out).mono ?_); (case side1 => repeat (first | exact (zCb HR0.out HB.out) | (with_reducible first | refine zCa ?_ _ | refine zCn ?_ _ | refine zCd ?_))); (case side2 => exact HC0.out); rintro e w14 ⟨v104, rfl, ho0, hb⟩; refine ⟨_, rfl, ?_⟩; have n0_ := zA (Kd.R_lower ho0 (below_size (by repeat (first | (with_reducible first | exact HB.out | apply zba | apply zbn | apply zbd) | exact HB.out)))); have n1_ := zA (below_step (by repeat (first | (with_reducible first | exact HB.out | apply zba | apply zbn | apply zbd) | exact HB.out)) hb); clear HB; have HO105 := n0_; have HB := n1_; clear n0_ n1_; (try clear hb); (try clear ho0); obtain ⟨Ao15, co15, eo15⟩ := Kd.R_slice HO105.out; subst eo15) | ((with_reducible refine gate_callee (f := 58) rfl ?_); refine goesL_ (some 23) rfl rfl Try.func58 (by kernel_rfl) rfl #[.slice A0 l0.length c0, .slice Ao15 t103.length co15] rfl (by (try simp only [List.map_toArray, List.map_cons, List.map_nil]); first | done | rfl | (simp only [List.length_drop, List.length_take]; rfl)) ?_; (with_reducible refine (spec_orLength.calls kj2 _ _ l0 _ _ t103 t106 _ ?side1 ?side2 ?side3 ?side4 A13.out).mono ?_); (case side1 => repeat (first | exact (zCb HR0.out HB.out) | (with_reducible first | refine zCa ?_ _ | refine zCn ?_ _ | refine zCd ?_))); (case side2 => exact HC0.out); (case side3 => repeat (first | exact (zRr HO105.out).2.2 | (with_reducible first | refine zCa ?_ _ | refine zCn ?_ _ | refine zCd ?_))); (case side4 => exact (zRr HO105.out).2.1); rintro e w16 ⟨rfl, hb⟩; refine ⟨_, rfl, ?_⟩; have n0_ := zA (zRb (by (with_reducible repeat (first | apply zRa | apply zRn | apply zRd)); exact HO105.out) hb); have n1_ := zA (below_step (by repeat (first | (with_reducible first | exact HB.out | apply zba | apply zbn | apply zbd) | exact HB.out)) hb); clear HO105 HB; have HO105 := n0_; have HB := n1_; clear n0_ n1_; (try clear hb)))
 go_ret2
 exact ⟨by first | rfl | (simp [errW_none, errW_some] <;> rfl) | (simp [*, errW_none, errW_some] <;> rfl), by repeat (first | (with_reducible first | exact HB.out | apply zba | apply zbn | apply zbd) | exact HB.out)⟩
def laws_FnExactLeastLength.j0 : Nat → List (S69) → List (S73) → Bool → Option (Bool)
 | 0, _, _, _ => none
 | k + 1, x0, x8, x38 => if x38 = true then (some false) else ((laws_toInstrS.f k x0).bind fun t112 => ((laws_eqInstrS.f k x8 t112).bind fun t115 => (if t115 = true then (some true) else (some false))))
def laws_FnExactLeastLength.f (k : Nat) (l0 : List (S69)) (a1 : Int) : Option (Bool) := (laws_szInstrS.f k l0 1048576).bind fun t101 => (if t101 < 0 then (some true) else ((laws_toInstrS.f k l0).bind fun t102 => ((spec_LeastLength.f k t102 a1).bind fun bt105 => ((laws_toInstrS.f k l0).bind fun t107 => ((impl_LeastLength.f k t107 a1).bind fun bt110 => (if bt110.1 = bt105.1 then (laws_FnExactLeastLength.j0 k l0 t107 (bt110.2 != bt105.2)) else (laws_FnExactLeastLength.j0 k l0 t107 true)))))))
theorem laws_FnExactLeastLength.mono_l : ∀ k, (∀ y0 y1 y2, LeO (laws_FnExactLeastLength.j0 k y0 y1 y2) (laws_FnExactLeastLength.j0 (k + 1) y0 y1 y2))
 | 0 => fun _ _ _ r h => by simp [laws_FnExactLeastLength.j0] at h
 | k + 1 => by
   have ih0 := laws_FnExactLeastLength.mono_l k
   · intro y0 y1 y2
     unfold laws_FnExactLeastLength.j0
     repeat' first
     | (with_reducible first | exact ih0 _ _ _ | exact impl_LeastLength.mono _ _ _ | exact laws_eqInstrS.mono _ _ _ | exact laws_szInstrS.mono _ _ _ | exact laws_toInstrS.mono _ _ | exact spec_LeastLength.mono _ _ _ | exact LeO.refl _ | exact LeO.none _ | refine LeO.ite ?_ ?_ | refine LeO.bind ?_ (fun _ => ?_))
     | exact LeO.none _
     | refine LeO.ite ?_ ?_
     | refine LeO.bind ?_ (fun _ => ?_)
theorem laws_FnExactLeastLength.mono : ∀ a0 a1 k, LeO (laws_FnExactLeastLength.f k a0 a1) (laws_FnExactLeastLength.f (k + 1) a0 a1) := by
 intro a0 a1 k
 have ih0 := laws_FnExactLeastLength.mono_l k
 unfold laws_FnExactLeastLength.f
 repeat' first
     | (with_reducible first | exact ih0 _ _ _ | exact impl_LeastLength.mono _ _ _ | exact laws_eqInstrS.mono _ _ _ | exact laws_szInstrS.mono _ _ _ | exact laws_toInstrS.mono _ _ | exact spec_LeastLength.mono _ _ _ | exact LeO.refl _ | exact LeO.none _ | refine LeO.ite ?_ ?_ | refine LeO.bind ?_ (fun _ => ?_))
     | exact LeO.none _
     | refine LeO.ite ?_ ?_
     | refine LeO.bind ?_ (fun _ => ?_)
set_option maxHeartbeats 8000000 in
set_option maxRecDepth 100000 in
theorem laws_FnExactLeastLength.calls (k : Nat) (A0 : Option Addr) (c0 : Nat) (l0 : List (S69)) (a1 : Int) (r : Bool) (w : World) (hr0 : Kd.C k69 w A0 l0.length l0) (hc0 : l0.length ≤ c0) (h : laws_FnExactLeastLength.f k l0 a1 = some r) :
   Calls Try.prog 4 #[.slice A0 l0.length c0, .int .i64 a1] w fun e w' => e = .returned (.bool r) ∧ Below w.heap.size w w' := by
 have HR0 := zA hr0
 have HC0 := zA hc0
 clear hr0 hc0
 have HB := zA (Below.refl w.heap.size w)
 have H : ((laws_szInstrS.f k l0 1048576).bind fun t101 => (if t101 < 0 then (some true) else ((laws_toInstrS.f k l0).bind fun t102 => ((spec_LeastLength.f k t102 a1).bind fun bt105 => ((laws_toInstrS.f k l0).bind fun t107 => ((impl_LeastLength.f k t107 a1).bind fun bt110 => (if bt110.1 = bt105.1 then (laws_FnExactLeastLength.j0 k l0 t107 (bt110.2 != bt105.2)) else (laws_FnExactLeastLength.j0 k l0 t107 true)))))))) = some r := h
 clear h
 replace H := zob H
 obtain ⟨t101, A30, H⟩ := H
 replace H : (if t101 < 0 then (some true) else ((laws_toInstrS.f k l0).bind fun t102 => ((spec_LeastLength.f k t102 a1).bind fun bt105 => ((laws_toInstrS.f k l0).bind fun t107 => ((impl_LeastLength.f k t107 a1).bind fun bt110 => (if bt110.1 = bt105.1 then (laws_FnExactLeastLength.j0 k l0 t107 (bt110.2 != bt105.2)) else (laws_FnExactLeastLength.j0 k l0 t107 true))))))) = some r := H
 have A3 := zA A30
 clear A30
 by_cases c4 : t101 < 0
 · rw [if_pos c4] at H
   have c4b0 : decide (t101 < 0) = true := zdt c4
   clear c4
   obtain rfl := zsi H
   go_enter Try.func4, Try.ntmps4
   go_wp2_with (first | ((with_reducible refine gate_callee (f := 9) rfl ?_); refine goesL_ (some 13) rfl rfl Try.func9 (by kernel_rfl) rfl #[.slice A0 l0.length c0, .int .i64 1048576] rfl (by (try simp only [List.map_toArray, List.map_cons, List.map_nil]); first | done | rfl | (simp only [List.length_drop, List.length_take]; rfl)) ?_; (with_reducible refine (laws_szInstrS.calls k _ _ l0 1048576 t101 _ ?side1 ?side2 A3.out).mono ?_); (case side1 => repeat (first | exact HR0.out | (with_reducible first | refine zCa ?_ _ | refine zCn ?_ _ | refine zCd ?_))); (case side2 => exact HC0.out); rintro e w5 ⟨rfl, hb⟩; refine ⟨_, rfl, ?_⟩; have n0_ := zA (below_step (by repeat (first | (with_reducible first | exact HB.out | apply zba | apply zbn | apply zbd) | exact HB.out)) hb); clear HB; have HB := n0_; clear n0_; (try clear hb)))
   go_ret
   exact ⟨by first | rfl | (simp [errW_none, errW_some] <;> rfl) | (simp [*, errW_none, errW_some] <;> rfl), by repeat (first | (with_reducible first | exact HB.out | apply zba | apply zbn | apply zbd) | exact HB.out)⟩
 rw [if_neg c4] at H
 have c4b0 : decide (t101 < 0) = false := zdf c4
 clear c4
 replace H := zob H
 obtain ⟨t102, A60, H⟩ := H
 replace H : ((spec_LeastLength.f k t102 a1).bind fun bt105 => ((laws_toInstrS.f k l0).bind fun t107 => ((impl_LeastLength.f k t107 a1).bind fun bt110 => (if bt110.1 = bt105.1 then (laws_FnExactLeastLength.j0 k l0 t107 (bt110.2 != bt105.2)) else (laws_FnExactLeastLength.j0 k l0 t107 true))))) = some r := H
 have A6 := zA A60
 clear A60
 replace H := zob H
 obtain ⟨⟨t105, t106⟩, A70, H⟩ := H
 replace H : ((laws_toInstrS.f k l0).bind fun t107 => ((impl_LeastLength.f k t107 a1).bind fun bt110 => (if bt110.1 = t105 then (laws_FnExactLeastLength.j0 k l0 t107 (bt110.2 != t106)) else (laws_FnExactLeastLength.j0 k l0 t107 true)))) = some r := H
 have A7 := zA A70
 clear A70
 replace H := zob H
 obtain ⟨t107, A80, H⟩ := H
 replace H : ((impl_LeastLength.f k t107 a1).bind fun bt110 => (if bt110.1 = t105 then (laws_FnExactLeastLength.j0 k l0 t107 (bt110.2 != t106)) else (laws_FnExactLeastLength.j0 k l0 t107 true))) = some r := H
 have A8 := zA A80
 clear A80
 replace H := zob H
 obtain ⟨⟨t110, t111⟩, A90, H⟩ := H
 replace H : (if t110 = t105 then (laws_FnExactLeastLength.j0 k l0 t107 (t111 != t106)) else (laws_FnExactLeastLength.j0 k l0 t107 true)) = some r := H
 have A9 := zA A90
 clear A90
 have HC10 := zA H
 clear H
 go_enter Try.func4, Try.ntmps4
 go_upto_region 8 with (first | ((with_reducible refine gate_callee (f := 9) rfl ?_); refine goesL_ (some 13) rfl rfl Try.func9 (by kernel_rfl) rfl #[.slice A0 l0.length c0, .int .i64 1048576] rfl (by (try simp only [List.map_toArray, List.map_cons, List.map_nil]); first | done | rfl | (simp only [List.length_drop, List.length_take]; rfl)) ?_; (with_reducible refine (laws_szInstrS.calls k _ _ l0 1048576 t101 _ ?side1 ?side2 A3.out).mono ?_); (case side1 => repeat (first | exact HR0.out | (with_reducible first | refine zCa ?_ _ | refine zCn ?_ _ | refine zCd ?_))); (case side2 => exact HC0.out); rintro e w11 ⟨rfl, hb⟩; refine ⟨_, rfl, ?_⟩; have n0_ := zA (below_step (by repeat (first | (with_reducible first | exact HB.out | apply zba | apply zbn | apply zbd) | exact HB.out)) hb); clear HB; have HB := n0_; clear n0_; (try clear hb)) | ((with_reducible refine gate_callee (f := 11) rfl ?_); refine goesL_ (some 18) rfl rfl Try.func11 (by kernel_rfl) rfl #[.slice A0 l0.length c0] rfl (by (try simp only [List.map_toArray, List.map_cons, List.map_nil]); first | done | rfl | (simp only [List.length_drop, List.length_take]; rfl)) ?_; (with_reducible refine (laws_toInstrS.calls k _ _ l0 t102 _ ?side1 ?side2 A6.out).mono ?_); (case side1 => repeat (first | exact (zCb HR0.out HB.out) | (with_reducible first | refine zCa ?_ _ | refine zCn ?_ _ | refine zCd ?_))); (case side2 => exact HC0.out); rintro e w12 ⟨v103, rfl, ho0, hb⟩; refine ⟨_, rfl, ?_⟩; have n0_ := zA (Kd.R_lower ho0 (below_size (by repeat (first | (with_reducible first | exact HB.out | apply zba | apply zbn | apply zbd) | exact HB.out)))); have n1_ := zA (below_step (by repeat (first | (with_reducible first | exact HB.out | apply zba | apply zbn | apply zbd) | exact HB.out)) hb); clear HB; have HO104 := n0_; have HB := n1_; clear n0_ n1_; (try clear hb); (try clear ho0); obtain ⟨Ao13, co13, eo13⟩ := Kd.R_slice HO104.out; subst eo13) | ((with_reducible refine gate_callee (f := 18) rfl ?_); refine goesL_ (some 20) rfl rfl Try.func18 (by kernel_rfl) rfl #[.slice Ao13 t102.length co13, .int .i64 a1] rfl (by (try simp only [List.map_toArray, List.map_cons, List.map_nil]); first | done | rfl | (simp only [List.length_drop, List.length_take]; rfl)) ?_; (with_reducible refine (spec_LeastLength.calls k _ _ t102 a1 t105 t106 _ ?side1 ?side2 A7.out).mono ?_); (case side1 => repeat (first | exact (zRr HO104.out).2.2 | (with_reducible first | refine zCa ?_ _ | refine zCn ?_ _ | refine zCd ?_))); (case side2 => exact (zRr HO104.out).2.1); rintro e w14 ⟨rfl, hb⟩; refine ⟨_, rfl, ?_⟩; have n0_ := zA (zRb (by (with_reducible repeat (first | apply zRa | apply zRn | apply zRd)); exact HO104.out) hb); have n1_ := zA (below_step (by repeat (first | (with_reducible first | exact HB.out | apply zba | apply zbn | apply zbd) | exact HB.out)) hb); clear HO104 HB; have HO104 := n0_; have HB := n1_; clear n0_ n1_; (try clear hb)) | ((with_reducible refine gate_callee (f := 11) rfl ?_); refine goesL_ (some 24) rfl rfl Try.func11 (by kernel_rfl) rfl #[.slice A0 l0.length c0] rfl (by (try simp only [List.map_toArray, List.map_cons, List.map_nil]); first | done | rfl | (simp only [List.length_drop, List.length_take]; rfl)) ?_; (with_reducible refine (laws_toInstrS.calls k _ _ l0 t107 _ ?side1 ?side2 A8.out).mono ?_); (case side1 => repeat (first | exact (zCb HR0.out HB.out) | (with_reducible first | refine zCa ?_ _ | refine zCn ?_ _ | refine zCd ?_))); (case side2 => exact HC0.out); rintro e w15 ⟨v108, rfl, ho0, hb⟩; refine ⟨_, rfl, ?_⟩; have n0_ := zA (Kd.R_elder' (by (with_reducible repeat (first | apply zRa | apply zRn | apply zRd)); exact HO104.out) (Kd.R_base ho0) hb); have n1_ := zA (Kd.R_lower (Kd.R_new' ho0 (Kd.R_lt (by (with_reducible repeat (first | apply zRa | apply zRn | apply zRd)); exact HO104.out))) (below_size (by repeat (first | (with_reducible first | exact HB.out | apply zba | apply zbn | apply zbd) | exact HB.out)))); have n2_ := zA (below_step (by repeat (first | (with_reducible first | exact HB.out | apply zba | apply zbn | apply zbd) | exact HB.out)) hb); clear HO104 HB; have HO104 := n0_; have HO109 := n1_; have HB := n2_; clear n0_ n1_ n2_; (try clear hb); (try clear ho0); obtain ⟨Ao16, co16, eo16⟩ := Kd.R_slice HO109.out; subst eo16) | ((with_reducible refine gate_callee (f := 19) rfl ?_); refine goesL_ (some 28) rfl rfl Try.func19 (by kernel_rfl) rfl #[.slice Ao16 t107.length co16, .int .i64 a1] rfl (by (try simp only [List.map_toArray, List.map_cons, List.map_nil]); first | done | rfl | (simp only [List.length_drop, List.length_take]; rfl)) ?_; (with_reducible refine (impl_LeastLength.calls k _ _ t107 a1 t110 t111 _ ?side1 ?side2 A9.out).mono ?_); (case side1 => repeat (first | exact (zRr HO109.out).2.2 | (with_reducible first | refine zCa ?_ _ | refine zCn ?_ _ | refine zCd ?_))); (case side2 => exact (zRr HO109.out).2.1); rintro e w17 ⟨rfl, hb⟩; refine ⟨_, rfl, ?_⟩; have n0_ := zA (zRb (by (with_reducible repeat (first | apply zRa | apply zRn | apply zRd)); exact HO104.out) hb); have n1_ := zA (zRb (by (with_reducible repeat (first | apply zRa | apply zRn | apply zRd)); exact HO109.out) hb); have n2_ := zA (below_step (by repeat (first | (with_reducible first | exact HB.out | apply zba | apply zbn | apply zbd) | exact HB.out)) hb); clear HO104 HO109 HB; have HO104 := n0_; have HO109 := n1_; have HB := n2_; clear n0_ n1_ n2_; (try clear hb)))
 (try simp only [Act.put, List.setIfInBounds_toArray, List.set_cons_zero, List.set_cons_succ])
 go_cut [38] (fun v38 wc => ∃ (kq : Nat) (x38_9 : Bool), v38 = .bool x38_9 ∧ Aside0 (laws_FnExactLeastLength.j0 kq l0 t107 x38_9 = some r) ∧ Aside0 (kq ≤ k) ∧ Aside0 (Kd.R k73 73 wc w.heap.size (fun _ => True) (.slice Ao16 t107.length co16) t107) ∧ Aside0 (Below w.heap.size w wc))
 case first =>
   have H := HC10.out
   clear HC10
   by_cases c18 : t110 = t105
   rotate_left
   · rw [if_neg c18] at H
     have c18b0 : (t110 == t105) = false := beq_eq_false_iff_ne.mpr c18
     have c18b1 : (t110 != t105) = true := bne_iff_ne.mpr c18
     (first | rw [c18b0] | (simp only [i64_w, i32_w]; rw [c18b0]) | skip)
     have H' := zA H
     clear H
     go_wp2
     go_meet
     case rel => exact ⟨_, (true), (by first | rfl | (simp; done) | (simp [*]; done)), H', ⟨by first | omega | exact zlr _⟩, ⟨by (with_reducible repeat (first | apply zRa | apply zRn | apply zRd)); exact Kd.R_mono HO109.out (fun _ hk => trivial)⟩, ⟨by repeat (first | (with_reducible first | exact HB.out | apply zba | apply zbn | apply zbd) | exact HB.out)⟩⟩
   rw [if_pos c18] at H
   have c18b0 : (t110 == t105) = true := beq_iff_eq.mpr c18
   have c18b1 : (t110 != t105) = false := bne_eq_false_iff_eq.mpr c18
   clear c18
   (first | rw [c18b0] | (simp only [i64_w, i32_w]; rw [c18b0]) | skip)
   have H' := zA H
   clear H
   go_wp2
   go_meet
   case rel => exact ⟨_, ((t111 != t106)), (by first | rfl | (simp; done) | (simp [*]; done)), H', ⟨by first | omega | exact zlr _⟩, ⟨by (with_reducible repeat (first | apply zRa | apply zRn | apply zRd)); exact Kd.R_mono HO109.out (fun _ hk => trivial)⟩, ⟨by repeat (first | (with_reducible first | exact HB.out | apply zba | apply zbn | apply zbd) | exact HB.out)⟩⟩
 clear HC10
 try clear c1
 try clear p2
 try clear c4
 try clear c4b0
 try clear c9
 try clear c11
 try clear c18
 try clear c18b0
 try clear c18b1
 obtain ⟨kq, x38_9, rfl, HA, HJ9, HO_8, HB⟩ := hcut
 cases kq with
 | zero => exact absurd HA.out (by simp [laws_FnExactLeastLength.j0])
 | succ kj9 =>
 have H := HA.out
 clear HA
 simp only [laws_FnExactLeastLength.j0] at H
 by_cases c19 : x38_9 = true
 · subst c19
   replace H : (some false) = some r := by rw [if_pos rfl] at H; exact H
   obtain rfl := zsi H
   go_wp2
   go_ret
   exact ⟨by first | rfl | (simp [errW_none, errW_some] <;> rfl) | (simp [*, errW_none, errW_some] <;> rfl), by repeat (first | (with_reducible first | exact HB.out | apply zba | apply zbn | apply zbd) | exact HB.out)⟩
 replace c19 := zbf c19
 subst c19
 replace H : ((laws_toInstrS.f kj9 l0).bind fun t112 => ((laws_eqInstrS.f kj9 t107 t112).bind fun t115 => (if t115 = true then (some true) else (some false)))) = some r := by rw [if_neg (show ¬ (false = true) by decide)] at H; exact H
 replace H := zob H
 obtain ⟨t112, A200, H⟩ := H
 replace H : ((laws_eqInstrS.f kj9 t107 t112).bind fun t115 => (if t115 = true then (some true) else (some false))) = some r := H
 have A20 := zA A200
 clear A200
 replace H := zob H
 obtain ⟨t115, A210, H⟩ := H
 replace H : (if t115 = true then (some true) else (some false)) = some r := H
 have A21 := zA A210
 clear A210
 by_cases c22 : t115 = true
 · subst c22
   replace H : (some true) = some r := by rw [if_pos rfl] at H; exact H
   obtain rfl := zsi H
   go_wp2_with (first | ((with_reducible refine gate_callee (f := 11) rfl ?_); refine goesL_ (some 41) rfl rfl Try.func11 (by kernel_rfl) rfl #[.slice A0 l0.length c0] rfl (by (try simp only [List.map_toArray, List.map_cons, List.map_nil]); first | done | rfl | (simp only [List.length_drop, List.length_take]; rfl)) ?_; (with_reducible refine (laws_toInstrS.calls kj9 _ _ l0 t112 _ ?side1 ?side2 A20.out).mono ?_); (case side1 => repeat (first | exact (zCb HR0.out HB.out) | (with_reducible first | refine zCa ?_ _ | refine zCn ?_ _ | refine zCd ?_))); (case side2 => exact HC0.out); rintro e w23 ⟨v113, rfl, ho0, hb⟩; refine ⟨_, rfl, ?_⟩; have n0_ := zA (Kd.R_elder' (by (with_reducible repeat (first | apply zRa | apply zRn | apply zRd)); exact HO_8.out) (Kd.R_base ho0) hb); have n1_ := zA (Kd.R_lower (Kd.R_new' ho0 (Kd.R_lt (by (with_reducible repeat (first | apply zRa | apply zRn | apply zRd)); exact HO_8.out))) (below_size (by repeat (first | (with_reducible first | exact HB.out | apply zba | apply zbn | apply zbd) | exact HB.out)))); have n2_ := zA (below_step (by repeat (first | (with_reducible first | exact HB.out | apply zba | apply zbn | apply zbd) | exact HB.out)) hb); clear HO_8 HB; have HO_8 := n0_; have HO114 := n1_; have HB := n2_; clear n0_ n1_ n2_; (try clear hb); (try clear ho0); obtain ⟨Ao24, co24, eo24⟩ := Kd.R_slice HO114.out; subst eo24) | ((with_reducible refine gate_callee (f := 14) rfl ?_); refine goesL_ (some 42) rfl rfl Try.func14 (by kernel_rfl) rfl #[.slice Ao16 t107.length co16, .slice Ao24 t112.length co24] rfl (by (try simp only [List.map_toArray, List.map_cons, List.map_nil]); first | done | rfl | (simp only [List.length_drop, List.length_take]; rfl)) ?_; (with_reducible refine (laws_eqInstrS.calls kj9 _ _ t107 _ _ t112 true _ ?side1 ?side2 ?side3 ?side4 A21.out).mono ?_); (case side1 => repeat (first | exact (zRr HO_8.out).2.2 | (with_reducible first | refine zCa ?_ _ | refine zCn ?_ _ | refine zCd ?_))); (case side2 => exact (zRr HO_8.out).2.1); (case side3 => repeat (first | exact (zRr HO114.out).2.2 | (with_reducible first | refine zCa ?_ _ | refine zCn ?_ _ | refine zCd ?_))); (case side4 => exact (zRr HO114.out).2.1); rintro e w25 ⟨rfl, hb⟩; refine ⟨_, rfl, ?_⟩; have n0_ := zA (zRb (by (with_reducible repeat (first | apply zRa | apply zRn | apply zRd)); exact HO_8.out) hb); have n1_ := zA (zRb (by (with_reducible repeat (first | apply zRa | apply zRn | apply zRd)); exact HO114.out) hb); have n2_ := zA (below_step (by repeat (first | (with_reducible first | exact HB.out | apply zba | apply zbn | apply zbd) | exact HB.out)) hb); clear HO_8 HO114 HB; have HO_8 := n0_; have HO114 := n1_; have HB := n2_; clear n0_ n1_ n2_; (try clear hb)))
   go_ret
   exact ⟨by first | rfl | (simp [errW_none, errW_some] <;> rfl) | (simp [*, errW_none, errW_some] <;> rfl), by repeat (first | (with_reducible first | exact HB.out | apply zba | apply zbn | apply zbd) | exact HB.out)⟩
 replace c22 := zbf c22
 subst c22
 replace H : (some false) = some r := by rw [if_neg (show ¬ (false = true) by decide)] at H; exact H
 obtain rfl := zsi H
 go_wp2_with (first | ((with_reducible refine gate_callee (f := 11) rfl ?_); refine goesL_ (some 41) rfl rfl Try.func11 (by kernel_rfl) rfl #[.slice A0 l0.length c0] rfl (by (try simp only [List.map_toArray, List.map_cons, List.map_nil]); first | done | rfl | (simp only [List.length_drop, List.length_take]; rfl)) ?_; (with_reducible refine (laws_toInstrS.calls kj9 _ _ l0 t112 _ ?side1 ?side2 A20.out).mono ?_); (case side1 => repeat (first | exact (zCb HR0.out HB.out) | (with_reducible first | refine zCa ?_ _ | refine zCn ?_ _ | refine zCd ?_))); (case side2 => exact HC0.out); rintro e w26 ⟨v113, rfl, ho0, hb⟩; refine ⟨_, rfl, ?_⟩; have n0_ := zA (Kd.R_elder' (by (with_reducible repeat (first | apply zRa | apply zRn | apply zRd)); exact HO_8.out) (Kd.R_base ho0) hb); have n1_ := zA (Kd.R_lower (Kd.R_new' ho0 (Kd.R_lt (by (with_reducible repeat (first | apply zRa | apply zRn | apply zRd)); exact HO_8.out))) (below_size (by repeat (first | (with_reducible first | exact HB.out | apply zba | apply zbn | apply zbd) | exact HB.out)))); have n2_ := zA (below_step (by repeat (first | (with_reducible first | exact HB.out | apply zba | apply zbn | apply zbd) | exact HB.out)) hb); clear HO_8 HB; have HO_8 := n0_; have HO114 := n1_; have HB := n2_; clear n0_ n1_ n2_; (try clear hb); (try clear ho0); obtain ⟨Ao27, co27, eo27⟩ := Kd.R_slice HO114.out; subst eo27) | ((with_reducible refine gate_callee (f := 14) rfl ?_); refine goesL_ (some 42) rfl rfl Try.func14 (by kernel_rfl) rfl #[.slice Ao16 t107.length co16, .slice Ao27 t112.length co27] rfl (by (try simp only [List.map_toArray, List.map_cons, List.map_nil]); first | done | rfl | (simp only [List.length_drop, List.length_take]; rfl)) ?_; (with_reducible refine (laws_eqInstrS.calls kj9 _ _ t107 _ _ t112 false _ ?side1 ?side2 ?side3 ?side4 A21.out).mono ?_); (case side1 => repeat (first | exact (zRr HO_8.out).2.2 | (with_reducible first | refine zCa ?_ _ | refine zCn ?_ _ | refine zCd ?_))); (case side2 => exact (zRr HO_8.out).2.1); (case side3 => repeat (first | exact (zRr HO114.out).2.2 | (with_reducible first | refine zCa ?_ _ | refine zCn ?_ _ | refine zCd ?_))); (case side4 => exact (zRr HO114.out).2.1); rintro e w28 ⟨rfl, hb⟩; refine ⟨_, rfl, ?_⟩; have n0_ := zA (zRb (by (with_reducible repeat (first | apply zRa | apply zRn | apply zRd)); exact HO_8.out) hb); have n1_ := zA (zRb (by (with_reducible repeat (first | apply zRa | apply zRn | apply zRd)); exact HO114.out) hb); have n2_ := zA (below_step (by repeat (first | (with_reducible first | exact HB.out | apply zba | apply zbn | apply zbd) | exact HB.out)) hb); clear HO_8 HO114 HB; have HO_8 := n0_; have HO114 := n1_; have HB := n2_; clear n0_ n1_ n2_; (try clear hb)))
 go_ret
 exact ⟨by first | rfl | (simp [errW_none, errW_some] <;> rfl) | (simp [*, errW_none, errW_some] <;> rfl), by repeat (first | (with_reducible first | exact HB.out | apply zba | apply zbn | apply zbd) | exact HB.out)⟩
end Go.Proofs.Ytpndpmnliblpjaa.Q
end
section
namespace Go.Proofs.Ytpndpmnliblpjaa.Rd
open Go Go.RowKit Go.Proofs.YtpndpmnliblpjaaW.PrintWords Go.Proofs.YtpndpmnliblpjaaW.PrintLast Go.ChangeShapes Go.WideShapes Go.Deep
set_option linter.unusedSimpArgs false
set_option linter.unusedVariables false
structure RdK {α : Type} (d : Kd α) (P : Program) (t : TypeId) (Good : α → Prop) : Prop where
  size : P.cellsOf t = d.sz
  get : ∀ {H : Type} {enc : TypeId × Value → H} {w : World} {n : Nat} {cs : List Value} {x : DataW H × List MemPlace}, DataW.trod enc P w 0 (fun _ => true) true n t cs = some x → ∃ a, d.K w a cs ∧ Good a
def okInt (k : IntKind) (n : Int) : Prop := (Lit.int k n).wf = true
def okStr (s : ByteArray) : Prop := s.size ≤ maxLen
def okSl {α : Type} (G : α → Prop) (xs : List α) : Prop := xs.length ≤ maxLen ∧ ∀ x ∈ xs, G x
theorem rk_int {P : Program} {t : TypeId} {k : IntKind} (ht : P.underlying t = some (.int k)) (hs : P.cellsOf t = 1) : RdK (Kd.int k) P t (okInt k) :=
  ⟨hs, fun h => by obtain ⟨n, rfl, _, hw⟩ := DataW.trod_int ht h; exact ⟨n, rfl, hw⟩⟩
theorem rk_string {P : Program} {t : TypeId} (ht : P.underlying t = some .string) (hs : P.cellsOf t = 1) : RdK Kd.string P t okStr :=
  ⟨hs, fun h => by obtain ⟨n, rfl, _, hw⟩ := DataW.trod_string ht h; exact ⟨n, rfl, hw⟩⟩
theorem rk_slice {α : Type} {d : Kd α} {P : Program} {t e : TypeId} {G : α → Prop} (hd : RdK d P e G) (ht : P.underlying t = some (.slice e)) (hs : P.cellsOf t = 1) : RdK (Kd.slice e d) P t (okSl G) := by
  refine ⟨hs, fun {H enc w n cs x} h => ?_⟩
  rcases open_slice ht h with ⟨rfl, _⟩ | ⟨a, len, cap, m, n', D, Pl, rfl, _, hl, hm, hmm, _, hx⟩
  · exact ⟨[], ⟨none, 0, rfl, Nat.le_refl _, rfl, Nat.zero_le _, fun h => absurd h (Nat.lt_irrefl 0)⟩, Nat.zero_le _, fun _ h => by cases h⟩
  · have hc : m = cap := by simpa using hmm
    subst hc
    have key : ∀ i : Fin len, ∃ a' : α, ∃ cs', d.K w a' cs' ∧ G a' ∧ w.cells? 0 (a.add (i * P.cellsOf e)) (P.cellsOf e) = some cs' := fun i => by
      obtain ⟨cs', h1, h2⟩ := hx i (by omega)
      obtain ⟨a', h3, h4⟩ := hd.get h2
      exact ⟨a', cs', h3, h4, h1⟩
    have hlen : (List.ofFn fun i => Classical.choose (key i)).length = len := List.length_ofFn
    refine ⟨List.ofFn fun i => Classical.choose (key i), ⟨some a, m, by rw [hlen], by omega, hlen.trans hlen.symm, ?_, fun _ => ⟨a, rfl, fun j p hj => ?_⟩⟩, by rw [hlen]; omega, fun y hy => ?_⟩
    · rw [hlen]; unfold maxLen at hm; omega
    · have hjl : j < len := by
        have := (List.getElem?_eq_some_iff.1 hj).1
        rwa [hlen] at this
      rw [List.getElem?_ofFn, dif_pos hjl, Option.some.injEq] at hj
      obtain ⟨cs', h1, h2, h3⟩ := Classical.choose_spec (key ⟨j, hjl⟩)
      rw [hj] at h1 h2
      obtain ⟨_, h5, h6⟩ := World.cells?_some h3
      refine ⟨cs', d.K_len h1, h1, fun i u hi => ?_⟩
      have hil : i < P.cellsOf e := by
        have := (List.getElem?_eq_some_iff.1 hi).1
        omega
      have := h6 i hil
      rw [Go.Deep.add_add] at this
      rw [← hd.size]
      exact this.trans hi
    · obtain ⟨i, rfl⟩ := List.mem_ofFn.1 hy
      obtain ⟨cs', h1, h2, h3⟩ := Classical.choose_spec (key i)
      exact h2
structure RdF {α : Type} (d : Kd α) (P : Program) (fs : List Field) (off : Nat) (Good : α → Prop) : Prop where
  get : ∀ {H : Type} {enc : TypeId × Value → H} {w : World} {n : Nat} {cs : List Value}, cs.length = off + d.sz →
    (∀ f ∈ fs, ∃ y, DataW.trod enc P w 0 (fun _ => true) true n f.type ((cs.drop f.offset).take (P.cellsOf f.type)) = some y) → ∃ a, d.K w a (cs.drop off) ∧ Good a
theorem rf_one {α : Type} {d : Kd α} {P : Program} {f : Field} {G : α → Prop} (hd : RdK d P f.type G) : RdF d P [f] f.offset G := by
  refine ⟨fun {H enc w n cs} hl h => ?_⟩
  obtain ⟨y, hy⟩ := h f (List.mem_singleton.2 rfl)
  rw [hd.size, List.take_of_length_le (by rw [List.length_drop]; omega)] at hy
  exact hd.get hy
theorem rf_cons {α β : Type} {d : Kd α} {d' : Kd β} {P : Program} {f : Field} {fs : List Field} {G : α → Prop} {G' : β → Prop} {off' : Nat} (hd : RdK d P f.type G) (ho : off' = f.offset + d.sz) (hf : RdF d' P fs off' G') :
    RdF (Kd.pair d d') P (f :: fs) f.offset (fun x => G x.1 ∧ G' x.2) := by
  refine ⟨fun {H enc w n cs} hl h => ?_⟩
  have hl' : cs.length = f.offset + (d.sz + d'.sz) := hl
  obtain ⟨y, hy⟩ := h f List.mem_cons_self
  rw [hd.size] at hy
  obtain ⟨a, h1, h2⟩ := hd.get hy
  obtain ⟨b, h3, h4⟩ := hf.get (cs := cs) (by omega) (fun g hg => h g (List.mem_cons_of_mem _ hg))
  refine ⟨(a, b), ⟨_, _, ?_, h1, h3⟩, h2, h4⟩
  rw [ho, ← List.drop_drop, List.take_append_drop]
theorem rk_struct {α : Type} {d : Kd α} {P : Program} {t : TypeId} {fs : Array Field} {G : α → Prop} (ht : P.underlying t = some (.struct fs)) (hs : P.cellsOf t = d.sz) (hf : RdF d P fs.toList 0 G) : RdK d P t G := by
  refine ⟨hs, fun {H enc w n cs x} h => ?_⟩
  obtain ⟨xs, n', _, _, hl, hlen, hg⟩ := DataW.trod_struct ht h
  have := hf.get (cs := cs) (enc := enc) (w := w) (n := n') (by omega) (fun f hf' => by
    obtain ⟨i, hi, he⟩ := List.getElem_of_mem hf'
    have h1 : fs[i]? = some f := by rw [← Array.getElem?_toList, List.getElem?_eq_getElem hi, he]
    have h2 := hg i f h1
    rw [List.getElem?_eq_getElem (by rw [hlen]; simpa using hi)] at h2
    exact ⟨_, h2⟩)
  simpa using this
theorem rk_iso {α β : Type} {d : Kd α} {P : Program} {t : TypeId} {G : α → Prop} (hd : RdK d P t G) (f : β → α) (g : α → β) (hfg : ∀ a, f (g a) = a) : RdK (Kd.iso d f) P t (fun b => G (f b)) := by
  refine ⟨hd.size, fun {H enc w n cs x} h => ?_⟩
  obtain ⟨a, h1, h2⟩ := hd.get h
  exact ⟨g a, by show d.K w (f (g a)) cs; rw [hfg]; exact h1, by rw [hfg]; exact h2⟩
theorem arg_slice {α : Type} {d : Kd α} {P : Program} {t e : TypeId} {G : α → Prop} (hd : RdK (Kd.slice e d) P t (okSl G)) {H : Type} {enc : TypeId × Value → H} {w : World} {a : Option Addr} {len cap : Nat} {x : DataW H} {ps : List MemPlace}
    (h : DataW.Trod enc P w 0 (fun _ => true) true t (.slice a len cap) x ps) : ∃ xs : List α, len = xs.length ∧ xs.length ≤ cap ∧ Kd.C d w a xs.length xs ∧ okSl G xs := by
  obtain ⟨n, hn⟩ := h
  obtain ⟨xs, ⟨A, c, he, hl, hc⟩, hg⟩ := hd.get hn
  simp [Value.cells] at he
  obtain ⟨rfl, rfl, rfl⟩ := he
  exact ⟨xs, rfl, hl, hc, hg⟩
end Go.Proofs.Ytpndpmnliblpjaa.Rd
end
section
namespace Go.Proofs.Ytpndpmnliblpjaa.Q
open Go.RowKit Go.Proofs.YtpndpmnliblpjaaW.PrintWords Go.Proofs.YtpndpmnliblpjaaW.PrintLast Go.Proofs.YtpndpmnliblpjaaW.PrintMore
attribute [local go_sem] max2_int min2_int max_two min_two max_three min_three max_four min_four
set_option linter.unusedVariables false
set_option linter.unusedSimpArgs false
def good69 (x : S69) : Prop := Rd.okStr x.f0 ∧ (Rd.okInt .i64) x.f1 ∧ (Rd.okInt .i64) x.f2 ∧ (Rd.okInt .i64) x.f3 ∧ (Rd.okInt .i64) x.f4
theorem rd69 : Rd.RdK k69 Try.prog 69 good69 :=
  Rd.rk_iso (Rd.rk_struct Try.underlying69 (by kernel_rfl) (Rd.rf_cons (Rd.rk_string Try.underlying9 (by kernel_rfl)) rfl (Rd.rf_cons (Rd.rk_int Try.underlying3 (by kernel_rfl)) rfl (Rd.rf_cons (Rd.rk_int Try.underlying3 (by kernel_rfl)) rfl (Rd.rf_cons (Rd.rk_int Try.underlying3 (by kernel_rfl)) rfl (Rd.rf_one (Rd.rk_int Try.underlying3 (by kernel_rfl)))))))) (fun x : S69 => (x.f0, x.f1, x.f2, x.f3, x.f4)) (fun p => ⟨p.1, p.2.1, p.2.2.1, p.2.2.2.1, p.2.2.2.2⟩) (fun _ => rfl)
def laws_FnExactLeastLength.Pure : Prop := ∀ (a0 : List (S69)) (a1 : Int), (Rd.okSl good69) a0 → (Rd.okInt .i64) a1 → ∃ k, laws_FnExactLeastLength.f k a0 a1 = some true
end Go.Proofs.Ytpndpmnliblpjaa.Q
end
section
namespace Go.Proofs.Ytpndpmnliblpjaa.PL
open Go Go.RowKit Go.Proofs.YtpndpmnliblpjaaW.PrintWords Go.Proofs.YtpndpmnliblpjaaW.PrintLast Go.Proofs.YtpndpmnliblpjaaW.PrintMore Go.Proofs.Ytpndpmnliblpjaa.Q
set_option linter.unusedSimpArgs false
set_option linter.unusedVariables false
theorem w64 {x : Int} (h1 : -9223372036854775808 ≤ x) (h2 : x < 9223372036854775808) : wrap64 x = x := by unfold wrap64; omega
theorem w64n (i : Nat) (h : i < 4611686018427387904) : wrap64 ((i : Int) + 1) = ((i + 1 : Nat) : Int) := by unfold wrap64; omega
theorem Ev.some {α : Type} {a r : α} (h : a = r) : Ev (fun _ => some a) r := h ▸ Ev.now a
theorem Ev.const {α : Type} {g : Option α} {r : α} (h : g = Option.some r) : Ev (fun _ => g) r := by rw [h]; exact Ev.now r
theorem ev_eq {α : Type} {g : Nat → Option α} {r s : α} (h : Ev g r) (e : r = s) : Ev g s := e ▸ h
theorem Ev.ifp {α : Type} {c : Prop} [Decidable c] {g g' : Nat → Option α} {r : α} (h : c) (H : Ev g r) : Ev (fun k => if c then g k else g' k) r := Ev.congr (fun _ => if_pos h) H
theorem Ev.ifn {α : Type} {c : Prop} [Decidable c] {g g' : Nat → Option α} {r : α} (h : ¬ c) (H : Ev g' r) : Ev (fun k => if c then g k else g' k) r := Ev.congr (fun _ => if_neg h) H
theorem Ev.call {α β : Type} {g : Option α} {f : Nat → α → Option β} {a : α} {r : β} (h : g = Option.some a) (k : Ev (fun n => f n a) r) : Ev (fun n => g.bind (f n)) r := by
  rw [h]; exact k
theorem loop_up {σ ρ : Type} (n : Nat) (L : Nat → σ → Int → Option ρ) (M : Nat → σ → ρ) (hend : ∀ s, Ev (fun k => L k s n) (M n s))
    (hstep : ∀ (i : Nat) s, i < n → (∀ s', Ev (fun k => L k s' ((i + 1 : Nat) : Int)) (M (i + 1) s')) → Ev (fun k => L k s i) (M i s)) :
    ∀ (d i : Nat) s, i + d = n → Ev (fun k => L k s i) (M i s)
  | 0, i, s, h => by
    have e : i = n := by omega
    rw [e]
    exact hend s
  | d + 1, i, s, h => hstep i s (by omega) (fun s' => loop_up n L M hend hstep d (i + 1) s' (by omega))
theorem loop_list {α σ ρ : Type} (xs : List α) (L : Nat → σ → Int → Option ρ) (m : List α → σ → ρ) (hend : ∀ s, Ev (fun k => L k s (xs.length : Nat)) (m [] s))
    (hstep : ∀ (i : Nat) s x rest, i < xs.length → (∀ d, xs.getD i d = x) → (∀ s', Ev (fun k => L k s' ((i + 1 : Nat) : Int)) (m rest s')) → Ev (fun k => L k s i) (m (x :: rest) s)) (s : σ) :
    Ev (fun k => L k s 0) (m xs s) := by
  have := loop_up xs.length L (fun i s => m (xs.drop i) s) (fun s => by simpa using hend s) (fun i s hi ih => by
    have e : xs.drop i = xs[i] :: xs.drop (i + 1) := List.drop_eq_getElem_cons hi
    show Ev (fun k => L k s i) (m (xs.drop i) s)
    rw [e]
    exact hstep i s xs[i] _ hi (fun d => by simp [List.getD, List.getElem?_eq_getElem hi]) ih) xs.length 0 s (by omega)
  simpa using this
def idx {α : Type} (p : α → Bool) : List α → Int
  | [] => -1
  | x :: xs => if p x = true then 0 else if idx p xs < 0 then -1 else idx p xs + 1
theorem idx_nonneg {α : Type} (p : α → Bool) (xs : List α) : 0 ≤ idx p xs ↔ ∃ x ∈ xs, p x = true := by
  induction xs with
  | nil => simp [idx]
  | cons x xs ih =>
    unfold idx
    by_cases h : p x = true
    · simp [h]
    · by_cases h2 : idx p xs < 0
      · rw [if_neg h, if_pos h2]
        have : ¬ ∃ x ∈ xs, p x = true := fun e => by have := ih.2 e; omega
        simp [h]
        simpa using this
      · rw [if_neg h, if_neg h2]
        have := ih.1 (by omega)
        simp [h]
        exact ⟨fun _ => this, fun _ => by omega⟩
theorem idx_ge {α : Type} (p : α → Bool) (xs : List α) : -1 ≤ idx p xs := by
  induction xs with
  | nil => unfold idx; simp
  | cons x xs ih => unfold idx; split; · decide
                    · split <;> omega
theorem search_ev {α : Type} (xs : List α) (p : α → Bool) (L : Nat → Int → Option Int) (hend : Ev (fun k => L k (xs.length : Nat)) (-1))
    (hyes : ∀ (i : Nat) x, i < xs.length → (∀ d, xs.getD i d = x) → p x = true → Ev (fun k => L k i) (i : Int))
    (hno : ∀ (i : Nat) x r, i < xs.length → (∀ d, xs.getD i d = x) → p x = false → Ev (fun k => L k ((i + 1 : Nat) : Int)) r → Ev (fun k => L k i) r) : Ev (fun k => L k 0) (idx p xs) := by
  have key : ∀ (d i : Nat), i + d = xs.length → Ev (fun k => L k i) (if idx p (xs.drop i) < 0 then -1 else idx p (xs.drop i) + i) := by
    intro d
    induction d with
    | zero =>
      intro i hi
      rw [List.drop_of_length_le (by omega), if_pos (show idx p [] < 0 by unfold idx; decide)]
      have e : i = xs.length := by omega
      rw [e]; exact hend
    | succ d ih =>
      intro i hi
      have hlt : i < xs.length := by omega
      have e : xs.drop i = xs[i] :: xs.drop (i + 1) := List.drop_eq_getElem_cons hlt
      have hg : ∀ d, xs.getD i d = xs[i] := fun d => by simp [List.getD, List.getElem?_eq_getElem hlt]
      rw [e]
      unfold idx
      by_cases h : p xs[i] = true
      · rw [if_pos h, if_neg (by decide)]
        simpa using hyes i _ hlt hg h
      · refine hno i _ _ hlt hg (by simpa using h) (ev_eq (ih (i + 1) (by omega)) ?_)
        rw [if_neg h]
        by_cases h2 : idx p (xs.drop (i + 1)) < 0
        · rw [if_pos h2, if_pos h2, if_pos (by decide)]
        · rw [if_neg h2, if_neg h2, if_neg (by omega)]
          omega
  have := key xs.length 0 (by omega)
  simp only [List.drop_zero, Int.natCast_zero, Int.add_zero] at this
  refine ev_eq this ?_
  have := idx_ge p xs
  split <;> omega
theorem all_ev {α : Type} (xs : List α) (p : α → Bool) (L : Nat → Int → Option Bool) (hend : Ev (fun k => L k (xs.length : Nat)) true)
    (hno : ∀ (i : Nat) x, i < xs.length → (∀ d, xs.getD i d = x) → p x = false → Ev (fun k => L k i) false)
    (hyes : ∀ (i : Nat) x r, i < xs.length → (∀ d, xs.getD i d = x) → p x = true → Ev (fun k => L k ((i + 1 : Nat) : Int)) r → Ev (fun k => L k i) r) : Ev (fun k => L k 0) (xs.all p) := by
  refine loop_list (σ := Unit) xs (fun k _ i => L k i) (fun l _ => l.all p) (fun _ => hend) (fun i _ x rest hi hx ih => ?_) ()
  by_cases h : p x = true
  · exact hyes i x _ hi hx h (ev_eq (ih ()) (by simp [h]))
  · have h' : p x = false := by simpa using h
    exact ev_eq (hno i x hi hx h') (by simp [h'])
theorem rd_eq {xs : List Int} {i : Nat} {x : Int} (h : ∀ d, xs.getD i d = x) : rd xs i = x := by unfold rd; rw [Int.toNat_natCast]; exact h 0
theorem rdI_eq {xs : List S73} {i : Nat} {x : S73} (h : ∀ d, xs.getD i d = x) : rd_T73 xs i = x := by unfold rd_T73; rw [Int.toNat_natCast]; exact h _
theorem rdJ_eq {xs : List S69} {i : Nat} {x : S69} (h : ∀ d, xs.getD i d = x) : rd_T69 xs i = x := by unfold rd_T69; rw [Int.toNat_natCast]; exact h _
theorem getD_eq {α : Type} (xs : List α) (i : Nat) (h : i < xs.length) : ∀ d, xs.getD i d = xs[i] := fun d => by simp [List.getD, List.getElem?_eq_getElem h]
theorem set_fill {α : Type} (xs ys : List α) (z : α) (v : α) : (xs ++ List.replicate (ys.length + 1) z).set xs.length v = (xs ++ [v]) ++ List.replicate ys.length z := by
  rw [List.set_append_right _ _ (Nat.le_refl _)]
  simp [List.replicate_succ]
end Go.Proofs.Ytpndpmnliblpjaa.PL
end
section
namespace Go.Proofs.Ytpndpmnliblpjaa.Q
open Go.RowKit Go.Proofs.YtpndpmnliblpjaaW.PrintWords Go.Proofs.YtpndpmnliblpjaaW.PrintLast Go.Proofs.YtpndpmnliblpjaaW.PrintMore
attribute [local go_sem] max2_int min2_int max_two min_two max_three min_three max_four min_four
set_option linter.unusedVariables false
set_option linter.unusedSimpArgs false
end Go.Proofs.Ytpndpmnliblpjaa.Q
end
section
namespace Go.Proofs.Ytpndpmnliblpjaa.PL
open Go Go.RowKit Go.Proofs.YtpndpmnliblpjaaW.PrintWords Go.Proofs.YtpndpmnliblpjaaW.PrintLast Go.Proofs.YtpndpmnliblpjaaW.PrintMore Go.Proofs.Ytpndpmnliblpjaa.Q
set_option linter.unusedSimpArgs false
set_option linter.unusedVariables false
abbrev Instr := S73
abbrev LInstr := S69
def cvI (x : LInstr) : Instr := ⟨x.f0, x.f1, x.f2, x.f3, x.f4⟩
theorem szInstr_eq (s : ByteArray) (a b c d r : Int) (hs : s.size ≤ maxLen) (h0 : 0 ≤ r) (h1 : r ≤ 1048576) : laws_szInstr.f s a b c d r = some (if r < s.size then -1 else r - s.size) := by
  unfold maxLen at hs
  unfold laws_szInstr.f
  rw [w64 (by omega) (by omega)]
  by_cases h : r < s.size
  · rw [if_pos (by omega), if_pos h]
  · rw [if_neg (by omega), if_neg h]
theorem szInstrS_ev (l : List LInstr) (a : Int) (hl : Rd.okSl good69 l) (h0 : 0 ≤ a) (h1 : a ≤ 1048576) :
    ∃ r, Ev (fun k => laws_szInstrS.f k l a) r ∧ (0 ≤ r → (l.length : Int) ≤ a ∧ (∀ x ∈ l, (x.f0.size : Int) ≤ a) ∧ r ≤ a) := by
  obtain ⟨hl1, hl2⟩ := hl
  unfold maxLen at hl1
  by_cases h : a < l.length
  · refine ⟨-1, ?_, fun h => absurd h (by decide)⟩
    unfold laws_szInstrS.f
    rw [w64 (by omega) (by omega)]
    simp only [show a - (l.length : Int) < 0 by omega, if_true]
    exact Ev.now _
  · have key : ∀ (d i : Nat) (r : Int), i + d = l.length → 0 ≤ r → r ≤ a → ∃ q, Ev (fun k => laws_szInstrS.l0 k l r i) q ∧ q ≤ a ∧ (0 ≤ q → ∀ x ∈ l.drop i, (x.f0.size : Int) ≤ a) := by
      intro d
      induction d with
      | zero =>
        intro i r hi hr _
        refine ⟨r, Ev.step (f := fun _ => some r) (fun k => ?_) (Ev.now _), by omega, fun _ x hx => ?_⟩
        · simp only [laws_szInstrS.l0]
          rw [if_neg (by omega)]
        · rw [List.drop_of_length_le (by omega)] at hx
          cases hx
      | succ d ih =>
        intro i r hi hr hra
        have hlt : i < l.length := by omega
        have e : l.drop i = l[i] :: l.drop (i + 1) := List.drop_eq_getElem_cons hlt
        have hx := rdJ_eq (getD_eq l i hlt)
        have hsz := (hl2 l[i] (List.getElem_mem hlt)).1
        by_cases hb : r < l[i].f0.size
        · refine ⟨-1, Ev.step (f := fun _ => some (-1)) (fun k => ?_) (Ev.now _), by omega, fun h => absurd h (by decide)⟩
          simp only [laws_szInstrS.l0]
          rw [if_pos (by omega), if_pos (by omega), hx, szInstr_eq _ _ _ _ _ _ hsz hr (by omega), if_pos hb]
          rfl
        · obtain ⟨q, hq, hqa, hq'⟩ := ih (i + 1) (r - l[i].f0.size) (by omega) (by omega) (by omega)
          refine ⟨q, Ev.step (f := fun k => laws_szInstrS.l0 k l (r - l[i].f0.size) ((i + 1 : Nat) : Int)) (fun k => ?_) hq, hqa, fun h x hx' => ?_⟩
          · simp only [laws_szInstrS.l0]
            rw [if_pos (by omega), if_pos (by omega), hx, szInstr_eq _ _ _ _ _ _ hsz hr (by omega), if_neg hb, Option.bind_some, if_neg (by omega), w64n i (by omega)]
          · rw [e] at hx'
            rcases List.mem_cons.1 hx' with rfl | hx'
            · omega
            · exact hq' h x hx'
    obtain ⟨q, hq, hqa, hq'⟩ := key l.length 0 (a - l.length) (by omega) (by omega) (by omega)
    refine ⟨q, ?_, fun h' => ⟨by omega, by simpa using hq' h', hqa⟩⟩
    unfold laws_szInstrS.f
    rw [w64 (by omega) (by omega)]
    simp only [show ¬ (a - (l.length : Int) < 0) by omega, if_false]
    simpa using hq
theorem toInstrS_ev (l : List LInstr) (hl : l.length ≤ 1048576) : Ev (fun k => laws_toInstrS.f k l) (l.map cvI) := by
  have key : ∀ (d i : Nat), i + d = l.length → Ev (fun k => laws_toInstrS.l0 k l ((l.take i).map cvI ++ List.replicate d z73) i) (l.map cvI) := by
    intro d
    induction d with
    | zero =>
      intro i hi
      refine Ev.step (f := fun _ => some _) (fun k => ?_) (Ev.now _)
      simp only [laws_toInstrS.l0]
      rw [if_neg (by omega), List.take_of_length_le (by omega)]
      simp
    | succ d ih =>
      intro i hi
      have hlt : i < l.length := by omega
      have hx := rdJ_eq (getD_eq l i hlt)
      refine Ev.step (fun k => ?_) (ih (i + 1) (by omega))
      simp only [laws_toInstrS.l0, laws_toInstr.f, Option.bind_some]
      rw [if_pos (by omega), if_pos (by omega), if_pos (by simp; omega), hx, w64n i (by omega)]
      congr 1
      have e : ((i : Int)).toNat = ((l.take i).map cvI).length := by simp; omega
      rw [e]
      have := set_fill ((l.take i).map cvI) (List.replicate d z73) z73 (cvI l[i])
      simp only [List.length_replicate] at this
      rw [show (⟨l[i].f0, l[i].f1, l[i].f2, l[i].f3, l[i].f4⟩ : Instr) = cvI l[i] from rfl, this]
      congr 1
      rw [List.take_succ_eq_append_getElem hlt, List.map_append]
      rfl
  unfold laws_toInstrS.f
  refine Ev.ifp (by omega) (Ev.ifp (by simp; omega) ?_)
  simpa using key l.length 0 (by omega)
theorem eqInstrS_refl (l : List Instr) (hl : l.length ≤ 1048576) : Ev (fun k => laws_eqInstrS.f k l l) true := by
  unfold laws_eqInstrS.f
  simp only [if_true]
  refine loop_list (σ := Unit) l (fun k _ i => laws_eqInstrS.l0 k l l i) (fun _ _ => true) (fun _ => ?_) (fun i _ x rest hi hx ih => ?_) ()
  · refine Ev.step (f := fun _ => some true) (fun k => ?_) (Ev.now _)
    simp only [laws_eqInstrS.l0]
    rw [if_neg (by omega)]
  · refine Ev.step (fun k => ?_) (ih ())
    simp only [laws_eqInstrS.l0, laws_eqInstr.f, reduceIte, Option.bind_some]
    rw [if_pos (by omega), if_pos (by omega), w64n i (by omega), if_pos (by omega)]
abbrev zI : Instr := z73
theorem rdI_at (l : List Instr) (i : Nat) : rd_T73 l (i : Int) = l.getD i zI := by unfold rd_T73; rw [Int.toNat_natCast]
theorem rdI_take (l : List Instr) (i j : Nat) (h : j < i) : rd_T73 (l.take i) (j : Int) = l.getD j zI := by
  rw [rdI_at]
  simp only [List.getD, List.getElem?_take, if_pos h]
theorem rdN_mid (A B : List Int) (x : Int) (i : Nat) (h : A.length = i) : rd (A ++ x :: B) (i : Int) = x := by
  subst h
  refine rd_eq (fun d => ?_)
  simp [List.getD]
theorem setN_mid {α : Type} (A B : List α) (x y : α) (i : Nat) (h : A.length = i) : (A ++ x :: B).set ((i : Int)).toNat y = A ++ y :: B := by
  subst h
  rw [Int.toNat_natCast, List.set_append_right _ _ (Nat.le_refl _), Nat.sub_self]
  rfl
theorem setAt_mid {α : Type} (A B : List α) (x y : α) (i : Nat) (h : A.length = i) : (A ++ x :: B).set i y = A ++ y :: B := by
  subst h
  rw [List.set_append_right _ _ (Nat.le_refl _), Nat.sub_self]
  rfl
theorem rdW_mid (A B : List (List Int)) (x : List Int) (i : Nat) (h : A.length = i) : rd_L4 (A ++ x :: B) (i : Int) = x := by
  subst h
  unfold rd_L4
  rw [Int.toNat_natCast]
  simp [List.getD]
theorem okAt {P : Instr → Prop} (l : List Instr) (i : Nat) (h : i < l.length) (ok : ∀ x ∈ l, P x) : P (l.getD i zI) := by
  rw [getD_eq l i h]
  exact ok _ (List.getElem_mem h)
def shapeC (c : Nat) : Bool × Bool × Bool × Int × Int :=
  match c with
  | 0 => (true, false, false, 0, 63)
  | 1 => (true, true, false, 0, 0)
  | 2 => (true, true, true, 0, 0)
  | 3 => (true, true, true, 0, 0)
  | 4 => (true, true, true, 0, 0)
  | 5 => (true, true, false, 0, 63)
  | 6 => (true, true, false, 1, 5)
  | 7 => (true, true, true, 1, 3)
  | _ => (false, false, false, 0, 0)
theorem shape_closed : ∀ p ∈ ops, spec_cdShape.f 20 p.1 = some (shapeC p.2) := by decide +kernel
theorem formOf_eq (s : ByteArray) : impl_formOf.f s = some (formC (cls s) s) := rfl
theorem shape_ev (s : ByteArray) : Ev (fun k => spec_cdShape.f k s) (shapeC (cls s)) := by
  refine op_cases (P := fun s => Ev (fun k => spec_cdShape.f k s) (shapeC (cls s))) s (fun p hp => ?_) (fun h => ?_)
  · rw [cls_op p hp]
    exact Ev.of (spec_cdShape.mono _) (shape_closed p hp)
  · rw [cls_none h]
    obtain ⟨h0, h1, h2, h3, h4, h5, h6, h7, h8, h9, h10, h11, h12, h13, h14, h15, h16, h17, h18, h19⟩ := not_ops h
    refine Ev.of (spec_cdShape.mono _) (k := 5) ?_
    simp only [spec_cdShape.f, spec_cdShape.j0, spec_cdShape.j1, spec_cdShape.j2, spec_cdShape.j3, h0, h1, h2, h3, h4, h5, h6, h7, h8, h9, h10, h11, h12, h13, h14, h15, h16, h17, h18, h19, if_false, beq_iff_eq]
    rfl
theorem within_eq (a b c : Int) : impl_within.f a b c = some (decide (b ≤ a ∧ a ≤ c)) := by
  unfold impl_within.f
  by_cases h : b ≤ a <;> simp [h]
theorem l1In_eq (a b c : Int) : spec_l1In.f a b c = some (decide (b ≤ a ∧ a ≤ c)) := by
  unfold spec_l1In.f
  by_cases h : a ≥ b
  · rw [if_pos h]; congr 1; rw [decide_eq_decide]; omega
  · rw [if_neg h]; congr 1; symm; rw [decide_eq_false_iff_not]; omega
theorem cdReg_eq (a : Int) : spec_cdReg.f a = some (decide (0 ≤ a ∧ a ≤ 5)) := by
  unfold spec_cdReg.f
  rw [l1In_eq]; rfl
def okI (x : Instr) : Prop := cls x.f0 ≠ 8 ∧ (0 ≤ x.f1 ∧ x.f1 ≤ 5) ∧ ((shapeC (cls x.f0)).2.1 = true ∧ 0 ≤ x.f2 ∧ x.f2 ≤ 5 ∨ x.f2 = 0) ∧ ((shapeC (cls x.f0)).2.2.1 = true ∧ 0 ≤ x.f3 ∧ x.f3 ≤ 5 ∨ x.f3 = 0) ∧ (shapeC (cls x.f0)).2.2.2.1 ≤ x.f4 ∧ x.f4 ≤ (shapeC (cls x.f0)).2.2.2.2
instance (x : Instr) : Decidable (okI x) := by unfold okI; infer_instance
theorem cls_le (s : ByteArray) : cls s ≤ 8 := by
  refine op_cases (P := fun s => cls s ≤ 8) s (by decide +kernel) (fun h => by rw [cls_none h]; exact Nat.le_refl _)
theorem cls_cases (s : ByteArray) : cls s = 0 ∨ cls s = 1 ∨ cls s = 2 ∨ cls s = 3 ∨ cls s = 4 ∨ cls s = 5 ∨ cls s = 6 ∨ cls s = 7 ∨ cls s = 8 := by have := cls_le s; omega
theorem isInstr_eq (x : Instr) : impl_IsInstr.f x.f0 x.f1 x.f2 x.f3 x.f4 = some (decide (okI x)) := by
  unfold impl_IsInstr.f
  congr 1
  obtain ⟨s, d, a, b, m⟩ := x
  simp only [okI]
  rw [Bool.eq_iff_iff]
  simp only [okF, Bool.and_eq_true, Bool.or_eq_true, decide_eq_true_eq, Bool.not_eq_true', decide_eq_false_iff_not]
  rcases cls_cases s with h | h | h | h | h | h | h | h | h <;> simp only [h, formC, shapeC] <;> simp <;> omega
theorem cdGood_ev (x : Instr) : Ev (fun k => spec_cdGood.f k x.f0 x.f1 x.f2 x.f3 x.f4) (decide (okI x)) := by
  unfold spec_cdGood.f
  refine Ev.bind (shape_ev x.f0) (Ev.const ?_)
  obtain ⟨s, d, a, b, m⟩ := x
  simp only [l1In_eq, cdReg_eq, Option.bind_some, okI]
  rcases cls_cases s with h | h | h | h | h | h | h | h | h <;> simp only [h, shapeC] <;> by_cases h1 : 0 ≤ d ∧ d ≤ 5 <;> by_cases h2 : 0 ≤ a ∧ a ≤ 5 <;> by_cases h3 : 0 ≤ b ∧ b ≤ 5 <;> (try simp [h1, h2, h3]) <;> (repeat' split) <;> (try (rw [Bool.eq_iff_iff]; simp only [Bool.and_eq_true, decide_eq_true_eq, beq_iff_eq, true_iff, false_iff, Bool.false_eq_true, iff_false, iff_true])) <;> (try simp only [Option.some.injEq]) <;> (try (rw [Bool.eq_iff_iff]; simp only [Bool.and_eq_true, decide_eq_true_eq, beq_iff_eq, true_iff, false_iff, Bool.false_eq_true, iff_false, iff_true])) <;> (try omega)
def costC (c : Nat) : Int := match c with | 3 => 2 | 4 => 4 | 8 => 0 | _ => 1
theorem cdCost_closed : ∀ p ∈ ops, spec_cdCost.f p.1 = some (costC p.2) := by decide +kernel
theorem formC_cost (c : Nat) (s : ByteArray) (hc : c ≤ 8) : (formC c s).2.2.2.2.1 = costC c := by
  rcases (show c = 0 ∨ c = 1 ∨ c = 2 ∨ c = 3 ∨ c = 4 ∨ c = 5 ∨ c = 6 ∨ c = 7 ∨ c = 8 by omega) with h | h | h | h | h | h | h | h | h <;> subst h <;> rfl
theorem cost_eq (x : Instr) : impl_Instr_cost.f x.f0 x.f1 x.f2 x.f3 x.f4 = some (costC (cls x.f0)) := by
  unfold impl_Instr_cost.f
  rw [formOf_eq, Option.bind_some, formC_cost _ _ (cls_le _)]
theorem cdCost_eq (s : ByteArray) (h : cls s ≠ 8) : spec_cdCost.f s = some (costC (cls s)) := by
  refine op_cases (P := fun s => cls s ≠ 8 → spec_cdCost.f s = some (costC (cls s))) s (fun p hp _ => ?_) (fun hn h => absurd (cls_none hn) h) h
  rw [cdCost_closed p hp, cls_op p hp]
theorem costC_le (c : Nat) : 0 ≤ costC c ∧ costC c ≤ 4 := by unfold costC; split <;> omega
theorem formU1 (c : Nat) (s : ByteArray) (h : c ≤ 8) : (formC c s).1 = (shapeC c).2.1 := by
  rcases (show c = 0 ∨ c = 1 ∨ c = 2 ∨ c = 3 ∨ c = 4 ∨ c = 5 ∨ c = 6 ∨ c = 7 ∨ c = 8 by omega) with h | h | h | h | h | h | h | h | h <;> subst h <;> rfl
theorem formU2 (c : Nat) (s : ByteArray) (h : c ≤ 8) : (formC c s).2.1 = (shapeC c).2.2.1 := by
  rcases (show c = 0 ∨ c = 1 ∨ c = 2 ∨ c = 3 ∨ c = 4 ∨ c = 5 ∨ c = 6 ∨ c = 7 ∨ c = 8 by omega) with h | h | h | h | h | h | h | h | h <;> subst h <;> rfl
def two (a b : Int) : List Int := if a < b then [a, b] else if a = b then [a] else [b, a]
def readsM (x : Instr) : List Int :=
  if (shapeC (cls x.f0)).2.1 = true then (if (shapeC (cls x.f0)).2.2.1 = true then two x.f2 x.f3 else [x.f2]) else (if (shapeC (cls x.f0)).2.2.1 = true then [x.f3] else [])
theorem readsM_len (x : Instr) : (readsM x).length ≤ 2 := by
  unfold readsM two
  repeat' split
  all_goals simp
theorem ms_nil : ([] : List Int).mergeSort (fun x y => decide (x ≤ y)) = [] := by simp
theorem ms_one (a : Int) : [a].mergeSort (fun x y => decide (x ≤ y)) = [a] := by simp
theorem ms_two (a b : Int) : [a, b].mergeSort (fun x y => decide (x ≤ y)) = if a ≤ b then [a, b] else [b, a] := by
  by_cases h : a ≤ b
  · rw [if_pos h]
    exact List.mergeSort_of_pairwise (by simp [h])
  · rw [if_neg h]
    have p : [a, b].mergeSort (fun x y => decide (x ≤ y)) |>.Perm [b, a] := (List.mergeSort_perm _ _).trans (List.Perm.swap _ _ _)
    have s := List.pairwise_mergeSort (le := fun x y : Int => decide (x ≤ y)) (fun a b c h1 h2 => by simp at *; omega) (fun a b => by simp; omega) [a, b]
    refine List.Perm.eq_of_pairwise (le := fun x y : Int => decide (x ≤ y) = true) (fun a b _ _ h1 h2 => by simp at *; omega) s ?_ p
    simp; omega
theorem lc_nil : Go.Lib.compact ([] : List Int) = [] := rfl
theorem lc_one (a : Int) : Go.Lib.compact [a] = [a] := rfl
theorem lc_two (a b : Int) : Go.Lib.compact [a, b] = if b = a then [a] else [a, b] := by
  show (([0, 1] : List Nat).filter (Go.Lib.keeps #[a, b])).map (#[a, b][·]!) = _
  by_cases h : b = a
  · simp [Go.Lib.keeps, h]
  · simp [Go.Lib.keeps, h]
def twoL : List Int → List Int
  | [a, b] => two a b
  | l => l
theorem sortCompact (l : List Int) (h : l.length ≤ 2) : ∃ m, slices_Sort_int_int.f l = some m ∧ slices_Compact_int_int.f m = some (twoL l) := by
  match l, h with
  | [], _ => exact ⟨[], by unfold slices_Sort_int_int.f; rw [if_pos (by decide), ms_nil], by unfold slices_Compact_int_int.f; rw [if_pos (by decide), lc_nil]; rfl⟩
  | [a], _ => exact ⟨[a], by unfold slices_Sort_int_int.f; rw [if_pos (by simp), ms_one], by unfold slices_Compact_int_int.f; rw [if_pos (by simp), lc_one]; rfl⟩
  | [a, b], _ =>
    refine ⟨_, by unfold slices_Sort_int_int.f; rw [if_pos (by simp)], ?_⟩
    show slices_Compact_int_int.f _ = some (two a b)
    rw [ms_two]
    unfold slices_Compact_int_int.f two
    by_cases h : a ≤ b
    · rw [if_pos h, if_pos (by simp), lc_two]
      by_cases e : a = b
      · rw [if_pos e.symm, if_neg (by omega), if_pos e]
      · rw [if_neg (fun q => e q.symm), if_pos (by omega)]
    · rw [if_neg h, if_pos (by simp), lc_two, if_neg (by omega), if_neg (by omega), if_neg (by omega)]
theorem reads_ev (x : Instr) : Ev (fun k => impl_Instr_reads.f k x.f0 x.f1 x.f2 x.f3 x.f4) (readsM x) := by
  unfold impl_Instr_reads.f
  refine Ev.call (formOf_eq x.f0) (Ev.call rfl ?_)
  have c8 := cls_le x.f0
  rw [formU1 _ _ c8, formU2 _ _ c8]
  unfold readsM
  have fin : ∀ (l : List Int), l.length ≤ 2 → Ev (fun _ => (slices_Sort_int_int.f l).bind fun t => (slices_Compact_int_int.f t).bind fun t' => some t') (twoL l) := fun l hl => by
    obtain ⟨m, h1, h2⟩ := sortCompact l hl
    exact Ev.call h1 (Ev.call h2 (Ev.now _))
  by_cases ha : (shapeC (cls x.f0)).2.1 = true
  · refine Ev.ifp ha (Ev.ifp (by simp) (Ev.step (fun k => by simp only [impl_Instr_reads.j0]; rfl) ?_))
    by_cases hb : (shapeC (cls x.f0)).2.2.1 = true
    · refine Ev.ifp hb (Ev.ifp (by simp) ?_)
      rw [if_pos ha, if_pos hb]
      exact fin [x.f2, x.f3] (by simp)
    · refine Ev.ifn hb ?_
      rw [if_pos ha, if_neg hb]
      exact fin [x.f2] (by simp)
  · refine Ev.ifn ha (Ev.step (fun k => by simp only [impl_Instr_reads.j0]; rfl) ?_)
    by_cases hb : (shapeC (cls x.f0)).2.2.1 = true
    · refine Ev.ifp hb (Ev.ifp (by simp) ?_)
      rw [if_neg ha, if_pos hb]
      exact fin [x.f3] (by simp)
    · refine Ev.ifn hb ?_
      rw [if_neg ha, if_neg hb]
      exact fin [] (by simp)
theorem put_nil (n : Int) : Ev (fun k => spec_l1Put.f k [] n) [n] := by
  unfold spec_l1Put.f
  refine Ev.step (f := fun _ => some [n]) (fun k => ?_) (Ev.now _)
  simp only [spec_l1Put.l0]
  rw [if_neg (by simp)]
  rfl
theorem put_one (a n : Int) : Ev (fun k => spec_l1Put.f k [a] n) (two a n) := by
  unfold spec_l1Put.f two
  refine Ev.step (fun k => by simp only [spec_l1Put.l0, show rd [a] 0 = a from rfl]; rfl) (Ev.ifp (by simp) (Ev.ifp (by decide) ?_))
  by_cases h : a < n
  · rw [if_pos h]
    refine Ev.ifp h (Ev.step (f := fun _ => some [a, n]) (fun k => ?_) (Ev.now _))
    rw [show wrap64 (0 + 1) = 1 from by unfold wrap64; omega]
    simp only [spec_l1Put.l0]
    rw [if_neg (by simp)]
    rfl
  · refine Ev.ifn h ?_
    rw [if_neg h]
    by_cases e : a = n
    · refine Ev.ifp e ?_
      rw [if_pos e]
      exact Ev.now _
    · refine Ev.ifn e ?_
      rw [if_neg e]
      exact Ev.const rfl
theorem cdReads_ev (x : Instr) : Ev (fun k => spec_cdReads.f k x.f0 x.f1 x.f2 x.f3 x.f4) (readsM x) := by
  unfold spec_cdReads.f readsM
  refine Ev.bind (shape_ev x.f0) ?_
  by_cases ha : (shapeC (cls x.f0)).2.1 = true
  · refine Ev.ifp ha (Ev.bind (put_nil x.f2) ?_)
    by_cases hb : (shapeC (cls x.f0)).2.2.1 = true
    · refine Ev.ifp hb (Ev.bind (put_one x.f2 x.f3) ?_)
      rw [if_pos ha, if_pos hb]
      exact Ev.now _
    · refine Ev.ifn hb ?_
      rw [if_pos ha, if_neg hb]
      exact Ev.now _
  · refine Ev.ifn ha ?_
    by_cases hb : (shapeC (cls x.f0)).2.2.1 = true
    · refine Ev.ifp hb (Ev.bind (put_nil x.f3) ?_)
      rw [if_neg ha, if_pos hb]
      exact Ev.now _
    · refine Ev.ifn hb ?_
      rw [if_neg ha, if_neg hb]
      exact Ev.now _
theorem contains_ev (l : List Int) (n : Int) (hl : l.length ≤ 1048576) : Ev (fun k => slices_Contains_int_int.f k l n) (decide (n ∈ l)) := by
  have hs : Ev (fun k => slices_Index_int_int.f k l n) (idx (fun x => decide (n = x)) l) := by
    unfold slices_Index_int_int.f
    refine search_ev l _ (fun k i => slices_Index_int_int.l0 k l n l.length i) ?_ (fun i x hi hx hp => ?_) (fun i x r hi hx hp hr => ?_)
    · refine Ev.step (f := fun _ => some (-1)) (fun k => ?_) (Ev.now _)
      simp only [slices_Index_int_int.l0]
      rw [if_neg (by omega)]
    · exact Ev.step (fun k => by simp only [slices_Index_int_int.l0, rd_eq hx]; rfl) (Ev.ifp (by omega) (Ev.ifp (by omega) (Ev.ifp (by omega) (Ev.ifp (of_decide_eq_true hp) (Ev.now _)))))
    · refine Ev.step (fun k => by simp only [slices_Index_int_int.l0, rd_eq hx]; rfl) (Ev.ifp (by omega) (Ev.ifp (by omega) (Ev.ifp (by omega) (Ev.ifn (of_decide_eq_false hp) ?_))))
      rw [w64n i (by omega)]
      exact hr
  unfold slices_Contains_int_int.f
  refine Ev.bind hs (Ev.some ?_)
  have e := idx_nonneg (fun x => decide (n = x)) l
  rw [decide_eq_decide]
  constructor
  · intro h
    obtain ⟨x, hx, hx'⟩ := e.1 h
    rw [of_decide_eq_true hx']
    exact hx
  · exact fun h => e.2 ⟨n, h, decide_eq_true rfl⟩
theorem has_ev (l : List Int) (n : Int) (hl : l.length ≤ 1048576) : Ev (fun k => spec_l1Has.f k l n) (decide (n ∈ l)) := by
  unfold spec_l1Has.f
  refine loop_list (σ := Unit) l (fun k _ i => spec_l1Has.l0 k n l l.length i) (fun rest _ => decide (n ∈ rest)) (fun _ => ?_) (fun i _ x rest hi hx ih => ?_) ()
  · refine Ev.step (f := fun _ => some false) (fun k => ?_) (Ev.some (by simp))
    simp only [spec_l1Has.l0]
    rw [if_neg (by omega)]
  · refine Ev.step (fun k => by simp only [spec_l1Has.l0, rd_eq hx]; rfl) (Ev.ifp (by omega) (Ev.ifp (by omega) (Ev.ifp (by omega) ?_)))
    by_cases h : x = n
    · exact Ev.ifp h (Ev.some (by simp [h]))
    · refine Ev.ifn h ?_
      rw [w64n i (by omega)]
      refine ev_eq (ih ()) ?_
      rw [decide_eq_decide, List.mem_cons]
      exact ⟨.inr, fun q => q.elim (fun e => absurd e.symm h) id⟩
end Go.Proofs.Ytpndpmnliblpjaa.PL
end
section
namespace Go.Proofs.Ytpndpmnliblpjaa.PL
open Go Go.RowKit Go.Proofs.YtpndpmnliblpjaaW.PrintWords Go.Proofs.YtpndpmnliblpjaaW.PrintLast Go.Proofs.YtpndpmnliblpjaaW.PrintMore Go.Proofs.Ytpndpmnliblpjaa.Q
set_option linter.unusedSimpArgs false
set_option linter.unusedVariables false
def overB (l : List Instr) (j i : Nat) : Bool := ((l.take i).drop (j + 1)).any fun z => decide (z.f1 = (l.getD j zI).f1)
def dlyB (x y : Instr) (over : Bool) : Int :=
  if x.f1 ∈ readsM y ∧ over = false then max (if x.f1 = y.f1 then 1 else if y.f1 ∈ readsM x then 0 else -1) (costC (cls x.f0)) else if x.f1 = y.f1 then 1 else if y.f1 ∈ readsM x then 0 else -1
def dly (l : List Instr) (j i : Nat) : Int := dlyB (l.getD j zI) (l.getD i zI) (overB l j i)
theorem dly_le (l : List Instr) (j i : Nat) : -1 ≤ dly l j i ∧ dly l j i ≤ 4 := by
  have := costC_le (cls (l.getD j zI).f0)
  unfold dly dlyB
  repeat' split
  all_goals omega
def rowI (l : List Instr) (i m : Nat) : List Int := (List.range m).map fun j => dly l j i
theorem rowI_succ (l : List Instr) (i m : Nat) : rowI l i (m + 1) = rowI l i m ++ [dly l m i] := by simp [rowI, List.range_succ]
theorem rowI_len (l : List Instr) (i m : Nat) : (rowI l i m).length = m := by simp [rowI]
def tabI (l : List Instr) (m : Nat) : List (List Int) := (List.range m).map fun i => rowI l i i
theorem tabI_succ (l : List Instr) (m : Nat) : tabI l (m + 1) = tabI l m ++ [rowI l m m] := by simp [tabI, List.range_succ]
theorem tabI_len (l : List Instr) (m : Nat) : (tabI l m).length = m := by simp [tabI]
theorem mx_eq (a b : Int) : mx a b = max a b := by unfold mx; omega
theorem over_ev (l : List Instr) (hl : l.length ≤ 1048576) (x : Instr) : Ev (fun k => slices_ContainsFunc_impl_delays_1.f k l [x]) (l.any fun z => decide (z.f1 = x.f1)) := by
  have hs : Ev (fun k => slices_IndexFunc_impl_delays_1.f k l [x]) (idx (fun z => decide (z.f1 = x.f1)) l) := by
    unfold slices_IndexFunc_impl_delays_1.f
    refine search_ev l _ (fun k i => slices_IndexFunc_impl_delays_1.l0 k l l.length i [x]) ?_ (fun i z hi hx hp => ?_) (fun i z r hi hx hp hr => ?_)
    · refine Ev.step (f := fun _ => some (-1)) (fun k => ?_) (Ev.now _)
      simp only [slices_IndexFunc_impl_delays_1.l0]
      rw [if_neg (by omega)]
    · have hc : impl_delays_1.f z.f0 z.f1 z.f2 z.f3 z.f4 [x] = some (z.f1 == x.f1) := by unfold impl_delays_1.f; rw [if_pos (by simp)]; rfl
      exact Ev.step (fun k => by simp only [slices_IndexFunc_impl_delays_1.l0, rdI_eq hx, hc, Option.bind_some]; rfl) (Ev.ifp (by omega) (Ev.ifp (by omega) (Ev.ifp (by omega) (Ev.ifp (by simpa using hp) (Ev.now _)))))
    · have hc : impl_delays_1.f z.f0 z.f1 z.f2 z.f3 z.f4 [x] = some (z.f1 == x.f1) := by unfold impl_delays_1.f; rw [if_pos (by simp)]; rfl
      refine Ev.step (fun k => by simp only [slices_IndexFunc_impl_delays_1.l0, rdI_eq hx, hc, Option.bind_some]; rfl) (Ev.ifp (by omega) (Ev.ifp (by omega) (Ev.ifp (by omega) (Ev.ifn (by simpa using hp) ?_))))
      rw [w64n i (by omega)]
      exact hr
  unfold slices_ContainsFunc_impl_delays_1.f
  refine Ev.bind hs (Ev.some ?_)
  have e := idx_nonneg (fun z => decide (z.f1 = x.f1)) l
  cases h : l.any fun z => decide (z.f1 = x.f1) with
  | true =>
    obtain ⟨z, hz, hz'⟩ := List.any_eq_true.1 h
    exact decide_eq_true (e.2 ⟨z, hz, hz'⟩)
  | false =>
    refine decide_eq_false (fun q => ?_)
    obtain ⟨z, hz, hz'⟩ := e.1 q
    have := List.any_eq_false.1 h z hz
    exact this hz'
theorem repeat_eq (i : Nat) (h : i ≤ 1048576) : slices_Repeat_int_int.f [(-1)] (i : Int) = some (List.replicate i (-1)) := by
  unfold slices_Repeat_int_int.f
  rw [if_pos ⟨by simp, by omega, by omega⟩, Int.toNat_natCast]
  rfl
section
variable (l : List Instr) (hl : l.length ≤ 1048576) (A B : List (List Int)) (i j : Nat) (hA : A.length = i) (hj : j < i) (hi : i < l.length)
include hl hA hj hi
theorem implJ3_ev (P Q : List Int) (t : Int) (hP : P.length = j) (T : List (List Int))
    (hc : Ev (fun k => impl_delays.l1 k l (A ++ (P ++ (if (l.getD j zI).f1 ∈ readsM (l.getD i zI) ∧ overB l j i = false then max t (costC (cls (l.getD j zI).f0)) else t) :: Q) :: B) i l l.length i (l.take i) i ((j + 1 : Nat) : Int) (l.getD i zI).f0 (l.getD i zI).f1 (l.getD i zI).f2 (l.getD i zI).f3 (l.getD i zI).f4) T) :
    Ev (fun k => impl_delays.j3 k l (A ++ (P ++ t :: Q) :: B) i j l l.length i (l.take i) i j (l.getD i zI).f0 (l.getD i zI).f1 (l.getD i zI).f2 (l.getD i zI).f3 (l.getD i zI).f4 (l.getD j zI).f0 (l.getD j zI).f1 (l.getD j zI).f2 (l.getD j zI).f3 (l.getD j zI).f4) T := by
  refine Ev.step (fun k => by simp only [impl_delays.j3]; rfl) ?_
  rw [w64n j (by omega)]
  refine Ev.ifp (by omega) (Ev.ifp (by omega) (Ev.ifp (by omega) ?_))
  rw [Int.toNat_natCast, Int.toNat_natCast]
  have ho := over_ev ((l.take i).drop (j + 1)) (by simp only [List.length_drop, List.length_take]; omega) (l.getD j zI)
  refine Ev.bind ho (Ev.bind (reads_ev (l.getD i zI)) (Ev.bind (contains_ev _ _ (Nat.le_trans (readsM_len _) (by decide))) ?_))
  by_cases hr : (l.getD j zI).f1 ∈ readsM (l.getD i zI)
  · refine Ev.ifp (decide_eq_true hr) ?_
    cases ho' : overB l j i with
    | true =>
      rw [if_neg (fun q => by rw [ho'] at q; exact absurd q.2 (by decide))] at hc
      exact Ev.ifp ho' hc
    | false =>
      rw [if_pos ⟨hr, ho'⟩] at hc
      refine Ev.ifn (fun q => by rw [show overB l j i = true from q] at ho'; cases ho') ?_
      rw [rdW_mid A B _ i hA]
      refine Ev.ifp (by omega) (Ev.ifp (by rw [List.length_append, List.length_cons]; omega) (Ev.ifp (by omega) (Ev.ifp (by rw [List.length_append, List.length_cons]; omega) ?_)))
      refine Ev.call (cost_eq (l.getD j zI)) ?_
      rw [rdN_mid P Q t j hP, setN_mid P Q t _ j hP, setAt_mid A B _ _ i hA, mx_eq]
      exact hc
  · rw [if_neg (fun q => hr q.1)] at hc
    exact Ev.ifn (fun q => hr (of_decide_eq_true q)) hc
theorem implJ2_ev (P Q : List Int) (t : Int) (hP : P.length = j) (T : List (List Int)) (ht : t = if (l.getD i zI).f1 ∈ readsM (l.getD j zI) then 0 else -1)
    (hc : Ev (fun k => impl_delays.l1 k l (A ++ (P ++ dly l j i :: Q) :: B) i l l.length i (l.take i) i ((j + 1 : Nat) : Int) (l.getD i zI).f0 (l.getD i zI).f1 (l.getD i zI).f2 (l.getD i zI).f3 (l.getD i zI).f4) T) :
    Ev (fun k => impl_delays.j2 k l (A ++ (P ++ t :: Q) :: B) i j l l.length i (l.take i) i j (l.getD i zI).f0 (l.getD i zI).f1 (l.getD i zI).f2 (l.getD i zI).f3 (l.getD i zI).f4 (l.getD j zI).f0 (l.getD j zI).f1 (l.getD j zI).f2 (l.getD j zI).f3 (l.getD j zI).f4) T := by
  refine Ev.step (fun k => by simp only [impl_delays.j2]; rfl) ?_
  unfold dly dlyB at hc
  by_cases h : (l.getD j zI).f1 = (l.getD i zI).f1
  · rw [if_pos h] at hc
    refine Ev.ifp h ?_
    rw [rdW_mid A B _ i hA]
    refine Ev.ifp (by omega) (Ev.ifp (by rw [List.length_append, List.length_cons]; omega) (Ev.ifp (by omega) (Ev.ifp (by rw [List.length_append, List.length_cons]; omega) ?_)))
    rw [setN_mid P Q t _ j hP, setN_mid A B _ _ i hA]
    exact implJ3_ev l hl A B i j hA hj hi P Q 1 hP T hc
  · rw [if_neg h, ← ht] at hc
    exact Ev.ifn h (implJ3_ev l hl A B i j hA hj hi P Q t hP T hc)
theorem implL1_one (P Q : List Int) (hP : P.length = j) (T : List (List Int))
    (hc : Ev (fun k => impl_delays.l1 k l (A ++ (P ++ dly l j i :: Q) :: B) i l l.length i (l.take i) i ((j + 1 : Nat) : Int) (l.getD i zI).f0 (l.getD i zI).f1 (l.getD i zI).f2 (l.getD i zI).f3 (l.getD i zI).f4) T) :
    Ev (fun k => impl_delays.l1 k l (A ++ (P ++ (-1) :: Q) :: B) i l l.length i (l.take i) i j (l.getD i zI).f0 (l.getD i zI).f1 (l.getD i zI).f2 (l.getD i zI).f3 (l.getD i zI).f4) T := by
  have hti : (l.take i).length = i := by rw [List.length_take]; omega
  refine Ev.step (fun k => by simp only [impl_delays.l1]; rfl) (Ev.ifp (by omega) (Ev.ifp (by omega) (Ev.ifp (by omega) ?_)))
  rw [rdI_take l i j hj]
  refine Ev.bind (reads_ev (l.getD j zI)) (Ev.bind (contains_ev _ _ (Nat.le_trans (readsM_len _) (by decide))) ?_)
  by_cases hr : (l.getD i zI).f1 ∈ readsM (l.getD j zI)
  · refine Ev.ifp (decide_eq_true hr) ?_
    rw [rdW_mid A B _ i hA]
    refine Ev.ifp (by omega) (Ev.ifp (by rw [List.length_append, List.length_cons]; omega) (Ev.ifp (by rw [List.length_append, List.length_cons]; omega) ?_))
    rw [setN_mid P Q _ _ j hP, setN_mid A B _ _ i hA]
    exact implJ2_ev l hl A B i j hA hj hi P Q 0 hP T (by rw [if_pos hr]) hc
  · exact Ev.ifn (fun q => hr (of_decide_eq_true q)) (implJ2_ev l hl A B i j hA hj hi P Q (-1) hP T (by rw [if_neg hr]) hc)
end
theorem implRow_ev (l : List Instr) (hl : l.length ≤ 1048576) (A B : List (List Int)) (i : Nat) (hA : A.length = i) (hi : i < l.length) (T : List (List Int))
    (hc : Ev (fun k => impl_delays.l0 k l (A ++ rowI l i i :: B) l l.length (wrap64 ((i : Int) + 1))) T) :
    ∀ (d j : Nat), j + d = i → Ev (fun k => impl_delays.l1 k l (A ++ (rowI l i j ++ List.replicate d (-1)) :: B) i l l.length i (l.take i) i j (l.getD i zI).f0 (l.getD i zI).f1 (l.getD i zI).f2 (l.getD i zI).f3 (l.getD i zI).f4) T := by
  intro d
  induction d with
  | zero =>
    intro j hj
    obtain rfl : j = i := by omega
    rw [List.replicate_zero, List.append_nil]
    exact Ev.step (fun k => by simp only [impl_delays.l1]; rfl) (Ev.ifn (by omega) hc)
  | succ d ih =>
    intro j hj
    rw [List.replicate_succ]
    refine implL1_one l hl A B i j hA (by omega) hi (rowI l i j) (List.replicate d (-1)) (rowI_len l i j) T ?_
    have := ih (j + 1) (by omega)
    rw [rowI_succ, List.append_assoc, List.singleton_append] at this
    exact this
theorem delays_ev (l : List Instr) (hl : l.length ≤ 1048576) : Ev (fun k => impl_delays.f k l) (tabI l l.length) := by
  have key : ∀ (d i : Nat), i + d = l.length → Ev (fun k => impl_delays.l0 k l (tabI l i ++ List.replicate d []) l l.length i) (tabI l l.length) := by
    intro d
    induction d with
    | zero =>
      intro i hi
      obtain rfl : i = l.length := by omega
      rw [List.replicate_zero, List.append_nil]
      refine Ev.step (f := fun _ => some (tabI l l.length)) (fun k => ?_) (Ev.now _)
      simp only [impl_delays.l0]
      rw [if_neg (by omega)]
    | succ d ih =>
      intro i hi
      have hti : (l.take i).length = i := by rw [List.length_take]; omega
      rw [List.replicate_succ]
      refine Ev.step (fun k => by simp only [impl_delays.l0]; rfl) (Ev.ifp (by omega) (Ev.ifp (by omega) (Ev.ifp (by omega) (Ev.call (repeat_eq i (by omega)) ?_))))
      refine Ev.ifp (by rw [List.length_append, List.length_cons, tabI_len]; omega) (Ev.ifp (by omega) (Ev.call rfl ?_))
      rw [setN_mid (tabI l i) _ _ _ i (tabI_len l i), Int.toNat_natCast, hti, rdI_at]
      refine implRow_ev l hl (tabI l i) (List.replicate d []) i (tabI_len l i) (by omega) _ ?_ i 0 (by omega)
      rw [w64n i (by omega)]
      have := ih (i + 1) (by omega)
      rw [tabI_succ, List.append_assoc, List.singleton_append] at this
      exact this
  unfold impl_delays.f
  refine Ev.ifp (by omega) (Ev.ifp (by rw [Int.toNat_natCast]; omega) ?_)
  rw [Int.toNat_natCast]
  have := key l.length 0 (by omega)
  simpa [tabI] using this
theorem orDelay_ev (l : List Instr) (hl : l.length ≤ 1048576) (ok : ∀ x ∈ l, okI x) (i j : Nat) (hij : i < j) (hj : j < l.length) : Ev (fun k => spec_orDelay.f k l (i : Int) (j : Int)) (dly l i j) := by
  have hx := okAt (P := okI) l i (by omega) ok
  have last : ∀ (t : Int) (d p : Nat) (v : Int), p + d = j → i < p → (v = i ∨ (i : Int) < v) →
      Ev (fun k => spec_orDelay.l0 k l i j t v p (l.getD i zI).f0 (l.getD i zI).f1 (l.getD i zI).f2 (l.getD i zI).f3 (l.getD i zI).f4) (if v = i ∧ (((l.take j).drop p).any fun z => decide (z.f1 = (l.getD i zI).f1)) = false then max t (costC (cls (l.getD i zI).f0)) else t) := by
    intro t d
    induction d with
    | zero =>
      intro p v hp hip hv
      rw [List.drop_of_length_le (by rw [List.length_take]; omega)]
      refine Ev.step (fun k => by simp only [spec_orDelay.l0]; rfl) (Ev.ifn (by omega) ?_)
      have hm : spec_l1Most.f t (costC (cls (l.getD i zI).f0)) = some (max t (costC (cls (l.getD i zI).f0))) := by
        unfold spec_l1Most.f
        by_cases q : t > costC (cls (l.getD i zI).f0)
        · rw [if_pos q]; congr 1; omega
        · rw [if_neg q]; congr 1; omega
      by_cases h : v = i
      · refine Ev.ifp h (Ev.call (cdCost_eq _ hx.1) (Ev.call hm (Ev.some ?_)))
        rw [if_pos ⟨h, rfl⟩]
      · refine Ev.ifn h (Ev.some ?_)
        rw [if_neg (fun q => h q.1)]
    | succ d ih =>
      intro p v hp hip hv
      have hlt : p < (l.take j).length := by rw [List.length_take]; omega
      have e : (l.take j).drop p = (l.take j)[p] :: (l.take j).drop (p + 1) := List.drop_eq_getElem_cons hlt
      have e2 : (l.take j)[p] = l.getD p zI := by
        rw [List.getElem_take, getD_eq l p (by omega)]
      rw [e, e2, List.any_cons]
      refine Ev.step (fun k => by simp only [spec_orDelay.l0]; rfl) (Ev.ifp (by omega) (Ev.ifp (by omega) (Ev.ifp (by omega) ?_)))
      rw [rdI_at, w64n p (by omega)]
      by_cases h : (l.getD p zI).f1 = (l.getD i zI).f1
      · refine Ev.ifp h (ev_eq (ih (p + 1) p (by omega) (by omega) (.inr (by omega))) ?_)
        rw [if_neg (fun q => by have := q.1; omega), if_neg (fun q => by have := q.2; rw [decide_eq_true h] at this; cases this)]
      · refine Ev.ifn h (ev_eq (ih (p + 1) v (by omega) (by omega) hv) ?_)
        rw [decide_eq_false h, Bool.false_or]
  have j1 : ∀ t : Int, Ev (fun k => spec_orDelay.j1 k l i j t (l.getD i zI).f0 (l.getD i zI).f1 (l.getD i zI).f2 (l.getD i zI).f3 (l.getD i zI).f4 (l.getD j zI).f0 (l.getD j zI).f1 (l.getD j zI).f2 (l.getD j zI).f3 (l.getD j zI).f4)
      (if (l.getD i zI).f1 ∈ readsM (l.getD j zI) ∧ overB l i j = false then max t (costC (cls (l.getD i zI).f0)) else t) := by
    intro t
    refine Ev.step (fun k => by simp only [spec_orDelay.j1]; rfl) (Ev.bind (cdReads_ev (l.getD j zI)) (Ev.bind (has_ev _ _ (Nat.le_trans (readsM_len _) (by decide))) ?_))
    by_cases hr : (l.getD i zI).f1 ∈ readsM (l.getD j zI)
    · refine Ev.ifp (decide_eq_true hr) ?_
      rw [w64n i (by omega)]
      refine ev_eq (last t (j - (i + 1)) (i + 1) i (by omega) (by omega) (.inl rfl)) ?_
      unfold overB
      by_cases q : (((l.take j).drop (i + 1)).any fun z => decide (z.f1 = (l.getD i zI).f1)) = false
      · rw [if_pos ⟨rfl, q⟩, if_pos ⟨hr, q⟩]
      · rw [if_neg (fun z => q z.2), if_neg (fun z => q z.2)]
    · rw [if_neg (fun q => hr q.1)]
      exact Ev.ifn (fun q => hr (of_decide_eq_true q)) (Ev.now _)
  have j0 : ∀ t : Int, Ev (fun k => spec_orDelay.j0 k l i j t (l.getD i zI).f0 (l.getD i zI).f1 (l.getD i zI).f2 (l.getD i zI).f3 (l.getD i zI).f4 (l.getD j zI).f0 (l.getD j zI).f1 (l.getD j zI).f2 (l.getD j zI).f3 (l.getD j zI).f4)
      (if (l.getD i zI).f1 ∈ readsM (l.getD j zI) ∧ overB l i j = false then max (if (l.getD i zI).f1 = (l.getD j zI).f1 then 1 else t) (costC (cls (l.getD i zI).f0)) else if (l.getD i zI).f1 = (l.getD j zI).f1 then 1 else t) := by
    intro t
    refine Ev.step (fun k => by simp only [spec_orDelay.j0]; rfl) ?_
    by_cases h : (l.getD i zI).f1 = (l.getD j zI).f1
    · rw [if_pos h]
      exact Ev.ifp h (j1 1)
    · rw [if_neg h]
      exact Ev.ifn h (j1 t)
  unfold spec_orDelay.f
  refine Ev.ifp (by omega) (Ev.ifp (by omega) (Ev.ifp (by omega) (Ev.ifp (by omega) ?_)))
  rw [rdI_at, rdI_at]
  refine Ev.bind (cdReads_ev (l.getD i zI)) (Ev.bind (has_ev _ _ (Nat.le_trans (readsM_len _) (by decide))) ?_)
  unfold dly dlyB
  by_cases h : (l.getD j zI).f1 ∈ readsM (l.getD i zI)
  · rw [if_pos h]
    exact Ev.ifp (decide_eq_true h) (j0 0)
  · rw [if_neg h]
    exact Ev.ifn (fun q => h (of_decide_eq_true q)) (j0 (-1))
def dlyS (l : List Instr) (i j : Nat) : Int := if i < j then dly l i j else -1
def rowS (l : List Instr) (i m : Nat) : List Int := (List.range m).map fun j => dlyS l i j
theorem rowS_succ (l : List Instr) (i m : Nat) : rowS l i (m + 1) = rowS l i m ++ [dlyS l i m] := by simp [rowS, List.range_succ]
theorem rowS_len (l : List Instr) (i m : Nat) : (rowS l i m).length = m := by simp [rowS]
def tabS (l : List Instr) (m : Nat) : List (List Int) := (List.range m).map fun i => rowS l i l.length
theorem tabS_succ (l : List Instr) (m : Nat) : tabS l (m + 1) = tabS l m ++ [rowS l m l.length] := by simp [tabS, List.range_succ]
theorem tabS_len (l : List Instr) (m : Nat) : (tabS l m).length = m := by simp [tabS]
theorem orDelays_ev (l : List Instr) (hl : l.length ≤ 1048576) (ok : ∀ x ∈ l, okI x) : Ev (fun k => spec_orDelays.f k l) (tabS l l.length) := by
  have row : ∀ (rows : List (List Int)) (i : Nat) (T : List (List Int)), i < l.length → rows.length ≤ 1048576 → Ev (fun k => spec_orDelays.l0 k l (rows ++ [rowS l i l.length]) l.length (wrap64 ((i : Int) + 1))) T →
      ∀ (d j : Nat), j + d = l.length → Ev (fun k => spec_orDelays.l1 k l rows i (rowS l i j) l.length i l.length j) T := by
    intro rows i T hi hr hc d
    induction d with
    | zero =>
      intro j hj
      obtain rfl : j = l.length := by omega
      exact Ev.step (fun k => by simp only [spec_orDelays.l1]; rfl) (Ev.ifn (by omega) (Ev.ifp (by omega) hc))
    | succ d ih =>
      intro j hj
      have := ih (j + 1) (by omega)
      rw [rowS_succ] at this
      unfold dlyS at this
      refine Ev.step (fun k => by simp only [spec_orDelays.l1]; rfl) (Ev.ifp (by omega) ?_)
      rw [w64n j (by omega)]
      by_cases h : i < j
      · rw [if_pos h] at this
        exact Ev.ifp (by omega) (Ev.bind (orDelay_ev l hl ok i j h (by omega)) (Ev.ifp (by rw [rowS_len]; omega) this))
      · rw [if_neg h] at this
        exact Ev.ifn (by omega) (Ev.ifp (by rw [rowS_len]; omega) this)
  have key : ∀ (d i : Nat), i + d = l.length → Ev (fun k => spec_orDelays.l0 k l (tabS l i) l.length i) (tabS l l.length) := by
    intro d
    induction d with
    | zero =>
      intro i hi
      obtain rfl : i = l.length := by omega
      refine Ev.step (f := fun _ => some (tabS l l.length)) (fun k => ?_) (Ev.now _)
      simp only [spec_orDelays.l0]
      rw [if_neg (by omega)]
    | succ d ih =>
      intro i hi
      refine Ev.step (fun k => by simp only [spec_orDelays.l0]; rfl) (Ev.ifp (by omega) ?_)
      refine row (tabS l i) i _ (by omega) (by rw [tabS_len]; omega) ?_ l.length 0 (by omega)
      rw [w64n i (by omega), ← tabS_succ]
      exact ih (i + 1) (by omega)
  exact key l.length 0 (by omega)
end Go.Proofs.Ytpndpmnliblpjaa.PL
end
section
namespace Go.Proofs.Ytpndpmnliblpjaa.Q
open Go.RowKit Go.Proofs.YtpndpmnliblpjaaW.PrintWords Go.Proofs.YtpndpmnliblpjaaW.PrintLast Go.Proofs.YtpndpmnliblpjaaW.PrintMore
attribute [local go_sem] max2_int min2_int max_two min_two max_three min_three max_four min_four
set_option linter.unusedVariables false
set_option linter.unusedSimpArgs false
end Go.Proofs.Ytpndpmnliblpjaa.Q
end
section
namespace Go.Proofs.Ytpndpmnliblpjaa.PL
open Go Go.RowKit Go.Proofs.YtpndpmnliblpjaaW.PrintWords Go.Proofs.YtpndpmnliblpjaaW.PrintLast Go.Proofs.YtpndpmnliblpjaaW.PrintMore Go.Proofs.Ytpndpmnliblpjaa.Q
set_option linter.unusedSimpArgs false
set_option linter.unusedVariables false
def okCode (l : List Instr) : Bool := decide (l.length ≤ 40) && l.all (fun x => decide (okI x))
def okBlock (l : List Instr) : Bool := decide (l.length ≤ 20) && l.all (fun x => decide (okI x))
theorem isCode_ev (l : List Instr) : Ev (fun k => impl_IsCode.f k l) (okCode l) := by
  unfold impl_IsCode.f
  by_cases hl : l.length ≤ 40
  · refine Ev.ifp (by omega) ?_
    have h : Ev (fun k => slices_IndexFunc_impl_IsCode_1.f k l) (idx (fun x => !decide (okI x)) l) := by
      unfold slices_IndexFunc_impl_IsCode_1.f
      refine search_ev l _ (fun k i => slices_IndexFunc_impl_IsCode_1.l0 k l l.length i) ?_ (fun i x hi hx hp => ?_) (fun i x r hi hx hp hr => ?_)
      · refine Ev.step (f := fun _ => some (-1)) (fun k => ?_) (Ev.now _)
        simp only [slices_IndexFunc_impl_IsCode_1.l0]
        rw [if_neg (by omega)]
      · refine Ev.step (f := fun _ => some (i : Int)) (fun k => ?_) (Ev.now _)
        simp only [slices_IndexFunc_impl_IsCode_1.l0, impl_IsCode_1.f, rdI_eq hx, isInstr_eq, Option.bind_some, hp]
        rw [if_pos (by omega), if_pos (by omega), if_pos (by omega), if_pos trivial]
      · refine Ev.step (fun k => ?_) hr
        simp only [slices_IndexFunc_impl_IsCode_1.l0, impl_IsCode_1.f, rdI_eq hx, isInstr_eq, Option.bind_some, hp]
        rw [if_pos (by omega), if_pos (by omega), if_pos (by omega), if_neg (by simp), w64n i (by omega)]
    unfold slices_ContainsFunc_impl_IsCode_1.f
    refine Ev.bind (Ev.bind h (Ev.now _)) (Ev.some ?_)
    have e := idx_nonneg (fun x => !decide (okI x)) l
    unfold okCode
    rw [show decide (l.length ≤ 40) = true by simpa using hl, Bool.true_and]
    by_cases hc : 0 ≤ idx (fun x => !decide (okI x)) l
    · obtain ⟨x, hx, hx'⟩ := e.1 hc
      rw [decide_eq_true (show idx (fun x => !decide (okI x)) l ≥ 0 from hc)]
      symm
      simpa using ⟨x, hx, by simpa using hx'⟩
    · rw [decide_eq_false (show ¬ idx (fun x => !decide (okI x)) l ≥ 0 from hc)]
      symm
      have := fun h => hc (e.2 h)
      simpa using this
  · refine Ev.ifn (by omega) (Ev.some ?_)
    unfold okCode
    rw [show decide (l.length ≤ 40) = false by simpa using hl]
    rfl
theorem cdCode_ev (l : List Instr) : Ev (fun k => spec_cdCode.f k l) (okCode l) := by
  unfold spec_cdCode.f
  by_cases hl : l.length ≤ 40
  · refine Ev.ifn (by omega) ?_
    unfold okCode
    rw [show decide (l.length ≤ 40) = true by simpa using hl, Bool.true_and]
    refine all_ev l _ (fun k i => spec_cdCode.l0 k l l.length i) ?_ (fun i x hi hx hp => ?_) (fun i x r hi hx hp hr => ?_)
    · refine Ev.step (f := fun _ => some true) (fun k => ?_) (Ev.now _)
      simp only [spec_cdCode.l0]
      rw [if_neg (by omega)]
    · refine Ev.step (fun k => by simp only [spec_cdCode.l0, rdI_eq hx]; rfl) ?_
      refine Ev.ifp (by omega) (Ev.ifp (by omega) (Ev.ifp (by omega) ?_))
      exact Ev.bind (cdGood_ev x) (Ev.ifn (by simpa using hp) (Ev.now _))
    · refine Ev.step (fun k => by simp only [spec_cdCode.l0, rdI_eq hx, w64n i (show i < 4611686018427387904 by omega)]; rfl) ?_
      refine Ev.ifp (by omega) (Ev.ifp (by omega) (Ev.ifp (by omega) ?_))
      exact Ev.bind (cdGood_ev x) (Ev.ifp (by simpa using hp) hr)
  · refine Ev.ifp (by omega) (Ev.some ?_)
    unfold okCode
    rw [show decide (l.length ≤ 40) = false by simpa using hl]
    rfl
theorem okBlock_eq (l : List Instr) : okBlock l = (okCode l && decide (l.length ≤ 20)) := by
  unfold okBlock okCode
  by_cases h : l.length ≤ 20
  · simp [h, show l.length ≤ 40 by omega]
  · simp [h]
theorem okBlock_of {l : List Instr} (h : okBlock l = true) : l.length ≤ 20 ∧ ∀ x ∈ l, okI x := by
  unfold okBlock at h
  simp only [Bool.and_eq_true, decide_eq_true_eq, List.all_eq_true] at h
  exact h
theorem orGood_ev (l : List Instr) : Ev (fun k => spec_orGood.f k l) (okBlock l) := by
  unfold spec_orGood.f
  rw [okBlock_eq]
  by_cases h : l.length ≤ 20
  · refine Ev.ifp (by omega) (Ev.bind (cdCode_ev l) (Ev.some ?_))
    simp [h]
  · refine Ev.ifn (by omega) (Ev.some ?_)
    simp [h]
end Go.Proofs.Ytpndpmnliblpjaa.PL
end
section
namespace Go.Proofs.Ytpndpmnliblpjaa.Q
open Go.RowKit Go.Proofs.YtpndpmnliblpjaaW.PrintWords Go.Proofs.YtpndpmnliblpjaaW.PrintLast Go.Proofs.YtpndpmnliblpjaaW.PrintMore
attribute [local go_sem] max2_int min2_int max_two min_two max_three min_three max_four min_four
set_option linter.unusedVariables false
set_option linter.unusedSimpArgs false
end Go.Proofs.Ytpndpmnliblpjaa.Q
end
section
namespace Go.Proofs.Ytpndpmnliblpjaa.PL
open Go Go.RowKit Go.Proofs.YtpndpmnliblpjaaW.PrintWords Go.Proofs.YtpndpmnliblpjaaW.PrintLast Go.Proofs.YtpndpmnliblpjaaW.PrintMore Go.Proofs.Ytpndpmnliblpjaa.Q
set_option linter.unusedSimpArgs false
set_option linter.unusedVariables false
theorem tabI_at (l : List Instr) (m i : Nat) (h : i < m) : rd_L4 (tabI l m) (i : Int) = rowI l i i := by
  unfold rd_L4
  rw [Int.toNat_natCast]
  simp [tabI, List.getD, h]
theorem rowI_at (l : List Instr) (i m j : Nat) (h : j < m) : rd (rowI l i m) (j : Int) = dly l j i := rd_eq (fun d => by simp [rowI, List.getD, h])
theorem tabS_at (l : List Instr) (m i : Nat) (h : i < m) : rd_L4 (tabS l m) (i : Int) = rowS l i l.length := by
  unfold rd_L4
  rw [Int.toNat_natCast]
  simp [tabS, List.getD, h]
theorem rowS_at (l : List Instr) (i m j : Nat) (h : j < m) : rd (rowS l i m) (j : Int) = dlyS l i j := rd_eq (fun d => by simp [rowS, List.getD, h])
end Go.Proofs.Ytpndpmnliblpjaa.PL
end
section
namespace Go.Proofs.Ytpndpmnliblpjaa.PL
open Go Go.RowKit Go.Proofs.YtpndpmnliblpjaaW.PrintWords Go.Proofs.YtpndpmnliblpjaaW.PrintLast Go.Proofs.YtpndpmnliblpjaaW.PrintMore Go.Proofs.Ytpndpmnliblpjaa.Q
set_option linter.unusedSimpArgs false
set_option linter.unusedVariables false
def eaC (l : List Instr) (P : List Int) (j : Nat) : Nat → Int
  | 0 => 0
  | u + 1 => if dly l u j ≥ 0 then max (eaC l P j u) (P.getD u 0 + dly l u j) else eaC l P j u
def eaL (l : List Instr) : Nat → List Int
  | 0 => []
  | j + 1 => eaL l j ++ [eaC l (eaL l j) j j]
theorem eaL_len (l : List Instr) : ∀ j, (eaL l j).length = j
  | 0 => rfl
  | j + 1 => by rw [eaL, List.length_append, eaL_len l j]; rfl
theorem eaC_bd (l : List Instr) (P : List Int) (B : Int) (h0 : 0 ≤ B) (hP : ∀ u, 0 ≤ P.getD u 0 ∧ P.getD u 0 ≤ B) (j : Nat) : ∀ u, 0 ≤ eaC l P j u ∧ eaC l P j u ≤ B + 4
  | 0 => by unfold eaC; omega
  | u + 1 => by
    have ih := eaC_bd l P B h0 hP j u
    have hd := dly_le l u j
    have hp := hP u
    unfold eaC
    split <;> omega
theorem getD_app (A B : List Int) (u : Nat) : (A ++ B).getD u 0 = if u < A.length then A.getD u 0 else B.getD (u - A.length) 0 := by
  simp only [List.getD_eq_getElem?_getD, List.getElem?_append]
  split <;> rfl
theorem eaL_bd (l : List Instr) : ∀ j u, 0 ≤ (eaL l j).getD u 0 ∧ (eaL l j).getD u 0 ≤ 4 * (j : Int)
  | 0, u => by unfold eaL; simp
  | j + 1, u => by
    have ih := eaL_bd l j
    have hc := eaC_bd l (eaL l j) (4 * (j : Int)) (by omega) ih j j
    rw [eaL, getD_app, eaL_len]
    split
    · have := ih u; omega
    · match h : u - j with
      | 0 => show 0 ≤ eaC l (eaL l j) j j ∧ _; constructor; exact hc.1; show eaC l (eaL l j) j j ≤ _; omega
      | m + 1 => simp; omega
theorem rd_left (A B : List Int) (u : Nat) (h : u < A.length) : rd (A ++ B) (u : Int) = A.getD u 0 := by
  unfold rd
  rw [Int.toNat_natCast, getD_app, if_pos h]
theorem most_eq (a b : Int) : spec_l1Most.f a b = some (max a b) := by
  unfold spec_l1Most.f
  by_cases q : a > b
  · rw [if_pos q]; congr 1; omega
  · rw [if_neg q]; congr 1; omega
section
variable (l : List Instr) (hl : l.length ≤ 20)
include hl
theorem specEa_row (j : Nat) (hj : j < l.length) (Z T : List Int) (hc : Ev (fun k => spec_orEarliest.l0 k (tabS l l.length) (eaL l j ++ eaC l (eaL l j) j j :: Z) l.length ((j + 1 : Nat) : Int)) T) :
    ∀ (d u : Nat), u + d = j → Ev (fun k => spec_orEarliest.l1 k (tabS l l.length) (eaL l j ++ eaC l (eaL l j) j u :: Z) j u l.length j) T := by
  intro d
  induction d with
  | zero =>
    intro u hu
    obtain rfl : u = j := by omega
    refine Ev.step (fun k => by simp only [spec_orEarliest.l1]; rfl) (Ev.ifn (by omega) ?_)
    rw [w64n u (by omega)]
    exact hc
  | succ d ih =>
    intro u hu
    have next := ih (u + 1) (by omega)
    have hlen : (eaL l j ++ eaC l (eaL l j) j u :: Z).length = j + 1 + Z.length := by rw [List.length_append, eaL_len, List.length_cons]; omega
    refine Ev.step (fun k => by simp only [spec_orEarliest.l1]; rfl) (Ev.ifp (by omega) (Ev.ifp (by omega) (Ev.ifp (by rw [tabS_len]; omega) ?_)))
    rw [tabS_at l l.length u (by omega)]
    refine Ev.ifp (by omega) (Ev.ifp (by rw [rowS_len]; omega) ?_)
    rw [rowS_at l u l.length j (by omega), w64n u (by omega), show dlyS l u j = dly l u j from by unfold dlyS; rw [if_pos (by omega)]]
    unfold eaC at next
    by_cases hd : dly l u j ≥ 0
    · rw [if_pos hd] at next
      refine Ev.ifp hd (Ev.ifp (by rw [hlen]; omega) (Ev.ifp (by rw [hlen]; omega) ?_))
      have b1 := eaL_bd l j u
      have b2 := dly_le l u j
      rw [rdN_mid _ _ _ j (eaL_len l j), rd_left _ _ u (by rw [eaL_len]; omega), w64 (by omega) (by omega)]
      refine Ev.call (most_eq _ _) ?_
      rw [setN_mid _ _ _ _ j (eaL_len l j)]
      exact next
    · rw [if_neg hd] at next
      exact Ev.ifn hd next
theorem orEarliest_ev (ok : ∀ x ∈ l, okI x) : Ev (fun k => spec_orEarliest.f k l) (eaL l l.length) := by
  have key : ∀ (d j : Nat), j + d = l.length → Ev (fun k => spec_orEarliest.l0 k (tabS l l.length) (eaL l j ++ List.replicate d 0) l.length j) (eaL l l.length) := by
    intro d
    induction d with
    | zero =>
      intro j hj
      obtain rfl : j = l.length := by omega
      rw [List.replicate_zero, List.append_nil]
      refine Ev.step (f := fun _ => some (eaL l l.length)) (fun k => ?_) (Ev.now _)
      simp only [spec_orEarliest.l0]
      rw [if_neg (by omega)]
    | succ d ih =>
      intro j hj
      have next := ih (j + 1) (by omega)
      rw [eaL, List.append_assoc, List.singleton_append] at next
      refine Ev.step (fun k => by simp only [spec_orEarliest.l0]; rfl) (Ev.ifp (by omega) ?_)
      rw [List.replicate_succ]
      exact specEa_row l hl j (by omega) _ _ next j 0 (by omega)
  unfold spec_orEarliest.f
  refine Ev.bind (orDelays_ev l (by omega) ok) (Ev.ifp (by omega) (Ev.ifp (by rw [Int.toNat_natCast]; omega) ?_))
  rw [Int.toNat_natCast]
  have := key l.length 0 (by omega)
  rw [eaL, List.nil_append] at this
  exact this
end
end Go.Proofs.Ytpndpmnliblpjaa.PL
end
section
namespace Go.Proofs.Ytpndpmnliblpjaa.PL
open Go Go.RowKit Go.Proofs.YtpndpmnliblpjaaW.PrintWords Go.Proofs.YtpndpmnliblpjaaW.PrintLast Go.Proofs.YtpndpmnliblpjaaW.PrintMore Go.Proofs.Ytpndpmnliblpjaa.Q
set_option linter.unusedSimpArgs false
set_option linter.unusedVariables false
def laC (l : List Instr) (a : Int) (i : Nat) (S : List Int) : Nat → Int
  | 0 => a - costC (cls (l.getD i zI).f0)
  | u + 1 => if dly l i (i + 1 + u) ≥ 0 then min (laC l a i S u) (S.getD u 0 - dly l i (i + 1 + u)) else laC l a i S u
def laL (l : List Instr) (a : Int) (n : Nat) : Nat → List Int
  | 0 => []
  | d + 1 => laC l a (n - 1 - d) (laL l a n d) d :: laL l a n d
theorem laL_len (l : List Instr) (a : Int) (n : Nat) : ∀ d, (laL l a n d).length = d
  | 0 => rfl
  | d + 1 => by rw [laL, List.length_cons, laL_len l a n d]
theorem laC_bd (l : List Instr) (a : Int) (i : Nat) (S : List Int) (B : Int) (hB : 4 ≤ B) (n : Nat) (hS : ∀ u, u < n → a - B ≤ S.getD u 0 ∧ S.getD u 0 ≤ a) : ∀ u, u ≤ n → a - (B + 4) ≤ laC l a i S u ∧ laC l a i S u ≤ a
  | 0, _ => by have := costC_le (cls (l.getD i zI).f0); unfold laC; omega
  | u + 1, h => by
    have ih := laC_bd l a i S B hB n hS u (by omega)
    have hd := dly_le l i (i + 1 + u)
    have hp := hS u (by omega)
    unfold laC
    split <;> omega
theorem laL_bd (l : List Instr) (a : Int) (n : Nat) : ∀ d u : Nat, u < d → a - 4 * ((d : Int) + 1) ≤ (laL l a n d).getD u 0 ∧ (laL l a n d).getD u 0 ≤ a
  | 0, u, h => absurd h (by omega)
  | d + 1, u, h => by
    have ih := laL_bd l a n d
    have hc := laC_bd l a (n - 1 - d) (laL l a n d) (4 * ((d : Int) + 1)) (by omega) d ih d (Nat.le_refl _)
    unfold laL
    cases u with
    | zero => show a - _ ≤ laC l a (n - 1 - d) (laL l a n d) d ∧ laC l a (n - 1 - d) (laL l a n d) d ≤ a; omega
    | succ u => show a - _ ≤ (laL l a n d).getD u 0 ∧ (laL l a n d).getD u 0 ≤ a; have := ih u (by omega); omega
theorem rd_behind (Z S : List Int) (v : Int) (i u : Nat) (hZ : Z.length = i) : rd (Z ++ v :: S) ((i + 1 + u : Nat) : Int) = S.getD u 0 := by
  unfold rd
  rw [Int.toNat_natCast, getD_app, if_neg (by omega), show i + 1 + u - Z.length = u + 1 by omega]
  rfl
theorem set_midN {α : Type} (A B : List α) (x y : α) (i : Nat) (h : A.length = i) : (A ++ x :: B).set i y = A ++ y :: B := by
  have := setN_mid A B x y i h
  rwa [Int.toNat_natCast] at this
theorem latIn_eq (l : List Instr) (hl : l.length ≤ 20) (a : Int) (ha : -100 ≤ a ∧ a ≤ 100) (i : Nat) (Z : List Int) (hZ : Z.length = i) (e : Nat) (he : i + 1 + e = l.length) :
    ∀ (d u : Nat), u + d = e → impl_latest.inn (tabI l l.length) i d (i + 1 + u) (Z ++ laC l a i (laL l a l.length e) u :: laL l a l.length e) = Z ++ laC l a i (laL l a l.length e) e :: laL l a l.length e := by
  intro d
  induction d with
  | zero =>
    intro u hu
    obtain rfl : u = e := by omega
    rfl
  | succ d ih =>
    intro u hu
    have next := ih (u + 1) (by omega)
    unfold impl_latest.inn
    rw [tabI_at l l.length (i + 1 + u) (by omega), rowI_at l (i + 1 + u) (i + 1 + u) i (by omega), rdN_mid _ _ _ i hZ, rd_behind _ _ _ i u hZ, show i + 1 + u + 1 = i + 1 + (u + 1) by omega]
    rw [← next]
    congr 1
    by_cases h : dly l i (i + 1 + u) ≥ 0
    · rw [if_pos h]
      have b1 := laL_bd l a l.length e u (by omega)
      have b2 := dly_le l i (i + 1 + u)
      rw [w64 (by omega) (by omega), show ∀ x y : Int, mn x y = min x y from fun x y => by unfold mn; omega, set_midN _ _ _ _ i hZ]
      rw [show laC l a i (laL l a l.length e) (u + 1) = min (laC l a i (laL l a l.length e) u) ((laL l a l.length e).getD u 0 - dly l i (i + 1 + u)) from if_pos h]
    · rw [if_neg h]
      rw [show laC l a i (laL l a l.length e) (u + 1) = laC l a i (laL l a l.length e) u from if_neg h]
theorem latAll_eq (l : List Instr) (hl : l.length ≤ 20) (a : Int) (ha : -100 ≤ a ∧ a ≤ 100) (cs : List Int) (hcs : ∀ i, i < l.length → rd cs (i : Nat) = costC (cls (l.getD i zI).f0)) :
    ∀ d, d ≤ l.length → ((List.range d).map fun j => l.length - 1 - j).foldl (impl_latest.step (tabI l l.length) cs a l.length) (List.replicate l.length 0) = List.replicate (l.length - d) 0 ++ laL l a l.length d := by
  intro d
  induction d with
  | zero =>
    intro _
    rw [laL, List.append_nil]
    rfl
  | succ d ih =>
    intro hd
    rw [List.range_succ, List.map_append, List.foldl_append, ih (by omega), List.map_singleton]
    show impl_latest.step _ _ _ _ _ (l.length - 1 - d) = _
    generalize hi : l.length - 1 - d = i
    have hc := costC_le (cls (l.getD i zI).f0)
    have key := latIn_eq l hl a ha i (List.replicate i 0) (List.length_replicate) d (by omega) d 0 (by omega)
    unfold impl_latest.step
    rw [show l.length - 1 - i = d by omega, show l.length - d = i + 1 by omega, List.replicate_succ', List.append_assoc, List.singleton_append, set_midN _ _ _ _ i List.length_replicate, hcs i (by omega), w64 (by omega) (by omega), show l.length - (d + 1) = i by omega]
    rw [laL, hi]
    exact key
theorem costs_eq : ∀ l : List Instr, impl_latest.costs l = some (l.map fun x => costC (cls x.f0))
  | [] => rfl
  | x :: xs => by
    unfold impl_latest.costs
    rw [cost_eq, costs_eq xs]
    rfl
theorem okT_tab (l : List Instr) (hl : l.length ≤ 20) : impl_latest.okT (tabI l l.length) l.length = true := by
  unfold impl_latest.okT
  rw [Bool.and_eq_true, decide_eq_true_eq, List.all_eq_true]
  refine ⟨⟨tabI_len l l.length, by omega⟩, fun j hj => ?_⟩
  rw [decide_eq_true_eq, tabI_at l l.length j (List.mem_range.1 hj), rowI_len]
  exact Nat.le_refl _
theorem latest_ev (l : List Instr) (hl : l.length ≤ 20) (a : Int) (ha : -100 ≤ a ∧ a ≤ 100) : Ev (fun k => impl_latest.f k l a) (laL l a l.length l.length) := by
  unfold impl_latest.f
  refine Ev.bind (delays_ev l (by omega)) (Ev.call (costs_eq l) (Ev.ifp (okT_tab l hl) (Ev.some ?_)))
  have := latAll_eq l hl a ha (l.map fun x => costC (cls x.f0)) (fun i hi => rd_eq (fun d => by simp [List.getD, hi])) l.length (Nat.le_refl _)
  rw [Nat.sub_self] at this
  exact this
section
variable (l : List Instr) (hl : l.length ≤ 20) (ok : ∀ x ∈ l, okI x) (a : Int) (ha : -100 ≤ a ∧ a ≤ 100)
include hl ha
end
end Go.Proofs.Ytpndpmnliblpjaa.PL
end
section
namespace Go.Proofs.Ytpndpmnliblpjaa.PL
open Go Go.RowKit Go.Proofs.YtpndpmnliblpjaaW.PrintWords Go.Proofs.YtpndpmnliblpjaaW.PrintLast Go.Proofs.YtpndpmnliblpjaaW.PrintMore Go.Proofs.Ytpndpmnliblpjaa.Q
set_option linter.unusedSimpArgs false
set_option linter.unusedVariables false
def ngL (xs : List Int) : List Int := xs.map fun x => -x
theorem ngL_len (xs : List Int) : (ngL xs).length = xs.length := by simp [ngL]
theorem ngL_getD (xs : List Int) (u : Nat) : (ngL xs).getD u 0 = -(xs.getD u 0) := by
  unfold ngL
  rw [List.getD_eq_getElem?_getD, List.getD_eq_getElem?_getD, List.getElem?_map]
  cases xs[u]? <;> rfl
def hts (l : List Instr) (d : Nat) : List Int := ngL (laL l 0 l.length d)
theorem specH_row (l : List Instr) (hl : l.length ≤ 20) (i : Nat) (Z : List Int) (hZ : Z.length = i) (e : Nat) (he : i + 1 + e = l.length) (T : List Int)
    (hc : Ev (fun k => spec_orHeights.l0 k l (tabS l l.length) (Z ++ -(laC l 0 i (laL l 0 l.length e) e) :: hts l e) (wrap64 ((i : Int) - 1))) T) :
    ∀ (d u : Nat), u + d = e → Ev (fun k => spec_orHeights.l1 k l (tabS l l.length) (Z ++ -(laC l 0 i (laL l 0 l.length e) u) :: hts l e) i ((i + 1 + u : Nat) : Int)) T := by
  intro d
  induction d with
  | zero =>
    intro u hu
    obtain rfl : u = e := by omega
    exact Ev.step (fun k => by simp only [spec_orHeights.l1]; rfl) (Ev.ifn (by omega) hc)
  | succ d ih =>
    intro u hu
    have next := ih (u + 1) (by omega)
    have hh : (hts l e).length = e := by unfold hts; rw [ngL_len, laL_len]
    have hlen : (Z ++ -(laC l 0 i (laL l 0 l.length e) u) :: hts l e).length = l.length := by rw [List.length_append, List.length_cons, hh]; omega
    refine Ev.step (fun k => by simp only [spec_orHeights.l1]; rfl) (Ev.ifp (by omega) (Ev.ifp (by omega) (Ev.ifp (by rw [tabS_len]; omega) (Ev.ifp (by omega) ?_))))
    rw [tabS_at l l.length i (by omega)]
    refine Ev.ifp (by rw [rowS_len]; omega) ?_
    rw [rowS_at l i l.length (i + 1 + u) (by omega), show dlyS l i (i + 1 + u) = dly l i (i + 1 + u) from if_pos (by omega), w64n (i + 1 + u) (by omega), show i + 1 + u + 1 = i + 1 + (u + 1) by omega]
    by_cases h : dly l i (i + 1 + u) ≥ 0
    · rw [show laC l 0 i (laL l 0 l.length e) (u + 1) = min (laC l 0 i (laL l 0 l.length e) u) ((laL l 0 l.length e).getD u 0 - dly l i (i + 1 + u)) from if_pos h] at next
      have b1 := laL_bd l 0 l.length e u (by omega)
      have b2 := dly_le l i (i + 1 + u)
      refine Ev.ifp h (Ev.ifp (by omega) (Ev.ifp (by omega) ?_))
      rw [rdN_mid _ _ _ i hZ, rd_behind _ _ _ i u hZ, show (hts l e).getD u 0 = -((laL l 0 l.length e).getD u 0) from ngL_getD _ _, w64 (by omega) (by omega)]
      refine Ev.call (most_eq _ _) ?_
      rw [setN_mid _ _ _ _ i hZ, show max (-(laC l 0 i (laL l 0 l.length e) u)) (dly l i (i + 1 + u) + -((laL l 0 l.length e).getD u 0)) = -(min (laC l 0 i (laL l 0 l.length e) u) ((laL l 0 l.length e).getD u 0 - dly l i (i + 1 + u))) by omega]
      exact next
    · rw [show laC l 0 i (laL l 0 l.length e) (u + 1) = laC l 0 i (laL l 0 l.length e) u from if_neg h] at next
      exact Ev.ifn h next
theorem specH_ev (l : List Instr) (hl : l.length ≤ 20) (ok : ∀ x ∈ l, okI x) : Ev (fun k => spec_orHeights.f k l) (hts l l.length) := by
  unfold spec_orHeights.f
  refine Ev.bind (orDelays_ev l (by omega) ok) ?_
  refine Ev.ifp (by omega) (Ev.ifp (by omega) ?_)
  rw [Int.toNat_natCast, w64 (by omega) (by omega)]
  have key : ∀ (m d : Nat), d + m = l.length → Ev (fun k => spec_orHeights.l0 k l (tabS l l.length) (List.replicate m 0 ++ hts l d) ((m : Int) - 1)) (hts l l.length) := by
    intro m
    induction m with
    | zero =>
      intro d hd
      obtain rfl : d = l.length := by omega
      exact Ev.step (fun k => by simp only [spec_orHeights.l0]; rfl) (Ev.ifn (by omega) (Ev.some rfl))
    | succ m ih =>
      intro d hd
      have hok := ok (l.getD m zI) (by rw [getD_eq l m (by omega)]; exact List.getElem_mem _)
      have hlenR : (List.replicate m (0 : Int)).length = m := List.length_replicate
      have hh : (hts l d).length = d := by unfold hts; rw [ngL_len, laL_len]
      refine Ev.step (fun k => by simp only [spec_orHeights.l0]; rfl) (Ev.ifp (by omega) ?_)
      rw [show ((m + 1 : Nat) : Int) - 1 = (m : Int) by omega]
      refine Ev.ifp (by omega) (Ev.ifp (by omega) ?_)
      rw [rdI_eq (x := l.getD m zI) (fun d' => by rw [getD_eq l m (by omega) d', getD_eq l m (by omega) zI])]
      refine Ev.call (cdCost_eq _ hok.1) (Ev.ifp (by rw [List.length_append, List.length_replicate, hh]; omega) ?_)
      rw [List.replicate_succ', List.append_assoc, List.singleton_append, setN_mid _ _ _ _ m hlenR, w64n m (by omega)]
      have hlast : hts l (d + 1) = -(laC l 0 m (laL l 0 l.length d) d) :: hts l d := by
        have : hts l (d + 1) = -(laC l 0 (l.length - 1 - d) (laL l 0 l.length d) d) :: hts l d := rfl
        rw [this, show l.length - 1 - d = m by omega]
      have row := specH_row l hl m (List.replicate m 0) hlenR d (by omega) (hts l l.length) (by rw [← hlast, w64 (by omega) (by omega)]; exact ih (d + 1) (by omega)) d 0 (by omega)
      rw [show -(laC l 0 m (laL l 0 l.length d) 0) = costC (cls (l.getD m zI).f0) by show -((0 : Int) - _) = _; omega] at row
      exact row
  have := key l.length 0 (by omega)
  rw [show hts l 0 = [] from rfl, List.append_nil] at this
  exact this
end Go.Proofs.Ytpndpmnliblpjaa.PL
end
section
namespace Go.Proofs.Ytpndpmnliblpjaa.PL
open Go Go.RowKit Go.Proofs.YtpndpmnliblpjaaW.PrintWords Go.Proofs.YtpndpmnliblpjaaW.PrintLast Go.Proofs.YtpndpmnliblpjaaW.PrintMore Go.Proofs.Ytpndpmnliblpjaa.Q
set_option linter.unusedSimpArgs false
set_option linter.unusedVariables false
set_option linter.unusedSectionVars false
def wbC (l : List Instr) (E : List Int) (c : Int) : Nat → Int × Int
  | 0 => (0, 100)
  | i + 1 => if rd E i ≥ c then (wrap64 ((wbC l E c i).1 + 1), min (wbC l E c i).2 (costC (cls (l.getD i zI).f0))) else wbC l E c i
def wbQ (w c : Int) (p : Int × Int) : Int := wrap64 ((wrap64 ((wrap64 (c + (wrap64 (Int.tdiv (wrap64 ((wrap64 (p.1 + w)) - 1)) w)))) + p.2)) - 1)
def wbM (l : List Instr) (E : List Int) (w : Int) : Nat → Int
  | 0 => 0
  | i + 1 => max (wbM l E w i) (wbQ w (rd E i) (wbC l E (rd E i) l.length))
theorem rdB (O : List Int) (i : Nat) : rd O (i : Int) = O.getD i 0 := by unfold rd; rw [Int.toNat_natCast]
def cnt (o : List Int) (c : Int) : Nat := o.countP fun x => decide (x = c)
def rng (o : List Int) (c : Int) (k : Nat) : Nat := o.countP fun x => decide (c ≤ x ∧ x < c + k)
theorem rng_succ (c : Int) (k : Nat) : ∀ o : List Int, rng o c (k + 1) = rng o c k + cnt o (c + k)
  | [] => rfl
  | x :: o => by
    have ih := rng_succ c k o
    unfold rng cnt at ih ⊢
    rw [List.countP_cons, List.countP_cons, List.countP_cons, ih]
    by_cases h1 : c ≤ x ∧ x < c + k
    · rw [show decide (c ≤ x ∧ x < c + ((k + 1 : Nat) : Int)) = true from decide_eq_true (by omega), show decide (c ≤ x ∧ x < c + (k : Int)) = true from decide_eq_true h1, show decide (x = c + (k : Int)) = false from decide_eq_false (by omega)]
      simp
      omega
    · by_cases h2 : x = c + k
      · rw [show decide (c ≤ x ∧ x < c + ((k + 1 : Nat) : Int)) = true from decide_eq_true (by omega), show decide (c ≤ x ∧ x < c + (k : Int)) = false from decide_eq_false h1, show decide (x = c + (k : Int)) = true from decide_eq_true h2]
        simp
        omega
      · rw [show decide (c ≤ x ∧ x < c + ((k + 1 : Nat) : Int)) = false from decide_eq_false (by omega), show decide (c ≤ x ∧ x < c + (k : Int)) = false from decide_eq_false h1, show decide (x = c + (k : Int)) = false from decide_eq_false h2]
        simp
theorem rng_zero (c : Int) (o : List Int) : rng o c 0 = 0 := by
  unfold rng
  rw [List.countP_eq_zero]
  intro x _
  simp
theorem rng_le (o : List Int) (c : Int) (w : Nat) (h : ∀ d, cnt o d ≤ w) : ∀ k, rng o c k ≤ w * k
  | 0 => by rw [rng_zero]; omega
  | k + 1 => by have := rng_le o c w h k; have := h (c + k); rw [rng_succ, Nat.mul_succ]; omega
theorem rng_ge (o : List Int) (c : Int) : ∀ k : Nat, (∀ t, t < k → 1 ≤ cnt o (c + (t : Nat))) → k ≤ rng o c k
  | 0, _ => Nat.zero_le _
  | k + 1, h => by have := rng_ge o c k (fun t ht => h t (by omega)); have := h k (by omega); rw [rng_succ]; omega
def srch {α : Type} (p : Int → Option α) : Nat → Int → Option α
  | 0, _ => none
  | m + 1, c => match p c with
    | some r => some r
    | none => srch p m (c + 1)
theorem srch_some {α : Type} (p : Int → Option α) (r : α) : ∀ (m : Nat) (c : Int), srch p m c = some r → ∃ t : Nat, t < m ∧ p (c + t) = some r
  | 0, c, h => by cases h
  | m + 1, c, h => by
    unfold srch at h
    cases hp : p c with
    | some r' =>
      rw [hp] at h
      exact ⟨0, by omega, by rw [show c + ((0 : Nat) : Int) = c by omega, hp]; exact h⟩
    | none =>
      rw [hp] at h
      obtain ⟨t, ht, e⟩ := srch_some p r m (c + 1) h
      exact ⟨t + 1, by omega, by rw [show c + ((t + 1 : Nat) : Int) = c + 1 + t by omega]; exact e⟩
theorem srch_finds {α : Type} (p : Int → Option α) : ∀ (m : Nat) (c : Int) (t : Nat), t < m → (p (c + t)).isSome = true → (srch p m c).isSome = true
  | m + 1, c, t, ht, h => by
    unfold srch
    cases hp : p c with
    | some r => rfl
    | none =>
      cases t with
      | zero =>
        rw [show c + ((0 : Nat) : Int) = c by omega, hp] at h
        cases h
      | succ t => exact srch_finds p m (c + 1) t (by omega) (by rw [show c + 1 + (t : Int) = c + ((t + 1 : Nat) : Int) by omega]; exact h)
def htAt (l : List Instr) (j : Nat) : Int := (hts l l.length).getD j 0
def fnd (l : List Instr) (w : Nat) (len : Int) : Nat → List Int → Option (List Int)
  | 0, o => some o
  | d + 1, o => srch (fun c => if cnt o c = w then none else fnd l w len d (o ++ [c])) (len - htAt l o.length + 1 - eaC l o o.length o.length).toNat (eaC l o o.length o.length)
theorem eaC_congr (l : List Instr) (P Q : List Int) (j : Nat) : ∀ u, (∀ i, i < u → P.getD i 0 = Q.getD i 0) → eaC l P j u = eaC l Q j u
  | 0, _ => rfl
  | u + 1, h => by
    unfold eaC
    rw [eaC_congr l P Q j u (fun i hi => h i (by omega)), h u (by omega)]
theorem eaC_mono (l : List Instr) (P Q : List Int) (j : Nat) : ∀ u, (∀ i, i < u → P.getD i 0 ≤ Q.getD i 0) → eaC l P j u ≤ eaC l Q j u
  | 0, _ => Int.le_refl _
  | u + 1, h => by
    have h1 := eaC_mono l P Q j u (fun i hi => h i (by omega))
    have h2 := h u (by omega)
    unfold eaC
    split <;> omega
theorem eaC_nn (l : List Instr) (P : List Int) (j : Nat) : ∀ u, 0 ≤ eaC l P j u
  | 0 => Int.le_refl _
  | u + 1 => by
    have := eaC_nn l P j u
    unfold eaC
    split <;> omega
structure Okp (l : List Instr) (w : Nat) (len : Int) (o : List Int) : Prop where
  at_ : ∀ j, j < o.length → eaC l o j j ≤ o.getD j 0 ∧ o.getD j 0 + htAt l j ≤ len
  wide : ∀ c, cnt o c ≤ w
theorem getD_left (o : List Int) (c : Int) (i : Nat) (h : i < o.length) : (o ++ [c]).getD i 0 = o.getD i 0 := by rw [getD_app, if_pos h]
theorem fnd_ok (l : List Instr) (w : Nat) (len : Int) : ∀ (d : Nat) (o r : List Int), Okp l w len o → fnd l w len d o = some r → Okp l w len r ∧ r.length = o.length + d
  | 0, o, r, h, e => by
    unfold fnd at e
    cases e
    exact ⟨h, rfl⟩
  | d + 1, o, r, h, e => by
    unfold fnd at e
    obtain ⟨t, ht, e⟩ := srch_some _ _ _ _ e
    generalize hc : eaC l o o.length o.length + (t : Int) = c at e
    by_cases q : cnt o c = w
    · rw [if_pos q] at e
      cases e
    · rw [if_neg q] at e
      have ho : Okp l w len (o ++ [c]) := by
        refine ⟨fun j hj => ?_, fun c' => ?_⟩
        · rw [List.length_append, List.length_singleton] at hj
          have e1 : eaC l (o ++ [c]) j j = eaC l o j j := eaC_congr l _ _ j j (fun i hi => getD_left o c i (by omega))
          rw [e1]
          by_cases hj' : j < o.length
          · rw [getD_left o c j hj']
            exact h.at_ j hj'
          · obtain rfl : j = o.length := by omega
            have : (o ++ [c]).getD o.length 0 = c := by rw [getD_app, if_neg (by omega), Nat.sub_self]; rfl
            rw [this]
            omega
        · unfold cnt at q ⊢
          have hw := h.wide c'
          unfold cnt at hw
          rw [List.countP_append, List.countP_cons, List.countP_nil]
          by_cases e2 : c = c'
          · subst e2
            rw [if_pos (decide_eq_true rfl)]
            omega
          · rw [if_neg (by simpa using e2)]
            omega
      obtain ⟨h1, h2⟩ := fnd_ok l w len d _ r ho e
      exact ⟨h1, by rw [h2, List.length_append, List.length_singleton]; omega⟩
theorem okp_nil (l : List Instr) (w : Nat) (len : Int) : Okp l w len [] := ⟨fun j h => absurd h (Nat.not_lt_zero _), fun c => Nat.zero_le _⟩
theorem laC_shift (l : List Instr) (a : Int) (i : Nat) (S : List Int) : ∀ u, u ≤ S.length → laC l a i (S.map fun x => a + x) u = a + laC l 0 i S u
  | 0, _ => by unfold laC; omega
  | u + 1, h => by
    have ih := laC_shift l a i S u (by omega)
    unfold laC
    have e : (S.map fun x => a + x).getD u 0 = a + S.getD u 0 := by
      rw [List.getD_eq_getElem?_getD, List.getD_eq_getElem?_getD, List.getElem?_map, List.getElem?_eq_getElem (by omega)]
      rfl
    rw [ih, e]
    split <;> omega
theorem laL_shift (l : List Instr) (a : Int) (n : Nat) : ∀ d, laL l a n d = (laL l 0 n d).map fun x => a + x
  | 0 => rfl
  | d + 1 => by
    unfold laL
    rw [laL_shift l a n d, laC_shift l a _ _ d (by rw [laL_len]; exact Nat.le_refl _)]
    rfl
theorem laL_get (l : List Instr) (a : Int) (n : Nat) : ∀ d u : Nat, u < d → (laL l a n d).getD u 0 = laC l a (n - d + u) (laL l a n (d - 1 - u)) (d - 1 - u) ∨ n < d
  | 0, u, h => absurd h (Nat.not_lt_zero _)
  | d + 1, u, h => by
    by_cases hn : n < d + 1
    · exact .inr hn
    · refine .inl ?_
      rw [show laL l a n (d + 1) = laC l a (n - 1 - d) (laL l a n d) d :: laL l a n d from rfl]
      cases u with
      | zero =>
        show laC l a (n - 1 - d) (laL l a n d) d = _
        rw [show n - (d + 1) + 0 = n - 1 - d by omega, show d + 1 - 1 - 0 = d by omega]
      | succ u =>
        show (laL l a n d).getD u 0 = _
        rcases laL_get l a n d u (by omega) with e | e
        · rw [e, show n - (d + 1) + (u + 1) = n - d + u by omega, show d + 1 - 1 - (u + 1) = d - 1 - u by omega]
        · omega
theorem laC_cost (l : List Instr) (a : Int) (i : Nat) (S : List Int) : ∀ u, laC l a i S u ≤ a - costC (cls (l.getD i zI).f0)
  | 0 => by unfold laC; omega
  | u + 1 => by
    have := laC_cost l a i S u
    unfold laC
    split <;> omega
theorem htAt_eq (l : List Instr) (j : Nat) : htAt l j = -((laL l 0 l.length l.length).getD j 0) := by unfold htAt hts; rw [ngL_getD]
theorem latest_at (l : List Instr) (a : Int) (j : Nat) (h : j < l.length) : (laL l a l.length l.length).getD j 0 = a - htAt l j := by
  rw [htAt_eq, laL_shift, List.getD_eq_getElem?_getD, List.getD_eq_getElem?_getD, List.getElem?_map, List.getElem?_eq_getElem (by rw [laL_len]; exact h)]
  show a + _ = a - -_
  simp only [Option.getD_some]
  omega
theorem htAt_cost (l : List Instr) (j : Nat) (h : j < l.length) : costC (cls (l.getD j zI).f0) ≤ htAt l j := by
  rw [htAt_eq]
  rcases laL_get l 0 l.length l.length j h with e | e
  · rw [e]
    have := laC_cost l 0 (l.length - l.length + j) (laL l 0 l.length (l.length - 1 - j)) (l.length - 1 - j)
    rw [show l.length - l.length + j = j by omega] at this ⊢
    omega
  · omega
theorem htAt_bd (l : List Instr) (j : Nat) (h : j < l.length) : 0 ≤ htAt l j ∧ htAt l j ≤ 4 * ((l.length : Int) + 1) := by
  have := laL_bd l 0 l.length l.length j h
  rw [htAt_eq]
  omega
section
variable {l : List Instr} {w : Nat} {len : Int} {r : List Int} (hr : Okp l w len r) (hn : r.length = l.length)
include hr hn
theorem okp_nn (j : Nat) (h : j < l.length) : 0 ≤ r.getD j 0 := by have := hr.at_ j (by omega); have := eaC_nn l r j j; omega
theorem okp_path (h0 : 0 ≤ len) : (hts l l.length).foldl max 0 ≤ len := by
  have key : ∀ (xs : List Int) (m : Int), m ≤ len → (∀ x ∈ xs, x ≤ len) → xs.foldl max m ≤ len := by
    intro xs
    induction xs with
    | nil => intro m hm _; exact hm
    | cons x xs ih => intro m hm hx; exact ih _ (by have := hx x (by simp); omega) (fun y hy => hx y (by simp [hy]))
  refine key _ 0 h0 (fun x hx => ?_)
  obtain ⟨j, hj, e⟩ := List.getElem_of_mem hx
  have hl : (hts l l.length).length = l.length := by unfold hts; rw [ngL_len, laL_len]
  have h1 := okp_nn hr hn j (by omega)
  have h2 := hr.at_ j (by omega)
  have e2 : htAt l j = x := by
    unfold htAt
    rw [List.getD_eq_getElem?_getD, List.getElem?_eq_getElem hj, e]
    rfl
  omega
theorem eaL_at (u : Nat) : ∀ d j : Nat, u < j → (eaL l (j + d)).getD u 0 = (eaL l j).getD u 0
  | 0, _, _ => rfl
  | d + 1, j, h => by
    show (eaL l (j + d) ++ [_]).getD u 0 = _
    rw [getD_left _ _ _ (by rw [eaL_len]; omega), eaL_at u d j h]
theorem okp_early : ∀ j, j < l.length → (eaL l l.length).getD j 0 ≤ r.getD j 0 := by
  intro j
  induction j using Nat.strongRecOn with
  | _ j ih =>
    intro hj
    have e := eaL_at hr hn j (l.length - (j + 1)) (j + 1) (by omega)
    rw [show j + 1 + (l.length - (j + 1)) = l.length by omega] at e
    have e1 : (eaL l (j + 1)).getD j 0 = eaC l (eaL l j) j j := by
      show (eaL l j ++ [_]).getD j 0 = _
      rw [getD_app, if_neg (by rw [eaL_len]; omega), eaL_len, Nat.sub_self]
      rfl
    rw [e, e1]
    refine Int.le_trans (eaC_mono l _ r j j (fun i hi => ?_)) (hr.at_ j (by omega)).1
    have e2 := eaL_at hr hn i (l.length - j) j hi
    rw [show j + (l.length - j) = l.length by omega] at e2
    rw [← e2]
    exact ih i hi (by omega)
theorem wbC_ge (c : Int) (k : Nat) (hk : ∀ i, i < l.length → rd (eaL l l.length) (i : Int) ≥ c → r.getD i 0 < c + k) : ∀ m : Nat, m ≤ l.length → l.length ≤ 20 → (wbC l (eaL l l.length) c m).1 ≤ (rng (r.take m) c k : Int) ∧ (wbC l (eaL l l.length) c m).1 ≤ m ∧ 0 ≤ (wbC l (eaL l l.length) c m).1
  | 0, _, _ => by unfold wbC; omega
  | m + 1, hm, hl => by
    obtain ⟨ih1, ih2, ih3⟩ := wbC_ge c k hk m (by omega) hl
    have hlt : m < r.length := by omega
    rw [List.take_succ_eq_append_getElem hlt]
    have e0 : r.getD m 0 = r[m] := by rw [List.getD_eq_getElem?_getD, List.getElem?_eq_getElem hlt]; rfl
    have es : rng (r.take m ++ [r[m]]) c k = rng (r.take m) c k + if decide (c ≤ r[m] ∧ r[m] < c + k) = true then 1 else 0 := by
      unfold rng
      rw [List.countP_append, List.countP_cons, List.countP_nil, Nat.zero_add]
    rw [es]
    unfold wbC
    by_cases q : rd (eaL l l.length) (m : Int) ≥ c
    · rw [if_pos q]
      have h1 := hk m (by omega) q
      have h2 := okp_early hr hn m (by omega)
      rw [rdB] at q
      rw [if_pos (decide_eq_true (by rw [← e0]; omega))]
      simp only
      rw [w64 (by omega) (by omega)]
      omega
    · rw [if_neg q]
      omega
theorem wbC_pos (c : Int) (hl : l.length ≤ 20) : ∀ m i : Nat, m ≤ l.length → i < m → rd (eaL l l.length) (i : Int) ≥ c → 1 ≤ (wbC l (eaL l l.length) c m).1 ∧ (wbC l (eaL l l.length) c m).1 ≤ 20
  | m + 1, i, hm, hi, h => by
    have hb : ∀ m : Nat, m ≤ 20 → 0 ≤ (wbC l (eaL l l.length) c m).1 ∧ (wbC l (eaL l l.length) c m).1 ≤ m := by
      intro m
      induction m with
      | zero => intro _; unfold wbC; omega
      | succ m ih =>
        intro hm
        have := ih (by omega)
        unfold wbC
        split
        · simp only
          rw [w64 (by omega) (by omega)]
          omega
        · omega
    have hbm := hb m (by omega)
    unfold wbC
    by_cases e : i = m
    · subst e
      rw [if_pos h]
      simp only
      rw [w64 (by omega) (by omega)]
      omega
    · have ih := wbC_pos c hl m i (by omega) (by omega) h
      split
      · simp only
        rw [w64 (by omega) (by omega)]
        omega
      · exact ih
theorem wbC_least (c : Int) : ∀ m i : Nat, i < m → rd (eaL l l.length) (i : Int) ≥ c → (wbC l (eaL l l.length) c m).2 ≤ costC (cls (l.getD i zI).f0)
  | m + 1, i, hi, h => by
    unfold wbC
    by_cases e : i = m
    · subst e
      rw [if_pos h]
      simp only
      omega
    · have ih := wbC_least c m i (by omega) h
      split
      · simp only
        omega
      · exact ih
theorem wbC_bd (c : Int) : ∀ m : Nat, 0 ≤ (wbC l (eaL l l.length) c m).2 ∧ (wbC l (eaL l l.length) c m).2 ≤ 100
  | 0 => by unfold wbC; omega
  | m + 1 => by
    have ih := wbC_bd c m
    have := costC_le (cls (l.getD m zI).f0)
    unfold wbC
    split
    · simp only
      omega
    · exact ih
theorem okp_wide (hw : 1 ≤ w ∧ w ≤ 3) (hl : l.length ≤ 20) (h0 : 0 ≤ len) : ∀ m, m ≤ l.length → wbM l (eaL l l.length) w m ≤ len
  | 0, _ => by unfold wbM; exact h0
  | m + 1, hm => by
    have ih := okp_wide hw hl h0 m (by omega)
    unfold wbM
    generalize hc : rd (eaL l l.length) (m : Int) = c
    have hcb := eaL_bd l l.length m
    rw [← rdB, hc] at hcb
    have hL := wbC_bd hr hn c l.length
    have h1 := wbC_pos hr hn c hl l.length m (Nat.le_refl _) (by omega) (by omega)
    generalize hp : wbC l (eaL l l.length) c l.length = p at hL h1
    obtain ⟨N, L⟩ := p
    simp only at hL h1
    have late : ∃ i, i < l.length ∧ rd (eaL l l.length) (i : Int) ≥ c ∧ c + ((N + w - 1) / w - 1) ≤ r.getD i 0 := by
      refine Classical.byContradiction fun hno => ?_
      have hk : ∀ i, i < l.length → rd (eaL l l.length) (i : Int) ≥ c → r.getD i 0 < c + (((N + w - 1) / w - 1).toNat : Nat) := fun i hi he => by
        rcases Int.lt_or_le (r.getD i 0) (c + ((N + w - 1) / w - 1)) with h | h
        · have : (N + w - 1) / w - 1 ≤ (((N + w - 1) / w - 1).toNat : Nat) := Int.self_le_toNat _
          omega
        · exact absurd ⟨i, hi, he, h⟩ hno
      have hN := (wbC_ge hr hn c _ hk l.length (Nat.le_refl _) hl).1
      have hR := rng_le r c w hr.wide ((N + w - 1) / w - 1).toNat
      rw [hp, show r.take l.length = r from List.take_of_length_le (by omega)] at hN
      simp only at hN
      rcases (by omega : w = 1 ∨ w = 2 ∨ w = 3) with rfl | rfl | rfl <;> omega
    obtain ⟨i, hi, he, hb⟩ := late
    have hcost := wbC_least hr hn c l.length i hi he
    rw [hp] at hcost
    simp only at hcost
    have h2 := (hr.at_ i (by omega)).2
    have h3 := htAt_cost l i hi
    have hq : wbQ w c (N, L) = c + (N + w - 1) / w + L - 1 := by
      unfold wbQ
      simp only
      rw [w64 (x := N + w) (by omega) (by omega), w64 (x := N + w - 1) (by omega) (by omega), Int.tdiv_eq_ediv_of_nonneg (by omega)]
      have hd : 0 ≤ (N + w - 1) / w ∧ (N + w - 1) / w ≤ N + w := by rcases (by omega : w = 1 ∨ w = 2 ∨ w = 3) with rfl | rfl | rfl <;> omega
      rw [w64 (x := (N + w - 1) / w) (by omega) (by omega), w64 (x := c + (N + w - 1) / w) (by omega) (by omega), w64 (x := c + (N + w - 1) / w + L) (by omega) (by omega), w64 (by omega) (by omega)]
    rw [hq]
    omega
end
def bb : Nat → Nat
  | 0 => 0
  | j + 1 => bb j + 4 + j
theorem bb_mono : ∀ d j, bb j ≤ bb (j + d)
  | 0, _ => Nat.le_refl _
  | d + 1, j => by have := bb_mono d j; show bb j ≤ bb (j + d) + 4 + (j + d); omega
theorem fnd_some (l : List Instr) (hl : l.length ≤ 7) (w : Nat) (hw : 1 ≤ w) (len : Int) (hlen : (bb l.length : Int) + 32 ≤ len) : ∀ (d : Nat) (o : List Int), o.length + d = l.length → (∀ i, 0 ≤ o.getD i 0 ∧ o.getD i 0 ≤ bb o.length) → (fnd l w len d o).isSome = true
  | 0, _, _, _ => rfl
  | d + 1, o, hd, ho => by
    unfold fnd
    have hf := eaC_bd l o (bb o.length) (by omega) ho o.length o.length
    generalize eaC l o o.length o.length = first at hf
    have hh := htAt_bd l o.length (by omega)
    have free : ∃ t : Nat, t ≤ o.length ∧ cnt o (first + t) ≠ w := by
      refine Classical.byContradiction fun hno => ?_
      have h1 : ∀ t : Nat, t < o.length + 1 → 1 ≤ cnt o (first + t) := fun t ht => by
        by_cases e : cnt o (first + t) = w
        · omega
        · exact absurd ⟨t, by omega, e⟩ hno
      have h2 := rng_ge o first (o.length + 1) h1
      have h3 : rng o first (o.length + 1) ≤ o.length := List.countP_le_length
      omega
    obtain ⟨t, ht, hne⟩ := free
    have hbm := bb_mono (l.length - (o.length + 1)) (o.length + 1)
    rw [show o.length + 1 + (l.length - (o.length + 1)) = l.length by omega] at hbm
    have hb1 : bb (o.length + 1) = bb o.length + 4 + o.length := rfl
    refine srch_finds _ _ _ t (by omega) ?_
    show (if cnt o (first + (t : Int)) = w then none else fnd l w len d (o ++ [first + (t : Int)])).isSome = true
    rw [if_neg hne]
    refine fnd_some l hl w hw len hlen d _ (by rw [List.length_append, List.length_singleton]; omega) (fun i => ?_)
    rw [List.length_append, List.length_singleton, getD_app]
    split
    · have := ho i; omega
    · match h : i - o.length with
      | 0 => show 0 ≤ first + (t : Int) ∧ first + (t : Int) ≤ (bb (o.length + 1) : Nat); omega
      | m + 1 => simp
def bsGo (l : List Instr) (w : Nat) : Nat → Int → List Int
  | 0, _ => []
  | f + 1, len => match fnd l w len l.length [] with
    | some r => r
    | none => bsGo l w f (len + 1)
def bsL (l : List Instr) (w : Nat) : List Int := bsGo l w 101 0
theorem bb7 : ∀ n, n ≤ 7 → bb n ≤ 49 := by decide
theorem bsGo_skip (l : List Instr) (w : Nat) (s : Nat) (h : ∀ n : Nat, n < s → fnd l w n l.length [] = none) : ∀ (m n f : Nat), n + m = s → bsGo l w (f + m) n = bsGo l w f s
  | 0, n, f, e => by
    obtain rfl : n = s := by omega
    rfl
  | m + 1, n, f, e => by
    show (match fnd l w n l.length [] with
      | some r => r
      | none => bsGo l w (f + m) ((n : Int) + 1)) = _
    rw [h n (by omega)]
    exact bsGo_skip l w s h m (n + 1) f (by omega)
theorem bs_none (l : List Instr) (hl : l.length ≤ 20) (w : Nat) (hw : 1 ≤ w ∧ w ≤ 3) (n : Nat) (h : (n : Int) < max ((hts l l.length).foldl max 0) (wbM l (eaL l l.length) w l.length)) : fnd l w n l.length [] = none := by
  cases e : fnd l w n l.length [] with
  | none => rfl
  | some r =>
    obtain ⟨h1, h2⟩ := fnd_ok l w n l.length [] r (okp_nil l w n) e
    have h3 := okp_path h1 (by simpa using h2) (by omega)
    have h4 := okp_wide h1 (by simpa using h2) hw hl (by omega) l.length (Nat.le_refl _)
    omega
theorem bs_some (l : List Instr) (hl : l.length ≤ 7) (w : Nat) (hw : 1 ≤ w) : (fnd l w 100 l.length []).isSome = true :=
  fnd_some l hl w hw 100 (by have := bb7 l.length hl; omega) l.length [] (by simp) (fun i => by simp)
end Go.Proofs.Ytpndpmnliblpjaa.PL
end
section
namespace Go.Proofs.Ytpndpmnliblpjaa.Q
open Go.RowKit Go.Proofs.YtpndpmnliblpjaaW.PrintWords Go.Proofs.YtpndpmnliblpjaaW.PrintLast Go.Proofs.YtpndpmnliblpjaaW.PrintMore
attribute [local go_sem] max2_int min2_int max_two min_two max_three min_three max_four min_four
set_option linter.unusedVariables false
set_option linter.unusedSimpArgs false
end Go.Proofs.Ytpndpmnliblpjaa.Q
end
section
namespace Go.Proofs.Ytpndpmnliblpjaa.PL
open Go Go.RowKit Go.Proofs.YtpndpmnliblpjaaW.PrintWords Go.Proofs.YtpndpmnliblpjaaW.PrintLast Go.Proofs.YtpndpmnliblpjaaW.PrintMore Go.Proofs.Ytpndpmnliblpjaa.Q
set_option linter.unusedSimpArgs false
set_option linter.unusedVariables false
set_option linter.unusedSectionVars false
theorem bsFi_eaC (l : List Instr) (o : List Int) (j : Nat) (ho : ∀ i, 0 ≤ o.getD i 0 ∧ o.getD i 0 ≤ 1000) : ∀ u, u ≤ j → bsFi (rowI l j j) o u = eaC l o j u
  | 0, _ => rfl
  | u + 1, h => by
    have ih := bsFi_eaC l o j ho u (by omega)
    have h1 := ho u
    have h2 := dly_le l u j
    unfold bsFi eaC
    rw [ih, rowI_at l j j u (by omega), rdB, w64 (by omega) (by omega), mx_eq]
theorem bsSr_srch (p q : Int → Option (List Int)) : ∀ (m : Nat) (c : Int), (∀ t : Nat, t < m → p (c + t) = q (c + t)) → bsSr p m c = srch q m c
  | 0, _, _ => rfl
  | m + 1, c, h => by
    have h0 := h 0 (by omega)
    rw [show c + ((0 : Nat) : Int) = c by omega] at h0
    unfold bsSr srch
    rw [h0]
    cases q c with
    | some r => rfl
    | none => exact bsSr_srch p q m (c + 1) (fun t ht => by have := h (t + 1) (by omega); rwa [show c + ((t + 1 : Nat) : Int) = c + 1 + t by omega] at this)
theorem app_bd (o : List Int) (c B : Int) (hB : 0 ≤ B) (ho : ∀ i, 0 ≤ o.getD i 0 ∧ o.getD i 0 ≤ B) (hc : 0 ≤ c ∧ c ≤ B) (i : Nat) : 0 ≤ (o ++ [c]).getD i 0 ∧ (o ++ [c]).getD i 0 ≤ B := by
  rw [getD_app]
  split
  · exact ho i
  · match h : i - o.length with
    | 0 => exact hc
    | m + 1 => show 0 ≤ (0 : Int) ∧ (0 : Int) ≤ B; omega
theorem bsF_eq (l : List Instr) (hl : l.length ≤ 7) (w : Nat) (len : Int) (hlen : 0 ≤ len ∧ len ≤ 1000) : ∀ (d : Nat) (o : List Int), o.length + d = l.length → (∀ i, 0 ≤ o.getD i 0 ∧ o.getD i 0 ≤ 1000) → bsF (tabI l l.length) (laL l len l.length l.length) w d o = fnd l w len d o
  | 0, _, _, _ => rfl
  | d + 1, o, hd, ho => by
    have hj : o.length < l.length := by omega
    have hh := htAt_bd l o.length hj
    have hf := eaC_nn l o o.length o.length
    simp only [bsF, fnd]
    rw [tabI_at l l.length o.length hj, bsFi_eaC l o o.length ho o.length (Nat.le_refl _), rdB, latest_at l len o.length hj, show len - htAt l o.length - eaC l o o.length o.length + 1 = len - htAt l o.length + 1 - eaC l o o.length o.length by omega]
    refine bsSr_srch _ _ _ _ (fun t ht => ?_)
    have ih := bsF_eq l hl w len hlen d (o ++ [eaC l o o.length o.length + (t : Int)]) (by rw [List.length_append, List.length_singleton]; omega) (app_bd o _ 1000 (by omega) ho (by omega))
    show (if cnt o (eaC l o o.length o.length + (t : Int)) = w then none else bsF (tabI l l.length) (laL l len l.length l.length) w d (o ++ [eaC l o o.length o.length + (t : Int)])) = _
    rw [ih]
theorem bsOk_ok (l : List Instr) (hl : l.length ≤ 7) (len : Int) (hlen : 0 ≤ len ∧ len ≤ 100) : bsOk (tabI l l.length) (laL l len l.length l.length) l.length = true := by
  unfold bsOk
  rw [Bool.and_eq_true, decide_eq_true_eq, List.all_eq_true]
  refine ⟨⟨hl, tabI_len l l.length, laL_len l len l.length l.length⟩, fun j hj => ?_⟩
  have hj := List.mem_range.1 hj
  have hb := laL_bd l len l.length l.length j hj
  rw [Bool.and_eq_true, decide_eq_true_eq, List.all_eq_true, tabI_at l l.length j hj, rdB]
  refine ⟨⟨rowI_len l j j, by omega, by omega⟩, fun x hx => ?_⟩
  obtain ⟨u, _, rfl⟩ := List.mem_map.1 hx
  have := dly_le l u j
  exact decide_eq_true (by omega)
theorem bsRun_ev (l : List Instr) (hl : l.length ≤ 7) (w : Nat) (hw : 1 ≤ w) : ∀ (m len : Nat), len + m = 101 → 0 < m → ∃ K f0, ∀ k f, K ≤ k → f0 ≤ f → bsRun k l (tabI l l.length) w f len = some (bsGo l w m len, true)
  | 0, _, _, h => absurd h (Nat.lt_irrefl 0)
  | m + 1, len, hm, _ => by
    obtain ⟨K, hK⟩ := latest_ev l (by omega) len (by omega)
    have hF := bsF_eq l hl w len (by omega) l.length [] (by simp) (fun i => by simp)
    have hO := bsOk_ok l hl len (by omega)
    have base : ∀ k f, K ≤ k → bsRun k l (tabI l l.length) w (f + 1) len = match fnd l w len l.length [] with
      | some r => some (r, true)
      | none => bsRun k l (tabI l l.length) w f ((len : Int) + 1) := fun k f hk => by
        have hk' : impl_latest.f k l len = some (laL l len l.length l.length) := hK k hk
        simp only [bsRun]
        rw [hk', Option.bind_some, if_pos ⟨hO, by omega⟩, hF]
        cases fnd l w len l.length [] <;> rfl
    unfold bsGo
    cases e : fnd l w len l.length [] with
    | some r => exact ⟨K, 1, fun k f hk hf => by obtain ⟨f, rfl⟩ : ∃ f', f = f' + 1 := ⟨f - 1, by omega⟩; rw [base k f hk, e]⟩
    | none =>
      by_cases h0 : m = 0
      · have := bs_some l hl w hw
        obtain rfl : len = 100 := by omega
        have e' : fnd l w 100 l.length [] = none := e
        rw [e'] at this
        cases this
      · obtain ⟨K', f0, h⟩ := bsRun_ev l hl w hw m (len + 1) (by omega) (by omega)
        exact ⟨max K K', f0 + 1, fun k f hk hf => by
          obtain ⟨f, rfl⟩ : ∃ f', f = f' + 1 := ⟨f - 1, by omega⟩
          rw [base k f (by omega), e]
          exact h k f (by omega) (by omega)⟩
def bsR (l : List Instr) (a : Int) : List Int × Bool := if okBlock l = true ∧ (1 ≤ a ∧ a ≤ 3) ∧ l.length ≤ 7 then (bsL l a.toNat, true) else ([], false)
theorem implBS_ev (l : List Instr) (a : Int) : Ev (fun k => impl_BestSchedule.f k l a) (bsR l a) := by
  unfold impl_BestSchedule.f
  refine Ev.bind (isCode_ev l) ?_
  have he := okBlock_eq l
  by_cases hc : okCode l = true
  · refine Ev.ifp hc ?_
    by_cases h7 : (l.length : Int) > 7
    · rw [show bsR l a = ([], false) from if_neg (fun q => by omega)]
      exact Ev.ifp h7 (Ev.now _)
    · have h : okBlock l = true := by rw [he, hc, Bool.true_and]; exact decide_eq_true (by omega)
      refine Ev.ifn h7 (Ev.call (show impl_isWide.f a = some (decide (1 ≤ a ∧ a ≤ 3)) from by unfold impl_isWide.f; rw [within_eq]; rfl) ?_)
      by_cases ha : 1 ≤ a ∧ a ≤ 3
      · obtain ⟨n, rfl⟩ := Int.eq_ofNat_of_zero_le (show 0 ≤ a by omega)
        rw [show bsR l n = (bsL l n, true) from if_pos ⟨h, ha, by omega⟩]
        refine Ev.ifp (decide_eq_true ha) (Ev.ifp (by omega) (Ev.bind (delays_ev l (by omega)) ?_))
        obtain ⟨K, f0, hh⟩ := bsRun_ev l (by omega) n (by omega) 101 0 rfl (by omega)
        exact ⟨max K f0, fun k hk => hh k k (by omega) (by omega)⟩
      · rw [show bsR l a = ([], false) from if_neg (fun q => ha q.2.1)]
        exact Ev.ifn (by rw [decide_eq_false ha]; decide) (Ev.now _)
  · rw [show bsR l a = ([], false) from if_neg (fun q => by rw [he] at q; simp [hc] at q)]
    exact Ev.ifn hc (Ev.now _)
def outB : Option (List Int) → List Int × Bool
  | some r => (r, true)
  | none => ([], false)
theorem own_eqB (l : List Int) (h : l.length ≤ 1048576) : spec_l1Own.f l = some l := by
  unfold spec_l1Own.f
  rw [Option.bind_some, if_pos (by simp; omega)]
  rfl
theorem hts_lenB (l : List Instr) : (hts l l.length).length = l.length := by unfold hts; rw [ngL_len, laL_len]
theorem cnt_snoc (o : List Int) (u : Nat) (c : Int) (h : u < o.length) : cnt (o.take (u + 1)) c = cnt (o.take u) c + if o.getD u 0 = c then 1 else 0 := by
  have e : o.getD u 0 = o[u] := by rw [List.getD_eq_getElem?_getD, List.getElem?_eq_getElem h]; rfl
  unfold cnt
  rw [List.take_succ_eq_append_getElem h, List.countP_append, List.countP_cons, List.countP_nil, Nat.zero_add, e]
  by_cases q : o[u] = c <;> simp [q]
section
variable (l : List Instr) (hl : l.length ≤ 7) (w : Nat) (len : Int) (hlen : 0 ≤ len ∧ len ≤ 1000)
include hl hlen
theorem fill_first (o : List Int) (ho : ∀ i, 0 ≤ o.getD i 0 ∧ o.getD i 0 ≤ 1000) (hj : o.length < l.length) (T : List Int × Bool) (hc : Ev (fun k => spec_orFill.l1 k l (tabS l l.length) (hts l l.length) o w len o.length (eaC l o o.length o.length)) T) :
    ∀ (m u : Nat), u + m = o.length → Ev (fun k => spec_orFill.l0 k l (tabS l l.length) (hts l l.length) o w len o.length (eaC l o o.length u) o o.length u) T := by
  intro m
  induction m with
  | zero =>
    intro u hu
    obtain rfl : u = o.length := by omega
    exact Ev.step (fun k => by simp only [spec_orFill.l0]; rfl) (Ev.ifn (by omega) hc)
  | succ m ih =>
    intro u hu
    have next := ih (u + 1) (by omega)
    refine Ev.step (fun k => by simp only [spec_orFill.l0]; rfl) (Ev.ifp (by omega) (Ev.ifp (by omega) (Ev.ifp (by omega) (Ev.ifp (by rw [tabS_len]; omega) (Ev.ifp (by omega) ?_)))))
    rw [tabS_at l l.length u (by omega)]
    refine Ev.ifp (by rw [rowS_len]; omega) ?_
    rw [rowS_at l u l.length o.length (by omega), w64n u (by omega), show dlyS l u o.length = dly l u o.length from by unfold dlyS; rw [if_pos (by omega)]]
    unfold eaC at next
    by_cases hd : dly l u o.length ≥ 0
    · rw [if_pos hd] at next
      have b1 := ho u
      have b2 := dly_le l u o.length
      refine Ev.ifp hd ?_
      rw [rdB, w64 (by omega) (by omega)]
      exact Ev.call (most_eq _ _) next
    · rw [if_neg hd] at next
      exact Ev.ifn hd next
theorem orFill_ev : ∀ (d : Nat) (o : List Int), o.length + d = l.length → (∀ i, 0 ≤ o.getD i 0 ∧ o.getD i 0 ≤ 1000) → Ev (fun k => spec_orFill.f k l (tabS l l.length) (hts l l.length) o w len) (outB (fnd l w len d o)) := by
  intro d
  induction d with
  | zero =>
    intro o hd ho
    exact Ev.step (fun k => by simp only [spec_orFill.f]; rfl) (Ev.ifp (by omega) (Ev.call (own_eqB o (by omega)) (Ev.some rfl)))
  | succ d ihd =>
    intro o hd ho
    have hj : o.length < l.length := by omega
    have hh := htAt_bd l o.length hj
    have hf := eaC_bd l o 1000 (by omega) ho o.length o.length
    refine Ev.step (fun k => by simp only [spec_orFill.f]; rfl) (Ev.ifn (by omega) ?_)
    refine fill_first l hl w len hlen o ho hj _ ?_ o.length 0 (by omega)
    show Ev _ (outB (srch (fun c => if cnt o c = w then none else fnd l w len d (o ++ [c])) (len - htAt l o.length + 1 - eaC l o o.length o.length).toNat (eaC l o o.length o.length)))
    generalize eaC l o o.length o.length = c0 at hf
    have search : ∀ (m : Nat) (c : Int), 0 ≤ c → c ≤ 1100 → (len - htAt l o.length + 1 - c).toNat = m → Ev (fun k => spec_orFill.l1 k l (tabS l l.length) (hts l l.length) o w len o.length c) (outB (srch (fun c => if cnt o c = w then none else fnd l w len d (o ++ [c])) m c)) := by
      intro m
      induction m with
      | zero =>
        intro c h0 h1 hm
        refine Ev.step (fun k => by simp only [spec_orFill.l1]; rfl) (Ev.ifp (by omega) (Ev.ifp (by rw [hts_lenB]; omega) ?_))
        rw [rdB, show (hts l l.length).getD o.length 0 = htAt l o.length from rfl, w64 (by omega) (by omega)]
        exact Ev.ifn (by omega) (Ev.some rfl)
      | succ m ih =>
        intro c h0 h1 hm
        have next := ih (c + 1) (by omega) (by omega) (by omega)
        refine Ev.step (fun k => by simp only [spec_orFill.l1]; rfl) (Ev.ifp (by omega) (Ev.ifp (by rw [hts_lenB]; omega) ?_))
        rw [rdB, show (hts l l.length).getD o.length 0 = htAt l o.length from rfl, w64 (by omega) (by omega)]
        refine Ev.ifp (by omega) ?_
        have inner : ∀ (e u : Nat), u + e = o.length → Ev (fun k => spec_orFill.l2 k l (tabS l l.length) (hts l l.length) o w len o.length c (cnt (o.take u) c : Nat) o o.length u) (outB (srch (fun c => if cnt o c = w then none else fnd l w len d (o ++ [c])) (m + 1) c)) := by
          intro e
          induction e with
          | zero =>
            intro u hu
            obtain rfl : u = o.length := by omega
            refine Ev.step (fun k => by simp only [spec_orFill.l2]; rfl) (Ev.ifn (by omega) ?_)
            rw [List.take_length, w64 (x := c + 1) (by omega) (by omega)]
            by_cases q : cnt o c = w
            · rw [show srch (fun c => if cnt o c = w then none else fnd l w len d (o ++ [c])) (m + 1) c = srch (fun c => if cnt o c = w then none else fnd l w len d (o ++ [c])) m (c + 1) from by rw [srch]; simp only [if_pos q]]
              exact Ev.ifp (by omega) next
            · refine Ev.ifn (by omega) (Ev.call (own_eqB o (by omega)) (Ev.ifp (by omega) (Ev.bind (ihd (o ++ [c]) (by rw [List.length_append, List.length_singleton]; omega) (app_bd o c 1000 (by omega) ho (by omega))) ?_)))
              cases hfn : fnd l w len d (o ++ [c]) with
              | some r =>
                rw [show srch (fun c => if cnt o c = w then none else fnd l w len d (o ++ [c])) (m + 1) c = some r from by rw [srch]; simp only [if_neg q, hfn]]
                exact Ev.ifp rfl (Ev.some rfl)
              | none =>
                rw [show srch (fun c => if cnt o c = w then none else fnd l w len d (o ++ [c])) (m + 1) c = srch (fun c => if cnt o c = w then none else fnd l w len d (o ++ [c])) m (c + 1) from by rw [srch]; simp only [if_neg q, hfn]]
                exact Ev.ifn (by simp [outB]) next
          | succ e ihe =>
            intro u hu
            have nextu := ihe (u + 1) (by omega)
            have hcn : cnt (o.take u) c ≤ u := Nat.le_trans List.countP_le_length (by rw [List.length_take]; omega)
            rw [cnt_snoc o u c (by omega)] at nextu
            refine Ev.step (fun k => by simp only [spec_orFill.l2]; rfl) (Ev.ifp (by omega) (Ev.ifp (by omega) (Ev.ifp (by omega) ?_)))
            rw [rdB, w64n u (by omega), w64n (cnt (o.take u) c) (by omega)]
            by_cases q : o.getD u 0 = c
            · rw [if_pos q] at nextu
              exact Ev.ifp q nextu
            · rw [if_neg q] at nextu
              exact Ev.ifn q nextu
        have := inner o.length 0 (by omega)
        exact this
    exact search _ c0 (by omega) (by omega) rfl
end
theorem least_eqB (a b : Int) : spec_l1Least.f a b = some (min a b) := by
  unfold spec_l1Least.f
  by_cases q : a < b
  · rw [if_pos q]; congr 1; omega
  · rw [if_neg q]; congr 1; omega
theorem orPath_ev (l : List Instr) (h1 : l.length ≤ 20) (h2 : ∀ x ∈ l, okI x) : Ev (fun k => spec_orPath.f k l) ((hts l l.length).foldl max 0) := by
  have hh := hts_lenB l
  unfold spec_orPath.f
  refine Ev.bind (specH_ev l h1 h2) ?_
  generalize hts l l.length = X at hh ⊢
  have key : ∀ (d i : Nat) (m : Int), i + d = X.length → Ev (fun k => spec_orPath.l0 k m X X.length i) ((X.drop i).foldl max m) := by
    intro d
    induction d with
    | zero =>
      intro i m hi
      refine Ev.step (f := fun _ => some m) (fun k => ?_) (Ev.some ?_)
      · simp only [spec_orPath.l0]
        rw [if_neg (by omega)]
      · rw [List.drop_of_length_le (by omega)]
        rfl
    | succ d ih =>
      intro i m hi
      have hlt : i < X.length := by omega
      have next := ih (i + 1) (max m X[i]) (by omega)
      rw [List.drop_eq_getElem_cons hlt]
      refine Ev.step (fun k => by simp only [spec_orPath.l0]; rfl) (Ev.ifp (by omega) (Ev.ifp (by omega) (Ev.ifp (by omega) ?_)))
      rw [rd_eq (getD_eq X i hlt)]
      refine Ev.call (most_eq _ _) ?_
      rw [w64n i (by omega)]
      exact next
  exact key X.length 0 0 (by omega)
theorem orBound_ev (l : List Instr) (h1 : l.length ≤ 20) (h2 : ∀ x ∈ l, okI x) (w : Int) (hq : 1 ≤ w ∧ w ≤ 3) : Ev (fun k => spec_orBound.f k l w) (wbM l (eaL l l.length) w l.length) := by
  unfold spec_orBound.f
  refine Ev.bind (orEarliest_ev l h1 h2) ?_
  rw [eaL_len]
  have inner : ∀ (m : Int) (i : Nat) (c : Int) (T : Int), Ev (fun k => spec_orBound.l0 k l w (eaL l l.length) (max m (wbQ w c (wbC l (eaL l l.length) c l.length))) (eaL l l.length) l.length (wrap64 ((i : Int) + 1))) T →
      ∀ (d u : Nat), u + d = l.length → Ev (fun k => spec_orBound.l1 k l w (eaL l l.length) m c (wbC l (eaL l l.length) c u).1 (wbC l (eaL l l.length) c u).2 (eaL l l.length) l.length i l l.length u) T := by
    intro m i c T hc d
    induction d with
    | zero =>
      intro u hu
      obtain rfl : u = l.length := by omega
      exact Ev.step (fun k => by simp only [spec_orBound.l1]; rfl) (Ev.ifn (by omega) (Ev.ifn (by omega) (Ev.call (most_eq _ _) hc)))
    | succ d ih =>
      intro u hu
      have next := ih (u + 1) (by omega)
      unfold wbC at next
      refine Ev.step (fun k => by simp only [spec_orBound.l1]; rfl) (Ev.ifp (by omega) (Ev.ifp (by omega) (Ev.ifp (by omega) (Ev.ifp (by rw [eaL_len]; omega) ?_))))
      rw [rdI_at, w64n u (by omega)]
      by_cases hd : rd (eaL l l.length) u ≥ c
      · rw [if_pos hd] at next
        have ho := okAt (P := okI) l u (by omega) h2
        exact Ev.ifp hd (Ev.call (cdCost_eq _ ho.1) (Ev.call (least_eqB _ _) next))
      · rw [if_neg hd] at next
        exact Ev.ifn hd next
  have key : ∀ (d i : Nat), i + d = l.length → Ev (fun k => spec_orBound.l0 k l w (eaL l l.length) (wbM l (eaL l l.length) w i) (eaL l l.length) l.length i) (wbM l (eaL l l.length) w l.length) := by
    intro d
    induction d with
    | zero =>
      intro i hi
      obtain rfl : i = l.length := by omega
      refine Ev.step (f := fun _ => some (wbM l (eaL l l.length) w l.length)) (fun k => ?_) (Ev.now _)
      simp only [spec_orBound.l0]
      rw [if_neg (by omega)]
    | succ d ih =>
      intro i hi
      have next := ih (i + 1) (by omega)
      refine Ev.step (fun k => by simp only [spec_orBound.l0]; rfl) (Ev.ifp (by omega) (Ev.ifp (by omega) (Ev.ifp (by rw [eaL_len]; omega) ?_)))
      refine inner (wbM l (eaL l l.length) w i) i (rd (eaL l l.length) i) _ ?_ l.length 0 (by omega)
      rw [w64n i (by omega)]
      exact next
  exact key l.length 0 (by omega)
theorem foldl_max_ge : ∀ (xs : List Int) (m : Int), m ≤ xs.foldl max m
  | [], m => Int.le_refl _
  | x :: xs, m => by have := foldl_max_ge xs (max m x); show m ≤ xs.foldl max (max m x); omega
theorem orBest_ev (l : List Instr) (hl : l.length ≤ 7) (ok : ∀ x ∈ l, okI x) (w : Nat) (hw : 1 ≤ w ∧ w ≤ 3) : Ev (fun k => spec_orBest.f k l w) (bsL l w) := by
  have hP := orPath_ev l (by omega) ok
  have hB := orBound_ev l (by omega) ok w (by omega)
  have hp0 := foldl_max_ge (hts l l.length) 0
  unfold spec_orBest.f
  refine Ev.bind (orDelays_ev l (by omega) ok) (Ev.bind (specH_ev l (by omega) ok) (Ev.bind hP (Ev.bind hB (Ev.call (most_eq _ _) ?_))))
  obtain ⟨s, hs⟩ := Int.eq_ofNat_of_zero_le (show 0 ≤ max ((hts l l.length).foldl max 0) (wbM l (eaL l l.length) w l.length) by omega)
  have hnone : ∀ n : Nat, n < s → fnd l w n l.length [] = none := fun n hn => bs_none l (by omega) w hw n (by omega)
  rw [hs]
  have hsome := bs_some l hl w hw.1
  have h100 : s ≤ 100 := by
    refine Nat.le_of_not_lt fun hlt => ?_
    have e : fnd l w 100 l.length [] = none := hnone 100 hlt
    rw [e] at hsome
    cases hsome
  have key : ∀ (m n : Nat), n + m = 101 → 0 < m → Ev (fun k => spec_orBest.l0 k l w (tabS l l.length) (hts l l.length) n) (bsGo l w m n) := by
    intro m
    induction m with
    | zero => intro n _ h; exact absurd h (Nat.lt_irrefl 0)
    | succ m ih =>
      intro n hn _
      refine Ev.step (fun k => by simp only [spec_orBest.l0]; rfl) (Ev.bind (orFill_ev l hl w n (by omega) l.length [] (by simp) (fun i => by simp)) ?_)
      unfold bsGo
      cases e : fnd l w n l.length [] with
      | some r => exact Ev.ifp rfl (Ev.some rfl)
      | none =>
        refine Ev.ifn (by simp [outB]) ?_
        by_cases h0 : m = 0
        · obtain rfl : n = 100 := by omega
          have e' : fnd l w 100 l.length [] = none := e
          rw [e'] at hsome
          cases hsome
        · rw [w64n n (by omega)]
          exact ih (n + 1) (by omega) (by omega)
  have := key (101 - s) s (by omega) (by omega)
  rw [← bsGo_skip l w s hnone s 0 (101 - s) (by omega), show 101 - s + s = 101 by omega] at this
  exact this
end Go.Proofs.Ytpndpmnliblpjaa.PL
end
section
namespace Go.Proofs.Ytpndpmnliblpjaa.Q
open Go.RowKit Go.Proofs.YtpndpmnliblpjaaW.PrintWords Go.Proofs.YtpndpmnliblpjaaW.PrintLast Go.Proofs.YtpndpmnliblpjaaW.PrintMore
attribute [local go_sem] max2_int min2_int max_two min_two max_three min_three max_four min_four
set_option linter.unusedVariables false
set_option linter.unusedSimpArgs false
end Go.Proofs.Ytpndpmnliblpjaa.Q
end
section
namespace Go.Proofs.Ytpndpmnliblpjaa.PL
open Go Go.RowKit Go.Proofs.YtpndpmnliblpjaaW.PrintWords Go.Proofs.YtpndpmnliblpjaaW.PrintLast Go.Proofs.YtpndpmnliblpjaaW.PrintMore Go.Proofs.Ytpndpmnliblpjaa.Q
set_option linter.unusedSimpArgs false
set_option linter.unusedVariables false
theorem bne_self' (b : Bool) : (b != b) = false := by simp
end Go.Proofs.Ytpndpmnliblpjaa.PL
end
section
namespace Go.Proofs.Ytpndpmnliblpjaa.PL
open Go Go.RowKit Go.Proofs.YtpndpmnliblpjaaW.PrintWords Go.Proofs.YtpndpmnliblpjaaW.PrintLast Go.Proofs.YtpndpmnliblpjaaW.PrintMore Go.Proofs.Ytpndpmnliblpjaa.Q
set_option linter.unusedSimpArgs false
set_option linter.unusedVariables false
def lenM : List Instr → List Int → Int → Int
  | x :: l, n :: c, m => lenM l c (if m < n + costC (cls x.f0) then n + costC (cls x.f0) else m)
  | _, _, m => m
theorem lengthOf_ev (l : List Instr) (c : List Int) (h1 : l.length ≤ 20) (h2 : ∀ x ∈ l, okI x) (h3 : c.length = l.length) (h4 : ∀ n ∈ c, 0 ≤ n ∧ n ≤ 100) : Ev (fun k => impl_lengthOf.f k l c) (lenM l c 0) := by
  have key : ∀ (d i : Nat) (m : Int), i + d = l.length → Ev (fun k => impl_lengthOf.l0 k c m l l.length i) (lenM (l.drop i) (c.drop i) m) := by
    intro d
    induction d with
    | zero =>
      intro i m hi
      refine Ev.step (f := fun _ => some m) (fun k => ?_) (Ev.some ?_)
      · simp only [impl_lengthOf.l0]
        rw [if_neg (by omega)]
      · rw [List.drop_of_length_le (by omega)]
        rfl
    | succ d ih =>
      intro i m hi
      have hlt : i < l.length := by omega
      have hltc : i < c.length := by omega
      have e : l.drop i = l[i] :: l.drop (i + 1) := List.drop_eq_getElem_cons hlt
      have ec : c.drop i = c[i] :: c.drop (i + 1) := List.drop_eq_getElem_cons hltc
      have hx := rdI_eq (getD_eq l i hlt)
      have hn := rd_eq (getD_eq c i hltc)
      have hb := h4 c[i] (List.getElem_mem hltc)
      have hk := costC_le (cls l[i].f0)
      rw [e, ec]
      refine Ev.step (fun k => ?_) (ih (i + 1) _ (by omega))
      simp only [impl_lengthOf.l0]
      rw [if_pos (by omega), if_pos (by omega), if_pos (by omega), if_pos (by omega), hx, hn, cost_eq, Option.bind_some, w64n i (by omega), w64 (by omega) (by omega)]
      rfl
  unfold impl_lengthOf.f
  simpa using key l.length 0 0 (by omega)
theorem orLength_ev (l : List Instr) (c : List Int) (h1 : l.length ≤ 20) (h2 : ∀ x ∈ l, okI x) (h3 : c.length = l.length) (h4 : ∀ n ∈ c, 0 ≤ n ∧ n ≤ 100) : Ev (fun k => spec_orLength.f k l c) (lenM l c 0) := by
  have key : ∀ (d i : Nat) (m : Int), i + d = l.length → Ev (fun k => spec_orLength.l0 k c m l l.length i) (lenM (l.drop i) (c.drop i) m) := by
    intro d
    induction d with
    | zero =>
      intro i m hi
      refine Ev.step (f := fun _ => some m) (fun k => ?_) (Ev.some ?_)
      · simp only [spec_orLength.l0]
        rw [if_neg (by omega)]
      · rw [List.drop_of_length_le (by omega)]
        rfl
    | succ d ih =>
      intro i m hi
      have hlt : i < l.length := by omega
      have hltc : i < c.length := by omega
      have e : l.drop i = l[i] :: l.drop (i + 1) := List.drop_eq_getElem_cons hlt
      have ec : c.drop i = c[i] :: c.drop (i + 1) := List.drop_eq_getElem_cons hltc
      have hx := rdI_eq (getD_eq l i hlt)
      have hn := rd_eq (getD_eq c i hltc)
      have hb := h4 c[i] (List.getElem_mem hltc)
      have hk := costC_le (cls l[i].f0)
      rw [e, ec]
      refine Ev.step (fun k => ?_) (ih (i + 1) _ (by omega))
      simp only [spec_orLength.l0]
      rw [if_pos (by omega), if_pos (by omega), if_pos (by omega), if_pos (by omega), hx, hn, cdCost_eq _ (h2 l[i] (List.getElem_mem hlt)).1, Option.bind_some, w64n i (by omega), w64 (by omega) (by omega)]
      have hm : spec_l1Most.f m (c[i] + costC (cls l[i].f0)) = some (if m < c[i] + costC (cls l[i].f0) then c[i] + costC (cls l[i].f0) else m) := by
        unfold spec_l1Most.f
        by_cases hq : m < c[i] + costC (cls l[i].f0)
        · rw [if_pos hq, if_neg (by omega)]
        · rw [if_neg hq]
          by_cases hq' : m > c[i] + costC (cls l[i].f0)
          · rw [if_pos hq']
          · rw [if_neg hq']
            congr 1
            omega
      rw [hm, Option.bind_some]
  unfold spec_orLength.f
  simpa using key l.length 0 0 (by omega)
theorem bsGo_okp (l : List Instr) (hl : l.length ≤ 7) (w : Nat) (hw : 1 ≤ w) : ∀ (f n : Nat), n + f = 101 → 0 < f → (bsGo l w f n).length = l.length ∧ ∀ x ∈ bsGo l w f n, 0 ≤ x ∧ x ≤ 100
  | 0, _, _, h => absurd h (Nat.lt_irrefl 0)
  | f + 1, n, hn, _ => by
    unfold bsGo
    cases e : fnd l w n l.length [] with
    | some r =>
      obtain ⟨h1, h2⟩ := fnd_ok l w n l.length [] r (okp_nil l w n) e
      have h3 : r.length = l.length := by simpa using h2
      refine ⟨h3, fun x hx => ?_⟩
      replace hx : x ∈ r := hx
      obtain ⟨j, hj, rfl⟩ := List.getElem_of_mem hx
      have a1 := h1.at_ j hj
      have a2 := eaC_nn l r j j
      have a3 := htAt_bd l j (by omega)
      have a4 : r.getD j 0 = r[j] := by rw [List.getD_eq_getElem?_getD, List.getElem?_eq_getElem hj]; rfl
      omega
    | none =>
      by_cases h0 : f = 0
      · have := bs_some l hl w hw
        obtain rfl : n = 100 := by omega
        have e' : fnd l w 100 l.length [] = none := e
        rw [e'] at this
        cases this
      · exact bsGo_okp l hl w hw f (n + 1) (by omega) (by omega)
def llR (l : List Instr) (a : Int) : Int × Bool := if okBlock l = true ∧ (1 ≤ a ∧ a ≤ 3) ∧ l.length ≤ 7 then (lenM l (bsL l a.toNat) 0, true) else (0, false)
theorem implLL_ev (l : List Instr) (a : Int) : Ev (fun k => impl_LeastLength.f k l a) (llR l a) := by
  unfold impl_LeastLength.f
  refine Ev.bind (implBS_ev l a) ?_
  by_cases h : okBlock l = true ∧ (1 ≤ a ∧ a ≤ 3) ∧ l.length ≤ 7
  · rw [show bsR l a = (bsL l a.toNat, true) from if_pos h, show llR l a = (lenM l (bsL l a.toNat) 0, true) from if_pos h]
    obtain ⟨h1, h2⟩ := okBlock_of h.1
    obtain ⟨h3, h4⟩ := bsGo_okp l h.2.2 a.toNat (by omega) 101 0 rfl (by omega)
    exact Ev.ifp rfl (Ev.bind (lengthOf_ev l (bsL l a.toNat) h1 h2 h3 h4) (Ev.now _))
  · rw [show bsR l a = ([], false) from if_neg h, show llR l a = (0, false) from if_neg h]
    exact Ev.ifn (by decide) (Ev.now _)
theorem specLL_ev (l : List Instr) (a : Int) : Ev (fun k => spec_LeastLength.f k l a) (llR l a) := by
  unfold spec_LeastLength.f
  have no : llR l a = (0, false) → Ev (fun k => spec_LeastLength.j0 k l a true) (llR l a) := fun e => by
    rw [e]
    exact Ev.step (fun k => by simp only [spec_LeastLength.j0]; rfl) (Ev.ifp trivial (Ev.now _))
  refine Ev.bind (orGood_ev l) ?_
  by_cases h : okBlock l = true
  · obtain ⟨h1, h2⟩ := okBlock_of h
    refine Ev.ifp h (Ev.call (show spec_orWide.f a = some (decide (1 ≤ a ∧ a ≤ 3)) from by unfold spec_orWide.f; rw [l1In_eq]; rfl) ?_)
    by_cases ha : 1 ≤ a ∧ a ≤ 3
    · refine Ev.ifp (decide_eq_true ha) ?_
      by_cases h7 : (l.length : Int) > 7
      · rw [decide_eq_true h7]
        exact no (if_neg (fun q => by omega))
      · rw [decide_eq_false h7]
        obtain ⟨n, rfl⟩ := Int.eq_ofNat_of_zero_le (show 0 ≤ a by omega)
        rw [show llR l n = (lenM l (bsL l n) 0, true) from if_pos ⟨h, ha, by omega⟩]
        obtain ⟨h3, h4⟩ := bsGo_okp l (by omega) n (by omega) 101 0 rfl (by omega)
        exact Ev.step (fun k => by simp only [spec_LeastLength.j0]; rfl) (Ev.ifn (by decide) (Ev.bind (orBest_ev l (by omega) h2 n (by omega)) (Ev.bind (orLength_ev l (bsL l n) h1 h2 h3 h4) (Ev.some (a := (lenM l (bsL l n) 0, true)) rfl))))
    · exact Ev.ifn (by rw [decide_eq_false ha]; decide) (no (if_neg (fun q => ha q.2.1)))
  · exact Ev.ifn h (no (if_neg (fun q => h q.1)))
end Go.Proofs.Ytpndpmnliblpjaa.PL
namespace Go.Proofs.Ytpndpmnliblpjaa.Pure
open Go Go.RowKit Go.Proofs.YtpndpmnliblpjaaW.PrintWords Go.Proofs.YtpndpmnliblpjaaW.PrintLast Go.Proofs.YtpndpmnliblpjaaW.PrintMore Go.Proofs.Ytpndpmnliblpjaa.Q Go.Proofs.Ytpndpmnliblpjaa.PL
set_option linter.unusedSimpArgs false
set_option linter.unusedVariables false
theorem FnExactLeastLength : laws_FnExactLeastLength.Pure := by
  intro a0 a1 h0 h1
  refine Ev.rounds (g := fun k => laws_FnExactLeastLength.f k a0 a1) ?_
  unfold laws_FnExactLeastLength.f
  obtain ⟨r0, hr0, hr0'⟩ := szInstrS_ev a0 1048576 h0 (by decide) (by decide)
  refine Ev.bind hr0 ?_
  by_cases hn0 : r0 < 0
  · exact Ev.ifp hn0 (Ev.now _)
  have hl0 := hr0' (by omega)
  have q0 := hl0.2.2
  refine Ev.ifn hn0 ?_
  have b0 : a0.length ≤ 1048576 := by have := hl0.1; omega
  refine Ev.bind (toInstrS_ev a0 b0) (?_)
  refine Ev.bind (specLL_ev (a0.map cvI) a1) ?_
  refine Ev.bind (toInstrS_ev a0 b0) (?_)
  refine Ev.bind (implLL_ev (a0.map cvI) a1) ?_
  refine Ev.ifp rfl ?_
  rw [bne_self' _]
  refine Ev.step (fun k => by simp only [laws_FnExactLeastLength.j0]; rfl) (Ev.ifn (by decide) ?_)
  exact Ev.bind (toInstrS_ev a0 b0) (Ev.bind (eqInstrS_refl _ (by simpa using b0)) (Ev.ifp rfl (Ev.now _)))
end Go.Proofs.Ytpndpmnliblpjaa.Pure
end
