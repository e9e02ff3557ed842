/- Proved here: contracts of functions that the law FnExactProgramReaches reaches, and lemmas on what they compute; texts of this session and the printed words of the kit that they lean on, cut down and put together by its program link.py. Conditions: as each states. -/
import Derived.Carry
import Derived.Deep.Slices
import Derived.ProofKit
import Derived.Test.YtnaafcleafbejaaZFnExactProgramReaches1
import Derived.Test.YtnaafcleafbejaaZFnExactProgramReaches2
import Derived.Test.YtnaafcleafbejaaZFnExactProgramReaches3
section
namespace Go.Proofs.Ytnaafcleafbejaa.Q
open Go.RowKit Go.Proofs.YtnaafcleafbejaaW.PrintWords Go.Proofs.YtnaafcleafbejaaW.PrintLast Go.Proofs.YtnaafcleafbejaaW.PrintMore
set_option maxHeartbeats 8000000
set_option maxRecDepth 100000
attribute [local go_sem] max2_int min2_int max_two min_two max_three min_three max_four min_four
set_option linter.unusedVariables false
set_option linter.unusedSimpArgs false
def spec_cdValue.f (a0_0 : ByteArray) (a0_1 : Int) (a0_2 : Int) (a0_3 : Int) (a0_4 : Int) (l1 : List Int) : Option (Int) := if 0 ≤ a0_2 then (if a0_2 < (l1.length : Int) then (if 0 ≤ a0_3 then (if a0_3 < (l1.length : Int) then (if a0_0.toList = ([115, 101, 116] : List UInt8) then (some a0_4) else (if a0_0.toList = ([109, 111, 118] : List UInt8) then (some (rd l1 a0_2)) else (if a0_0.toList = ([97, 100, 100, 105] : List UInt8) then ((spec_exApply.f (⟨#[97, 100, 100]⟩ : ByteArray) (rd l1 a0_2) a0_4).bind fun t104 => (some t104)) else (if a0_0.toList = ([97, 110, 100, 105] : List UInt8) then ((spec_exApply.f (⟨#[97, 110, 100]⟩ : ByteArray) (rd l1 a0_2) a0_4).bind fun t105 => (some t105)) else (if a0_0.toList = ([120, 111, 114, 105] : List UInt8) then ((spec_exApply.f (⟨#[120, 111, 114]⟩ : ByteArray) (rd l1 a0_2) a0_4).bind fun t106 => (some t106)) else (if a0_0.toList = ([115, 104, 108, 105] : List UInt8) then ((spec_exApply.f (⟨#[115, 104, 108]⟩ : ByteArray) (rd l1 a0_2) a0_4).bind fun t107 => (some t107)) else (if a0_0.toList = ([115, 104, 114, 105] : List UInt8) then ((spec_exApply.f (⟨#[115, 104, 114]⟩ : ByteArray) (rd l1 a0_2) a0_4).bind fun t108 => (some t108)) else (if a0_0.toList = ([108, 101, 97] : List UInt8) then ((spec_exApply.f (⟨#[115, 104, 108]⟩ : ByteArray) (rd l1 a0_3) a0_4).bind fun t109 => ((spec_exApply.f (⟨#[97, 100, 100]⟩ : ByteArray) (rd l1 a0_2) t109).bind fun t110 => (some t110))) else ((spec_exApply.f a0_0 (rd l1 a0_2) (rd l1 a0_3)).bind fun t111 => (some t111)))))))))) else (none)) else (none)) else (none)) else (none)
theorem spec_cdValue.calls (a0_0 : ByteArray) (a0_1 : Int) (a0_2 : Int) (a0_3 : Int) (a0_4 : Int) (A1 : Option Addr) (c1 : Nat) (l1 : List Int) (r : Int) (w : World) (hr1 : Kd.C (Kd.int .i64) w A1 l1.length l1) (hc1 : l1.length ≤ c1) (h : spec_cdValue.f a0_0 a0_1 a0_2 a0_3 a0_4 l1 = some r) :
   Calls Try.prog 116 #[.agg #[.string a0_0, .int .i64 a0_1, .int .i64 a0_2, .int .i64 a0_3, .int .i64 a0_4], .slice A1 l1.length c1] w fun e w' => e = .returned (.int .i64 r) ∧ Below w.heap.size w w' := by
 have hu64 := Try.underlying64
 have HR1 := zA hr1
 have HC1 := zA hc1
 clear hr1 hc1
 have HB := zA (Below.refl w.heap.size w)
 have H : (if 0 ≤ a0_2 then (if a0_2 < (l1.length : Int) then (if 0 ≤ a0_3 then (if a0_3 < (l1.length : Int) then (if a0_0.toList = ([115, 101, 116] : List UInt8) then (some a0_4) else (if a0_0.toList = ([109, 111, 118] : List UInt8) then (some (rd l1 a0_2)) else (if a0_0.toList = ([97, 100, 100, 105] : List UInt8) then ((spec_exApply.f (⟨#[97, 100, 100]⟩ : ByteArray) (rd l1 a0_2) a0_4).bind fun t104 => (some t104)) else (if a0_0.toList = ([97, 110, 100, 105] : List UInt8) then ((spec_exApply.f (⟨#[97, 110, 100]⟩ : ByteArray) (rd l1 a0_2) a0_4).bind fun t105 => (some t105)) else (if a0_0.toList = ([120, 111, 114, 105] : List UInt8) then ((spec_exApply.f (⟨#[120, 111, 114]⟩ : ByteArray) (rd l1 a0_2) a0_4).bind fun t106 => (some t106)) else (if a0_0.toList = ([115, 104, 108, 105] : List UInt8) then ((spec_exApply.f (⟨#[115, 104, 108]⟩ : ByteArray) (rd l1 a0_2) a0_4).bind fun t107 => (some t107)) else (if a0_0.toList = ([115, 104, 114, 105] : List UInt8) then ((spec_exApply.f (⟨#[115, 104, 114]⟩ : ByteArray) (rd l1 a0_2) a0_4).bind fun t108 => (some t108)) else (if a0_0.toList = ([108, 101, 97] : List UInt8) then ((spec_exApply.f (⟨#[115, 104, 108]⟩ : ByteArray) (rd l1 a0_3) a0_4).bind fun t109 => ((spec_exApply.f (⟨#[97, 100, 100]⟩ : ByteArray) (rd l1 a0_2) t109).bind fun t110 => (some t110))) else ((spec_exApply.f a0_0 (rd l1 a0_2) (rd l1 a0_3)).bind fun t111 => (some t111)))))))))) else (none)) else (none)) else (none)) else (none)) = some r := h
 clear h
 revert H
 refine zin fun c3 H => ?_
 revert H
 refine zin fun c4 H => ?_
 revert H
 refine zin fun c5 H => ?_
 revert H
 refine zin fun c6 H => ?_
 by_cases c7 : a0_0.toList = ([115, 101, 116] : List UInt8)
 · rw [if_pos c7] at H
   obtain ⟨c7b0, c7b1⟩ := zbe c7
   clear c7
   obtain rfl := zsi H
   go_enter Try.func116, Try.ntmps116
   go_wp2_with (first | ((with_reducible refine zgd 2 ?_); refine zbh zq2 #[.string a0_0, .int .i64 a0_1, .int .i64 a0_2, .int .i64 a0_3, .int .i64 a0_4] 64 ?_; clear HB; intro gb101 w8 HB BK101 GW101; have GE101 := GW101; obtain ⟨hcz9_0, hcz9_1, hcz9_2, hcz9_3, hcz9_4, hfz9_0, hfz9_1, hfz9_2, hfz9_3, hfz9_4⟩ := zd5 BK101; have p102 : 0 ≤ (a0_2 : Int) := zde zq16; have q102 : a0_2 < (l1.length : Int) := zde zq16; obtain ⟨ad102, e102, hx102_0⟩ := Kd.at_int HR1.out a0_2 p102 q102; cases e102; replace hx102_0 := zkep HB.out hx102_0; replace p102 := eq_true p102; replace q102 := eq_true q102; have p103 : 0 ≤ (a0_3 : Int) := zde zq16; have q103 : a0_3 < (l1.length : Int) := zde zq16; obtain ⟨ad103, e103, hx103_0⟩ := Kd.at_int HR1.out a0_3 p103 q103; obtain rfl : ad102 = ad103 := zq47; replace hx103_0 := zkep HB.out hx103_0; replace p103 := eq_true p103; replace q103 := eq_true q103))
   repeat (go_quiet (first | ((with_reducible refine gate_dst (N := 2) rfl ?_); refine box_event ?hg (N := 2) ?hd (cs := #[.string a0_0, .int .i64 a0_1, .int .i64 a0_2, .int .i64 a0_3, .int .i64 a0_4]) (t := 64) ?hr ?_; (case hd => rfl); (case hg => rfl); (case hr => go_simp <;> rfl); intro gb101 hg w8 hbox hb; have zs := zpair zq2 hb; have n0_ := zA (zs.1); have n1_ := zA (hbox); have n2_ := zA (zge hg zs.2); have n3_ := n2_; clear HB; have HB := n0_; have BK101 := n1_; have GW101 := n2_; have GE101 := n3_; clear n0_ n1_ n2_ n3_; clear zs hb hbox hg; obtain ⟨hcz9_0, hcz9_1, hcz9_2, hcz9_3, hcz9_4⟩ := zc5 w8 (.string a0_0) (.int .i64 a0_1) (.int .i64 a0_2) (.int .i64 a0_3) (.int .i64 a0_4) BK101.out; obtain ⟨hfz9_0, hfz9_1, hfz9_2, hfz9_3, hfz9_4⟩ := zf5 BK101.out; have p102 : 0 ≤ (a0_2 : Int) := zde zq16; have q102 : a0_2 < (l1.length : Int) := zde zq16; obtain ⟨ad102, e102, hx102_0⟩ := Kd.at_int HR1.out a0_2 p102 q102; cases e102; replace hx102_0 := zkep HB.out hx102_0; replace p102 := eq_true p102; replace q102 := eq_true q102; have p103 : 0 ≤ (a0_3 : Int) := zde zq16; have q103 : a0_3 < (l1.length : Int) := zde zq16; obtain ⟨ad103, e103, hx103_0⟩ := Kd.at_int HR1.out a0_3 p103 q103; obtain rfl : ad102 = ad103 := zq47; replace hx103_0 := zkep HB.out hx103_0; replace p103 := eq_true p103; replace q103 := eq_true q103)); try go_wp2_with (first | ((with_reducible refine gate_dst (N := 2) rfl ?_); refine box_event ?hg (N := 2) ?hd (cs := #[.string a0_0, .int .i64 a0_1, .int .i64 a0_2, .int .i64 a0_3, .int .i64 a0_4]) (t := 64) ?hr ?_; (case hd => rfl); (case hg => rfl); (case hr => go_simp <;> rfl); intro gb101 hg w8 hbox hb; have zs := zpair zq2 hb; have n0_ := zA (zs.1); have n1_ := zA (hbox); have n2_ := zA (zge hg zs.2); have n3_ := n2_; clear HB; have HB := n0_; have BK101 := n1_; have GW101 := n2_; have GE101 := n3_; clear n0_ n1_ n2_ n3_; clear zs hb hbox hg; obtain ⟨hcz9_0, hcz9_1, hcz9_2, hcz9_3, hcz9_4⟩ := zc5 w8 (.string a0_0) (.int .i64 a0_1) (.int .i64 a0_2) (.int .i64 a0_3) (.int .i64 a0_4) BK101.out; obtain ⟨hfz9_0, hfz9_1, hfz9_2, hfz9_3, hfz9_4⟩ := zf5 BK101.out; have p102 : 0 ≤ (a0_2 : Int) := zde zq16; have q102 : a0_2 < (l1.length : Int) := zde zq16; obtain ⟨ad102, e102, hx102_0⟩ := Kd.at_int HR1.out a0_2 p102 q102; cases e102; replace hx102_0 := zkep HB.out hx102_0; replace p102 := eq_true p102; replace q102 := eq_true q102; have p103 : 0 ≤ (a0_3 : Int) := zde zq16; have q103 : a0_3 < (l1.length : Int) := zde zq16; obtain ⟨ad103, e103, hx103_0⟩ := Kd.at_int HR1.out a0_3 p103 q103; obtain rfl : ad102 = ad103 := zq47; replace hx103_0 := zkep HB.out hx103_0; replace p103 := eq_true p103; replace q103 := eq_true q103)))
   go_ret
   exact ⟨zq5, zq1 GE101⟩
 rw [if_neg c7] at H
 obtain ⟨c7b0, c7b1⟩ := zbq c7
 by_cases c10 : a0_0.toList = ([109, 111, 118] : List UInt8)
 · rw [if_pos c10] at H
   obtain ⟨c10b0, c10b1⟩ := zbe c10
   clear c10
   obtain rfl := zsi H
   go_enter Try.func116, Try.ntmps116
   go_wp2_with (first | ((with_reducible refine zgd 2 ?_); refine zbh zq2 #[.string a0_0, .int .i64 a0_1, .int .i64 a0_2, .int .i64 a0_3, .int .i64 a0_4] 64 ?_; clear HB; intro gb101 w11 HB BK101 GW101; have GE101 := GW101; obtain ⟨hcz12_0, hcz12_1, hcz12_2, hcz12_3, hcz12_4, hfz12_0, hfz12_1, hfz12_2, hfz12_3, hfz12_4⟩ := zd5 BK101; have p102 : 0 ≤ (a0_2 : Int) := zde zq16; have q102 : a0_2 < (l1.length : Int) := zde zq16; obtain ⟨ad102, e102, hx102_0⟩ := Kd.at_int HR1.out a0_2 p102 q102; cases e102; replace hx102_0 := zkep HB.out hx102_0; replace p102 := eq_true p102; replace q102 := eq_true q102; have p103 : 0 ≤ (a0_3 : Int) := zde zq16; have q103 : a0_3 < (l1.length : Int) := zde zq16; obtain ⟨ad103, e103, hx103_0⟩ := Kd.at_int HR1.out a0_3 p103 q103; obtain rfl : ad102 = ad103 := zq47; replace hx103_0 := zkep HB.out hx103_0; replace p103 := eq_true p103; replace q103 := eq_true q103))
   repeat (go_quiet (first | ((with_reducible refine gate_dst (N := 2) rfl ?_); refine box_event ?hg (N := 2) ?hd (cs := #[.string a0_0, .int .i64 a0_1, .int .i64 a0_2, .int .i64 a0_3, .int .i64 a0_4]) (t := 64) ?hr ?_; (case hd => rfl); (case hg => rfl); (case hr => go_simp <;> rfl); intro gb101 hg w11 hbox hb; have zs := zpair zq2 hb; have n0_ := zA (zs.1); have n1_ := zA (hbox); have n2_ := zA (zge hg zs.2); have n3_ := n2_; clear HB; have HB := n0_; have BK101 := n1_; have GW101 := n2_; have GE101 := n3_; clear n0_ n1_ n2_ n3_; clear zs hb hbox hg; obtain ⟨hcz12_0, hcz12_1, hcz12_2, hcz12_3, hcz12_4⟩ := zc5 w11 (.string a0_0) (.int .i64 a0_1) (.int .i64 a0_2) (.int .i64 a0_3) (.int .i64 a0_4) BK101.out; obtain ⟨hfz12_0, hfz12_1, hfz12_2, hfz12_3, hfz12_4⟩ := zf5 BK101.out; have p102 : 0 ≤ (a0_2 : Int) := zde zq16; have q102 : a0_2 < (l1.length : Int) := zde zq16; obtain ⟨ad102, e102, hx102_0⟩ := Kd.at_int HR1.out a0_2 p102 q102; cases e102; replace hx102_0 := zkep HB.out hx102_0; replace p102 := eq_true p102; replace q102 := eq_true q102; have p103 : 0 ≤ (a0_3 : Int) := zde zq16; have q103 : a0_3 < (l1.length : Int) := zde zq16; obtain ⟨ad103, e103, hx103_0⟩ := Kd.at_int HR1.out a0_3 p103 q103; obtain rfl : ad102 = ad103 := zq47; replace hx103_0 := zkep HB.out hx103_0; replace p103 := eq_true p103; replace q103 := eq_true q103)); try go_wp2_with (first | ((with_reducible refine gate_dst (N := 2) rfl ?_); refine box_event ?hg (N := 2) ?hd (cs := #[.string a0_0, .int .i64 a0_1, .int .i64 a0_2, .int .i64 a0_3, .int .i64 a0_4]) (t := 64) ?hr ?_; (case hd => rfl); (case hg => rfl); (case hr => go_simp <;> rfl); intro gb101 hg w11 hbox hb; have zs := zpair zq2 hb; have n0_ := zA (zs.1); have n1_ := zA (hbox); have n2_ := zA (zge hg zs.2); have n3_ := n2_; clear HB; have HB := n0_; have BK101 := n1_; have GW101 := n2_; have GE101 := n3_; clear n0_ n1_ n2_ n3_; clear zs hb hbox hg; obtain ⟨hcz12_0, hcz12_1, hcz12_2, hcz12_3, hcz12_4⟩ := zc5 w11 (.string a0_0) (.int .i64 a0_1) (.int .i64 a0_2) (.int .i64 a0_3) (.int .i64 a0_4) BK101.out; obtain ⟨hfz12_0, hfz12_1, hfz12_2, hfz12_3, hfz12_4⟩ := zf5 BK101.out; have p102 : 0 ≤ (a0_2 : Int) := zde zq16; have q102 : a0_2 < (l1.length : Int) := zde zq16; obtain ⟨ad102, e102, hx102_0⟩ := Kd.at_int HR1.out a0_2 p102 q102; cases e102; replace hx102_0 := zkep HB.out hx102_0; replace p102 := eq_true p102; replace q102 := eq_true q102; have p103 : 0 ≤ (a0_3 : Int) := zde zq16; have q103 : a0_3 < (l1.length : Int) := zde zq16; obtain ⟨ad103, e103, hx103_0⟩ := Kd.at_int HR1.out a0_3 p103 q103; obtain rfl : ad102 = ad103 := zq47; replace hx103_0 := zkep HB.out hx103_0; replace p103 := eq_true p103; replace q103 := eq_true q103)))
   go_ret
   exact ⟨zq5, zq1 GE101⟩
 rw [if_neg c10] at H
 obtain ⟨c10b0, c10b1⟩ := zbq c10
 by_cases c13 : a0_0.toList = ([97, 100, 100, 105] : List UInt8)
 · rw [if_pos c13] at H
   obtain ⟨c13b0, c13b1⟩ := zbe c13
   clear c13
   replace H := zob H
   obtain ⟨t104, A140, H⟩ := H
   replace H : (some t104) = some r := H
   have A14 := zA A140
   clear A140
   obtain rfl := zsi H
   go_enter Try.func116, Try.ntmps116
   go_wp2_with (first | ((with_reducible refine zgd 2 ?_); refine zbh zq2 #[.string a0_0, .int .i64 a0_1, .int .i64 a0_2, .int .i64 a0_3, .int .i64 a0_4] 64 ?_; clear HB; intro gb101 w15 HB BK101 GW101; have GE101 := GW101; obtain ⟨hcz16_0, hcz16_1, hcz16_2, hcz16_3, hcz16_4, hfz16_0, hfz16_1, hfz16_2, hfz16_3, hfz16_4⟩ := zd5 BK101; have p102 : 0 ≤ (a0_2 : Int) := zde zq16; have q102 : a0_2 < (l1.length : Int) := zde zq16; obtain ⟨ad102, e102, hx102_0⟩ := Kd.at_int HR1.out a0_2 p102 q102; cases e102; replace hx102_0 := zkep HB.out hx102_0; replace p102 := eq_true p102; replace q102 := eq_true q102; have p103 : 0 ≤ (a0_3 : Int) := zde zq16; have q103 : a0_3 < (l1.length : Int) := zde zq16; obtain ⟨ad103, e103, hx103_0⟩ := Kd.at_int HR1.out a0_3 p103 q103; obtain rfl : ad102 = ad103 := zq47; replace hx103_0 := zkep HB.out hx103_0; replace p103 := eq_true p103; replace q103 := eq_true q103) | (go_at_call 117; (with_reducible refine (spec_exApply.calls (⟨#[97, 100, 100]⟩ : ByteArray) (rd l1 a0_2) a0_4 t104 _ A14.out).mono ?_); rintro e w' ⟨rfl, ⟨nd, rfl⟩⟩; (try first | exact ⟨rfl, _, World.drewN_drewN _ _ _⟩ | exact ⟨rfl, _, Eq.trans (World.drewN_drewN _ _ _) (congrArg (World.drewN _) (Nat.add_assoc _ _ _))⟩)))
   repeat (go_quiet (first | ((with_reducible refine gate_dst (N := 2) rfl ?_); refine box_event ?hg (N := 2) ?hd (cs := #[.string a0_0, .int .i64 a0_1, .int .i64 a0_2, .int .i64 a0_3, .int .i64 a0_4]) (t := 64) ?hr ?_; (case hd => rfl); (case hg => rfl); (case hr => go_simp <;> rfl); intro gb101 hg w15 hbox hb; have zs := zpair zq2 hb; have n0_ := zA (zs.1); have n1_ := zA (hbox); have n2_ := zA (zge hg zs.2); have n3_ := n2_; clear HB; have HB := n0_; have BK101 := n1_; have GW101 := n2_; have GE101 := n3_; clear n0_ n1_ n2_ n3_; clear zs hb hbox hg; obtain ⟨hcz16_0, hcz16_1, hcz16_2, hcz16_3, hcz16_4⟩ := zc5 w15 (.string a0_0) (.int .i64 a0_1) (.int .i64 a0_2) (.int .i64 a0_3) (.int .i64 a0_4) BK101.out; obtain ⟨hfz16_0, hfz16_1, hfz16_2, hfz16_3, hfz16_4⟩ := zf5 BK101.out; have p102 : 0 ≤ (a0_2 : Int) := zde zq16; have q102 : a0_2 < (l1.length : Int) := zde zq16; obtain ⟨ad102, e102, hx102_0⟩ := Kd.at_int HR1.out a0_2 p102 q102; cases e102; replace hx102_0 := zkep HB.out hx102_0; replace p102 := eq_true p102; replace q102 := eq_true q102; have p103 : 0 ≤ (a0_3 : Int) := zde zq16; have q103 : a0_3 < (l1.length : Int) := zde zq16; obtain ⟨ad103, e103, hx103_0⟩ := Kd.at_int HR1.out a0_3 p103 q103; obtain rfl : ad102 = ad103 := zq47; replace hx103_0 := zkep HB.out hx103_0; replace p103 := eq_true p103; replace q103 := eq_true q103) | (go_at_call 117; (with_reducible refine (spec_exApply.calls (⟨#[97, 100, 100]⟩ : ByteArray) (rd l1 a0_2) a0_4 t104 _ A14.out).mono ?_); rintro e w' ⟨rfl, ⟨nd, rfl⟩⟩; (try first | exact ⟨rfl, _, World.drewN_drewN _ _ _⟩ | exact ⟨rfl, _, Eq.trans (World.drewN_drewN _ _ _) (congrArg (World.drewN _) (Nat.add_assoc _ _ _))⟩))); try go_wp2_with (first | ((with_reducible refine gate_dst (N := 2) rfl ?_); refine box_event ?hg (N := 2) ?hd (cs := #[.string a0_0, .int .i64 a0_1, .int .i64 a0_2, .int .i64 a0_3, .int .i64 a0_4]) (t := 64) ?hr ?_; (case hd => rfl); (case hg => rfl); (case hr => go_simp <;> rfl); intro gb101 hg w15 hbox hb; have zs := zpair zq2 hb; have n0_ := zA (zs.1); have n1_ := zA (hbox); have n2_ := zA (zge hg zs.2); have n3_ := n2_; clear HB; have HB := n0_; have BK101 := n1_; have GW101 := n2_; have GE101 := n3_; clear n0_ n1_ n2_ n3_; clear zs hb hbox hg; obtain ⟨hcz16_0, hcz16_1, hcz16_2, hcz16_3, hcz16_4⟩ := zc5 w15 (.string a0_0) (.int .i64 a0_1) (.int .i64 a0_2) (.int .i64 a0_3) (.int .i64 a0_4) BK101.out; obtain ⟨hfz16_0, hfz16_1, hfz16_2, hfz16_3, hfz16_4⟩ := zf5 BK101.out; have p102 : 0 ≤ (a0_2 : Int) := zde zq16; have q102 : a0_2 < (l1.length : Int) := zde zq16; obtain ⟨ad102, e102, hx102_0⟩ := Kd.at_int HR1.out a0_2 p102 q102; cases e102; replace hx102_0 := zkep HB.out hx102_0; replace p102 := eq_true p102; replace q102 := eq_true q102; have p103 : 0 ≤ (a0_3 : Int) := zde zq16; have q103 : a0_3 < (l1.length : Int) := zde zq16; obtain ⟨ad103, e103, hx103_0⟩ := Kd.at_int HR1.out a0_3 p103 q103; obtain rfl : ad102 = ad103 := zq47; replace hx103_0 := zkep HB.out hx103_0; replace p103 := eq_true p103; replace q103 := eq_true q103) | (go_at_call 117; (with_reducible refine (spec_exApply.calls (⟨#[97, 100, 100]⟩ : ByteArray) (rd l1 a0_2) a0_4 t104 _ A14.out).mono ?_); rintro e w' ⟨rfl, ⟨nd, rfl⟩⟩; (try first | exact ⟨rfl, _, World.drewN_drewN _ _ _⟩ | exact ⟨rfl, _, Eq.trans (World.drewN_drewN _ _ _) (congrArg (World.drewN _) (Nat.add_assoc _ _ _))⟩))))
   go_ret
   exact ⟨zq5, zq1 GE101⟩
 rw [if_neg c13] at H
 obtain ⟨c13b0, c13b1⟩ := zbq c13
 by_cases c17 : a0_0.toList = ([97, 110, 100, 105] : List UInt8)
 · rw [if_pos c17] at H
   obtain ⟨c17b0, c17b1⟩ := zbe c17
   clear c17
   replace H := zob H
   obtain ⟨t105, A180, H⟩ := H
   replace H : (some t105) = some r := H
   have A18 := zA A180
   clear A180
   obtain rfl := zsi H
   go_enter Try.func116, Try.ntmps116
   go_wp2_with (first | ((with_reducible refine zgd 2 ?_); refine zbh zq2 #[.string a0_0, .int .i64 a0_1, .int .i64 a0_2, .int .i64 a0_3, .int .i64 a0_4] 64 ?_; clear HB; intro gb101 w19 HB BK101 GW101; have GE101 := GW101; obtain ⟨hcz20_0, hcz20_1, hcz20_2, hcz20_3, hcz20_4, hfz20_0, hfz20_1, hfz20_2, hfz20_3, hfz20_4⟩ := zd5 BK101; have p102 : 0 ≤ (a0_2 : Int) := zde zq16; have q102 : a0_2 < (l1.length : Int) := zde zq16; obtain ⟨ad102, e102, hx102_0⟩ := Kd.at_int HR1.out a0_2 p102 q102; cases e102; replace hx102_0 := zkep HB.out hx102_0; replace p102 := eq_true p102; replace q102 := eq_true q102; have p103 : 0 ≤ (a0_3 : Int) := zde zq16; have q103 : a0_3 < (l1.length : Int) := zde zq16; obtain ⟨ad103, e103, hx103_0⟩ := Kd.at_int HR1.out a0_3 p103 q103; obtain rfl : ad102 = ad103 := zq47; replace hx103_0 := zkep HB.out hx103_0; replace p103 := eq_true p103; replace q103 := eq_true q103) | (go_at_call 117; (with_reducible refine (spec_exApply.calls (⟨#[97, 110, 100]⟩ : ByteArray) (rd l1 a0_2) a0_4 t105 _ A18.out).mono ?_); rintro e w' ⟨rfl, ⟨nd, rfl⟩⟩; (try first | exact ⟨rfl, _, World.drewN_drewN _ _ _⟩ | exact ⟨rfl, _, Eq.trans (World.drewN_drewN _ _ _) (congrArg (World.drewN _) (Nat.add_assoc _ _ _))⟩)))
   repeat (go_quiet (first | ((with_reducible refine gate_dst (N := 2) rfl ?_); refine box_event ?hg (N := 2) ?hd (cs := #[.string a0_0, .int .i64 a0_1, .int .i64 a0_2, .int .i64 a0_3, .int .i64 a0_4]) (t := 64) ?hr ?_; (case hd => rfl); (case hg => rfl); (case hr => go_simp <;> rfl); intro gb101 hg w19 hbox hb; have zs := zpair zq2 hb; have n0_ := zA (zs.1); have n1_ := zA (hbox); have n2_ := zA (zge hg zs.2); have n3_ := n2_; clear HB; have HB := n0_; have BK101 := n1_; have GW101 := n2_; have GE101 := n3_; clear n0_ n1_ n2_ n3_; clear zs hb hbox hg; obtain ⟨hcz20_0, hcz20_1, hcz20_2, hcz20_3, hcz20_4⟩ := zc5 w19 (.string a0_0) (.int .i64 a0_1) (.int .i64 a0_2) (.int .i64 a0_3) (.int .i64 a0_4) BK101.out; obtain ⟨hfz20_0, hfz20_1, hfz20_2, hfz20_3, hfz20_4⟩ := zf5 BK101.out; have p102 : 0 ≤ (a0_2 : Int) := zde zq16; have q102 : a0_2 < (l1.length : Int) := zde zq16; obtain ⟨ad102, e102, hx102_0⟩ := Kd.at_int HR1.out a0_2 p102 q102; cases e102; replace hx102_0 := zkep HB.out hx102_0; replace p102 := eq_true p102; replace q102 := eq_true q102; have p103 : 0 ≤ (a0_3 : Int) := zde zq16; have q103 : a0_3 < (l1.length : Int) := zde zq16; obtain ⟨ad103, e103, hx103_0⟩ := Kd.at_int HR1.out a0_3 p103 q103; obtain rfl : ad102 = ad103 := zq47; replace hx103_0 := zkep HB.out hx103_0; replace p103 := eq_true p103; replace q103 := eq_true q103) | (go_at_call 117; (with_reducible refine (spec_exApply.calls (⟨#[97, 110, 100]⟩ : ByteArray) (rd l1 a0_2) a0_4 t105 _ A18.out).mono ?_); rintro e w' ⟨rfl, ⟨nd, rfl⟩⟩; (try first | exact ⟨rfl, _, World.drewN_drewN _ _ _⟩ | exact ⟨rfl, _, Eq.trans (World.drewN_drewN _ _ _) (congrArg (World.drewN _) (Nat.add_assoc _ _ _))⟩))); try go_wp2_with (first | ((with_reducible refine gate_dst (N := 2) rfl ?_); refine box_event ?hg (N := 2) ?hd (cs := #[.string a0_0, .int .i64 a0_1, .int .i64 a0_2, .int .i64 a0_3, .int .i64 a0_4]) (t := 64) ?hr ?_; (case hd => rfl); (case hg => rfl); (case hr => go_simp <;> rfl); intro gb101 hg w19 hbox hb; have zs := zpair zq2 hb; have n0_ := zA (zs.1); have n1_ := zA (hbox); have n2_ := zA (zge hg zs.2); have n3_ := n2_; clear HB; have HB := n0_; have BK101 := n1_; have GW101 := n2_; have GE101 := n3_; clear n0_ n1_ n2_ n3_; clear zs hb hbox hg; obtain ⟨hcz20_0, hcz20_1, hcz20_2, hcz20_3, hcz20_4⟩ := zc5 w19 (.string a0_0) (.int .i64 a0_1) (.int .i64 a0_2) (.int .i64 a0_3) (.int .i64 a0_4) BK101.out; obtain ⟨hfz20_0, hfz20_1, hfz20_2, hfz20_3, hfz20_4⟩ := zf5 BK101.out; have p102 : 0 ≤ (a0_2 : Int) := zde zq16; have q102 : a0_2 < (l1.length : Int) := zde zq16; obtain ⟨ad102, e102, hx102_0⟩ := Kd.at_int HR1.out a0_2 p102 q102; cases e102; replace hx102_0 := zkep HB.out hx102_0; replace p102 := eq_true p102; replace q102 := eq_true q102; have p103 : 0 ≤ (a0_3 : Int) := zde zq16; have q103 : a0_3 < (l1.length : Int) := zde zq16; obtain ⟨ad103, e103, hx103_0⟩ := Kd.at_int HR1.out a0_3 p103 q103; obtain rfl : ad102 = ad103 := zq47; replace hx103_0 := zkep HB.out hx103_0; replace p103 := eq_true p103; replace q103 := eq_true q103) | (go_at_call 117; (with_reducible refine (spec_exApply.calls (⟨#[97, 110, 100]⟩ : ByteArray) (rd l1 a0_2) a0_4 t105 _ A18.out).mono ?_); rintro e w' ⟨rfl, ⟨nd, rfl⟩⟩; (try first | exact ⟨rfl, _, World.drewN_drewN _ _ _⟩ | exact ⟨rfl, _, Eq.trans (World.drewN_drewN _ _ _) (congrArg (World.drewN _) (Nat.add_assoc _ _ _))⟩))))
   go_ret
   exact ⟨zq5, zq1 GE101⟩
 rw [if_neg c17] at H
 obtain ⟨c17b0, c17b1⟩ := zbq c17
 by_cases c21 : a0_0.toList = ([120, 111, 114, 105] : List UInt8)
 · rw [if_pos c21] at H
   obtain ⟨c21b0, c21b1⟩ := zbe c21
   clear c21
   replace H := zob H
   obtain ⟨t106, A220, H⟩ := H
   replace H : (some t106) = some r := H
   have A22 := zA A220
   clear A220
   obtain rfl := zsi H
   go_enter Try.func116, Try.ntmps116
   go_wp2_with (first | ((with_reducible refine zgd 2 ?_); refine zbh zq2 #[.string a0_0, .int .i64 a0_1, .int .i64 a0_2, .int .i64 a0_3, .int .i64 a0_4] 64 ?_; clear HB; intro gb101 w23 HB BK101 GW101; have GE101 := GW101; obtain ⟨hcz24_0, hcz24_1, hcz24_2, hcz24_3, hcz24_4, hfz24_0, hfz24_1, hfz24_2, hfz24_3, hfz24_4⟩ := zd5 BK101; have p102 : 0 ≤ (a0_2 : Int) := zde zq16; have q102 : a0_2 < (l1.length : Int) := zde zq16; obtain ⟨ad102, e102, hx102_0⟩ := Kd.at_int HR1.out a0_2 p102 q102; cases e102; replace hx102_0 := zkep HB.out hx102_0; replace p102 := eq_true p102; replace q102 := eq_true q102; have p103 : 0 ≤ (a0_3 : Int) := zde zq16; have q103 : a0_3 < (l1.length : Int) := zde zq16; obtain ⟨ad103, e103, hx103_0⟩ := Kd.at_int HR1.out a0_3 p103 q103; obtain rfl : ad102 = ad103 := zq47; replace hx103_0 := zkep HB.out hx103_0; replace p103 := eq_true p103; replace q103 := eq_true q103) | (go_at_call 117; (with_reducible refine (spec_exApply.calls (⟨#[120, 111, 114]⟩ : ByteArray) (rd l1 a0_2) a0_4 t106 _ A22.out).mono ?_); rintro e w' ⟨rfl, ⟨nd, rfl⟩⟩; (try first | exact ⟨rfl, _, World.drewN_drewN _ _ _⟩ | exact ⟨rfl, _, Eq.trans (World.drewN_drewN _ _ _) (congrArg (World.drewN _) (Nat.add_assoc _ _ _))⟩)))
   repeat (go_quiet (first | ((with_reducible refine gate_dst (N := 2) rfl ?_); refine box_event ?hg (N := 2) ?hd (cs := #[.string a0_0, .int .i64 a0_1, .int .i64 a0_2, .int .i64 a0_3, .int .i64 a0_4]) (t := 64) ?hr ?_; (case hd => rfl); (case hg => rfl); (case hr => go_simp <;> rfl); intro gb101 hg w23 hbox hb; have zs := zpair zq2 hb; have n0_ := zA (zs.1); have n1_ := zA (hbox); have n2_ := zA (zge hg zs.2); have n3_ := n2_; clear HB; have HB := n0_; have BK101 := n1_; have GW101 := n2_; have GE101 := n3_; clear n0_ n1_ n2_ n3_; clear zs hb hbox hg; obtain ⟨hcz24_0, hcz24_1, hcz24_2, hcz24_3, hcz24_4⟩ := zc5 w23 (.string a0_0) (.int .i64 a0_1) (.int .i64 a0_2) (.int .i64 a0_3) (.int .i64 a0_4) BK101.out; obtain ⟨hfz24_0, hfz24_1, hfz24_2, hfz24_3, hfz24_4⟩ := zf5 BK101.out; have p102 : 0 ≤ (a0_2 : Int) := zde zq16; have q102 : a0_2 < (l1.length : Int) := zde zq16; obtain ⟨ad102, e102, hx102_0⟩ := Kd.at_int HR1.out a0_2 p102 q102; cases e102; replace hx102_0 := zkep HB.out hx102_0; replace p102 := eq_true p102; replace q102 := eq_true q102; have p103 : 0 ≤ (a0_3 : Int) := zde zq16; have q103 : a0_3 < (l1.length : Int) := zde zq16; obtain ⟨ad103, e103, hx103_0⟩ := Kd.at_int HR1.out a0_3 p103 q103; obtain rfl : ad102 = ad103 := zq47; replace hx103_0 := zkep HB.out hx103_0; replace p103 := eq_true p103; replace q103 := eq_true q103) | (go_at_call 117; (with_reducible refine (spec_exApply.calls (⟨#[120, 111, 114]⟩ : ByteArray) (rd l1 a0_2) a0_4 t106 _ A22.out).mono ?_); rintro e w' ⟨rfl, ⟨nd, rfl⟩⟩; (try first | exact ⟨rfl, _, World.drewN_drewN _ _ _⟩ | exact ⟨rfl, _, Eq.trans (World.drewN_drewN _ _ _) (congrArg (World.drewN _) (Nat.add_assoc _ _ _))⟩))); try go_wp2_with (first | ((with_reducible refine gate_dst (N := 2) rfl ?_); refine box_event ?hg (N := 2) ?hd (cs := #[.string a0_0, .int .i64 a0_1, .int .i64 a0_2, .int .i64 a0_3, .int .i64 a0_4]) (t := 64) ?hr ?_; (case hd => rfl); (case hg => rfl); (case hr => go_simp <;> rfl); intro gb101 hg w23 hbox hb; have zs := zpair zq2 hb; have n0_ := zA (zs.1); have n1_ := zA (hbox); have n2_ := zA (zge hg zs.2); have n3_ := n2_; clear HB; have HB := n0_; have BK101 := n1_; have GW101 := n2_; have GE101 := n3_; clear n0_ n1_ n2_ n3_; clear zs hb hbox hg; obtain ⟨hcz24_0, hcz24_1, hcz24_2, hcz24_3, hcz24_4⟩ := zc5 w23 (.string a0_0) (.int .i64 a0_1) (.int .i64 a0_2) (.int .i64 a0_3) (.int .i64 a0_4) BK101.out; obtain ⟨hfz24_0, hfz24_1, hfz24_2, hfz24_3, hfz24_4⟩ := zf5 BK101.out; have p102 : 0 ≤ (a0_2 : Int) := zde zq16; have q102 : a0_2 < (l1.length : Int) := zde zq16; obtain ⟨ad102, e102, hx102_0⟩ := Kd.at_int HR1.out a0_2 p102 q102; cases e102; replace hx102_0 := zkep HB.out hx102_0; replace p102 := eq_true p102; replace q102 := eq_true q102; have p103 : 0 ≤ (a0_3 : Int) := zde zq16; have q103 : a0_3 < (l1.length : Int) := zde zq16; obtain ⟨ad103, e103, hx103_0⟩ := Kd.at_int HR1.out a0_3 p103 q103; obtain rfl : ad102 = ad103 := zq47; replace hx103_0 := zkep HB.out hx103_0; replace p103 := eq_true p103; replace q103 := eq_true q103) | (go_at_call 117; (with_reducible refine (spec_exApply.calls (⟨#[120, 111, 114]⟩ : ByteArray) (rd l1 a0_2) a0_4 t106 _ A22.out).mono ?_); rintro e w' ⟨rfl, ⟨nd, rfl⟩⟩; (try first | exact ⟨rfl, _, World.drewN_drewN _ _ _⟩ | exact ⟨rfl, _, Eq.trans (World.drewN_drewN _ _ _) (congrArg (World.drewN _) (Nat.add_assoc _ _ _))⟩))))
   go_ret
   exact ⟨zq5, zq1 GE101⟩
 rw [if_neg c21] at H
 obtain ⟨c21b0, c21b1⟩ := zbq c21
 by_cases c25 : a0_0.toList = ([115, 104, 108, 105] : List UInt8)
 · rw [if_pos c25] at H
   obtain ⟨c25b0, c25b1⟩ := zbe c25
   clear c25
   replace H := zob H
   obtain ⟨t107, A260, H⟩ := H
   replace H : (some t107) = some r := H
   have A26 := zA A260
   clear A260
   obtain rfl := zsi H
   go_enter Try.func116, Try.ntmps116
   go_wp2_with (first | ((with_reducible refine zgd 2 ?_); refine zbh zq2 #[.string a0_0, .int .i64 a0_1, .int .i64 a0_2, .int .i64 a0_3, .int .i64 a0_4] 64 ?_; clear HB; intro gb101 w27 HB BK101 GW101; have GE101 := GW101; obtain ⟨hcz28_0, hcz28_1, hcz28_2, hcz28_3, hcz28_4, hfz28_0, hfz28_1, hfz28_2, hfz28_3, hfz28_4⟩ := zd5 BK101; have p102 : 0 ≤ (a0_2 : Int) := zde zq16; have q102 : a0_2 < (l1.length : Int) := zde zq16; obtain ⟨ad102, e102, hx102_0⟩ := Kd.at_int HR1.out a0_2 p102 q102; cases e102; replace hx102_0 := zkep HB.out hx102_0; replace p102 := eq_true p102; replace q102 := eq_true q102; have p103 : 0 ≤ (a0_3 : Int) := zde zq16; have q103 : a0_3 < (l1.length : Int) := zde zq16; obtain ⟨ad103, e103, hx103_0⟩ := Kd.at_int HR1.out a0_3 p103 q103; obtain rfl : ad102 = ad103 := zq47; replace hx103_0 := zkep HB.out hx103_0; replace p103 := eq_true p103; replace q103 := eq_true q103) | (go_at_call 117; (with_reducible refine (spec_exApply.calls (⟨#[115, 104, 108]⟩ : ByteArray) (rd l1 a0_2) a0_4 t107 _ A26.out).mono ?_); rintro e w' ⟨rfl, ⟨nd, rfl⟩⟩; (try first | exact ⟨rfl, _, World.drewN_drewN _ _ _⟩ | exact ⟨rfl, _, Eq.trans (World.drewN_drewN _ _ _) (congrArg (World.drewN _) (Nat.add_assoc _ _ _))⟩)))
   repeat (go_quiet (first | ((with_reducible refine gate_dst (N := 2) rfl ?_); refine box_event ?hg (N := 2) ?hd (cs := #[.string a0_0, .int .i64 a0_1, .int .i64 a0_2, .int .i64 a0_3, .int .i64 a0_4]) (t := 64) ?hr ?_; (case hd => rfl); (case hg => rfl); (case hr => go_simp <;> rfl); intro gb101 hg w27 hbox hb; have zs := zpair zq2 hb; have n0_ := zA (zs.1); have n1_ := zA (hbox); have n2_ := zA (zge hg zs.2); have n3_ := n2_; clear HB; have HB := n0_; have BK101 := n1_; have GW101 := n2_; have GE101 := n3_; clear n0_ n1_ n2_ n3_; clear zs hb hbox hg; obtain ⟨hcz28_0, hcz28_1, hcz28_2, hcz28_3, hcz28_4⟩ := zc5 w27 (.string a0_0) (.int .i64 a0_1) (.int .i64 a0_2) (.int .i64 a0_3) (.int .i64 a0_4) BK101.out; obtain ⟨hfz28_0, hfz28_1, hfz28_2, hfz28_3, hfz28_4⟩ := zf5 BK101.out; have p102 : 0 ≤ (a0_2 : Int) := zde zq16; have q102 : a0_2 < (l1.length : Int) := zde zq16; obtain ⟨ad102, e102, hx102_0⟩ := Kd.at_int HR1.out a0_2 p102 q102; cases e102; replace hx102_0 := zkep HB.out hx102_0; replace p102 := eq_true p102; replace q102 := eq_true q102; have p103 : 0 ≤ (a0_3 : Int) := zde zq16; have q103 : a0_3 < (l1.length : Int) := zde zq16; obtain ⟨ad103, e103, hx103_0⟩ := Kd.at_int HR1.out a0_3 p103 q103; obtain rfl : ad102 = ad103 := zq47; replace hx103_0 := zkep HB.out hx103_0; replace p103 := eq_true p103; replace q103 := eq_true q103) | (go_at_call 117; (with_reducible refine (spec_exApply.calls (⟨#[115, 104, 108]⟩ : ByteArray) (rd l1 a0_2) a0_4 t107 _ A26.out).mono ?_); rintro e w' ⟨rfl, ⟨nd, rfl⟩⟩; (try first | exact ⟨rfl, _, World.drewN_drewN _ _ _⟩ | exact ⟨rfl, _, Eq.trans (World.drewN_drewN _ _ _) (congrArg (World.drewN _) (Nat.add_assoc _ _ _))⟩))); try go_wp2_with (first | ((with_reducible refine gate_dst (N := 2) rfl ?_); refine box_event ?hg (N := 2) ?hd (cs := #[.string a0_0, .int .i64 a0_1, .int .i64 a0_2, .int .i64 a0_3, .int .i64 a0_4]) (t := 64) ?hr ?_; (case hd => rfl); (case hg => rfl); (case hr => go_simp <;> rfl); intro gb101 hg w27 hbox hb; have zs := zpair zq2 hb; have n0_ := zA (zs.1); have n1_ := zA (hbox); have n2_ := zA (zge hg zs.2); have n3_ := n2_; clear HB; have HB := n0_; have BK101 := n1_; have GW101 := n2_; have GE101 := n3_; clear n0_ n1_ n2_ n3_; clear zs hb hbox hg; obtain ⟨hcz28_0, hcz28_1, hcz28_2, hcz28_3, hcz28_4⟩ := zc5 w27 (.string a0_0) (.int .i64 a0_1) (.int .i64 a0_2) (.int .i64 a0_3) (.int .i64 a0_4) BK101.out; obtain ⟨hfz28_0, hfz28_1, hfz28_2, hfz28_3, hfz28_4⟩ := zf5 BK101.out; have p102 : 0 ≤ (a0_2 : Int) := zde zq16; have q102 : a0_2 < (l1.length : Int) := zde zq16; obtain ⟨ad102, e102, hx102_0⟩ := Kd.at_int HR1.out a0_2 p102 q102; cases e102; replace hx102_0 := zkep HB.out hx102_0; replace p102 := eq_true p102; replace q102 := eq_true q102; have p103 : 0 ≤ (a0_3 : Int) := zde zq16; have q103 : a0_3 < (l1.length : Int) := zde zq16; obtain ⟨ad103, e103, hx103_0⟩ := Kd.at_int HR1.out a0_3 p103 q103; obtain rfl : ad102 = ad103 := zq47; replace hx103_0 := zkep HB.out hx103_0; replace p103 := eq_true p103; replace q103 := eq_true q103) | (go_at_call 117; (with_reducible refine (spec_exApply.calls (⟨#[115, 104, 108]⟩ : ByteArray) (rd l1 a0_2) a0_4 t107 _ A26.out).mono ?_); rintro e w' ⟨rfl, ⟨nd, rfl⟩⟩; (try first | exact ⟨rfl, _, World.drewN_drewN _ _ _⟩ | exact ⟨rfl, _, Eq.trans (World.drewN_drewN _ _ _) (congrArg (World.drewN _) (Nat.add_assoc _ _ _))⟩))))
   go_ret
   exact ⟨zq5, zq1 GE101⟩
 rw [if_neg c25] at H
 obtain ⟨c25b0, c25b1⟩ := zbq c25
 by_cases c29 : a0_0.toList = ([115, 104, 114, 105] : List UInt8)
 · rw [if_pos c29] at H
   obtain ⟨c29b0, c29b1⟩ := zbe c29
   clear c29
   replace H := zob H
   obtain ⟨t108, A300, H⟩ := H
   replace H : (some t108) = some r := H
   have A30 := zA A300
   clear A300
   obtain rfl := zsi H
   go_enter Try.func116, Try.ntmps116
   go_wp2_with (first | ((with_reducible refine zgd 2 ?_); refine zbh zq2 #[.string a0_0, .int .i64 a0_1, .int .i64 a0_2, .int .i64 a0_3, .int .i64 a0_4] 64 ?_; clear HB; intro gb101 w31 HB BK101 GW101; have GE101 := GW101; obtain ⟨hcz32_0, hcz32_1, hcz32_2, hcz32_3, hcz32_4, hfz32_0, hfz32_1, hfz32_2, hfz32_3, hfz32_4⟩ := zd5 BK101; have p102 : 0 ≤ (a0_2 : Int) := zde zq16; have q102 : a0_2 < (l1.length : Int) := zde zq16; obtain ⟨ad102, e102, hx102_0⟩ := Kd.at_int HR1.out a0_2 p102 q102; cases e102; replace hx102_0 := zkep HB.out hx102_0; replace p102 := eq_true p102; replace q102 := eq_true q102; have p103 : 0 ≤ (a0_3 : Int) := zde zq16; have q103 : a0_3 < (l1.length : Int) := zde zq16; obtain ⟨ad103, e103, hx103_0⟩ := Kd.at_int HR1.out a0_3 p103 q103; obtain rfl : ad102 = ad103 := zq47; replace hx103_0 := zkep HB.out hx103_0; replace p103 := eq_true p103; replace q103 := eq_true q103) | (go_at_call 117; (with_reducible refine (spec_exApply.calls (⟨#[115, 104, 114]⟩ : ByteArray) (rd l1 a0_2) a0_4 t108 _ A30.out).mono ?_); rintro e w' ⟨rfl, ⟨nd, rfl⟩⟩; (try first | exact ⟨rfl, _, World.drewN_drewN _ _ _⟩ | exact ⟨rfl, _, Eq.trans (World.drewN_drewN _ _ _) (congrArg (World.drewN _) (Nat.add_assoc _ _ _))⟩)))
   repeat (go_quiet (first | ((with_reducible refine gate_dst (N := 2) rfl ?_); refine box_event ?hg (N := 2) ?hd (cs := #[.string a0_0, .int .i64 a0_1, .int .i64 a0_2, .int .i64 a0_3, .int .i64 a0_4]) (t := 64) ?hr ?_; (case hd => rfl); (case hg => rfl); (case hr => go_simp <;> rfl); intro gb101 hg w31 hbox hb; have zs := zpair zq2 hb; have n0_ := zA (zs.1); have n1_ := zA (hbox); have n2_ := zA (zge hg zs.2); have n3_ := n2_; clear HB; have HB := n0_; have BK101 := n1_; have GW101 := n2_; have GE101 := n3_; clear n0_ n1_ n2_ n3_; clear zs hb hbox hg; obtain ⟨hcz32_0, hcz32_1, hcz32_2, hcz32_3, hcz32_4⟩ := zc5 w31 (.string a0_0) (.int .i64 a0_1) (.int .i64 a0_2) (.int .i64 a0_3) (.int .i64 a0_4) BK101.out; obtain ⟨hfz32_0, hfz32_1, hfz32_2, hfz32_3, hfz32_4⟩ := zf5 BK101.out; have p102 : 0 ≤ (a0_2 : Int) := zde zq16; have q102 : a0_2 < (l1.length : Int) := zde zq16; obtain ⟨ad102, e102, hx102_0⟩ := Kd.at_int HR1.out a0_2 p102 q102; cases e102; replace hx102_0 := zkep HB.out hx102_0; replace p102 := eq_true p102; replace q102 := eq_true q102; have p103 : 0 ≤ (a0_3 : Int) := zde zq16; have q103 : a0_3 < (l1.length : Int) := zde zq16; obtain ⟨ad103, e103, hx103_0⟩ := Kd.at_int HR1.out a0_3 p103 q103; obtain rfl : ad102 = ad103 := zq47; replace hx103_0 := zkep HB.out hx103_0; replace p103 := eq_true p103; replace q103 := eq_true q103) | (go_at_call 117; (with_reducible refine (spec_exApply.calls (⟨#[115, 104, 114]⟩ : ByteArray) (rd l1 a0_2) a0_4 t108 _ A30.out).mono ?_); rintro e w' ⟨rfl, ⟨nd, rfl⟩⟩; (try first | exact ⟨rfl, _, World.drewN_drewN _ _ _⟩ | exact ⟨rfl, _, Eq.trans (World.drewN_drewN _ _ _) (congrArg (World.drewN _) (Nat.add_assoc _ _ _))⟩))); try go_wp2_with (first | ((with_reducible refine gate_dst (N := 2) rfl ?_); refine box_event ?hg (N := 2) ?hd (cs := #[.string a0_0, .int .i64 a0_1, .int .i64 a0_2, .int .i64 a0_3, .int .i64 a0_4]) (t := 64) ?hr ?_; (case hd => rfl); (case hg => rfl); (case hr => go_simp <;> rfl); intro gb101 hg w31 hbox hb; have zs := zpair zq2 hb; have n0_ := zA (zs.1); have n1_ := zA (hbox); have n2_ := zA (zge hg zs.2); have n3_ := n2_; clear HB; have HB := n0_; have BK101 := n1_; have GW101 := n2_; have GE101 := n3_; clear n0_ n1_ n2_ n3_; clear zs hb hbox hg; obtain ⟨hcz32_0, hcz32_1, hcz32_2, hcz32_3, hcz32_4⟩ := zc5 w31 (.string a0_0) (.int .i64 a0_1) (.int .i64 a0_2) (.int .i64 a0_3) (.int .i64 a0_4) BK101.out; obtain ⟨hfz32_0, hfz32_1, hfz32_2, hfz32_3, hfz32_4⟩ := zf5 BK101.out; have p102 : 0 ≤ (a0_2 : Int) := zde zq16; have q102 : a0_2 < (l1.length : Int) := zde zq16; obtain ⟨ad102, e102, hx102_0⟩ := Kd.at_int HR1.out a0_2 p102 q102; cases e102; replace hx102_0 := zkep HB.out hx102_0; replace p102 := eq_true p102; replace q102 := eq_true q102; have p103 : 0 ≤ (a0_3 : Int) := zde zq16; have q103 : a0_3 < (l1.length : Int) := zde zq16; obtain ⟨ad103, e103, hx103_0⟩ := Kd.at_int HR1.out a0_3 p103 q103; obtain rfl : ad102 = ad103 := zq47; replace hx103_0 := zkep HB.out hx103_0; replace p103 := eq_true p103; replace q103 := eq_true q103) | (go_at_call 117; (with_reducible refine (spec_exApply.calls (⟨#[115, 104, 114]⟩ : ByteArray) (rd l1 a0_2) a0_4 t108 _ A30.out).mono ?_); rintro e w' ⟨rfl, ⟨nd, rfl⟩⟩; (try first | exact ⟨rfl, _, World.drewN_drewN _ _ _⟩ | exact ⟨rfl, _, Eq.trans (World.drewN_drewN _ _ _) (congrArg (World.drewN _) (Nat.add_assoc _ _ _))⟩))))
   go_ret
   exact ⟨zq5, zq1 GE101⟩
 rw [if_neg c29] at H
 obtain ⟨c29b0, c29b1⟩ := zbq c29
 by_cases c33 : a0_0.toList = ([108, 101, 97] : List UInt8)
 rotate_left
 · rw [if_neg c33] at H
   obtain ⟨c33b0, c33b1⟩ := zbq c33
   replace H := zob H
   obtain ⟨t111, A380, H⟩ := H
   replace H : (some t111) = some r := H
   have A38 := zA A380
   clear A380
   obtain rfl := zsi H
   go_enter Try.func116, Try.ntmps116
   go_wp2_with (first | ((with_reducible refine zgd 2 ?_); refine zbh zq2 #[.string a0_0, .int .i64 a0_1, .int .i64 a0_2, .int .i64 a0_3, .int .i64 a0_4] 64 ?_; clear HB; intro gb101 w39 HB BK101 GW101; have GE101 := GW101; obtain ⟨hcz40_0, hcz40_1, hcz40_2, hcz40_3, hcz40_4, hfz40_0, hfz40_1, hfz40_2, hfz40_3, hfz40_4⟩ := zd5 BK101; have p102 : 0 ≤ (a0_2 : Int) := zde zq16; have q102 : a0_2 < (l1.length : Int) := zde zq16; obtain ⟨ad102, e102, hx102_0⟩ := Kd.at_int HR1.out a0_2 p102 q102; cases e102; replace hx102_0 := zkep HB.out hx102_0; replace p102 := eq_true p102; replace q102 := eq_true q102; have p103 : 0 ≤ (a0_3 : Int) := zde zq16; have q103 : a0_3 < (l1.length : Int) := zde zq16; obtain ⟨ad103, e103, hx103_0⟩ := Kd.at_int HR1.out a0_3 p103 q103; obtain rfl : ad102 = ad103 := zq47; replace hx103_0 := zkep HB.out hx103_0; replace p103 := eq_true p103; replace q103 := eq_true q103) | (go_at_call 117; (with_reducible refine (spec_exApply.calls a0_0 (rd l1 a0_2) (rd l1 a0_3) t111 _ A38.out).mono ?_); rintro e w' ⟨rfl, ⟨nd, rfl⟩⟩; (try first | exact ⟨rfl, _, World.drewN_drewN _ _ _⟩ | exact ⟨rfl, _, Eq.trans (World.drewN_drewN _ _ _) (congrArg (World.drewN _) (Nat.add_assoc _ _ _))⟩)))
   repeat (go_quiet (first | ((with_reducible refine gate_dst (N := 2) rfl ?_); refine box_event ?hg (N := 2) ?hd (cs := #[.string a0_0, .int .i64 a0_1, .int .i64 a0_2, .int .i64 a0_3, .int .i64 a0_4]) (t := 64) ?hr ?_; (case hd => rfl); (case hg => rfl); (case hr => go_simp <;> rfl); intro gb101 hg w39 hbox hb; have zs := zpair zq2 hb; have n0_ := zA (zs.1); have n1_ := zA (hbox); have n2_ := zA (zge hg zs.2); have n3_ := n2_; clear HB; have HB := n0_; have BK101 := n1_; have GW101 := n2_; have GE101 := n3_; clear n0_ n1_ n2_ n3_; clear zs hb hbox hg; obtain ⟨hcz40_0, hcz40_1, hcz40_2, hcz40_3, hcz40_4⟩ := zc5 w39 (.string a0_0) (.int .i64 a0_1) (.int .i64 a0_2) (.int .i64 a0_3) (.int .i64 a0_4) BK101.out; obtain ⟨hfz40_0, hfz40_1, hfz40_2, hfz40_3, hfz40_4⟩ := zf5 BK101.out; have p102 : 0 ≤ (a0_2 : Int) := zde zq16; have q102 : a0_2 < (l1.length : Int) := zde zq16; obtain ⟨ad102, e102, hx102_0⟩ := Kd.at_int HR1.out a0_2 p102 q102; cases e102; replace hx102_0 := zkep HB.out hx102_0; replace p102 := eq_true p102; replace q102 := eq_true q102; have p103 : 0 ≤ (a0_3 : Int) := zde zq16; have q103 : a0_3 < (l1.length : Int) := zde zq16; obtain ⟨ad103, e103, hx103_0⟩ := Kd.at_int HR1.out a0_3 p103 q103; obtain rfl : ad102 = ad103 := zq47; replace hx103_0 := zkep HB.out hx103_0; replace p103 := eq_true p103; replace q103 := eq_true q103) | (go_at_call 117; (with_reducible refine (spec_exApply.calls a0_0 (rd l1 a0_2) (rd l1 a0_3) t111 _ A38.out).mono ?_); rintro e w' ⟨rfl, ⟨nd, rfl⟩⟩; (try first | exact ⟨rfl, _, World.drewN_drewN _ _ _⟩ | exact ⟨rfl, _, Eq.trans (World.drewN_drewN _ _ _) (congrArg (World.drewN _) (Nat.add_assoc _ _ _))⟩))); try go_wp2_with (first | ((with_reducible refine gate_dst (N := 2) rfl ?_); refine box_event ?hg (N := 2) ?hd (cs := #[.string a0_0, .int .i64 a0_1, .int .i64 a0_2, .int .i64 a0_3, .int .i64 a0_4]) (t := 64) ?hr ?_; (case hd => rfl); (case hg => rfl); (case hr => go_simp <;> rfl); intro gb101 hg w39 hbox hb; have zs := zpair zq2 hb; have n0_ := zA (zs.1); have n1_ := zA (hbox); have n2_ := zA (zge hg zs.2); have n3_ := n2_; clear HB; have HB := n0_; have BK101 := n1_; have GW101 := n2_; have GE101 := n3_; clear n0_ n1_ n2_ n3_; clear zs hb hbox hg; obtain ⟨hcz40_0, hcz40_1, hcz40_2, hcz40_3, hcz40_4⟩ := zc5 w39 (.string a0_0) (.int .i64 a0_1) (.int .i64 a0_2) (.int .i64 a0_3) (.int .i64 a0_4) BK101.out; obtain ⟨hfz40_0, hfz40_1, hfz40_2, hfz40_3, hfz40_4⟩ := zf5 BK101.out; have p102 : 0 ≤ (a0_2 : Int) := zde zq16; have q102 : a0_2 < (l1.length : Int) := zde zq16; obtain ⟨ad102, e102, hx102_0⟩ := Kd.at_int HR1.out a0_2 p102 q102; cases e102; replace hx102_0 := zkep HB.out hx102_0; replace p102 := eq_true p102; replace q102 := eq_true q102; have p103 : 0 ≤ (a0_3 : Int) := zde zq16; have q103 : a0_3 < (l1.length : Int) := zde zq16; obtain ⟨ad103, e103, hx103_0⟩ := Kd.at_int HR1.out a0_3 p103 q103; obtain rfl : ad102 = ad103 := zq47; replace hx103_0 := zkep HB.out hx103_0; replace p103 := eq_true p103; replace q103 := eq_true q103) | (go_at_call 117; (with_reducible refine (spec_exApply.calls a0_0 (rd l1 a0_2) (rd l1 a0_3) t111 _ A38.out).mono ?_); rintro e w' ⟨rfl, ⟨nd, rfl⟩⟩; (try first | exact ⟨rfl, _, World.drewN_drewN _ _ _⟩ | exact ⟨rfl, _, Eq.trans (World.drewN_drewN _ _ _) (congrArg (World.drewN _) (Nat.add_assoc _ _ _))⟩))))
   go_ret
   exact ⟨zq5, zq1 GE101⟩
 rw [if_pos c33] at H
 obtain ⟨c33b0, c33b1⟩ := zbe c33
 clear c33
 replace H := zob H
 obtain ⟨t109, A340, H⟩ := H
 replace H : ((spec_exApply.f (⟨#[97, 100, 100]⟩ : ByteArray) (rd l1 a0_2) t109).bind fun t110 => (some t110)) = some r := H
 have A34 := zA A340
 clear A340
 replace H := zob H
 obtain ⟨t110, A350, H⟩ := H
 replace H : (some t110) = some r := H
 have A35 := zA A350
 clear A350
 obtain rfl := zsi H
 go_enter Try.func116, Try.ntmps116
 go_wp2_with (first | ((with_reducible refine zgd 2 ?_); refine zbh zq2 #[.string a0_0, .int .i64 a0_1, .int .i64 a0_2, .int .i64 a0_3, .int .i64 a0_4] 64 ?_; clear HB; intro gb101 w36 HB BK101 GW101; have GE101 := GW101; obtain ⟨hcz37_0, hcz37_1, hcz37_2, hcz37_3, hcz37_4, hfz37_0, hfz37_1, hfz37_2, hfz37_3, hfz37_4⟩ := zd5 BK101; have p102 : 0 ≤ (a0_2 : Int) := zde zq16; have q102 : a0_2 < (l1.length : Int) := zde zq16; obtain ⟨ad102, e102, hx102_0⟩ := Kd.at_int HR1.out a0_2 p102 q102; cases e102; replace hx102_0 := zkep HB.out hx102_0; replace p102 := eq_true p102; replace q102 := eq_true q102; have p103 : 0 ≤ (a0_3 : Int) := zde zq16; have q103 : a0_3 < (l1.length : Int) := zde zq16; obtain ⟨ad103, e103, hx103_0⟩ := Kd.at_int HR1.out a0_3 p103 q103; obtain rfl : ad102 = ad103 := zq47; replace hx103_0 := zkep HB.out hx103_0; replace p103 := eq_true p103; replace q103 := eq_true q103) | (go_at_call 117; (with_reducible refine (spec_exApply.calls (⟨#[115, 104, 108]⟩ : ByteArray) (rd l1 a0_3) a0_4 t109 _ A34.out).mono ?_); rintro e w' ⟨rfl, ⟨nd, rfl⟩⟩; (try first | exact ⟨rfl, _, World.drewN_drewN _ _ _⟩ | exact ⟨rfl, _, Eq.trans (World.drewN_drewN _ _ _) (congrArg (World.drewN _) (Nat.add_assoc _ _ _))⟩)) | (go_at_call 117; (with_reducible refine (spec_exApply.calls (⟨#[97, 100, 100]⟩ : ByteArray) (rd l1 a0_2) t109 t110 _ A35.out).mono ?_); rintro e w' ⟨rfl, ⟨nd, rfl⟩⟩; (try first | exact ⟨rfl, _, World.drewN_drewN _ _ _⟩ | exact ⟨rfl, _, Eq.trans (World.drewN_drewN _ _ _) (congrArg (World.drewN _) (Nat.add_assoc _ _ _))⟩)))
 repeat (go_quiet (first | ((with_reducible refine gate_dst (N := 2) rfl ?_); refine box_event ?hg (N := 2) ?hd (cs := #[.string a0_0, .int .i64 a0_1, .int .i64 a0_2, .int .i64 a0_3, .int .i64 a0_4]) (t := 64) ?hr ?_; (case hd => rfl); (case hg => rfl); (case hr => go_simp <;> rfl); intro gb101 hg w36 hbox hb; have zs := zpair zq2 hb; have n0_ := zA (zs.1); have n1_ := zA (hbox); have n2_ := zA (zge hg zs.2); have n3_ := n2_; clear HB; have HB := n0_; have BK101 := n1_; have GW101 := n2_; have GE101 := n3_; clear n0_ n1_ n2_ n3_; clear zs hb hbox hg; obtain ⟨hcz37_0, hcz37_1, hcz37_2, hcz37_3, hcz37_4⟩ := zc5 w36 (.string a0_0) (.int .i64 a0_1) (.int .i64 a0_2) (.int .i64 a0_3) (.int .i64 a0_4) BK101.out; obtain ⟨hfz37_0, hfz37_1, hfz37_2, hfz37_3, hfz37_4⟩ := zf5 BK101.out; have p102 : 0 ≤ (a0_2 : Int) := zde zq16; have q102 : a0_2 < (l1.length : Int) := zde zq16; obtain ⟨ad102, e102, hx102_0⟩ := Kd.at_int HR1.out a0_2 p102 q102; cases e102; replace hx102_0 := zkep HB.out hx102_0; replace p102 := eq_true p102; replace q102 := eq_true q102; have p103 : 0 ≤ (a0_3 : Int) := zde zq16; have q103 : a0_3 < (l1.length : Int) := zde zq16; obtain ⟨ad103, e103, hx103_0⟩ := Kd.at_int HR1.out a0_3 p103 q103; obtain rfl : ad102 = ad103 := zq47; replace hx103_0 := zkep HB.out hx103_0; replace p103 := eq_true p103; replace q103 := eq_true q103) | (go_at_call 117; (with_reducible refine (spec_exApply.calls (⟨#[115, 104, 108]⟩ : ByteArray) (rd l1 a0_3) a0_4 t109 _ A34.out).mono ?_); rintro e w' ⟨rfl, ⟨nd, rfl⟩⟩; (try first | exact ⟨rfl, _, World.drewN_drewN _ _ _⟩ | exact ⟨rfl, _, Eq.trans (World.drewN_drewN _ _ _) (congrArg (World.drewN _) (Nat.add_assoc _ _ _))⟩)) | (go_at_call 117; (with_reducible refine (spec_exApply.calls (⟨#[97, 100, 100]⟩ : ByteArray) (rd l1 a0_2) t109 t110 _ A35.out).mono ?_); rintro e w' ⟨rfl, ⟨nd, rfl⟩⟩; (try first | exact ⟨rfl, _, World.drewN_drewN _ _ _⟩ | exact ⟨rfl, _, Eq.trans (World.drewN_drewN _ _ _) (congrArg (World.drewN _) (Nat.add_assoc _ _ _))⟩))); try go_wp2_with (first | ((with_reducible refine gate_dst (N := 2) rfl ?_); refine box_event ?hg (N := 2) ?hd (cs := #[.string a0_0, .int .i64 a0_1, .int .i64 a0_2, .int .i64 a0_3, .int .i64 a0_4]) (t := 64) ?hr ?_; (case hd => rfl); (case hg => rfl); (case hr => go_simp <;> rfl); intro gb101 hg w36 hbox hb; have zs := zpair zq2 hb; have n0_ := zA (zs.1); have n1_ := zA (hbox); have n2_ := zA (zge hg zs.2); have n3_ := n2_; clear HB; have HB := n0_; have BK101 := n1_; have GW101 := n2_; have GE101 := n3_; clear n0_ n1_ n2_ n3_; clear zs hb hbox hg; obtain ⟨hcz37_0, hcz37_1, hcz37_2, hcz37_3, hcz37_4⟩ := zc5 w36 (.string a0_0) (.int .i64 a0_1) (.int .i64 a0_2) (.int .i64 a0_3) (.int .i64 a0_4) BK101.out; obtain ⟨hfz37_0, hfz37_1, hfz37_2, hfz37_3, hfz37_4⟩ := zf5 BK101.out; have p102 : 0 ≤ (a0_2 : Int) := zde zq16; have q102 : a0_2 < (l1.length : Int) := zde zq16; obtain ⟨ad102, e102, hx102_0⟩ := Kd.at_int HR1.out a0_2 p102 q102; cases e102; replace hx102_0 := zkep HB.out hx102_0; replace p102 := eq_true p102; replace q102 := eq_true q102; have p103 : 0 ≤ (a0_3 : Int) := zde zq16; have q103 : a0_3 < (l1.length : Int) := zde zq16; obtain ⟨ad103, e103, hx103_0⟩ := Kd.at_int HR1.out a0_3 p103 q103; obtain rfl : ad102 = ad103 := zq47; replace hx103_0 := zkep HB.out hx103_0; replace p103 := eq_true p103; replace q103 := eq_true q103) | (go_at_call 117; (with_reducible refine (spec_exApply.calls (⟨#[115, 104, 108]⟩ : ByteArray) (rd l1 a0_3) a0_4 t109 _ A34.out).mono ?_); rintro e w' ⟨rfl, ⟨nd, rfl⟩⟩; (try first | exact ⟨rfl, _, World.drewN_drewN _ _ _⟩ | exact ⟨rfl, _, Eq.trans (World.drewN_drewN _ _ _) (congrArg (World.drewN _) (Nat.add_assoc _ _ _))⟩)) | (go_at_call 117; (with_reducible refine (spec_exApply.calls (⟨#[97, 100, 100]⟩ : ByteArray) (rd l1 a0_2) t109 t110 _ A35.out).mono ?_); rintro e w' ⟨rfl, ⟨nd, rfl⟩⟩; (try first | exact ⟨rfl, _, World.drewN_drewN _ _ _⟩ | exact ⟨rfl, _, Eq.trans (World.drewN_drewN _ _ _) (congrArg (World.drewN _) (Nat.add_assoc _ _ _))⟩))))
 go_ret
 exact ⟨zq5, zq1 GE101⟩
def spec_l1Own.f (l0 : List Int) : Option (List Int) := (some (([] : List Int) : List Int)).bind fun y101 => (if y101.length + l0.length < 17592186044416 then (some (y101 ++ l0)) else (none))
theorem spec_l1Own.calls (A0 : Option Addr) (c0 : Nat) (l0 : List Int) (r : List Int) (w : World) (hr0 : Kd.C (Kd.int .i64) w A0 l0.length l0) (hc0 : l0.length ≤ c0) (h : spec_l1Own.f l0 = some r) :
   Calls Try.prog 100 #[.slice A0 l0.length c0] w fun e w' => ∃ v0_ : Value, e = .returned (v0_) ∧ Kd.R (Kd.int .i64) 3 w' w.heap.size (fun _ => True) v0_ r ∧ Below w.heap.size w w' := by
 have HR0 := zA hr0
 have HC0 := zA hc0
 clear hr0 hc0
 have HB := zA (Below.refl w.heap.size w)
 have H : ((some (([] : List Int) : List Int)).bind fun y101 => (if y101.length + l0.length < 17592186044416 then (some (y101 ++ l0)) else (none))) = some r := h
 clear h
 obtain ⟨y101, hy101⟩ : ∃ y_ : List Int, y_ = (([] : List Int)) := ⟨_, rfl⟩
 replace H : (if y101.length + l0.length < 17592186044416 then (some (y101 ++ l0)) else (none)) = some r := by first | (rw [hy101]; with_reducible exact H) | (have H2_ := (Option.bind_some _ _).symm.trans H; rw [hy101]; with_reducible exact H2_) | (have H2_ := (Option.bind_some _ _).symm.trans H; with_reducible exact H2_) | with_reducible exact H | (rw [hy101]; exact H) | exact H
 have Ny101 := zA hy101
 clear hy101
 by_cases c2 : y101.length + l0.length < 17592186044416
 · rw [if_pos c2] at H
   have LMc2 := zA c2
   clear c2
   obtain ⟨y104, hy104⟩ : ∃ y_ : List Int, y_ = (y101 ++ l0) := ⟨_, rfl⟩
   replace H : (some y104) = some r := by first | (rw [hy104]; with_reducible exact H) | (have H2_ := (Option.bind_some _ _).symm.trans H; rw [hy104]; with_reducible exact H2_) | (have H2_ := (Option.bind_some _ _).symm.trans H; with_reducible exact H2_) | with_reducible exact H | (rw [hy104]; exact H) | exact H
   have Ny104 := zA hy104
   clear hy104
   obtain rfl := zsi H
   go_enter Try.func100, Try.ntmps100
   go_wp2_with (first | ((with_reducible refine zgd 3 ?_); refine Kd.R_lit (Kd.int .i64) _ 3 ?hg (N := 3) ?hd (xs := ([] : List Int)) (inner := []) (ok := fun _ => True) (okp := fun _ => True) ?hr ?hp (fun _ hk => hk) trivial (Below.refl _ _) (zlr _) (by simp) ?_; (case hd => rfl); (case hg => rfl); (case hr => go_simp <;> rfl); (case hp => exact (Reps.none _ _)); intro v102 w3 ho4 hb hg_ hnew_; clear hg_ hnew_; (first | rw [← Ny101.out] at ho4 | (simp only [Int.reduceToNat] at ho4; rw [← Ny101.out] at ho4)); have HO103 := zA (Kd.R_lower ho4 (below_size zq2)); replace HB := zA (below_step zq2 hb); clear hb ho4) | ((with_reducible refine gate_builtin (b := .append) (xs := #[.tmp 3, .tmp 4]) rfl ?_); at_builtin; refine Kd.R_append_rows (Kd.int .i64) (w0 := w) w.heap.size rfl (.tmp 3) (.tmp 4) 24 3 (.int .i64 0) 8 rfl Try.underlying24 info3 rfl (by decide) (by omega) v102 y101 l0 _ _ _ (fun _ => True) (fun _ => False) rfl rfl ?aO ?aR (fun _ _ h => h) (fun _ h => h.elim) ?aF ?aB ?aS ?aL ?_; (case aR => repeat (first | exact (zCb HR0.out HB.out) | (with_reducible first | refine zCa ?_ _ | refine zCn ?_ _ | refine zCd ?_))); (case aB => exact zq2); (case aF => exact (fun _ _ => trivial)); (case aO => exact (zq3 HO103)); (case aS => exact (below_size zq2)); (case aL => have := LMc2.out; omega); intro v105 w5 ho hb hg hat; rw [← Ny104.out] at ho; replace HB := zA (hb); have HO106 := zA (ho); clear HO103; clear ho hb hg hat))
   go_ret
   exact ⟨_, zq5, zq3 HO106, zq2⟩
 · rw [if_neg c2] at H
   exact absurd H (by simp)
def spec_cdStep.f (a0_0 : ByteArray) (a0_1 : Int) (a0_2 : Int) (a0_3 : Int) (a0_4 : Int) (l1 : List Int) : Option (List Int) := (spec_l1Own.f l1).bind fun t102 => ((spec_cdValue.f a0_0 a0_1 a0_2 a0_3 a0_4 l1).bind fun t105 => (if 0 ≤ a0_1 then (if a0_1 < (t102.length : Int) then (some (t102.set (a0_1 : Int).toNat t105)) else (none)) else (none)))
def spec_cdStep.T2 : Bool × List (List Nat × List Nat) := (true, [([], []), ([], []), ([1], [1]), ([], []), ([], []), ([3, 4], [3, 4]), ([0, 2, 0, 1, 2, 3, 4, 5], [0, 2]), ([6, 5, 5, 0, 1, 2, 3, 4, 5], [5, 6])])
def spec_cdStep.B2 : List Nat := [0, 0, 2, 0, 0, 24, 63, 127]
theorem spec_cdStep.tab2 : rtab .any (opsOf Try.f101 2) = spec_cdStep.T2 := by kernel_rfl
theorem spec_cdStep.bits2 : waitsOk spec_cdStep.T2.2 spec_cdStep.B2 = true := by kernel_rfl
theorem spec_cdStep.calls (a0_0 : ByteArray) (a0_1 : Int) (a0_2 : Int) (a0_3 : Int) (a0_4 : Int) (A1 : Option Addr) (c1 : Nat) (l1 : List Int) (r : List Int) (w : World) (hr1 : Kd.C (Kd.int .i64) w A1 l1.length l1) (hc1 : l1.length ≤ c1) (h : spec_cdStep.f a0_0 a0_1 a0_2 a0_3 a0_4 l1 = some r) :
   Calls Try.prog 101 #[.agg #[.string a0_0, .int .i64 a0_1, .int .i64 a0_2, .int .i64 a0_3, .int .i64 a0_4], .slice A1 l1.length c1] w fun e w' => ∃ v0_ : Value, e = .returned (v0_) ∧ Kd.R (Kd.int .i64) 3 w' w.heap.size (fun _ => True) v0_ r ∧ Below w.heap.size w w' := by
 have hu64 := Try.underlying64
 have HR1 := zA hr1
 have HC1 := zA hc1
 clear hr1 hc1
 have HB := zA (Below.refl w.heap.size w)
 have H : ((spec_l1Own.f l1).bind fun t102 => ((spec_cdValue.f a0_0 a0_1 a0_2 a0_3 a0_4 l1).bind fun t105 => (if 0 ≤ a0_1 then (if a0_1 < (t102.length : Int) then (some (t102.set (a0_1 : Int).toNat t105)) else (none)) else (none)))) = some r := h
 clear h
 replace H := zob H
 obtain ⟨t102, A30, H⟩ := H
 replace H : ((spec_cdValue.f a0_0 a0_1 a0_2 a0_3 a0_4 l1).bind fun t105 => (if 0 ≤ a0_1 then (if a0_1 < (t102.length : Int) then (some (t102.set (a0_1 : Int).toNat t105)) else (none)) else (none))) = some r := H
 have A3 := zA A30
 clear A30
 replace H := zob H
 obtain ⟨t105, A40, H⟩ := H
 replace H : (if 0 ≤ a0_1 then (if a0_1 < (t102.length : Int) then (some (t102.set (a0_1 : Int).toNat t105)) else (none)) else (none)) = some r := H
 have A4 := zA A40
 clear A40
 revert H
 refine zin fun c5 H => ?_
 revert H
 refine zin fun c6 H => ?_
 obtain ⟨y106, hy106⟩ : ∃ y_ : List Int, y_ = (t102.set (a0_1 : Int).toNat t105) := ⟨_, rfl⟩
 replace H : (some y106) = some r := by first | (rw [hy106]; with_reducible exact H) | (have H2_ := (Option.bind_some _ _).symm.trans H; rw [hy106]; with_reducible exact H2_) | (have H2_ := (Option.bind_some _ _).symm.trans H; with_reducible exact H2_) | with_reducible exact H | (rw [hy106]; exact H) | exact H
 have Ny106 := zA hy106
 clear hy106
 obtain rfl := zsi H
 go_enter Try.func101, Try.ntmps101
 try go_wp2_with (first | ((with_reducible refine zgd 2 ?_); refine zbx #[.string a0_0, .int .i64 a0_1, .int .i64 a0_2, .int .i64 a0_3, .int .i64 a0_4] 64 ?_; intro gb101 hg w8 hbox hb; have zs := zpair zq2 hb; replace HB := zA (zs.1); have BK101 := zA (hbox); have GW101 := zA (zge hg zs.2); have GE101 := GW101; clear zs hb hbox hg) | ((with_reducible refine zgc 100 ?_); refine zca 7 Try.func100 #[.slice A1 l1.length c1] (spec_l1Own.calls _ _ l1 t102 _ (zq9 HR1) HC1.out A3.out) ?_; rintro e w9 ⟨v103, rfl, ho0, hb⟩; refine ⟨_, rfl, ?_⟩; have HO104 := zA (Kd.R_lower ho0 (below_size (zq1 GE101))); replace BK101 := zbb BK101 hb; replace HB := zA (below_step (zq1 GE101) hb); (try clear hb); (try clear ho0)))
 replace HO104 := zA (zRd HO104.out)
 replace BK101 := zA (zkd BK101.out)
 replace HB := zA (zbd HB.out)
 refine start_ (n := 8) (S := fun w' => w'.cell? ⟨gb101, 0, none⟩ = some (.string a0_0) ∧ w'.cell? ⟨gb101, 1, none⟩ = some (.int .i64 a0_1) ∧ w'.cell? ⟨gb101, 2, none⟩ = some (.int .i64 a0_2) ∧ w'.cell? ⟨gb101, 3, none⟩ = some (.int .i64 a0_3) ∧ w'.cell? ⟨gb101, 4, none⟩ = some (.int .i64 a0_4)) (ds := [7]) #[false, false, false, false, false, false, false, false] zq22 rfl rfl ⟨(blk_cell BK101.out 0).trans rfl, (blk_cell BK101.out 1).trans rfl, (blk_cell BK101.out 2).trans rfl, (blk_cell BK101.out 3).trans rfl, (blk_cell BK101.out 4).trans rfl⟩ (fun hHeld => ?_); refine with_tabW spec_cdStep.tab2 spec_cdStep.bits2 (fun HT_ HW_ => ?_)
 generalize w9.drew = w10 at HO104 BK101 HB hHeld ⊢
 refine zpu 0 8 HT_ ?_
 refine zpu 1 9 HT_ ?_
 refine zpu 4 12 HT_ ?_
 refine ztu 2 10 HT_ HW_ hHeld ?_
 refine ztu 3 11 HT_ HW_ hHeld ?_
 refine one_ (i := 5) (N := some 13) #[true, true, true, true, true, true, false, false] rfl rfl (one_of HT_.out zq22) (by decide) (fun K hK => ?_)
 refine goes_ Try.func116 zq22 rfl #[.agg #[.string a0_0, .int .i64 a0_1, .int .i64 a0_2, .int .i64 a0_3, .int .i64 a0_4], .slice A1 l1.length c1] (by rfl) rfl rfl zq10 ?_
 with_reducible refine (spec_cdValue.calls a0_0 a0_1 a0_2 a0_3 a0_4 _ _ l1 t105 _ ?side1 ?side2 A4.out).mono ?_
 (case side1 => repeat (first | exact (zCb HR1.out HB.out) | (with_reducible first | refine zCa ?_ _ | refine zCn ?_ _ | refine zCd ?_)))
 (case side2 => exact HC1.out)
 rintro e w11 ⟨rfl, hb⟩
 refine ⟨_, rfl, ?_⟩
 replace HO104 := zA (zRb (zq3 HO104) hb)
 replace BK101 := zA (blk_below (g := gb101) (o := .cells #[.string a0_0, .int .i64 a0_1, .int .i64 a0_2, .int .i64 a0_3, .int .i64 a0_4] 64 (0, 0)) (zq6 BK101) hb)
 replace HB := zA (below_step (zq1 GE101) hb)
 (try clear hb)
 (try clear hb2)
 (try clear hk)
 (try clear hi)
 have p7 : 0 ≤ (a0_1 : Int) := zde zq16
 have q7 : (a0_1 : Int) < ((t102.length : Int) : Int) := zde zq16
 obtain ⟨go7, co7, eo7, gb7, gl7, cl7, HG7⟩ := Kd.R_form HO104.out (by omega)
 (first | cases eo7 | (injection eo7 with ea_ en_ ec_; (first | subst ea_ | (injection ea_ with ea_; subst ea_)); subst ec_; clear en_))
 have GB7 := zA gb7
 have GG7 := zA HG7
 clear gb7 gl7 HG7
 obtain ⟨hx7_0, hf7_0⟩ := Kd.R_celln 0 HO104.out (a0_1 : Int) p7 q7
 replace p7 := eq_true p7
 replace q7 := eq_true q7
 have HP12 := Kd.R_putn HO104.out (a0_1 : Int) t105
 rw [← Ny106.out] at HP12
 have HQ12 := zA HP12
 clear HP12
 refine hK.out _ _ ⟨(blk_cell BK101.out 0).trans rfl, (blk_cell BK101.out 1).trans rfl, (blk_cell BK101.out 2).trans rfl, (blk_cell BK101.out 3).trans rfl, (blk_cell BK101.out 4).trans rfl⟩ (fun hHeld => ?_)
 clear hK K
 refine znm 13 ?_
 refine zpu 6 14 HT_ ?_
 refine last_ (i := 7) (N := none) #[true, true, true, true, true, true, true, true] rfl rfl (one_of HT_.out zq22) (by decide) (fun K hK => ?_)
 refine skip_ (w1 := ?_) (by rfl) rfl ?_ ?_
 rotate_left
 · go_simp
   rfl
 refine hK.out _ _ ?_
 clear hK K
 refine done_ (done_of HT_.out zq22) ?_
 try go_wp2
 go_ret
 exact ⟨_, zq5, zq3 HQ12, zq4 GB7 GE101⟩
def spec_cdRun.l0 : Nat → List Int → List (S64) → Int → Int → Option (List Int)
 | 0, _, _, _, _ => none
 | k + 1, x5, x10, x11, x12 => if x12 < x11 then (if 0 ≤ x12 then (if x12 < (x10.length : Int) then ((spec_cdStep.f ((rd_T64 x10 x12).f0) ((rd_T64 x10 x12).f1) ((rd_T64 x10 x12).f2) ((rd_T64 x10 x12).f3) ((rd_T64 x10 x12).f4) x5).bind fun t106 => (spec_cdRun.l0 k t106 x10 x11 (wrap64 (x12 + 1)))) else (none)) else (none)) else (some x5)
def spec_cdRun.f (k : Nat) (l0 : List (S64)) (l1 : List Int) : Option (List Int) := (spec_l1Own.f l1).bind fun t101 => (spec_cdRun.l0 k t101 l0 (l0.length : Int) 0)
theorem spec_cdRun.mono_l : ∀ k, (∀ y0 y1 y2 y3, LeO (spec_cdRun.l0 k y0 y1 y2 y3) (spec_cdRun.l0 (k + 1) y0 y1 y2 y3))
 | 0 => fun _ _ _ _ r h => by simp [spec_cdRun.l0] at h
 | k + 1 => by
   have ih0 := spec_cdRun.mono_l k
   · intro y0 y1 y2 y3
     unfold spec_cdRun.l0
     exact zm1 ih0
theorem spec_cdRun.mono : ∀ a0 a1 k, LeO (spec_cdRun.f k a0 a1) (spec_cdRun.f (k + 1) a0 a1) := by
 intro a0 a1 k
 have ih0 := spec_cdRun.mono_l k
 unfold spec_cdRun.f
 exact zm1 ih0
theorem spec_cdRun.calls (k : Nat) (A0 : Option Addr) (c0 : Nat) (l0 : List (S64)) (A1 : Option Addr) (c1 : Nat) (l1 : List Int) (r : List Int) (w : World) (hr0 : Kd.C k64 w A0 l0.length l0) (hc0 : l0.length ≤ c0) (hr1 : Kd.C (Kd.int .i64) w A1 l1.length l1) (hc1 : l1.length ≤ c1) (h : spec_cdRun.f k l0 l1 = some r) :
   Calls Try.prog 67 #[.slice A0 l0.length c0, .slice A1 l1.length c1] w fun e w' => ∃ v0_ : Value, e = .returned (v0_) ∧ Kd.R (Kd.int .i64) 3 w' w.heap.size (fun _ => True) v0_ r ∧ Below w.heap.size w w' := by
 have hu64 := Try.underlying64
 have HR0 := zA hr0
 have HC0 := zA hc0
 clear hr0 hc0
 have HR1 := zA hr1
 have HC1 := zA hc1
 clear hr1 hc1
 have HB := zA (Below.refl w.heap.size w)
 have H : ((spec_l1Own.f l1).bind fun t101 => (spec_cdRun.l0 k t101 l0 (l0.length : Int) 0)) = some r := h
 clear h
 replace H := zob H
 obtain ⟨t101, A30, H⟩ := H
 replace H : (spec_cdRun.l0 k t101 l0 (l0.length : Int) 0) = some r := H
 have A3 := zA A30
 clear A30
 have H' := zA H
 clear H
 go_enter Try.func67, Try.ntmps67
 go_wp2_with (first | ((with_reducible refine zgc 100 ?_); refine zca 9 Try.func100 #[.slice A1 l1.length c1] (spec_l1Own.calls _ _ l1 t101 _ (zq35 HR1) HC1.out A3.out) ?_; rintro e w4 ⟨v102, rfl, ho0, hb⟩; refine ⟨_, rfl, ?_⟩; have HO103 := zA (Kd.R_lower ho0 (below_size zq2)); replace HB := zA (below_step zq2 hb); (try clear hb); (try clear ho0)))
 go_loopg [5, 12] k (fun kq v5 v12 w' => ∃ (x5_1 : List Int) (x12_1 : Int), v12 = .int .i64 x12_1 ∧ Aside0 (spec_cdRun.l0 kq x5_1 l0 (l0.length : Int) x12_1 = some r) ∧ Aside0 (kq ≤ k) ∧ Aside0 (Kd.R (Kd.int .i64) 3 w' w.heap.size (fun _ => True) v5 x5_1) ∧ Aside0 (Below w.heap.size w w'))
 case atStart => exact ⟨(t101), (0), zq7, H', ⟨zlr _⟩, ⟨zq3 HO103⟩, ⟨zq2⟩⟩
 clear H'
 try clear c1
 obtain ⟨x5_1, x12_1, rfl, HA, HK1, HO_5, HB⟩ := hrel
 cases gk with
 | zero => exact absurd HA.out (by simp [spec_cdRun.l0])
 | succ k1 =>
 have H := HA.out
 clear HA
 simp only [spec_cdRun.l0] at H
 revert H
 refine zit (fun c5 H => ?_) fun c5 H => ?_
 rotate_left
 · obtain rfl := zsi H
   go_wp2
   go_ret
   exact ⟨_, zq5, zq3 HO_5, zq2⟩
 revert H
 refine zin fun c6 H => ?_
 revert H
 refine zin fun c7 H => ?_
 replace H := zob H
 obtain ⟨t106, A80, H⟩ := H
 replace H : (spec_cdRun.l0 k1 t106 l0 (l0.length : Int) (wrap64 (x12_1 + 1))) = some r := H
 have A8 := zA A80
 clear A80
 have H' := zA H
 clear H
 obtain ⟨p104, q104⟩ := zpq x12_1 l0.length
 obtain ⟨ad104, e104, hx104_0, hx104_1, hx104_2, hx104_3, hx104_4⟩ := at_T64 HR0.out x12_1 (zoe p104) (zoe q104)
 cases e104
 replace hx104_0 := zkep HB.out hx104_0
 replace hx104_1 := zkep HB.out hx104_1
 replace hx104_2 := zkep HB.out hx104_2
 replace hx104_3 := zkep HB.out hx104_3
 replace hx104_4 := zkep HB.out hx104_4
 go_wp2_with (first | ((with_reducible refine zgd 7 ?_); refine zbx #[.string (⟨#[]⟩ : ByteArray), .int .i64 0, .int .i64 0, .int .i64 0, .int .i64 0] 64 ?_; intro gb105 hg w9 hbox hb; have zs := zpair zq2 hb; replace HO_5 := zA (zRb (zq3 HO_5) hb); replace HB := zA (zs.1); have BK105 := zA (hbox); have GW105 := zA (zge hg zs.2); have GE105 := GW105; clear zs hb hbox hg; obtain ⟨hcz10_0, hcz10_1, hcz10_2, hcz10_3, hcz10_4, hfz10_0, hfz10_1, hfz10_2, hfz10_3, hfz10_4⟩ := zd5 BK105; obtain ⟨Ao11, co11, eo11⟩ := Kd.R_slice HO_5.out; subst eo11) | ((with_reducible refine zgc 101 ?_); refine zca 18 Try.func101 #[.agg #[.string ((rd_T64 l0 x12_1).f0), .int .i64 ((rd_T64 l0 x12_1).f1), .int .i64 ((rd_T64 l0 x12_1).f2), .int .i64 ((rd_T64 l0 x12_1).f3), .int .i64 ((rd_T64 l0 x12_1).f4)], .slice Ao11 x5_1.length co11] (spec_cdStep.calls ((rd_T64 l0 x12_1).f0) ((rd_T64 l0 x12_1).f1) ((rd_T64 l0 x12_1).f2) ((rd_T64 l0 x12_1).f3) ((rd_T64 l0 x12_1).f4) _ _ x5_1 t106 _ (by refine (zRr (e := 3) (base := w.heap.size) (ok := fun k_ => True) (n := x5_1.length) (c := co11) ?_).2.2; exact (zq28 HO_5 BK105)) (zq46 HO_5) A8.out) ?_; rintro e w12 ⟨v107, rfl, ho0, hb⟩; refine ⟨_, rfl, ?_⟩; have HO108 := zA (Kd.R_lower (Kd.R_new' ho0 (Kd.R_lt (zq28 HO_5 BK105))) (below_size (zq1 GE105))); replace HO_5 := zA (Kd.R_elder' (zq28 HO_5 BK105) (Kd.R_base ho0) hb); replace BK105 := zA (blk_below (g := gb105) (o := .cells #[.string ((rd_T64 l0 x12_1).f0), .int .i64 ((rd_T64 l0 x12_1).f1), .int .i64 ((rd_T64 l0 x12_1).f2), .int .i64 ((rd_T64 l0 x12_1).f3), .int .i64 ((rd_T64 l0 x12_1).f4)] 64 (0, 0)) (by (with_reducible repeat (first | refine zkn ?_ _ | refine zkd ?_ | refine zka ?_ _)); refine blk_put (cs := #[.string ((rd_T64 l0 x12_1).f0), .int .i64 ((rd_T64 l0 x12_1).f1), .int .i64 ((rd_T64 l0 x12_1).f2), .int .i64 ((rd_T64 l0 x12_1).f3), .int .i64 0]) ?_ 4 _ rfl; (with_reducible repeat (first | refine zkn ?_ _ | refine zkd ?_ | refine zka ?_ _)); refine blk_put (cs := #[.string ((rd_T64 l0 x12_1).f0), .int .i64 ((rd_T64 l0 x12_1).f1), .int .i64 ((rd_T64 l0 x12_1).f2), .int .i64 0, .int .i64 0]) ?_ 3 _ rfl; (with_reducible repeat (first | refine zkn ?_ _ | refine zkd ?_ | refine zka ?_ _)); refine blk_put (cs := #[.string ((rd_T64 l0 x12_1).f0), .int .i64 ((rd_T64 l0 x12_1).f1), .int .i64 0, .int .i64 0, .int .i64 0]) ?_ 2 _ rfl; (with_reducible repeat (first | refine zkn ?_ _ | refine zkd ?_ | refine zka ?_ _)); refine blk_put (cs := #[.string ((rd_T64 l0 x12_1).f0), .int .i64 0, .int .i64 0, .int .i64 0, .int .i64 0]) ?_ 1 _ rfl; (with_reducible repeat (first | refine zkn ?_ _ | refine zkd ?_ | refine zka ?_ _)); refine blk_put (cs := #[.string (⟨#[]⟩ : ByteArray), .int .i64 0, .int .i64 0, .int .i64 0, .int .i64 0]) ?_ 0 _ rfl; (with_reducible repeat (first | refine zkn ?_ _ | refine zkd ?_ | refine zka ?_ _)); exact BK105.out) hb); replace HB := zA (below_step (zq1 GE105) hb); (try clear hb); (try clear hk); (try clear ho0)))
 go_roundg k1
 case measure => have := HK1.out; omega
 case rel => exact ⟨(t106), (wrap64 (x12_1 + 1)), zq7, H', ⟨zq37 HK1⟩, ⟨zq25 HO108⟩, ⟨zq1 GE105⟩⟩
def spec_cdStart.f (a0 : Int) (a1 : Int) : Option (List Int) := if 6 ≤ 35184372088832 then ((some (List.replicate 6 0 : List Int)).bind fun y101 => (if 0 < (y101.length : Int) then (if 1 < (y101.length : Int) then (some ((y101.set (0 : Int).toNat a0).set (1 : Int).toNat a1)) else (none)) else (none))) else (none)
theorem spec_cdStart.calls (a0 : Int) (a1 : Int) (r : List Int) (w : World) (h : spec_cdStart.f a0 a1 = some r) :
   Calls Try.prog 68 #[.int .i64 a0, .int .i64 a1] w fun e w' => ∃ v0_ : Value, e = .returned (v0_) ∧ Kd.R (Kd.int .i64) 3 w' w.heap.size (fun _ => True) v0_ r ∧ Below w.heap.size w w' := by
 have HB := zA (Below.refl w.heap.size w)
 have H : (if 6 ≤ 35184372088832 then ((some (List.replicate 6 0 : List Int)).bind fun y101 => (if 0 < (y101.length : Int) then (if 1 < (y101.length : Int) then (some ((y101.set (0 : Int).toNat a0).set (1 : Int).toNat a1)) else (none)) else (none))) else (none)) = some r := h
 clear h
 by_cases c3 : 6 ≤ 35184372088832
 rotate_left
 · rw [if_neg c3] at H
   exact absurd H (by simp)
 rw [if_pos c3] at H
 have c3b0 := eq_true c3
 have c3b1 := zdt c3
 clear c3
 obtain ⟨y101, hy101⟩ : ∃ y_ : List Int, y_ = (List.replicate 6 0) := ⟨_, rfl⟩
 replace H : (if 0 < (y101.length : Int) then (if 1 < (y101.length : Int) then (some ((y101.set (0 : Int).toNat a0).set (1 : Int).toNat a1)) else (none)) else (none)) = some r := by first | (rw [hy101]; with_reducible exact H) | (have H2_ := (Option.bind_some _ _).symm.trans H; rw [hy101]; with_reducible exact H2_) | (have H2_ := (Option.bind_some _ _).symm.trans H; with_reducible exact H2_) | with_reducible exact H | (rw [hy101]; exact H) | exact H
 have Ny101 := zA hy101
 clear hy101
 by_cases c4 : 0 < (y101.length : Int)
 rotate_left
 · rw [if_neg c4] at H
   exact absurd H (by simp)
 rw [if_pos c4] at H
 have c4b0 := zdt c4
 have c4b1 : decide (0 < y101.length) = true := zdt (by omega)
 clear c4
 obtain ⟨y104, hy104⟩ : ∃ y_ : List Int, y_ = (y101.set (0 : Int).toNat a0) := ⟨_, rfl⟩
 replace H : (if 1 < (y101.length : Int) then (some (y104.set (1 : Int).toNat a1)) else (none)) = some r := by first | (rw [hy104]; with_reducible exact H) | (have H2_ := (Option.bind_some _ _).symm.trans H; rw [hy104]; with_reducible exact H2_) | (have H2_ := (Option.bind_some _ _).symm.trans H; with_reducible exact H2_) | with_reducible exact H | (rw [hy104]; exact H) | exact H
 have Ny104 := zA hy104
 clear hy104
 by_cases c6 : 1 < (y101.length : Int)
 rotate_left
 · rw [if_neg c6] at H
   exact absurd H (by simp)
 rw [if_pos c6] at H
 have c6b0 := zdt c6
 have c6b1 : decide (1 < y101.length) = true := zdt (by omega)
 clear c6
 obtain ⟨y105, hy105⟩ : ∃ y_ : List Int, y_ = (y104.set (1 : Int).toNat a1) := ⟨_, rfl⟩
 replace H : (some y105) = some r := by first | (rw [hy105]; with_reducible exact H) | (have H2_ := (Option.bind_some _ _).symm.trans H; rw [hy105]; with_reducible exact H2_) | (have H2_ := (Option.bind_some _ _).symm.trans H; with_reducible exact H2_) | with_reducible exact H | (rw [hy105]; exact H) | exact H
 have Ny105 := zA hy105
 clear hy105
 obtain rfl := zsi H
 go_enter Try.func68, Try.ntmps68
 go_wp2_with (first | ((with_reducible refine zgd 6 ?_); refine Kd.R_make (Kd.int .i64) _ 3 rfl (N := 6) rfl 24 _ _ rfl 6 rfl rfl Try.underlying24 (.int .i64 0) 8 info3 rfl (by decide) (by omega) 0 (ok := fun _ => True) (okp := fun _ => True) rfl (fun _ hk => hk) trivial (by omega) (by omega) (Below.refl _ _) (zlr _) ?_; intro v102 w8 ho9 hb hg_ hnew_; clear hg_ hnew_; (first | rw [← Ny101.out] at ho9 | (simp only [Int.reduceToNat] at ho9; rw [← Ny101.out] at ho9)); have HO103 := zA (Kd.R_lower ho9 (below_size zq2)); replace HB := zA (below_step zq2 hb); clear hb ho9; have p5 : 0 ≤ (0 : Int) := (by omega); have q5 : (0 : Int) < ((y101.length : Int) : Int) := zde zq16; have qi5 : (0 < y101.length) = True := eq_true (by omega); obtain ⟨go5, co5, eo5, gb5, gl5, cl5, HG5⟩ := Kd.R_form HO103.out (by omega); (first | cases eo5 | (injection eo5 with ea_ en_ ec_; (first | subst ea_ | (injection ea_ with ea_; subst ea_)); subst ec_; clear en_)); have GB5 := zA gb5; have GG5 := zA HG5; clear gb5 gl5 HG5; obtain ⟨hx5_0, hf5_0⟩ := Kd.R_celln 0 HO103.out (0 : Int) p5 q5; (try rw [show ((0 : Int)).toNat = 0 from rfl] at hx5_0); (try simp only [Nat.reduceMul, Nat.zero_mul, Nat.zero_add, Nat.reduceAdd] at hx5_0); (try rw [show ((0 : Int)).toNat = 0 from rfl] at hf5_0); (try simp only [Nat.reduceMul, Nat.zero_mul, Nat.zero_add, Nat.reduceAdd] at hf5_0); replace p5 := eq_true p5; replace q5 := eq_true q5; obtain ⟨hy10_, hz10_⟩ := Kd.R_celln 0 HO103.out (0 : Int) (by omega) (zde zq16); (try simp only [Int.reduceToNat, Int.toNat_zero, Int.toNat_ofNat, Nat.reduceMul, Nat.zero_mul, Nat.zero_add] at hy10_ hz10_); (try rw [show ((0 : Int)).toNat = 0 from rfl] at hy10_); (try rw [show ((0 : Int)).toNat = 0 from rfl] at hz10_); have HP10 := Kd.R_putg HO103.out (0 : Int) a0) | ((with_reducible refine zgs 3 9 ?_); refine zse (w8.setCell ⟨go5, (0 : Int).toNat, none⟩ (.int .i64 a0)) ?_; intro w11 hw; have hg : w8.grownBy w11 (some go5) := (by rw [hw]; exact HP10.2); have hp_ : Kd.R (Kd.int .i64) 3 w11 w.heap.size (fun _ => True) (.slice (some ⟨go5, 0, none⟩) y101.length co5) y104 := (by rw [hw, Ny104.out]; exact HP10.1); clear HP10; replace HO103 := zA (hp_); replace HB := zA ((zq54 GB5 : Below w.heap.size w w11)); clear hg hw hp_; have p7 : 0 ≤ (1 : Int) := (by omega); have q7 : (1 : Int) < ((y101.length : Int) : Int) := zde zq16; have qi7 : (1 < y101.length) = True := eq_true (by omega); obtain ⟨hx7_0, hf7_0⟩ := Kd.R_celln 0 HO103.out (1 : Int) p7 q7; (try rw [show ((1 : Int)).toNat = 1 from rfl] at hx7_0); (try simp only [Nat.reduceMul, Nat.zero_mul, Nat.zero_add, Nat.reduceAdd] at hx7_0); (try rw [show ((1 : Int)).toNat = 1 from rfl] at hf7_0); (try simp only [Nat.reduceMul, Nat.zero_mul, Nat.zero_add, Nat.reduceAdd] at hf7_0); replace p7 := eq_true p7; replace q7 := eq_true q7; obtain ⟨hy12_, hz12_⟩ := Kd.R_celln 0 HO103.out (1 : Int) (by omega) (zde zq16); (try simp only [Int.reduceToNat, Int.toNat_zero, Int.toNat_ofNat, Nat.reduceMul, Nat.zero_mul, Nat.zero_add] at hy12_ hz12_); (try rw [show ((1 : Int)).toNat = 1 from rfl] at hy12_); (try rw [show ((1 : Int)).toNat = 1 from rfl] at hz12_); have HP12 := Kd.R_putg HO103.out (1 : Int) a1) | ((with_reducible refine zgs 3 12 ?_); refine zse (w11.setCell ⟨go5, (1 : Int).toNat, none⟩ (.int .i64 a1)) ?_; intro w13 hw; have hg : w11.grownBy w13 (some go5) := (by rw [hw]; exact HP12.2); have hp_ : Kd.R (Kd.int .i64) 3 w13 w.heap.size (fun _ => True) (.slice (some ⟨go5, 0, none⟩) y101.length co5) y105 := (by rw [hw, Ny105.out]; exact HP12.1); clear HP12; replace HO103 := zA (hp_); replace HB := zA ((zq54 GB5 : Below w.heap.size w w13)); clear hg hw hp_))
 go_ret
 exact ⟨_, zq5, zq3 HO103, zq2⟩
end Go.Proofs.Ytnaafcleafbejaa.Q
end
section
namespace Go.Proofs.Ytnaafcleafbejaa.Q
open Go.RowKit Go.Proofs.YtnaafcleafbejaaW.PrintWords Go.Proofs.YtnaafcleafbejaaW.PrintLast Go.Proofs.YtnaafcleafbejaaW.PrintMore
set_option maxHeartbeats 8000000
set_option maxRecDepth 100000
attribute [local go_sem] max2_int min2_int max_two min_two max_three min_three max_four min_four
set_option linter.unusedVariables false
set_option linter.unusedSimpArgs false
mutual
def spec_exValues.l0 : Nat → Int → Int → List Int → List (S60) → Int → Int → Option (List Int)
 | 0, _, _, _, _, _, _ => none
 | k + 1, x1, x2, x7, x10, x11, x12 => if x12 < x11 then (if 0 ≤ x12 then (if x12 < (x10.length : Int) then (if ((rd_T60 x10 x12).f0).toList = ([99, 111, 110, 115, 116] : List UInt8) then (if x7.length < 17592186044416 then (spec_exValues.l0 k x1 x2 (x7 ++ [(rd_T60 x10 x12).f3]) x10 x11 (wrap64 (x12 + 1))) else (none)) else (if ((rd_T60 x10 x12).f0).toList = ([105, 110] : List UInt8) then (spec_exValues.j1 k x1 x2 x7 x10 x11 x12 (((rd_T60 x10 x12).f3) == 0) ((rd_T60 x10 x12).f0) ((rd_T60 x10 x12).f1) ((rd_T60 x10 x12).f2) ((rd_T60 x10 x12).f3)) else (spec_exValues.j1 k x1 x2 x7 x10 x11 x12 false ((rd_T60 x10 x12).f0) ((rd_T60 x10 x12).f1) ((rd_T60 x10 x12).f2) ((rd_T60 x10 x12).f3)))) else (none)) else (none)) else (some x7)
def spec_exValues.j1 : Nat → Int → Int → List Int → List (S60) → Int → Int → Bool → ByteArray → Int → Int → Int → Option (List Int)
 | 0, _, _, _, _, _, _, _, _, _, _, _ => none
 | k + 1, x1, x2, x7, x10, x11, x12, x41, x103000, x103001, x103002, x103003 => if x41 = true then (if x7.length < 17592186044416 then (spec_exValues.l0 k x1 x2 (x7 ++ [x1]) x10 x11 (wrap64 (x12 + 1))) else (none)) else (if x103000.toList = ([105, 110] : List UInt8) then (if x7.length < 17592186044416 then (spec_exValues.l0 k x1 x2 (x7 ++ [x2]) x10 x11 (wrap64 (x12 + 1))) else (none)) else ((spec_exOne.f x103000).bind fun t112 => (if t112 = true then (if 0 ≤ x103001 then (if x103001 < (x7.length : Int) then ((spec_exApply.f x103000 (rd x7 x103001) 0).bind fun t114 => (if x7.length < 17592186044416 then (spec_exValues.l0 k x1 x2 (x7 ++ [t114]) x10 x11 (wrap64 (x12 + 1))) else (none))) else (none)) else (none)) else (if 0 ≤ x103001 then (if x103001 < (x7.length : Int) then (if 0 ≤ x103002 then (if x103002 < (x7.length : Int) then ((spec_exApply.f x103000 (rd x7 x103001) (rd x7 x103002)).bind fun t120 => (if x7.length < 17592186044416 then (spec_exValues.l0 k x1 x2 (x7 ++ [t120]) x10 x11 (wrap64 (x12 + 1))) else (none))) else (none)) else (none)) else (none)) else (none)))))
end
def spec_exValues.f (k : Nat) (l0 : List (S60)) (a1 : Int) (a2 : Int) : Option (List Int) := spec_exValues.l0 k a1 a2 ([] : List Int) l0 (l0.length : Int) 0
theorem spec_exValues.mono_l : ∀ k, (∀ y0 y1 y2 y3 y4 y5, LeO (spec_exValues.l0 k y0 y1 y2 y3 y4 y5) (spec_exValues.l0 (k + 1) y0 y1 y2 y3 y4 y5)) ∧ (∀ y0 y1 y2 y3 y4 y5 y6 y7 y8 y9 y10, LeO (spec_exValues.j1 k y0 y1 y2 y3 y4 y5 y6 y7 y8 y9 y10) (spec_exValues.j1 (k + 1) y0 y1 y2 y3 y4 y5 y6 y7 y8 y9 y10))
 | 0 => ⟨fun _ _ _ _ _ _ r h => by simp [spec_exValues.l0] at h, fun _ _ _ _ _ _ _ _ _ _ _ r h => by simp [spec_exValues.j1] at h⟩
 | k + 1 => by
   obtain ⟨ih0, ih1⟩ := spec_exValues.mono_l k
   refine ⟨?_, ?_⟩
   · intro y0 y1 y2 y3 y4 y5
     unfold spec_exValues.l0
     exact zm2 ih0 ih1
   · intro y0 y1 y2 y3 y4 y5 y6 y7 y8 y9 y10
     unfold spec_exValues.j1
     exact zm2 ih0 ih1
theorem spec_exValues.mono : ∀ a0 a1 a2 k, LeO (spec_exValues.f k a0 a1 a2) (spec_exValues.f (k + 1) a0 a1 a2) := by
 intro a0 a1 a2 k
 obtain ⟨ih0, ih1⟩ := spec_exValues.mono_l k
 unfold spec_exValues.f
 exact zm2 ih0 ih1
def spec_exValues.T5 : Bool × List (List Nat × List Nat) := (true, [([], []), ([], []), ([1], [1]), ([], []), ([], []), ([4], [4]), ([3, 5], [3, 5]), ([6], [6]), ([], []), ([], []), ([9], [9]), ([8, 10], [8, 10]), ([11], [11]), ([2, 7, 12], [2, 7, 12]), ([13], [13]), ([0, 14, 13], [0, 14]), ([15, 15, 0, 1, 2, 3, 4, 5, 6, 7, 8, 9, 10, 11, 12, 13, 14, 15], [0, 3, 8, 15])])
def spec_exValues.B5 : List Nat := [0, 0, 2, 0, 0, 16, 56, 120, 0, 0, 512, 1792, 3840, 8190, 16382, 32767, 65535]
theorem spec_exValues.tab5 : rtab .any (opsOf Try.f102 5) = spec_exValues.T5 := by kernel_rfl
theorem spec_exValues.bits5 : waitsOk spec_exValues.T5.2 spec_exValues.B5 = true := by kernel_rfl
def spec_exValues.T13 : Bool × List (List Nat × List Nat) := (true, [([], []), ([], []), ([1], [1]), ([], []), ([], []), ([4], [4]), ([3, 5], [3, 5]), ([6], [6]), ([2, 7], [2, 7]), ([8], [8]), ([0, 9, 8], [0, 9]), ([10, 10, 0, 1, 2, 3, 4, 5, 6, 7, 8, 9, 10], [0, 3, 10])])
def spec_exValues.B13 : List Nat := [0, 0, 2, 0, 0, 16, 56, 120, 254, 510, 1023, 2047]
theorem spec_exValues.tab13 : rtab .any (opsOf Try.f102 13) = spec_exValues.T13 := by kernel_rfl
theorem spec_exValues.bits13 : waitsOk spec_exValues.T13.2 spec_exValues.B13 = true := by kernel_rfl
theorem spec_exValues.calls (k : Nat) (A0 : Option Addr) (c0 : Nat) (l0 : List (S60)) (a1 : Int) (a2 : Int) (r : List Int) (w : World) (hr0 : Kd.C k60 w A0 l0.length l0) (hc0 : l0.length ≤ c0) (h : spec_exValues.f k l0 a1 a2 = some r) :
   Calls Try.prog 102 #[.slice A0 l0.length c0, .int .i64 a1, .int .i64 a2] w fun e w' => ∃ v0_ : Value, e = .returned (v0_) ∧ Kd.R (Kd.int .i64) 3 w' w.heap.size (fun _ => True) v0_ r ∧ Below w.heap.size w w' := by
 have hu60 := Try.underlying60
 have HR0 := zA hr0
 have HC0 := zA hc0
 clear hr0 hc0
 have HB := zA (Below.refl w.heap.size w)
 have H : (spec_exValues.l0 k a1 a2 ([] : List Int) l0 (l0.length : Int) 0) = some r := h
 clear h
 have H' := zA H
 clear H
 go_enter Try.func102, Try.ntmps102
 go_wp2
 go_loopg [7, 12] k (fun kq v7 v12 w' => ∃ (x7_1 : List Int) (x12_1 : Int), v12 = .int .i64 x12_1 ∧ Aside0 (spec_exValues.l0 kq a1 a2 x7_1 l0 (l0.length : Int) x12_1 = some r) ∧ Aside0 (kq ≤ k) ∧ Aside0 (Kd.R (Kd.int .i64) 3 w' w.heap.size (fun _ => True) v7 x7_1) ∧ Aside0 (Below w.heap.size w w'))
 case atStart => exact ⟨(([] : List Int)), (0), zq7, H', ⟨zlr _⟩, ⟨zq53⟩, ⟨zq2⟩⟩
 clear H'
 obtain ⟨x7_1, x12_1, rfl, HA, HK1, HO_7, HB⟩ := hrel
 cases gk with
 | zero => exact absurd HA.out (by simp [spec_exValues.l0])
 | succ k1 =>
 have H := HA.out
 clear HA
 simp only [spec_exValues.l0] at H
 revert H
 refine zit (fun c4 H => ?_) fun c4 H => ?_
 rotate_left
 · obtain rfl := zsi H
   go_wp2
   go_ret
   exact ⟨_, zq5, zq3 HO_7, zq2⟩
 revert H
 refine zin fun c5 H => ?_
 revert H
 refine zin fun c6 H => ?_
 by_cases c7 : ((rd_T60 l0 x12_1).f0).toList = ([99, 111, 110, 115, 116] : List UInt8)
 · rw [if_pos c7] at H
   obtain ⟨c7b0, c7b1⟩ := zbe c7
   clear c7
   by_cases c8 : x7_1.length < 17592186044416
   rotate_left
   · rw [if_neg c8] at H
     exact absurd H (by simp)
   rw [if_pos c8] at H
   have LMc8 := zA c8
   clear c8
   obtain ⟨y103, hy103⟩ : ∃ y_ : List Int, y_ = (x7_1 ++ [(rd_T60 l0 x12_1).f3]) := ⟨_, rfl⟩
   replace H : (spec_exValues.l0 k1 a1 a2 y103 l0 (l0.length : Int) (wrap64 (x12_1 + 1))) = some r := by first | (rw [hy103]; with_reducible exact H) | (have H2_ := (Option.bind_some _ _).symm.trans H; rw [hy103]; with_reducible exact H2_) | (have H2_ := (Option.bind_some _ _).symm.trans H; with_reducible exact H2_) | with_reducible exact H | (rw [hy103]; exact H) | exact H
   have Ny103 := zA hy103
   clear hy103
   have H' := zA H
   clear H
   obtain ⟨p101, q101⟩ := zpq x12_1 l0.length
   obtain ⟨ad101, e101, hx101_0, hx101_1, hx101_2, hx101_3⟩ := at_T60 HR0.out x12_1 (zoe p101) (zoe q101)
   cases e101
   replace hx101_0 := zkep HB.out hx101_0
   replace hx101_1 := zkep HB.out hx101_1
   replace hx101_2 := zkep HB.out hx101_2
   replace hx101_3 := zkep HB.out hx101_3
   go_wp2_with (first | ((with_reducible refine zgd 9 ?_); refine zbx #[.string (⟨#[]⟩ : ByteArray), .int .i64 0, .int .i64 0, .int .i64 0] 60 ?_; intro gb102 hg w9 hbox hb; have zs := zpair zq2 hb; replace HO_7 := zA (zRb (zq3 HO_7) hb); replace HB := zA (zs.1); have BK102 := zA (hbox); have GW102 := zA (zge hg zs.2); have GE102 := GW102; clear zs hb hbox hg; obtain ⟨hcz10_0, hcz10_1, hcz10_2, hcz10_3, hfz10_0, hfz10_1, hfz10_2, hfz10_3⟩ := zd4 BK102) | ((with_reducible refine gate_builtin (b := .append) (xs := #[.tmp 36, .tmp 39]) rfl ?_); at_builtin; refine Kd.R_append (Kd.int .i64) (w0 := w) w.heap.size rfl (.tmp 36) (.tmp 39) 24 3 (.int .i64 0) 8 rfl Try.underlying24 info3 rfl (by decide) (by omega) u7 x7_1 ((rd_T60 l0 x12_1).f3) [.int .i64 ((rd_T60 l0 x12_1).f3)] (fun _ => True) (fun _ => False) rfl (by first | (go_simp; done) | (go_simp; rfl)) ?aP (fun _ hk => hk.elim) ?aF ?aO ?aB ?aS ?aL ?_; (case aP => exact rfl); (case aB => exact (zq1 GE102)); (case aF => exact (fun _ _ => trivial)); (case aO => exact (zq29 HO_7 BK102)); (case aS => exact (below_size (zq1 GE102))); (case aL => have := LMc8.out; omega); intro v104 w11 ho hb hg hat; rw [← Ny103.out] at ho; replace BK102 := zA (blk_grown (g := gb102) (o := .cells #[.string ((rd_T60 l0 x12_1).f0), .int .i64 ((rd_T60 l0 x12_1).f1), .int .i64 ((rd_T60 l0 x12_1).f2), .int .i64 ((rd_T60 l0 x12_1).f3)] 60 (0, 0)) (zq21 BK102) hg (Kd.R_ne HO_7.out BK102.out (by decide))); replace HB := zA (hb); have HO105 := zA (ho); clear HO_7; clear ho hb hg hat))
   go_roundg k1
   case measure => have := HK1.out; omega
   case rel => exact ⟨(y103), (wrap64 (x12_1 + 1)), zq7, H', ⟨zq37 HK1⟩, ⟨zq3 HO105⟩, ⟨zq1 GE102⟩⟩
 rw [if_neg c7] at H
 obtain ⟨c7b0, c7b1⟩ := zbq c7
 have HC12 := zA H
 clear H
 obtain ⟨p101, q101⟩ := zpq x12_1 l0.length
 obtain ⟨ad101, e101, hx101_0, hx101_1, hx101_2, hx101_3⟩ := at_T60 HR0.out x12_1 (zoe p101) (zoe q101)
 cases e101
 replace hx101_0 := zkep HB.out hx101_0
 replace hx101_1 := zkep HB.out hx101_1
 replace hx101_2 := zkep HB.out hx101_2
 replace hx101_3 := zkep HB.out hx101_3
 go_upto_region 8 with (first | ((with_reducible refine zgd 9 ?_); refine zbx #[.string (⟨#[]⟩ : ByteArray), .int .i64 0, .int .i64 0, .int .i64 0] 60 ?_; intro gb102 hg w13 hbox hb; have zs := zpair zq2 hb; replace HO_7 := zA (zRb (zq3 HO_7) hb); replace HB := zA (zs.1); have BK102 := zA (hbox); have GW102 := zA (zge hg zs.2); have GE102 := GW102; clear zs hb hbox hg; obtain ⟨hcz14_0, hcz14_1, hcz14_2, hcz14_3, hfz14_0, hfz14_1, hfz14_2, hfz14_3⟩ := zd4 BK102))
 (try simp only [Act.put, List.setIfInBounds_toArray, List.set_cons_zero, List.set_cons_succ])
 go_cut [41] (fun v41 wc => ∃ (kq : Nat) (x41_11 : Bool), v41 = .bool x41_11 ∧ Aside0 (spec_exValues.j1 kq a1 a2 x7_1 l0 (l0.length : Int) x12_1 x41_11 ((rd_T60 l0 x12_1).f0) ((rd_T60 l0 x12_1).f1) ((rd_T60 l0 x12_1).f2) ((rd_T60 l0 x12_1).f3) = some r) ∧ Aside0 (kq ≤ k1) ∧ Aside0 (Kd.R (Kd.int .i64) 3 wc w.heap.size (fun _ => True) u7 x7_1) ∧ Aside0 (wc.heap[gb102]? = some (.cells #[.string ((rd_T60 l0 x12_1).f0), .int .i64 ((rd_T60 l0 x12_1).f1), .int .i64 ((rd_T60 l0 x12_1).f2), .int .i64 ((rd_T60 l0 x12_1).f3)] 60 (0, 0))) ∧ Aside0 (Below w.heap.size w wc))
 case first =>
   have H := HC12.out
   clear HC12
   by_cases c15 : ((rd_T60 l0 x12_1).f0).toList = ([105, 110] : List UInt8)
   rotate_left
   · rw [if_neg c15] at H
     obtain ⟨c15b0, c15b1⟩ := zbq c15
     (first | rw [c15b0] | (simp only [i64_w, i32_w]; rw [c15b0]) | skip)
     have H' := zA H
     clear H
     obtain ⟨hcz17_0, hcz17_1, hcz17_2, hcz17_3⟩ := zc4 w13 (.string (⟨#[]⟩ : ByteArray)) (.int .i64 0) (.int .i64 0) (.int .i64 0) BK102.out
     obtain ⟨hfz17_0, hfz17_1, hfz17_2, hfz17_3⟩ := zf4 BK102.out
     go_wp2
     go_meet
     case rel => exact ⟨_, (false), zq7, H', ⟨zq40 HK1⟩, ⟨zq29 HO_7 BK102⟩, ⟨zq21 BK102⟩, ⟨zq1 GE102⟩⟩
   rw [if_pos c15] at H
   obtain ⟨c15b0, c15b1⟩ := zbe c15
   clear c15
   (first | rw [c15b0] | (simp only [i64_w, i32_w]; rw [c15b0]) | skip)
   have H' := zA H
   clear H
   obtain ⟨hcz16_0, hcz16_1, hcz16_2, hcz16_3⟩ := zc4 w13 (.string (⟨#[]⟩ : ByteArray)) (.int .i64 0) (.int .i64 0) (.int .i64 0) BK102.out
   obtain ⟨hfz16_0, hfz16_1, hfz16_2, hfz16_3⟩ := zf4 BK102.out
   go_wp2
   go_meet
   case rel => exact ⟨_, ((((rd_T60 l0 x12_1).f3) == 0)), zq7, H', ⟨zq40 HK1⟩, ⟨zq29 HO_7 BK102⟩, ⟨zq21 BK102⟩, ⟨zq1 GE102⟩⟩
 clear HC12
 try clear c4
 try clear c5
 try clear c6
 try clear c7
 try clear c7b0
 try clear c7b1
 try clear c8
 try clear c15
 try clear c15b0
 try clear c15b1
 try clear hcz10_0
 try clear hcz10_1
 try clear hcz10_2
 try clear hcz10_3
 try clear hcz14_0
 try clear hcz14_1
 try clear hcz14_2
 try clear hcz14_3
 try clear hcz16_0
 try clear hcz16_1
 try clear hcz16_2
 try clear hcz16_3
 try clear hcz17_0
 try clear hcz17_1
 try clear hcz17_2
 try clear hcz17_3
 try clear hfz10_0
 try clear hfz10_1
 try clear hfz10_2
 try clear hfz10_3
 try clear hfz14_0
 try clear hfz14_1
 try clear hfz14_2
 try clear hfz14_3
 try clear hfz16_0
 try clear hfz16_1
 try clear hfz16_2
 try clear hfz16_3
 try clear hfz17_0
 try clear hfz17_1
 try clear hfz17_2
 try clear hfz17_3
 try clear hx101_0
 try clear hx101_1
 try clear hx101_2
 try clear hx101_3
 try clear p101
 try clear q101
 obtain ⟨kq, x41_11, rfl, HA, HJ11, HO_7, BK102, HB⟩ := hcut
 cases kq with
 | zero => exact absurd HA.out (by simp [spec_exValues.j1])
 | succ kj11 =>
 have H := HA.out
 clear HA
 simp only [spec_exValues.j1] at H
 by_cases c18 : x41_11 = true
 · subst c18
   replace H := zih H
   by_cases c19 : x7_1.length < 17592186044416
   rotate_left
   · rw [if_neg c19] at H
     exact absurd H (by simp)
   rw [if_pos c19] at H
   have LMc19 := zA c19
   clear c19
   obtain ⟨y106, hy106⟩ : ∃ y_ : List Int, y_ = (x7_1 ++ [a1]) := ⟨_, rfl⟩
   replace H : (spec_exValues.l0 kj11 a1 a2 y106 l0 (l0.length : Int) (wrap64 (x12_1 + 1))) = some r := by first | (rw [hy106]; with_reducible exact H) | (have H2_ := (Option.bind_some _ _).symm.trans H; rw [hy106]; with_reducible exact H2_) | (have H2_ := (Option.bind_some _ _).symm.trans H; with_reducible exact H2_) | with_reducible exact H | (rw [hy106]; exact H) | exact H
   have Ny106 := zA hy106
   clear hy106
   have H' := zA H
   clear H
   go_wp2_with (first | ((with_reducible refine gate_builtin (b := .append) (xs := #[.tmp 50, .tmp 52]) rfl ?_); at_builtin; refine Kd.R_append (Kd.int .i64) (w0 := w) w.heap.size rfl (.tmp 50) (.tmp 52) 24 3 (.int .i64 0) 8 rfl Try.underlying24 info3 rfl (by decide) (by omega) u7 x7_1 a1 [.int .i64 a1] (fun _ => True) (fun _ => False) rfl rfl ?aP (fun _ hk => hk.elim) ?aF ?aO ?aB ?aS ?aL ?_; (case aP => exact rfl); (case aB => exact (zq1 GE102)); (case aF => exact (fun _ _ => trivial)); (case aO => exact (zq3 HO_7)); (case aS => exact (below_size (zq1 GE102))); (case aL => have := LMc19.out; omega); intro v107 w20 ho hb hg hat; rw [← Ny106.out] at ho; replace BK102 := zA (blk_grown (g := gb102) (o := .cells #[.string ((rd_T60 l0 x12_1).f0), .int .i64 ((rd_T60 l0 x12_1).f1), .int .i64 ((rd_T60 l0 x12_1).f2), .int .i64 ((rd_T60 l0 x12_1).f3)] 60 (0, 0)) (zq6 BK102) hg (Kd.R_ne HO_7.out BK102.out (by decide))); replace HB := zA (hb); have HO108 := zA (ho); clear HO_7; clear ho hb hg hat))
   go_roundg kj11
   case measure => have := HK1.out; have := HJ11.out; omega
   case rel => exact ⟨(y106), (wrap64 (x12_1 + 1)), zq7, H', ⟨zq43 HK1 HJ11⟩, ⟨zq3 HO108⟩, ⟨zq1 GE102⟩⟩
 replace c18 := zbf c18
 subst c18
 replace H := zif H
 by_cases c21 : ((rd_T60 l0 x12_1).f0).toList = ([105, 110] : List UInt8)
 · rw [if_pos c21] at H
   obtain ⟨c21b0, c21b1⟩ := zbe c21
   clear c21
   by_cases c22 : x7_1.length < 17592186044416
   rotate_left
   · rw [if_neg c22] at H
     exact absurd H (by simp)
   rw [if_pos c22] at H
   have LMc22 := zA c22
   clear c22
   obtain ⟨y109, hy109⟩ : ∃ y_ : List Int, y_ = (x7_1 ++ [a2]) := ⟨_, rfl⟩
   replace H : (spec_exValues.l0 kj11 a1 a2 y109 l0 (l0.length : Int) (wrap64 (x12_1 + 1))) = some r := by first | (rw [hy109]; with_reducible exact H) | (have H2_ := (Option.bind_some _ _).symm.trans H; rw [hy109]; with_reducible exact H2_) | (have H2_ := (Option.bind_some _ _).symm.trans H; with_reducible exact H2_) | with_reducible exact H | (rw [hy109]; exact H) | exact H
   have Ny109 := zA hy109
   clear hy109
   have H' := zA H
   clear H
   obtain ⟨hcz23_0, hcz23_1, hcz23_2, hcz23_3⟩ := zc4 wc (.string ((rd_T60 l0 x12_1).f0)) (.int .i64 ((rd_T60 l0 x12_1).f1)) (.int .i64 ((rd_T60 l0 x12_1).f2)) (.int .i64 ((rd_T60 l0 x12_1).f3)) BK102.out
   obtain ⟨hfz23_0, hfz23_1, hfz23_2, hfz23_3⟩ := zf4 BK102.out
   go_wp2_with (first | ((with_reducible refine gate_builtin (b := .append) (xs := #[.tmp 58, .tmp 60]) rfl ?_); at_builtin; refine Kd.R_append (Kd.int .i64) (w0 := w) w.heap.size rfl (.tmp 58) (.tmp 60) 24 3 (.int .i64 0) 8 rfl Try.underlying24 info3 rfl (by decide) (by omega) u7 x7_1 a2 [.int .i64 a2] (fun _ => True) (fun _ => False) rfl rfl ?aP (fun _ hk => hk.elim) ?aF ?aO ?aB ?aS ?aL ?_; (case aP => exact rfl); (case aB => exact (zq1 GE102)); (case aF => exact (fun _ _ => trivial)); (case aO => exact (zq3 HO_7)); (case aS => exact (below_size (zq1 GE102))); (case aL => have := LMc22.out; omega); intro v110 w24 ho hb hg hat; rw [← Ny109.out] at ho; replace BK102 := zA (blk_grown (g := gb102) (o := .cells #[.string ((rd_T60 l0 x12_1).f0), .int .i64 ((rd_T60 l0 x12_1).f1), .int .i64 ((rd_T60 l0 x12_1).f2), .int .i64 ((rd_T60 l0 x12_1).f3)] 60 (0, 0)) (zq6 BK102) hg (Kd.R_ne HO_7.out BK102.out (by decide))); replace HB := zA (hb); have HO111 := zA (ho); clear HO_7; clear ho hb hg hat))
   go_roundg kj11
   case measure => have := HK1.out; have := HJ11.out; omega
   case rel => exact ⟨(y109), (wrap64 (x12_1 + 1)), zq7, H', ⟨zq43 HK1 HJ11⟩, ⟨zq3 HO111⟩, ⟨zq1 GE102⟩⟩
 rw [if_neg c21] at H
 obtain ⟨c21b0, c21b1⟩ := zbq c21
 replace H := zob H
 obtain ⟨t112, A250, H⟩ := H
 replace H : (if t112 = true then (if 0 ≤ ((rd_T60 l0 x12_1).f1) then (if ((rd_T60 l0 x12_1).f1) < (x7_1.length : Int) then ((spec_exApply.f ((rd_T60 l0 x12_1).f0) (rd x7_1 ((rd_T60 l0 x12_1).f1)) 0).bind fun t114 => (if x7_1.length < 17592186044416 then (spec_exValues.l0 kj11 a1 a2 (x7_1 ++ [t114]) l0 (l0.length : Int) (wrap64 (x12_1 + 1))) else (none))) else (none)) else (none)) else (if 0 ≤ ((rd_T60 l0 x12_1).f1) then (if ((rd_T60 l0 x12_1).f1) < (x7_1.length : Int) then (if 0 ≤ ((rd_T60 l0 x12_1).f2) then (if ((rd_T60 l0 x12_1).f2) < (x7_1.length : Int) then ((spec_exApply.f ((rd_T60 l0 x12_1).f0) (rd x7_1 ((rd_T60 l0 x12_1).f1)) (rd x7_1 ((rd_T60 l0 x12_1).f2))).bind fun t120 => (if x7_1.length < 17592186044416 then (spec_exValues.l0 kj11 a1 a2 (x7_1 ++ [t120]) l0 (l0.length : Int) (wrap64 (x12_1 + 1))) else (none))) else (none)) else (none)) else (none)) else (none))) = some r := H
 have A25 := zA A250
 clear A250
 by_cases c26 : t112 = true
 · subst c26
   replace H := zih H
   revert H
   refine zin fun c27 H => ?_
   revert H
   refine zin fun c28 H => ?_
   replace H := zob H
   obtain ⟨t114, A290, H⟩ := H
   replace H : (if x7_1.length < 17592186044416 then (spec_exValues.l0 kj11 a1 a2 (x7_1 ++ [t114]) l0 (l0.length : Int) (wrap64 (x12_1 + 1))) else (none)) = some r := H
   have A29 := zA A290
   clear A290
   by_cases c30 : x7_1.length < 17592186044416
   rotate_left
   · rw [if_neg c30] at H
     exact absurd H (by simp)
   rw [if_pos c30] at H
   have LMc30 := zA c30
   clear c30
   obtain ⟨y115, hy115⟩ : ∃ y_ : List Int, y_ = (x7_1 ++ [t114]) := ⟨_, rfl⟩
   replace H : (spec_exValues.l0 kj11 a1 a2 y115 l0 (l0.length : Int) (wrap64 (x12_1 + 1))) = some r := by first | (rw [hy115]; with_reducible exact H) | (have H2_ := (Option.bind_some _ _).symm.trans H; rw [hy115]; with_reducible exact H2_) | (have H2_ := (Option.bind_some _ _).symm.trans H; with_reducible exact H2_) | with_reducible exact H | (rw [hy115]; exact H) | exact H
   have Ny115 := zA hy115
   clear hy115
   have H' := zA H
   clear H
   obtain ⟨hcz31_0, hcz31_1, hcz31_2, hcz31_3⟩ := zc4 wc (.string ((rd_T60 l0 x12_1).f0)) (.int .i64 ((rd_T60 l0 x12_1).f1)) (.int .i64 ((rd_T60 l0 x12_1).f2)) (.int .i64 ((rd_T60 l0 x12_1).f3)) BK102.out
   obtain ⟨hfz31_0, hfz31_1, hfz31_2, hfz31_3⟩ := zf4 BK102.out
   try go_wp2_with (first | ((with_reducible refine zgc 95 ?_); refine zcl 65 Try.func95 (spec_exOne.calls ((rd_T60 l0 x12_1).f0) true _ A25.out) ?_; rintro e w' ⟨rfl, ⟨nd, rfl⟩⟩; refine ⟨_, rfl, ?_⟩))
   (try (rw [drewN_self wc]; generalize hq_ : World.drewN wc _ = wc; have n0_ : Aside0 (Kd.R (Kd.int .i64) 3 wc w.heap.size (fun _ => True) u7 x7_1) := ⟨by rw [← hq_]; exact (zq3 HO_7)⟩; have n1_ : Aside0 (wc.heap[gb102]? = some (.cells #[.string ((rd_T60 l0 x12_1).f0), .int .i64 ((rd_T60 l0 x12_1).f1), .int .i64 ((rd_T60 l0 x12_1).f2), .int .i64 ((rd_T60 l0 x12_1).f3)] 60 (0, 0))) := ⟨by rw [← hq_]; exact (zq6 BK102)⟩; have n2_ : Aside0 (Below w.heap.size w wc) := ⟨by rw [← hq_]; exact (zq1 GE102)⟩; clear HO_7 BK102 HB hq_; have HO_7 := n0_; have BK102 := n1_; have HB := n2_; clear n0_ n1_ n2_))
   replace HO_7 := zA (zRd HO_7.out)
   replace BK102 := zA (zkd BK102.out)
   replace HB := zA (zbd HB.out)
   obtain ⟨Ao33, co33, eo33⟩ := Kd.R_slice HO_7.out
   (first | subst eo33 | (injection eo33 with f1_ f2_ f3_; have f4_ := f1_.symm; have f5_ := f3_.symm; clear f1_ f2_ f3_; subst f4_; subst f5_))
   have p113 : 0 ≤ (((rd_T60 l0 x12_1).f1) : Int) := zde zq16
   have q113 : ((rd_T60 l0 x12_1).f1) < (x7_1.length : Int) := zde zq16
   obtain ⟨ad113, e113, hx113_0⟩ := Kd.at_int (zRr HO_7.out).2.2 ((rd_T60 l0 x12_1).f1) p113 q113
   cases e113
   replace p113 := eq_true p113
   replace q113 := eq_true q113
   refine start_ (n := 12) (S := fun w' => w'.cell? ⟨gb102, 0, none⟩ = some (.string ((rd_T60 l0 x12_1).f0)) ∧ w'.cell? ⟨gb102, 1, none⟩ = some (.int .i64 ((rd_T60 l0 x12_1).f1)) ∧ w'.cell? ⟨gb102, 2, none⟩ = some (.int .i64 ((rd_T60 l0 x12_1).f2)) ∧ w'.cell? ⟨gb102, 3, none⟩ = some (.int .i64 ((rd_T60 l0 x12_1).f3)) ∧ w'.cell? (ad113.add (((rd_T60 l0 x12_1).f1)).toNat) = some (.int .i64 (rd x7_1 ((rd_T60 l0 x12_1).f1)))) (ds := [9, 10]) #[false, false, false, false, false, false, false, false, false, false, false, false] zq22 rfl rfl ⟨(blk_cell BK102.out 0).trans rfl, (blk_cell BK102.out 1).trans rfl, (blk_cell BK102.out 2).trans rfl, (blk_cell BK102.out 3).trans rfl, hx113_0⟩ (fun hHeld => ?_); refine with_tabW spec_exValues.tab13 spec_exValues.bits13 (fun HT_ HW_ => ?_)
   generalize wc.drew = w32 at HO_7 BK102 HB hx113_0 hHeld ⊢
   refine zpu 0 66 HT_ ?_
   refine zpu 1 67 HT_ ?_
   refine zpu 3 69 HT_ ?_
   refine zpu 4 70 HT_ ?_
   refine ztu 2 68 HT_ HW_ hHeld ?_
   refine ztu 5 71 HT_ HW_ hHeld ?_
   refine zpu 6 72 HT_ ?_
   refine ztu 7 73 HT_ HW_ hHeld ?_
   refine one_ (i := 8) (N := some 74) #[true, true, true, true, true, true, true, true, true, false, false, false] rfl rfl (one_of HT_.out zq22) (by decide) (fun K hK => ?_)
   refine zgo Try.func117 (spec_exApply.calls ((rd_T60 l0 x12_1).f0) (rd x7_1 ((rd_T60 l0 x12_1).f1)) 0 t114 _ A29.out) ?_
   rintro e w' ⟨rfl, ⟨nd, rfl⟩⟩
   refine ⟨_, rfl, ?_⟩
   refine hK.out _ _ ⟨(blk_cell BK102.out 0).trans rfl, (blk_cell BK102.out 1).trans rfl, (blk_cell BK102.out 2).trans rfl, (blk_cell BK102.out 3).trans rfl, hHeld.2.2.2.2⟩ (fun hHeld => ?_)
   clear hK K
   refine znm 74 ?_
   refine last_ (i := 9) (N := some 75) #[true, true, true, true, true, true, true, true, true, true, false, false] rfl rfl (one_of HT_.out zq22) (by decide) (fun K hK => ?_)
   refine value_ (w1 := ?_) (v := ?_) (by rfl) rfl ?_ ?_
   rotate_left 2
   · go_simp
     constructor
     · rfl
     · rfl
   refine hK.out _ _ ?_
   clear hK K
   refine znm 75 ?_
   refine last_ (i := 10) (N := some 76) #[true, true, true, true, true, true, true, true, true, true, true, false] rfl rfl (one_of HT_.out zq22) (by decide) (fun K hK => ?_)
   refine Kd.R_append_step (Kd.int .i64) (w0 := w) w.heap.size (by rfl) (.tmp 66) (.tmp 75) 24 3 (.int .i64 0) 8 rfl Try.underlying24 info3 rfl (by decide) (by omega) (.slice (some ad113) x7_1.length co33) x7_1 t114 [.int .i64 t114] (fun _ => True) (fun _ => False) rfl rfl ?aP (fun _ hk => hk.elim) ?aF ?aO ?aB ?aS ?aL ?_
   (case aP => exact rfl)
   (case aB => exact (zq1 GE102))
   (case aF => exact (fun _ _ => trivial))
   (case aO => exact (zq3 HO_7))
   (case aS => exact (below_size (zq1 GE102)))
   (case aL => have := LMc30.out; omega)
   intro v116 w34 ho hb hg hat
   rw [← Ny115.out] at ho
   replace BK102 := zA (blk_grown (g := gb102) (o := .cells #[.string ((rd_T60 l0 x12_1).f0), .int .i64 ((rd_T60 l0 x12_1).f1), .int .i64 ((rd_T60 l0 x12_1).f2), .int .i64 ((rd_T60 l0 x12_1).f3)] 60 (0, 0)) (zq6 BK102) hg (Kd.R_ne HO_7.out BK102.out (by decide)))
   replace HB := zA (hb)
   have HO117 := zA (ho)
   clear HO_7
   clear ho hb hg hat
   refine hK.out _ _ ?_
   clear hK K
   refine znm 76 ?_
   refine zpu 11 7 HT_ ?_
   refine done_ (done_of HT_.out zq22) ?_
   try go_wp2
   go_roundg kj11
   case measure => have := HK1.out; have := HJ11.out; omega
   case rel => exact ⟨(y115), (wrap64 (x12_1 + 1)), zq7, H', ⟨zq43 HK1 HJ11⟩, ⟨zq3 HO117⟩, ⟨zq1 GE102⟩⟩
 replace c26 := zbf c26
 subst c26
 replace H := zif H
 revert H
 refine zin fun c35 H => ?_
 revert H
 refine zin fun c36 H => ?_
 revert H
 refine zin fun c37 H => ?_
 revert H
 refine zin fun c38 H => ?_
 replace H := zob H
 obtain ⟨t120, A390, H⟩ := H
 replace H : (if x7_1.length < 17592186044416 then (spec_exValues.l0 kj11 a1 a2 (x7_1 ++ [t120]) l0 (l0.length : Int) (wrap64 (x12_1 + 1))) else (none)) = some r := H
 have A39 := zA A390
 clear A390
 by_cases c40 : x7_1.length < 17592186044416
 rotate_left
 · rw [if_neg c40] at H
   exact absurd H (by simp)
 rw [if_pos c40] at H
 have LMc40 := zA c40
 clear c40
 obtain ⟨y121, hy121⟩ : ∃ y_ : List Int, y_ = (x7_1 ++ [t120]) := ⟨_, rfl⟩
 replace H : (spec_exValues.l0 kj11 a1 a2 y121 l0 (l0.length : Int) (wrap64 (x12_1 + 1))) = some r := by first | (rw [hy121]; with_reducible exact H) | (have H2_ := (Option.bind_some _ _).symm.trans H; rw [hy121]; with_reducible exact H2_) | (have H2_ := (Option.bind_some _ _).symm.trans H; with_reducible exact H2_) | with_reducible exact H | (rw [hy121]; exact H) | exact H
 have Ny121 := zA hy121
 clear hy121
 have H' := zA H
 clear H
 obtain ⟨hcz41_0, hcz41_1, hcz41_2, hcz41_3⟩ := zc4 wc (.string ((rd_T60 l0 x12_1).f0)) (.int .i64 ((rd_T60 l0 x12_1).f1)) (.int .i64 ((rd_T60 l0 x12_1).f2)) (.int .i64 ((rd_T60 l0 x12_1).f3)) BK102.out
 obtain ⟨hfz41_0, hfz41_1, hfz41_2, hfz41_3⟩ := zf4 BK102.out
 try go_wp2_with (first | ((with_reducible refine zgc 95 ?_); refine zcl 65 Try.func95 (spec_exOne.calls ((rd_T60 l0 x12_1).f0) false _ A25.out) ?_; rintro e w' ⟨rfl, ⟨nd, rfl⟩⟩; refine ⟨_, rfl, ?_⟩))
 (try (rw [drewN_self wc]; generalize hq_ : World.drewN wc _ = wc; have n0_ : Aside0 (Kd.R (Kd.int .i64) 3 wc w.heap.size (fun _ => True) u7 x7_1) := ⟨by rw [← hq_]; exact (zq3 HO_7)⟩; have n1_ : Aside0 (wc.heap[gb102]? = some (.cells #[.string ((rd_T60 l0 x12_1).f0), .int .i64 ((rd_T60 l0 x12_1).f1), .int .i64 ((rd_T60 l0 x12_1).f2), .int .i64 ((rd_T60 l0 x12_1).f3)] 60 (0, 0))) := ⟨by rw [← hq_]; exact (zq6 BK102)⟩; have n2_ : Aside0 (Below w.heap.size w wc) := ⟨by rw [← hq_]; exact (zq1 GE102)⟩; clear HO_7 BK102 HB hq_; have HO_7 := n0_; have BK102 := n1_; have HB := n2_; clear n0_ n1_ n2_))
 replace HO_7 := zA (zRd HO_7.out)
 replace BK102 := zA (zkd BK102.out)
 replace HB := zA (zbd HB.out)
 obtain ⟨Ao43, co43, eo43⟩ := Kd.R_slice HO_7.out
 (first | subst eo43 | (injection eo43 with f1_ f2_ f3_; have f4_ := f1_.symm; have f5_ := f3_.symm; clear f1_ f2_ f3_; subst f4_; subst f5_))
 have p118 : 0 ≤ (((rd_T60 l0 x12_1).f1) : Int) := zde zq16
 have q118 : ((rd_T60 l0 x12_1).f1) < (x7_1.length : Int) := zde zq16
 obtain ⟨ad118, e118, hx118_0⟩ := Kd.at_int (zRr HO_7.out).2.2 ((rd_T60 l0 x12_1).f1) p118 q118
 cases e118
 replace p118 := eq_true p118
 replace q118 := eq_true q118
 have p119 : 0 ≤ (((rd_T60 l0 x12_1).f2) : Int) := zde zq16
 have q119 : ((rd_T60 l0 x12_1).f2) < (x7_1.length : Int) := zde zq16
 obtain ⟨ad119, e119, hx119_0⟩ := Kd.at_int (zRr HO_7.out).2.2 ((rd_T60 l0 x12_1).f2) p119 q119
 obtain rfl : ad118 = ad119 := (by injection e119)
 replace p119 := eq_true p119
 replace q119 := eq_true q119
 refine start_ (n := 17) (S := fun w' => w'.cell? ⟨gb102, 0, none⟩ = some (.string ((rd_T60 l0 x12_1).f0)) ∧ w'.cell? ⟨gb102, 1, none⟩ = some (.int .i64 ((rd_T60 l0 x12_1).f1)) ∧ w'.cell? ⟨gb102, 2, none⟩ = some (.int .i64 ((rd_T60 l0 x12_1).f2)) ∧ w'.cell? ⟨gb102, 3, none⟩ = some (.int .i64 ((rd_T60 l0 x12_1).f3)) ∧ w'.cell? (ad118.add (((rd_T60 l0 x12_1).f1)).toNat) = some (.int .i64 (rd x7_1 ((rd_T60 l0 x12_1).f1))) ∧ w'.cell? (ad118.add (((rd_T60 l0 x12_1).f2)).toNat) = some (.int .i64 (rd x7_1 ((rd_T60 l0 x12_1).f2)))) (ds := [14, 15]) #[false, false, false, false, false, false, false, false, false, false, false, false, false, false, false, false, false] zq22 rfl rfl ⟨(blk_cell BK102.out 0).trans rfl, (blk_cell BK102.out 1).trans rfl, (blk_cell BK102.out 2).trans rfl, (blk_cell BK102.out 3).trans rfl, hx118_0, hx119_0⟩ (fun hHeld => ?_); refine with_tabW spec_exValues.tab5 spec_exValues.bits5 (fun HT_ HW_ => ?_)
 generalize wc.drew = w42 at HO_7 BK102 HB hx118_0 hx119_0 hHeld ⊢
 refine zpu 0 16 HT_ ?_
 refine zpu 1 17 HT_ ?_
 refine zpu 3 19 HT_ ?_
 refine zpu 4 20 HT_ ?_
 refine zpu 8 24 HT_ ?_
 refine zpu 9 25 HT_ ?_
 refine ztu 2 18 HT_ HW_ hHeld ?_
 refine ztu 5 21 HT_ HW_ hHeld ?_
 refine zpu 6 22 HT_ ?_
 refine ztu 7 23 HT_ HW_ hHeld ?_
 refine ztu 10 26 HT_ HW_ hHeld ?_
 refine zpu 11 27 HT_ ?_
 refine ztu 12 28 HT_ HW_ hHeld ?_
 refine one_ (i := 13) (N := some 29) #[true, true, true, true, true, true, true, true, true, true, true, true, true, true, false, false, false] rfl rfl (one_of HT_.out zq22) (by decide) (fun K hK => ?_)
 refine zgo Try.func117 (spec_exApply.calls ((rd_T60 l0 x12_1).f0) (rd x7_1 ((rd_T60 l0 x12_1).f1)) (rd x7_1 ((rd_T60 l0 x12_1).f2)) t120 _ A39.out) ?_
 rintro e w' ⟨rfl, ⟨nd, rfl⟩⟩
 refine ⟨_, rfl, ?_⟩
 refine hK.out _ _ ⟨(blk_cell BK102.out 0).trans rfl, (blk_cell BK102.out 1).trans rfl, (blk_cell BK102.out 2).trans rfl, (blk_cell BK102.out 3).trans rfl, hHeld.2.2.2.2.1, hHeld.2.2.2.2.2⟩ (fun hHeld => ?_)
 clear hK K
 refine znm 29 ?_
 refine last_ (i := 14) (N := some 30) #[true, true, true, true, true, true, true, true, true, true, true, true, true, true, true, false, false] rfl rfl (one_of HT_.out zq22) (by decide) (fun K hK => ?_)
 refine value_ (w1 := ?_) (v := ?_) (by rfl) rfl ?_ ?_
 rotate_left 2
 · go_simp
   constructor
   · rfl
   · rfl
 refine hK.out _ _ ?_
 clear hK K
 refine znm 30 ?_
 refine last_ (i := 15) (N := some 31) #[true, true, true, true, true, true, true, true, true, true, true, true, true, true, true, true, false] rfl rfl (one_of HT_.out zq22) (by decide) (fun K hK => ?_)
 refine Kd.R_append_step (Kd.int .i64) (w0 := w) w.heap.size (by rfl) (.tmp 16) (.tmp 30) 24 3 (.int .i64 0) 8 rfl Try.underlying24 info3 rfl (by decide) (by omega) (.slice (some ad118) x7_1.length co43) x7_1 t120 [.int .i64 t120] (fun _ => True) (fun _ => False) rfl rfl ?aP (fun _ hk => hk.elim) ?aF ?aO ?aB ?aS ?aL ?_
 (case aP => exact rfl)
 (case aB => exact (zq1 GE102))
 (case aF => exact (fun _ _ => trivial))
 (case aO => exact (zq3 HO_7))
 (case aS => exact (below_size (zq1 GE102)))
 (case aL => have := LMc40.out; omega)
 intro v122 w44 ho hb hg hat
 rw [← Ny121.out] at ho
 replace BK102 := zA (blk_grown (g := gb102) (o := .cells #[.string ((rd_T60 l0 x12_1).f0), .int .i64 ((rd_T60 l0 x12_1).f1), .int .i64 ((rd_T60 l0 x12_1).f2), .int .i64 ((rd_T60 l0 x12_1).f3)] 60 (0, 0)) (zq6 BK102) hg (Kd.R_ne HO_7.out BK102.out (by decide)))
 replace HB := zA (hb)
 have HO123 := zA (ho)
 clear HO_7
 clear ho hb hg hat
 refine hK.out _ _ ?_
 clear hK K
 refine znm 31 ?_
 refine zpu 16 7 HT_ ?_
 refine done_ (done_of HT_.out zq22) ?_
 try go_wp2
 go_roundg kj11
 case measure => have := HK1.out; have := HJ11.out; omega
 case rel => exact ⟨(y121), (wrap64 (x12_1 + 1)), zq7, H', ⟨zq43 HK1 HJ11⟩, ⟨zq3 HO123⟩, ⟨zq1 GE102⟩⟩
end Go.Proofs.Ytnaafcleafbejaa.Q
end
section
namespace Go.Proofs.Ytnaafcleafbejaa.Q
open Go.RowKit Go.Proofs.YtnaafcleafbejaaW.PrintWords Go.Proofs.YtnaafcleafbejaaW.PrintLast Go.Proofs.YtnaafcleafbejaaW.PrintMore
set_option maxHeartbeats 8000000
set_option maxRecDepth 100000
attribute [local go_sem] max2_int min2_int max_two min_two max_three min_three max_four min_four
set_option linter.unusedVariables false
set_option linter.unusedSimpArgs false
def spec_exAt.f (k : Nat) (l0 : List (S60)) (a1 : Int) (a2 : Int) : Option (Int) := (spec_exValues.f k l0 a1 a2).bind fun t101 => (if 0 ≤ (wrap64 ((l0.length : Int) - 1)) then (if (wrap64 ((l0.length : Int) - 1)) < (t101.length : Int) then (some (rd t101 (wrap64 ((l0.length : Int) - 1)))) else (none)) else (none))
theorem spec_exAt.mono : ∀ a0 a1 a2 k, LeO (spec_exAt.f k a0 a1 a2) (spec_exAt.f (k + 1) a0 a1 a2) := by
 intro a0 a1 a2 k
 unfold spec_exAt.f
 exact zm1 spec_exValues.mono
theorem spec_exAt.calls (k : Nat) (A0 : Option Addr) (c0 : Nat) (l0 : List (S60)) (a1 : Int) (a2 : Int) (r : Int) (w : World) (hr0 : Kd.C k60 w A0 l0.length l0) (hc0 : l0.length ≤ c0) (h : spec_exAt.f k l0 a1 a2 = some r) :
   Calls Try.prog 69 #[.slice A0 l0.length c0, .int .i64 a1, .int .i64 a2] w fun e w' => e = .returned (.int .i64 r) ∧ Below w.heap.size w w' := by
 have HR0 := zA hr0
 have HC0 := zA hc0
 clear hr0 hc0
 have HB := zA (Below.refl w.heap.size w)
 have H : ((spec_exValues.f k l0 a1 a2).bind fun t101 => (if 0 ≤ (wrap64 ((l0.length : Int) - 1)) then (if (wrap64 ((l0.length : Int) - 1)) < (t101.length : Int) then (some (rd t101 (wrap64 ((l0.length : Int) - 1)))) else (none)) else (none))) = some r := h
 clear h
 replace H := zob H
 obtain ⟨t101, A40, H⟩ := H
 replace H : (if 0 ≤ (wrap64 ((l0.length : Int) - 1)) then (if (wrap64 ((l0.length : Int) - 1)) < (t101.length : Int) then (some (rd t101 (wrap64 ((l0.length : Int) - 1)))) else (none)) else (none)) = some r := H
 have A4 := zA A40
 clear A40
 obtain ⟨ji5, hji5⟩ : ∃ j_ : Int, (wrap64 ((l0.length : Int) - 1)) = j_ := ⟨_, rfl⟩
 replace H : (if 0 ≤ (ji5) then (if (ji5) < (t101.length : Int) then (some (rd t101 (ji5))) else (none)) else (none)) = some r := by first | (rw [hji5] at H; exact H) | (simp only [hji5] at H ⊢; exact H)
 (try rw [hji5] at A4)
 have hji5w : (IntKind.i64.wrap ((l0.length : Int) - 1)) = ji5 := (i64_w _).trans hji5
 revert H
 refine zin fun c6 H => ?_
 revert H
 refine zin fun c7 H => ?_
 obtain rfl := zsi H
 go_enter Try.func69, Try.ntmps69
 go_wp2_with (first | ((with_reducible refine zgc 102 ?_); refine zca 10 Try.func102 #[.slice A0 l0.length c0, .int .i64 a1, .int .i64 a2] (spec_exValues.calls k _ _ l0 a1 a2 t101 _ (zq35 HR0) HC0.out A4.out) ?_; rintro e w8 ⟨v102, rfl, ho0, hb⟩; refine ⟨_, rfl, ?_⟩; have HO103 := zA (Kd.R_lower ho0 (below_size zq2)); replace HB := zA (below_step zq2 hb); (try clear hb); (try clear ho0); obtain ⟨Ao9, co9, eo9⟩ := Kd.R_slice HO103.out; subst eo9; have p104 : 0 ≤ ((ji5) : Int) := zde zq16; have q104 : (ji5) < (t101.length : Int) := zde zq16; obtain ⟨ad104, e104, hx104_0⟩ := Kd.at_int (zRr HO103.out).2.2 (ji5) p104 q104; cases e104; replace p104 := eq_true p104; replace q104 := eq_true q104))
 go_ret
 exact ⟨zq61, zq2⟩
end Go.Proofs.Ytnaafcleafbejaa.Q
end
section
namespace Go.Proofs.Ytnaafcleafbejaa.Q
open Go.RowKit Go.Proofs.YtnaafcleafbejaaW.PrintWords Go.Proofs.YtnaafcleafbejaaW.PrintLast Go.Proofs.YtnaafcleafbejaaW.PrintMore
set_option maxHeartbeats 8000000
set_option maxRecDepth 100000
attribute [local go_sem] max2_int min2_int max_two min_two max_three min_three max_four min_four
set_option linter.unusedVariables false
set_option linter.unusedSimpArgs false
mutual
def spec_seDifference.l0 : Nat → List (S60) → List (S64) → Int → Int → Option (Int × Int × Bool)
 | 0, _, _, _, _ => none
 | k + 1, x0, x1, x2, x9 => if x9 ≤ 63 then (spec_seDifference.l1 k x0 x1 x2 x9 0) else (some (0, 0, false))
def spec_seDifference.l1 : Nat → List (S60) → List (S64) → Int → Int → Int → Option (Int × Int × Bool)
 | 0, _, _, _, _, _ => none
 | k + 1, x0, x1, x2, x9, x10 => if x10 ≤ 63 then ((spec_cdStart.f x9 x10).bind fun t101 => ((spec_cdRun.f k x1 t101).bind fun t104 => (if 0 ≤ x2 then (if x2 < (t104.length : Int) then ((spec_exAt.f k x0 x9 x10).bind fun t108 => (if (rd t104 x2) = t108 then (spec_seDifference.l1 k x0 x1 x2 x9 (wrap64 (x10 + 1))) else (some (x9, x10, true)))) else (none)) else (none)))) else (spec_seDifference.l0 k x0 x1 x2 (wrap64 (x9 + 1)))
end
def spec_seDifference.f (k : Nat) (l0 : List (S60)) (l1 : List (S64)) (a2 : Int) : Option (Int × Int × Bool) := spec_seDifference.l0 k l0 l1 a2 0
theorem spec_seDifference.mono_l : ∀ k, (∀ y0 y1 y2 y3, LeO (spec_seDifference.l0 k y0 y1 y2 y3) (spec_seDifference.l0 (k + 1) y0 y1 y2 y3)) ∧ (∀ y0 y1 y2 y3 y4, LeO (spec_seDifference.l1 k y0 y1 y2 y3 y4) (spec_seDifference.l1 (k + 1) y0 y1 y2 y3 y4))
 | 0 => ⟨fun _ _ _ _ r h => by simp [spec_seDifference.l0] at h, fun _ _ _ _ _ r h => by simp [spec_seDifference.l1] at h⟩
 | k + 1 => by
   obtain ⟨ih0, ih1⟩ := spec_seDifference.mono_l k
   refine ⟨?_, ?_⟩
   · intro y0 y1 y2 y3
     unfold spec_seDifference.l0
     exact zm4 ih0 ih1 spec_cdRun.mono spec_exAt.mono
   · intro y0 y1 y2 y3 y4
     unfold spec_seDifference.l1
     exact zm4 ih0 ih1 spec_cdRun.mono spec_exAt.mono
theorem spec_seDifference.mono : ∀ a0 a1 a2 k, LeO (spec_seDifference.f k a0 a1 a2) (spec_seDifference.f (k + 1) a0 a1 a2) := by
 intro a0 a1 a2 k
 obtain ⟨ih0, ih1⟩ := spec_seDifference.mono_l k
 unfold spec_seDifference.f
 exact zm4 ih0 ih1 spec_cdRun.mono spec_exAt.mono
def spec_seDifference.T7 : Bool × List (List Nat × List Nat) := (true, [([], []), ([], []), ([], []), ([1, 2], [1, 2]), ([0, 3, 3], [0, 3]), ([], []), ([4, 5], [4, 5]), ([6], [6]), ([], []), ([], []), ([], []), ([8, 9, 10, 4], [8, 9, 10]), ([7, 11], [7, 11])])
def spec_seDifference.B7 : List Nat := [0, 0, 0, 6, 15, 0, 63, 127, 0, 0, 0, 1823, 4095]
theorem spec_seDifference.tab7 : rtab .any (opsOf Try.f70 7) = spec_seDifference.T7 := by kernel_rfl
theorem spec_seDifference.bits7 : waitsOk spec_seDifference.T7.2 spec_seDifference.B7 = true := by kernel_rfl
theorem spec_seDifference.calls (k : Nat) (A0 : Option Addr) (c0 : Nat) (l0 : List (S60)) (A1 : Option Addr) (c1 : Nat) (l1 : List (S64)) (a2 : Int) (r1 : Int) (r2 : Int) (r3 : Bool) (w : World) (hr0 : Kd.C k60 w A0 l0.length l0) (hc0 : l0.length ≤ c0) (hr1 : Kd.C k64 w A1 l1.length l1) (hc1 : l1.length ≤ c1) (h : spec_seDifference.f k l0 l1 a2 = some (r1, r2, r3)) :
   Calls Try.prog 70 #[.slice A0 l0.length c0, .slice A1 l1.length c1, .int .i64 a2] w fun e w' => e = .returned (.tuple #[.int .i64 r1, .int .i64 r2, .bool r3]) ∧ Below w.heap.size w w' := by
 have HR0 := zA hr0
 have HC0 := zA hc0
 clear hr0 hc0
 have HR1 := zA hr1
 have HC1 := zA hc1
 clear hr1 hc1
 have HB := zA (Below.refl w.heap.size w)
 have H : (spec_seDifference.l0 k l0 l1 a2 0) = some (r1, r2, r3) := h
 clear h
 have H' := zA H
 clear H
 go_enter Try.func70, Try.ntmps70
 go_wp2
 go_loopg [9] k (fun kq v9 w' => ∃ (x9_1 : Int), v9 = .int .i64 x9_1 ∧ Aside0 (spec_seDifference.l0 kq l0 l1 a2 x9_1 = some (r1, r2, r3)) ∧ Aside0 (kq ≤ k) ∧ Aside0 (Below w.heap.size w w'))
 case atStart => exact ⟨(0), zq7, H', ⟨zlr _⟩, ⟨zq2⟩⟩
 clear H'
 try clear c1
 obtain ⟨x9_1, rfl, HA, HK1, HB⟩ := hrel
 cases gk with
 | zero => exact absurd HA.out (by simp [spec_seDifference.l0])
 | succ k1 =>
 have H := HA.out
 clear HA
 simp only [spec_seDifference.l0] at H
 revert H
 refine zit (fun c4 H => ?_) fun c4 H => ?_
 rotate_left
 · simp only [Option.some.injEq, Prod.mk.injEq] at H
   obtain ⟨rfl, rfl, rfl⟩ := H
   go_wp2
   go_ret3
   exact ⟨zq5, zq2⟩
 have H' := zA H
 clear H
 go_wp2
 go_loopg [10] k1 (fun kq v10 w' => ∃ (x10_2 : Int), v10 = .int .i64 x10_2 ∧ Aside0 (spec_seDifference.l1 kq l0 l1 a2 x9_1 x10_2 = some (r1, r2, r3)) ∧ Aside0 (kq ≤ k1) ∧ Aside0 (Below w.heap.size w w'))
 case atStart => exact ⟨(0), zq7, H', ⟨zlr _⟩, ⟨zq2⟩⟩
 clear H'
 try clear c1
 try clear c4
 obtain ⟨x10_2, rfl, HA, HK2, HB⟩ := hrel
 cases gk with
 | zero => exact absurd HA.out (by simp [spec_seDifference.l1])
 | succ k2 =>
 have H := HA.out
 clear HA
 simp only [spec_seDifference.l1] at H
 revert H
 refine zit (fun c5 H => ?_) fun c5 H => ?_
 rotate_left
 · have H' := zA H
   clear H
   go_wp2
   go_roundg k2
   case measure => have := HK1.out; have := HK2.out; omega
   case rel => exact ⟨(wrap64 (x9_1 + 1)), zq7, H', ⟨zq43 HK1 HK2⟩, ⟨zq2⟩⟩
 replace H := zob H
 obtain ⟨t101, A60, H⟩ := H
 replace H : ((spec_cdRun.f k2 l1 t101).bind fun t104 => (if 0 ≤ a2 then (if a2 < (t104.length : Int) then ((spec_exAt.f k2 l0 x9_1 x10_2).bind fun t108 => (if (rd t104 a2) = t108 then (spec_seDifference.l1 k2 l0 l1 a2 x9_1 (wrap64 (x10_2 + 1))) else (some (x9_1, x10_2, true)))) else (none)) else (none))) = some (r1, r2, r3) := H
 have A6 := zA A60
 clear A60
 replace H := zob H
 obtain ⟨t104, A70, H⟩ := H
 replace H : (if 0 ≤ a2 then (if a2 < (t104.length : Int) then ((spec_exAt.f k2 l0 x9_1 x10_2).bind fun t108 => (if (rd t104 a2) = t108 then (spec_seDifference.l1 k2 l0 l1 a2 x9_1 (wrap64 (x10_2 + 1))) else (some (x9_1, x10_2, true)))) else (none)) else (none)) = some (r1, r2, r3) := H
 have A7 := zA A70
 clear A70
 revert H
 refine zin fun c8 H => ?_
 revert H
 refine zin fun c9 H => ?_
 replace H := zob H
 obtain ⟨t108, A100, H⟩ := H
 replace H : (if (rd t104 a2) = t108 then (spec_seDifference.l1 k2 l0 l1 a2 x9_1 (wrap64 (x10_2 + 1))) else (some (x9_1, x10_2, true))) = some (r1, r2, r3) := H
 have A10 := zA A100
 clear A100
 by_cases c11 : (rd t104 a2) = t108
 rotate_left
 · rw [if_neg c11] at H
   obtain ⟨c11b0, c11b1⟩ := zbq c11
   simp only [Option.some.injEq, Prod.mk.injEq] at H
   obtain ⟨rfl, rfl, rfl⟩ := H
   try go_wp2
   replace HB := zA (zbd HB.out)
   refine start_ (n := 13) (S := fun w' => True) (ds := []) #[false, false, false, false, false, false, false, false, false, false, false, false, false] zq22 rfl rfl (trivial) (fun hHeld => ?_); refine with_tabW spec_seDifference.tab7 spec_seDifference.bits7 (fun HT_ HW_ => ?_)
   generalize wr.drew = w18 at HB hHeld ⊢
   refine zpu 0 19 HT_ ?_
   refine zpu 1 20 HT_ ?_
   refine zpu 2 21 HT_ ?_
   refine zpu 5 24 HT_ ?_
   refine zpu 8 27 HT_ ?_
   refine zpu 9 28 HT_ ?_
   refine zpu 10 29 HT_ ?_
   refine one_ (i := 3) (N := some 22) #[true, true, true, true, false, true, false, false, true, true, true, false, false] rfl rfl (one_of HT_.out zq22) (by decide) (fun K hK => ?_)
   refine zgo Try.func68 (spec_cdStart.calls x9_1 x10_2 t101 _ A6.out) ?_
   rintro e w19 ⟨v102, rfl, ho0, hb⟩
   refine ⟨_, rfl, ?_⟩
   have HO103 := zA (Kd.R_lower ho0 (below_size zq2))
   replace HB := zA (below_step zq2 hb)
   (try clear hb)
   (try clear hb2)
   (try clear hk)
   (try clear hi)
   (try clear ho0)
   obtain ⟨Ao20, co20, eo20⟩ := Kd.R_slice HO103.out
   (first | subst eo20 | (injection eo20 with f1_ f2_ f3_; have f4_ := f1_.symm; have f5_ := f3_.symm; clear f1_ f2_ f3_; subst f4_; subst f5_))
   refine hK.out _ _ (trivial) (fun hHeld => ?_)
   clear hK K
   refine znm 22 ?_
   refine one_ (i := 4) (N := some 23) #[true, true, true, true, true, true, false, false, true, true, true, false, false] rfl rfl (one_of HT_.out zq22) (by decide) (fun K hK => ?_)
   refine goes_ Try.func67 zq22 rfl #[.slice A1 l1.length c1, .slice Ao20 t101.length co20] (by rfl) rfl rfl zq10 ?_
   with_reducible refine (spec_cdRun.calls k2 _ _ l1 _ _ t101 t104 _ ?side1 ?side2 ?side3 ?side4 A7.out).mono ?_
   (case side1 => repeat (first | exact (zCb HR1.out HB.out) | (with_reducible first | refine zCa ?_ _ | refine zCn ?_ _ | refine zCd ?_)))
   (case side2 => exact HC1.out)
   (case side3 => repeat (first | exact (zRr HO103.out).2.2 | (with_reducible first | refine zCa ?_ _ | refine zCn ?_ _ | refine zCd ?_)))
   (case side4 => exact (zRr HO103.out).2.1)
   rintro e w21 ⟨v105, rfl, ho0, hb⟩
   refine ⟨_, rfl, ?_⟩
   have HO106 := zA (Kd.R_lower (Kd.R_new' ho0 (Kd.R_lt (zq3 HO103))) (below_size zq2))
   replace HO103 := zA (Kd.R_elder' (zq3 HO103) (Kd.R_base ho0) hb)
   replace HB := zA (below_step zq2 hb)
   (try clear hb)
   (try clear hb2)
   (try clear hk)
   (try clear hi)
   (try clear ho0)
   obtain ⟨Ao22, co22, eo22⟩ := Kd.R_slice HO106.out
   (first | subst eo22 | (injection eo22 with f1_ f2_ f3_; have f4_ := f1_.symm; have f5_ := f3_.symm; clear f1_ f2_ f3_; subst f4_; subst f5_))
   obtain ⟨p107, q107⟩ := zpq a2 t104.length
   obtain ⟨ad107, e107, hx107_0⟩ := Kd.at_int (zRr HO106.out).2.2 a2 (zoe p107) (zoe q107)
   cases e107
   refine hK.out _ _ (trivial) (fun hHeld => ?_)
   clear hK K
   refine znm 23 ?_
   refine more_ (S' := fun w' => w'.cell? (ad107.add (a2).toNat) = some (.int .i64 (rd t104 a2))) (fun _ s => (trivial)) (hx107_0) (fun hHeld => ?_)
   refine zpu 6 25 HT_ ?_
   refine take_ (i := 7) (N := some 26) (v := ?_) (a' := ?_) #[true, true, true, true, true, true, true, true, true, true, true, false, false] rfl rfl (take_ofW HT_.out HW_.out zq22) (fun _ _ _ h => h) (Or.inl ⟨by rfl, ?_⟩) hHeld ?_ ?_
   rotate_left
   · intro w' s0
     go_simp
     with_reducible rfl
   rotate_left
   · simp only [Act.put, List.setIfInBounds_toArray, List.set_cons_zero, List.set_cons_succ, i64_w, i32_w]
     rfl
   refine one_ (i := 11) (N := some 30) #[true, true, true, true, true, true, true, true, true, true, true, true, false] rfl rfl (one_of HT_.out zq22) (by decide) (fun K hK => ?_)
   refine goes_ Try.func69 zq22 rfl #[.slice A0 l0.length c0, .int .i64 x9_1, .int .i64 x10_2] (by rfl) rfl rfl zq10 ?_
   with_reducible refine (spec_exAt.calls k2 _ _ l0 x9_1 x10_2 t108 _ ?side1 ?side2 A10.out).mono ?_
   (case side1 => repeat (first | exact (zCb HR0.out HB.out) | (with_reducible first | refine zCa ?_ _ | refine zCn ?_ _ | refine zCd ?_)))
   (case side2 => exact HC0.out)
   rintro e w23 ⟨rfl, hb⟩
   have HS0_ := (hb.cell (World.block_lt_of_cell? _ _ (hHeld))).trans (hHeld)
   refine ⟨_, rfl, ?_⟩
   replace HO103 := zA (zRb (zq3 HO103) hb)
   replace HO106 := zA (zRb (zq3 HO106) hb)
   replace HB := zA (below_step zq2 hb)
   (try clear hb)
   (try clear hb2)
   (try clear hk)
   (try clear hi)
   refine hK.out _ _ (HS0_) (fun hHeld => ?_)
   clear hK K
   refine znm 30 ?_
   refine zpu 12 31 HT_ ?_
   refine done_ (done_of HT_.out zq22) ?_
   try go_wp2
   go_ret3
   exact ⟨zq5, zq2⟩
 rw [if_pos c11] at H
 obtain ⟨c11b0, c11b1⟩ := zbe c11
 clear c11
 have H' := zA H
 clear H
 try go_wp2
 replace HB := zA (zbd HB.out)
 refine start_ (n := 13) (S := fun w' => True) (ds := []) #[false, false, false, false, false, false, false, false, false, false, false, false, false] zq22 rfl rfl (trivial) (fun hHeld => ?_); refine with_tabW spec_seDifference.tab7 spec_seDifference.bits7 (fun HT_ HW_ => ?_)
 generalize wr.drew = w12 at HB hHeld ⊢
 refine zpu 0 19 HT_ ?_
 refine zpu 1 20 HT_ ?_
 refine zpu 2 21 HT_ ?_
 refine zpu 5 24 HT_ ?_
 refine zpu 8 27 HT_ ?_
 refine zpu 9 28 HT_ ?_
 refine zpu 10 29 HT_ ?_
 refine one_ (i := 3) (N := some 22) #[true, true, true, true, false, true, false, false, true, true, true, false, false] rfl rfl (one_of HT_.out zq22) (by decide) (fun K hK => ?_)
 refine zgo Try.func68 (spec_cdStart.calls x9_1 x10_2 t101 _ A6.out) ?_
 rintro e w13 ⟨v102, rfl, ho0, hb⟩
 refine ⟨_, rfl, ?_⟩
 have HO103 := zA (Kd.R_lower ho0 (below_size zq2))
 replace HB := zA (below_step zq2 hb)
 (try clear hb)
 (try clear hb2)
 (try clear hk)
 (try clear hi)
 (try clear ho0)
 obtain ⟨Ao14, co14, eo14⟩ := Kd.R_slice HO103.out
 (first | subst eo14 | (injection eo14 with f1_ f2_ f3_; have f4_ := f1_.symm; have f5_ := f3_.symm; clear f1_ f2_ f3_; subst f4_; subst f5_))
 refine hK.out _ _ (trivial) (fun hHeld => ?_)
 clear hK K
 refine znm 22 ?_
 refine one_ (i := 4) (N := some 23) #[true, true, true, true, true, true, false, false, true, true, true, false, false] rfl rfl (one_of HT_.out zq22) (by decide) (fun K hK => ?_)
 refine goes_ Try.func67 zq22 rfl #[.slice A1 l1.length c1, .slice Ao14 t101.length co14] (by rfl) rfl rfl zq10 ?_
 with_reducible refine (spec_cdRun.calls k2 _ _ l1 _ _ t101 t104 _ ?side1 ?side2 ?side3 ?side4 A7.out).mono ?_
 (case side1 => repeat (first | exact (zCb HR1.out HB.out) | (with_reducible first | refine zCa ?_ _ | refine zCn ?_ _ | refine zCd ?_)))
 (case side2 => exact HC1.out)
 (case side3 => repeat (first | exact (zRr HO103.out).2.2 | (with_reducible first | refine zCa ?_ _ | refine zCn ?_ _ | refine zCd ?_)))
 (case side4 => exact (zRr HO103.out).2.1)
 rintro e w15 ⟨v105, rfl, ho0, hb⟩
 refine ⟨_, rfl, ?_⟩
 have HO106 := zA (Kd.R_lower (Kd.R_new' ho0 (Kd.R_lt (zq3 HO103))) (below_size zq2))
 replace HO103 := zA (Kd.R_elder' (zq3 HO103) (Kd.R_base ho0) hb)
 replace HB := zA (below_step zq2 hb)
 (try clear hb)
 (try clear hb2)
 (try clear hk)
 (try clear hi)
 (try clear ho0)
 obtain ⟨Ao16, co16, eo16⟩ := Kd.R_slice HO106.out
 (first | subst eo16 | (injection eo16 with f1_ f2_ f3_; have f4_ := f1_.symm; have f5_ := f3_.symm; clear f1_ f2_ f3_; subst f4_; subst f5_))
 obtain ⟨p107, q107⟩ := zpq a2 t104.length
 obtain ⟨ad107, e107, hx107_0⟩ := Kd.at_int (zRr HO106.out).2.2 a2 (zoe p107) (zoe q107)
 cases e107
 refine hK.out _ _ (trivial) (fun hHeld => ?_)
 clear hK K
 refine znm 23 ?_
 refine more_ (S' := fun w' => w'.cell? (ad107.add (a2).toNat) = some (.int .i64 (rd t104 a2))) (fun _ s => (trivial)) (hx107_0) (fun hHeld => ?_)
 refine zpu 6 25 HT_ ?_
 refine take_ (i := 7) (N := some 26) (v := ?_) (a' := ?_) #[true, true, true, true, true, true, true, true, true, true, true, false, false] rfl rfl (take_ofW HT_.out HW_.out zq22) (fun _ _ _ h => h) (Or.inl ⟨by rfl, ?_⟩) hHeld ?_ ?_
 rotate_left
 · intro w' s0
   go_simp
   with_reducible rfl
 rotate_left
 · simp only [Act.put, List.setIfInBounds_toArray, List.set_cons_zero, List.set_cons_succ, i64_w, i32_w]
   rfl
 refine one_ (i := 11) (N := some 30) #[true, true, true, true, true, true, true, true, true, true, true, true, false] rfl rfl (one_of HT_.out zq22) (by decide) (fun K hK => ?_)
 refine goes_ Try.func69 zq22 rfl #[.slice A0 l0.length c0, .int .i64 x9_1, .int .i64 x10_2] (by rfl) rfl rfl zq10 ?_
 with_reducible refine (spec_exAt.calls k2 _ _ l0 x9_1 x10_2 t108 _ ?side1 ?side2 A10.out).mono ?_
 (case side1 => repeat (first | exact (zCb HR0.out HB.out) | (with_reducible first | refine zCa ?_ _ | refine zCn ?_ _ | refine zCd ?_)))
 (case side2 => exact HC0.out)
 rintro e w17 ⟨rfl, hb⟩
 have HS0_ := (hb.cell (World.block_lt_of_cell? _ _ (hHeld))).trans (hHeld)
 refine ⟨_, rfl, ?_⟩
 replace HO103 := zA (zRb (zq3 HO103) hb)
 replace HO106 := zA (zRb (zq3 HO106) hb)
 replace HB := zA (below_step zq2 hb)
 (try clear hb)
 (try clear hb2)
 (try clear hk)
 (try clear hi)
 refine hK.out _ _ (HS0_) (fun hHeld => ?_)
 clear hK K
 refine znm 30 ?_
 refine zpu 12 31 HT_ ?_
 refine done_ (done_of HT_.out zq22) ?_
 try go_wp2
 go_roundg k2
 case measure => have := HK1.out; have := HK2.out; omega
 case rel => exact ⟨(wrap64 (x10_2 + 1)), zq7, H', ⟨zq43 HK1 HK2⟩, ⟨zq2⟩⟩
end Go.Proofs.Ytnaafcleafbejaa.Q
end
section
namespace Go.Proofs.Ytnaafcleafbejaa.Q
open Go.RowKit Go.Proofs.YtnaafcleafbejaaW.PrintWords Go.Proofs.YtnaafcleafbejaaW.PrintLast Go.Proofs.YtnaafcleafbejaaW.PrintMore
set_option maxHeartbeats 8000000
set_option maxRecDepth 100000
attribute [local go_sem] max2_int min2_int max_two min_two max_three min_three max_four min_four
set_option linter.unusedVariables false
set_option linter.unusedSimpArgs false
def spec_suLast.f (l0 : List (S64)) : Option (Int) := if (l0.length : Int) = 0 then (some 0) else (some (wrap64 (1 + (l0.length : Int))))
theorem spec_suLast.calls (A0 : Option Addr) (c0 : Nat) (l0 : List (S64)) (r : Int) (w : World) (hr0 : Kd.C k64 w A0 l0.length l0) (hc0 : l0.length ≤ c0) (h : spec_suLast.f l0 = some r) :
   Calls Try.prog 66 #[.slice A0 l0.length c0] w fun e w' => e = .returned (.int .i64 r) ∧ Drawn0 w w' := by
 have HR0 := zA hr0
 have HC0 := zA hc0
 clear hr0 hc0
 have H : (if (l0.length : Int) = 0 then (some 0) else (some (wrap64 (1 + (l0.length : Int))))) = some r := h
 clear h
 by_cases c2 : (l0.length : Int) = 0
 · rw [if_pos c2] at H
   obtain ⟨c2b0, c2b1⟩ := zbe c2
   clear c2
   obtain rfl := zsi H
   go_enter Try.func66, Try.ntmps66
   exact zr_1
 · rw [if_neg c2] at H
   obtain ⟨c2b0, c2b1⟩ := zbq c2
   have c2b2 : ¬ (l0 = []) := fun h_ => c2 (by rw [h_]; rfl)
   obtain rfl := zsi H
   go_enter Try.func66, Try.ntmps66
   exact zr_1
def spec_suReaches.l0 : Nat → List (S60) → List (S64) → Int → List (List Int) → Int → Int → Option (Bool)
 | 0, _, _, _, _, _, _ => none
 | k + 1, x0, x1, x5, x17, x18, x19 => if x19 < x18 then (if 0 ≤ x19 then (if x19 < (x17.length : Int) then (if 0 < ((rd_L6 x17 x19).length : Int) then (if 1 < ((rd_L6 x17 x19).length : Int) then ((spec_cdStart.f (rd (rd_L6 x17 x19) 0) (rd (rd_L6 x17 x19) 1)).bind fun t123 => ((spec_cdRun.f k x1 t123).bind fun t126 => (if 0 ≤ x5 then (if x5 < (t126.length : Int) then ((spec_exAt.f k x0 (rd (rd_L6 x17 x19) 0) (rd (rd_L6 x17 x19) 1)).bind fun t132 => (if (rd t126 x5) = t132 then (spec_suReaches.l0 k x0 x1 x5 x17 x18 (wrap64 (x19 + 1))) else (some false))) else (none)) else (none)))) else (none)) else (none)) else (none)) else (none)) else ((spec_seDifference.f k x0 x1 x5).bind fun bt117 => (some (!bt117.2.2)))
def spec_suReaches.f (k : Nat) (l0 : List (S60)) (l1 : List (S64)) : Option (Bool) := (spec_suLast.f l1).bind fun t101 => ((some (([(([37, 22] : List Int)), (([5, 63] : List Int)), (([62, 3] : List Int)), (([1, 1] : List Int))] : List (List Int)) : List (List Int))).bind fun y114 => (spec_suReaches.l0 k l0 l1 t101 y114 (y114.length : Int) 0))
theorem spec_suReaches.mono_l : ∀ k, (∀ y0 y1 y2 y3 y4 y5, LeO (spec_suReaches.l0 k y0 y1 y2 y3 y4 y5) (spec_suReaches.l0 (k + 1) y0 y1 y2 y3 y4 y5))
 | 0 => fun _ _ _ _ _ _ r h => by simp [spec_suReaches.l0] at h
 | k + 1 => by
   have ih0 := spec_suReaches.mono_l k
   · intro y0 y1 y2 y3 y4 y5
     unfold spec_suReaches.l0
     exact zm4 ih0 spec_cdRun.mono spec_exAt.mono spec_seDifference.mono
theorem spec_suReaches.mono : ∀ a0 a1 k, LeO (spec_suReaches.f k a0 a1) (spec_suReaches.f (k + 1) a0 a1) := by
 intro a0 a1 k
 have ih0 := spec_suReaches.mono_l k
 unfold spec_suReaches.f
 exact zm4 ih0 spec_cdRun.mono spec_exAt.mono spec_seDifference.mono
def spec_suReaches.T5 : Bool × List (List Nat × List Nat) := (true, [([], []), ([], []), ([1], [1]), ([2], [2]), ([], []), ([4], [4]), ([5], [5]), ([3, 6], [3, 6]), ([0, 7, 7], [0, 7]), ([], []), ([8, 9], [8, 9]), ([10], [10]), ([], []), ([], []), ([13], [13]), ([14], [14]), ([], []), ([16], [16]), ([17], [17]), ([12, 15, 18, 8], [12, 15, 18]), ([11, 19], [11, 19])])
def spec_suReaches.B5 : List Nat := [0, 0, 2, 6, 0, 16, 48, 126, 255, 0, 1023, 2047, 0, 0, 8192, 24576, 0, 65536, 196608, 520703, 1048575]
theorem spec_suReaches.tab5 : rtab .any (opsOf Try.f28 5) = spec_suReaches.T5 := by kernel_rfl
theorem spec_suReaches.bits5 : waitsOk spec_suReaches.T5.2 spec_suReaches.B5 = true := by kernel_rfl
theorem spec_suReaches.calls (k : Nat) (A0 : Option Addr) (c0 : Nat) (l0 : List (S60)) (A1 : Option Addr) (c1 : Nat) (l1 : List (S64)) (r : Bool) (w : World) (hr0 : Kd.C k60 w A0 l0.length l0) (hc0 : l0.length ≤ c0) (hr1 : Kd.C k64 w A1 l1.length l1) (hc1 : l1.length ≤ c1) (h : spec_suReaches.f k l0 l1 = some r) :
   Calls Try.prog 28 #[.slice A0 l0.length c0, .slice A1 l1.length c1] w fun e w' => e = .returned (.bool r) ∧ Below w.heap.size w w' := by
 have HR0 := zA hr0
 have HC0 := zA hc0
 clear hr0 hc0
 have HR1 := zA hr1
 have HC1 := zA hc1
 clear hr1 hc1
 have HB := zA (Below.refl w.heap.size w)
 have H : ((spec_suLast.f l1).bind fun t101 => ((some (([(([37, 22] : List Int)), (([5, 63] : List Int)), (([62, 3] : List Int)), (([1, 1] : List Int))] : List (List Int)) : List (List Int))).bind fun y114 => (spec_suReaches.l0 k l0 l1 t101 y114 (y114.length : Int) 0))) = some r := h
 clear h
 replace H := zob H
 obtain ⟨t101, A30, H⟩ := H
 replace H : ((some (([(([37, 22] : List Int)), (([5, 63] : List Int)), (([62, 3] : List Int)), (([1, 1] : List Int))] : List (List Int)) : List (List Int))).bind fun y114 => (spec_suReaches.l0 k l0 l1 t101 y114 (y114.length : Int) 0)) = some r := H
 have A3 := zA A30
 clear A30
 obtain ⟨y102, hy102⟩ : ∃ y_ : List Int, y_ = (([37, 22] : List Int)) := ⟨_, rfl⟩
 replace H : ((some (([y102, (([5, 63] : List Int)), (([62, 3] : List Int)), (([1, 1] : List Int))] : List (List Int)) : List (List Int))).bind fun y114 => (spec_suReaches.l0 k l0 l1 t101 y114 (y114.length : Int) 0)) = some r := by first | (rw [hy102]; with_reducible exact H) | (have H2_ := (Option.bind_some _ _).symm.trans H; rw [hy102]; with_reducible exact H2_) | (have H2_ := (Option.bind_some _ _).symm.trans H; with_reducible exact H2_) | with_reducible exact H | (rw [hy102]; exact H) | exact H
 have Ny102 := zA hy102
 clear hy102
 obtain ⟨y105, hy105⟩ : ∃ y_ : List Int, y_ = (([5, 63] : List Int)) := ⟨_, rfl⟩
 replace H : ((some (([y102, y105, (([62, 3] : List Int)), (([1, 1] : List Int))] : List (List Int)) : List (List Int))).bind fun y114 => (spec_suReaches.l0 k l0 l1 t101 y114 (y114.length : Int) 0)) = some r := by first | (rw [hy105]; with_reducible exact H) | (have H2_ := (Option.bind_some _ _).symm.trans H; rw [hy105]; with_reducible exact H2_) | (have H2_ := (Option.bind_some _ _).symm.trans H; with_reducible exact H2_) | with_reducible exact H | (rw [hy105]; exact H) | exact H
 have Ny105 := zA hy105
 clear hy105
 obtain ⟨y108, hy108⟩ : ∃ y_ : List Int, y_ = (([62, 3] : List Int)) := ⟨_, rfl⟩
 replace H : ((some (([y102, y105, y108, (([1, 1] : List Int))] : List (List Int)) : List (List Int))).bind fun y114 => (spec_suReaches.l0 k l0 l1 t101 y114 (y114.length : Int) 0)) = some r := by first | (rw [hy108]; with_reducible exact H) | (have H2_ := (Option.bind_some _ _).symm.trans H; rw [hy108]; with_reducible exact H2_) | (have H2_ := (Option.bind_some _ _).symm.trans H; with_reducible exact H2_) | with_reducible exact H | (rw [hy108]; exact H) | exact H
 have Ny108 := zA hy108
 clear hy108
 obtain ⟨y111, hy111⟩ : ∃ y_ : List Int, y_ = (([1, 1] : List Int)) := ⟨_, rfl⟩
 replace H : ((some (([y102, y105, y108, y111] : List (List Int)) : List (List Int))).bind fun y114 => (spec_suReaches.l0 k l0 l1 t101 y114 (y114.length : Int) 0)) = some r := by first | (rw [hy111]; with_reducible exact H) | (have H2_ := (Option.bind_some _ _).symm.trans H; rw [hy111]; with_reducible exact H2_) | (have H2_ := (Option.bind_some _ _).symm.trans H; with_reducible exact H2_) | with_reducible exact H | (rw [hy111]; exact H) | exact H
 have Ny111 := zA hy111
 clear hy111
 obtain ⟨y114, hy114⟩ : ∃ y_ : List (List Int), y_ = (([y102, y105, y108, y111] : List (List Int))) := ⟨_, rfl⟩
 replace H : (spec_suReaches.l0 k l0 l1 t101 y114 (y114.length : Int) 0) = some r := by first | (rw [hy114]; with_reducible exact H) | (have H2_ := (Option.bind_some _ _).symm.trans H; rw [hy114]; with_reducible exact H2_) | (have H2_ := (Option.bind_some _ _).symm.trans H; with_reducible exact H2_) | with_reducible exact H | (rw [hy114]; exact H) | exact H
 have Ny114 := zA hy114
 clear hy114
 have H' := zA H
 clear H
 go_enter Try.func28, Try.ntmps28
 go_wp2_with (first | ((with_reducible refine zgc 66 ?_); refine zca 12 Try.func66 #[.slice A1 l1.length c1] (spec_suLast.calls _ _ l1 t101 _ (zq35 HR1) HC1.out A3.out) ?_; rintro e w' ⟨rfl, ⟨nd, rfl⟩⟩; refine ⟨_, rfl, ?_⟩) | ((with_reducible refine zgd 13 ?_); refine Kd.R_lit (Kd.int .i64) _ 3 ?hg (N := 13) ?hd (xs := ([37, 22] : List Int)) (inner := [.int .i64 37, .int .i64 22]) (ok := fun _ => True) (okp := fun _ => True) ?hr ?hp (fun _ hk => hk) trivial (Below.refl _ _) (zlr _) (by simp) ?_; (case hd => rfl); (case hg => rfl); (case hr => go_simp <;> rfl); (case hp => exact (Reps.one (show Kd.M (Kd.int .i64) _ _ _ 37 [.int .i64 37] from rfl) (Reps.one (show Kd.M (Kd.int .i64) _ _ _ 22 [.int .i64 22] from rfl) (Reps.none _ _)))); intro v103 w4 ho5 hb hg_ hnew_; clear hg_ hnew_; (first | rw [← Ny102.out] at ho5 | (simp only [Int.reduceToNat] at ho5; rw [← Ny102.out] at ho5)); have HO104 := zA (Kd.R_lower ho5 (below_size zq2)); replace HB := zA (below_step zq2 hb); clear hb ho5) | ((with_reducible refine zgd 14 ?_); refine Kd.R_lit (Kd.int .i64) _ 3 ?hg (N := 14) ?hd (xs := ([5, 63] : List Int)) (inner := [.int .i64 5, .int .i64 63]) (ok := fun _ => True) (okp := fun _ => True) ?hr ?hp (fun _ hk => hk) trivial (Below.refl _ _) (zlr _) (by simp) ?_; (case hd => rfl); (case hg => rfl); (case hr => go_simp <;> rfl); (case hp => exact (Reps.one (show Kd.M (Kd.int .i64) _ _ _ 5 [.int .i64 5] from rfl) (Reps.one (show Kd.M (Kd.int .i64) _ _ _ 63 [.int .i64 63] from rfl) (Reps.none _ _)))); intro v106 w6 ho7 hb hg_ hnew_; clear hg_ hnew_; (first | rw [← Ny105.out] at ho7 | (simp only [Int.reduceToNat] at ho7; rw [← Ny105.out] at ho7)); have HO107 := zA (Kd.R_lower (Kd.R_new' ho7 (Kd.R_lt (zq3 HO104))) (below_size zq2)); replace HO104 := zA (Kd.R_elder' (zq3 HO104) (Kd.R_base ho7) hb); replace HB := zA (below_step zq2 hb); clear hb ho7) | ((with_reducible refine zgd 15 ?_); refine Kd.R_lit (Kd.int .i64) _ 3 ?hg (N := 15) ?hd (xs := ([62, 3] : List Int)) (inner := [.int .i64 62, .int .i64 3]) (ok := fun _ => True) (okp := fun _ => True) ?hr ?hp (fun _ hk => hk) trivial (Below.refl _ _) (zlr _) (by simp) ?_; (case hd => rfl); (case hg => rfl); (case hr => go_simp <;> rfl); (case hp => exact (Reps.one (show Kd.M (Kd.int .i64) _ _ _ 62 [.int .i64 62] from rfl) (Reps.one (show Kd.M (Kd.int .i64) _ _ _ 3 [.int .i64 3] from rfl) (Reps.none _ _)))); intro v109 w8 ho9 hb hg_ hnew_; clear hg_ hnew_; (first | rw [← Ny108.out] at ho9 | (simp only [Int.reduceToNat] at ho9; rw [← Ny108.out] at ho9)); have HO110 := zA (Kd.R_lower (Kd.R_new' (Kd.R_new' ho9 (Kd.R_lt (zq3 HO104))) (Kd.R_lt (zq3 HO107))) (below_size zq2)); replace HO104 := zA (Kd.R_elder' (zq3 HO104) (Kd.R_base ho9) hb); replace HO107 := zA (Kd.R_elder' (zq3 HO107) (Kd.R_base ho9) hb); replace HB := zA (below_step zq2 hb); clear hb ho9) | ((with_reducible refine zgd 16 ?_); refine Kd.R_lit (Kd.int .i64) _ 3 ?hg (N := 16) ?hd (xs := ([1, 1] : List Int)) (inner := [.int .i64 1, .int .i64 1]) (ok := fun _ => True) (okp := fun _ => True) ?hr ?hp (fun _ hk => hk) trivial (Below.refl _ _) (zlr _) (by simp) ?_; (case hd => rfl); (case hg => rfl); (case hr => go_simp <;> rfl); (case hp => exact (Reps.one (show Kd.M (Kd.int .i64) _ _ _ 1 [.int .i64 1] from rfl) (Reps.one (show Kd.M (Kd.int .i64) _ _ _ 1 [.int .i64 1] from rfl) (Reps.none _ _)))); intro v112 w10 ho11 hb hg_ hnew_; clear hg_ hnew_; (first | rw [← Ny111.out] at ho11 | (simp only [Int.reduceToNat] at ho11; rw [← Ny111.out] at ho11)); have HO113 := zA (Kd.R_lower (Kd.R_new' (Kd.R_new' (Kd.R_new' ho11 (Kd.R_lt (zq3 HO104))) (Kd.R_lt (zq3 HO107))) (Kd.R_lt (zq3 HO110))) (below_size zq2)); replace HO104 := zA (Kd.R_elder' (zq3 HO104) (Kd.R_base ho11) hb); replace HO107 := zA (Kd.R_elder' (zq3 HO107) (Kd.R_base ho11) hb); replace HO110 := zA (Kd.R_elder' (zq3 HO110) (Kd.R_base ho11) hb); replace HB := zA (below_step zq2 hb); clear hb ho11; obtain ⟨Ao12, co12, eo12⟩ := Kd.R_slice HO104.out; subst eo12; obtain ⟨Ao13, co13, eo13⟩ := Kd.R_slice HO107.out; subst eo13; obtain ⟨Ao14, co14, eo14⟩ := Kd.R_slice HO110.out; subst eo14; obtain ⟨Ao15, co15, eo15⟩ := Kd.R_slice HO113.out; subst eo15) | ((with_reducible refine zgd 17 ?_); refine Kd.N_lit (Kd.slice 3 (Kd.int .i64)) _ 24 ?hg (N' := 17) ?hd (xs := ([y102, y105, y108, y111] : List (List Int))) (inner := [.slice Ao12 y102.length co12, .slice Ao13 y105.length co13, .slice Ao14 y108.length co14, .slice Ao15 y111.length co15]) (ok := (fun _ => True)) (okp := (fun _ => True)) ?hr ?hp (fun _ hk => hk) ((show ∀ k_, w10.heap.size ≤ k_ → (fun _ => True) k_ from fun k_ hk => trivial) _ (zlr _)) (Below.refl _ _) (zlr _) (by simp) ?_; (case hd => rfl); (case hg => rfl); (case hr => go_simp <;> rfl); (case hp => exact (Reps.one (show Kd.FK (Kd.slice 3 (Kd.int .i64)) _ _ y102 [.slice Ao12 y102.length co12] from (Kd.FK_slice_mk (zRr (Kd.R_mono (ok' := (fun _ => True)) (HO104.out) (fun k_ hk => trivial))).2.1 (Kd.R_F (Kd.R_mono (ok' := (fun _ => True)) (HO104.out) (fun k_ hk => trivial))))) (Reps.one (show Kd.FK (Kd.slice 3 (Kd.int .i64)) _ _ y105 [.slice Ao13 y105.length co13] from (Kd.FK_slice_mk (zRr (Kd.R_mono (ok' := (fun _ => True)) (HO107.out) (fun k_ hk => trivial))).2.1 (Kd.R_F (Kd.R_mono (ok' := (fun _ => True)) (HO107.out) (fun k_ hk => trivial))))) (Reps.one (show Kd.FK (Kd.slice 3 (Kd.int .i64)) _ _ y108 [.slice Ao14 y108.length co14] from (Kd.FK_slice_mk (zRr (Kd.R_mono (ok' := (fun _ => True)) (HO110.out) (fun k_ hk => trivial))).2.1 (Kd.R_F (Kd.R_mono (ok' := (fun _ => True)) (HO110.out) (fun k_ hk => trivial))))) (Reps.one (show Kd.FK (Kd.slice 3 (Kd.int .i64)) _ _ y111 [.slice Ao15 y111.length co15] from (Kd.FK_slice_mk (zRr (Kd.R_mono (ok' := (fun _ => True)) (HO113.out) (fun k_ hk => trivial))).2.1 (Kd.R_F (Kd.R_mono (ok' := (fun _ => True)) (HO113.out) (fun k_ hk => trivial))))) (Reps.none _ _)))))); intro v115 w16 ho17 hb hg_ hnew_; clear hg_ hnew_; (first | rw [← Ny114.out] at ho17 | (simp only [Int.reduceToNat] at ho17; rw [← Ny114.out] at ho17)); have HO116 := zA (Kd.N_lower ho17 (below_size zq2)); replace HB := zA (below_step zq2 hb); clear HO104 HO107 HO110 HO113; clear hb ho17; obtain ⟨Ao18, co18, eo18⟩ := Kd.N_slice HO116.out; subst eo18))
 go_loopg [19] k (fun kq v19 w' => ∃ (x19_1 : Int), v19 = .int .i64 x19_1 ∧ Aside0 (spec_suReaches.l0 kq l0 l1 t101 y114 (y114.length : Int) x19_1 = some r) ∧ Aside0 (kq ≤ k) ∧ Aside0 (Kd.N (Kd.slice 3 (Kd.int .i64)) 24 w' w.heap.size (fun _ => True) (.slice Ao18 y114.length co18) y114) ∧ Aside0 (Below w.heap.size w w'))
 case atStart => exact ⟨(0), zq7, H', ⟨zlr _⟩, ⟨zq30 HO116⟩, ⟨zq2⟩⟩
 clear H'
 try clear c1
 obtain ⟨x19_1, rfl, HA, HK1, HO_17, HB⟩ := hrel
 cases gk with
 | zero => exact absurd HA.out (by simp [spec_suReaches.l0])
 | succ k1 =>
 have H := HA.out
 clear HA
 simp only [spec_suReaches.l0] at H
 revert H
 refine zit (fun c19 H => ?_) fun c19 H => ?_
 rotate_left
 · replace H := zob H
   obtain ⟨⟨t117, t118, t119⟩, A420, H⟩ := H
   replace H : (some (!t119)) = some r := H
   have A42 := zA A420
   clear A420
   obtain rfl := zsi H
   go_wp2_with (first | ((with_reducible refine zgc 70 ?_); refine zca 49 Try.func70 #[.slice A0 l0.length c0, .slice A1 l1.length c1, .int .i64 t101] (spec_seDifference.calls k1 _ _ l0 _ _ l1 t101 t117 t118 t119 _ (zq9 HR0) HC0.out (zq9 HR1) HC1.out A42.out) ?_; rintro e w43 ⟨rfl, hb⟩; refine ⟨_, rfl, ?_⟩; replace HO_17 := zA (Kd.N_below (zq30 HO_17) hb); replace HB := zA (below_step zq2 hb); (try clear hb)))
   exact zr_4
 revert H
 refine zin fun c20 H => ?_
 revert H
 refine zin fun c21 H => ?_
 by_cases c22 : 0 < ((rd_L6 y114 x19_1).length : Int)
 rotate_left
 · rw [if_neg c22] at H
   exact absurd H (by simp)
 rw [if_pos c22] at H
 have c22b0 := zdt c22
 have c22b1 : decide (0 < (rd_L6 y114 x19_1).length) = true := zdt (by omega)
 clear c22
 by_cases c23 : 1 < ((rd_L6 y114 x19_1).length : Int)
 rotate_left
 · rw [if_neg c23] at H
   exact absurd H (by simp)
 rw [if_pos c23] at H
 have c23b0 := zdt c23
 have c23b1 : decide (1 < (rd_L6 y114 x19_1).length) = true := zdt (by omega)
 clear c23
 replace H := zob H
 obtain ⟨t123, A240, H⟩ := H
 replace H : ((spec_cdRun.f k1 l1 t123).bind fun t126 => (if 0 ≤ t101 then (if t101 < (t126.length : Int) then ((spec_exAt.f k1 l0 (rd (rd_L6 y114 x19_1) 0) (rd (rd_L6 y114 x19_1) 1)).bind fun t132 => (if (rd t126 t101) = t132 then (spec_suReaches.l0 k1 l0 l1 t101 y114 (y114.length : Int) (wrap64 (x19_1 + 1))) else (some false))) else (none)) else (none))) = some r := H
 have A24 := zA A240
 clear A240
 replace H := zob H
 obtain ⟨t126, A250, H⟩ := H
 replace H : (if 0 ≤ t101 then (if t101 < (t126.length : Int) then ((spec_exAt.f k1 l0 (rd (rd_L6 y114 x19_1) 0) (rd (rd_L6 y114 x19_1) 1)).bind fun t132 => (if (rd t126 t101) = t132 then (spec_suReaches.l0 k1 l0 l1 t101 y114 (y114.length : Int) (wrap64 (x19_1 + 1))) else (some false))) else (none)) else (none)) = some r := H
 have A25 := zA A250
 clear A250
 revert H
 refine zin fun c26 H => ?_
 revert H
 refine zin fun c27 H => ?_
 replace H := zob H
 obtain ⟨t132, A280, H⟩ := H
 replace H : (if (rd t126 t101) = t132 then (spec_suReaches.l0 k1 l0 l1 t101 y114 (y114.length : Int) (wrap64 (x19_1 + 1))) else (some false)) = some r := H
 have A28 := zA A280
 clear A280
 by_cases c29 : (rd t126 t101) = t132
 rotate_left
 · rw [if_neg c29] at H
   obtain ⟨c29b0, c29b1⟩ := zbq c29
   obtain rfl := zsi H
   have p120 : 0 ≤ (x19_1 : Int) := zde zq16
   have q120 : x19_1 < (y114.length : Int) := zde zq16
   obtain ⟨ad120, A120_0, c120_0, e120, hx120_0, hl120_0, hi120_0⟩ := at_L6 (Kd.N_reads' HO_17.out).2.2 x19_1 p120 q120
   cases e120
   obtain ⟨ce120, hce120, hMe120, hcc120⟩ := Kd.N_get HO_17.out [] x19_1 p120 (by first | exact q120 | exact zde zq16 | (have e_ := (Kd.N_reads' HO_17.out).1; omega))
   obtain ⟨ua120_0, uc120_0, rfl, ul120_0, ge120_0⟩ := Kd.FK_slice_open hMe120
   have hv120_0 := hcc120 0 _ rfl
   rw [Nat.add_zero, show ((Kd.slice 3 (Kd.int .i64))).sz = 1 from rfl, Nat.mul_one] at hv120_0
   replace hv120_0 := zsi (hv120_0.symm.trans hx120_0)
   injection hv120_0 with hva_ hvn_ hvc_
   rw [hva_] at ge120_0
   rw [hvc_] at ul120_0
   have HL120_0 := zA (show Kd.V (Kd.int .i64) 3 _ w.heap.size _ _ (rd_L6 y114 x19_1) from Kd.V_mk ul120_0 ge120_0)
   clear hva_ hvn_ hvc_ ge120_0 ul120_0
   clear hcc120 hce120
   have HR120_0 := zA hi120_0
   have HC120_0 := zA hl120_0
   clear hi120_0 hl120_0
   replace p120 := eq_true p120
   replace q120 := eq_true q120
   try go_wp2
   replace HO_17 := zA (Kd.N_drew HO_17.out)
   replace HL120_0 := zA (Kd.V_drew HL120_0.out)
   replace HR120_0 := zA (zCd HR120_0.out)
   replace HB := zA (zbd HB.out)
   have p121 : 0 ≤ (0 : Int) := (by omega)
   have q121 : 0 < ((rd_L6 y114 x19_1).length : Int) := zde zq16
   obtain ⟨ad121, e121, hx121_0⟩ := Kd.at_int (zq19 HR120_0) 0 p121 q121
   cases e121
   have qi121 : (0 < (rd_L6 y114 x19_1).length) = True := eq_true (by omega)
   (try rw [show ((0 : Int)).toNat = 0 from rfl] at hx121_0)
   (try rw [Addr.add_zero'] at hx121_0)
   replace p121 := eq_true p121
   replace q121 := eq_true q121
   have p122 : 0 ≤ (1 : Int) := (by omega)
   have q122 : 1 < ((rd_L6 y114 x19_1).length : Int) := zde zq16
   obtain ⟨ad122, e122, hx122_0⟩ := Kd.at_int (zq19 HR120_0) 1 p122 q122
   obtain rfl : ad121 = ad122 := (by injection e122)
   (try simp only [show (1 : Int).toNat = 1 from rfl, Nat.reduceMul, Nat.reduceEqDiff, Go.Addr.add, ↓reduceIte] at hx122_0)
   have qi122 : (1 < (rd_L6 y114 x19_1).length) = True := eq_true (by omega)
   (try rw [show ((1 : Int)).toNat = 1 from rfl] at hx122_0)
   replace p122 := eq_true p122
   replace q122 := eq_true q122
   have p130 : 0 ≤ (0 : Int) := (by omega)
   have q130 : 0 < ((rd_L6 y114 x19_1).length : Int) := zde zq16
   obtain ⟨ad130, e130, hx130_0⟩ := Kd.at_int (zq19 HR120_0) 0 p130 q130
   obtain rfl : ad121 = ad130 := (by injection e130)
   have qi130 : (0 < (rd_L6 y114 x19_1).length) = True := eq_true (by omega)
   (try rw [show ((0 : Int)).toNat = 0 from rfl] at hx130_0)
   (try rw [Addr.add_zero'] at hx130_0)
   replace p130 := eq_true p130
   replace q130 := eq_true q130
   have p131 : 0 ≤ (1 : Int) := (by omega)
   have q131 : 1 < ((rd_L6 y114 x19_1).length : Int) := zde zq16
   obtain ⟨ad131, e131, hx131_0⟩ := Kd.at_int (zq19 HR120_0) 1 p131 q131
   obtain rfl : ad121 = ad131 := (by injection e131)
   (try simp only [show (1 : Int).toNat = 1 from rfl, Nat.reduceMul, Nat.reduceEqDiff, Go.Addr.add, ↓reduceIte] at hx131_0)
   have qi131 : (1 < (rd_L6 y114 x19_1).length) = True := eq_true (by omega)
   (try rw [show ((1 : Int)).toNat = 1 from rfl] at hx131_0)
   replace p131 := eq_true p131
   replace q131 := eq_true q131
   refine start_ (n := 21) (S := fun w' => w'.cell? ad121 = some (.int .i64 (rd (rd_L6 y114 x19_1) 0)) ∧ w'.cell? ⟨ad121.block, ad121.off + 1, none⟩ = some (.int .i64 (rd (rd_L6 y114 x19_1) 1)) ∧ w'.cell? ad121 = some (.int .i64 (rd (rd_L6 y114 x19_1) 0)) ∧ w'.cell? ⟨ad121.block, ad121.off + 1, none⟩ = some (.int .i64 (rd (rd_L6 y114 x19_1) 1)) ∧ True) (ds := []) #[false, false, false, false, false, false, false, false, false, false, false, false, false, false, false, false, false, false, false, false, false] zq22 rfl rfl ⟨hx121_0, hx122_0, hx130_0, hx131_0, trivial⟩ (fun hHeld => ?_); refine with_tabW spec_suReaches.tab5 spec_suReaches.bits5 (fun HT_ HW_ => ?_)
   generalize wr.drew = w36 at HO_17 HL120_0 HR120_0 HB hx121_0 hx122_0 hx130_0 hx131_0 hHeld ⊢
   refine zpu 0 23 HT_ ?_
   refine zpu 1 24 HT_ ?_
   refine zpu 2 25 HT_ ?_
   refine zpu 4 27 HT_ ?_
   refine zpu 5 28 HT_ ?_
   refine zpu 9 32 HT_ ?_
   refine zpu 12 35 HT_ ?_
   refine zpu 13 36 HT_ ?_
   refine zpu 14 37 HT_ ?_
   refine zpu 16 39 HT_ ?_
   refine zpu 17 40 HT_ ?_
   refine ztu 3 26 HT_ HW_ hHeld ?_
   refine ztu 6 29 HT_ HW_ hHeld ?_
   refine ztu 15 38 HT_ HW_ hHeld ?_
   refine ztu 18 41 HT_ HW_ hHeld ?_
   refine one_ (i := 7) (N := some 30) #[true, true, true, true, true, true, true, true, false, true, false, false, true, true, true, true, true, true, true, false, false] rfl rfl (one_of HT_.out zq22) (by decide) (fun K hK => ?_)
   refine zgo Try.func68 (spec_cdStart.calls (rd (rd_L6 y114 x19_1) 0) (rd (rd_L6 y114 x19_1) 1) t123 _ A24.out) ?_
   rintro e w37 ⟨v124, rfl, ho0, hb⟩
   have HS0_ := (hb.cell (World.block_lt_of_cell? _ _ (hHeld.1))).trans (hHeld.1)
   have HS1_ := (hb.cell (World.block_lt_of_cell? _ _ (hHeld.2.1))).trans (hHeld.2.1)
   have HS2_ := (hb.cell (World.block_lt_of_cell? _ _ (hHeld.2.2.1))).trans (hHeld.2.2.1)
   have HS3_ := (hb.cell (World.block_lt_of_cell? _ _ (hHeld.2.2.2.1))).trans (hHeld.2.2.2.1)
   refine ⟨_, rfl, ?_⟩
   replace HO_17 := zA (Kd.N_elder' (zq30 HO_17) (Kd.R_base ho0) hb)
   replace HL120_0 := zA (Kd.V_elder' (zq14 HL120_0) (Kd.R_base ho0) hb)
   have HO125 := zA (Kd.R_lower ho0 (below_size zq2))
   replace HR120_0 := zA (zCb (zq19 HR120_0) hb)
   replace HB := zA (below_step zq2 hb)
   (try clear hb)
   (try clear hb2)
   (try clear hk)
   (try clear hi)
   (try clear ho0)
   obtain ⟨Ao38, co38, eo38⟩ := Kd.R_slice HO125.out
   (first | subst eo38 | (injection eo38 with f1_ f2_ f3_; have f4_ := f1_.symm; have f5_ := f3_.symm; clear f1_ f2_ f3_; subst f4_; subst f5_))
   refine hK.out _ _ ⟨HS0_, HS1_, HS2_, HS3_, trivial⟩ (fun hHeld => ?_)
   clear hK K
   refine znm 30 ?_
   refine one_ (i := 8) (N := some 31) #[true, true, true, true, true, true, true, true, true, true, false, false, true, true, true, true, true, true, true, false, false] rfl rfl (one_of HT_.out zq22) (by decide) (fun K hK => ?_)
   refine goes_ Try.func67 zq22 rfl #[.slice A1 l1.length c1, .slice Ao38 t123.length co38] (by rfl) rfl rfl zq10 ?_
   with_reducible refine (spec_cdRun.calls k1 _ _ l1 _ _ t123 t126 _ ?side1 ?side2 ?side3 ?side4 A25.out).mono ?_
   (case side1 => repeat (first | exact (zCb HR1.out HB.out) | (with_reducible first | refine zCa ?_ _ | refine zCn ?_ _ | refine zCd ?_)))
   (case side2 => exact HC1.out)
   (case side3 => repeat (first | exact (zRr HO125.out).2.2 | (with_reducible first | refine zCa ?_ _ | refine zCn ?_ _ | refine zCd ?_)))
   (case side4 => exact (zRr HO125.out).2.1)
   rintro e w39 ⟨v127, rfl, ho0, hb⟩
   have HS0_ := (hb.cell (World.block_lt_of_cell? _ _ (hHeld.1))).trans (hHeld.1)
   have HS1_ := (hb.cell (World.block_lt_of_cell? _ _ (hHeld.2.1))).trans (hHeld.2.1)
   have HS2_ := (hb.cell (World.block_lt_of_cell? _ _ (hHeld.2.2.1))).trans (hHeld.2.2.1)
   have HS3_ := (hb.cell (World.block_lt_of_cell? _ _ (hHeld.2.2.2.1))).trans (hHeld.2.2.2.1)
   refine ⟨_, rfl, ?_⟩
   replace HO_17 := zA (Kd.N_elder' (zq30 HO_17) (Kd.R_base ho0) hb)
   replace HL120_0 := zA (Kd.V_elder' (zq14 HL120_0) (Kd.R_base ho0) hb)
   have HO128 := zA (Kd.R_lower (Kd.R_new' ho0 (Kd.R_lt (zq3 HO125))) (below_size zq2))
   replace HO125 := zA (Kd.R_elder' (zq3 HO125) (Kd.R_base ho0) hb)
   replace HR120_0 := zA (zCb (zq19 HR120_0) hb)
   replace HB := zA (below_step zq2 hb)
   (try clear hb)
   (try clear hb2)
   (try clear hk)
   (try clear hi)
   (try clear ho0)
   obtain ⟨Ao40, co40, eo40⟩ := Kd.R_slice HO128.out
   (first | subst eo40 | (injection eo40 with f1_ f2_ f3_; have f4_ := f1_.symm; have f5_ := f3_.symm; clear f1_ f2_ f3_; subst f4_; subst f5_))
   obtain ⟨p129, q129⟩ := zpq t101 t126.length
   obtain ⟨ad129, e129, hx129_0⟩ := Kd.at_int (zRr HO128.out).2.2 t101 (zoe p129) (zoe q129)
   cases e129
   refine hK.out _ _ ⟨HS0_, HS1_, HS2_, HS3_, trivial⟩ (fun hHeld => ?_)
   clear hK K
   refine znm 31 ?_
   refine more_ (S' := fun w' => w'.cell? ad121 = some (.int .i64 (rd (rd_L6 y114 x19_1) 0)) ∧ w'.cell? ⟨ad121.block, ad121.off + 1, none⟩ = some (.int .i64 (rd (rd_L6 y114 x19_1) 1)) ∧ w'.cell? ad121 = some (.int .i64 (rd (rd_L6 y114 x19_1) 0)) ∧ w'.cell? ⟨ad121.block, ad121.off + 1, none⟩ = some (.int .i64 (rd (rd_L6 y114 x19_1) 1)) ∧ w'.cell? (ad129.add (t101).toNat) = some (.int .i64 (rd t126 t101))) (fun _ s => ⟨s.1, s.2.1, s.2.2.1, s.2.2.2.1, trivial⟩) ⟨hHeld.1, hHeld.2.1, hHeld.2.2.1, hHeld.2.2.2.1, hx129_0⟩ (fun hHeld => ?_)
   refine zpu 10 33 HT_ ?_
   refine ztu 11 34 HT_ HW_ hHeld ?_
   refine one_ (i := 19) (N := some 42) #[true, true, true, true, true, true, true, true, true, true, true, true, true, true, true, true, true, true, true, true, false] rfl rfl (one_of HT_.out zq22) (by decide) (fun K hK => ?_)
   refine goes_ Try.func69 zq22 rfl #[.slice A0 l0.length c0, .int .i64 (rd (rd_L6 y114 x19_1) 0), .int .i64 (rd (rd_L6 y114 x19_1) 1)] (by rfl) rfl rfl zq10 ?_
   with_reducible refine (spec_exAt.calls k1 _ _ l0 (rd (rd_L6 y114 x19_1) 0) (rd (rd_L6 y114 x19_1) 1) t132 _ ?side1 ?side2 A28.out).mono ?_
   (case side1 => repeat (first | exact (zCb HR0.out HB.out) | (with_reducible first | refine zCa ?_ _ | refine zCn ?_ _ | refine zCd ?_)))
   (case side2 => exact HC0.out)
   rintro e w41 ⟨rfl, hb⟩
   have HS0_ := (hb.cell (World.block_lt_of_cell? _ _ (hHeld.1))).trans (hHeld.1)
   have HS1_ := (hb.cell (World.block_lt_of_cell? _ _ (hHeld.2.1))).trans (hHeld.2.1)
   have HS2_ := (hb.cell (World.block_lt_of_cell? _ _ (hHeld.2.2.1))).trans (hHeld.2.2.1)
   have HS3_ := (hb.cell (World.block_lt_of_cell? _ _ (hHeld.2.2.2.1))).trans (hHeld.2.2.2.1)
   have HS4_ := (hb.cell (World.block_lt_of_cell? _ _ (hHeld.2.2.2.2))).trans (hHeld.2.2.2.2)
   refine ⟨_, rfl, ?_⟩
   replace HO_17 := zA (Kd.N_below (zq30 HO_17) hb)
   replace HL120_0 := zA (Kd.V_below (zq14 HL120_0) hb)
   replace HO125 := zA (zRb (zq3 HO125) hb)
   replace HO128 := zA (zRb (zq3 HO128) hb)
   replace HR120_0 := zA (zCb (zq19 HR120_0) hb)
   replace HB := zA (below_step zq2 hb)
   (try clear hb)
   (try clear hb2)
   (try clear hk)
   (try clear hi)
   refine hK.out _ _ ⟨HS0_, HS1_, HS2_, HS3_, HS4_⟩ (fun hHeld => ?_)
   clear hK K
   refine znm 42 ?_
   refine zpu 20 43 HT_ ?_
   refine done_ (done_of HT_.out zq22) ?_
   try go_wp2
   exact zr_4
 rw [if_pos c29] at H
 obtain ⟨c29b0, c29b1⟩ := zbe c29
 clear c29
 have H' := zA H
 clear H
 have p120 : 0 ≤ (x19_1 : Int) := zde zq16
 have q120 : x19_1 < (y114.length : Int) := zde zq16
 obtain ⟨ad120, A120_0, c120_0, e120, hx120_0, hl120_0, hi120_0⟩ := at_L6 (Kd.N_reads' HO_17.out).2.2 x19_1 p120 q120
 cases e120
 obtain ⟨ce120, hce120, hMe120, hcc120⟩ := Kd.N_get HO_17.out [] x19_1 p120 (by first | exact q120 | exact zde zq16 | (have e_ := (Kd.N_reads' HO_17.out).1; omega))
 obtain ⟨ua120_0, uc120_0, rfl, ul120_0, ge120_0⟩ := Kd.FK_slice_open hMe120
 have hv120_0 := hcc120 0 _ rfl
 rw [Nat.add_zero, show ((Kd.slice 3 (Kd.int .i64))).sz = 1 from rfl, Nat.mul_one] at hv120_0
 replace hv120_0 := zsi (hv120_0.symm.trans hx120_0)
 injection hv120_0 with hva_ hvn_ hvc_
 rw [hva_] at ge120_0
 rw [hvc_] at ul120_0
 have HL120_0 := zA (show Kd.V (Kd.int .i64) 3 _ w.heap.size _ _ (rd_L6 y114 x19_1) from Kd.V_mk ul120_0 ge120_0)
 clear hva_ hvn_ hvc_ ge120_0 ul120_0
 clear hcc120 hce120
 have HR120_0 := zA hi120_0
 have HC120_0 := zA hl120_0
 clear hi120_0 hl120_0
 replace p120 := eq_true p120
 replace q120 := eq_true q120
 try go_wp2
 replace HO_17 := zA (Kd.N_drew HO_17.out)
 replace HL120_0 := zA (Kd.V_drew HL120_0.out)
 replace HR120_0 := zA (zCd HR120_0.out)
 replace HB := zA (zbd HB.out)
 have p121 : 0 ≤ (0 : Int) := (by omega)
 have q121 : 0 < ((rd_L6 y114 x19_1).length : Int) := zde zq16
 obtain ⟨ad121, e121, hx121_0⟩ := Kd.at_int (zq19 HR120_0) 0 p121 q121
 cases e121
 have qi121 : (0 < (rd_L6 y114 x19_1).length) = True := eq_true (by omega)
 (try rw [show ((0 : Int)).toNat = 0 from rfl] at hx121_0)
 (try rw [Addr.add_zero'] at hx121_0)
 replace p121 := eq_true p121
 replace q121 := eq_true q121
 have p122 : 0 ≤ (1 : Int) := (by omega)
 have q122 : 1 < ((rd_L6 y114 x19_1).length : Int) := zde zq16
 obtain ⟨ad122, e122, hx122_0⟩ := Kd.at_int (zq19 HR120_0) 1 p122 q122
 obtain rfl : ad121 = ad122 := (by injection e122)
 (try simp only [show (1 : Int).toNat = 1 from rfl, Nat.reduceMul, Nat.reduceEqDiff, Go.Addr.add, ↓reduceIte] at hx122_0)
 have qi122 : (1 < (rd_L6 y114 x19_1).length) = True := eq_true (by omega)
 (try rw [show ((1 : Int)).toNat = 1 from rfl] at hx122_0)
 replace p122 := eq_true p122
 replace q122 := eq_true q122
 have p130 : 0 ≤ (0 : Int) := (by omega)
 have q130 : 0 < ((rd_L6 y114 x19_1).length : Int) := zde zq16
 obtain ⟨ad130, e130, hx130_0⟩ := Kd.at_int (zq19 HR120_0) 0 p130 q130
 obtain rfl : ad121 = ad130 := (by injection e130)
 have qi130 : (0 < (rd_L6 y114 x19_1).length) = True := eq_true (by omega)
 (try rw [show ((0 : Int)).toNat = 0 from rfl] at hx130_0)
 (try rw [Addr.add_zero'] at hx130_0)
 replace p130 := eq_true p130
 replace q130 := eq_true q130
 have p131 : 0 ≤ (1 : Int) := (by omega)
 have q131 : 1 < ((rd_L6 y114 x19_1).length : Int) := zde zq16
 obtain ⟨ad131, e131, hx131_0⟩ := Kd.at_int (zq19 HR120_0) 1 p131 q131
 obtain rfl : ad121 = ad131 := (by injection e131)
 (try simp only [show (1 : Int).toNat = 1 from rfl, Nat.reduceMul, Nat.reduceEqDiff, Go.Addr.add, ↓reduceIte] at hx131_0)
 have qi131 : (1 < (rd_L6 y114 x19_1).length) = True := eq_true (by omega)
 (try rw [show ((1 : Int)).toNat = 1 from rfl] at hx131_0)
 replace p131 := eq_true p131
 replace q131 := eq_true q131
 refine start_ (n := 21) (S := fun w' => w'.cell? ad121 = some (.int .i64 (rd (rd_L6 y114 x19_1) 0)) ∧ w'.cell? ⟨ad121.block, ad121.off + 1, none⟩ = some (.int .i64 (rd (rd_L6 y114 x19_1) 1)) ∧ w'.cell? ad121 = some (.int .i64 (rd (rd_L6 y114 x19_1) 0)) ∧ w'.cell? ⟨ad121.block, ad121.off + 1, none⟩ = some (.int .i64 (rd (rd_L6 y114 x19_1) 1)) ∧ True) (ds := []) #[false, false, false, false, false, false, false, false, false, false, false, false, false, false, false, false, false, false, false, false, false] zq22 rfl rfl ⟨hx121_0, hx122_0, hx130_0, hx131_0, trivial⟩ (fun hHeld => ?_); refine with_tabW spec_suReaches.tab5 spec_suReaches.bits5 (fun HT_ HW_ => ?_)
 generalize wr.drew = w30 at HO_17 HL120_0 HR120_0 HB hx121_0 hx122_0 hx130_0 hx131_0 hHeld ⊢
 refine zpu 0 23 HT_ ?_
 refine zpu 1 24 HT_ ?_
 refine zpu 2 25 HT_ ?_
 refine zpu 4 27 HT_ ?_
 refine zpu 5 28 HT_ ?_
 refine zpu 9 32 HT_ ?_
 refine zpu 12 35 HT_ ?_
 refine zpu 13 36 HT_ ?_
 refine zpu 14 37 HT_ ?_
 refine zpu 16 39 HT_ ?_
 refine zpu 17 40 HT_ ?_
 refine ztu 3 26 HT_ HW_ hHeld ?_
 refine ztu 6 29 HT_ HW_ hHeld ?_
 refine ztu 15 38 HT_ HW_ hHeld ?_
 refine ztu 18 41 HT_ HW_ hHeld ?_
 refine one_ (i := 7) (N := some 30) #[true, true, true, true, true, true, true, true, false, true, false, false, true, true, true, true, true, true, true, false, false] rfl rfl (one_of HT_.out zq22) (by decide) (fun K hK => ?_)
 refine zgo Try.func68 (spec_cdStart.calls (rd (rd_L6 y114 x19_1) 0) (rd (rd_L6 y114 x19_1) 1) t123 _ A24.out) ?_
 rintro e w31 ⟨v124, rfl, ho0, hb⟩
 have HS0_ := (hb.cell (World.block_lt_of_cell? _ _ (hHeld.1))).trans (hHeld.1)
 have HS1_ := (hb.cell (World.block_lt_of_cell? _ _ (hHeld.2.1))).trans (hHeld.2.1)
 have HS2_ := (hb.cell (World.block_lt_of_cell? _ _ (hHeld.2.2.1))).trans (hHeld.2.2.1)
 have HS3_ := (hb.cell (World.block_lt_of_cell? _ _ (hHeld.2.2.2.1))).trans (hHeld.2.2.2.1)
 refine ⟨_, rfl, ?_⟩
 replace HO_17 := zA (Kd.N_elder' (zq30 HO_17) (Kd.R_base ho0) hb)
 replace HL120_0 := zA (Kd.V_elder' (zq14 HL120_0) (Kd.R_base ho0) hb)
 have HO125 := zA (Kd.R_lower ho0 (below_size zq2))
 replace HR120_0 := zA (zCb (zq19 HR120_0) hb)
 replace HB := zA (below_step zq2 hb)
 (try clear hb)
 (try clear hb2)
 (try clear hk)
 (try clear hi)
 (try clear ho0)
 obtain ⟨Ao32, co32, eo32⟩ := Kd.R_slice HO125.out
 (first | subst eo32 | (injection eo32 with f1_ f2_ f3_; have f4_ := f1_.symm; have f5_ := f3_.symm; clear f1_ f2_ f3_; subst f4_; subst f5_))
 refine hK.out _ _ ⟨HS0_, HS1_, HS2_, HS3_, trivial⟩ (fun hHeld => ?_)
 clear hK K
 refine znm 30 ?_
 refine one_ (i := 8) (N := some 31) #[true, true, true, true, true, true, true, true, true, true, false, false, true, true, true, true, true, true, true, false, false] rfl rfl (one_of HT_.out zq22) (by decide) (fun K hK => ?_)
 refine goes_ Try.func67 zq22 rfl #[.slice A1 l1.length c1, .slice Ao32 t123.length co32] (by rfl) rfl rfl zq10 ?_
 with_reducible refine (spec_cdRun.calls k1 _ _ l1 _ _ t123 t126 _ ?side1 ?side2 ?side3 ?side4 A25.out).mono ?_
 (case side1 => repeat (first | exact (zCb HR1.out HB.out) | (with_reducible first | refine zCa ?_ _ | refine zCn ?_ _ | refine zCd ?_)))
 (case side2 => exact HC1.out)
 (case side3 => repeat (first | exact (zRr HO125.out).2.2 | (with_reducible first | refine zCa ?_ _ | refine zCn ?_ _ | refine zCd ?_)))
 (case side4 => exact (zRr HO125.out).2.1)
 rintro e w33 ⟨v127, rfl, ho0, hb⟩
 have HS0_ := (hb.cell (World.block_lt_of_cell? _ _ (hHeld.1))).trans (hHeld.1)
 have HS1_ := (hb.cell (World.block_lt_of_cell? _ _ (hHeld.2.1))).trans (hHeld.2.1)
 have HS2_ := (hb.cell (World.block_lt_of_cell? _ _ (hHeld.2.2.1))).trans (hHeld.2.2.1)
 have HS3_ := (hb.cell (World.block_lt_of_cell? _ _ (hHeld.2.2.2.1))).trans (hHeld.2.2.2.1)
 refine ⟨_, rfl, ?_⟩
 replace HO_17 := zA (Kd.N_elder' (zq30 HO_17) (Kd.R_base ho0) hb)
 replace HL120_0 := zA (Kd.V_elder' (zq14 HL120_0) (Kd.R_base ho0) hb)
 have HO128 := zA (Kd.R_lower (Kd.R_new' ho0 (Kd.R_lt (zq3 HO125))) (below_size zq2))
 replace HO125 := zA (Kd.R_elder' (zq3 HO125) (Kd.R_base ho0) hb)
 replace HR120_0 := zA (zCb (zq19 HR120_0) hb)
 replace HB := zA (below_step zq2 hb)
 (try clear hb)
 (try clear hb2)
 (try clear hk)
 (try clear hi)
 (try clear ho0)
 obtain ⟨Ao34, co34, eo34⟩ := Kd.R_slice HO128.out
 (first | subst eo34 | (injection eo34 with f1_ f2_ f3_; have f4_ := f1_.symm; have f5_ := f3_.symm; clear f1_ f2_ f3_; subst f4_; subst f5_))
 obtain ⟨p129, q129⟩ := zpq t101 t126.length
 obtain ⟨ad129, e129, hx129_0⟩ := Kd.at_int (zRr HO128.out).2.2 t101 (zoe p129) (zoe q129)
 cases e129
 refine hK.out _ _ ⟨HS0_, HS1_, HS2_, HS3_, trivial⟩ (fun hHeld => ?_)
 clear hK K
 refine znm 31 ?_
 refine more_ (S' := fun w' => w'.cell? ad121 = some (.int .i64 (rd (rd_L6 y114 x19_1) 0)) ∧ w'.cell? ⟨ad121.block, ad121.off + 1, none⟩ = some (.int .i64 (rd (rd_L6 y114 x19_1) 1)) ∧ w'.cell? ad121 = some (.int .i64 (rd (rd_L6 y114 x19_1) 0)) ∧ w'.cell? ⟨ad121.block, ad121.off + 1, none⟩ = some (.int .i64 (rd (rd_L6 y114 x19_1) 1)) ∧ w'.cell? (ad129.add (t101).toNat) = some (.int .i64 (rd t126 t101))) (fun _ s => ⟨s.1, s.2.1, s.2.2.1, s.2.2.2.1, trivial⟩) ⟨hHeld.1, hHeld.2.1, hHeld.2.2.1, hHeld.2.2.2.1, hx129_0⟩ (fun hHeld => ?_)
 refine zpu 10 33 HT_ ?_
 refine ztu 11 34 HT_ HW_ hHeld ?_
 refine one_ (i := 19) (N := some 42) #[true, true, true, true, true, true, true, true, true, true, true, true, true, true, true, true, true, true, true, true, false] rfl rfl (one_of HT_.out zq22) (by decide) (fun K hK => ?_)
 refine goes_ Try.func69 zq22 rfl #[.slice A0 l0.length c0, .int .i64 (rd (rd_L6 y114 x19_1) 0), .int .i64 (rd (rd_L6 y114 x19_1) 1)] (by rfl) rfl rfl zq10 ?_
 with_reducible refine (spec_exAt.calls k1 _ _ l0 (rd (rd_L6 y114 x19_1) 0) (rd (rd_L6 y114 x19_1) 1) t132 _ ?side1 ?side2 A28.out).mono ?_
 (case side1 => repeat (first | exact (zCb HR0.out HB.out) | (with_reducible first | refine zCa ?_ _ | refine zCn ?_ _ | refine zCd ?_)))
 (case side2 => exact HC0.out)
 rintro e w35 ⟨rfl, hb⟩
 have HS0_ := (hb.cell (World.block_lt_of_cell? _ _ (hHeld.1))).trans (hHeld.1)
 have HS1_ := (hb.cell (World.block_lt_of_cell? _ _ (hHeld.2.1))).trans (hHeld.2.1)
 have HS2_ := (hb.cell (World.block_lt_of_cell? _ _ (hHeld.2.2.1))).trans (hHeld.2.2.1)
 have HS3_ := (hb.cell (World.block_lt_of_cell? _ _ (hHeld.2.2.2.1))).trans (hHeld.2.2.2.1)
 have HS4_ := (hb.cell (World.block_lt_of_cell? _ _ (hHeld.2.2.2.2))).trans (hHeld.2.2.2.2)
 refine ⟨_, rfl, ?_⟩
 replace HO_17 := zA (Kd.N_below (zq30 HO_17) hb)
 replace HL120_0 := zA (Kd.V_below (zq14 HL120_0) hb)
 replace HO125 := zA (zRb (zq3 HO125) hb)
 replace HO128 := zA (zRb (zq3 HO128) hb)
 replace HR120_0 := zA (zCb (zq19 HR120_0) hb)
 replace HB := zA (below_step zq2 hb)
 (try clear hb)
 (try clear hb2)
 (try clear hk)
 (try clear hi)
 refine hK.out _ _ ⟨HS0_, HS1_, HS2_, HS3_, HS4_⟩ (fun hHeld => ?_)
 clear hK K
 refine znm 42 ?_
 refine zpu 20 43 HT_ ?_
 refine done_ (done_of HT_.out zq22) ?_
 try go_wp2
 go_roundg k1
 case measure => have := HK1.out; omega
 case rel => exact ⟨(wrap64 (x19_1 + 1)), zq7, H', ⟨zq37 HK1⟩, ⟨by (with_reducible repeat (first | apply Kd.N_alloc | apply Kd.N_drewN | apply Kd.N_drew)); exact Kd.N_mono HO_17.out (fun _ hk => trivial)⟩, ⟨zq2⟩⟩
def spec_ProgramReaches.f (k : Nat) (l0 : List (S60)) (l1_0 : List ByteArray) (l1_1 : List Int) (l2 : List (S64)) : Option (Bool × Bool) := (spec_exGood.f k l0).bind fun t102 => (if t102 = true then ((spec_suGood.f k l1_0 l1_1).bind fun t103 => (if t103 = true then ((spec_suIs.f k l1_0 l1_1 l2).bind fun t104 => (if t104 = true then ((spec_suReaches.f k l0 l2).bind fun t105 => (some (t105, true))) else (some (false, false)))) else (some (false, false)))) else (some (false, false)))
theorem spec_ProgramReaches.mono : ∀ a0 a1 a2 a3 k, LeO (spec_ProgramReaches.f k a0 a1 a2 a3) (spec_ProgramReaches.f (k + 1) a0 a1 a2 a3) := by
 intro a0 a1 a2 a3 k
 unfold spec_ProgramReaches.f
 exact zm4 spec_exGood.mono spec_suGood.mono spec_suIs.mono spec_suReaches.mono
theorem spec_ProgramReaches.calls (k : Nat) (A0 : Option Addr) (c0 : Nat) (l0 : List (S60)) (A1_0 : Option Addr) (c1_0 : Nat) (l1_0 : List ByteArray) (A1_1 : Option Addr) (c1_1 : Nat) (l1_1 : List Int) (A2 : Option Addr) (c2 : Nat) (l2 : List (S64)) (r1 : Bool) (r2 : Bool) (w : World) (hr0 : Kd.C k60 w A0 l0.length l0) (hc0 : l0.length ≤ c0) (hr1_0 : Kd.C Kd.string w A1_0 l1_0.length l1_0) (hc1_0 : l1_0.length ≤ c1_0) (hr1_1 : Kd.C (Kd.int .i64) w A1_1 l1_1.length l1_1) (hc1_1 : l1_1.length ≤ c1_1) (hr2 : Kd.C k64 w A2 l2.length l2) (hc2 : l2.length ≤ c2) (h : spec_ProgramReaches.f k l0 l1_0 l1_1 l2 = some (r1, r2)) :
   Calls Try.prog 9 #[.slice A0 l0.length c0, .agg #[.slice A1_0 l1_0.length c1_0, .slice A1_1 l1_1.length c1_1], .slice A2 l2.length c2] w fun e w' => e = .returned (.tuple #[.bool r1, .bool r2]) ∧ Below w.heap.size w w' := by
 have hu35 := Try.underlying35
 have HR0 := zA hr0
 have HC0 := zA hc0
 clear hr0 hc0
 have HR1_0 := zA hr1_0
 have HC1_0 := zA hc1_0
 clear hr1_0 hc1_0
 have HR1_1 := zA hr1_1
 have HC1_1 := zA hc1_1
 clear hr1_1 hc1_1
 have HR2 := zA hr2
 have HC2 := zA hc2
 clear hr2 hc2
 have HB := zA (Below.refl w.heap.size w)
 have H : ((spec_exGood.f k l0).bind fun t102 => (if t102 = true then ((spec_suGood.f k l1_0 l1_1).bind fun t103 => (if t103 = true then ((spec_suIs.f k l1_0 l1_1 l2).bind fun t104 => (if t104 = true then ((spec_suReaches.f k l0 l2).bind fun t105 => (some (t105, true))) else (some (false, false)))) else (some (false, false)))) else (some (false, false)))) = some (r1, r2) := h
 clear h
 replace H := zob H
 obtain ⟨t102, A40, H⟩ := H
 replace H : (if t102 = true then ((spec_suGood.f k l1_0 l1_1).bind fun t103 => (if t103 = true then ((spec_suIs.f k l1_0 l1_1 l2).bind fun t104 => (if t104 = true then ((spec_suReaches.f k l0 l2).bind fun t105 => (some (t105, true))) else (some (false, false)))) else (some (false, false)))) else (some (false, false))) = some (r1, r2) := H
 have A4 := zA A40
 clear A40
 by_cases c5 : t102 = true
 rotate_left
 · replace c5 := zbf c5
   subst c5
   replace H := zif H
   simp only [Option.some.injEq, Prod.mk.injEq] at H
   obtain ⟨rfl, rfl⟩ := H
   go_enter Try.func9, Try.ntmps9
   go_wp2_with (first | ((with_reducible refine zgd 4 ?_); refine zbx #[.slice A1_0 l1_0.length c1_0, .slice A1_1 l1_1.length c1_1] 35 ?_; intro gb101 hg w28 hbox hb; have zs := zpair zq2 hb; replace HB := zA (zs.1); have BK101 := zA (hbox); have GW101 := zA (zge hg zs.2); have GE101 := GW101; clear zs hb hbox hg) | ((with_reducible refine zgc 25 ?_); refine zca 9 Try.func25 #[.slice A0 l0.length c0] (spec_exGood.calls k _ _ l0 false _ (zq9 HR0) HC0.out A4.out) ?_; rintro e w29 ⟨rfl, hb⟩; refine ⟨_, rfl, ?_⟩; replace BK101 := zbb BK101 hb; replace HB := zA (below_step (zq1 GE101) hb); (try clear hb)))
   go_ret2
   exact ⟨zq5, zq1 GE101⟩
 subst c5
 replace H := zih H
 replace H := zob H
 obtain ⟨t103, A60, H⟩ := H
 replace H : (if t103 = true then ((spec_suIs.f k l1_0 l1_1 l2).bind fun t104 => (if t104 = true then ((spec_suReaches.f k l0 l2).bind fun t105 => (some (t105, true))) else (some (false, false)))) else (some (false, false))) = some (r1, r2) := H
 have A6 := zA A60
 clear A60
 by_cases c7 : t103 = true
 rotate_left
 · replace c7 := zbf c7
   subst c7
   replace H := zif H
   simp only [Option.some.injEq, Prod.mk.injEq] at H
   obtain ⟨rfl, rfl⟩ := H
   go_enter Try.func9, Try.ntmps9
   go_wp2_with (first | ((with_reducible refine zgd 4 ?_); refine zbx #[.slice A1_0 l1_0.length c1_0, .slice A1_1 l1_1.length c1_1] 35 ?_; intro gb101 hg w24 hbox hb; have zs := zpair zq2 hb; replace HB := zA (zs.1); have BK101 := zA (hbox); have GW101 := zA (zge hg zs.2); have GE101 := GW101; clear zs hb hbox hg) | ((with_reducible refine zgc 25 ?_); refine zca 9 Try.func25 #[.slice A0 l0.length c0] (spec_exGood.calls k _ _ l0 true _ (zq9 HR0) HC0.out A4.out) ?_; rintro e w25 ⟨rfl, hb⟩; refine ⟨_, rfl, ?_⟩; replace BK101 := zbb BK101 hb; replace HB := zA (below_step (zq1 GE101) hb); (try clear hb); obtain ⟨hcz26_0, hcz26_1⟩ := zc2 w25 (.slice A1_0 l1_0.length c1_0) (.slice A1_1 l1_1.length c1_1) BK101.out; obtain ⟨hfz26_0, hfz26_1⟩ := zf2 BK101.out) | (go_at_call 26; (with_reducible refine (spec_suGood.calls k _ _ l1_0 _ _ l1_1 false _ ?side1 ?side2 ?side3 ?side4 A6.out).mono ?_); (case side1 => repeat (first | exact (zCb HR1_0.out HB.out) | (with_reducible first | refine zCa ?_ _ | refine zCn ?_ _ | refine zCd ?_))); (case side2 => exact HC1_0.out); (case side3 => repeat (first | exact (zCb HR1_1.out HB.out) | (with_reducible first | refine zCa ?_ _ | refine zCn ?_ _ | refine zCd ?_))); (case side4 => exact HC1_1.out); rintro e w27 ⟨rfl, hb⟩; replace BK101 := zbb BK101 hb; replace HB := zA (below_step (zq1 GE101) hb); (try clear hb)))
   go_ret2
   exact ⟨zq5, zq1 GE101⟩
 subst c7
 replace H := zih H
 replace H := zob H
 obtain ⟨t104, A80, H⟩ := H
 replace H : (if t104 = true then ((spec_suReaches.f k l0 l2).bind fun t105 => (some (t105, true))) else (some (false, false))) = some (r1, r2) := H
 have A8 := zA A80
 clear A80
 by_cases c9 : t104 = true
 rotate_left
 · replace c9 := zbf c9
   subst c9
   replace H := zif H
   simp only [Option.some.injEq, Prod.mk.injEq] at H
   obtain ⟨rfl, rfl⟩ := H
   go_enter Try.func9, Try.ntmps9
   go_wp2_with (first | ((with_reducible refine zgd 4 ?_); refine zbx #[.slice A1_0 l1_0.length c1_0, .slice A1_1 l1_1.length c1_1] 35 ?_; intro gb101 hg w18 hbox hb; have zs := zpair zq2 hb; replace HB := zA (zs.1); have BK101 := zA (hbox); have GW101 := zA (zge hg zs.2); have GE101 := GW101; clear zs hb hbox hg) | ((with_reducible refine zgc 25 ?_); refine zca 9 Try.func25 #[.slice A0 l0.length c0] (spec_exGood.calls k _ _ l0 true _ (zq9 HR0) HC0.out A4.out) ?_; rintro e w19 ⟨rfl, hb⟩; refine ⟨_, rfl, ?_⟩; replace BK101 := zbb BK101 hb; replace HB := zA (below_step (zq1 GE101) hb); (try clear hb); obtain ⟨hcz20_0, hcz20_1⟩ := zc2 w19 (.slice A1_0 l1_0.length c1_0) (.slice A1_1 l1_1.length c1_1) BK101.out; obtain ⟨hfz20_0, hfz20_1⟩ := zf2 BK101.out) | (go_at_call 26; (with_reducible refine (spec_suGood.calls k _ _ l1_0 _ _ l1_1 true _ ?side1 ?side2 ?side3 ?side4 A6.out).mono ?_); (case side1 => repeat (first | exact (zCb HR1_0.out HB.out) | (with_reducible first | refine zCa ?_ _ | refine zCn ?_ _ | refine zCd ?_))); (case side2 => exact HC1_0.out); (case side3 => repeat (first | exact (zCb HR1_1.out HB.out) | (with_reducible first | refine zCa ?_ _ | refine zCn ?_ _ | refine zCd ?_))); (case side4 => exact HC1_1.out); rintro e w21 ⟨rfl, hb⟩; replace BK101 := zbb BK101 hb; replace HB := zA (below_step (zq1 GE101) hb); (try clear hb); obtain ⟨hcz22_0, hcz22_1⟩ := zc2 w21 (.slice A1_0 l1_0.length c1_0) (.slice A1_1 l1_1.length c1_1) BK101.out; obtain ⟨hfz22_0, hfz22_1⟩ := zf2 BK101.out) | (go_at_call 27; (with_reducible refine (spec_suIs.calls k _ _ l1_0 _ _ l1_1 _ _ l2 false _ ?side1 ?side2 ?side3 ?side4 ?side5 ?side6 A8.out).mono ?_); (case side1 => repeat (first | exact (zCb HR1_0.out HB.out) | (with_reducible first | refine zCa ?_ _ | refine zCn ?_ _ | refine zCd ?_))); (case side2 => exact HC1_0.out); (case side3 => repeat (first | exact (zCb HR1_1.out HB.out) | (with_reducible first | refine zCa ?_ _ | refine zCn ?_ _ | refine zCd ?_))); (case side4 => exact HC1_1.out); (case side5 => repeat (first | exact (zCb HR2.out HB.out) | (with_reducible first | refine zCa ?_ _ | refine zCn ?_ _ | refine zCd ?_))); (case side6 => exact HC2.out); rintro e w23 ⟨rfl, hb⟩; replace BK101 := zbb BK101 hb; replace HB := zA (below_step (zq1 GE101) hb); (try clear hb)))
   go_ret2
   exact ⟨zq5, zq1 GE101⟩
 subst c9
 replace H := zih H
 replace H := zob H
 obtain ⟨t105, A100, H⟩ := H
 replace H : (some (t105, true)) = some (r1, r2) := H
 have A10 := zA A100
 clear A100
 simp only [Option.some.injEq, Prod.mk.injEq] at H
 obtain ⟨rfl, rfl⟩ := H
 go_enter Try.func9, Try.ntmps9
 go_wp2_with (first | ((with_reducible refine zgd 4 ?_); refine zbx #[.slice A1_0 l1_0.length c1_0, .slice A1_1 l1_1.length c1_1] 35 ?_; intro gb101 hg w11 hbox hb; have zs := zpair zq2 hb; replace HB := zA (zs.1); have BK101 := zA (hbox); have GW101 := zA (zge hg zs.2); have GE101 := GW101; clear zs hb hbox hg) | ((with_reducible refine zgc 25 ?_); refine zca 9 Try.func25 #[.slice A0 l0.length c0] (spec_exGood.calls k _ _ l0 true _ (zq9 HR0) HC0.out A4.out) ?_; rintro e w12 ⟨rfl, hb⟩; refine ⟨_, rfl, ?_⟩; replace BK101 := zbb BK101 hb; replace HB := zA (below_step (zq1 GE101) hb); (try clear hb); obtain ⟨hcz13_0, hcz13_1⟩ := zc2 w12 (.slice A1_0 l1_0.length c1_0) (.slice A1_1 l1_1.length c1_1) BK101.out; obtain ⟨hfz13_0, hfz13_1⟩ := zf2 BK101.out) | (go_at_call 26; (with_reducible refine (spec_suGood.calls k _ _ l1_0 _ _ l1_1 true _ ?side1 ?side2 ?side3 ?side4 A6.out).mono ?_); (case side1 => repeat (first | exact (zCb HR1_0.out HB.out) | (with_reducible first | refine zCa ?_ _ | refine zCn ?_ _ | refine zCd ?_))); (case side2 => exact HC1_0.out); (case side3 => repeat (first | exact (zCb HR1_1.out HB.out) | (with_reducible first | refine zCa ?_ _ | refine zCn ?_ _ | refine zCd ?_))); (case side4 => exact HC1_1.out); rintro e w14 ⟨rfl, hb⟩; replace BK101 := zbb BK101 hb; replace HB := zA (below_step (zq1 GE101) hb); (try clear hb); obtain ⟨hcz15_0, hcz15_1⟩ := zc2 w14 (.slice A1_0 l1_0.length c1_0) (.slice A1_1 l1_1.length c1_1) BK101.out; obtain ⟨hfz15_0, hfz15_1⟩ := zf2 BK101.out) | (go_at_call 27; (with_reducible refine (spec_suIs.calls k _ _ l1_0 _ _ l1_1 _ _ l2 true _ ?side1 ?side2 ?side3 ?side4 ?side5 ?side6 A8.out).mono ?_); (case side1 => repeat (first | exact (zCb HR1_0.out HB.out) | (with_reducible first | refine zCa ?_ _ | refine zCn ?_ _ | refine zCd ?_))); (case side2 => exact HC1_0.out); (case side3 => repeat (first | exact (zCb HR1_1.out HB.out) | (with_reducible first | refine zCa ?_ _ | refine zCn ?_ _ | refine zCd ?_))); (case side4 => exact HC1_1.out); (case side5 => repeat (first | exact (zCb HR2.out HB.out) | (with_reducible first | refine zCa ?_ _ | refine zCn ?_ _ | refine zCd ?_))); (case side6 => exact HC2.out); rintro e w16 ⟨rfl, hb⟩; replace BK101 := zbb BK101 hb; replace HB := zA (below_step (zq1 GE101) hb); (try clear hb)) | ((with_reducible refine zgc 28 ?_); refine zca 24 Try.func28 #[.slice A0 l0.length c0, .slice A2 l2.length c2] (spec_suReaches.calls k _ _ l0 _ _ l2 t105 _ (zq9 HR0) HC0.out (zq9 HR2) HC2.out A10.out) ?_; rintro e w17 ⟨rfl, hb⟩; refine ⟨_, rfl, ?_⟩; replace BK101 := zbb BK101 hb; replace HB := zA (below_step (zq1 GE101) hb); (try clear hb)))
 go_ret2
 exact ⟨zq5, zq1 GE101⟩
def laws_FnExactProgramReaches.j0 : Nat → List (S50) → List (S55) → List (S60) → List (S64) → Bool → List ByteArray → List Int → List ByteArray → List Int → Option (Bool)
 | 0, _, _, _, _, _, _, _, _, _ => none
 | k + 1, x0, x2, x10, x12, x60, x102000, x102001, x129000, x129001 => if x60 = true then (some false) else ((laws_toNodeS.f k x0).bind fun t134 => ((laws_eqNodeS.f k x10 t134).bind fun t137 => (if t137 = true then ((laws_toChoice.f k x102000 x102001).bind fun bt138 => ((laws_eqChoice.f k x129000 x129001 bt138.1 bt138.2).bind fun t144 => (if t144 = true then ((laws_toInstrS.f k x2).bind fun t145 => ((laws_eqInstrS.f k x12 t145).bind fun t148 => (if t148 = true then (some true) else (some false)))) else (some false)))) else (some false))))
def laws_FnExactProgramReaches.f (k : Nat) (l0 : List (S50)) (l1_0 : List ByteArray) (l1_1 : List Int) (l2 : List (S55)) : Option (Bool) := (laws_szNodeS.f k l0 1048576).bind fun t102 => (if t102 < 0 then (some true) else ((laws_szChoice.f k l1_0 l1_1 t102).bind fun t103 => (if t103 < 0 then (some true) else ((laws_szInstrS.f k l2 t103).bind fun t104 => (if t104 < 0 then (some true) else ((laws_toNodeS.f k l0).bind fun t105 => ((laws_toChoice.f k l1_0 l1_1).bind fun bt108 => ((laws_toInstrS.f k l2).bind fun t114 => ((spec_ProgramReaches.f k t105 bt108.1 bt108.2 t114).bind fun bt117 => ((laws_toNodeS.f k l0).bind fun t119 => ((laws_toChoice.f k l1_0 l1_1).bind fun bt122 => ((laws_toInstrS.f k l2).bind fun t129 => ((impl_ProgramReaches.f k t119 bt122.1 bt122.2 t129).bind fun bt132 => (if (bt132.1 != bt117.1) = true then (laws_FnExactProgramReaches.j0 k l0 l2 t119 t129 true l1_0 l1_1 bt122.1 bt122.2) else (laws_FnExactProgramReaches.j0 k l0 l2 t119 t129 (bt132.2 != bt117.2) l1_0 l1_1 bt122.1 bt122.2)))))))))))))))
theorem laws_FnExactProgramReaches.mono_l : ∀ k, (∀ y0 y1 y2 y3 y4 y5 y6 y7 y8, LeO (laws_FnExactProgramReaches.j0 k y0 y1 y2 y3 y4 y5 y6 y7 y8) (laws_FnExactProgramReaches.j0 (k + 1) y0 y1 y2 y3 y4 y5 y6 y7 y8))
 | 0 => fun _ _ _ _ _ _ _ _ _ r h => by simp [laws_FnExactProgramReaches.j0] at h
 | k + 1 => by
   have ih0 := laws_FnExactProgramReaches.mono_l k
   · intro y0 y1 y2 y3 y4 y5 y6 y7 y8
     unfold laws_FnExactProgramReaches.j0
     repeat' first
     | (with_reducible first | exact ih0 _ _ _ _ _ _ _ _ _ | exact impl_ProgramReaches.mono _ _ _ _ _ | exact laws_eqChoice.mono _ _ _ _ _ | exact laws_eqInstrS.mono _ _ _ | exact laws_eqNodeS.mono _ _ _ | exact laws_szChoice.mono _ _ _ _ | exact laws_szInstrS.mono _ _ _ | exact laws_szNodeS.mono _ _ _ | exact laws_toChoice.mono _ _ _ | exact laws_toInstrS.mono _ _ | exact laws_toNodeS.mono _ _ | exact spec_ProgramReaches.mono _ _ _ _ _ | exact LeO.refl _ | exact LeO.none _ | refine LeO.ite ?_ ?_ | refine LeO.bind ?_ (fun _ => ?_))
     | exact LeO.none _
     | refine LeO.ite ?_ ?_
     | refine LeO.bind ?_ (fun _ => ?_)
theorem laws_FnExactProgramReaches.mono : ∀ a0 a1 a2 a3 k, LeO (laws_FnExactProgramReaches.f k a0 a1 a2 a3) (laws_FnExactProgramReaches.f (k + 1) a0 a1 a2 a3) := by
 intro a0 a1 a2 a3 k
 have ih0 := laws_FnExactProgramReaches.mono_l k
 unfold laws_FnExactProgramReaches.f
 repeat' first
     | (with_reducible first | exact ih0 _ _ _ _ _ _ _ _ _ | exact impl_ProgramReaches.mono _ _ _ _ _ | exact laws_eqChoice.mono _ _ _ _ _ | exact laws_eqInstrS.mono _ _ _ | exact laws_eqNodeS.mono _ _ _ | exact laws_szChoice.mono _ _ _ _ | exact laws_szInstrS.mono _ _ _ | exact laws_szNodeS.mono _ _ _ | exact laws_toChoice.mono _ _ _ | exact laws_toInstrS.mono _ _ | exact laws_toNodeS.mono _ _ | exact spec_ProgramReaches.mono _ _ _ _ _ | exact LeO.refl _ | exact LeO.none _ | refine LeO.ite ?_ ?_ | refine LeO.bind ?_ (fun _ => ?_))
     | exact LeO.none _
     | refine LeO.ite ?_ ?_
     | refine LeO.bind ?_ (fun _ => ?_)
def laws_FnExactProgramReaches.T11 : Bool × List (List Nat × List Nat) := (true, [([], []), ([0], [0]), ([], []), ([2, 1], [2]), ([], []), ([4, 3], [4]), ([1, 3, 5, 5], [1, 3, 5]), ([6], [6]), ([7], [7]), ([7], [7]), ([8, 6, 0, 1, 2, 3, 4, 5, 6, 7, 8], [8]), ([9, 10, 0, 1, 2, 3, 4, 5, 6, 7, 8, 9, 10], [9])])
def laws_FnExactProgramReaches.B11 : List Nat := [0, 1, 0, 7, 0, 31, 63, 127, 255, 255, 511, 2047]
theorem laws_FnExactProgramReaches.tab11 : rtab .any (opsOf Try.f3 11) = laws_FnExactProgramReaches.T11 := by kernel_rfl
theorem laws_FnExactProgramReaches.bits11 : waitsOk laws_FnExactProgramReaches.T11.2 laws_FnExactProgramReaches.B11 = true := by kernel_rfl
theorem laws_FnExactProgramReaches.calls (k : Nat) (A0 : Option Addr) (c0 : Nat) (l0 : List (S50)) (A1_0 : Option Addr) (c1_0 : Nat) (l1_0 : List ByteArray) (A1_1 : Option Addr) (c1_1 : Nat) (l1_1 : List Int) (A2 : Option Addr) (c2 : Nat) (l2 : List (S55)) (r : Bool) (w : World) (hr0 : Kd.C k50 w A0 l0.length l0) (hc0 : l0.length ≤ c0) (hr1_0 : Kd.C Kd.string w A1_0 l1_0.length l1_0) (hc1_0 : l1_0.length ≤ c1_0) (hr1_1 : Kd.C (Kd.int .i64) w A1_1 l1_1.length l1_1) (hc1_1 : l1_1.length ≤ c1_1) (hr2 : Kd.C k55 w A2 l2.length l2) (hc2 : l2.length ≤ c2) (h : laws_FnExactProgramReaches.f k l0 l1_0 l1_1 l2 = some r) :
   Calls Try.prog 3 #[.slice A0 l0.length c0, .agg #[.slice A1_0 l1_0.length c1_0, .slice A1_1 l1_1.length c1_1], .slice A2 l2.length c2] w fun e w' => e = .returned (.bool r) ∧ Below w.heap.size w w' := by
 have hu26 := Try.underlying26
 have hu35 := Try.underlying35
 have HR0 := zA hr0
 have HC0 := zA hc0
 clear hr0 hc0
 have HR1_0 := zA hr1_0
 have HC1_0 := zA hc1_0
 clear hr1_0 hc1_0
 have HR1_1 := zA hr1_1
 have HC1_1 := zA hc1_1
 clear hr1_1 hc1_1
 have HR2 := zA hr2
 have HC2 := zA hc2
 clear hr2 hc2
 have HB := zA (Below.refl w.heap.size w)
 have H : ((laws_szNodeS.f k l0 1048576).bind fun t102 => (if t102 < 0 then (some true) else ((laws_szChoice.f k l1_0 l1_1 t102).bind fun t103 => (if t103 < 0 then (some true) else ((laws_szInstrS.f k l2 t103).bind fun t104 => (if t104 < 0 then (some true) else ((laws_toNodeS.f k l0).bind fun t105 => ((laws_toChoice.f k l1_0 l1_1).bind fun bt108 => ((laws_toInstrS.f k l2).bind fun t114 => ((spec_ProgramReaches.f k t105 bt108.1 bt108.2 t114).bind fun bt117 => ((laws_toNodeS.f k l0).bind fun t119 => ((laws_toChoice.f k l1_0 l1_1).bind fun bt122 => ((laws_toInstrS.f k l2).bind fun t129 => ((impl_ProgramReaches.f k t119 bt122.1 bt122.2 t129).bind fun bt132 => (if (bt132.1 != bt117.1) = true then (laws_FnExactProgramReaches.j0 k l0 l2 t119 t129 true l1_0 l1_1 bt122.1 bt122.2) else (laws_FnExactProgramReaches.j0 k l0 l2 t119 t129 (bt132.2 != bt117.2) l1_0 l1_1 bt122.1 bt122.2)))))))))))))))) = some r := h
 clear h
 replace H := zob H
 obtain ⟨t102, A40, H⟩ := H
 replace H : (if t102 < 0 then (some true) else ((laws_szChoice.f k l1_0 l1_1 t102).bind fun t103 => (if t103 < 0 then (some true) else ((laws_szInstrS.f k l2 t103).bind fun t104 => (if t104 < 0 then (some true) else ((laws_toNodeS.f k l0).bind fun t105 => ((laws_toChoice.f k l1_0 l1_1).bind fun bt108 => ((laws_toInstrS.f k l2).bind fun t114 => ((spec_ProgramReaches.f k t105 bt108.1 bt108.2 t114).bind fun bt117 => ((laws_toNodeS.f k l0).bind fun t119 => ((laws_toChoice.f k l1_0 l1_1).bind fun bt122 => ((laws_toInstrS.f k l2).bind fun t129 => ((impl_ProgramReaches.f k t119 bt122.1 bt122.2 t129).bind fun bt132 => (if (bt132.1 != bt117.1) = true then (laws_FnExactProgramReaches.j0 k l0 l2 t119 t129 true l1_0 l1_1 bt122.1 bt122.2) else (laws_FnExactProgramReaches.j0 k l0 l2 t119 t129 (bt132.2 != bt117.2) l1_0 l1_1 bt122.1 bt122.2))))))))))))))) = some r := H
 have A4 := zA A40
 clear A40
 by_cases c5 : t102 < 0
 · rw [if_pos c5] at H
   have c5b0 := zdt c5
   clear c5
   obtain rfl := zsi H
   go_enter Try.func3, Try.ntmps3
   go_wp2_with (first | ((with_reducible refine zgd 4 ?_); refine zbx #[.slice A1_0 l1_0.length c1_0, .slice A1_1 l1_1.length c1_1] 26 ?_; intro gb101 hg w6 hbox hb; have zs := zpair zq2 hb; replace HB := zA (zs.1); have BK101 := zA (hbox); have GW101 := zA (zge hg zs.2); have GE101 := GW101; clear zs hb hbox hg) | ((with_reducible refine zgc 6 ?_); refine zca 17 Try.func6 #[.slice A0 l0.length c0, .int .i64 1048576] (laws_szNodeS.calls k _ _ l0 1048576 t102 _ (zq9 HR0) HC0.out A4.out) ?_; rintro e w7 ⟨rfl, hb⟩; refine ⟨_, rfl, ?_⟩; replace BK101 := zbb BK101 hb; replace HB := zA (below_step (zq1 GE101) hb); (try clear hb)))
   go_ret
   exact ⟨zq5, zq1 GE101⟩
 rw [if_neg c5] at H
 have c5b0 := zdf c5
 clear c5
 replace H := zob H
 obtain ⟨t103, A80, H⟩ := H
 replace H : (if t103 < 0 then (some true) else ((laws_szInstrS.f k l2 t103).bind fun t104 => (if t104 < 0 then (some true) else ((laws_toNodeS.f k l0).bind fun t105 => ((laws_toChoice.f k l1_0 l1_1).bind fun bt108 => ((laws_toInstrS.f k l2).bind fun t114 => ((spec_ProgramReaches.f k t105 bt108.1 bt108.2 t114).bind fun bt117 => ((laws_toNodeS.f k l0).bind fun t119 => ((laws_toChoice.f k l1_0 l1_1).bind fun bt122 => ((laws_toInstrS.f k l2).bind fun t129 => ((impl_ProgramReaches.f k t119 bt122.1 bt122.2 t129).bind fun bt132 => (if (bt132.1 != bt117.1) = true then (laws_FnExactProgramReaches.j0 k l0 l2 t119 t129 true l1_0 l1_1 bt122.1 bt122.2) else (laws_FnExactProgramReaches.j0 k l0 l2 t119 t129 (bt132.2 != bt117.2) l1_0 l1_1 bt122.1 bt122.2))))))))))))) = some r := H
 have A8 := zA A80
 clear A80
 by_cases c9 : t103 < 0
 · rw [if_pos c9] at H
   have c9b0 := zdt c9
   clear c9
   obtain rfl := zsi H
   go_enter Try.func3, Try.ntmps3
   go_wp2_with (first | ((with_reducible refine zgd 4 ?_); refine zbx #[.slice A1_0 l1_0.length c1_0, .slice A1_1 l1_1.length c1_1] 26 ?_; intro gb101 hg w10 hbox hb; have zs := zpair zq2 hb; replace HB := zA (zs.1); have BK101 := zA (hbox); have GW101 := zA (zge hg zs.2); have GE101 := GW101; clear zs hb hbox hg) | ((with_reducible refine zgc 6 ?_); refine zca 17 Try.func6 #[.slice A0 l0.length c0, .int .i64 1048576] (laws_szNodeS.calls k _ _ l0 1048576 t102 _ (zq9 HR0) HC0.out A4.out) ?_; rintro e w11 ⟨rfl, hb⟩; refine ⟨_, rfl, ?_⟩; replace BK101 := zbb BK101 hb; replace HB := zA (below_step (zq1 GE101) hb); (try clear hb); obtain ⟨hcz12_0, hcz12_1⟩ := zc2 w11 (.slice A1_0 l1_0.length c1_0) (.slice A1_1 l1_1.length c1_1) BK101.out; obtain ⟨hfz12_0, hfz12_1⟩ := zf2 BK101.out) | ((with_reducible refine zgc 7 ?_); refine zca 22 Try.func7 #[.agg #[.slice A1_0 l1_0.length c1_0, .slice A1_1 l1_1.length c1_1], .int .i64 t102] (laws_szChoice.calls k _ _ l1_0 _ _ l1_1 t102 t103 _ (zq9 HR1_0) HC1_0.out (zq9 HR1_1) HC1_1.out A8.out) ?_; rintro e w13 ⟨rfl, hb⟩; refine ⟨_, rfl, ?_⟩; replace BK101 := zbb BK101 hb; replace HB := zA (below_step (zq1 GE101) hb); (try clear hb)))
   go_ret
   exact ⟨zq5, zq1 GE101⟩
 rw [if_neg c9] at H
 have c9b0 := zdf c9
 clear c9
 replace H := zob H
 obtain ⟨t104, A140, H⟩ := H
 replace H : (if t104 < 0 then (some true) else ((laws_toNodeS.f k l0).bind fun t105 => ((laws_toChoice.f k l1_0 l1_1).bind fun bt108 => ((laws_toInstrS.f k l2).bind fun t114 => ((spec_ProgramReaches.f k t105 bt108.1 bt108.2 t114).bind fun bt117 => ((laws_toNodeS.f k l0).bind fun t119 => ((laws_toChoice.f k l1_0 l1_1).bind fun bt122 => ((laws_toInstrS.f k l2).bind fun t129 => ((impl_ProgramReaches.f k t119 bt122.1 bt122.2 t129).bind fun bt132 => (if (bt132.1 != bt117.1) = true then (laws_FnExactProgramReaches.j0 k l0 l2 t119 t129 true l1_0 l1_1 bt122.1 bt122.2) else (laws_FnExactProgramReaches.j0 k l0 l2 t119 t129 (bt132.2 != bt117.2) l1_0 l1_1 bt122.1 bt122.2))))))))))) = some r := H
 have A14 := zA A140
 clear A140
 by_cases c15 : t104 < 0
 · rw [if_pos c15] at H
   have c15b0 := zdt c15
   clear c15
   obtain rfl := zsi H
   go_enter Try.func3, Try.ntmps3
   go_wp2_with (first | ((with_reducible refine zgd 4 ?_); refine zbx #[.slice A1_0 l1_0.length c1_0, .slice A1_1 l1_1.length c1_1] 26 ?_; intro gb101 hg w16 hbox hb; have zs := zpair zq2 hb; replace HB := zA (zs.1); have BK101 := zA (hbox); have GW101 := zA (zge hg zs.2); have GE101 := GW101; clear zs hb hbox hg) | ((with_reducible refine zgc 6 ?_); refine zca 17 Try.func6 #[.slice A0 l0.length c0, .int .i64 1048576] (laws_szNodeS.calls k _ _ l0 1048576 t102 _ (zq9 HR0) HC0.out A4.out) ?_; rintro e w17 ⟨rfl, hb⟩; refine ⟨_, rfl, ?_⟩; replace BK101 := zbb BK101 hb; replace HB := zA (below_step (zq1 GE101) hb); (try clear hb); obtain ⟨hcz18_0, hcz18_1⟩ := zc2 w17 (.slice A1_0 l1_0.length c1_0) (.slice A1_1 l1_1.length c1_1) BK101.out; obtain ⟨hfz18_0, hfz18_1⟩ := zf2 BK101.out) | ((with_reducible refine zgc 7 ?_); refine zca 22 Try.func7 #[.agg #[.slice A1_0 l1_0.length c1_0, .slice A1_1 l1_1.length c1_1], .int .i64 t102] (laws_szChoice.calls k _ _ l1_0 _ _ l1_1 t102 t103 _ (zq9 HR1_0) HC1_0.out (zq9 HR1_1) HC1_1.out A8.out) ?_; rintro e w19 ⟨rfl, hb⟩; refine ⟨_, rfl, ?_⟩; replace BK101 := zbb BK101 hb; replace HB := zA (below_step (zq1 GE101) hb); (try clear hb)) | ((with_reducible refine zgc 8 ?_); refine zca 27 Try.func8 #[.slice A2 l2.length c2, .int .i64 t103] (laws_szInstrS.calls k _ _ l2 t103 t104 _ (zq9 HR2) HC2.out A14.out) ?_; rintro e w20 ⟨rfl, hb⟩; refine ⟨_, rfl, ?_⟩; replace BK101 := zbb BK101 hb; replace HB := zA (below_step (zq1 GE101) hb); (try clear hb)))
   go_ret
   exact ⟨zq5, zq1 GE101⟩
 rw [if_neg c15] at H
 have c15b0 := zdf c15
 clear c15
 replace H := zob H
 obtain ⟨t105, A210, H⟩ := H
 replace H : ((laws_toChoice.f k l1_0 l1_1).bind fun bt108 => ((laws_toInstrS.f k l2).bind fun t114 => ((spec_ProgramReaches.f k t105 bt108.1 bt108.2 t114).bind fun bt117 => ((laws_toNodeS.f k l0).bind fun t119 => ((laws_toChoice.f k l1_0 l1_1).bind fun bt122 => ((laws_toInstrS.f k l2).bind fun t129 => ((impl_ProgramReaches.f k t119 bt122.1 bt122.2 t129).bind fun bt132 => (if (bt132.1 != bt117.1) = true then (laws_FnExactProgramReaches.j0 k l0 l2 t119 t129 true l1_0 l1_1 bt122.1 bt122.2) else (laws_FnExactProgramReaches.j0 k l0 l2 t119 t129 (bt132.2 != bt117.2) l1_0 l1_1 bt122.1 bt122.2))))))))) = some r := H
 have A21 := zA A210
 clear A210
 replace H := zob H
 obtain ⟨⟨t108, t111⟩, A220, H⟩ := H
 replace H : ((laws_toInstrS.f k l2).bind fun t114 => ((spec_ProgramReaches.f k t105 t108 t111 t114).bind fun bt117 => ((laws_toNodeS.f k l0).bind fun t119 => ((laws_toChoice.f k l1_0 l1_1).bind fun bt122 => ((laws_toInstrS.f k l2).bind fun t129 => ((impl_ProgramReaches.f k t119 bt122.1 bt122.2 t129).bind fun bt132 => (if (bt132.1 != bt117.1) = true then (laws_FnExactProgramReaches.j0 k l0 l2 t119 t129 true l1_0 l1_1 bt122.1 bt122.2) else (laws_FnExactProgramReaches.j0 k l0 l2 t119 t129 (bt132.2 != bt117.2) l1_0 l1_1 bt122.1 bt122.2)))))))) = some r := H
 have A22 := zA A220
 clear A220
 replace H := zob H
 obtain ⟨t114, A230, H⟩ := H
 replace H : ((spec_ProgramReaches.f k t105 t108 t111 t114).bind fun bt117 => ((laws_toNodeS.f k l0).bind fun t119 => ((laws_toChoice.f k l1_0 l1_1).bind fun bt122 => ((laws_toInstrS.f k l2).bind fun t129 => ((impl_ProgramReaches.f k t119 bt122.1 bt122.2 t129).bind fun bt132 => (if (bt132.1 != bt117.1) = true then (laws_FnExactProgramReaches.j0 k l0 l2 t119 t129 true l1_0 l1_1 bt122.1 bt122.2) else (laws_FnExactProgramReaches.j0 k l0 l2 t119 t129 (bt132.2 != bt117.2) l1_0 l1_1 bt122.1 bt122.2))))))) = some r := H
 have A23 := zA A230
 clear A230
 replace H := zob H
 obtain ⟨⟨t117, t118⟩, A240, H⟩ := H
 replace H : ((laws_toNodeS.f k l0).bind fun t119 => ((laws_toChoice.f k l1_0 l1_1).bind fun bt122 => ((laws_toInstrS.f k l2).bind fun t129 => ((impl_ProgramReaches.f k t119 bt122.1 bt122.2 t129).bind fun bt132 => (if (bt132.1 != t117) = true then (laws_FnExactProgramReaches.j0 k l0 l2 t119 t129 true l1_0 l1_1 bt122.1 bt122.2) else (laws_FnExactProgramReaches.j0 k l0 l2 t119 t129 (bt132.2 != t118) l1_0 l1_1 bt122.1 bt122.2)))))) = some r := H
 have A24 := zA A240
 clear A240
 replace H := zob H
 obtain ⟨t119, A250, H⟩ := H
 replace H : ((laws_toChoice.f k l1_0 l1_1).bind fun bt122 => ((laws_toInstrS.f k l2).bind fun t129 => ((impl_ProgramReaches.f k t119 bt122.1 bt122.2 t129).bind fun bt132 => (if (bt132.1 != t117) = true then (laws_FnExactProgramReaches.j0 k l0 l2 t119 t129 true l1_0 l1_1 bt122.1 bt122.2) else (laws_FnExactProgramReaches.j0 k l0 l2 t119 t129 (bt132.2 != t118) l1_0 l1_1 bt122.1 bt122.2))))) = some r := H
 have A25 := zA A250
 clear A250
 replace H := zob H
 obtain ⟨⟨t122, t125⟩, A260, H⟩ := H
 replace H : ((laws_toInstrS.f k l2).bind fun t129 => ((impl_ProgramReaches.f k t119 t122 t125 t129).bind fun bt132 => (if (bt132.1 != t117) = true then (laws_FnExactProgramReaches.j0 k l0 l2 t119 t129 true l1_0 l1_1 t122 t125) else (laws_FnExactProgramReaches.j0 k l0 l2 t119 t129 (bt132.2 != t118) l1_0 l1_1 t122 t125)))) = some r := H
 have A26 := zA A260
 clear A260
 replace H := zob H
 obtain ⟨t129, A270, H⟩ := H
 replace H : ((impl_ProgramReaches.f k t119 t122 t125 t129).bind fun bt132 => (if (bt132.1 != t117) = true then (laws_FnExactProgramReaches.j0 k l0 l2 t119 t129 true l1_0 l1_1 t122 t125) else (laws_FnExactProgramReaches.j0 k l0 l2 t119 t129 (bt132.2 != t118) l1_0 l1_1 t122 t125))) = some r := H
 have A27 := zA A270
 clear A270
 replace H := zob H
 obtain ⟨⟨t132, t133⟩, A280, H⟩ := H
 replace H : (if (t132 != t117) = true then (laws_FnExactProgramReaches.j0 k l0 l2 t119 t129 true l1_0 l1_1 t122 t125) else (laws_FnExactProgramReaches.j0 k l0 l2 t119 t129 (t133 != t118) l1_0 l1_1 t122 t125)) = some r := H
 have A28 := zA A280
 clear A280
 have HC29 := zA H
 clear H
 go_enter Try.func3, Try.ntmps3
 try go_wp2_with (first | ((with_reducible refine zgd 4 ?_); refine zbx #[.slice A1_0 l1_0.length c1_0, .slice A1_1 l1_1.length c1_1] 26 ?_; intro gb101 hg w30 hbox hb; have zs := zpair zq2 hb; replace HB := zA (zs.1); have BK101 := zA (hbox); have GW101 := zA (zge hg zs.2); have GE101 := GW101; clear zs hb hbox hg) | ((with_reducible refine zgc 6 ?_); refine zca 17 Try.func6 #[.slice A0 l0.length c0, .int .i64 1048576] (laws_szNodeS.calls k _ _ l0 1048576 t102 _ (zq9 HR0) HC0.out A4.out) ?_; rintro e w31 ⟨rfl, hb⟩; refine ⟨_, rfl, ?_⟩; replace BK101 := zbb BK101 hb; replace HB := zA (below_step (zq1 GE101) hb); (try clear hb); obtain ⟨hcz32_0, hcz32_1⟩ := zc2 w31 (.slice A1_0 l1_0.length c1_0) (.slice A1_1 l1_1.length c1_1) BK101.out; obtain ⟨hfz32_0, hfz32_1⟩ := zf2 BK101.out) | ((with_reducible refine zgc 7 ?_); refine zca 22 Try.func7 #[.agg #[.slice A1_0 l1_0.length c1_0, .slice A1_1 l1_1.length c1_1], .int .i64 t102] (laws_szChoice.calls k _ _ l1_0 _ _ l1_1 t102 t103 _ (zq9 HR1_0) HC1_0.out (zq9 HR1_1) HC1_1.out A8.out) ?_; rintro e w33 ⟨rfl, hb⟩; refine ⟨_, rfl, ?_⟩; replace BK101 := zbb BK101 hb; replace HB := zA (below_step (zq1 GE101) hb); (try clear hb)) | ((with_reducible refine zgc 8 ?_); refine zca 27 Try.func8 #[.slice A2 l2.length c2, .int .i64 t103] (laws_szInstrS.calls k _ _ l2 t103 t104 _ (zq9 HR2) HC2.out A14.out) ?_; rintro e w34 ⟨rfl, hb⟩; refine ⟨_, rfl, ?_⟩; replace BK101 := zbb BK101 hb; replace HB := zA (below_step (zq1 GE101) hb); (try clear hb)))
 replace BK101 := zA (zkd BK101.out)
 replace HB := zA (zbd HB.out)
 refine start_ (n := 12) (S := fun w' => w'.cell? ⟨gb101, 0, none⟩ = some (.slice A1_0 l1_0.length c1_0) ∧ w'.cell? ⟨gb101, 1, none⟩ = some (.slice A1_1 l1_1.length c1_1)) (ds := []) #[false, false, false, false, false, false, false, false, false, false, false, false] zq22 rfl rfl ⟨(blk_cell BK101.out 0).trans rfl, (blk_cell BK101.out 1).trans rfl⟩ (fun hHeld => ?_); refine with_tabW laws_FnExactProgramReaches.tab11 laws_FnExactProgramReaches.bits11 (fun HT_ HW_ => ?_)
 generalize w34.drew = w35 at BK101 HB hHeld ⊢
 refine zpu 0 31 HT_ ?_
 refine zpu 4 35 HT_ ?_
 refine ztu 2 33 HT_ HW_ hHeld ?_
 refine one_ (i := 1) (N := some 32) #[true, true, true, false, true, false, false, false, false, false, false, false] rfl rfl (one_of HT_.out zq22) (by decide) (fun K hK => ?_)
 refine goes_ Try.func10 zq22 rfl #[.slice A0 l0.length c0] (by rfl) rfl rfl zq10 ?_
 with_reducible refine (laws_toNodeS.calls k _ _ l0 t105 _ ?side1 ?side2 A21.out).mono ?_
 (case side1 => repeat (first | exact (zCb HR0.out HB.out) | (with_reducible first | refine zCa ?_ _ | refine zCn ?_ _ | refine zCd ?_)))
 (case side2 => exact HC0.out)
 rintro e w36 ⟨v106, rfl, ho0, hb⟩
 refine ⟨_, rfl, ?_⟩
 have HO107 := zA (Kd.R_lower ho0 (below_size (zq1 GE101)))
 replace BK101 := zA (blk_below (g := gb101) (o := .cells #[.slice A1_0 l1_0.length c1_0, .slice A1_1 l1_1.length c1_1] 26 (0, 0)) (zq6 BK101) hb)
 replace HB := zA (below_step (zq1 GE101) hb)
 (try clear hb)
 (try clear hb2)
 (try clear hk)
 (try clear hi)
 (try clear ho0)
 refine hK.out _ _ ⟨(blk_cell BK101.out 0).trans rfl, (blk_cell BK101.out 1).trans rfl⟩ (fun hHeld => ?_)
 clear hK K
 refine znm 32 ?_
 refine one_ (i := 3) (N := some 34) #[true, true, true, true, true, false, false, false, false, false, false, false] rfl rfl (one_of HT_.out zq22) (by decide) (fun K hK => ?_)
 refine goes_ Try.func11 zq22 rfl #[.agg #[.slice A1_0 l1_0.length c1_0, .slice A1_1 l1_1.length c1_1]] (by rfl) rfl rfl zq10 ?_
 with_reducible refine (laws_toChoice.calls k _ _ l1_0 _ _ l1_1 t108 t111 _ ?side1 ?side2 ?side3 ?side4 A22.out).mono ?_
 (case side1 => repeat (first | exact (zCb HR1_0.out HB.out) | (with_reducible first | refine zCa ?_ _ | refine zCn ?_ _ | refine zCd ?_)))
 (case side2 => exact HC1_0.out)
 (case side3 => repeat (first | exact (zCb HR1_1.out HB.out) | (with_reducible first | refine zCa ?_ _ | refine zCn ?_ _ | refine zCd ?_)))
 (case side4 => exact HC1_1.out)
 rintro e w37 ⟨v109, v112, rfl, ho0, ho1, hb⟩
 refine ⟨_, rfl, ?_⟩
 replace HO107 := zA (zRb (zq3 HO107) hb)
 have HO110 := zA (Kd.R_lower ho0 (below_size (zq1 GE101)))
 have HO113 := zA (Kd.R_lower ho1 (below_size (zq1 GE101)))
 replace BK101 := zA (blk_below (g := gb101) (o := .cells #[.slice A1_0 l1_0.length c1_0, .slice A1_1 l1_1.length c1_1] 26 (0, 0)) (zq6 BK101) hb)
 replace HB := zA (below_step (zq1 GE101) hb)
 (try clear hb)
 (try clear hb2)
 (try clear hk)
 (try clear hi)
 (try clear ho0)
 (try clear ho1)
 refine hK.out _ _ ⟨(blk_cell BK101.out 0).trans rfl, (blk_cell BK101.out 1).trans rfl⟩ (fun hHeld => ?_)
 clear hK K
 refine znm 34 ?_
 refine one_ (i := 5) (N := some 36) #[true, true, true, true, true, true, false, false, false, false, false, false] rfl rfl (one_of HT_.out zq22) (by decide) (fun K hK => ?_)
 refine goes_ Try.func12 zq22 rfl #[.slice A2 l2.length c2] (by rfl) rfl rfl zq10 ?_
 with_reducible refine (laws_toInstrS.calls k _ _ l2 t114 _ ?side1 ?side2 A23.out).mono ?_
 (case side1 => repeat (first | exact (zCb HR2.out HB.out) | (with_reducible first | refine zCa ?_ _ | refine zCn ?_ _ | refine zCd ?_)))
 (case side2 => exact HC2.out)
 rintro e w38 ⟨v115, rfl, ho0, hb⟩
 refine ⟨_, rfl, ?_⟩
 replace HO107 := zA (zRb (zq3 HO107) hb)
 replace HO110 := zA (zRb (zq3 HO110) hb)
 replace HO113 := zA (zRb (zq3 HO113) hb)
 have HO116 := zA (Kd.R_lower ho0 (below_size (zq1 GE101)))
 replace BK101 := zA (blk_below (g := gb101) (o := .cells #[.slice A1_0 l1_0.length c1_0, .slice A1_1 l1_1.length c1_1] 26 (0, 0)) (zq6 BK101) hb)
 replace HB := zA (below_step (zq1 GE101) hb)
 (try clear hb)
 (try clear hb2)
 (try clear hk)
 (try clear hi)
 (try clear ho0)
 obtain ⟨Ao39, co39, eo39⟩ := Kd.R_slice HO107.out
 (first | subst eo39 | (injection eo39 with f1_ f2_ f3_; have f4_ := f1_.symm; have f5_ := f3_.symm; clear f1_ f2_ f3_; subst f4_; subst f5_))
 obtain ⟨Ao40, co40, eo40⟩ := Kd.R_slice HO110.out
 (first | subst eo40 | (injection eo40 with f1_ f2_ f3_; have f4_ := f1_.symm; have f5_ := f3_.symm; clear f1_ f2_ f3_; subst f4_; subst f5_))
 obtain ⟨Ao41, co41, eo41⟩ := Kd.R_slice HO113.out
 (first | subst eo41 | (injection eo41 with f1_ f2_ f3_; have f4_ := f1_.symm; have f5_ := f3_.symm; clear f1_ f2_ f3_; subst f4_; subst f5_))
 obtain ⟨Ao42, co42, eo42⟩ := Kd.R_slice HO116.out
 (first | subst eo42 | (injection eo42 with f1_ f2_ f3_; have f4_ := f1_.symm; have f5_ := f3_.symm; clear f1_ f2_ f3_; subst f4_; subst f5_))
 refine hK.out _ _ ⟨(blk_cell BK101.out 0).trans rfl, (blk_cell BK101.out 1).trans rfl⟩ (fun hHeld => ?_)
 clear hK K
 refine znm 36 ?_
 refine one_ (i := 6) (N := some 37) #[true, true, true, true, true, true, true, false, false, false, false, false] rfl rfl (one_of HT_.out zq22) (by decide) (fun K hK => ?_)
 refine goes_ Try.func9 zq22 rfl #[.slice Ao39 t105.length co39, .agg #[.slice Ao40 t108.length co40, .slice Ao41 t111.length co41], .slice Ao42 t114.length co42] (by rfl) rfl rfl zq10 ?_
 with_reducible refine (spec_ProgramReaches.calls k _ _ t105 _ _ t108 _ _ t111 _ _ t114 t117 t118 _ ?side1 ?side2 ?side3 ?side4 ?side5 ?side6 ?side7 ?side8 A24.out).mono ?_
 (case side1 => repeat (first | exact (zRr HO107.out).2.2 | (with_reducible first | refine zCa ?_ _ | refine zCn ?_ _ | refine zCd ?_)))
 (case side2 => exact (zRr HO107.out).2.1)
 (case side3 => repeat (first | exact (zRr HO110.out).2.2 | (with_reducible first | refine zCa ?_ _ | refine zCn ?_ _ | refine zCd ?_)))
 (case side4 => exact (zRr HO110.out).2.1)
 (case side5 => repeat (first | exact (zRr HO113.out).2.2 | (with_reducible first | refine zCa ?_ _ | refine zCn ?_ _ | refine zCd ?_)))
 (case side6 => exact (zRr HO113.out).2.1)
 (case side7 => repeat (first | exact (zRr HO116.out).2.2 | (with_reducible first | refine zCa ?_ _ | refine zCn ?_ _ | refine zCd ?_)))
 (case side8 => exact (zRr HO116.out).2.1)
 rintro e w43 ⟨rfl, hb⟩
 refine ⟨_, rfl, ?_⟩
 replace HO107 := zA (zRb (zq3 HO107) hb)
 replace HO110 := zA (zRb (zq3 HO110) hb)
 replace HO113 := zA (zRb (zq3 HO113) hb)
 replace HO116 := zA (zRb (zq3 HO116) hb)
 replace BK101 := zA (blk_below (g := gb101) (o := .cells #[.slice A1_0 l1_0.length c1_0, .slice A1_1 l1_1.length c1_1] 26 (0, 0)) (zq6 BK101) hb)
 replace HB := zA (below_step (zq1 GE101) hb)
 (try clear hb)
 (try clear hb2)
 (try clear hk)
 (try clear hi)
 refine hK.out _ _ ⟨(blk_cell BK101.out 0).trans rfl, (blk_cell BK101.out 1).trans rfl⟩ (fun hHeld => ?_)
 clear hK K
 refine znm 37 ?_
 refine zpu 7 30 HT_ ?_
 refine zpu 8 38 HT_ ?_
 refine zpu 9 39 HT_ ?_
 refine zpu 10 8 HT_ ?_
 refine zpu 11 9 HT_ ?_
 refine done_ (done_of HT_.out zq22) ?_
 go_upto_region 16 with (first | ((with_reducible refine zgc 10 ?_); refine zca 41 Try.func10 #[.slice A0 l0.length c0] (laws_toNodeS.calls k _ _ l0 t119 _ (zq9 HR0) HC0.out A25.out) ?_; rintro e w44 ⟨v120, rfl, ho0, hb⟩; refine ⟨_, rfl, ?_⟩; replace HO110 := zA (zRb (zq3 HO110) hb); replace HO113 := zA (zRb (zq3 HO113) hb); replace HO116 := zA (zRb (zq3 HO116) hb); have HO121 := zA (Kd.R_lower (Kd.R_new' ho0 (Kd.R_lt (zq3 HO107))) (below_size (zq1 GE101))); replace HO107 := zA (Kd.R_elder' (zq3 HO107) (Kd.R_base ho0) hb); replace BK101 := zbb BK101 hb; replace HB := zA (below_step (zq1 GE101) hb); (try clear hb); (try clear ho0); obtain ⟨hcz45_0, hcz45_1⟩ := zc2 w44 (.slice A1_0 l1_0.length c1_0) (.slice A1_1 l1_1.length c1_1) BK101.out; obtain ⟨hfz45_0, hfz45_1⟩ := zf2 BK101.out) | ((with_reducible refine zgc 11 ?_); refine zca 43 Try.func11 #[.agg #[.slice A1_0 l1_0.length c1_0, .slice A1_1 l1_1.length c1_1]] (laws_toChoice.calls k _ _ l1_0 _ _ l1_1 t122 t125 _ (zq9 HR1_0) HC1_0.out (zq9 HR1_1) HC1_1.out A26.out) ?_; rintro e w46 ⟨v123, v126, rfl, ho0, ho1, hb⟩; refine ⟨_, rfl, ?_⟩; replace HO107 := zA (zRb (zq3 HO107) hb); replace HO116 := zA (zRb (zq3 HO116) hb); replace HO121 := zA (zRb (zq3 HO121) hb); have HO124 := zA (Kd.R_lower (Kd.R_new' ho0 (Kd.R_lt (zq3 HO110))) (below_size (zq1 GE101))); replace HO110 := zA (Kd.R_elder' (zq3 HO110) (Kd.R_base ho0) hb); have HO127 := zA (Kd.R_lower (Kd.R_new' ho1 (Kd.R_lt (zq3 HO113))) (below_size (zq1 GE101))); replace HO113 := zA (Kd.R_elder' (zq3 HO113) (Kd.R_base ho1) hb); replace BK101 := zbb BK101 hb; replace HB := zA (below_step (zq1 GE101) hb); (try clear hb); (try clear ho0); (try clear ho1)) | ((with_reducible refine zgd 11 ?_); refine zbx #[.slice none 0 0, .slice none 0 0] 35 ?_; intro gb128 hg w47 hbox hb; have zs := zpair (zq1 GE101) hb; replace HO107 := zA (zRb (zq3 HO107) hb); replace HO110 := zA (zRb (zq3 HO110) hb); replace HO113 := zA (zRb (zq3 HO113) hb); replace HO116 := zA (zRb (zq3 HO116) hb); replace HO121 := zA (zRb (zq3 HO121) hb); replace HO124 := zA (zRb (zq3 HO124) hb); replace HO127 := zA (zRb (zq3 HO127) hb); replace HB := zA (zs.1); have BK128 := zA (hbox); have GW128 := zA (zge hg zs.2); have GE128 := GW128; have NB101_128 := zA ((zq12 BK101 : gb101 ≠ gb128)); replace BK101 := zbb BK101 hb; have NB128_101 := zA (Ne.symm NB101_128.out); clear zs hb hbox hg; obtain ⟨Ao48, co48, eo48⟩ := Kd.R_slice HO124.out; subst eo48; have hnb49 := NB128_101.out; have hnc49 := NB101_128.out; obtain ⟨hcz50_0, hcz50_1, hfz50_0, hfz50_1⟩ := zd2 BK128; obtain ⟨Ao51, co51, eo51⟩ := Kd.R_slice HO127.out; subst eo51) | ((with_reducible refine zgc 12 ?_); refine zca 45 Try.func12 #[.slice A2 l2.length c2] (laws_toInstrS.calls k _ _ l2 t129 _ (by exact zCb HR2.out (zq4 GE101 GE128)) HC2.out A27.out) ?_; rintro e w52 ⟨v130, rfl, ho0, hb⟩; refine ⟨_, rfl, ?_⟩; replace HO107 := zA (zRb (zq18 HO107 BK128) hb); replace HO110 := zA (zRb (zq18 HO110 BK128) hb); replace HO113 := zA (zRb (zq18 HO113 BK128) hb); replace HO121 := zA (zRb (zq18 HO121 BK128) hb); replace HO124 := zA (zRb (zq18 HO124 BK128) hb); replace HO127 := zA (zRb (zq18 HO127 BK128) hb); have HO131 := zA (Kd.R_lower (Kd.R_new' ho0 (Kd.R_lt (zq18 HO116 BK128))) (below_size (zq4 GE101 GE128))); replace HO116 := zA (Kd.R_elder' (zq18 HO116 BK128) (Kd.R_base ho0) hb); replace BK101 := zA (blk_below (g := gb101) (o := .cells #[.slice A1_0 l1_0.length c1_0, .slice A1_1 l1_1.length c1_1] 26 (0, 0)) (by (with_reducible repeat (first | refine zkn ?_ _ | refine zkd ?_ | refine zka ?_ _)); refine blk_far ?_ NB101_128.out _; (with_reducible repeat (first | refine zkn ?_ _ | refine zkd ?_ | refine zka ?_ _)); refine blk_far ?_ NB101_128.out _; (with_reducible repeat (first | refine zkn ?_ _ | refine zkd ?_ | refine zka ?_ _)); exact BK101.out) hb); replace BK128 := zA (blk_below (g := gb128) (o := .cells #[.slice Ao48 t122.length co48, .slice Ao51 t125.length co51] 35 (0, 0)) (by (with_reducible repeat (first | refine zkn ?_ _ | refine zkd ?_ | refine zka ?_ _)); refine blk_put (cs := #[.slice Ao48 t122.length co48, .slice none 0 0]) ?_ 1 _ rfl; (with_reducible repeat (first | refine zkn ?_ _ | refine zkd ?_ | refine zka ?_ _)); refine blk_put (cs := #[.slice none 0 0, .slice none 0 0]) ?_ 0 _ rfl; (with_reducible repeat (first | refine zkn ?_ _ | refine zkd ?_ | refine zka ?_ _)); exact BK128.out) hb); replace HB := zA (below_step (zq4 GE101 GE128) hb); (try clear hb); (try clear hk); (try clear ho0); obtain ⟨hcz53_0, hcz53_1⟩ := zc2 w52 (.slice Ao48 t122.length co48) (.slice Ao51 t125.length co51) BK128.out; obtain ⟨hfz53_0, hfz53_1⟩ := zf2 BK128.out; obtain ⟨Ao54, co54, eo54⟩ := Kd.R_slice HO121.out; subst eo54; obtain ⟨Ao55, co55, eo55⟩ := Kd.R_slice HO131.out; subst eo55) | ((with_reducible refine zgc 13 ?_); refine zca 50 Try.func13 #[.slice Ao54 t119.length co54, .agg #[.slice Ao48 t122.length co48, .slice Ao51 t125.length co51], .slice Ao55 t129.length co55] (impl_ProgramReaches.calls k _ _ t119 _ _ t122 _ _ t125 _ _ t129 t132 t133 _ (zq15 HO121) (zq46 HO121) (zq15 HO124) (zq46 HO124) (zq15 HO127) (zq46 HO127) (zq15 HO131) (zq46 HO131) A28.out) ?_; rintro e w56 ⟨rfl, hb⟩; refine ⟨_, rfl, ?_⟩; replace HO107 := zA (zRb (zq3 HO107) hb); replace HO110 := zA (zRb (zq3 HO110) hb); replace HO113 := zA (zRb (zq3 HO113) hb); replace HO116 := zA (zRb (zq3 HO116) hb); replace HO121 := zA (zRb (zq3 HO121) hb); replace HO124 := zA (zRb (zq3 HO124) hb); replace HO127 := zA (zRb (zq3 HO127) hb); replace HO131 := zA (zRb (zq3 HO131) hb); replace BK101 := zbb BK101 hb; replace BK128 := zbb BK128 hb; replace HB := zA (below_step (zq4 GE101 GE128) hb); (try clear hb)))
 (try simp only [Act.put, List.setIfInBounds_toArray, List.set_cons_zero, List.set_cons_succ])
 go_cut [60] (fun v60 wc => ∃ (kq : Nat) (x60_28 : Bool), v60 = .bool x60_28 ∧ Aside0 (laws_FnExactProgramReaches.j0 kq l0 l2 t119 t129 x60_28 l1_0 l1_1 t122 t125 = some r) ∧ Aside0 (kq ≤ k) ∧ Aside0 (Kd.R k60 60 wc w.heap.size (fun _ => True) (.slice Ao54 t119.length co54) t119) ∧ Aside0 (Kd.R k64 64 wc w.heap.size (fun _ => True) (.slice Ao55 t129.length co55) t129) ∧ Aside0 (Kd.R Kd.string 9 wc w.heap.size (fun _ => True) (.slice Ao48 t122.length co48) t122) ∧ Aside0 (Kd.R (Kd.int .i64) 3 wc w.heap.size (fun _ => True) (.slice Ao51 t125.length co51) t125) ∧ Aside0 (wc.heap[gb101]? = some (.cells #[(.slice A1_0 l1_0.length c1_0), (.slice A1_1 l1_1.length c1_1)] 26 (0, 0))) ∧ Aside0 (wc.heap[gb128]? = some (.cells #[(.slice Ao48 t122.length co48), (.slice Ao51 t125.length co51)] 35 (0, 0))) ∧ Aside0 (Below w.heap.size w wc))
 case first =>
   have H := HC29.out
   clear HC29
   by_cases c57 : (t132 != t117) = true
   rotate_left
   · rw [if_neg c57] at H
     have c57b0 : (t132 != t117) = false := by simpa using c57
     (try (have c57b1 : decide (t132 = t117) = true := by simpa using c57))
     (try (have c57b2 : (t132 == t117) = true := by simpa using c57))
     clear c57
     (first | rw [c57b0] | (simp only [i64_w, i32_w]; rw [c57b0]) | skip)
     have H' := zA H
     clear H
     go_wp2
     go_meet
     case rel => exact ⟨_, ((t133 != t118)), zq7, H', ⟨zq39⟩, ⟨zq25 HO121⟩, ⟨zq25 HO131⟩, ⟨zq25 HO124⟩, ⟨zq25 HO127⟩, ⟨zq6 BK101⟩, ⟨zq6 BK128⟩, ⟨zq4 GE101 GE128⟩⟩
   rw [if_pos c57] at H
   have c57b0 : (t132 != t117) = true := c57
   (try (have c57b1 : decide (t132 = t117) = false := by simpa using c57))
   (try (have c57b2 : (t132 == t117) = false := by simpa using c57))
   (try (have c57b3 : ¬ (t132 = t117) := by simpa using c57))
   clear c57
   (first | rw [c57b0] | (simp only [i64_w, i32_w]; rw [c57b0]) | skip)
   have H' := zA H
   clear H
   go_wp2
   go_meet
   case rel => exact ⟨_, (true), zq7, H', ⟨zq39⟩, ⟨zq25 HO121⟩, ⟨zq25 HO131⟩, ⟨zq25 HO124⟩, ⟨zq25 HO127⟩, ⟨zq6 BK101⟩, ⟨zq6 BK128⟩, ⟨zq4 GE101 GE128⟩⟩
 clear HC29
 try clear c2
 try clear c5
 try clear c5b0
 try clear c9
 try clear c9b0
 try clear c15
 try clear c15b0
 try clear c57
 try clear c57b0
 try clear c57b1
 try clear c57b2
 try clear hcz12_0
 try clear hcz12_1
 try clear hcz18_0
 try clear hcz18_1
 try clear hcz32_0
 try clear hcz32_1
 try clear hcz45_0
 try clear hcz45_1
 try clear hcz50_0
 try clear hcz50_1
 try clear hcz53_0
 try clear hcz53_1
 try clear hfz12_0
 try clear hfz12_1
 try clear hfz18_0
 try clear hfz18_1
 try clear hfz32_0
 try clear hfz32_1
 try clear hfz45_0
 try clear hfz45_1
 try clear hfz50_0
 try clear hfz50_1
 try clear hfz53_0
 try clear hfz53_1
 obtain ⟨kq, x60_28, rfl, HA, HJ28, HO_10, HO_12, HO_129000, HO_129001, BK101, BK128, HB⟩ := hcut
 cases kq with
 | zero => exact absurd HA.out (by simp [laws_FnExactProgramReaches.j0])
 | succ kj28 =>
 have H := HA.out
 clear HA
 simp only [laws_FnExactProgramReaches.j0] at H
 by_cases c58 : x60_28 = true
 · subst c58
   replace H := zih H
   obtain rfl := zsi H
   go_wp2
   go_ret
   exact ⟨zq5, zq4 GE101 GE128⟩
 replace c58 := zbf c58
 subst c58
 replace H := zif H
 replace H := zob H
 obtain ⟨t134, A590, H⟩ := H
 replace H : ((laws_eqNodeS.f kj28 t119 t134).bind fun t137 => (if t137 = true then ((laws_toChoice.f kj28 l1_0 l1_1).bind fun bt138 => ((laws_eqChoice.f kj28 t122 t125 bt138.1 bt138.2).bind fun t144 => (if t144 = true then ((laws_toInstrS.f kj28 l2).bind fun t145 => ((laws_eqInstrS.f kj28 t129 t145).bind fun t148 => (if t148 = true then (some true) else (some false)))) else (some false)))) else (some false))) = some r := H
 have A59 := zA A590
 clear A590
 replace H := zob H
 obtain ⟨t137, A600, H⟩ := H
 replace H : (if t137 = true then ((laws_toChoice.f kj28 l1_0 l1_1).bind fun bt138 => ((laws_eqChoice.f kj28 t122 t125 bt138.1 bt138.2).bind fun t144 => (if t144 = true then ((laws_toInstrS.f kj28 l2).bind fun t145 => ((laws_eqInstrS.f kj28 t129 t145).bind fun t148 => (if t148 = true then (some true) else (some false)))) else (some false)))) else (some false)) = some r := H
 have A60 := zA A600
 clear A600
 by_cases c61 : t137 = true
 rotate_left
 · replace c61 := zbf c61
   subst c61
   replace H := zif H
   obtain rfl := zsi H
   go_wp2_with (first | ((with_reducible refine zgc 10 ?_); refine zca 63 Try.func10 #[.slice A0 l0.length c0] (laws_toNodeS.calls kj28 _ _ l0 t134 _ (zq9 HR0) HC0.out A59.out) ?_; rintro e w98 ⟨v135, rfl, ho0, hb⟩; refine ⟨_, rfl, ?_⟩; replace HO_12 := zA (zRb (zq3 HO_12) hb); replace HO_129000 := zA (zRb (zq3 HO_129000) hb); replace HO_129001 := zA (zRb (zq3 HO_129001) hb); have HO136 := zA (Kd.R_lower (Kd.R_new' ho0 (Kd.R_lt (zq3 HO_10))) (below_size (zq4 GE101 GE128))); replace HO_10 := zA (Kd.R_elder' (zq3 HO_10) (Kd.R_base ho0) hb); replace BK101 := zbb BK101 hb; replace BK128 := zbb BK128 hb; replace HB := zA (below_step (zq4 GE101 GE128) hb); (try clear hb); (try clear ho0); obtain ⟨Ao99, co99, eo99⟩ := Kd.R_slice HO136.out; subst eo99) | ((with_reducible refine zgc 14 ?_); refine zca 64 Try.func14 #[.slice Ao54 t119.length co54, .slice Ao99 t134.length co99] (laws_eqNodeS.calls kj28 _ _ t119 _ _ t134 false _ (zq15 HO_10) (zq46 HO_10) (zq15 HO136) (zq46 HO136) A60.out) ?_; rintro e w100 ⟨rfl, hb⟩; refine ⟨_, rfl, ?_⟩; replace HO_10 := zA (zRb (zq3 HO_10) hb); replace HO_12 := zA (zRb (zq3 HO_12) hb); replace HO_129000 := zA (zRb (zq3 HO_129000) hb); replace HO_129001 := zA (zRb (zq3 HO_129001) hb); replace HO136 := zA (zRb (zq3 HO136) hb); replace BK101 := zbb BK101 hb; replace BK128 := zbb BK128 hb; replace HB := zA (below_step (zq4 GE101 GE128) hb); (try clear hb)))
   go_ret
   exact ⟨zq5, zq4 GE101 GE128⟩
 subst c61
 replace H := zih H
 replace H := zob H
 obtain ⟨⟨t138, t141⟩, A620, H⟩ := H
 replace H : ((laws_eqChoice.f kj28 t122 t125 t138 t141).bind fun t144 => (if t144 = true then ((laws_toInstrS.f kj28 l2).bind fun t145 => ((laws_eqInstrS.f kj28 t129 t145).bind fun t148 => (if t148 = true then (some true) else (some false)))) else (some false))) = some r := H
 have A62 := zA A620
 clear A620
 replace H := zob H
 obtain ⟨t144, A630, H⟩ := H
 replace H : (if t144 = true then ((laws_toInstrS.f kj28 l2).bind fun t145 => ((laws_eqInstrS.f kj28 t129 t145).bind fun t148 => (if t148 = true then (some true) else (some false)))) else (some false)) = some r := H
 have A63 := zA A630
 clear A630
 by_cases c64 : t144 = true
 rotate_left
 · replace c64 := zbf c64
   subst c64
   replace H := zif H
   obtain rfl := zsi H
   try go_wp2_with (first | ((with_reducible refine zgc 10 ?_); refine zca 63 Try.func10 #[.slice A0 l0.length c0] (laws_toNodeS.calls kj28 _ _ l0 t134 _ (zq9 HR0) HC0.out A59.out) ?_; rintro e w90 ⟨v135, rfl, ho0, hb⟩; refine ⟨_, rfl, ?_⟩; replace HO_12 := zA (zRb (zq3 HO_12) hb); replace HO_129000 := zA (zRb (zq3 HO_129000) hb); replace HO_129001 := zA (zRb (zq3 HO_129001) hb); have HO136 := zA (Kd.R_lower (Kd.R_new' ho0 (Kd.R_lt (zq3 HO_10))) (below_size (zq4 GE101 GE128))); replace HO_10 := zA (Kd.R_elder' (zq3 HO_10) (Kd.R_base ho0) hb); replace BK101 := zbb BK101 hb; replace BK128 := zbb BK128 hb; replace HB := zA (below_step (zq4 GE101 GE128) hb); (try clear hb); (try clear ho0); obtain ⟨Ao91, co91, eo91⟩ := Kd.R_slice HO136.out; subst eo91) | ((with_reducible refine zgc 14 ?_); refine zca 64 Try.func14 #[.slice Ao54 t119.length co54, .slice Ao91 t134.length co91] (laws_eqNodeS.calls kj28 _ _ t119 _ _ t134 true _ (zq15 HO_10) (zq46 HO_10) (zq15 HO136) (zq46 HO136) A60.out) ?_; rintro e w92 ⟨rfl, hb⟩; refine ⟨_, rfl, ?_⟩; replace HO_10 := zA (zRb (zq3 HO_10) hb); replace HO_12 := zA (zRb (zq3 HO_12) hb); replace HO_129000 := zA (zRb (zq3 HO_129000) hb); replace HO_129001 := zA (zRb (zq3 HO_129001) hb); replace HO136 := zA (zRb (zq3 HO136) hb); replace BK101 := zbb BK101 hb; replace BK128 := zbb BK128 hb; replace HB := zA (below_step (zq4 GE101 GE128) hb); (try clear hb)))
   replace HO_10 := zA (zRd HO_10.out)
   replace HO_12 := zA (zRd HO_12.out)
   replace HO_129000 := zA (zRd HO_129000.out)
   replace HO_129001 := zA (zRd HO_129001.out)
   replace HO136 := zA (zRd HO136.out)
   replace BK101 := zA (zkd BK101.out)
   replace BK128 := zA (zkd BK128.out)
   replace HB := zA (zbd HB.out)
   refine start_ (n := 5) (S := fun w' => w'.cell? ⟨gb128, 0, none⟩ = some (.slice Ao48 t122.length co48) ∧ w'.cell? ⟨gb128, 1, none⟩ = some (.slice Ao51 t125.length co51) ∧ w'.cell? ⟨gb101, 0, none⟩ = some (.slice A1_0 l1_0.length c1_0) ∧ w'.cell? ⟨gb101, 1, none⟩ = some (.slice A1_1 l1_1.length c1_1)) (ds := []) #[false, false, false, false, false] zq22 rfl rfl ⟨(blk_cell BK128.out 0).trans rfl, (blk_cell BK128.out 1).trans rfl, (blk_cell BK101.out 0).trans rfl, (blk_cell BK101.out 1).trans rfl⟩ (fun hHeld => ?_)
   generalize w92.drew = w93 at HO_10 HO_12 HO_129000 HO_129001 HO136 BK101 BK128 HB hHeld ⊢
   refine ztk 0 66 hHeld ?_
   refine ztk 1 67 hHeld ?_
   refine one_ (i := 2) (N := some 68) #[true, true, true, false, false] rfl rfl zq22 (by decide) (fun K hK => ?_)
   refine goes_ Try.func11 zq22 rfl #[.agg #[.slice A1_0 l1_0.length c1_0, .slice A1_1 l1_1.length c1_1]] (by rfl) rfl rfl zq10 ?_
   with_reducible refine (laws_toChoice.calls kj28 _ _ l1_0 _ _ l1_1 t138 t141 _ ?side1 ?side2 ?side3 ?side4 A62.out).mono ?_
   (case side1 => repeat (first | exact (zCb HR1_0.out HB.out) | (with_reducible first | refine zCa ?_ _ | refine zCn ?_ _ | refine zCd ?_)))
   (case side2 => exact HC1_0.out)
   (case side3 => repeat (first | exact (zCb HR1_1.out HB.out) | (with_reducible first | refine zCa ?_ _ | refine zCn ?_ _ | refine zCd ?_)))
   (case side4 => exact HC1_1.out)
   rintro e w94 ⟨v139, v142, rfl, ho0, ho1, hb⟩
   refine ⟨_, rfl, ?_⟩
   replace HO_10 := zA (zRb (zq3 HO_10) hb)
   replace HO_12 := zA (zRb (zq3 HO_12) hb)
   replace HO136 := zA (zRb (zq3 HO136) hb)
   have HO140 := zA (Kd.R_lower (Kd.R_new' ho0 (Kd.R_lt (zq3 HO_129000))) (below_size (zq4 GE101 GE128)))
   replace HO_129000 := zA (Kd.R_elder' (zq3 HO_129000) (Kd.R_base ho0) hb)
   have HO143 := zA (Kd.R_lower (Kd.R_new' ho1 (Kd.R_lt (zq3 HO_129001))) (below_size (zq4 GE101 GE128)))
   replace HO_129001 := zA (Kd.R_elder' (zq3 HO_129001) (Kd.R_base ho1) hb)
   replace BK101 := zA (blk_below (g := gb101) (o := .cells #[.slice A1_0 l1_0.length c1_0, .slice A1_1 l1_1.length c1_1] 26 (0, 0)) (zq6 BK101) hb)
   replace BK128 := zA (blk_below (g := gb128) (o := .cells #[.slice Ao48 t122.length co48, .slice Ao51 t125.length co51] 35 (0, 0)) (zq6 BK128) hb)
   replace HB := zA (below_step (zq4 GE101 GE128) hb)
   (try clear hb)
   (try clear hb2)
   (try clear hk)
   (try clear hi)
   (try clear ho0)
   (try clear ho1)
   obtain ⟨Ao95, co95, eo95⟩ := Kd.R_slice HO140.out
   (first | subst eo95 | (injection eo95 with f1_ f2_ f3_; have f4_ := f1_.symm; have f5_ := f3_.symm; clear f1_ f2_ f3_; subst f4_; subst f5_))
   obtain ⟨Ao96, co96, eo96⟩ := Kd.R_slice HO143.out
   (first | subst eo96 | (injection eo96 with f1_ f2_ f3_; have f4_ := f1_.symm; have f5_ := f3_.symm; clear f1_ f2_ f3_; subst f4_; subst f5_))
   refine hK.out _ _ ⟨(blk_cell BK128.out 0).trans rfl, (blk_cell BK128.out 1).trans rfl, (blk_cell BK101.out 0).trans rfl, (blk_cell BK101.out 1).trans rfl⟩ (fun hHeld => ?_)
   clear hK K
   refine znm 68 ?_
   refine one_ (i := 3) (N := some 69) #[true, true, true, true, false] rfl rfl zq22 (by decide) (fun K hK => ?_)
   refine goes_ Try.func15 zq22 rfl #[.agg #[.slice Ao48 t122.length co48, .slice Ao51 t125.length co51], .agg #[.slice Ao95 t138.length co95, .slice Ao96 t141.length co96]] (by rfl) rfl rfl zq10 ?_
   with_reducible refine (laws_eqChoice.calls kj28 _ _ t122 _ _ t125 _ _ t138 _ _ t141 false _ ?side1 ?side2 ?side3 ?side4 ?side5 ?side6 ?side7 ?side8 A63.out).mono ?_
   (case side1 => repeat (first | exact (zRr HO_129000.out).2.2 | (with_reducible first | refine zCa ?_ _ | refine zCn ?_ _ | refine zCd ?_)))
   (case side2 => exact (zRr HO_129000.out).2.1)
   (case side3 => repeat (first | exact (zRr HO_129001.out).2.2 | (with_reducible first | refine zCa ?_ _ | refine zCn ?_ _ | refine zCd ?_)))
   (case side4 => exact (zRr HO_129001.out).2.1)
   (case side5 => repeat (first | exact (zRr HO140.out).2.2 | (with_reducible first | refine zCa ?_ _ | refine zCn ?_ _ | refine zCd ?_)))
   (case side6 => exact (zRr HO140.out).2.1)
   (case side7 => repeat (first | exact (zRr HO143.out).2.2 | (with_reducible first | refine zCa ?_ _ | refine zCn ?_ _ | refine zCd ?_)))
   (case side8 => exact (zRr HO143.out).2.1)
   rintro e w97 ⟨rfl, hb⟩
   refine ⟨_, rfl, ?_⟩
   replace HO_10 := zA (zRb (zq3 HO_10) hb)
   replace HO_12 := zA (zRb (zq3 HO_12) hb)
   replace HO_129000 := zA (zRb (zq3 HO_129000) hb)
   replace HO_129001 := zA (zRb (zq3 HO_129001) hb)
   replace HO136 := zA (zRb (zq3 HO136) hb)
   replace HO140 := zA (zRb (zq3 HO140) hb)
   replace HO143 := zA (zRb (zq3 HO143) hb)
   replace BK101 := zA (blk_below (g := gb101) (o := .cells #[.slice A1_0 l1_0.length c1_0, .slice A1_1 l1_1.length c1_1] 26 (0, 0)) (zq6 BK101) hb)
   replace BK128 := zA (blk_below (g := gb128) (o := .cells #[.slice Ao48 t122.length co48, .slice Ao51 t125.length co51] 35 (0, 0)) (zq6 BK128) hb)
   replace HB := zA (below_step (zq4 GE101 GE128) hb)
   (try clear hb)
   (try clear hb2)
   (try clear hk)
   (try clear hi)
   refine hK.out _ _ ⟨(blk_cell BK128.out 0).trans rfl, (blk_cell BK128.out 1).trans rfl, (blk_cell BK101.out 0).trans rfl, (blk_cell BK101.out 1).trans rfl⟩ (fun hHeld => ?_)
   clear hK K
   refine znm 69 ?_
   refine zpk 4 70 ?_
   refine done_ zq22 ?_
   try go_wp2
   go_ret
   exact ⟨zq5, zq4 GE101 GE128⟩
 subst c64
 replace H := zih H
 replace H := zob H
 obtain ⟨t145, A650, H⟩ := H
 replace H : ((laws_eqInstrS.f kj28 t129 t145).bind fun t148 => (if t148 = true then (some true) else (some false))) = some r := H
 have A65 := zA A650
 clear A650
 replace H := zob H
 obtain ⟨t148, A660, H⟩ := H
 replace H : (if t148 = true then (some true) else (some false)) = some r := H
 have A66 := zA A660
 clear A660
 by_cases c67 : t148 = true
 · subst c67
   replace H := zih H
   obtain rfl := zsi H
   try go_wp2_with (first | ((with_reducible refine zgc 10 ?_); refine zca 63 Try.func10 #[.slice A0 l0.length c0] (laws_toNodeS.calls kj28 _ _ l0 t134 _ (zq9 HR0) HC0.out A59.out) ?_; rintro e w68 ⟨v135, rfl, ho0, hb⟩; refine ⟨_, rfl, ?_⟩; replace HO_12 := zA (zRb (zq3 HO_12) hb); replace HO_129000 := zA (zRb (zq3 HO_129000) hb); replace HO_129001 := zA (zRb (zq3 HO_129001) hb); have HO136 := zA (Kd.R_lower (Kd.R_new' ho0 (Kd.R_lt (zq3 HO_10))) (below_size (zq4 GE101 GE128))); replace HO_10 := zA (Kd.R_elder' (zq3 HO_10) (Kd.R_base ho0) hb); replace BK101 := zbb BK101 hb; replace BK128 := zbb BK128 hb; replace HB := zA (below_step (zq4 GE101 GE128) hb); (try clear hb); (try clear ho0); obtain ⟨Ao69, co69, eo69⟩ := Kd.R_slice HO136.out; subst eo69) | ((with_reducible refine zgc 14 ?_); refine zca 64 Try.func14 #[.slice Ao54 t119.length co54, .slice Ao69 t134.length co69] (laws_eqNodeS.calls kj28 _ _ t119 _ _ t134 true _ (zq15 HO_10) (zq46 HO_10) (zq15 HO136) (zq46 HO136) A60.out) ?_; rintro e w70 ⟨rfl, hb⟩; refine ⟨_, rfl, ?_⟩; replace HO_10 := zA (zRb (zq3 HO_10) hb); replace HO_12 := zA (zRb (zq3 HO_12) hb); replace HO_129000 := zA (zRb (zq3 HO_129000) hb); replace HO_129001 := zA (zRb (zq3 HO_129001) hb); replace HO136 := zA (zRb (zq3 HO136) hb); replace BK101 := zbb BK101 hb; replace BK128 := zbb BK128 hb; replace HB := zA (below_step (zq4 GE101 GE128) hb); (try clear hb)))
   replace HO_10 := zA (zRd HO_10.out)
   replace HO_12 := zA (zRd HO_12.out)
   replace HO_129000 := zA (zRd HO_129000.out)
   replace HO_129001 := zA (zRd HO_129001.out)
   replace HO136 := zA (zRd HO136.out)
   replace BK101 := zA (zkd BK101.out)
   replace BK128 := zA (zkd BK128.out)
   replace HB := zA (zbd HB.out)
   refine start_ (n := 5) (S := fun w' => w'.cell? ⟨gb128, 0, none⟩ = some (.slice Ao48 t122.length co48) ∧ w'.cell? ⟨gb128, 1, none⟩ = some (.slice Ao51 t125.length co51) ∧ w'.cell? ⟨gb101, 0, none⟩ = some (.slice A1_0 l1_0.length c1_0) ∧ w'.cell? ⟨gb101, 1, none⟩ = some (.slice A1_1 l1_1.length c1_1)) (ds := []) #[false, false, false, false, false] zq22 rfl rfl ⟨(blk_cell BK128.out 0).trans rfl, (blk_cell BK128.out 1).trans rfl, (blk_cell BK101.out 0).trans rfl, (blk_cell BK101.out 1).trans rfl⟩ (fun hHeld => ?_)
   generalize w70.drew = w71 at HO_10 HO_12 HO_129000 HO_129001 HO136 BK101 BK128 HB hHeld ⊢
   refine ztk 0 66 hHeld ?_
   refine ztk 1 67 hHeld ?_
   refine one_ (i := 2) (N := some 68) #[true, true, true, false, false] rfl rfl zq22 (by decide) (fun K hK => ?_)
   refine goes_ Try.func11 zq22 rfl #[.agg #[.slice A1_0 l1_0.length c1_0, .slice A1_1 l1_1.length c1_1]] (by rfl) rfl rfl zq10 ?_
   with_reducible refine (laws_toChoice.calls kj28 _ _ l1_0 _ _ l1_1 t138 t141 _ ?side1 ?side2 ?side3 ?side4 A62.out).mono ?_
   (case side1 => repeat (first | exact (zCb HR1_0.out HB.out) | (with_reducible first | refine zCa ?_ _ | refine zCn ?_ _ | refine zCd ?_)))
   (case side2 => exact HC1_0.out)
   (case side3 => repeat (first | exact (zCb HR1_1.out HB.out) | (with_reducible first | refine zCa ?_ _ | refine zCn ?_ _ | refine zCd ?_)))
   (case side4 => exact HC1_1.out)
   rintro e w72 ⟨v139, v142, rfl, ho0, ho1, hb⟩
   refine ⟨_, rfl, ?_⟩
   replace HO_10 := zA (zRb (zq3 HO_10) hb)
   replace HO_12 := zA (zRb (zq3 HO_12) hb)
   replace HO136 := zA (zRb (zq3 HO136) hb)
   have HO140 := zA (Kd.R_lower (Kd.R_new' ho0 (Kd.R_lt (zq3 HO_129000))) (below_size (zq4 GE101 GE128)))
   replace HO_129000 := zA (Kd.R_elder' (zq3 HO_129000) (Kd.R_base ho0) hb)
   have HO143 := zA (Kd.R_lower (Kd.R_new' ho1 (Kd.R_lt (zq3 HO_129001))) (below_size (zq4 GE101 GE128)))
   replace HO_129001 := zA (Kd.R_elder' (zq3 HO_129001) (Kd.R_base ho1) hb)
   replace BK101 := zA (blk_below (g := gb101) (o := .cells #[.slice A1_0 l1_0.length c1_0, .slice A1_1 l1_1.length c1_1] 26 (0, 0)) (zq6 BK101) hb)
   replace BK128 := zA (blk_below (g := gb128) (o := .cells #[.slice Ao48 t122.length co48, .slice Ao51 t125.length co51] 35 (0, 0)) (zq6 BK128) hb)
   replace HB := zA (below_step (zq4 GE101 GE128) hb)
   (try clear hb)
   (try clear hb2)
   (try clear hk)
   (try clear hi)
   (try clear ho0)
   (try clear ho1)
   obtain ⟨Ao73, co73, eo73⟩ := Kd.R_slice HO140.out
   (first | subst eo73 | (injection eo73 with f1_ f2_ f3_; have f4_ := f1_.symm; have f5_ := f3_.symm; clear f1_ f2_ f3_; subst f4_; subst f5_))
   obtain ⟨Ao74, co74, eo74⟩ := Kd.R_slice HO143.out
   (first | subst eo74 | (injection eo74 with f1_ f2_ f3_; have f4_ := f1_.symm; have f5_ := f3_.symm; clear f1_ f2_ f3_; subst f4_; subst f5_))
   refine hK.out _ _ ⟨(blk_cell BK128.out 0).trans rfl, (blk_cell BK128.out 1).trans rfl, (blk_cell BK101.out 0).trans rfl, (blk_cell BK101.out 1).trans rfl⟩ (fun hHeld => ?_)
   clear hK K
   refine znm 68 ?_
   refine one_ (i := 3) (N := some 69) #[true, true, true, true, false] rfl rfl zq22 (by decide) (fun K hK => ?_)
   refine goes_ Try.func15 zq22 rfl #[.agg #[.slice Ao48 t122.length co48, .slice Ao51 t125.length co51], .agg #[.slice Ao73 t138.length co73, .slice Ao74 t141.length co74]] (by rfl) rfl rfl zq10 ?_
   with_reducible refine (laws_eqChoice.calls kj28 _ _ t122 _ _ t125 _ _ t138 _ _ t141 true _ ?side1 ?side2 ?side3 ?side4 ?side5 ?side6 ?side7 ?side8 A63.out).mono ?_
   (case side1 => repeat (first | exact (zRr HO_129000.out).2.2 | (with_reducible first | refine zCa ?_ _ | refine zCn ?_ _ | refine zCd ?_)))
   (case side2 => exact (zRr HO_129000.out).2.1)
   (case side3 => repeat (first | exact (zRr HO_129001.out).2.2 | (with_reducible first | refine zCa ?_ _ | refine zCn ?_ _ | refine zCd ?_)))
   (case side4 => exact (zRr HO_129001.out).2.1)
   (case side5 => repeat (first | exact (zRr HO140.out).2.2 | (with_reducible first | refine zCa ?_ _ | refine zCn ?_ _ | refine zCd ?_)))
   (case side6 => exact (zRr HO140.out).2.1)
   (case side7 => repeat (first | exact (zRr HO143.out).2.2 | (with_reducible first | refine zCa ?_ _ | refine zCn ?_ _ | refine zCd ?_)))
   (case side8 => exact (zRr HO143.out).2.1)
   rintro e w75 ⟨rfl, hb⟩
   refine ⟨_, rfl, ?_⟩
   replace HO_10 := zA (zRb (zq3 HO_10) hb)
   replace HO_12 := zA (zRb (zq3 HO_12) hb)
   replace HO_129000 := zA (zRb (zq3 HO_129000) hb)
   replace HO_129001 := zA (zRb (zq3 HO_129001) hb)
   replace HO136 := zA (zRb (zq3 HO136) hb)
   replace HO140 := zA (zRb (zq3 HO140) hb)
   replace HO143 := zA (zRb (zq3 HO143) hb)
   replace BK101 := zA (blk_below (g := gb101) (o := .cells #[.slice A1_0 l1_0.length c1_0, .slice A1_1 l1_1.length c1_1] 26 (0, 0)) (zq6 BK101) hb)
   replace BK128 := zA (blk_below (g := gb128) (o := .cells #[.slice Ao48 t122.length co48, .slice Ao51 t125.length co51] 35 (0, 0)) (zq6 BK128) hb)
   replace HB := zA (below_step (zq4 GE101 GE128) hb)
   (try clear hb)
   (try clear hb2)
   (try clear hk)
   (try clear hi)
   refine hK.out _ _ ⟨(blk_cell BK128.out 0).trans rfl, (blk_cell BK128.out 1).trans rfl, (blk_cell BK101.out 0).trans rfl, (blk_cell BK101.out 1).trans rfl⟩ (fun hHeld => ?_)
   clear hK K
   refine znm 69 ?_
   refine zpk 4 70 ?_
   refine done_ zq22 ?_
   try go_wp2_with (first | ((with_reducible refine zgc 12 ?_); refine zca 73 Try.func12 #[.slice A2 l2.length c2] (laws_toInstrS.calls kj28 _ _ l2 t145 _ (zq9 HR2) HC2.out A65.out) ?_; rintro e w76 ⟨v146, rfl, ho0, hb⟩; refine ⟨_, rfl, ?_⟩; replace HO_10 := zA (zRb (zq3 HO_10) hb); replace HO_129000 := zA (zRb (zq3 HO_129000) hb); replace HO_129001 := zA (zRb (zq3 HO_129001) hb); replace HO136 := zA (zRb (zq3 HO136) hb); replace HO140 := zA (zRb (zq3 HO140) hb); replace HO143 := zA (zRb (zq3 HO143) hb); have HO147 := zA (Kd.R_lower (Kd.R_new' ho0 (Kd.R_lt (zq3 HO_12))) (below_size (zq4 GE101 GE128))); replace HO_12 := zA (Kd.R_elder' (zq3 HO_12) (Kd.R_base ho0) hb); replace BK101 := zbb BK101 hb; replace BK128 := zbb BK128 hb; replace HB := zA (below_step (zq4 GE101 GE128) hb); (try clear hb); (try clear ho0); obtain ⟨Ao77, co77, eo77⟩ := Kd.R_slice HO147.out; subst eo77) | ((with_reducible refine zgc 16 ?_); refine zca 74 Try.func16 #[.slice Ao55 t129.length co55, .slice Ao77 t145.length co77] (laws_eqInstrS.calls kj28 _ _ t129 _ _ t145 true _ (zq15 HO_12) (zq46 HO_12) (zq15 HO147) (zq46 HO147) A66.out) ?_; rintro e w78 ⟨rfl, hb⟩; refine ⟨_, rfl, ?_⟩; replace HO_10 := zA (zRb (zq3 HO_10) hb); replace HO_12 := zA (zRb (zq3 HO_12) hb); replace HO_129000 := zA (zRb (zq3 HO_129000) hb); replace HO_129001 := zA (zRb (zq3 HO_129001) hb); replace HO136 := zA (zRb (zq3 HO136) hb); replace HO140 := zA (zRb (zq3 HO140) hb); replace HO143 := zA (zRb (zq3 HO143) hb); replace HO147 := zA (zRb (zq3 HO147) hb); replace BK101 := zbb BK101 hb; replace BK128 := zbb BK128 hb; replace HB := zA (below_step (zq4 GE101 GE128) hb); (try clear hb)))
   go_ret
   exact ⟨zq5, zq4 GE101 GE128⟩
 replace c67 := zbf c67
 subst c67
 replace H := zif H
 obtain rfl := zsi H
 try go_wp2_with (first | ((with_reducible refine zgc 10 ?_); refine zca 63 Try.func10 #[.slice A0 l0.length c0] (laws_toNodeS.calls kj28 _ _ l0 t134 _ (zq9 HR0) HC0.out A59.out) ?_; rintro e w79 ⟨v135, rfl, ho0, hb⟩; refine ⟨_, rfl, ?_⟩; replace HO_12 := zA (zRb (zq3 HO_12) hb); replace HO_129000 := zA (zRb (zq3 HO_129000) hb); replace HO_129001 := zA (zRb (zq3 HO_129001) hb); have HO136 := zA (Kd.R_lower (Kd.R_new' ho0 (Kd.R_lt (zq3 HO_10))) (below_size (zq4 GE101 GE128))); replace HO_10 := zA (Kd.R_elder' (zq3 HO_10) (Kd.R_base ho0) hb); replace BK101 := zbb BK101 hb; replace BK128 := zbb BK128 hb; replace HB := zA (below_step (zq4 GE101 GE128) hb); (try clear hb); (try clear ho0); obtain ⟨Ao80, co80, eo80⟩ := Kd.R_slice HO136.out; subst eo80) | ((with_reducible refine zgc 14 ?_); refine zca 64 Try.func14 #[.slice Ao54 t119.length co54, .slice Ao80 t134.length co80] (laws_eqNodeS.calls kj28 _ _ t119 _ _ t134 true _ (zq15 HO_10) (zq46 HO_10) (zq15 HO136) (zq46 HO136) A60.out) ?_; rintro e w81 ⟨rfl, hb⟩; refine ⟨_, rfl, ?_⟩; replace HO_10 := zA (zRb (zq3 HO_10) hb); replace HO_12 := zA (zRb (zq3 HO_12) hb); replace HO_129000 := zA (zRb (zq3 HO_129000) hb); replace HO_129001 := zA (zRb (zq3 HO_129001) hb); replace HO136 := zA (zRb (zq3 HO136) hb); replace BK101 := zbb BK101 hb; replace BK128 := zbb BK128 hb; replace HB := zA (below_step (zq4 GE101 GE128) hb); (try clear hb)))
 replace HO_10 := zA (zRd HO_10.out)
 replace HO_12 := zA (zRd HO_12.out)
 replace HO_129000 := zA (zRd HO_129000.out)
 replace HO_129001 := zA (zRd HO_129001.out)
 replace HO136 := zA (zRd HO136.out)
 replace BK101 := zA (zkd BK101.out)
 replace BK128 := zA (zkd BK128.out)
 replace HB := zA (zbd HB.out)
 refine start_ (n := 5) (S := fun w' => w'.cell? ⟨gb128, 0, none⟩ = some (.slice Ao48 t122.length co48) ∧ w'.cell? ⟨gb128, 1, none⟩ = some (.slice Ao51 t125.length co51) ∧ w'.cell? ⟨gb101, 0, none⟩ = some (.slice A1_0 l1_0.length c1_0) ∧ w'.cell? ⟨gb101, 1, none⟩ = some (.slice A1_1 l1_1.length c1_1)) (ds := []) #[false, false, false, false, false] zq22 rfl rfl ⟨(blk_cell BK128.out 0).trans rfl, (blk_cell BK128.out 1).trans rfl, (blk_cell BK101.out 0).trans rfl, (blk_cell BK101.out 1).trans rfl⟩ (fun hHeld => ?_)
 generalize w81.drew = w82 at HO_10 HO_12 HO_129000 HO_129001 HO136 BK101 BK128 HB hHeld ⊢
 refine ztk 0 66 hHeld ?_
 refine ztk 1 67 hHeld ?_
 refine one_ (i := 2) (N := some 68) #[true, true, true, false, false] rfl rfl zq22 (by decide) (fun K hK => ?_)
 refine goes_ Try.func11 zq22 rfl #[.agg #[.slice A1_0 l1_0.length c1_0, .slice A1_1 l1_1.length c1_1]] (by rfl) rfl rfl zq10 ?_
 with_reducible refine (laws_toChoice.calls kj28 _ _ l1_0 _ _ l1_1 t138 t141 _ ?side1 ?side2 ?side3 ?side4 A62.out).mono ?_
 (case side1 => repeat (first | exact (zCb HR1_0.out HB.out) | (with_reducible first | refine zCa ?_ _ | refine zCn ?_ _ | refine zCd ?_)))
 (case side2 => exact HC1_0.out)
 (case side3 => repeat (first | exact (zCb HR1_1.out HB.out) | (with_reducible first | refine zCa ?_ _ | refine zCn ?_ _ | refine zCd ?_)))
 (case side4 => exact HC1_1.out)
 rintro e w83 ⟨v139, v142, rfl, ho0, ho1, hb⟩
 refine ⟨_, rfl, ?_⟩
 replace HO_10 := zA (zRb (zq3 HO_10) hb)
 replace HO_12 := zA (zRb (zq3 HO_12) hb)
 replace HO136 := zA (zRb (zq3 HO136) hb)
 have HO140 := zA (Kd.R_lower (Kd.R_new' ho0 (Kd.R_lt (zq3 HO_129000))) (below_size (zq4 GE101 GE128)))
 replace HO_129000 := zA (Kd.R_elder' (zq3 HO_129000) (Kd.R_base ho0) hb)
 have HO143 := zA (Kd.R_lower (Kd.R_new' ho1 (Kd.R_lt (zq3 HO_129001))) (below_size (zq4 GE101 GE128)))
 replace HO_129001 := zA (Kd.R_elder' (zq3 HO_129001) (Kd.R_base ho1) hb)
 replace BK101 := zA (blk_below (g := gb101) (o := .cells #[.slice A1_0 l1_0.length c1_0, .slice A1_1 l1_1.length c1_1] 26 (0, 0)) (zq6 BK101) hb)
 replace BK128 := zA (blk_below (g := gb128) (o := .cells #[.slice Ao48 t122.length co48, .slice Ao51 t125.length co51] 35 (0, 0)) (zq6 BK128) hb)
 replace HB := zA (below_step (zq4 GE101 GE128) hb)
 (try clear hb)
 (try clear hb2)
 (try clear hk)
 (try clear hi)
 (try clear ho0)
 (try clear ho1)
 obtain ⟨Ao84, co84, eo84⟩ := Kd.R_slice HO140.out
 (first | subst eo84 | (injection eo84 with f1_ f2_ f3_; have f4_ := f1_.symm; have f5_ := f3_.symm; clear f1_ f2_ f3_; subst f4_; subst f5_))
 obtain ⟨Ao85, co85, eo85⟩ := Kd.R_slice HO143.out
 (first | subst eo85 | (injection eo85 with f1_ f2_ f3_; have f4_ := f1_.symm; have f5_ := f3_.symm; clear f1_ f2_ f3_; subst f4_; subst f5_))
 refine hK.out _ _ ⟨(blk_cell BK128.out 0).trans rfl, (blk_cell BK128.out 1).trans rfl, (blk_cell BK101.out 0).trans rfl, (blk_cell BK101.out 1).trans rfl⟩ (fun hHeld => ?_)
 clear hK K
 refine znm 68 ?_
 refine one_ (i := 3) (N := some 69) #[true, true, true, true, false] rfl rfl zq22 (by decide) (fun K hK => ?_)
 refine goes_ Try.func15 zq22 rfl #[.agg #[.slice Ao48 t122.length co48, .slice Ao51 t125.length co51], .agg #[.slice Ao84 t138.length co84, .slice Ao85 t141.length co85]] (by rfl) rfl rfl zq10 ?_
 with_reducible refine (laws_eqChoice.calls kj28 _ _ t122 _ _ t125 _ _ t138 _ _ t141 true _ ?side1 ?side2 ?side3 ?side4 ?side5 ?side6 ?side7 ?side8 A63.out).mono ?_
 (case side1 => repeat (first | exact (zRr HO_129000.out).2.2 | (with_reducible first | refine zCa ?_ _ | refine zCn ?_ _ | refine zCd ?_)))
 (case side2 => exact (zRr HO_129000.out).2.1)
 (case side3 => repeat (first | exact (zRr HO_129001.out).2.2 | (with_reducible first | refine zCa ?_ _ | refine zCn ?_ _ | refine zCd ?_)))
 (case side4 => exact (zRr HO_129001.out).2.1)
 (case side5 => repeat (first | exact (zRr HO140.out).2.2 | (with_reducible first | refine zCa ?_ _ | refine zCn ?_ _ | refine zCd ?_)))
 (case side6 => exact (zRr HO140.out).2.1)
 (case side7 => repeat (first | exact (zRr HO143.out).2.2 | (with_reducible first | refine zCa ?_ _ | refine zCn ?_ _ | refine zCd ?_)))
 (case side8 => exact (zRr HO143.out).2.1)
 rintro e w86 ⟨rfl, hb⟩
 refine ⟨_, rfl, ?_⟩
 replace HO_10 := zA (zRb (zq3 HO_10) hb)
 replace HO_12 := zA (zRb (zq3 HO_12) hb)
 replace HO_129000 := zA (zRb (zq3 HO_129000) hb)
 replace HO_129001 := zA (zRb (zq3 HO_129001) hb)
 replace HO136 := zA (zRb (zq3 HO136) hb)
 replace HO140 := zA (zRb (zq3 HO140) hb)
 replace HO143 := zA (zRb (zq3 HO143) hb)
 replace BK101 := zA (blk_below (g := gb101) (o := .cells #[.slice A1_0 l1_0.length c1_0, .slice A1_1 l1_1.length c1_1] 26 (0, 0)) (zq6 BK101) hb)
 replace BK128 := zA (blk_below (g := gb128) (o := .cells #[.slice Ao48 t122.length co48, .slice Ao51 t125.length co51] 35 (0, 0)) (zq6 BK128) hb)
 replace HB := zA (below_step (zq4 GE101 GE128) hb)
 (try clear hb)
 (try clear hb2)
 (try clear hk)
 (try clear hi)
 refine hK.out _ _ ⟨(blk_cell BK128.out 0).trans rfl, (blk_cell BK128.out 1).trans rfl, (blk_cell BK101.out 0).trans rfl, (blk_cell BK101.out 1).trans rfl⟩ (fun hHeld => ?_)
 clear hK K
 refine znm 69 ?_
 refine zpk 4 70 ?_
 refine done_ zq22 ?_
 try go_wp2_with (first | ((with_reducible refine zgc 12 ?_); refine zca 73 Try.func12 #[.slice A2 l2.length c2] (laws_toInstrS.calls kj28 _ _ l2 t145 _ (zq9 HR2) HC2.out A65.out) ?_; rintro e w87 ⟨v146, rfl, ho0, hb⟩; refine ⟨_, rfl, ?_⟩; replace HO_10 := zA (zRb (zq3 HO_10) hb); replace HO_129000 := zA (zRb (zq3 HO_129000) hb); replace HO_129001 := zA (zRb (zq3 HO_129001) hb); replace HO136 := zA (zRb (zq3 HO136) hb); replace HO140 := zA (zRb (zq3 HO140) hb); replace HO143 := zA (zRb (zq3 HO143) hb); have HO147 := zA (Kd.R_lower (Kd.R_new' ho0 (Kd.R_lt (zq3 HO_12))) (below_size (zq4 GE101 GE128))); replace HO_12 := zA (Kd.R_elder' (zq3 HO_12) (Kd.R_base ho0) hb); replace BK101 := zbb BK101 hb; replace BK128 := zbb BK128 hb; replace HB := zA (below_step (zq4 GE101 GE128) hb); (try clear hb); (try clear ho0); obtain ⟨Ao88, co88, eo88⟩ := Kd.R_slice HO147.out; subst eo88) | ((with_reducible refine zgc 16 ?_); refine zca 74 Try.func16 #[.slice Ao55 t129.length co55, .slice Ao88 t145.length co88] (laws_eqInstrS.calls kj28 _ _ t129 _ _ t145 false _ (zq15 HO_12) (zq46 HO_12) (zq15 HO147) (zq46 HO147) A66.out) ?_; rintro e w89 ⟨rfl, hb⟩; refine ⟨_, rfl, ?_⟩; replace HO_10 := zA (zRb (zq3 HO_10) hb); replace HO_12 := zA (zRb (zq3 HO_12) hb); replace HO_129000 := zA (zRb (zq3 HO_129000) hb); replace HO_129001 := zA (zRb (zq3 HO_129001) hb); replace HO136 := zA (zRb (zq3 HO136) hb); replace HO140 := zA (zRb (zq3 HO140) hb); replace HO143 := zA (zRb (zq3 HO143) hb); replace HO147 := zA (zRb (zq3 HO147) hb); replace BK101 := zbb BK101 hb; replace BK128 := zbb BK128 hb; replace HB := zA (below_step (zq4 GE101 GE128) hb); (try clear hb)))
 go_ret
 exact ⟨zq5, zq4 GE101 GE128⟩
end Go.Proofs.Ytnaafcleafbejaa.Q
end
section
namespace Go.Proofs.Ytnaafcleafbejaa.Rd
open Go Go.RowKit Go.Proofs.YtnaafcleafbejaaW.PrintWords Go.Proofs.YtnaafcleafbejaaW.PrintLast Go.ChangeShapes Go.WideShapes Go.Deep
set_option linter.unusedSimpArgs false
set_option linter.unusedVariables false
structure RdK {α : Type} (d : Kd α) (P : Program) (t : TypeId) (Good : α → Prop) : Prop where
  size : P.cellsOf t = d.sz
  get : ∀ {H : Type} {enc : TypeId × Value → H} {w : World} {n : Nat} {cs : List Value} {x : DataW H × List MemPlace}, DataW.trod enc P w 0 (fun _ => true) true n t cs = some x → ∃ a, d.K w a cs ∧ Good a
def okInt (k : IntKind) (n : Int) : Prop := (Lit.int k n).wf = true
def okStr (s : ByteArray) : Prop := s.size ≤ maxLen
def okSl {α : Type} (G : α → Prop) (xs : List α) : Prop := xs.length ≤ maxLen ∧ ∀ x ∈ xs, G x
theorem rk_int {P : Program} {t : TypeId} {k : IntKind} (ht : P.underlying t = some (.int k)) (hs : P.cellsOf t = 1) : RdK (Kd.int k) P t (okInt k) :=
  ⟨hs, fun h => by obtain ⟨n, rfl, _, hw⟩ := DataW.trod_int ht h; exact ⟨n, rfl, hw⟩⟩
theorem rk_string {P : Program} {t : TypeId} (ht : P.underlying t = some .string) (hs : P.cellsOf t = 1) : RdK Kd.string P t okStr :=
  ⟨hs, fun h => by obtain ⟨n, rfl, _, hw⟩ := DataW.trod_string ht h; exact ⟨n, rfl, hw⟩⟩
theorem rk_slice {α : Type} {d : Kd α} {P : Program} {t e : TypeId} {G : α → Prop} (hd : RdK d P e G) (ht : P.underlying t = some (.slice e)) (hs : P.cellsOf t = 1) : RdK (Kd.slice e d) P t (okSl G) := by
  refine ⟨hs, fun {H enc w n cs x} h => ?_⟩
  rcases open_slice ht h with ⟨rfl, _⟩ | ⟨a, len, cap, m, n', D, Pl, rfl, _, hl, hm, hmm, _, hx⟩
  · exact ⟨[], ⟨none, 0, rfl, Nat.le_refl _, rfl, Nat.zero_le _, fun h => absurd h (Nat.lt_irrefl 0)⟩, Nat.zero_le _, fun _ h => by cases h⟩
  · have hc : m = cap := by simpa using hmm
    subst hc
    have key : ∀ i : Fin len, ∃ a' : α, ∃ cs', d.K w a' cs' ∧ G a' ∧ w.cells? 0 (a.add (i * P.cellsOf e)) (P.cellsOf e) = some cs' := fun i => by
      obtain ⟨cs', h1, h2⟩ := hx i (by omega)
      obtain ⟨a', h3, h4⟩ := hd.get h2
      exact ⟨a', cs', h3, h4, h1⟩
    have hlen : (List.ofFn fun i => Classical.choose (key i)).length = len := List.length_ofFn
    refine ⟨List.ofFn fun i => Classical.choose (key i), ⟨some a, m, by rw [hlen], by omega, hlen.trans hlen.symm, ?_, fun _ => ⟨a, rfl, fun j p hj => ?_⟩⟩, by rw [hlen]; omega, fun y hy => ?_⟩
    · rw [hlen]; unfold maxLen at hm; omega
    · have hjl : j < len := by
        have := (List.getElem?_eq_some_iff.1 hj).1
        rwa [hlen] at this
      rw [List.getElem?_ofFn, dif_pos hjl, Option.some.injEq] at hj
      obtain ⟨cs', h1, h2, h3⟩ := Classical.choose_spec (key ⟨j, hjl⟩)
      rw [hj] at h1 h2
      obtain ⟨_, h5, h6⟩ := World.cells?_some h3
      refine ⟨cs', d.K_len h1, h1, fun i u hi => ?_⟩
      have hil : i < P.cellsOf e := by
        have := (List.getElem?_eq_some_iff.1 hi).1
        omega
      have := h6 i hil
      rw [Go.Deep.add_add] at this
      rw [← hd.size]
      exact this.trans hi
    · obtain ⟨i, rfl⟩ := List.mem_ofFn.1 hy
      obtain ⟨cs', h1, h2, h3⟩ := Classical.choose_spec (key i)
      exact h2
structure RdF {α : Type} (d : Kd α) (P : Program) (fs : List Field) (off : Nat) (Good : α → Prop) : Prop where
  get : ∀ {H : Type} {enc : TypeId × Value → H} {w : World} {n : Nat} {cs : List Value}, cs.length = off + d.sz →
    (∀ f ∈ fs, ∃ y, DataW.trod enc P w 0 (fun _ => true) true n f.type ((cs.drop f.offset).take (P.cellsOf f.type)) = some y) → ∃ a, d.K w a (cs.drop off) ∧ Good a
theorem rf_one {α : Type} {d : Kd α} {P : Program} {f : Field} {G : α → Prop} (hd : RdK d P f.type G) : RdF d P [f] f.offset G := by
  refine ⟨fun {H enc w n cs} hl h => ?_⟩
  obtain ⟨y, hy⟩ := h f (List.mem_singleton.2 rfl)
  rw [hd.size, List.take_of_length_le (by rw [List.length_drop]; omega)] at hy
  exact hd.get hy
theorem rf_cons {α β : Type} {d : Kd α} {d' : Kd β} {P : Program} {f : Field} {fs : List Field} {G : α → Prop} {G' : β → Prop} {off' : Nat} (hd : RdK d P f.type G) (ho : off' = f.offset + d.sz) (hf : RdF d' P fs off' G') :
    RdF (Kd.pair d d') P (f :: fs) f.offset (fun x => G x.1 ∧ G' x.2) := by
  refine ⟨fun {H enc w n cs} hl h => ?_⟩
  have hl' : cs.length = f.offset + (d.sz + d'.sz) := hl
  obtain ⟨y, hy⟩ := h f List.mem_cons_self
  rw [hd.size] at hy
  obtain ⟨a, h1, h2⟩ := hd.get hy
  obtain ⟨b, h3, h4⟩ := hf.get (cs := cs) (by omega) (fun g hg => h g (List.mem_cons_of_mem _ hg))
  refine ⟨(a, b), ⟨_, _, ?_, h1, h3⟩, h2, h4⟩
  rw [ho, ← List.drop_drop, List.take_append_drop]
theorem rk_struct {α : Type} {d : Kd α} {P : Program} {t : TypeId} {fs : Array Field} {G : α → Prop} (ht : P.underlying t = some (.struct fs)) (hs : P.cellsOf t = d.sz) (hf : RdF d P fs.toList 0 G) : RdK d P t G := by
  refine ⟨hs, fun {H enc w n cs x} h => ?_⟩
  obtain ⟨xs, n', _, _, hl, hlen, hg⟩ := DataW.trod_struct ht h
  have := hf.get (cs := cs) (enc := enc) (w := w) (n := n') (by omega) (fun f hf' => by
    obtain ⟨i, hi, he⟩ := List.getElem_of_mem hf'
    have h1 : fs[i]? = some f := by rw [← Array.getElem?_toList, List.getElem?_eq_getElem hi, he]
    have h2 := hg i f h1
    rw [List.getElem?_eq_getElem (by rw [hlen]; simpa using hi)] at h2
    exact ⟨_, h2⟩)
  simpa using this
theorem rk_iso {α β : Type} {d : Kd α} {P : Program} {t : TypeId} {G : α → Prop} (hd : RdK d P t G) (f : β → α) (g : α → β) (hfg : ∀ a, f (g a) = a) : RdK (Kd.iso d f) P t (fun b => G (f b)) := by
  refine ⟨hd.size, fun {H enc w n cs x} h => ?_⟩
  obtain ⟨a, h1, h2⟩ := hd.get h
  exact ⟨g a, by show d.K w (f (g a)) cs; rw [hfg]; exact h1, by rw [hfg]; exact h2⟩
theorem arg_slice {α : Type} {d : Kd α} {P : Program} {t e : TypeId} {G : α → Prop} (hd : RdK (Kd.slice e d) P t (okSl G)) {H : Type} {enc : TypeId × Value → H} {w : World} {a : Option Addr} {len cap : Nat} {x : DataW H} {ps : List MemPlace}
    (h : DataW.Trod enc P w 0 (fun _ => true) true t (.slice a len cap) x ps) : ∃ xs : List α, len = xs.length ∧ xs.length ≤ cap ∧ Kd.C d w a xs.length xs ∧ okSl G xs := by
  obtain ⟨n, hn⟩ := h
  obtain ⟨xs, ⟨A, c, he, hl, hc⟩, hg⟩ := hd.get hn
  simp [Value.cells] at he
  obtain ⟨rfl, rfl, rfl⟩ := he
  exact ⟨xs, rfl, hl, hc, hg⟩
theorem arg_struct {α : Type} {d : Kd α} {P : Program} {t : TypeId} {G : α → Prop} (hd : RdK d P t G) {H : Type} {enc : TypeId × Value → H} {w : World} {cs : Array Value} {x : DataW H} {ps : List MemPlace}
    (h : DataW.Trod enc P w 0 (fun _ => true) true t (.agg cs) x ps) : ∃ a : α, d.K w a cs.toList ∧ G a := by
  obtain ⟨n, hn⟩ := h
  exact hd.get hn
end Go.Proofs.Ytnaafcleafbejaa.Rd
end
section
namespace Go.Proofs.Ytnaafcleafbejaa.Q
open Go.RowKit Go.Proofs.YtnaafcleafbejaaW.PrintWords Go.Proofs.YtnaafcleafbejaaW.PrintLast Go.Proofs.YtnaafcleafbejaaW.PrintMore
attribute [local go_sem] max2_int min2_int max_two min_two max_three min_three max_four min_four
set_option linter.unusedVariables false
set_option linter.unusedSimpArgs false
def good50 (x : S50) : Prop := Rd.okStr x.f0 ∧ (Rd.okInt .i64) x.f1 ∧ (Rd.okInt .i64) x.f2 ∧ (Rd.okInt .i64) x.f3
theorem rd50 : Rd.RdK k50 Try.prog 50 good50 :=
  Rd.rk_iso (Rd.rk_struct Try.underlying50 (by kernel_rfl) (Rd.rf_cons (Rd.rk_string Try.underlying9 (by kernel_rfl)) rfl (Rd.rf_cons (Rd.rk_int Try.underlying3 (by kernel_rfl)) rfl (Rd.rf_cons (Rd.rk_int Try.underlying3 (by kernel_rfl)) rfl (Rd.rf_one (Rd.rk_int Try.underlying3 (by kernel_rfl))))))) (fun x : S50 => (x.f0, x.f1, x.f2, x.f3)) (fun p => ⟨p.1, p.2.1, p.2.2.1, p.2.2.2⟩) (fun _ => rfl)
def good26 (x : S26) : Prop := (Rd.okSl Rd.okStr) x.f0 ∧ (Rd.okSl (Rd.okInt .i64)) x.f1
theorem rd26 : Rd.RdK k26 Try.prog 26 good26 :=
  Rd.rk_iso (Rd.rk_struct Try.underlying26 (by kernel_rfl) (Rd.rf_cons (Rd.rk_slice (Rd.rk_string Try.underlying9 (by kernel_rfl)) Try.underlying23 (by kernel_rfl)) rfl (Rd.rf_one (Rd.rk_slice (Rd.rk_int Try.underlying3 (by kernel_rfl)) Try.underlying24 (by kernel_rfl))))) (fun x : S26 => (x.f0, x.f1)) (fun p => ⟨p.1, p.2⟩) (fun _ => rfl)
def good55 (x : S55) : Prop := Rd.okStr x.f0 ∧ (Rd.okInt .i64) x.f1 ∧ (Rd.okInt .i64) x.f2 ∧ (Rd.okInt .i64) x.f3 ∧ (Rd.okInt .i64) x.f4
theorem rd55 : Rd.RdK k55 Try.prog 55 good55 :=
  Rd.rk_iso (Rd.rk_struct Try.underlying55 (by kernel_rfl) (Rd.rf_cons (Rd.rk_string Try.underlying9 (by kernel_rfl)) rfl (Rd.rf_cons (Rd.rk_int Try.underlying3 (by kernel_rfl)) rfl (Rd.rf_cons (Rd.rk_int Try.underlying3 (by kernel_rfl)) rfl (Rd.rf_cons (Rd.rk_int Try.underlying3 (by kernel_rfl)) rfl (Rd.rf_one (Rd.rk_int Try.underlying3 (by kernel_rfl)))))))) (fun x : S55 => (x.f0, x.f1, x.f2, x.f3, x.f4)) (fun p => ⟨p.1, p.2.1, p.2.2.1, p.2.2.2.1, p.2.2.2.2⟩) (fun _ => rfl)
def laws_FnExactProgramReaches.Pure : Prop := ∀ (a0 : List (S50)) (a1 : S26) (a2 : List (S55)), (Rd.okSl good50) a0 → good26 a1 → (Rd.okSl good55) a2 → ∃ k, laws_FnExactProgramReaches.f k a0 a1.f0 a1.f1 a2 = some true
end Go.Proofs.Ytnaafcleafbejaa.Q
end
section
namespace Go.Proofs.Ytnaafcleafbejaa.PL
open Go Go.RowKit Go.Proofs.YtnaafcleafbejaaW.PrintWords Go.Proofs.YtnaafcleafbejaaW.PrintLast Go.Proofs.YtnaafcleafbejaaW.PrintMore Go.Proofs.Ytnaafcleafbejaa.Q
set_option linter.unusedSimpArgs false
set_option linter.unusedVariables false
theorem w64 {x : Int} (h1 : -9223372036854775808 ≤ x) (h2 : x < 9223372036854775808) : wrap64 x = x := by unfold wrap64; omega
theorem w64n (i : Nat) (h : i < 4611686018427387904) : wrap64 ((i : Int) + 1) = ((i + 1 : Nat) : Int) := by unfold wrap64; omega
theorem Ev.some {α : Type} {a r : α} (h : a = r) : Ev (fun _ => some a) r := h ▸ Ev.now a
theorem Ev.const {α : Type} {g : Option α} {r : α} (h : g = Option.some r) : Ev (fun _ => g) r := by rw [h]; exact Ev.now r
theorem ev_eq {α : Type} {g : Nat → Option α} {r s : α} (h : Ev g r) (e : r = s) : Ev g s := e ▸ h
theorem Ev.ifp {α : Type} {c : Prop} [Decidable c] {g g' : Nat → Option α} {r : α} (h : c) (H : Ev g r) : Ev (fun k => if c then g k else g' k) r := Ev.congr (fun _ => if_pos h) H
theorem Ev.ifn {α : Type} {c : Prop} [Decidable c] {g g' : Nat → Option α} {r : α} (h : ¬ c) (H : Ev g' r) : Ev (fun k => if c then g k else g' k) r := Ev.congr (fun _ => if_neg h) H
theorem Ev.call {α β : Type} {g : Option α} {f : Nat → α → Option β} {a : α} {r : β} (h : g = Option.some a) (k : Ev (fun n => f n a) r) : Ev (fun n => g.bind (f n)) r := by
  rw [h]; exact k
theorem loop_up {σ ρ : Type} (n : Nat) (L : Nat → σ → Int → Option ρ) (M : Nat → σ → ρ) (hend : ∀ s, Ev (fun k => L k s n) (M n s))
    (hstep : ∀ (i : Nat) s, i < n → (∀ s', Ev (fun k => L k s' ((i + 1 : Nat) : Int)) (M (i + 1) s')) → Ev (fun k => L k s i) (M i s)) :
    ∀ (d i : Nat) s, i + d = n → Ev (fun k => L k s i) (M i s)
  | 0, i, s, h => by
    have e : i = n := by omega
    rw [e]
    exact hend s
  | d + 1, i, s, h => hstep i s (by omega) (fun s' => loop_up n L M hend hstep d (i + 1) s' (by omega))
theorem loop_list {α σ ρ : Type} (xs : List α) (L : Nat → σ → Int → Option ρ) (m : List α → σ → ρ) (hend : ∀ s, Ev (fun k => L k s (xs.length : Nat)) (m [] s))
    (hstep : ∀ (i : Nat) s x rest, i < xs.length → (∀ d, xs.getD i d = x) → (∀ s', Ev (fun k => L k s' ((i + 1 : Nat) : Int)) (m rest s')) → Ev (fun k => L k s i) (m (x :: rest) s)) (s : σ) :
    Ev (fun k => L k s 0) (m xs s) := by
  have := loop_up xs.length L (fun i s => m (xs.drop i) s) (fun s => by simpa using hend s) (fun i s hi ih => by
    have e : xs.drop i = xs[i] :: xs.drop (i + 1) := List.drop_eq_getElem_cons hi
    show Ev (fun k => L k s i) (m (xs.drop i) s)
    rw [e]
    exact hstep i s xs[i] _ hi (fun d => by simp [List.getD, List.getElem?_eq_getElem hi]) ih) xs.length 0 s (by omega)
  simpa using this
def idx {α : Type} (p : α → Bool) : List α → Int
  | [] => -1
  | x :: xs => if p x = true then 0 else if idx p xs < 0 then -1 else idx p xs + 1
theorem idx_nonneg {α : Type} (p : α → Bool) (xs : List α) : 0 ≤ idx p xs ↔ ∃ x ∈ xs, p x = true := by
  induction xs with
  | nil => simp [idx]
  | cons x xs ih =>
    unfold idx
    by_cases h : p x = true
    · simp [h]
    · by_cases h2 : idx p xs < 0
      · rw [if_neg h, if_pos h2]
        have : ¬ ∃ x ∈ xs, p x = true := fun e => by have := ih.2 e; omega
        simp [h]
        simpa using this
      · rw [if_neg h, if_neg h2]
        have := ih.1 (by omega)
        simp [h]
        exact ⟨fun _ => this, fun _ => by omega⟩
theorem idx_ge {α : Type} (p : α → Bool) (xs : List α) : -1 ≤ idx p xs := by
  induction xs with
  | nil => unfold idx; simp
  | cons x xs ih => unfold idx; split; · decide
                    · split <;> omega
theorem search_ev {α : Type} (xs : List α) (p : α → Bool) (L : Nat → Int → Option Int) (hend : Ev (fun k => L k (xs.length : Nat)) (-1))
    (hyes : ∀ (i : Nat) x, i < xs.length → (∀ d, xs.getD i d = x) → p x = true → Ev (fun k => L k i) (i : Int))
    (hno : ∀ (i : Nat) x r, i < xs.length → (∀ d, xs.getD i d = x) → p x = false → Ev (fun k => L k ((i + 1 : Nat) : Int)) r → Ev (fun k => L k i) r) : Ev (fun k => L k 0) (idx p xs) := by
  have key : ∀ (d i : Nat), i + d = xs.length → Ev (fun k => L k i) (if idx p (xs.drop i) < 0 then -1 else idx p (xs.drop i) + i) := by
    intro d
    induction d with
    | zero =>
      intro i hi
      rw [List.drop_of_length_le (by omega), if_pos (show idx p [] < 0 by unfold idx; decide)]
      have e : i = xs.length := by omega
      rw [e]; exact hend
    | succ d ih =>
      intro i hi
      have hlt : i < xs.length := by omega
      have e : xs.drop i = xs[i] :: xs.drop (i + 1) := List.drop_eq_getElem_cons hlt
      have hg : ∀ d, xs.getD i d = xs[i] := fun d => by simp [List.getD, List.getElem?_eq_getElem hlt]
      rw [e]
      unfold idx
      by_cases h : p xs[i] = true
      · rw [if_pos h, if_neg (by decide)]
        simpa using hyes i _ hlt hg h
      · refine hno i _ _ hlt hg (by simpa using h) (ev_eq (ih (i + 1) (by omega)) ?_)
        rw [if_neg h]
        by_cases h2 : idx p (xs.drop (i + 1)) < 0
        · rw [if_pos h2, if_pos h2, if_pos (by decide)]
        · rw [if_neg h2, if_neg h2, if_neg (by omega)]
          omega
  have := key xs.length 0 (by omega)
  simp only [List.drop_zero, Int.natCast_zero, Int.add_zero] at this
  refine ev_eq this ?_
  have := idx_ge p xs
  split <;> omega
theorem all_ev {α : Type} (xs : List α) (p : α → Bool) (L : Nat → Int → Option Bool) (hend : Ev (fun k => L k (xs.length : Nat)) true)
    (hno : ∀ (i : Nat) x, i < xs.length → (∀ d, xs.getD i d = x) → p x = false → Ev (fun k => L k i) false)
    (hyes : ∀ (i : Nat) x r, i < xs.length → (∀ d, xs.getD i d = x) → p x = true → Ev (fun k => L k ((i + 1 : Nat) : Int)) r → Ev (fun k => L k i) r) : Ev (fun k => L k 0) (xs.all p) := by
  refine loop_list (σ := Unit) xs (fun k _ i => L k i) (fun l _ => l.all p) (fun _ => hend) (fun i _ x rest hi hx ih => ?_) ()
  by_cases h : p x = true
  · exact hyes i x _ hi hx h (ev_eq (ih ()) (by simp [h]))
  · have h' : p x = false := by simpa using h
    exact ev_eq (hno i x hi hx h') (by simp [h'])
theorem rd_eq {xs : List Int} {i : Nat} {x : Int} (h : ∀ d, xs.getD i d = x) : rd xs i = x := by unfold rd; rw [Int.toNat_natCast]; exact h 0
theorem rdOf_eq {α : Type} {d0 : α} {xs : List α} {i : Nat} {x : α} (h : ∀ d, xs.getD i d = x) : rdOf d0 xs i = x := by unfold rdOf; rw [Int.toNat_natCast]; exact h d0
theorem rdI_eq {xs : List S64} {i : Nat} {x : S64} (h : ∀ d, xs.getD i d = x) : rd_T64 xs i = x := by unfold rd_T64; rw [Int.toNat_natCast]; exact h _
theorem rdJ_eq {xs : List S55} {i : Nat} {x : S55} (h : ∀ d, xs.getD i d = x) : rd_T55 xs i = x := by unfold rd_T55; rw [Int.toNat_natCast]; exact h _
theorem getD_eq {α : Type} (xs : List α) (i : Nat) (h : i < xs.length) : ∀ d, xs.getD i d = xs[i] := fun d => by simp [List.getD, List.getElem?_eq_getElem h]
theorem set_fill {α : Type} (xs ys : List α) (z : α) (v : α) : (xs ++ List.replicate (ys.length + 1) z).set xs.length v = (xs ++ [v]) ++ List.replicate ys.length z := by
  rw [List.set_append_right _ _ (Nat.le_refl _)]
  simp [List.replicate_succ]
abbrev Instr := S64
abbrev LInstr := S55
def cvI (x : LInstr) : Instr := ⟨x.f0, x.f1, x.f2, x.f3, x.f4⟩
theorem szInstr_eq (s : ByteArray) (a b c d r : Int) (hs : s.size ≤ maxLen) (h0 : 0 ≤ r) (h1 : r ≤ 1048576) : laws_szInstr.f s a b c d r = some (if r < s.size then -1 else r - s.size) := by
  unfold maxLen at hs
  unfold laws_szInstr.f
  rw [w64 (by omega) (by omega)]
  by_cases h : r < s.size
  · rw [if_pos (by omega), if_pos h]
  · rw [if_neg (by omega), if_neg h]
theorem szInstrS_ev (l : List LInstr) (a : Int) (hl : Rd.okSl good55 l) (h0 : 0 ≤ a) (h1 : a ≤ 1048576) :
    ∃ r, Ev (fun k => laws_szInstrS.f k l a) r ∧ (0 ≤ r → (l.length : Int) ≤ a ∧ (∀ x ∈ l, (x.f0.size : Int) ≤ a) ∧ r ≤ a) := by
  obtain ⟨hl1, hl2⟩ := hl
  unfold maxLen at hl1
  by_cases h : a < l.length
  · refine ⟨-1, ?_, fun h => absurd h (by decide)⟩
    unfold laws_szInstrS.f
    rw [w64 (by omega) (by omega)]
    simp only [show a - (l.length : Int) < 0 by omega, if_true]
    exact Ev.now _
  · have key : ∀ (d i : Nat) (r : Int), i + d = l.length → 0 ≤ r → r ≤ a → ∃ q, Ev (fun k => laws_szInstrS.l0 k l r i) q ∧ q ≤ a ∧ (0 ≤ q → ∀ x ∈ l.drop i, (x.f0.size : Int) ≤ a) := by
      intro d
      induction d with
      | zero =>
        intro i r hi hr _
        refine ⟨r, Ev.step (f := fun _ => some r) (fun k => ?_) (Ev.now _), by omega, fun _ x hx => ?_⟩
        · simp only [laws_szInstrS.l0]
          rw [if_neg (by omega)]
        · rw [List.drop_of_length_le (by omega)] at hx
          cases hx
      | succ d ih =>
        intro i r hi hr hra
        have hlt : i < l.length := by omega
        have e : l.drop i = l[i] :: l.drop (i + 1) := List.drop_eq_getElem_cons hlt
        have hx := rdJ_eq (getD_eq l i hlt)
        have hsz := (hl2 l[i] (List.getElem_mem hlt)).1
        by_cases hb : r < l[i].f0.size
        · refine ⟨-1, Ev.step (f := fun _ => some (-1)) (fun k => ?_) (Ev.now _), by omega, fun h => absurd h (by decide)⟩
          simp only [laws_szInstrS.l0]
          rw [if_pos (by omega), if_pos (by omega), hx, szInstr_eq _ _ _ _ _ _ hsz hr (by omega), if_pos hb]
          rfl
        · obtain ⟨q, hq, hqa, hq'⟩ := ih (i + 1) (r - l[i].f0.size) (by omega) (by omega) (by omega)
          refine ⟨q, Ev.step (f := fun k => laws_szInstrS.l0 k l (r - l[i].f0.size) ((i + 1 : Nat) : Int)) (fun k => ?_) hq, hqa, fun h x hx' => ?_⟩
          · simp only [laws_szInstrS.l0]
            rw [if_pos (by omega), if_pos (by omega), hx, szInstr_eq _ _ _ _ _ _ hsz hr (by omega), if_neg hb, Option.bind_some, if_neg (by omega), w64n i (by omega)]
          · rw [e] at hx'
            rcases List.mem_cons.1 hx' with rfl | hx'
            · omega
            · exact hq' h x hx'
    obtain ⟨q, hq, hqa, hq'⟩ := key l.length 0 (a - l.length) (by omega) (by omega) (by omega)
    refine ⟨q, ?_, fun h' => ⟨by omega, by simpa using hq' h', hqa⟩⟩
    unfold laws_szInstrS.f
    rw [w64 (by omega) (by omega)]
    simp only [show ¬ (a - (l.length : Int) < 0) by omega, if_false]
    simpa using hq
theorem toInstrS_ev (l : List LInstr) (hl : l.length ≤ 1048576) : Ev (fun k => laws_toInstrS.f k l) (l.map cvI) := by
  have key : ∀ (d i : Nat), i + d = l.length → Ev (fun k => laws_toInstrS.l0 k l ((l.take i).map cvI ++ List.replicate d z64) i) (l.map cvI) := by
    intro d
    induction d with
    | zero =>
      intro i hi
      refine Ev.step (f := fun _ => some _) (fun k => ?_) (Ev.now _)
      simp only [laws_toInstrS.l0]
      rw [if_neg (by omega), List.take_of_length_le (by omega)]
      simp
    | succ d ih =>
      intro i hi
      have hlt : i < l.length := by omega
      have hx := rdJ_eq (getD_eq l i hlt)
      refine Ev.step (fun k => ?_) (ih (i + 1) (by omega))
      simp only [laws_toInstrS.l0, laws_toInstr.f, Option.bind_some]
      rw [if_pos (by omega), if_pos (by omega), if_pos (by simp; omega), hx, w64n i (by omega)]
      congr 1
      have e : ((i : Int)).toNat = ((l.take i).map cvI).length := by simp; omega
      rw [e]
      have := set_fill ((l.take i).map cvI) (List.replicate d z64) z64 (cvI l[i])
      simp only [List.length_replicate] at this
      rw [show (⟨l[i].f0, l[i].f1, l[i].f2, l[i].f3, l[i].f4⟩ : Instr) = cvI l[i] from rfl, this]
      congr 1
      rw [List.take_succ_eq_append_getElem hlt, List.map_append]
      rfl
  unfold laws_toInstrS.f
  refine Ev.ifp (by omega) (Ev.ifp (by simp; omega) ?_)
  simpa using key l.length 0 (by omega)
theorem toIntS_ev (l : List Int) (hl : l.length ≤ 1048576) : Ev (fun k => laws_toIntS.f k l) l := by
  have key : ∀ (d i : Nat), i + d = l.length → Ev (fun k => laws_toIntS.l0 k l (l.take i ++ List.replicate d 0) i) l := by
    intro d
    induction d with
    | zero =>
      intro i hi
      refine Ev.step (f := fun _ => some _) (fun k => ?_) (Ev.now _)
      simp only [laws_toIntS.l0]
      rw [if_neg (by omega), List.take_of_length_le (by omega)]
      simp
    | succ d ih =>
      intro i hi
      have hlt : i < l.length := by omega
      have hx := rd_eq (getD_eq l i hlt)
      refine Ev.step (fun k => ?_) (ih (i + 1) (by omega))
      simp only [laws_toIntS.l0]
      rw [if_pos (by omega), if_pos (by omega), if_pos (by simp; omega), hx, w64n i (by omega)]
      congr 1
      have e : ((i : Int)).toNat = (l.take i).length := by simp; omega
      rw [e]
      have := set_fill (l.take i) (List.replicate d (0 : Int)) 0 l[i]
      simp only [List.length_replicate] at this
      rw [this]
      congr 1
      rw [List.take_succ_eq_append_getElem hlt]
  unfold laws_toIntS.f
  refine Ev.ifp (by omega) (Ev.ifp (by simp; omega) ?_)
  simpa using key l.length 0 (by omega)
theorem eqInstrS_refl (l : List Instr) (hl : l.length ≤ 1048576) : Ev (fun k => laws_eqInstrS.f k l l) true := by
  unfold laws_eqInstrS.f
  simp only [if_true]
  refine loop_list (σ := Unit) l (fun k _ i => laws_eqInstrS.l0 k l l i) (fun _ _ => true) (fun _ => ?_) (fun i _ x rest hi hx ih => ?_) ()
  · refine Ev.step (f := fun _ => some true) (fun k => ?_) (Ev.now _)
    simp only [laws_eqInstrS.l0]
    rw [if_neg (by omega)]
  · refine Ev.step (fun k => ?_) (ih ())
    simp only [laws_eqInstrS.l0, laws_eqInstr.f, reduceIte, Option.bind_some]
    rw [if_pos (by omega), if_pos (by omega), w64n i (by omega), if_pos (by omega)]
theorem eqIntS_refl (l : List Int) (hl : l.length ≤ 1048576) : Ev (fun k => laws_eqIntS.f k l l) true := by
  unfold laws_eqIntS.f
  simp only [if_true]
  refine loop_list (σ := Unit) l (fun k _ i => laws_eqIntS.l0 k l l i) (fun _ _ => true) (fun _ => ?_) (fun i _ x rest hi hx ih => ?_) ()
  · refine Ev.step (f := fun _ => some true) (fun k => ?_) (Ev.now _)
    simp only [laws_eqIntS.l0]
    rw [if_neg (by omega)]
  · refine Ev.step (fun k => ?_) (ih ())
    simp only [laws_eqIntS.l0, if_true]
    rw [if_pos (by omega), if_pos (by omega), w64n i (by omega), if_pos (by omega)]
theorem szStringS_ev (l : List ByteArray) (a : Int) (hl : Rd.okSl Rd.okStr l) (h0 : 0 ≤ a) (h1 : a ≤ 1048576) :
    ∃ r, Ev (fun k => laws_szStringS.f k l a) r ∧ (0 ≤ r → (l.length : Int) ≤ a ∧ r ≤ a) := by
  obtain ⟨hl1, hl2⟩ := hl
  unfold maxLen at hl1
  by_cases h : a < l.length
  · refine ⟨-1, ?_, fun h => absurd h (by decide)⟩
    unfold laws_szStringS.f
    rw [w64 (by omega) (by omega)]
    simp only [show a - (l.length : Int) < 0 by omega, if_true]
    exact Ev.now _
  · have key : ∀ (d i : Nat) (r : Int), i + d = l.length → 0 ≤ r → r ≤ a → ∃ q, Ev (fun k => laws_szStringS.l0 k l r i) q ∧ q ≤ a := by
      intro d
      induction d with
      | zero =>
        intro i r hi hr hra
        refine ⟨r, Ev.step (f := fun _ => some r) (fun k => ?_) (Ev.now _), hra⟩
        simp only [laws_szStringS.l0]
        rw [if_neg (by omega)]
      | succ d ih =>
        intro i r hi hr hra
        have hlt : i < l.length := by omega
        have hx : rdOf ByteArray.empty l i = l[i] := rdOf_eq (getD_eq l i hlt)
        have hsz : l[i].size ≤ maxLen := hl2 l[i] (List.getElem_mem hlt)
        unfold maxLen at hsz
        by_cases hb : r < l[i].size
        · refine ⟨-1, Ev.step (f := fun _ => some (-1)) (fun k => ?_) (Ev.now _), by omega⟩
          simp only [laws_szStringS.l0, hx]
          rw [if_pos (by omega), if_pos (by omega), w64 (by omega) (by omega), if_pos (by omega)]
        · obtain ⟨q, hq, hqa⟩ := ih (i + 1) (r - l[i].size) (by omega) (by omega) (by omega)
          refine ⟨q, Ev.step (fun k => ?_) hq, hqa⟩
          simp only [laws_szStringS.l0, hx]
          rw [if_pos (by omega), if_pos (by omega), w64 (by omega) (by omega), if_neg (by omega), w64n i (by omega)]
    obtain ⟨q, hq, hqa⟩ := key l.length 0 (a - l.length) (by omega) (by omega) (by omega)
    refine ⟨q, ?_, fun h' => ⟨by omega, hqa⟩⟩
    unfold laws_szStringS.f
    rw [w64 (by omega) (by omega)]
    simp only [show ¬ (a - (l.length : Int) < 0) by omega, if_false]
    simpa using hq
theorem szIntS_eq (l : List Int) (a : Int) (hl : l.length ≤ maxLen) (h0 : 0 ≤ a) (h1 : a ≤ 1048576) : laws_szIntS.f l a = some (if a < l.length then -1 else a - l.length) := by
  unfold maxLen at hl
  unfold laws_szIntS.f
  rw [w64 (by omega) (by omega)]
  by_cases h : a < l.length
  · rw [if_pos (by omega), if_pos h]
  · rw [if_neg (by omega), if_neg h]
theorem toStringS_ev (l : List ByteArray) (hl : l.length ≤ 1048576) : Ev (fun k => laws_toStringS.f k l) l := by
  have key : ∀ (d i : Nat), i + d = l.length → Ev (fun k => laws_toStringS.l0 k l (l.take i ++ List.replicate d ⟨#[]⟩) i) l := by
    intro d
    induction d with
    | zero =>
      intro i hi
      refine Ev.step (f := fun _ => some l) (fun k => ?_) (Ev.now _)
      simp only [laws_toStringS.l0]
      rw [if_neg (by omega), List.take_of_length_le (by omega)]
      simp
    | succ d ih =>
      intro i hi
      have hlt : i < l.length := by omega
      have hx : rdOf ByteArray.empty l i = l[i] := rdOf_eq (getD_eq l i hlt)
      refine Ev.step (fun k => ?_) (ih (i + 1) (by omega))
      simp only [laws_toStringS.l0]
      rw [if_pos (by omega), if_pos (by omega), if_pos (by simp; omega), hx, w64n i (by omega)]
      congr 1
      have e : ((i : Int)).toNat = (l.take i).length := by simp; omega
      rw [e]
      have := set_fill (l.take i) (List.replicate d (⟨#[]⟩ : ByteArray)) ⟨#[]⟩ l[i]
      simp only [List.length_replicate] at this
      rw [this]
      congr 1
      rw [List.take_succ_eq_append_getElem hlt]
  unfold laws_toStringS.f
  refine Ev.ifp (by omega) (Ev.ifp (by simp; omega) ?_)
  simpa using key l.length 0 (by omega)
theorem eqStringS_refl (l : List ByteArray) (hl : l.length ≤ 1048576) : Ev (fun k => laws_eqStringS.f k l l) true := by
  unfold laws_eqStringS.f
  simp only [if_true]
  refine loop_list (σ := Unit) l (fun k _ i => laws_eqStringS.l0 k l l i) (fun _ _ => true) (fun _ => ?_) (fun i _ x rest hi hx ih => ?_) ()
  · refine Ev.step (f := fun _ => some true) (fun k => ?_) (Ev.now _)
    simp only [laws_eqStringS.l0]
    rw [if_neg (by omega)]
  · refine Ev.step (fun k => ?_) (ih ())
    simp only [laws_eqStringS.l0, if_true]
    rw [if_pos (by omega), if_pos (by omega), w64n i (by omega), if_pos (by omega)]
theorem szChoice_ev (l : List ByteArray) (m : List Int) (a : Int) (hl : Rd.okSl Rd.okStr l) (hm : m.length ≤ maxLen) (h0 : 0 ≤ a) (h1 : a ≤ 1048576) :
    ∃ r, Ev (fun k => laws_szChoice.f k l m a) r ∧ (0 ≤ r → (l.length : Int) ≤ a ∧ (m.length : Int) ≤ a ∧ r ≤ a) := by
  unfold laws_szChoice.f
  obtain ⟨r, hr, hr'⟩ := szStringS_ev l a hl h0 h1
  by_cases hn : r < 0
  · exact ⟨-1, Ev.bind hr (Ev.ifp hn (Ev.now _)), fun h => absurd h (by decide)⟩
  obtain ⟨q1, q2⟩ := hr' (by omega)
  have e := szIntS_eq m r hm (by omega) (by omega)
  by_cases hn2 : r < m.length
  · rw [if_pos hn2] at e
    exact ⟨-1, Ev.bind hr (Ev.ifn hn (Ev.call e (Ev.ifp (by decide) (Ev.now _)))), fun h => absurd h (by decide)⟩
  · rw [if_neg hn2] at e
    exact ⟨r - m.length, Ev.bind hr (Ev.ifn hn (Ev.call e (Ev.ifn (by omega) (Ev.now _)))), fun h => ⟨by omega, by omega, by omega⟩⟩
theorem toChoice_ev (l : List ByteArray) (m : List Int) (hl : l.length ≤ 1048576) (hm : m.length ≤ 1048576) : Ev (fun k => laws_toChoice.f k l m) (l, m) := by
  unfold laws_toChoice.f
  exact Ev.bind (toStringS_ev l hl) (Ev.bind (toIntS_ev m hm) (Ev.now _))
theorem eqChoice_refl (l : List ByteArray) (m : List Int) (hl : l.length ≤ 1048576) (hm : m.length ≤ 1048576) : Ev (fun k => laws_eqChoice.f k l m l m) true := by
  unfold laws_eqChoice.f
  exact Ev.bind (eqStringS_refl l hl) (Ev.ifp rfl (Ev.bind (eqIntS_refl m hm) (Ev.ifp rfl (Ev.now _))))
open Classical in
def marksN : Nat → Nat → List Int
  | 0, _ => []
  | n + 1, a => (a : Int) :: marksN n (a + 1)
theorem marksN_len : ∀ n a, (marksN n a).length = n
  | 0, _ => rfl
  | n + 1, a => by simp [marksN, marksN_len n]
def shapeC (c : Nat) : Bool × Bool × Bool × Int × Int :=
  match c with
  | 0 => (true, false, false, 0, 63)
  | 1 => (true, true, false, 0, 0)
  | 2 => (true, true, true, 0, 0)
  | 3 => (true, true, true, 0, 0)
  | 4 => (true, true, true, 0, 0)
  | 5 => (true, true, false, 0, 63)
  | 6 => (true, true, false, 1, 5)
  | 7 => (true, true, true, 1, 3)
  | _ => (false, false, false, 0, 0)
theorem shape_closed : ∀ p ∈ ops, spec_cdShape.f 20 p.1 = some (shapeC p.2) := by decide +kernel
theorem formOf_eq (s : ByteArray) : impl_formOf.f s = some (formC (cls s) s) := rfl
theorem shape_ev (s : ByteArray) : Ev (fun k => spec_cdShape.f k s) (shapeC (cls s)) := by
  refine op_cases (P := fun s => Ev (fun k => spec_cdShape.f k s) (shapeC (cls s))) s (fun p hp => ?_) (fun h => ?_)
  · rw [cls_op p hp]
    exact Ev.of (spec_cdShape.mono _) (shape_closed p hp)
  · rw [cls_none h]
    obtain ⟨h0, h1, h2, h3, h4, h5, h6, h7, h8, h9, h10, h11, h12, h13, h14, h15, h16, h17, h18, h19⟩ := not_ops h
    refine Ev.of (spec_cdShape.mono _) (k := 5) ?_
    simp only [spec_cdShape.f, spec_cdShape.j0, spec_cdShape.j1, spec_cdShape.j2, spec_cdShape.j3, h0, h1, h2, h3, h4, h5, h6, h7, h8, h9, h10, h11, h12, h13, h14, h15, h16, h17, h18, h19, if_false, beq_iff_eq]
    rfl
theorem within_eq (a b c : Int) : impl_within.f a b c = some (decide (b ≤ a ∧ a ≤ c)) := by
  unfold impl_within.f
  by_cases h : b ≤ a <;> simp [h]
theorem l1In_eq (a b c : Int) : spec_l1In.f a b c = some (decide (b ≤ a ∧ a ≤ c)) := by
  unfold spec_l1In.f
  by_cases h : a ≥ b
  · rw [if_pos h]; congr 1; rw [decide_eq_decide]; omega
  · rw [if_neg h]; congr 1; symm; rw [decide_eq_false_iff_not]; omega
def okI (x : Instr) : Prop := cls x.f0 ≠ 8 ∧ (0 ≤ x.f1 ∧ x.f1 ≤ 5) ∧ ((shapeC (cls x.f0)).2.1 = true ∧ 0 ≤ x.f2 ∧ x.f2 ≤ 5 ∨ x.f2 = 0) ∧ ((shapeC (cls x.f0)).2.2.1 = true ∧ 0 ≤ x.f3 ∧ x.f3 ≤ 5 ∨ x.f3 = 0) ∧ (shapeC (cls x.f0)).2.2.2.1 ≤ x.f4 ∧ x.f4 ≤ (shapeC (cls x.f0)).2.2.2.2
instance (x : Instr) : Decidable (okI x) := by unfold okI; infer_instance
theorem cls_le (s : ByteArray) : cls s ≤ 8 := by
  refine op_cases (P := fun s => cls s ≤ 8) s (by decide +kernel) (fun h => by rw [cls_none h]; exact Nat.le_refl _)
theorem cls_cases (s : ByteArray) : cls s = 0 ∨ cls s = 1 ∨ cls s = 2 ∨ cls s = 3 ∨ cls s = 4 ∨ cls s = 5 ∨ cls s = 6 ∨ cls s = 7 ∨ cls s = 8 := by have := cls_le s; omega
theorem rdN_eq {xs : List S60} {i : Nat} {x : S60} (h : ∀ d, xs.getD i d = x) : rd_T60 xs i = x := by unfold rd_T60; rw [Int.toNat_natCast]; exact h _
theorem rdM_eq {xs : List S50} {i : Nat} {x : S50} (h : ∀ d, xs.getD i d = x) : rd_T50 xs i = x := by unfold rd_T50; rw [Int.toNat_natCast]; exact h _
abbrev Node := S60
abbrev LNode := S50
def cvN (x : LNode) : Node := ⟨x.f0, x.f1, x.f2, x.f3⟩
theorem szNode_eq (s : ByteArray) (a b c r : Int) (hs : s.size ≤ maxLen) (h0 : 0 ≤ r) (h1 : r ≤ 1048576) : laws_szNode.f s a b c r = some (if r < s.size then -1 else r - s.size) := by
  unfold maxLen at hs
  unfold laws_szNode.f
  rw [w64 (by omega) (by omega)]
  by_cases h : r < s.size
  · rw [if_pos (by omega), if_pos h]
  · rw [if_neg (by omega), if_neg h]
theorem szNodeS_ev (l : List LNode) (a : Int) (hl : Rd.okSl good50 l) (h0 : 0 ≤ a) (h1 : a ≤ 1048576) :
    ∃ r, Ev (fun k => laws_szNodeS.f k l a) r ∧ (0 ≤ r → (l.length : Int) ≤ a ∧ (∀ x ∈ l, (x.f0.size : Int) ≤ a) ∧ r ≤ a) := by
  obtain ⟨hl1, hl2⟩ := hl
  unfold maxLen at hl1
  by_cases h : a < l.length
  · refine ⟨-1, ?_, fun h => absurd h (by decide)⟩
    unfold laws_szNodeS.f
    rw [w64 (by omega) (by omega)]
    simp only [show a - (l.length : Int) < 0 by omega, if_true]
    exact Ev.now _
  · have key : ∀ (d i : Nat) (r : Int), i + d = l.length → 0 ≤ r → r ≤ a → ∃ q, Ev (fun k => laws_szNodeS.l0 k l r i) q ∧ q ≤ a ∧ (0 ≤ q → ∀ x ∈ l.drop i, (x.f0.size : Int) ≤ a) := by
      intro d
      induction d with
      | zero =>
        intro i r hi hr _
        refine ⟨r, Ev.step (f := fun _ => some r) (fun k => ?_) (Ev.now _), by omega, fun _ x hx => ?_⟩
        · simp only [laws_szNodeS.l0]
          rw [if_neg (by omega)]
        · rw [List.drop_of_length_le (by omega)] at hx
          cases hx
      | succ d ih =>
        intro i r hi hr hra
        have hlt : i < l.length := by omega
        have e : l.drop i = l[i] :: l.drop (i + 1) := List.drop_eq_getElem_cons hlt
        have hx := rdM_eq (getD_eq l i hlt)
        have hsz := (hl2 l[i] (List.getElem_mem hlt)).1
        by_cases hb : r < l[i].f0.size
        · refine ⟨-1, Ev.step (f := fun _ => some (-1)) (fun k => ?_) (Ev.now _), by omega, fun h => absurd h (by decide)⟩
          simp only [laws_szNodeS.l0]
          rw [if_pos (by omega), if_pos (by omega), hx, szNode_eq _ _ _ _ _ hsz hr (by omega), if_pos hb]
          rfl
        · obtain ⟨q, hq, hqa, hq'⟩ := ih (i + 1) (r - l[i].f0.size) (by omega) (by omega) (by omega)
          refine ⟨q, Ev.step (f := fun k => laws_szNodeS.l0 k l (r - l[i].f0.size) ((i + 1 : Nat) : Int)) (fun k => ?_) hq, hqa, fun h x hx' => ?_⟩
          · simp only [laws_szNodeS.l0]
            rw [if_pos (by omega), if_pos (by omega), hx, szNode_eq _ _ _ _ _ hsz hr (by omega), if_neg hb, Option.bind_some, if_neg (by omega), w64n i (by omega)]
          · rw [e] at hx'
            rcases List.mem_cons.1 hx' with rfl | hx'
            · omega
            · exact hq' h x hx'
    obtain ⟨q, hq, hqa, hq'⟩ := key l.length 0 (a - l.length) (by omega) (by omega) (by omega)
    refine ⟨q, ?_, fun h' => ⟨by omega, by simpa using hq' h', hqa⟩⟩
    unfold laws_szNodeS.f
    rw [w64 (by omega) (by omega)]
    simp only [show ¬ (a - (l.length : Int) < 0) by omega, if_false]
    simpa using hq
theorem toNodeS_ev (l : List LNode) (hl : l.length ≤ 1048576) : Ev (fun k => laws_toNodeS.f k l) (l.map cvN) := by
  have key : ∀ (d i : Nat), i + d = l.length → Ev (fun k => laws_toNodeS.l0 k l ((l.take i).map cvN ++ List.replicate d z60) i) (l.map cvN) := by
    intro d
    induction d with
    | zero =>
      intro i hi
      refine Ev.step (f := fun _ => some _) (fun k => ?_) (Ev.now _)
      simp only [laws_toNodeS.l0]
      rw [if_neg (by omega), List.take_of_length_le (by omega)]
      simp
    | succ d ih =>
      intro i hi
      have hlt : i < l.length := by omega
      have hx := rdM_eq (getD_eq l i hlt)
      refine Ev.step (fun k => ?_) (ih (i + 1) (by omega))
      simp only [laws_toNodeS.l0, laws_toNode.f, Option.bind_some]
      rw [if_pos (by omega), if_pos (by omega), if_pos (by simp; omega), hx, w64n i (by omega)]
      congr 1
      have e : ((i : Int)).toNat = ((l.take i).map cvN).length := by simp; omega
      rw [e]
      have := set_fill ((l.take i).map cvN) (List.replicate d z60) z60 (cvN l[i])
      simp only [List.length_replicate] at this
      rw [show (⟨l[i].f0, l[i].f1, l[i].f2, l[i].f3⟩ : Node) = cvN l[i] from rfl, this]
      congr 1
      rw [List.take_succ_eq_append_getElem hlt, List.map_append]
      rfl
  unfold laws_toNodeS.f
  refine Ev.ifp (by omega) (Ev.ifp (by simp; omega) ?_)
  simpa using key l.length 0 (by omega)
theorem eqNodeS_refl (l : List Node) (hl : l.length ≤ 1048576) : Ev (fun k => laws_eqNodeS.f k l l) true := by
  unfold laws_eqNodeS.f
  simp only [if_true]
  refine loop_list (σ := Unit) l (fun k _ i => laws_eqNodeS.l0 k l l i) (fun _ _ => true) (fun _ => ?_) (fun i _ x rest hi hx ih => ?_) ()
  · refine Ev.step (f := fun _ => some true) (fun k => ?_) (Ev.now _)
    simp only [laws_eqNodeS.l0]
    rw [if_neg (by omega)]
  · refine Ev.step (fun k => ?_) (ih ())
    simp only [laws_eqNodeS.l0, laws_eqNode.f, reduceIte, Option.bind_some]
    rw [if_pos (by omega), if_pos (by omega), w64n i (by omega), if_pos (by omega)]
end Go.Proofs.Ytnaafcleafbejaa.PL
end
