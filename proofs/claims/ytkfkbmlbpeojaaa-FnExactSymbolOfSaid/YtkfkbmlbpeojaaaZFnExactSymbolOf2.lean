/- Proved here: contracts of functions that the law FnExactSymbolOf reaches, and lemmas on what they compute; texts of this session and the printed words of the kit that they lean on, cut down and put together by its program link.py. Conditions: as each states. -/
import Derived.BigQuiet
import Derived.Deep.CutRange
import Derived.Deep.DeepMust
import Derived.Deep.QuietTactic
import Derived.Laws.CopyOwn
import Derived.Laws.EntriesVeiled
import Derived.Laws.MathBits
import Derived.Lib.Buffer
import Derived.Test.YtkfkbmlbpeojaaaZFnExactSymbolOf1
section
namespace Go.Proofs.Ytkfkbmlbpeojaaa.Q
open Go.RowKit Go.Proofs.YtkfkbmlbpeojaaaW.PrintWords Go.Proofs.YtkfkbmlbpeojaaaW.PrintLast Go.Proofs.YtkfkbmlbpeojaaaW.PrintMore
attribute [local go_sem] zcz zc0 zd1 zd2 zcl zcm zc1 zc2
set_option linter.unusedVariables false
set_option linter.unusedSimpArgs false
def zb0 (k : Nat) (a0_0 : ByteArray) (a0_1 : Int) (a0_2 : Int) (a0_3 : Int) (l1 : List Int) : Option (ByteArray × Int × Int × Int) := (zcq k a0_0).bind fun t103 => (if t103 > 0 then (if 0 ≤ a0_1 then (if a0_1 < (l1.length : Int) then (if t103 > 1 then (if 0 ≤ a0_2 then (if a0_2 < (l1.length : Int) then (some (a0_0, rd l1 a0_1, rd l1 a0_2, a0_3)) else (none)) else (none)) else (some (a0_0, rd l1 a0_1, a0_2, a0_3))) else (none)) else (none)) else (if t103 > 1 then (if 0 ≤ a0_2 then (if a0_2 < (l1.length : Int) then (some (a0_0, a0_1, rd l1 a0_2, a0_3)) else (none)) else (none)) else (some (a0_0, a0_1, a0_2, a0_3))))
theorem zd5 : ∀ a0 a1 a2 a3 a4 k, LeO (zb0 k a0 a1 a2 a3 a4) (zb0 (k + 1) a0 a1 a2 a3 a4) := by
 intro a0 a1 a2 a3 a4 k
 unfold zb0
 repeat' first
     | (with_reducible first | exact zff _ _ | exact LeO.refl _ | exact LeO.none _ | refine zai ?_ ?_ | refine LeO.bind ?_ (fun _ => ?_))
     | exact LeO.none _
     | refine zai ?_ ?_
     | refine LeO.bind ?_ (fun _ => ?_)
set_option maxHeartbeats 8000000 in
set_option maxRecDepth 100000 in
theorem zgb (k : Nat) (a0_0 : ByteArray) (a0_1 : Int) (a0_2 : Int) (a0_3 : Int) (A1 : Option Addr) (c1 : Nat) (l1 : List Int) (r1 : ByteArray) (r2 : Int) (r3 : Int) (r4 : Int) (w : World) (hr1 : Kd.C (Kd.int .i64) w A1 l1.length l1) (hc1 : l1.length ≤ c1) (h : zb0 k a0_0 a0_1 a0_2 a0_3 l1 = some (r1, r2, r3, r4)) :
   Calls Try.prog 151 #[.agg #[.string a0_0, .int .i64 a0_1, .int .i64 a0_2, .int .i64 a0_3], .slice A1 l1.length c1] w fun e w' => e = .returned (.agg #[.string r1, .int .i64 r2, .int .i64 r3, .int .i64 r4]) ∧ Below w.heap.size w w' := by
 have hu72 := Try.underlying72
 have HR1 := zA hr1
 have HC1 := zA hc1
 clear hr1 hc1
 have HB := zA (Below.refl w.heap.size w)
 have H : ((zcq k a0_0).bind fun t103 => (if t103 > 0 then (if 0 ≤ a0_1 then (if a0_1 < (l1.length : Int) then (if t103 > 1 then (if 0 ≤ a0_2 then (if a0_2 < (l1.length : Int) then (some (a0_0, rd l1 a0_1, rd l1 a0_2, a0_3)) else (none)) else (none)) else (some (a0_0, rd l1 a0_1, a0_2, a0_3))) else (none)) else (none)) else (if t103 > 1 then (if 0 ≤ a0_2 then (if a0_2 < (l1.length : Int) then (some (a0_0, a0_1, rd l1 a0_2, a0_3)) else (none)) else (none)) else (some (a0_0, a0_1, a0_2, a0_3))))) = some (r1, r2, r3, r4) := h
 clear h
 replace H := zob H
 obtain ⟨t103, A30, H⟩ := H
 replace H : (if t103 > 0 then (if 0 ≤ a0_1 then (if a0_1 < (l1.length : Int) then (if t103 > 1 then (if 0 ≤ a0_2 then (if a0_2 < (l1.length : Int) then (some (a0_0, rd l1 a0_1, rd l1 a0_2, a0_3)) else (none)) else (none)) else (some (a0_0, rd l1 a0_1, a0_2, a0_3))) else (none)) else (none)) else (if t103 > 1 then (if 0 ≤ a0_2 then (if a0_2 < (l1.length : Int) then (some (a0_0, a0_1, rd l1 a0_2, a0_3)) else (none)) else (none)) else (some (a0_0, a0_1, a0_2, a0_3)))) = some (r1, r2, r3, r4) := H
 have A3 := zA A30
 clear A30
 by_cases c4 : t103 > 0
 rotate_left
 · rw [if_neg c4] at H
   have c4b0 : decide (0 < t103) = false := zdf c4
   clear c4
   by_cases c24 : t103 > 1
   rotate_left
   · rw [if_neg c24] at H
     have c24b0 : decide (1 < t103) = false := zdf c24
     clear c24
     simp only [Option.some.injEq, Prod.mk.injEq] at H
     obtain ⟨rfl, rfl, rfl, rfl⟩ := H
     go_enter Try.func151, Try.ntmps151
     go_wp2_with (first | ((with_reducible refine zar (N := 2) rfl ?_); refine zat ?hg (N := 2) ?hd (cs := #[.string a0_0, .int .i64 a0_1, .int .i64 a0_2, .int .i64 a0_3]) (t := 72) ?hr ?_; (case hd => rfl); (case hg => rfl); (case hr => go_simp <;> rfl); intro gb101 hg w34 hbox hb; have zs := zpair (by repeat (first | (with_reducible first | exact HB.out | apply zba | apply zbn | apply zbd) | exact HB.out)) hb; have n0_ := zA (zs.1); have n1_ := zA (hbox); have n2_ := zA ((by rw [hg]; exact zs.2 : w.heap.size ≤ gb101)); have n3_ := n2_; clear HB; have HB := n0_; have BK101 := n1_; have GW101 := n2_; have GE101 := n3_; clear n0_ n1_ n2_ n3_; clear zs hb hbox hg) | ((with_reducible refine zar (N := 4) rfl ?_); refine zat ?hg (N := 4) ?hd (cs := #[.string (⟨#[]⟩ : ByteArray), .int .i64 0, .int .i64 0, .int .i64 0]) (t := 72) ?hr ?_; (case hd => rfl); (case hg => rfl); (case hr => go_simp <;> rfl); intro gb102 hg w35 hbox hb; have n0_ := zA (zaj (g := gb101) (o := .cells #[.string a0_0, .int .i64 a0_1, .int .i64 a0_2, .int .i64 a0_3] 72 (0, 0)) (by (with_reducible repeat (first | refine zkn ?_ _ | refine zkd ?_ | refine zka ?_ _)); exact BK101.out) hb); have zs := zpair (by repeat (first | (with_reducible first | exact HB.out | apply zba | apply zbn | apply zbd | refine zab ?_ GE101.out) | exact HB.out)) hb; have n1_ := zA (zs.1); have n2_ := zA (hbox); have n3_ := zA ((by rw [hg]; exact zs.2 : w.heap.size ≤ gb102)); have n4_ := n3_; have n5_ := zA ((by rw [hg]; exact Nat.ne_of_lt (zlt BK101.out (fun h => by (with_reducible repeat (first | refine zkn ?_ _ | refine zkd ?_ | refine zka ?_ _)); exact h)) : gb101 ≠ gb102)); have n6_ := zA (Ne.symm n5_.out); clear BK101 HB; have BK101 := n0_; have HB := n1_; have BK102 := n2_; have GW102 := n3_; have GE102 := n4_; have NB101_102 := n5_; have NB102_101 := n6_; clear n0_ n1_ n2_ n3_ n4_ n5_ n6_; clear zs hb hbox hg; have hnb36 := NB101_102.out; have hnc36 := NB102_101.out; obtain ⟨hcz37_0, hcz37_1, hcz37_2, hcz37_3⟩ := zc4 w35 (.string a0_0) (.int .i64 a0_1) (.int .i64 a0_2) (.int .i64 a0_3) BK101.out; obtain ⟨hfz37_0, hfz37_1, hfz37_2, hfz37_3⟩ := zf4 BK101.out) | ((with_reducible refine zah (f := 146) rfl ?_); refine za3 (some 8) rfl rfl Try.func146 (by kernel_rfl) rfl #[.string a0_0] rfl (by (try simp only [List.map_toArray, List.map_cons, List.map_nil]); first | done | rfl | (simp only [List.length_drop, List.length_take]; rfl)) ?_; (with_reducible refine (zdn k a0_0 t103 _ A3.out).mono ?_); rintro e w38 ⟨rfl, hb⟩; refine ⟨_, rfl, ?_⟩; have n0_ := zA (zaj (g := gb101) (o := .cells #[.string a0_0, .int .i64 a0_1, .int .i64 a0_2, .int .i64 a0_3] 72 (0, 0)) (by (with_reducible repeat (first | refine zkn ?_ _ | refine zkd ?_ | refine zka ?_ _)); exact BK101.out) hb); have n1_ := zA (zaj (g := gb102) (o := .cells #[.string (⟨#[]⟩ : ByteArray), .int .i64 0, .int .i64 0, .int .i64 0] 72 (0, 0)) (by (with_reducible repeat (first | refine zkn ?_ _ | refine zkd ?_ | refine zka ?_ _)); exact BK102.out) hb); have n2_ := zA (zag (by repeat (first | (with_reducible first | exact HB.out | apply zba | apply zbn | apply zbd | refine zab ?_ GE101.out | refine zab ?_ GE102.out) | exact HB.out)) hb); clear BK101 BK102 HB; have BK101 := n0_; have BK102 := n1_; have HB := n2_; clear n0_ n1_ n2_; (try clear hb); obtain ⟨hcz39_0, hcz39_1, hcz39_2, hcz39_3⟩ := zc4 w38 (.string a0_0) (.int .i64 a0_1) (.int .i64 a0_2) (.int .i64 a0_3) BK101.out; obtain ⟨hfz39_0, hfz39_1, hfz39_2, hfz39_3⟩ := zf4 BK101.out; obtain ⟨hcz40_0, hcz40_1, hcz40_2, hcz40_3⟩ := zc4 w38 (.string (⟨#[]⟩ : ByteArray)) (.int .i64 0) (.int .i64 0) (.int .i64 0) BK102.out; obtain ⟨hfz40_0, hfz40_1, hfz40_2, hfz40_3⟩ := zf4 BK102.out))
     refine bodyPost_ret (results_cell_row rfl _ _ gb102 72 #[.string a0_0, .int .i64 a0_1, .int .i64 a0_2, .int .i64 a0_3] (0, 0) _ rfl (by (with_reducible repeat (first | refine zkn ?_ _ | refine zkd ?_ | refine zka ?_ _)); refine zan (cs := #[.string a0_0, .int .i64 a0_1, .int .i64 a0_2, .int .i64 0]) ?_ 3 _ rfl; (with_reducible repeat (first | refine zkn ?_ _ | refine zkd ?_ | refine zka ?_ _)); refine zan (cs := #[.string a0_0, .int .i64 a0_1, .int .i64 0, .int .i64 0]) ?_ 2 _ rfl; (with_reducible repeat (first | refine zkn ?_ _ | refine zkd ?_ | refine zka ?_ _)); refine zan (cs := #[.string a0_0, .int .i64 0, .int .i64 0, .int .i64 0]) ?_ 1 _ rfl; (with_reducible repeat (first | refine zkn ?_ _ | refine zkd ?_ | refine zka ?_ _)); refine zan (cs := #[.string (⟨#[]⟩ : ByteArray), .int .i64 0, .int .i64 0, .int .i64 0]) ?_ 0 _ rfl; (with_reducible repeat (first | refine zkn ?_ _ | refine zkd ?_ | refine zka ?_ _)); exact BK102.out) Try.underlying72 rfl (by kernel_rfl)) rfl ?_
     exact ⟨by first | rfl | (simp [zad, zae] <;> rfl) | (simp [*, zad, zae] <;> rfl), by repeat (first | (with_reducible first | exact HB.out | apply zba | apply zbn | apply zbd | refine zab ?_ GE101.out | refine zab ?_ GE102.out) | exact HB.out)⟩
   rw [if_pos c24] at H
   have c24b0 : decide (1 < t103) = true := zdt c24
   clear c24
   by_cases c25 : 0 ≤ a0_2
   rotate_left
   · rw [if_neg c25] at H
     exact absurd H (by simp)
   rw [if_pos c25] at H
   have c25b0 : decide (0 ≤ a0_2) = true := zdt c25
   clear c25
   by_cases c26 : a0_2 < (l1.length : Int)
   rotate_left
   · rw [if_neg c26] at H
     exact absurd H (by simp)
   rw [if_pos c26] at H
   have c26b0 : decide (a0_2 < (l1.length : Int)) = true := zdt c26
   clear c26
   simp only [Option.some.injEq, Prod.mk.injEq] at H
   obtain ⟨rfl, rfl, rfl, rfl⟩ := H
   go_enter Try.func151, Try.ntmps151
   go_wp2_with (first | ((with_reducible refine zar (N := 2) rfl ?_); refine zat ?hg (N := 2) ?hd (cs := #[.string a0_0, .int .i64 a0_1, .int .i64 a0_2, .int .i64 a0_3]) (t := 72) ?hr ?_; (case hd => rfl); (case hg => rfl); (case hr => go_simp <;> rfl); intro gb101 hg w27 hbox hb; have zs := zpair (by repeat (first | (with_reducible first | exact HB.out | apply zba | apply zbn | apply zbd) | exact HB.out)) hb; have n0_ := zA (zs.1); have n1_ := zA (hbox); have n2_ := zA ((by rw [hg]; exact zs.2 : w.heap.size ≤ gb101)); have n3_ := n2_; clear HB; have HB := n0_; have BK101 := n1_; have GW101 := n2_; have GE101 := n3_; clear n0_ n1_ n2_ n3_; clear zs hb hbox hg) | ((with_reducible refine zar (N := 4) rfl ?_); refine zat ?hg (N := 4) ?hd (cs := #[.string (⟨#[]⟩ : ByteArray), .int .i64 0, .int .i64 0, .int .i64 0]) (t := 72) ?hr ?_; (case hd => rfl); (case hg => rfl); (case hr => go_simp <;> rfl); intro gb102 hg w28 hbox hb; have n0_ := zA (zaj (g := gb101) (o := .cells #[.string a0_0, .int .i64 a0_1, .int .i64 a0_2, .int .i64 a0_3] 72 (0, 0)) (by (with_reducible repeat (first | refine zkn ?_ _ | refine zkd ?_ | refine zka ?_ _)); exact BK101.out) hb); have zs := zpair (by repeat (first | (with_reducible first | exact HB.out | apply zba | apply zbn | apply zbd | refine zab ?_ GE101.out) | exact HB.out)) hb; have n1_ := zA (zs.1); have n2_ := zA (hbox); have n3_ := zA ((by rw [hg]; exact zs.2 : w.heap.size ≤ gb102)); have n4_ := n3_; have n5_ := zA ((by rw [hg]; exact Nat.ne_of_lt (zlt BK101.out (fun h => by (with_reducible repeat (first | refine zkn ?_ _ | refine zkd ?_ | refine zka ?_ _)); exact h)) : gb101 ≠ gb102)); have n6_ := zA (Ne.symm n5_.out); clear BK101 HB; have BK101 := n0_; have HB := n1_; have BK102 := n2_; have GW102 := n3_; have GE102 := n4_; have NB101_102 := n5_; have NB102_101 := n6_; clear n0_ n1_ n2_ n3_ n4_ n5_ n6_; clear zs hb hbox hg; have hnb29 := NB101_102.out; have hnc29 := NB102_101.out; obtain ⟨hcz30_0, hcz30_1, hcz30_2, hcz30_3⟩ := zc4 w28 (.string a0_0) (.int .i64 a0_1) (.int .i64 a0_2) (.int .i64 a0_3) BK101.out; obtain ⟨hfz30_0, hfz30_1, hfz30_2, hfz30_3⟩ := zf4 BK101.out) | ((with_reducible refine zah (f := 146) rfl ?_); refine za3 (some 8) rfl rfl Try.func146 (by kernel_rfl) rfl #[.string a0_0] rfl (by (try simp only [List.map_toArray, List.map_cons, List.map_nil]); first | done | rfl | (simp only [List.length_drop, List.length_take]; rfl)) ?_; (with_reducible refine (zdn k a0_0 t103 _ A3.out).mono ?_); rintro e w31 ⟨rfl, hb⟩; refine ⟨_, rfl, ?_⟩; have n0_ := zA (zaj (g := gb101) (o := .cells #[.string a0_0, .int .i64 a0_1, .int .i64 a0_2, .int .i64 a0_3] 72 (0, 0)) (by (with_reducible repeat (first | refine zkn ?_ _ | refine zkd ?_ | refine zka ?_ _)); exact BK101.out) hb); have n1_ := zA (zaj (g := gb102) (o := .cells #[.string (⟨#[]⟩ : ByteArray), .int .i64 0, .int .i64 0, .int .i64 0] 72 (0, 0)) (by (with_reducible repeat (first | refine zkn ?_ _ | refine zkd ?_ | refine zka ?_ _)); exact BK102.out) hb); have n2_ := zA (zag (by repeat (first | (with_reducible first | exact HB.out | apply zba | apply zbn | apply zbd | refine zab ?_ GE101.out | refine zab ?_ GE102.out) | exact HB.out)) hb); clear BK101 BK102 HB; have BK101 := n0_; have BK102 := n1_; have HB := n2_; clear n0_ n1_ n2_; (try clear hb); obtain ⟨hcz32_0, hcz32_1, hcz32_2, hcz32_3⟩ := zc4 w31 (.string a0_0) (.int .i64 a0_1) (.int .i64 a0_2) (.int .i64 a0_3) BK101.out; obtain ⟨hfz32_0, hfz32_1, hfz32_2, hfz32_3⟩ := zf4 BK101.out; have p106 : 0 ≤ (a0_2 : Int) := zde (by assumption); have q106 : a0_2 < (l1.length : Int) := zde (by assumption); obtain ⟨ad106, e106, hx106_0⟩ := Kd.at_int HR1.out a0_2 p106 q106; cases e106; replace hx106_0 := zkep HB.out hx106_0; replace p106 := eq_true p106; replace q106 := eq_true q106; obtain ⟨hcz33_0, hcz33_1, hcz33_2, hcz33_3⟩ := zc4 w31 (.string (⟨#[]⟩ : ByteArray)) (.int .i64 0) (.int .i64 0) (.int .i64 0) BK102.out; obtain ⟨hfz33_0, hfz33_1, hfz33_2, hfz33_3⟩ := zf4 BK102.out))
   refine bodyPost_ret (results_cell_row rfl _ _ gb102 72 #[.string a0_0, .int .i64 a0_1, .int .i64 (rd l1 a0_2), .int .i64 a0_3] (0, 0) _ rfl (by (with_reducible repeat (first | refine zkn ?_ _ | refine zkd ?_ | refine zka ?_ _)); refine zan (cs := #[.string a0_0, .int .i64 a0_1, .int .i64 (rd l1 a0_2), .int .i64 0]) ?_ 3 _ rfl; (with_reducible repeat (first | refine zkn ?_ _ | refine zkd ?_ | refine zka ?_ _)); refine zan (cs := #[.string a0_0, .int .i64 a0_1, .int .i64 0, .int .i64 0]) ?_ 2 _ rfl; (with_reducible repeat (first | refine zkn ?_ _ | refine zkd ?_ | refine zka ?_ _)); refine zan (cs := #[.string a0_0, .int .i64 0, .int .i64 0, .int .i64 0]) ?_ 1 _ rfl; (with_reducible repeat (first | refine zkn ?_ _ | refine zkd ?_ | refine zka ?_ _)); refine zan (cs := #[.string (⟨#[]⟩ : ByteArray), .int .i64 0, .int .i64 0, .int .i64 0]) ?_ 0 _ rfl; (with_reducible repeat (first | refine zkn ?_ _ | refine zkd ?_ | refine zka ?_ _)); refine zav ?_ NB102_101.out _; (with_reducible repeat (first | refine zkn ?_ _ | refine zkd ?_ | refine zka ?_ _)); exact BK102.out) Try.underlying72 rfl (by kernel_rfl)) rfl ?_
   exact ⟨by first | rfl | (simp [zad, zae] <;> rfl) | (simp [*, zad, zae] <;> rfl), by repeat (first | (with_reducible first | exact HB.out | apply zba | apply zbn | apply zbd | refine zab ?_ GE101.out | refine zab ?_ GE102.out) | exact HB.out)⟩
 rw [if_pos c4] at H
 have c4b0 : decide (0 < t103) = true := zdt c4
 clear c4
 by_cases c5 : 0 ≤ a0_1
 rotate_left
 · rw [if_neg c5] at H
   exact absurd H (by simp)
 rw [if_pos c5] at H
 have c5b0 : decide (0 ≤ a0_1) = true := zdt c5
 clear c5
 by_cases c6 : a0_1 < (l1.length : Int)
 rotate_left
 · rw [if_neg c6] at H
   exact absurd H (by simp)
 rw [if_pos c6] at H
 have c6b0 : decide (a0_1 < (l1.length : Int)) = true := zdt c6
 clear c6
 by_cases c7 : t103 > 1
 rotate_left
 · rw [if_neg c7] at H
   have c7b0 : decide (1 < t103) = false := zdf c7
   clear c7
   simp only [Option.some.injEq, Prod.mk.injEq] at H
   obtain ⟨rfl, rfl, rfl, rfl⟩ := H
   go_enter Try.func151, Try.ntmps151
   go_wp2_with (first | ((with_reducible refine zar (N := 2) rfl ?_); refine zat ?hg (N := 2) ?hd (cs := #[.string a0_0, .int .i64 a0_1, .int .i64 a0_2, .int .i64 a0_3]) (t := 72) ?hr ?_; (case hd => rfl); (case hg => rfl); (case hr => go_simp <;> rfl); intro gb101 hg w17 hbox hb; have zs := zpair (by repeat (first | (with_reducible first | exact HB.out | apply zba | apply zbn | apply zbd) | exact HB.out)) hb; have n0_ := zA (zs.1); have n1_ := zA (hbox); have n2_ := zA ((by rw [hg]; exact zs.2 : w.heap.size ≤ gb101)); have n3_ := n2_; clear HB; have HB := n0_; have BK101 := n1_; have GW101 := n2_; have GE101 := n3_; clear n0_ n1_ n2_ n3_; clear zs hb hbox hg) | ((with_reducible refine zar (N := 4) rfl ?_); refine zat ?hg (N := 4) ?hd (cs := #[.string (⟨#[]⟩ : ByteArray), .int .i64 0, .int .i64 0, .int .i64 0]) (t := 72) ?hr ?_; (case hd => rfl); (case hg => rfl); (case hr => go_simp <;> rfl); intro gb102 hg w18 hbox hb; have n0_ := zA (zaj (g := gb101) (o := .cells #[.string a0_0, .int .i64 a0_1, .int .i64 a0_2, .int .i64 a0_3] 72 (0, 0)) (by (with_reducible repeat (first | refine zkn ?_ _ | refine zkd ?_ | refine zka ?_ _)); exact BK101.out) hb); have zs := zpair (by repeat (first | (with_reducible first | exact HB.out | apply zba | apply zbn | apply zbd | refine zab ?_ GE101.out) | exact HB.out)) hb; have n1_ := zA (zs.1); have n2_ := zA (hbox); have n3_ := zA ((by rw [hg]; exact zs.2 : w.heap.size ≤ gb102)); have n4_ := n3_; have n5_ := zA ((by rw [hg]; exact Nat.ne_of_lt (zlt BK101.out (fun h => by (with_reducible repeat (first | refine zkn ?_ _ | refine zkd ?_ | refine zka ?_ _)); exact h)) : gb101 ≠ gb102)); have n6_ := zA (Ne.symm n5_.out); clear BK101 HB; have BK101 := n0_; have HB := n1_; have BK102 := n2_; have GW102 := n3_; have GE102 := n4_; have NB101_102 := n5_; have NB102_101 := n6_; clear n0_ n1_ n2_ n3_ n4_ n5_ n6_; clear zs hb hbox hg; have hnb19 := NB101_102.out; have hnc19 := NB102_101.out; obtain ⟨hcz20_0, hcz20_1, hcz20_2, hcz20_3⟩ := zc4 w18 (.string a0_0) (.int .i64 a0_1) (.int .i64 a0_2) (.int .i64 a0_3) BK101.out; obtain ⟨hfz20_0, hfz20_1, hfz20_2, hfz20_3⟩ := zf4 BK101.out) | ((with_reducible refine zah (f := 146) rfl ?_); refine za3 (some 8) rfl rfl Try.func146 (by kernel_rfl) rfl #[.string a0_0] rfl (by (try simp only [List.map_toArray, List.map_cons, List.map_nil]); first | done | rfl | (simp only [List.length_drop, List.length_take]; rfl)) ?_; (with_reducible refine (zdn k a0_0 t103 _ A3.out).mono ?_); rintro e w21 ⟨rfl, hb⟩; refine ⟨_, rfl, ?_⟩; have n0_ := zA (zaj (g := gb101) (o := .cells #[.string a0_0, .int .i64 a0_1, .int .i64 a0_2, .int .i64 a0_3] 72 (0, 0)) (by (with_reducible repeat (first | refine zkn ?_ _ | refine zkd ?_ | refine zka ?_ _)); exact BK101.out) hb); have n1_ := zA (zaj (g := gb102) (o := .cells #[.string (⟨#[]⟩ : ByteArray), .int .i64 0, .int .i64 0, .int .i64 0] 72 (0, 0)) (by (with_reducible repeat (first | refine zkn ?_ _ | refine zkd ?_ | refine zka ?_ _)); exact BK102.out) hb); have n2_ := zA (zag (by repeat (first | (with_reducible first | exact HB.out | apply zba | apply zbn | apply zbd | refine zab ?_ GE101.out | refine zab ?_ GE102.out) | exact HB.out)) hb); clear BK101 BK102 HB; have BK101 := n0_; have BK102 := n1_; have HB := n2_; clear n0_ n1_ n2_; (try clear hb); obtain ⟨hcz22_0, hcz22_1, hcz22_2, hcz22_3⟩ := zc4 w21 (.string a0_0) (.int .i64 a0_1) (.int .i64 a0_2) (.int .i64 a0_3) BK101.out; obtain ⟨hfz22_0, hfz22_1, hfz22_2, hfz22_3⟩ := zf4 BK101.out; have p104 : 0 ≤ (a0_1 : Int) := zde (by assumption); have q104 : a0_1 < (l1.length : Int) := zde (by assumption); obtain ⟨ad104, e104, hx104_0⟩ := Kd.at_int HR1.out a0_1 p104 q104; cases e104; replace hx104_0 := zkep HB.out hx104_0; replace p104 := eq_true p104; replace q104 := eq_true q104; obtain ⟨hcz23_0, hcz23_1, hcz23_2, hcz23_3⟩ := zc4 w21 (.string (⟨#[]⟩ : ByteArray)) (.int .i64 0) (.int .i64 0) (.int .i64 0) BK102.out; obtain ⟨hfz23_0, hfz23_1, hfz23_2, hfz23_3⟩ := zf4 BK102.out))
   refine bodyPost_ret (results_cell_row rfl _ _ gb102 72 #[.string a0_0, .int .i64 (rd l1 a0_1), .int .i64 a0_2, .int .i64 a0_3] (0, 0) _ rfl (by (with_reducible repeat (first | refine zkn ?_ _ | refine zkd ?_ | refine zka ?_ _)); refine zan (cs := #[.string a0_0, .int .i64 (rd l1 a0_1), .int .i64 a0_2, .int .i64 0]) ?_ 3 _ rfl; (with_reducible repeat (first | refine zkn ?_ _ | refine zkd ?_ | refine zka ?_ _)); refine zan (cs := #[.string a0_0, .int .i64 (rd l1 a0_1), .int .i64 0, .int .i64 0]) ?_ 2 _ rfl; (with_reducible repeat (first | refine zkn ?_ _ | refine zkd ?_ | refine zka ?_ _)); refine zan (cs := #[.string a0_0, .int .i64 0, .int .i64 0, .int .i64 0]) ?_ 1 _ rfl; (with_reducible repeat (first | refine zkn ?_ _ | refine zkd ?_ | refine zka ?_ _)); refine zan (cs := #[.string (⟨#[]⟩ : ByteArray), .int .i64 0, .int .i64 0, .int .i64 0]) ?_ 0 _ rfl; (with_reducible repeat (first | refine zkn ?_ _ | refine zkd ?_ | refine zka ?_ _)); refine zav ?_ NB102_101.out _; (with_reducible repeat (first | refine zkn ?_ _ | refine zkd ?_ | refine zka ?_ _)); exact BK102.out) Try.underlying72 rfl (by kernel_rfl)) rfl ?_
   exact ⟨by first | rfl | (simp [zad, zae] <;> rfl) | (simp [*, zad, zae] <;> rfl), by repeat (first | (with_reducible first | exact HB.out | apply zba | apply zbn | apply zbd | refine zab ?_ GE101.out | refine zab ?_ GE102.out) | exact HB.out)⟩
 rw [if_pos c7] at H
 have c7b0 : decide (1 < t103) = true := zdt c7
 clear c7
 by_cases c8 : 0 ≤ a0_2
 rotate_left
 · rw [if_neg c8] at H
   exact absurd H (by simp)
 rw [if_pos c8] at H
 have c8b0 : decide (0 ≤ a0_2) = true := zdt c8
 clear c8
 by_cases c9 : a0_2 < (l1.length : Int)
 rotate_left
 · rw [if_neg c9] at H
   exact absurd H (by simp)
 rw [if_pos c9] at H
 have c9b0 : decide (a0_2 < (l1.length : Int)) = true := zdt c9
 clear c9
 simp only [Option.some.injEq, Prod.mk.injEq] at H
 obtain ⟨rfl, rfl, rfl, rfl⟩ := H
 go_enter Try.func151, Try.ntmps151
 go_wp2_with (first | ((with_reducible refine zar (N := 2) rfl ?_); refine zat ?hg (N := 2) ?hd (cs := #[.string a0_0, .int .i64 a0_1, .int .i64 a0_2, .int .i64 a0_3]) (t := 72) ?hr ?_; (case hd => rfl); (case hg => rfl); (case hr => go_simp <;> rfl); intro gb101 hg w10 hbox hb; have zs := zpair (by repeat (first | (with_reducible first | exact HB.out | apply zba | apply zbn | apply zbd) | exact HB.out)) hb; have n0_ := zA (zs.1); have n1_ := zA (hbox); have n2_ := zA ((by rw [hg]; exact zs.2 : w.heap.size ≤ gb101)); have n3_ := n2_; clear HB; have HB := n0_; have BK101 := n1_; have GW101 := n2_; have GE101 := n3_; clear n0_ n1_ n2_ n3_; clear zs hb hbox hg) | ((with_reducible refine zar (N := 4) rfl ?_); refine zat ?hg (N := 4) ?hd (cs := #[.string (⟨#[]⟩ : ByteArray), .int .i64 0, .int .i64 0, .int .i64 0]) (t := 72) ?hr ?_; (case hd => rfl); (case hg => rfl); (case hr => go_simp <;> rfl); intro gb102 hg w11 hbox hb; have n0_ := zA (zaj (g := gb101) (o := .cells #[.string a0_0, .int .i64 a0_1, .int .i64 a0_2, .int .i64 a0_3] 72 (0, 0)) (by (with_reducible repeat (first | refine zkn ?_ _ | refine zkd ?_ | refine zka ?_ _)); exact BK101.out) hb); have zs := zpair (by repeat (first | (with_reducible first | exact HB.out | apply zba | apply zbn | apply zbd | refine zab ?_ GE101.out) | exact HB.out)) hb; have n1_ := zA (zs.1); have n2_ := zA (hbox); have n3_ := zA ((by rw [hg]; exact zs.2 : w.heap.size ≤ gb102)); have n4_ := n3_; have n5_ := zA ((by rw [hg]; exact Nat.ne_of_lt (zlt BK101.out (fun h => by (with_reducible repeat (first | refine zkn ?_ _ | refine zkd ?_ | refine zka ?_ _)); exact h)) : gb101 ≠ gb102)); have n6_ := zA (Ne.symm n5_.out); clear BK101 HB; have BK101 := n0_; have HB := n1_; have BK102 := n2_; have GW102 := n3_; have GE102 := n4_; have NB101_102 := n5_; have NB102_101 := n6_; clear n0_ n1_ n2_ n3_ n4_ n5_ n6_; clear zs hb hbox hg; have hnb12 := NB101_102.out; have hnc12 := NB102_101.out; obtain ⟨hcz13_0, hcz13_1, hcz13_2, hcz13_3⟩ := zc4 w11 (.string a0_0) (.int .i64 a0_1) (.int .i64 a0_2) (.int .i64 a0_3) BK101.out; obtain ⟨hfz13_0, hfz13_1, hfz13_2, hfz13_3⟩ := zf4 BK101.out) | ((with_reducible refine zah (f := 146) rfl ?_); refine za3 (some 8) rfl rfl Try.func146 (by kernel_rfl) rfl #[.string a0_0] rfl (by (try simp only [List.map_toArray, List.map_cons, List.map_nil]); first | done | rfl | (simp only [List.length_drop, List.length_take]; rfl)) ?_; (with_reducible refine (zdn k a0_0 t103 _ A3.out).mono ?_); rintro e w14 ⟨rfl, hb⟩; refine ⟨_, rfl, ?_⟩; have n0_ := zA (zaj (g := gb101) (o := .cells #[.string a0_0, .int .i64 a0_1, .int .i64 a0_2, .int .i64 a0_3] 72 (0, 0)) (by (with_reducible repeat (first | refine zkn ?_ _ | refine zkd ?_ | refine zka ?_ _)); exact BK101.out) hb); have n1_ := zA (zaj (g := gb102) (o := .cells #[.string (⟨#[]⟩ : ByteArray), .int .i64 0, .int .i64 0, .int .i64 0] 72 (0, 0)) (by (with_reducible repeat (first | refine zkn ?_ _ | refine zkd ?_ | refine zka ?_ _)); exact BK102.out) hb); have n2_ := zA (zag (by repeat (first | (with_reducible first | exact HB.out | apply zba | apply zbn | apply zbd | refine zab ?_ GE101.out | refine zab ?_ GE102.out) | exact HB.out)) hb); clear BK101 BK102 HB; have BK101 := n0_; have BK102 := n1_; have HB := n2_; clear n0_ n1_ n2_; (try clear hb); obtain ⟨hcz15_0, hcz15_1, hcz15_2, hcz15_3⟩ := zc4 w14 (.string a0_0) (.int .i64 a0_1) (.int .i64 a0_2) (.int .i64 a0_3) BK101.out; obtain ⟨hfz15_0, hfz15_1, hfz15_2, hfz15_3⟩ := zf4 BK101.out; have p104 : 0 ≤ (a0_1 : Int) := zde (by assumption); have q104 : a0_1 < (l1.length : Int) := zde (by assumption); obtain ⟨ad104, e104, hx104_0⟩ := Kd.at_int HR1.out a0_1 p104 q104; cases e104; replace hx104_0 := zkep HB.out hx104_0; replace p104 := eq_true p104; replace q104 := eq_true q104; have p105 : 0 ≤ (a0_2 : Int) := zde (by assumption); have q105 : a0_2 < (l1.length : Int) := zde (by assumption); obtain ⟨ad105, e105, hx105_0⟩ := Kd.at_int HR1.out a0_2 p105 q105; obtain rfl : ad104 = ad105 := (by injection e105); have hn105_0 : ad104.block ≠ gb101 := Nat.ne_of_lt (Nat.lt_of_lt_of_le (by have := World.block_lt_of_cell? _ _ hx105_0; first | rwa [zds] at this | exact this) GW101.out); replace hx105_0 := zkep HB.out hx105_0; replace hx105_0 := (zk1 (p := ⟨gb101, 1, none⟩) (by first | (rw [zds]; exact hn105_0) | (show (Addr.add _ _).block ≠ _; rw [zds]; exact hn105_0) | exact hn105_0) (.int .i64 (rd l1 a0_1))).trans hx105_0; clear hn105_0; replace p105 := eq_true p105; replace q105 := eq_true q105; obtain ⟨hcz16_0, hcz16_1, hcz16_2, hcz16_3⟩ := zc4 w14 (.string (⟨#[]⟩ : ByteArray)) (.int .i64 0) (.int .i64 0) (.int .i64 0) BK102.out; obtain ⟨hfz16_0, hfz16_1, hfz16_2, hfz16_3⟩ := zf4 BK102.out))
 refine bodyPost_ret (results_cell_row rfl _ _ gb102 72 #[.string a0_0, .int .i64 (rd l1 a0_1), .int .i64 (rd l1 a0_2), .int .i64 a0_3] (0, 0) _ rfl (by (with_reducible repeat (first | refine zkn ?_ _ | refine zkd ?_ | refine zka ?_ _)); refine zan (cs := #[.string a0_0, .int .i64 (rd l1 a0_1), .int .i64 (rd l1 a0_2), .int .i64 0]) ?_ 3 _ rfl; (with_reducible repeat (first | refine zkn ?_ _ | refine zkd ?_ | refine zka ?_ _)); refine zan (cs := #[.string a0_0, .int .i64 (rd l1 a0_1), .int .i64 0, .int .i64 0]) ?_ 2 _ rfl; (with_reducible repeat (first | refine zkn ?_ _ | refine zkd ?_ | refine zka ?_ _)); refine zan (cs := #[.string a0_0, .int .i64 0, .int .i64 0, .int .i64 0]) ?_ 1 _ rfl; (with_reducible repeat (first | refine zkn ?_ _ | refine zkd ?_ | refine zka ?_ _)); refine zan (cs := #[.string (⟨#[]⟩ : ByteArray), .int .i64 0, .int .i64 0, .int .i64 0]) ?_ 0 _ rfl; (with_reducible repeat (first | refine zkn ?_ _ | refine zkd ?_ | refine zka ?_ _)); refine zav ?_ NB102_101.out _; (with_reducible repeat (first | refine zkn ?_ _ | refine zkd ?_ | refine zka ?_ _)); refine zav ?_ NB102_101.out _; (with_reducible repeat (first | refine zkn ?_ _ | refine zkd ?_ | refine zka ?_ _)); exact BK102.out) Try.underlying72 rfl (by kernel_rfl)) rfl ?_
 exact ⟨by first | rfl | (simp [zad, zae] <;> rfl) | (simp [*, zad, zae] <;> rfl), by repeat (first | (with_reducible first | exact HB.out | apply zba | apply zbn | apply zbd | refine zab ?_ GE101.out | refine zab ?_ GE102.out) | exact HB.out)⟩
end Go.Proofs.Ytkfkbmlbpeojaaa.Q
end
section
namespace Go.Proofs.Ytkfkbmlbpeojaaa.Q
open Go.RowKit Go.Proofs.YtkfkbmlbpeojaaaW.PrintWords Go.Proofs.YtkfkbmlbpeojaaaW.PrintLast Go.Proofs.YtkfkbmlbpeojaaaW.PrintMore
attribute [local go_sem] zcz zc0 zd1 zd2 zcl zcm zc1 zc2
set_option linter.unusedVariables false
set_option linter.unusedSimpArgs false
mutual
def zcy : Nat → List (S72) → List Bool → Int → Option ((List (S72)))
 | 0, _, _, _ => none
 | k + 1, x0, x5, x6 => if x6 ≥ 0 then (if 0 ≤ x6 then (if x6 < (x0.length : Int) then ((zea k ((zac x0 x6).f0) ((zac x0 x6).f1) ((zac x0 x6).f2) ((zac x0 x6).f3)).bind fun t106 => (zcd k x0 x5 x6 t106 (t106.length : Int) 0)) else (none)) else (none)) else (if 0 ≤ (x0.length : Int) then (if ((x0.length : Int) : Int).toNat ≤ 35184372088832 then (zbx k x5 (([] : List (S72))) (List.replicate ((x0.length : Int) : Int).toNat 0) x0 (x0.length : Int) 0) else (none)) else (none))
def zcd : Nat → List (S72) → List Bool → Int → List Int → Int → Int → Option ((List (S72)))
 | 0, _, _, _, _, _, _ => none
 | k + 1, x0, x5, x6, x28, x29, x30 => if x30 < x29 then (if 0 ≤ x30 then (if x30 < (x28.length : Int) then (if 0 ≤ (rd x28 x30) then (if (rd x28 x30) < (x5.length : Int) then (if rdOf false x5 (rd x28 x30) = true then (zcd k x0 (x5.set ((rd x28 x30) : Int).toNat true) x6 x28 x29 (wrap64 (x30 + 1))) else (if 0 ≤ x6 then (if x6 < (x5.length : Int) then (zcd k x0 (x5.set ((rd x28 x30) : Int).toNat (rdOf false x5 x6)) x6 x28 x29 (wrap64 (x30 + 1))) else (none)) else (none))) else (none)) else (none)) else (none)) else (none)) else (zcy k x0 x5 (wrap64 (x6 - 1)))
def zbx : Nat → List Bool → List (S72) → List Int → List (S72) → Int → Int → Option ((List (S72)))
 | 0, _, _, _, _, _, _ => none
 | k + 1, x5, x9, x10, x52, x53, x54 => if x54 < x53 then (if 0 ≤ x54 then (if x54 < (x52.length : Int) then (if x54 < (x5.length : Int) then (if rdOf false x5 x54 = true then (if x54 < (x10.length : Int) then ((some (x10.set (x54 : Int).toNat (x9.length : Int) : List Int)).bind fun y123 => ((zb0 k ((zac x52 x54).f0) ((zac x52 x54).f1) ((zac x52 x54).f2) ((zac x52 x54).f3) y123).bind fun bt124 => (if x9.length < 3518437208883 then (zbx k x5 (x9 ++ [(⟨bt124.1, bt124.2.1, bt124.2.2.1, bt124.2.2.2⟩ : S72)]) y123 x52 x53 (wrap64 (x54 + 1))) else (none)))) else (none)) else (zbx k x5 x9 x10 x52 x53 (wrap64 (x54 + 1)))) else (none)) else (none)) else (none)) else (some x9)
end
def zfy (k : Nat) (l0 : List (S72)) (a1 : Int) : Option ((List (S72))) := if 0 ≤ (l0.length : Int) then (if ((l0.length : Int) : Int).toNat ≤ 281474976710656 then ((some (List.replicate ((l0.length : Int) : Int).toNat false : List Bool)).bind fun y101 => (if 0 ≤ a1 then (if a1 < (y101.length : Int) then (zcy k l0 (y101.set (a1 : Int).toNat true) a1) else (none)) else (none))) else (none)) else (none)
theorem zix : ∀ k, (∀ y0 y1 y2, LeO (zcy k y0 y1 y2) (zcy (k + 1) y0 y1 y2)) ∧ (∀ y0 y1 y2 y3 y4 y5, LeO (zcd k y0 y1 y2 y3 y4 y5) (zcd (k + 1) y0 y1 y2 y3 y4 y5)) ∧ (∀ y0 y1 y2 y3 y4 y5, LeO (zbx k y0 y1 y2 y3 y4 y5) (zbx (k + 1) y0 y1 y2 y3 y4 y5))
 | 0 => ⟨fun _ _ _ r h => by simp [zcy] at h, fun _ _ _ _ _ _ r h => by simp [zcd] at h, fun _ _ _ _ _ _ r h => by simp [zbx] at h⟩
 | k + 1 => by
   obtain ⟨ih0, ih1, ih2⟩ := zix k
   refine ⟨?_, ?_, ?_⟩
   · intro y0 y1 y2
     unfold zcy
     repeat' first
     | (with_reducible first | exact ih0 _ _ _ | exact ih1 _ _ _ _ _ _ | exact ih2 _ _ _ _ _ _ | exact zdo _ _ _ _ _ | exact zd5 _ _ _ _ _ _ | exact LeO.refl _ | exact LeO.none _ | refine zai ?_ ?_ | refine LeO.bind ?_ (fun _ => ?_))
     | exact LeO.none _
     | refine zai ?_ ?_
     | refine LeO.bind ?_ (fun _ => ?_)
   · intro y0 y1 y2 y3 y4 y5
     unfold zcd
     repeat' first
     | (with_reducible first | exact ih0 _ _ _ | exact ih1 _ _ _ _ _ _ | exact ih2 _ _ _ _ _ _ | exact zdo _ _ _ _ _ | exact zd5 _ _ _ _ _ _ | exact LeO.refl _ | exact LeO.none _ | refine zai ?_ ?_ | refine LeO.bind ?_ (fun _ => ?_))
     | exact LeO.none _
     | refine zai ?_ ?_
     | refine LeO.bind ?_ (fun _ => ?_)
   · intro y0 y1 y2 y3 y4 y5
     unfold zbx
     repeat' first
     | (with_reducible first | exact ih0 _ _ _ | exact ih1 _ _ _ _ _ _ | exact ih2 _ _ _ _ _ _ | exact zdo _ _ _ _ _ | exact zd5 _ _ _ _ _ _ | exact LeO.refl _ | exact LeO.none _ | refine zai ?_ ?_ | refine LeO.bind ?_ (fun _ => ?_))
     | exact LeO.none _
     | refine zai ?_ ?_
     | refine LeO.bind ?_ (fun _ => ?_)
theorem zm5 : ∀ a0 a1 k, LeO (zfy k a0 a1) (zfy (k + 1) a0 a1) := by
 intro a0 a1 k
 obtain ⟨ih0, ih1, ih2⟩ := zix k
 unfold zfy
 repeat' first
     | (with_reducible first | exact ih0 _ _ _ | exact ih1 _ _ _ _ _ _ | exact ih2 _ _ _ _ _ _ | exact zdo _ _ _ _ _ | exact zd5 _ _ _ _ _ _ | exact LeO.refl _ | exact LeO.none _ | refine zai ?_ ?_ | refine LeO.bind ?_ (fun _ => ?_))
     | exact LeO.none _
     | refine zai ?_ ?_
     | refine LeO.bind ?_ (fun _ => ?_)
set_option maxHeartbeats 8000000 in
set_option maxRecDepth 100000 in
theorem zml (k : Nat) (A0 : Option Addr) (c0 : Nat) (l0 : List (S72)) (a1 : Int) (r : List (S72)) (w : World) (hr0 : Kd.C k72 w A0 l0.length l0) (hc0 : l0.length ≤ c0) (h : zfy k l0 a1 = some r) :
   Calls Try.prog 118 #[.slice A0 l0.length c0, .int .i64 a1] w fun e w' => ∃ v0_ : Value, e = .returned (v0_) ∧ Kd.R k72 72 w' w.heap.size (fun _ => True) v0_ r ∧ Below w.heap.size w w' := by
 have hu72 := Try.underlying72
 have HR0 := zA hr0
 have HC0 := zA hc0
 clear hr0 hc0
 have HB := zA (Below.refl w.heap.size w)
 have H : (if 0 ≤ (l0.length : Int) then (if ((l0.length : Int) : Int).toNat ≤ 281474976710656 then ((some (List.replicate ((l0.length : Int) : Int).toNat false : List Bool)).bind fun y101 => (if 0 ≤ a1 then (if a1 < (y101.length : Int) then (zcy k l0 (y101.set (a1 : Int).toNat true) a1) else (none)) else (none))) else (none)) else (none)) = some r := h
 clear h
 by_cases c3 : 0 ≤ (l0.length : Int)
 rotate_left
 · rw [if_neg c3] at H
   exact absurd H (by simp)
 rw [if_pos c3] at H
 have c3b0 := eq_true c3
 have c3b1 : decide (0 ≤ (l0.length : Int)) = true := zdt c3
 clear c3
 by_cases c4 : ((l0.length : Int) : Int).toNat ≤ 281474976710656
 rotate_left
 · rw [if_neg c4] at H
   exact absurd H (by simp)
 rw [if_pos c4] at H
 have c4b0 := eq_true c4
 have c4b1 : decide (((l0.length : Int) : Int).toNat ≤ 281474976710656) = true := zdt c4
 clear c4
 obtain ⟨y101, hy101⟩ : ∃ y_ : List Bool, y_ = (List.replicate ((l0.length : Int) : Int).toNat false) := ⟨_, rfl⟩
 replace H : (if 0 ≤ a1 then (if a1 < (y101.length : Int) then (zcy k l0 (y101.set (a1 : Int).toNat true) a1) else (none)) else (none)) = some r := by first | (rw [hy101]; with_reducible exact H) | (have H2_ := (Option.bind_some _ _).symm.trans H; rw [hy101]; with_reducible exact H2_) | (have H2_ := (Option.bind_some _ _).symm.trans H; with_reducible exact H2_) | with_reducible exact H | (rw [hy101]; exact H) | exact H
 have Ny101 := zA hy101
 clear hy101
 by_cases c5 : 0 ≤ a1
 rotate_left
 · rw [if_neg c5] at H
   exact absurd H (by simp)
 rw [if_pos c5] at H
 have c5b0 : decide (0 ≤ a1) = true := zdt c5
 clear c5
 by_cases c6 : a1 < (y101.length : Int)
 rotate_left
 · rw [if_neg c6] at H
   exact absurd H (by simp)
 rw [if_pos c6] at H
 have c6b0 : decide (a1 < (y101.length : Int)) = true := zdt c6
 clear c6
 obtain ⟨y104, hy104⟩ : ∃ y_ : List Bool, y_ = (y101.set (a1 : Int).toNat true) := ⟨_, rfl⟩
 replace H : (zcy k l0 y104 a1) = some r := by first | (rw [hy104]; with_reducible exact H) | (have H2_ := (Option.bind_some _ _).symm.trans H; rw [hy104]; with_reducible exact H2_) | (have H2_ := (Option.bind_some _ _).symm.trans H; with_reducible exact H2_) | with_reducible exact H | (rw [hy104]; exact H) | exact H
 have Ny104 := zA hy104
 clear hy104
 have H' := zA H
 clear H
 go_enter Try.func118, Try.ntmps118
 go_wp2_with (first | ((with_reducible refine zar (N := 15) rfl ?_); refine Kd.R_make Kd.bool _ 4 rfl (N := 15) rfl 162 _ _ rfl (l0.length : Int) rfl rfl Try.underlying162 (.bool false) 1 zuk rfl (by decide) (by omega) false (ok := fun _ => True) (okp := fun _ => True) rfl (fun _ hk => hk) trivial (zde (by assumption)) (Nat.le_trans (Nat.mul_le_mul_right _ (zde (by assumption) : (l0.length : Int).toNat ≤ 281474976710656)) (by omega)) (Below.refl _ _) (zlr _) ?_; intro v102 w8 ho9 hb hg_ hnew_; clear hg_ hnew_; (first | rw [← Ny101.out] at ho9 | (simp only [Int.reduceToNat] at ho9; rw [← Ny101.out] at ho9)); have n0_ := zA (Kd.R_lower ho9 (za0 (by repeat (first | (with_reducible first | exact HB.out | apply zba | apply zbn | apply zbd) | exact HB.out)))); have n1_ := zA (zag (by repeat (first | (with_reducible first | exact HB.out | apply zba | apply zbn | apply zbd) | exact HB.out)) hb); clear HB; have HO103 := n0_; have HB := n1_; clear n0_ n1_; clear hb ho9; have p7 : 0 ≤ (a1 : Int) := zde (by assumption); have q7 : (a1 : Int) < ((y101.length : Int) : Int) := zde (by assumption); obtain ⟨go7, co7, eo7, gb7, gl7, cl7, HG7⟩ := Kd.R_form HO103.out (by omega); (first | cases eo7 | (injection eo7 with ea_ en_ ec_; (first | subst ea_ | (injection ea_ with ea_; subst ea_)); subst ec_; clear en_)); have GB7 := zA gb7; have GG7 := zA HG7; clear gb7 gl7 HG7; obtain ⟨hx7_0, hf7_0⟩ := Kd.R_celln false HO103.out (a1 : Int) p7 q7; replace p7 := eq_true p7; replace q7 := eq_true q7; obtain ⟨hy10_, hz10_⟩ := Kd.R_celln false HO103.out (a1 : Int) (zde (by assumption)) (zde (by assumption)); have HP10 := Kd.R_putg HO103.out (a1 : Int) true) | ((with_reducible refine zbk (t := 4) (p := 18) rfl ?_); refine zbj (t := 4) (p := 18) (v := ?vo_w11) (w1 := (w8.setCell ⟨go7, (a1 : Int).toNat, none⟩ (.bool true))) ?hg ?ho ?hn ?hr ?_; (case ho => rfl); (case hg => rfl); (case hn => rfl); (case hr => go_simp <;> rfl); intro w11 hw; have hg : w8.grownBy w11 (some go7) := (by rw [hw]; exact HP10.2); have hp_ : Kd.R Kd.bool 4 w11 w.heap.size (fun _ => True) (.slice (some ⟨go7, 0, none⟩) y101.length co7) y104 := (by rw [hw, Ny104.out]; exact HP10.1); clear HP10; have n0_ := zA (hp_); have n1_ := zA ((by rw [hw]; exact zab (HB.out) GB7.out : Below w.heap.size w w11)); clear HO103 HB; have HO103 := n0_; have HB := n1_; clear n0_ n1_; clear hg hw hp_))
 go_loopg [6] k (fun kq v6 w' => ∃ (x5_1 : List Bool) (x6_1 : Int), v6 = .int .i64 x6_1 ∧ Aside0 (zcy kq l0 x5_1 x6_1 = some r) ∧ Aside0 (kq ≤ k) ∧ Aside0 (Kd.R Kd.bool 4 w' w.heap.size (fun _ => True) (.slice (some ⟨go7, 0, none⟩) y101.length co7) x5_1) ∧ Aside0 (Below w.heap.size w w'))
 case atStart => exact ⟨(y104), (a1), (by first | rfl | (simp; done) | (simp [*]; done)), H', ⟨zlr _⟩, ⟨by (with_reducible repeat (first | apply zRa | apply zRn | apply zRd)); exact HO103.out⟩, ⟨by repeat (first | (with_reducible first | exact HB.out | apply zba | apply zbn | apply zbd) | exact HB.out)⟩⟩
 clear H'
 try clear c1
 try clear p2
 try clear c3
 try clear c3b0
 try clear c3b1
 try clear c4
 try clear c4b0
 try clear c4b1
 try clear c5
 try clear c5b0
 try clear c6
 try clear c6b0
 try clear p7
 try clear q7
 try clear hx7
 try clear hf7
 try clear c11
 try clear hx7_0
 try clear p7
 try clear q7
 obtain ⟨x5_1, x6_1, rfl, HA, HK1, HO_5, HB⟩ := hrel
 have hl5_1 := (zRr HO_5.out).1
 rw [hl5_1] at HO_5
 (try simp only [hl5_1])
 cases gk with
 | zero => exact absurd HA.out (by simp [zcy])
 | succ k1 =>
 have H := HA.out
 clear HA
 simp only [zcy] at H
 by_cases c12 : x6_1 ≥ 0
 · rw [if_pos c12] at H
   have c12b0 : decide (0 ≤ x6_1) = true := zdt c12
   clear c12
   by_cases c13 : 0 ≤ x6_1
   rotate_left
   · rw [if_neg c13] at H
     exact absurd H (by simp)
   rw [if_pos c13] at H
   have c13b0 : decide (0 ≤ x6_1) = true := zdt c13
   clear c13
   by_cases c14 : x6_1 < (l0.length : Int)
   rotate_left
   · rw [if_neg c14] at H
     exact absurd H (by simp)
   rw [if_pos c14] at H
   have c14b0 : decide (x6_1 < (l0.length : Int)) = true := zdt c14
   clear c14
   replace H := zob H
   obtain ⟨t106, A150, H⟩ := H
   replace H : (zcd k1 l0 x5_1 x6_1 t106 (t106.length : Int) 0) = some r := H
   have A15 := zA A150
   clear A150
   have H' := zA H
   clear H
   have p105 : 0 ≤ (x6_1 : Int) := zde (by assumption)
   have q105 : x6_1 < (l0.length : Int) := zde (by assumption)
   obtain ⟨ad105, e105, hx105_0, hx105_1, hx105_2, hx105_3⟩ := zen HR0.out x6_1 p105 q105
   cases e105
   replace hx105_0 := zkep HB.out hx105_0
   replace hx105_1 := zkep HB.out hx105_1
   replace hx105_2 := zkep HB.out hx105_2
   replace hx105_3 := zkep HB.out hx105_3
   replace p105 := eq_true p105
   replace q105 := eq_true q105
   go_wp2_with (first | ((with_reducible refine zah (f := 148) rfl ?_); refine za3 (some 28) rfl rfl Try.func148 (by kernel_rfl) rfl #[.agg #[.string ((zac l0 x6_1).f0), .int .i64 ((zac l0 x6_1).f1), .int .i64 ((zac l0 x6_1).f2), .int .i64 ((zac l0 x6_1).f3)]] rfl (by (try simp only [List.map_toArray, List.map_cons, List.map_nil]); first | done | rfl | (simp only [List.length_drop, List.length_take]; rfl)) ?_; (with_reducible refine (zga k1 ((zac l0 x6_1).f0) ((zac l0 x6_1).f1) ((zac l0 x6_1).f2) ((zac l0 x6_1).f3) t106 _ A15.out).mono ?_); rintro e w16 ⟨v107, rfl, ho0, hb⟩; refine ⟨_, rfl, ?_⟩; have n0_ := zA (zRb (by (with_reducible repeat (first | apply zRa | apply zRn | apply zRd)); exact HO_5.out) hb); have n1_ := zA (Kd.R_lower ho0 (za0 (by repeat (first | (with_reducible first | exact HB.out | apply zba | apply zbn | apply zbd) | exact HB.out)))); have n2_ := zA (zag (by repeat (first | (with_reducible first | exact HB.out | apply zba | apply zbn | apply zbd) | exact HB.out)) hb); clear HO_5 HB; have HO_5 := n0_; have HO108 := n1_; have HB := n2_; clear n0_ n1_ n2_; (try clear hb); (try clear ho0); obtain ⟨Ao17, co17, eo17⟩ := Kd.R_slice HO108.out; subst eo17))
   go_loopg [30] k1 (fun kq v30 w' => ∃ (x5_2 : List Bool) (x30_2 : Int), v30 = .int .i64 x30_2 ∧ Aside0 (zcd kq l0 x5_2 x6_1 t106 (t106.length : Int) x30_2 = some r) ∧ Aside0 (kq ≤ k1) ∧ Aside0 (Kd.R Kd.bool 4 w' w.heap.size (fun _ => True) (.slice (some ⟨go7, 0, none⟩) x5_1.length co7) x5_2) ∧ Aside0 (Kd.R (Kd.int .i64) 3 w' w.heap.size (fun _ => True) (.slice Ao17 t106.length co17) t106) ∧ Aside0 (Below w.heap.size w w'))
   case atStart => exact ⟨(x5_1), (0), (by first | rfl | (simp; done) | (simp [*]; done)), H', ⟨zlr _⟩, ⟨by (try simp only [hl5_1]); (with_reducible repeat (first | apply zRa | apply zRn | apply zRd)); exact HO_5.out⟩, ⟨by (try simp only [hl5_1]); (with_reducible repeat (first | apply zRa | apply zRn | apply zRd)); exact HO108.out⟩, ⟨by repeat (first | (with_reducible first | exact HB.out | apply zba | apply zbn | apply zbd) | exact HB.out)⟩⟩
   clear H'
   try clear c1
   try clear p1
   try clear q1
   try clear hx1
   try clear p2
   try clear c3
   try clear c3b0
   try clear c3b1
   try clear c4
   try clear c4b0
   try clear c4b1
   try clear c5
   try clear c5b0
   try clear c6
   try clear c6b0
   try clear p7
   try clear q7
   try clear hx7
   try clear hf7
   try clear p10
   try clear q10
   try clear hx10
   try clear c11
   try clear c12
   try clear c12b0
   try clear c13
   try clear c13b0
   try clear c14
   try clear c14b0
   try clear hx105_0
   try clear hx105_1
   try clear hx105_2
   try clear hx105_3
   try clear hx7_0
   try clear p105
   try clear p2
   try clear p7
   try clear q105
   try clear q7
   obtain ⟨x5_2, x30_2, rfl, HA, HK2, HO_5, HO_28, HB⟩ := hrel
   have hl5_2 := (zRr HO_5.out).1
   rw [hl5_2] at HO_5
   (try simp only [hl5_2])
   (try simp only [hl5_2] at HO_28)
   cases gk with
   | zero => exact absurd HA.out (by simp [zcd])
   | succ k2 =>
   have H := HA.out
   clear HA
   simp only [zcd] at H
   by_cases c18 : x30_2 < (t106.length : Int)
   rotate_left
   · rw [if_neg c18] at H
     have c18b0 : decide (x30_2 < (t106.length : Int)) = false := zdf c18
     clear c18
     have H' := zA H
     clear H
     go_wp2
     (try simp only [← hl5_1, ← hl5_2])
     go_roundg k2
     case measure => have := HK1.out; have := HK2.out; omega
     case rel => exact ⟨(x5_2), (wrap64 (x6_1 - 1)), (by first | rfl | (simp; done) | (simp [*]; done)), H', ⟨by have := HK1.out; have := HK2.out; omega⟩, ⟨by (try simp only [hl5_1]); (try simp only [hl5_2]); (with_reducible repeat (first | apply zRa | apply zRn | apply zRd)); exact HO_5.out⟩, ⟨by repeat (first | (with_reducible first | exact HB.out | apply zba | apply zbn | apply zbd) | exact HB.out)⟩⟩
   rw [if_pos c18] at H
   have c18b0 : decide (x30_2 < (t106.length : Int)) = true := zdt c18
   clear c18
   by_cases c19 : 0 ≤ x30_2
   rotate_left
   · rw [if_neg c19] at H
     exact absurd H (by simp)
   rw [if_pos c19] at H
   have c19b0 : decide (0 ≤ x30_2) = true := zdt c19
   clear c19
   by_cases c20 : x30_2 < (t106.length : Int)
   rotate_left
   · rw [if_neg c20] at H
     exact absurd H (by simp)
   rw [if_pos c20] at H
   have c20b0 : decide (x30_2 < (t106.length : Int)) = true := zdt c20
   clear c20
   by_cases c21 : 0 ≤ (rd t106 x30_2)
   rotate_left
   · rw [if_neg c21] at H
     exact absurd H (by simp)
   rw [if_pos c21] at H
   have c21b0 : decide (0 ≤ (rd t106 x30_2)) = true := zdt c21
   clear c21
   by_cases c22 : (rd t106 x30_2) < (x5_2.length : Int)
   rotate_left
   · rw [if_neg c22] at H
     exact absurd H (by simp)
   rw [if_pos c22] at H
   have c22b0 : decide ((rd t106 x30_2) < (x5_2.length : Int)) = true := zdt c22
   clear c22
   obtain ⟨bq23, hbq23⟩ : ∃ b_ : Bool, b_ = (rdOf false x5_2 (rd t106 x30_2)) := ⟨_, rfl⟩
   replace H : (if bq23 = true then (zcd k2 l0 (x5_2.set ((rd t106 x30_2) : Int).toNat true) x6_1 t106 (t106.length : Int) (wrap64 (x30_2 + 1))) else (if 0 ≤ x6_1 then (if x6_1 < (x5_2.length : Int) then (zcd k2 l0 (x5_2.set ((rd t106 x30_2) : Int).toNat (rdOf false x5_2 x6_1)) x6_1 t106 (t106.length : Int) (wrap64 (x30_2 + 1))) else (none)) else (none))) = some r := by rw [← hbq23] at H; exact H
   have Nbq23 := zA hbq23
   clear hbq23
   by_cases c24 : bq23 = true
   · subst c24
     replace H : (zcd k2 l0 (x5_2.set ((rd t106 x30_2) : Int).toNat true) x6_1 t106 (t106.length : Int) (wrap64 (x30_2 + 1))) = some r := by rw [if_pos rfl] at H; exact H
     obtain ⟨y111, hy111⟩ : ∃ y_ : List Bool, y_ = (x5_2.set ((rd t106 x30_2) : Int).toNat true) := ⟨_, rfl⟩
     replace H : (zcd k2 l0 y111 x6_1 t106 (t106.length : Int) (wrap64 (x30_2 + 1))) = some r := by first | (rw [hy111]; with_reducible exact H) | (have H2_ := (Option.bind_some _ _).symm.trans H; rw [hy111]; with_reducible exact H2_) | (have H2_ := (Option.bind_some _ _).symm.trans H; with_reducible exact H2_) | with_reducible exact H | (rw [hy111]; exact H) | exact H
     have Ny111 := zA hy111
     clear hy111
     have H' := zA H
     clear H
     have p109 : 0 ≤ (x30_2 : Int) := zde (by assumption)
     have q109 : x30_2 < (t106.length : Int) := zde (by assumption)
     obtain ⟨ad109, e109, hx109_0⟩ := Kd.at_int (zRr HO_28.out).2.2 x30_2 p109 q109
     cases e109
     replace p109 := eq_true p109
     replace q109 := eq_true q109
     have p110 : 0 ≤ ((rd t106 x30_2) : Int) := zde (by assumption)
     have q110 : (rd t106 x30_2) < (x5_2.length : Int) := zde (by assumption)
     obtain ⟨ad110, e110, hx110_0⟩ := Kd.at_bool (zRr HO_5.out).2.2 (rd t106 x30_2) p110 q110
     (try rw [← Nbq23.out] at hx110_0)
     obtain rfl : (⟨go7, 0, none⟩ : Addr) = ad110 := (by injection e110)
     (first | simp only [zdk] at hx110_0 | simp only [zjs] at hx110_0 | simp only [Addr.add, Nat.zero_add] at hx110_0 | skip)
     replace p110 := eq_true p110
     replace q110 := eq_true q110
     have p25 : 0 ≤ ((rd t106 x30_2) : Int) := zde (by assumption)
     have q25 : ((rd t106 x30_2) : Int) < ((x5_2.length : Int) : Int) := zde (by assumption)
     obtain ⟨hx25_0, hf25_0⟩ := Kd.R_celln false HO_5.out ((rd t106 x30_2) : Int) p25 q25
     replace p25 := eq_true p25
     replace q25 := eq_true q25
     have HP26 := Kd.R_putg HO_5.out ((rd t106 x30_2) : Int) true
     go_wp2_with (first | ((with_reducible refine zbk (t := 4) (p := 46) rfl ?_); refine zbj (t := 4) (p := 46) (v := ?vo_w27) (w1 := (wr.setCell ⟨go7, ((rd t106 x30_2) : Int).toNat, none⟩ (.bool true))) ?hg ?ho ?hn ?hr ?_; (case ho => rfl); (case hg => rfl); (case hn => rfl); (case hr => go_simp <;> rfl); intro w27 hw; have hg : wr.grownBy w27 (some go7) := (by rw [hw]; exact HP26.2); have hp_ : Kd.R Kd.bool 4 w27 w.heap.size (fun _ => True) (.slice (some ⟨go7, 0, none⟩) x5_2.length co7) y111 := (by rw [hw, Ny111.out]; exact HP26.1); clear HP26; have n0_ := zA (hp_); have n1_ := zA (Kd.R_over' (v := (.slice (some ⟨go7, 0, none⟩) x5_2.length co7)) (by (with_reducible repeat (first | apply zRa | apply zRn | apply zRd)); exact HO_28.out) (Kd.R_typed HO_5.out) (by decide) hg); have n2_ := zA ((by rw [hw]; exact zab (HB.out) GB7.out : Below w.heap.size w w27)); clear HO_5 HO_28 HB; have HO_5 := n0_; have HO_28 := n1_; have HB := n2_; clear n0_ n1_ n2_; clear hg hw hp_))
     (try simp only [← hl5_2])
     go_roundg k2
     case measure => have := HK1.out; have := HK2.out; omega
     case rel => exact ⟨(y111), (wrap64 (x30_2 + 1)), (by first | rfl | (simp; done) | (simp [*]; done)), H', ⟨by have := HK1.out; have := HK2.out; omega⟩, ⟨by (try simp only [hl5_1]); (try simp only [hl5_2]); (with_reducible repeat (first | apply zRa | apply zRn | apply zRd)); exact HO_5.out⟩, ⟨by (try simp only [hl5_1]); (try simp only [hl5_2]); (with_reducible repeat (first | apply zRa | apply zRn | apply zRd)); exact HO_28.out⟩, ⟨by repeat (first | (with_reducible first | exact HB.out | apply zba | apply zbn | apply zbd) | exact HB.out)⟩⟩
   replace c24 := zbf c24
   subst c24
   replace H : (if 0 ≤ x6_1 then (if x6_1 < (x5_2.length : Int) then (zcd k2 l0 (x5_2.set ((rd t106 x30_2) : Int).toNat (rdOf false x5_2 x6_1)) x6_1 t106 (t106.length : Int) (wrap64 (x30_2 + 1))) else (none)) else (none)) = some r := by rw [if_neg (show ¬ (false = true) by decide)] at H; exact H
   by_cases c28 : 0 ≤ x6_1
   rotate_left
   · rw [if_neg c28] at H
     exact absurd H (by simp)
   rw [if_pos c28] at H
   have c28b0 : decide (0 ≤ x6_1) = true := zdt c28
   clear c28
   by_cases c29 : x6_1 < (x5_2.length : Int)
   rotate_left
   · rw [if_neg c29] at H
     exact absurd H (by simp)
   rw [if_pos c29] at H
   have c29b0 : decide (x6_1 < (x5_2.length : Int)) = true := zdt c29
   clear c29
   obtain ⟨y113, hy113⟩ : ∃ y_ : List Bool, y_ = (x5_2.set ((rd t106 x30_2) : Int).toNat (rdOf false x5_2 x6_1)) := ⟨_, rfl⟩
   replace H : (zcd k2 l0 y113 x6_1 t106 (t106.length : Int) (wrap64 (x30_2 + 1))) = some r := by first | (rw [hy113]; with_reducible exact H) | (have H2_ := (Option.bind_some _ _).symm.trans H; rw [hy113]; with_reducible exact H2_) | (have H2_ := (Option.bind_some _ _).symm.trans H; with_reducible exact H2_) | with_reducible exact H | (rw [hy113]; exact H) | exact H
   have Ny113 := zA hy113
   clear hy113
   have H' := zA H
   clear H
   have p109 : 0 ≤ (x30_2 : Int) := zde (by assumption)
   have q109 : x30_2 < (t106.length : Int) := zde (by assumption)
   obtain ⟨ad109, e109, hx109_0⟩ := Kd.at_int (zRr HO_28.out).2.2 x30_2 p109 q109
   cases e109
   replace p109 := eq_true p109
   replace q109 := eq_true q109
   have p110 : 0 ≤ ((rd t106 x30_2) : Int) := zde (by assumption)
   have q110 : (rd t106 x30_2) < (x5_2.length : Int) := zde (by assumption)
   obtain ⟨ad110, e110, hx110_0⟩ := Kd.at_bool (zRr HO_5.out).2.2 (rd t106 x30_2) p110 q110
   (try rw [← Nbq23.out] at hx110_0)
   obtain rfl : (⟨go7, 0, none⟩ : Addr) = ad110 := (by injection e110)
   (first | simp only [zdk] at hx110_0 | simp only [zjs] at hx110_0 | simp only [Addr.add, Nat.zero_add] at hx110_0 | skip)
   replace p110 := eq_true p110
   replace q110 := eq_true q110
   have p112 : 0 ≤ (x6_1 : Int) := zde (by assumption)
   have q112 : x6_1 < (x5_2.length : Int) := zde (by assumption)
   obtain ⟨ad112, e112, hx112_0⟩ := Kd.at_bool (zRr HO_5.out).2.2 x6_1 p112 q112
   (try rw [← Nbq23.out] at hx112_0)
   obtain rfl : (⟨go7, 0, none⟩ : Addr) = ad112 := (by injection e112)
   (first | simp only [zdk] at hx112_0 | simp only [zjs] at hx112_0 | simp only [Addr.add, Nat.zero_add] at hx112_0 | skip)
   replace p112 := eq_true p112
   replace q112 := eq_true q112
   have p30 : 0 ≤ ((rd t106 x30_2) : Int) := zde (by assumption)
   have q30 : ((rd t106 x30_2) : Int) < ((x5_2.length : Int) : Int) := zde (by assumption)
   obtain ⟨hx30_0, hf30_0⟩ := Kd.R_celln false HO_5.out ((rd t106 x30_2) : Int) p30 q30
   replace p30 := eq_true p30
   replace q30 := eq_true q30
   have HP31 := Kd.R_putg HO_5.out ((rd t106 x30_2) : Int) (rdOf false x5_2 x6_1)
   go_wp2_with (first | ((with_reducible refine zbk (t := 4) (p := 46) rfl ?_); refine zbj (t := 4) (p := 46) (v := ?vo_w32) (w1 := (wr.setCell ⟨go7, ((rd t106 x30_2) : Int).toNat, none⟩ (.bool (rdOf false x5_2 x6_1)))) ?hg ?ho ?hn ?hr ?_; (case ho => rfl); (case hg => rfl); (case hn => rfl); (case hr => go_simp <;> rfl); intro w32 hw; have hg : wr.grownBy w32 (some go7) := (by rw [hw]; exact HP31.2); have hp_ : Kd.R Kd.bool 4 w32 w.heap.size (fun _ => True) (.slice (some ⟨go7, 0, none⟩) x5_2.length co7) y113 := (by rw [hw, Ny113.out]; exact HP31.1); clear HP31; have n0_ := zA (hp_); have n1_ := zA (Kd.R_over' (v := (.slice (some ⟨go7, 0, none⟩) x5_2.length co7)) (by (with_reducible repeat (first | apply zRa | apply zRn | apply zRd)); exact HO_28.out) (Kd.R_typed HO_5.out) (by decide) hg); have n2_ := zA ((by rw [hw]; exact zab (HB.out) GB7.out : Below w.heap.size w w32)); clear HO_5 HO_28 HB; have HO_5 := n0_; have HO_28 := n1_; have HB := n2_; clear n0_ n1_ n2_; clear hg hw hp_))
   (try simp only [← hl5_2])
   go_roundg k2
   case measure => have := HK1.out; have := HK2.out; omega
   case rel => exact ⟨(y113), (wrap64 (x30_2 + 1)), (by first | rfl | (simp; done) | (simp [*]; done)), H', ⟨by have := HK1.out; have := HK2.out; omega⟩, ⟨by (try simp only [hl5_1]); (try simp only [hl5_2]); (with_reducible repeat (first | apply zRa | apply zRn | apply zRd)); exact HO_5.out⟩, ⟨by (try simp only [hl5_1]); (try simp only [hl5_2]); (with_reducible repeat (first | apply zRa | apply zRn | apply zRd)); exact HO_28.out⟩, ⟨by repeat (first | (with_reducible first | exact HB.out | apply zba | apply zbn | apply zbd) | exact HB.out)⟩⟩
 rw [if_neg c12] at H
 have c12b0 : decide (0 ≤ x6_1) = false := zdf c12
 clear c12
 obtain ⟨y114, hy114⟩ : ∃ y_ : List (S72), y_ = (([] : List (S72))) := ⟨_, rfl⟩
 replace H : (if 0 ≤ (l0.length : Int) then (if ((l0.length : Int) : Int).toNat ≤ 35184372088832 then (zbx k1 x5_1 y114 (List.replicate ((l0.length : Int) : Int).toNat 0) l0 (l0.length : Int) 0) else (none)) else (none)) = some r := by first | (rw [hy114]; with_reducible exact H) | (have H2_ := (Option.bind_some _ _).symm.trans H; rw [hy114]; with_reducible exact H2_) | (have H2_ := (Option.bind_some _ _).symm.trans H; with_reducible exact H2_) | with_reducible exact H | (rw [hy114]; exact H) | exact H
 have Ny114 := zA hy114
 clear hy114
 by_cases c33 : 0 ≤ (l0.length : Int)
 rotate_left
 · rw [if_neg c33] at H
   exact absurd H (by simp)
 rw [if_pos c33] at H
 have c33b0 := eq_true c33
 have c33b1 : decide (0 ≤ (l0.length : Int)) = true := zdt c33
 clear c33
 by_cases c34 : ((l0.length : Int) : Int).toNat ≤ 35184372088832
 rotate_left
 · rw [if_neg c34] at H
   exact absurd H (by simp)
 rw [if_pos c34] at H
 have c34b0 := eq_true c34
 have c34b1 : decide (((l0.length : Int) : Int).toNat ≤ 35184372088832) = true := zdt c34
 clear c34
 obtain ⟨y117, hy117⟩ : ∃ y_ : List Int, y_ = (List.replicate ((l0.length : Int) : Int).toNat 0) := ⟨_, rfl⟩
 replace H : (zbx k1 x5_1 y114 y117 l0 (l0.length : Int) 0) = some r := by first | (rw [hy117]; with_reducible exact H) | (have H2_ := (Option.bind_some _ _).symm.trans H; rw [hy117]; with_reducible exact H2_) | (have H2_ := (Option.bind_some _ _).symm.trans H; with_reducible exact H2_) | with_reducible exact H | (rw [hy117]; exact H) | exact H
 have Ny117 := zA hy117
 clear hy117
 have H' := zA H
 clear H
 try go_wp2
 have n0_ := zA (zRd HO_5.out)
 have n1_ := zA (zbd HB.out)
 clear HO_5
 clear HB
 have HO_5 := n0_
 have HB := n1_
 clear n0_ n1_
 refine zks (n := 6) (S := fun w' => True) (ds := []) #[false, false, false, false, false, false] (by kernel_rfl) rfl rfl trivial (fun hHeld => ?_)
 generalize wr.drew = w35 at HO_5 HB hHeld ⊢
 refine zcs (i := 1) (N := some 49) (v := ?_) (a' := ?_) #[false, true, false, false, false, false] rfl rfl (by kernel_rfl) (fun _ _ _ h => h) (Or.inl ⟨by rfl, ?_⟩) ?_ ?_
 rotate_left
 · intro w'
   go_simp
   with_reducible rfl
 rotate_left
 · simp only [Act.put, List.setIfInBounds_toArray, List.set_cons_zero, List.set_cons_succ, za4, za6]
   rfl
 refine zcs (i := 2) (N := some 50) (v := ?_) (a' := ?_) #[false, true, true, false, false, false] rfl rfl (by kernel_rfl) (fun _ _ _ h => h) (Or.inl ⟨by rfl, ?_⟩) ?_ ?_
 rotate_left
 · intro w'
   go_simp
   with_reducible rfl
 rotate_left
 · simp only [Act.put, List.setIfInBounds_toArray, List.set_cons_zero, List.set_cons_succ, za4, za6]
   rfl
 refine zvk (σ := Value × Value) 1 #[true, true, true, true, true, false] (fun s_ => [(48, s_.1), (51, s_.2), (9, s_.1)]) (fun s_ w' => (Kd.R k72 72 w' w.heap.size (fun _ => True) s_.1 y114) ∧ (Kd.R (Kd.int .i64) 3 w' w.heap.size (fun _ => True) s_.2 y117) ∧ (Kd.R Kd.bool 4 w' w.heap.size (fun _ => True) (.slice (some ⟨go7, 0, none⟩) x5_1.length co7) x5_1) ∧ (Below w.heap.size w w')) ?_ ?_
 rotate_left
 · intro hCont
   refine two_ (i := 0) (j := 3) (Ni := some 48) (Nj := some 51) #[true, true, true, false, false, false] #[false, true, true, true, false, false] rfl rfl rfl rfl (by kernel_rfl) (by decide) (by decide) (fun K hK => ?_) (fun K hK => ?_)
   · skip
     refine Kd.R_lit_step k72 _ 72 ?hg (N := 48) ?hd (xs := ([] : List (S72))) (inner := []) (ok := fun _ => True) (okp := fun _ => True) ?hr ?hp (fun _ hk => hk) trivial (Below.refl _ _) (zlr _) (by simp) ?_; (case hd => rfl); (case hg => rfl); (case hr => go_simp <;> rfl); (case hp => exact (Reps.none _ _))
     intro v115 w36 ho37 hb hg_ hnew_
     clear hg_ hnew_
     (first | rw [← Ny114.out] at ho37 | (simp only [Int.reduceToNat] at ho37; rw [← Ny114.out] at ho37))
     have n0_ := zA (zRb (by (with_reducible repeat (first | apply zRa | apply zRn | apply zRd)); exact HO_5.out) hb)
     have n1_ := zA (Kd.R_lower ho37 (za0 (by repeat (first | (with_reducible first | exact HB.out | apply zba | apply zbn | apply zbd) | exact HB.out))))
     have n2_ := zA (zag (by repeat (first | (with_reducible first | exact HB.out | apply zba | apply zbn | apply zbd) | exact HB.out)) hb)
     clear HO_5
     clear HB
     have HO_5 := n0_
     have HO116 := n1_
     have HB := n2_
     clear n0_ n1_ n2_
     clear hb ho37
     refine hK.out _ _ trivial (fun hHeld => ?_)
     clear hK K
     refine zh6 (a' := ?_) ?_ ?_
     rotate_left
     · show Act.put _ (some 48) _ = _
       simp only [Act.put, List.setIfInBounds_toArray, List.set_cons_zero, List.set_cons_succ, za4, za6]
       rfl
     refine zcs (i := 4) (N := some 9) (v := ?_) (a' := ?_) #[true, true, true, false, true, false] rfl rfl (by kernel_rfl) (fun _ _ _ h => h) (Or.inl ⟨by rfl, ?_⟩) ?_ ?_
     rotate_left
     · intro w'
       go_simp
       with_reducible rfl
     rotate_left
     · simp only [Act.put, List.setIfInBounds_toArray, List.set_cons_zero, List.set_cons_succ, za4, za6]
       rfl
     refine one_ (i := 3) (N := some 51) #[true, true, true, true, true, false] rfl rfl (by kernel_rfl) (by decide) (fun K hK => ?_)
     refine Kd.R_make_step (Kd.int .i64) _ 3 (by rfl) (N := 51) rfl 51 _ _ rfl (l0.length : Int) rfl rfl Try.underlying51 (.int .i64 0) 8 zlp rfl (by decide) (by omega) 0 (ok := fun _ => True) (okp := fun _ => True) rfl (fun _ hk => hk) trivial (zde (by assumption)) (Nat.le_trans (Nat.mul_le_mul_right _ (zde (by assumption) : (l0.length : Int).toNat ≤ 35184372088832)) (by omega)) (Below.refl _ _) (zlr _) ?_
     intro v118 w38 ho39 hb hg_ hnew_
     clear hg_ hnew_
     (first | rw [← Ny117.out] at ho39 | (simp only [Int.reduceToNat] at ho39; rw [← Ny117.out] at ho39))
     have n0_ := zA (zRb (by (with_reducible repeat (first | apply zRa | apply zRn | apply zRd)); exact HO_5.out) hb)
     have n1_ := zA (zRb (by (with_reducible repeat (first | apply zRa | apply zRn | apply zRd)); exact HO116.out) hb)
     have n2_ := zA (Kd.R_lower ho39 (za0 (by repeat (first | (with_reducible first | exact HB.out | apply zba | apply zbn | apply zbd) | exact HB.out))))
     have n3_ := zA (zag (by repeat (first | (with_reducible first | exact HB.out | apply zba | apply zbn | apply zbd) | exact HB.out)) hb)
     clear HO_5
     clear HO116
     clear HB
     have HO_5 := n0_
     have HO116 := n1_
     have HO119 := n2_
     have HB := n3_
     clear n0_ n1_ n2_ n3_
     clear hb ho39
     refine hK.out _ _ trivial (fun hHeld => ?_)
     clear hK K
     refine zh6 (a' := ?_) ?_ ?_
     rotate_left
     · show Act.put _ (some 51) _ = _
       simp only [Act.put, List.setIfInBounds_toArray, List.set_cons_zero, List.set_cons_succ, za4, za6]
       rfl
     exact zh6 (by simp only [zkt, Act.put, List.setIfInBounds_toArray, List.set_cons_zero, List.set_cons_succ]) (hCont (v115, v118) _ ⟨(by (with_reducible repeat (first | apply zRa | apply zRn | apply zRd)); exact HO116.out), (by (with_reducible repeat (first | apply zRa | apply zRn | apply zRd)); exact HO119.out), (by (with_reducible repeat (first | apply zRa | apply zRn | apply zRd)); exact HO_5.out), (by repeat (first | (with_reducible first | exact HB.out | apply zba | apply zbn | apply zbd) | exact HB.out))⟩)
   skip
   refine Kd.R_make_step (Kd.int .i64) _ 3 (by rfl) (N := 51) rfl 51 _ _ rfl (l0.length : Int) rfl rfl Try.underlying51 (.int .i64 0) 8 zlp rfl (by decide) (by omega) 0 (ok := fun _ => True) (okp := fun _ => True) rfl (fun _ hk => hk) trivial (zde (by assumption)) (Nat.le_trans (Nat.mul_le_mul_right _ (zde (by assumption) : (l0.length : Int).toNat ≤ 35184372088832)) (by omega)) (Below.refl _ _) (zlr _) ?_
   intro v118 w36 ho37 hb hg_ hnew_
   clear hg_ hnew_
   (first | rw [← Ny117.out] at ho37 | (simp only [Int.reduceToNat] at ho37; rw [← Ny117.out] at ho37))
   have n0_ := zA (zRb (by (with_reducible repeat (first | apply zRa | apply zRn | apply zRd)); exact HO_5.out) hb)
   have n1_ := zA (Kd.R_lower ho37 (za0 (by repeat (first | (with_reducible first | exact HB.out | apply zba | apply zbn | apply zbd) | exact HB.out))))
   have n2_ := zA (zag (by repeat (first | (with_reducible first | exact HB.out | apply zba | apply zbn | apply zbd) | exact HB.out)) hb)
   clear HO_5
   clear HB
   have HO_5 := n0_
   have HO119 := n1_
   have HB := n2_
   clear n0_ n1_ n2_
   clear hb ho37
   refine hK.out _ _ trivial (fun hHeld => ?_)
   clear hK K
   refine zh6 (a' := ?_) ?_ ?_
   rotate_left
   · show Act.put _ (some 51) _ = _
     simp only [Act.put, List.setIfInBounds_toArray, List.set_cons_zero, List.set_cons_succ, za4, za6]
     rfl
   refine one_ (i := 0) (N := some 48) #[true, true, true, true, false, false] rfl rfl (by kernel_rfl) (by decide) (fun K hK => ?_)
   refine Kd.R_lit_step k72 _ 72 ?hg (N := 48) ?hd (xs := ([] : List (S72))) (inner := []) (ok := fun _ => True) (okp := fun _ => True) ?hr ?hp (fun _ hk => hk) trivial (Below.refl _ _) (zlr _) (by simp) ?_; (case hd => rfl); (case hg => rfl); (case hr => go_simp <;> rfl); (case hp => exact (Reps.none _ _))
   intro v115 w38 ho39 hb hg_ hnew_
   clear hg_ hnew_
   (first | rw [← Ny114.out] at ho39 | (simp only [Int.reduceToNat] at ho39; rw [← Ny114.out] at ho39))
   have n0_ := zA (zRb (by (with_reducible repeat (first | apply zRa | apply zRn | apply zRd)); exact HO_5.out) hb)
   have n1_ := zA (zRb (by (with_reducible repeat (first | apply zRa | apply zRn | apply zRd)); exact HO119.out) hb)
   have n2_ := zA (Kd.R_lower ho39 (za0 (by repeat (first | (with_reducible first | exact HB.out | apply zba | apply zbn | apply zbd) | exact HB.out))))
   have n3_ := zA (zag (by repeat (first | (with_reducible first | exact HB.out | apply zba | apply zbn | apply zbd) | exact HB.out)) hb)
   clear HO_5
   clear HO119
   clear HB
   have HO_5 := n0_
   have HO119 := n1_
   have HO116 := n2_
   have HB := n3_
   clear n0_ n1_ n2_ n3_
   clear hb ho39
   refine hK.out _ _ trivial (fun hHeld => ?_)
   clear hK K
   refine zh6 (a' := ?_) ?_ ?_
   rotate_left
   · show Act.put _ (some 48) _ = _
     simp only [Act.put, List.setIfInBounds_toArray, List.set_cons_zero, List.set_cons_succ, za4, za6]
     rfl
   refine zcs (i := 4) (N := some 9) (v := ?_) (a' := ?_) #[true, true, true, true, true, false] rfl rfl (by kernel_rfl) (fun _ _ _ h => h) (Or.inl ⟨by rfl, ?_⟩) ?_ ?_
   rotate_left
   · intro w'
     go_simp
     with_reducible rfl
   rotate_left
   · simp only [Act.put, List.setIfInBounds_toArray, List.set_cons_zero, List.set_cons_succ, za4, za6]
     rfl
   exact zh6 (by simp only [zkt, Act.put, List.setIfInBounds_toArray, List.set_cons_zero, List.set_cons_succ]) (hCont (v115, v118) _ ⟨(by (with_reducible repeat (first | apply zRa | apply zRn | apply zRd)); exact HO116.out), (by (with_reducible repeat (first | apply zRa | apply zRn | apply zRd)); exact HO119.out), (by (with_reducible repeat (first | apply zRa | apply zRn | apply zRd)); exact HO_5.out), (by repeat (first | (with_reducible first | exact HB.out | apply zba | apply zbn | apply zbd) | exact HB.out))⟩)
 rintro ⟨v115, v118⟩ w40 ⟨h0_, h1_, h2_, h3_⟩
 have n0_ : Aside0 (Kd.R k72 72 w40 w.heap.size (fun _ => True) v115 y114) := ⟨h0_⟩
 have n1_ : Aside0 (Kd.R (Kd.int .i64) 3 w40 w.heap.size (fun _ => True) v118 y117) := ⟨h1_⟩
 have n2_ : Aside0 (Kd.R Kd.bool 4 w40 w.heap.size (fun _ => True) (.slice (some ⟨go7, 0, none⟩) x5_1.length co7) x5_1) := ⟨h2_⟩
 have n3_ : Aside0 (Below w.heap.size w w40) := ⟨h3_⟩
 clear HO_5
 clear HB
 clear h0_ h1_ h2_ h3_
 have HO116 := n0_
 have HO119 := n1_
 have HO_5 := n2_
 have HB := n3_
 clear n0_ n1_ n2_ n3_
 have hHeld := trivial
 refine zh6 (a' := ?_) ?_ ?_
 rotate_left
 · simp only [zkt, Act.put, List.setIfInBounds_toArray, List.set_cons_zero, List.set_cons_succ]
   rfl
 refine zcs (i := 5) (N := some 10) (v := ?_) (a' := ?_) #[true, true, true, true, true, true] rfl rfl (by kernel_rfl) (fun _ _ _ h => h) (Or.inl ⟨by rfl, ?_⟩) ?_ ?_
 rotate_left
 · intro w'
   go_simp
   with_reducible rfl
 rotate_left
 · simp only [Act.put, List.setIfInBounds_toArray, List.set_cons_zero, List.set_cons_succ, za4, za6]
   rfl
 refine zoc (by kernel_rfl) ?_
 try go_wp2
 go_loopg [9, 54] k1 (fun kq v9 v54 w' => ∃ (x9_2 : List (S72)) (x10_2 : List Int) (x54_2 : Int), v54 = .int .i64 x54_2 ∧ Aside0 (zbx kq x5_1 x9_2 x10_2 l0 (l0.length : Int) x54_2 = some r) ∧ Aside0 (kq ≤ k1) ∧ Aside0 (Kd.R Kd.bool 4 w' w.heap.size (fun _ => True) (.slice (some ⟨go7, 0, none⟩) x5_1.length co7) x5_1) ∧ Aside0 (Kd.R k72 72 w' w.heap.size (fun _ => True) v9 x9_2) ∧ Aside0 (Kd.R (Kd.int .i64) 3 w' w.heap.size (fun _ => True) v118 x10_2) ∧ Aside0 (Below w.heap.size w w'))
 case atStart => exact ⟨(y114), (y117), (0), (by first | rfl | (simp; done) | (simp [*]; done)), H', ⟨zlr _⟩, ⟨by (try simp only [hl5_1]); (with_reducible repeat (first | apply zRa | apply zRn | apply zRd)); exact HO_5.out⟩, ⟨by (try simp only [hl5_1]); (with_reducible repeat (first | apply zRa | apply zRn | apply zRd)); exact HO116.out⟩, ⟨by (try simp only [hl5_1]); (with_reducible repeat (first | apply zRa | apply zRn | apply zRd)); exact HO119.out⟩, ⟨by repeat (first | (with_reducible first | exact HB.out | apply zba | apply zbn | apply zbd) | exact HB.out)⟩⟩
 clear H'
 try clear c1
 try clear p1
 try clear q1
 try clear hx1
 try clear c2
 try clear p2
 try clear q2
 try clear hx2
 try clear hf2
 try clear c3
 try clear c3b0
 try clear c3b1
 try clear p3
 try clear q3
 try clear hx3
 try clear hf3
 try clear c4
 try clear c4b0
 try clear c4b1
 try clear c5
 try clear c5b0
 try clear c6
 try clear c6b0
 try clear p6
 try clear p7
 try clear q7
 try clear hx7
 try clear hf7
 try clear p10
 try clear q10
 try clear hx10
 try clear c11
 try clear p11
 try clear q11
 try clear hx11
 try clear c12
 try clear c12b0
 try clear c13
 try clear c13b0
 try clear c14
 try clear c14b0
 try clear c18
 try clear c18b0
 try clear c19
 try clear c19b0
 try clear c20
 try clear c20b0
 try clear c21
 try clear c21b0
 try clear c22
 try clear c22b0
 try clear q23
 try clear c24
 try clear p25
 try clear q25
 try clear hx25
 try clear hf25
 try clear c28
 try clear c28b0
 try clear c29
 try clear c29b0
 try clear p30
 try clear q30
 try clear hx30
 try clear hf30
 try clear c33
 try clear c33b0
 try clear c33b1
 try clear c34
 try clear c34b0
 try clear c34b1
 try clear hx105_0
 try clear hx105_1
 try clear hx105_2
 try clear hx105_3
 try clear hx109_0
 try clear hx110_0
 try clear hx112_0
 try clear hx25_0
 try clear hx30_0
 try clear hx7_0
 try clear p1
 try clear p10
 try clear p105
 try clear p109
 try clear p110
 try clear p112
 try clear p2
 try clear p25
 try clear p30
 try clear p7
 try clear q1
 try clear q10
 try clear q105
 try clear q109
 try clear q110
 try clear q112
 try clear q25
 try clear q30
 try clear q7
 obtain ⟨x9_2, x10_2, x54_2, rfl, HA, HK2, HO_5, HO_9, HO_10, HB⟩ := hrel
 cases gk with
 | zero => exact absurd HA.out (by simp [zbx])
 | succ k2 =>
 have H := HA.out
 clear HA
 simp only [zbx] at H
 by_cases c41 : x54_2 < (l0.length : Int)
 rotate_left
 · rw [if_neg c41] at H
   have c41b0 : decide (x54_2 < (l0.length : Int)) = false := zdf c41
   clear c41
   obtain rfl := zsi H
   go_wp2
   go_ret
   exact ⟨_, by first | rfl | (simp [zad, zae] <;> rfl) | (simp [*, zad, zae] <;> rfl), by (with_reducible repeat (first | apply zRa | apply zRn | apply zRd)); exact HO_9.out, by repeat (first | (with_reducible first | exact HB.out | apply zba | apply zbn | apply zbd) | exact HB.out)⟩
 rw [if_pos c41] at H
 have c41b0 : decide (x54_2 < (l0.length : Int)) = true := zdt c41
 clear c41
 by_cases c42 : 0 ≤ x54_2
 rotate_left
 · rw [if_neg c42] at H
   exact absurd H (by simp)
 rw [if_pos c42] at H
 have c42b0 : decide (0 ≤ x54_2) = true := zdt c42
 clear c42
 by_cases c43 : x54_2 < (l0.length : Int)
 rotate_left
 · rw [if_neg c43] at H
   exact absurd H (by simp)
 rw [if_pos c43] at H
 have c43b0 : decide (x54_2 < (l0.length : Int)) = true := zdt c43
 clear c43
 by_cases c44 : x54_2 < (x5_1.length : Int)
 rotate_left
 · rw [if_neg c44] at H
   exact absurd H (by simp)
 rw [if_pos c44] at H
 have c44b0 : decide (x54_2 < (x5_1.length : Int)) = true := zdt c44
 clear c44
 obtain ⟨bq45, hbq45⟩ : ∃ b_ : Bool, b_ = (rdOf false x5_1 x54_2) := ⟨_, rfl⟩
 replace H : (if bq45 = true then (if x54_2 < (x10_2.length : Int) then ((some (x10_2.set (x54_2 : Int).toNat (x9_2.length : Int) : List Int)).bind fun y123 => ((zb0 k2 ((zac l0 x54_2).f0) ((zac l0 x54_2).f1) ((zac l0 x54_2).f2) ((zac l0 x54_2).f3) y123).bind fun bt124 => (if x9_2.length < 3518437208883 then (zbx k2 x5_1 (x9_2 ++ [(⟨bt124.1, bt124.2.1, bt124.2.2.1, bt124.2.2.2⟩ : S72)]) y123 l0 (l0.length : Int) (wrap64 (x54_2 + 1))) else (none)))) else (none)) else (zbx k2 x5_1 x9_2 x10_2 l0 (l0.length : Int) (wrap64 (x54_2 + 1)))) = some r := by rw [← hbq45] at H; exact H
 have Nbq45 := zA hbq45
 clear hbq45
 by_cases c46 : bq45 = true
 rotate_left
 · replace c46 := zbf c46
   subst c46
   replace H : (zbx k2 x5_1 x9_2 x10_2 l0 (l0.length : Int) (wrap64 (x54_2 + 1))) = some r := by rw [if_neg (show ¬ (false = true) by decide)] at H; exact H
   have H' := zA H
   clear H
   have p120 : 0 ≤ (x54_2 : Int) := zde (by assumption)
   have q120 : x54_2 < (l0.length : Int) := zde (by assumption)
   obtain ⟨ad120, e120, hx120_0, hx120_1, hx120_2, hx120_3⟩ := zen HR0.out x54_2 p120 q120
   cases e120
   replace hx120_0 := zkep HB.out hx120_0
   replace hx120_1 := zkep HB.out hx120_1
   replace hx120_2 := zkep HB.out hx120_2
   replace hx120_3 := zkep HB.out hx120_3
   replace p120 := eq_true p120
   replace q120 := eq_true q120
   go_wp2_with (first | ((with_reducible refine zar (N := 12) rfl ?_); refine zat ?hg (N := 12) ?hd (cs := #[.string (⟨#[]⟩ : ByteArray), .int .i64 0, .int .i64 0, .int .i64 0]) (t := 72) ?hr ?_; (case hd => rfl); (case hg => rfl); (case hr => go_simp <;> rfl); intro gb121 hg w60 hbox hb; have n0_ := zA (zRb (by (with_reducible repeat (first | apply zRa | apply zRn | apply zRd)); exact HO_5.out) hb); have n1_ := zA (zRb (Kd.R_elderB (by (with_reducible repeat (first | apply zRa | apply zRn | apply zRd)); exact HO_9.out) gb121 (Nat.le_of_eq hg.symm)) hb); have n2_ := zA (zRb (by (with_reducible repeat (first | apply zRa | apply zRn | apply zRd)); exact HO_10.out) hb); have zs := zpair (by repeat (first | (with_reducible first | exact HB.out | apply zba | apply zbn | apply zbd) | exact HB.out)) hb; have n3_ := zA (zs.1); have n4_ := zA (hbox); have n5_ := zA ((by rw [hg]; exact zs.2 : w.heap.size ≤ gb121)); have n6_ := n5_; clear HO_5 HO_9; clear HO_10 HB; have HO_5 := n0_; have HO_9 := n1_; have HO_10 := n2_; have HB := n3_; have BK121 := n4_; have GW121 := n5_; have GE121 := n6_; clear n0_ n1_ n2_ n3_ n4_ n5_ n6_; clear zs hb hbox hg; obtain ⟨hcz61_0, hcz61_1, hcz61_2, hcz61_3⟩ := zc4 w60 (.string (⟨#[]⟩ : ByteArray)) (.int .i64 0) (.int .i64 0) (.int .i64 0) BK121.out; obtain ⟨hfz61_0, hfz61_1, hfz61_2, hfz61_3⟩ := zf4 BK121.out; have p122 : 0 ≤ (x54_2 : Int) := zde (by assumption); have q122 : x54_2 < (x5_1.length : Int) := zde (by assumption); obtain ⟨ad122, e122, hx122_0⟩ := Kd.at_bool (zRr HO_5.out).2.2 x54_2 p122 q122; (try rw [← Nbq45.out] at hx122_0); obtain rfl : (⟨go7, 0, none⟩ : Addr) = ad122 := (by injection e122); (first | simp only [zdk] at hx122_0 | simp only [zjs] at hx122_0 | simp only [Addr.add, Nat.zero_add] at hx122_0 | skip); have hn122_0 : (⟨go7, 0, none⟩ : Addr).block ≠ gb121 := Kd.own_blk (Kd.R_ne HO_5.out BK121.out (by decide)); have hn122_1 : (⟨go7, 0, none⟩ : Addr).block ≠ gb121 := Kd.own_blk (Kd.R_ne HO_5.out BK121.out (by decide)); have hn122_2 : (⟨go7, 0, none⟩ : Addr).block ≠ gb121 := Kd.own_blk (Kd.R_ne HO_5.out BK121.out (by decide)); have hn122_3 : (⟨go7, 0, none⟩ : Addr).block ≠ gb121 := Kd.own_blk (Kd.R_ne HO_5.out BK121.out (by decide)); replace hx122_0 := (zk1 (p := ⟨gb121, 0, none⟩) (by first | (rw [zds]; exact hn122_0) | (show (Addr.add _ _).block ≠ _; rw [zds]; exact hn122_0) | exact hn122_0) (.string ((zac l0 x54_2).f0))).trans hx122_0; replace hx122_0 := (zk1 (p := ⟨gb121, 1, none⟩) (by first | (rw [zds]; exact hn122_1) | (show (Addr.add _ _).block ≠ _; rw [zds]; exact hn122_1) | exact hn122_1) (.int .i64 ((zac l0 x54_2).f1))).trans hx122_0; replace hx122_0 := (zk1 (p := ⟨gb121, 2, none⟩) (by first | (rw [zds]; exact hn122_2) | (show (Addr.add _ _).block ≠ _; rw [zds]; exact hn122_2) | exact hn122_2) (.int .i64 ((zac l0 x54_2).f2))).trans hx122_0; replace hx122_0 := (zk1 (p := ⟨gb121, 3, none⟩) (by first | (rw [zds]; exact hn122_3) | (show (Addr.add _ _).block ≠ _; rw [zds]; exact hn122_3) | exact hn122_3) (.int .i64 ((zac l0 x54_2).f3))).trans hx122_0; clear hn122_0; clear hn122_1; clear hn122_2; clear hn122_3; replace p122 := eq_true p122; replace q122 := eq_true q122))
   go_roundg k2
   case measure => have := HK1.out; have := HK2.out; omega
   case rel => exact ⟨(x9_2), (x10_2), (wrap64 (x54_2 + 1)), (by first | rfl | (simp; done) | (simp [*]; done)), H', ⟨by have := HK1.out; have := HK2.out; omega⟩, ⟨by (try simp only [hl5_1]); (with_reducible repeat (first | apply zRa | apply zRn | apply zRd)); exact Kd.R_mono (Kd.R_far (p := ⟨gb121, 3, none⟩) (Kd.R_far (p := ⟨gb121, 2, none⟩) (Kd.R_far (p := ⟨gb121, 1, none⟩) (Kd.R_far (p := ⟨gb121, 0, none⟩) (Kd.R_types HO_5.out BK121.out (by decide)) (fun _ hk => hk.2) (.string ((zac l0 x54_2).f0))) (fun _ hk => hk.2) (.int .i64 ((zac l0 x54_2).f1))) (fun _ hk => hk.2) (.int .i64 ((zac l0 x54_2).f2))) (fun _ hk => hk.2) (.int .i64 ((zac l0 x54_2).f3))) (fun _ hk => trivial)⟩, ⟨by (try simp only [hl5_1]); (with_reducible repeat (first | apply zRa | apply zRn | apply zRd)); exact Kd.R_mono (Kd.R_far (p := ⟨gb121, 3, none⟩) (Kd.R_far (p := ⟨gb121, 2, none⟩) (Kd.R_far (p := ⟨gb121, 1, none⟩) (Kd.R_far (p := ⟨gb121, 0, none⟩) (Kd.R_mono HO_9.out (fun k_ hk => (⟨hk, hk.2⟩ : _ ∧ k_ ≠ gb121))) (fun _ hk => hk.2) (.string ((zac l0 x54_2).f0))) (fun _ hk => hk.2) (.int .i64 ((zac l0 x54_2).f1))) (fun _ hk => hk.2) (.int .i64 ((zac l0 x54_2).f2))) (fun _ hk => hk.2) (.int .i64 ((zac l0 x54_2).f3))) (fun _ hk => trivial)⟩, ⟨by (try simp only [hl5_1]); (with_reducible repeat (first | apply zRa | apply zRn | apply zRd)); exact Kd.R_mono (Kd.R_far (p := ⟨gb121, 3, none⟩) (Kd.R_far (p := ⟨gb121, 2, none⟩) (Kd.R_far (p := ⟨gb121, 1, none⟩) (Kd.R_far (p := ⟨gb121, 0, none⟩) (Kd.R_types HO_10.out BK121.out (by decide)) (fun _ hk => hk.2) (.string ((zac l0 x54_2).f0))) (fun _ hk => hk.2) (.int .i64 ((zac l0 x54_2).f1))) (fun _ hk => hk.2) (.int .i64 ((zac l0 x54_2).f2))) (fun _ hk => hk.2) (.int .i64 ((zac l0 x54_2).f3))) (fun _ hk => trivial)⟩, ⟨by repeat (first | (with_reducible first | exact HB.out | apply zba | apply zbn | apply zbd | refine zab ?_ GE121.out) | exact HB.out)⟩⟩
 subst c46
 replace H : (if x54_2 < (x10_2.length : Int) then ((some (x10_2.set (x54_2 : Int).toNat (x9_2.length : Int) : List Int)).bind fun y123 => ((zb0 k2 ((zac l0 x54_2).f0) ((zac l0 x54_2).f1) ((zac l0 x54_2).f2) ((zac l0 x54_2).f3) y123).bind fun bt124 => (if x9_2.length < 3518437208883 then (zbx k2 x5_1 (x9_2 ++ [(⟨bt124.1, bt124.2.1, bt124.2.2.1, bt124.2.2.2⟩ : S72)]) y123 l0 (l0.length : Int) (wrap64 (x54_2 + 1))) else (none)))) else (none)) = some r := by rw [if_pos rfl] at H; exact H
 by_cases c47 : x54_2 < (x10_2.length : Int)
 rotate_left
 · rw [if_neg c47] at H
   exact absurd H (by simp)
 rw [if_pos c47] at H
 have c47b0 : decide (x54_2 < (x10_2.length : Int)) = true := zdt c47
 clear c47
 obtain ⟨y123, hy123⟩ : ∃ y_ : List Int, y_ = (x10_2.set (x54_2 : Int).toNat (x9_2.length : Int)) := ⟨_, rfl⟩
 replace H : ((zb0 k2 ((zac l0 x54_2).f0) ((zac l0 x54_2).f1) ((zac l0 x54_2).f2) ((zac l0 x54_2).f3) y123).bind fun bt124 => (if x9_2.length < 3518437208883 then (zbx k2 x5_1 (x9_2 ++ [(⟨bt124.1, bt124.2.1, bt124.2.2.1, bt124.2.2.2⟩ : S72)]) y123 l0 (l0.length : Int) (wrap64 (x54_2 + 1))) else (none))) = some r := by first | (rw [hy123]; with_reducible exact H) | (have H2_ := (Option.bind_some _ _).symm.trans H; rw [hy123]; with_reducible exact H2_) | (have H2_ := (Option.bind_some _ _).symm.trans H; with_reducible exact H2_) | with_reducible exact H | (rw [hy123]; exact H) | exact H
 have Ny123 := zA hy123
 clear hy123
 replace H := zob H
 obtain ⟨⟨t124, t125, t126, t127⟩, A490, H⟩ := H
 replace H : (if x9_2.length < 3518437208883 then (zbx k2 x5_1 (x9_2 ++ [(⟨t124, t125, t126, t127⟩ : S72)]) y123 l0 (l0.length : Int) (wrap64 (x54_2 + 1))) else (none)) = some r := H
 have A49 := zA A490
 clear A490
 by_cases c50 : x9_2.length < 3518437208883
 rotate_left
 · rw [if_neg c50] at H
   exact absurd H (by simp)
 rw [if_pos c50] at H
 have LMc50 := zA c50
 clear c50
 obtain ⟨y128, hy128⟩ : ∃ y_ : List (S72), y_ = (x9_2 ++ [(⟨t124, t125, t126, t127⟩ : S72)]) := ⟨_, rfl⟩
 replace H : (zbx k2 x5_1 y128 y123 l0 (l0.length : Int) (wrap64 (x54_2 + 1))) = some r := by first | (rw [hy128]; with_reducible exact H) | (have H2_ := (Option.bind_some _ _).symm.trans H; rw [hy128]; with_reducible exact H2_) | (have H2_ := (Option.bind_some _ _).symm.trans H; with_reducible exact H2_) | with_reducible exact H | (rw [hy128]; exact H) | exact H
 have Ny128 := zA hy128
 clear hy128
 have H' := zA H
 clear H
 have p120 : 0 ≤ (x54_2 : Int) := zde (by assumption)
 have q120 : x54_2 < (l0.length : Int) := zde (by assumption)
 obtain ⟨ad120, e120, hx120_0, hx120_1, hx120_2, hx120_3⟩ := zen HR0.out x54_2 p120 q120
 cases e120
 replace hx120_0 := zkep HB.out hx120_0
 replace hx120_1 := zkep HB.out hx120_1
 replace hx120_2 := zkep HB.out hx120_2
 replace hx120_3 := zkep HB.out hx120_3
 replace p120 := eq_true p120
 replace q120 := eq_true q120
 go_wp2_with (first | ((with_reducible refine zar (N := 12) rfl ?_); refine zat ?hg (N := 12) ?hd (cs := #[.string (⟨#[]⟩ : ByteArray), .int .i64 0, .int .i64 0, .int .i64 0]) (t := 72) ?hr ?_; (case hd => rfl); (case hg => rfl); (case hr => go_simp <;> rfl); intro gb121 hg w51 hbox hb; have n0_ := zA (zRb (by (with_reducible repeat (first | apply zRa | apply zRn | apply zRd)); exact HO_5.out) hb); have n1_ := zA (zRb (Kd.R_elderB (by (with_reducible repeat (first | apply zRa | apply zRn | apply zRd)); exact HO_9.out) gb121 (Nat.le_of_eq hg.symm)) hb); have n2_ := zA (zRb (by (with_reducible repeat (first | apply zRa | apply zRn | apply zRd)); exact HO_10.out) hb); have zs := zpair (by repeat (first | (with_reducible first | exact HB.out | apply zba | apply zbn | apply zbd) | exact HB.out)) hb; have n3_ := zA (zs.1); have n4_ := zA (hbox); have n5_ := zA ((by rw [hg]; exact zs.2 : w.heap.size ≤ gb121)); have n6_ := n5_; clear HO_5 HO_9; clear HO_10 HB; have HO_5 := n0_; have HO_9 := n1_; have HO_10 := n2_; have HB := n3_; have BK121 := n4_; have GW121 := n5_; have GE121 := n6_; clear n0_ n1_ n2_ n3_ n4_ n5_ n6_; clear zs hb hbox hg; obtain ⟨hcz52_0, hcz52_1, hcz52_2, hcz52_3⟩ := zc4 w51 (.string (⟨#[]⟩ : ByteArray)) (.int .i64 0) (.int .i64 0) (.int .i64 0) BK121.out; obtain ⟨hfz52_0, hfz52_1, hfz52_2, hfz52_3⟩ := zf4 BK121.out) | ((with_reducible refine zbk (t := 72) (p := 12) rfl ?_); refine zbj (t := 72) (p := 12) (v := ?vo_w53) (w1 := ((((w51.setCell ⟨gb121, 0, none⟩ (.string ((zac l0 x54_2).f0))).setCell ⟨gb121, 1, none⟩ (.int .i64 ((zac l0 x54_2).f1))).setCell ⟨gb121, 2, none⟩ (.int .i64 ((zac l0 x54_2).f2))).setCell ⟨gb121, 3, none⟩ (.int .i64 ((zac l0 x54_2).f3)))) ?hg ?ho ?hn ?hr ?_; (case ho => rfl); (case hg => rfl); (case hn => rfl); (case hr => go_simp <;> rfl); intro w53 hw; have n0_ : Aside0 (Kd.R Kd.bool 4 w53 w.heap.size (fun _ => True) (.slice (some ⟨go7, 0, none⟩) x5_1.length co7) x5_1) := ⟨(by rw [hw]; exact (by (with_reducible repeat (first | apply zRa | apply zRn | apply zRd)); exact Kd.R_mono (Kd.R_far (p := ⟨gb121, 3, none⟩) (Kd.R_far (p := ⟨gb121, 2, none⟩) (Kd.R_far (p := ⟨gb121, 1, none⟩) (Kd.R_far (p := ⟨gb121, 0, none⟩) (Kd.R_types HO_5.out BK121.out (by decide)) (fun _ hk => hk.2) (.string ((zac l0 x54_2).f0))) (fun _ hk => hk.2) (.int .i64 ((zac l0 x54_2).f1))) (fun _ hk => hk.2) (.int .i64 ((zac l0 x54_2).f2))) (fun _ hk => hk.2) (.int .i64 ((zac l0 x54_2).f3))) (fun _ hk => trivial)))⟩; have n1_ : Aside0 (Kd.R k72 72 w53 w.heap.size (fun k_ => k_ ≠ gb121) u9 x9_2) := ⟨(by rw [hw]; exact (by (with_reducible repeat (first | apply zRa | apply zRn | apply zRd)); exact Kd.R_mono (Kd.R_far (p := ⟨gb121, 3, none⟩) (Kd.R_far (p := ⟨gb121, 2, none⟩) (Kd.R_far (p := ⟨gb121, 1, none⟩) (Kd.R_far (p := ⟨gb121, 0, none⟩) (Kd.R_mono HO_9.out (fun k_ hk => (⟨hk, hk.2⟩ : _ ∧ k_ ≠ gb121))) (fun _ hk => hk.2) (.string ((zac l0 x54_2).f0))) (fun _ hk => hk.2) (.int .i64 ((zac l0 x54_2).f1))) (fun _ hk => hk.2) (.int .i64 ((zac l0 x54_2).f2))) (fun _ hk => hk.2) (.int .i64 ((zac l0 x54_2).f3))) (fun _ hk => hk.1.2)))⟩; have n2_ : Aside0 (Kd.R (Kd.int .i64) 3 w53 w.heap.size (fun _ => True) v118 x10_2) := ⟨(by rw [hw]; exact (by (with_reducible repeat (first | apply zRa | apply zRn | apply zRd)); exact Kd.R_mono (Kd.R_far (p := ⟨gb121, 3, none⟩) (Kd.R_far (p := ⟨gb121, 2, none⟩) (Kd.R_far (p := ⟨gb121, 1, none⟩) (Kd.R_far (p := ⟨gb121, 0, none⟩) (Kd.R_types HO_10.out BK121.out (by decide)) (fun _ hk => hk.2) (.string ((zac l0 x54_2).f0))) (fun _ hk => hk.2) (.int .i64 ((zac l0 x54_2).f1))) (fun _ hk => hk.2) (.int .i64 ((zac l0 x54_2).f2))) (fun _ hk => hk.2) (.int .i64 ((zac l0 x54_2).f3))) (fun _ hk => trivial)))⟩; have n3_ : Aside0 (w53.heap[gb121]? = some (.cells #[.string ((zac l0 x54_2).f0), .int .i64 ((zac l0 x54_2).f1), .int .i64 ((zac l0 x54_2).f2), .int .i64 ((zac l0 x54_2).f3)] 72 (0, 0))) := ⟨(by rw [hw]; exact (by (with_reducible repeat (first | refine zkn ?_ _ | refine zkd ?_ | refine zka ?_ _)); refine zan (cs := #[.string ((zac l0 x54_2).f0), .int .i64 ((zac l0 x54_2).f1), .int .i64 ((zac l0 x54_2).f2), .int .i64 0]) ?_ 3 _ rfl; (with_reducible repeat (first | refine zkn ?_ _ | refine zkd ?_ | refine zka ?_ _)); refine zan (cs := #[.string ((zac l0 x54_2).f0), .int .i64 ((zac l0 x54_2).f1), .int .i64 0, .int .i64 0]) ?_ 2 _ rfl; (with_reducible repeat (first | refine zkn ?_ _ | refine zkd ?_ | refine zka ?_ _)); refine zan (cs := #[.string ((zac l0 x54_2).f0), .int .i64 0, .int .i64 0, .int .i64 0]) ?_ 1 _ rfl; (with_reducible repeat (first | refine zkn ?_ _ | refine zkd ?_ | refine zka ?_ _)); refine zan (cs := #[.string (⟨#[]⟩ : ByteArray), .int .i64 0, .int .i64 0, .int .i64 0]) ?_ 0 _ rfl; (with_reducible repeat (first | refine zkn ?_ _ | refine zkd ?_ | refine zka ?_ _)); exact BK121.out))⟩; have n4_ : Aside0 (Below w.heap.size w w53) := ⟨(by rw [hw]; exact (by repeat (first | (with_reducible first | exact HB.out | apply zba | apply zbn | apply zbd | refine zab ?_ GE121.out) | exact HB.out)))⟩; clear hw; clear HO_5 HO_9; clear HO_10 BK121 HB; have HO_5 := n0_; have HO_9 := n1_; have HO_10 := n2_; have BK121 := n3_; have HB := n4_; clear n0_ n1_ n2_ n3_ n4_; have p122 : 0 ≤ (x54_2 : Int) := zde (by assumption); have q122 : x54_2 < (x5_1.length : Int) := zde (by assumption); obtain ⟨ad122, e122, hx122_0⟩ := Kd.at_bool (zRr HO_5.out).2.2 x54_2 p122 q122; (try rw [← Nbq45.out] at hx122_0); obtain rfl : (⟨go7, 0, none⟩ : Addr) = ad122 := (by injection e122); (first | simp only [zdk] at hx122_0 | simp only [zjs] at hx122_0 | simp only [Addr.add, Nat.zero_add] at hx122_0 | skip); replace p122 := eq_true p122; replace q122 := eq_true q122; obtain ⟨Ao54, co54, eo54⟩ := Kd.R_slice HO_9.out; subst eo54; have p48 : 0 ≤ (x54_2 : Int) := zde (by assumption); have q48 : (x54_2 : Int) < ((x10_2.length : Int) : Int) := zde (by assumption); obtain ⟨go48, co48, eo48, gb48, gl48, cl48, HG48⟩ := Kd.R_form HO_10.out (by omega); (first | cases eo48 | (injection eo48 with ea_ en_ ec_; (first | subst ea_ | (injection ea_ with ea_; subst ea_)); subst ec_; clear en_)); have GB48 := zA gb48; have GG48 := zA HG48; clear gb48 gl48 HG48; obtain ⟨hx48_0, hf48_0⟩ := Kd.R_celln 0 HO_10.out (x54_2 : Int) p48 q48; replace p48 := eq_true p48; replace q48 := eq_true q48; obtain ⟨hy55_, hz55_⟩ := Kd.R_celln 0 HO_10.out (x54_2 : Int) (zde (by assumption)) (zde (by assumption)); have HP55 := Kd.R_putg HO_10.out (x54_2 : Int) (x9_2.length : Int)) | ((with_reducible refine zbk (t := 3) (p := 67) rfl ?_); refine zbj (t := 3) (p := 67) (v := ?vo_w56) (w1 := (w53.setCell ⟨go48, (x54_2 : Int).toNat, none⟩ (.int .i64 (x9_2.length : Int)))) ?hg ?ho ?hn ?hr ?_; (case ho => rfl); (case hg => rfl); (case hn => rfl); (case hr => go_simp <;> rfl); intro w56 hw; have hg : w53.grownBy w56 (some go48) := (by rw [hw]; exact HP55.2); have hp_ : Kd.R (Kd.int .i64) 3 w56 w.heap.size (fun _ => True) (.slice (some ⟨go48, 0, none⟩) x10_2.length co48) y123 := (by rw [hw, Ny123.out]; exact HP55.1); clear HP55; have n0_ := zA (Kd.R_over' (v := (.slice (some ⟨go48, 0, none⟩) x10_2.length co48)) (by (with_reducible repeat (first | apply zRa | apply zRn | apply zRd)); exact HO_5.out) (Kd.R_typed HO_10.out) (by decide) hg); have n1_ := zA (Kd.R_over' (v := (.slice (some ⟨go48, 0, none⟩) x10_2.length co48)) (by (with_reducible repeat (first | apply zRa | apply zRn | apply zRd)); exact HO_9.out) (Kd.R_typed HO_10.out) (by decide) hg); have n2_ := zA (hp_); have n3_ := zA (zed (g := gb121) (o := .cells #[.string ((zac l0 x54_2).f0), .int .i64 ((zac l0 x54_2).f1), .int .i64 ((zac l0 x54_2).f2), .int .i64 ((zac l0 x54_2).f3)] 72 (0, 0)) (by (with_reducible repeat (first | refine zkn ?_ _ | refine zkd ?_ | refine zka ?_ _)); exact BK121.out) hg (Kd.R_ne HO_10.out BK121.out (by decide))); have n4_ := zA ((by rw [hw]; exact zab (HB.out) GB48.out : Below w.heap.size w w56)); clear HO_5 HO_9; clear HO_10 BK121 HB; have HO_5 := n0_; have HO_9 := n1_; have HO_10 := n2_; have BK121 := n3_; have HB := n4_; clear n0_ n1_ n2_ n3_ n4_; clear hg hw hp_; obtain ⟨hcz57_0, hcz57_1, hcz57_2, hcz57_3⟩ := zc4 w56 (.string ((zac l0 x54_2).f0)) (.int .i64 ((zac l0 x54_2).f1)) (.int .i64 ((zac l0 x54_2).f2)) (.int .i64 ((zac l0 x54_2).f3)) BK121.out; obtain ⟨hfz57_0, hfz57_1, hfz57_2, hfz57_3⟩ := zf4 BK121.out) | ((with_reducible refine zah (f := 151) rfl ?_); refine za3 (some 71) rfl rfl Try.func151 (by kernel_rfl) rfl #[.agg #[.string ((zac l0 x54_2).f0), .int .i64 ((zac l0 x54_2).f1), .int .i64 ((zac l0 x54_2).f2), .int .i64 ((zac l0 x54_2).f3)], .slice (some ⟨go48, 0, none⟩) y123.length co48] rfl (by (try simp only [List.map_toArray, List.map_cons, List.map_nil]); first | done | (rw [show y123.length = x10_2.length from (zRr HO_10.out).1.symm] <;> rfl) | rfl | (simp only [List.length_drop, List.length_take]; rfl)) ?_; (with_reducible refine (zgb k2 ((zac l0 x54_2).f0) ((zac l0 x54_2).f1) ((zac l0 x54_2).f2) ((zac l0 x54_2).f3) _ _ y123 t124 t125 t126 t127 _ ?side1 ?side2 A49.out).mono ?_); (case side1 => repeat (first | exact (zRr HO_10.out).2.2 | (with_reducible first | refine zCa ?_ _ | refine zCn ?_ _ | refine zCd ?_))); (case side2 => rw [show y123.length = x10_2.length from (zRr HO_10.out).1.symm]; exact (zRr HO_10.out).2.1); rintro e w58 ⟨rfl, hb⟩; refine ⟨_, rfl, ?_⟩; have n0_ := zA (zRb (by (with_reducible repeat (first | apply zRa | apply zRn | apply zRd)); exact HO_5.out) hb); have n1_ := zA (zRb (by (with_reducible repeat (first | apply zRa | apply zRn | apply zRd)); exact HO_9.out) hb); have n2_ := zA (zRb (by (with_reducible repeat (first | apply zRa | apply zRn | apply zRd)); exact HO_10.out) hb); have n3_ := zA (zaj (g := gb121) (o := .cells #[.string ((zac l0 x54_2).f0), .int .i64 ((zac l0 x54_2).f1), .int .i64 ((zac l0 x54_2).f2), .int .i64 ((zac l0 x54_2).f3)] 72 (0, 0)) (by (with_reducible repeat (first | refine zkn ?_ _ | refine zkd ?_ | refine zka ?_ _)); exact BK121.out) hb); have n4_ := zA (zag (by repeat (first | (with_reducible first | exact HB.out | apply zba | apply zbn | apply zbd | refine zab ?_ GE121.out) | exact HB.out)) hb); clear HO_5 HO_9; clear HO_10 BK121 HB; have HO_5 := n0_; have HO_9 := n1_; have HO_10 := n2_; have BK121 := n3_; have HB := n4_; clear n0_ n1_ n2_ n3_ n4_; (try clear hb); (try clear hk)) | ((with_reducible refine zf1 (b := .append) (xs := #[.tmp 68, .tmp 72]) rfl ?_); at_builtin; refine Kd.R_append k72 (w0 := w) w.heap.size rfl (.tmp 68) (.tmp 72) 24 72 (.agg #[(.string ⟨#[]⟩), (.int .i64 0), (.int .i64 0), (.int .i64 0)]) 40 rfl Try.underlying24 znb rfl (by decide) (by omega) (.slice Ao54 x9_2.length co54) x9_2 (⟨t124, t125, t126, t127⟩ : S72) [.string t124, .int .i64 t125, .int .i64 t126, .int .i64 t127] (fun k_ => k_ ≠ gb121) (fun _ => False) rfl rfl ?aP (fun _ hk => hk.elim) ?aF ?aO ?aB ?aS ?aL ?_; (case aP => exact zfr _ _ _ (⟨t124, t125, t126, t127⟩ : S72)); (case aB => exact (by repeat (first | (with_reducible first | exact HB.out | apply zba | apply zbn | apply zbd | refine zab ?_ GE121.out) | exact HB.out))); (case aF => exact (fun k_ hk => Kd.freshB (g := gb121) (o := .cells #[.string ((zac l0 x54_2).f0), .int .i64 ((zac l0 x54_2).f1), .int .i64 ((zac l0 x54_2).f2), .int .i64 ((zac l0 x54_2).f3)] 72 (0, 0)) (by (with_reducible repeat (first | refine zkn ?_ _ | refine zkd ?_ | refine zka ?_ _)); exact BK121.out) k_ hk)); (case aO => exact (by (with_reducible repeat (first | apply zRa | apply zRn | apply zRd)); exact HO_9.out)); (case aS => exact (za0 (by repeat (first | (with_reducible first | exact HB.out | apply zba | apply zbn | apply zbd | refine zab ?_ GE121.out) | exact HB.out)))); (case aL => have := LMc50.out; omega); intro v129 w59 ho hb hg hat; rw [← Ny128.out] at ho; have n0_ := zA (Kd.R_over' (by (with_reducible repeat (first | apply zRa | apply zRn | apply zRd)); exact HO_5.out) (Kd.R_typed (by (with_reducible repeat (first | apply zRa | apply zRn | apply zRd)); exact HO_9.out)) (by decide) hg); have n1_ := zA (Kd.R_over' (by (with_reducible repeat (first | apply zRa | apply zRn | apply zRd)); exact HO_10.out) (Kd.R_typed (by (with_reducible repeat (first | apply zRa | apply zRn | apply zRd)); exact HO_9.out)) (by decide) hg); have n2_ := zA (zed (g := gb121) (o := .cells #[.string ((zac l0 x54_2).f0), .int .i64 ((zac l0 x54_2).f1), .int .i64 ((zac l0 x54_2).f2), .int .i64 ((zac l0 x54_2).f3)] 72 (0, 0)) (by (with_reducible repeat (first | refine zkn ?_ _ | refine zkd ?_ | refine zka ?_ _)); exact BK121.out) hg (Kd.R_away HO_9.out (fun _ hk => hk))); have n3_ := zA (hb); have n4_ := zA (ho); clear HO_5 HO_10; clear BK121 HB HO_9; have HO_5 := n0_; have HO_10 := n1_; have BK121 := n2_; have HB := n3_; have HO130 := n4_; clear n0_ n1_ n2_ n3_ n4_; clear ho hb hg hat))
 go_roundg k2
 case measure => have := HK1.out; have := HK2.out; omega
 case rel => exact ⟨(y128), (y123), (wrap64 (x54_2 + 1)), (by first | rfl | (simp; done) | (simp [*]; done)), H', ⟨by have := HK1.out; have := HK2.out; omega⟩, ⟨by (try simp only [hl5_1]); (with_reducible repeat (first | apply zRa | apply zRn | apply zRd)); exact HO_5.out⟩, ⟨by (try simp only [hl5_1]); (with_reducible repeat (first | apply zRa | apply zRn | apply zRd)); exact Kd.R_mono HO130.out (fun _ hk => trivial)⟩, ⟨by (try simp only [hl5_1]); (with_reducible repeat (first | apply zRa | apply zRn | apply zRd)); exact HO_10.out⟩, ⟨by repeat (first | (with_reducible first | exact HB.out | apply zba | apply zbn | apply zbd | refine zab ?_ GE121.out) | exact HB.out)⟩⟩
end Go.Proofs.Ytkfkbmlbpeojaaa.Q
end
section
namespace Go.Proofs.Ytkfkbmlbpeojaaa.Q
open Go.RowKit Go.Proofs.YtkfkbmlbpeojaaaW.PrintWords Go.Proofs.YtkfkbmlbpeojaaaW.PrintLast Go.Proofs.YtkfkbmlbpeojaaaW.PrintMore
attribute [local go_sem] zcz zc0 zd1 zd2 zcl zcm zc1 zc2
set_option linter.unusedVariables false
set_option linter.unusedSimpArgs false
theorem zu3 (d : Nat) (w : World) (x0 y0 : ByteArray) (x1 y1 : Int) (x2 y2 : Int) (x3 y3 : Int) :
   (Op.equalIn (d + 2) 72 (.agg #[.string x0, .int .i64 x1, .int .i64 x2, .int .i64 x3]) (.agg #[.string y0, .int .i64 y1, .int .i64 y2, .int .i64 y3])).run Try.prog w = .ok (x0.toList == y0.toList && (x1 == y1 && (x2 == y2 && (x3 == y3)))) w := by
 refine zvi Try.underlying72 (by kernel_rfl) ?_
 refine zn7 (by rfl) (by go_simp; rfl) (by go_simp; rfl) (by go_simp) ?_
 refine zn7 (by rfl) (by go_simp; rfl) (by go_simp; rfl) (by go_simp) ?_
 refine zn7 (by rfl) (by go_simp; rfl) (by go_simp; rfl) (by go_simp) ?_
 exact zst (by rfl) (by go_simp; rfl) (by go_simp; rfl) (by go_simp)
end Go.Proofs.Ytkfkbmlbpeojaaa.Q
end
section
namespace Go.Proofs.Ytkfkbmlbpeojaaa.Q
open Go.RowKit Go.Proofs.YtkfkbmlbpeojaaaW.PrintWords Go.Proofs.YtkfkbmlbpeojaaaW.PrintLast Go.Proofs.YtkfkbmlbpeojaaaW.PrintMore
attribute [local go_sem] zcz zc0 zd1 zd2 zcl zcm zc1 zc2
set_option linter.unusedVariables false
set_option linter.unusedSimpArgs false
attribute [local go_sem high] zu3
def zb9 : Nat → List (S72) → Int → Int → ByteArray → Int → Int → Int → Option (Int)
 | 0, _, _, _, _, _, _, _ => none
 | k + 1, x0, x7, x8, x102000, x102001, x102002, x102003 => if x8 < x7 then (if 0 ≤ x8 then (if x8 < (x0.length : Int) then (if (x102000.toList == (((zac x0 x8).f0).toList) && (x102001 == ((zac x0 x8).f1) && (x102002 == ((zac x0 x8).f2) && (x102003 == ((zac x0 x8).f3))))) = true then (some x8) else (zb9 k x0 x7 (wrap64 (x8 + 1)) x102000 x102001 x102002 x102003)) else (none)) else (none)) else (some (-1))
def zeo (k : Nat) (l0 : List (S72)) (a1_0 : ByteArray) (a1_1 : Int) (a1_2 : Int) (a1_3 : Int) : Option (Int) := zb9 k l0 (l0.length : Int) 0 a1_0 a1_1 a1_2 a1_3
theorem zgy : ∀ k, (∀ y0 y1 y2 y3 y4 y5 y6, LeO (zb9 k y0 y1 y2 y3 y4 y5 y6) (zb9 (k + 1) y0 y1 y2 y3 y4 y5 y6))
 | 0 => fun _ _ _ _ _ _ _ r h => by simp [zb9] at h
 | k + 1 => by
   have ih0 := zgy k
   · intro y0 y1 y2 y3 y4 y5 y6
     unfold zb9
     repeat' first
     | (with_reducible first | exact ih0 _ _ _ _ _ _ _ | exact LeO.refl _ | exact LeO.none _ | refine zai ?_ ?_ | refine LeO.bind ?_ (fun _ => ?_))
     | exact LeO.none _
     | refine zai ?_ ?_
     | refine LeO.bind ?_ (fun _ => ?_)
theorem zkb : ∀ a0 a1 a2 a3 a4 k, LeO (zeo k a0 a1 a2 a3 a4) (zeo (k + 1) a0 a1 a2 a3 a4) := by
 intro a0 a1 a2 a3 a4 k
 have ih0 := zgy k
 unfold zeo
 repeat' first
     | (with_reducible first | exact ih0 _ _ _ _ _ _ _ | exact LeO.refl _ | exact LeO.none _ | refine zai ?_ ?_ | refine LeO.bind ?_ (fun _ => ?_))
     | exact LeO.none _
     | refine zai ?_ ?_
     | refine LeO.bind ?_ (fun _ => ?_)
set_option maxHeartbeats 8000000 in
set_option maxRecDepth 100000 in
theorem zju (k : Nat) (A0 : Option Addr) (c0 : Nat) (l0 : List (S72)) (a1_0 : ByteArray) (a1_1 : Int) (a1_2 : Int) (a1_3 : Int) (r : Int) (w : World) (hr0 : Kd.C k72 w A0 l0.length l0) (hc0 : l0.length ≤ c0) (h : zeo k l0 a1_0 a1_1 a1_2 a1_3 = some r) :
   Calls Try.prog 152 #[.slice A0 l0.length c0, .agg #[.string a1_0, .int .i64 a1_1, .int .i64 a1_2, .int .i64 a1_3]] w fun e w' => e = .returned (.int .i64 r) ∧ Below w.heap.size w w' := by
 have hu72 := Try.underlying72
 have HR0 := zA hr0
 have HC0 := zA hc0
 clear hr0 hc0
 have HB := zA (Below.refl w.heap.size w)
 have H : (zb9 k l0 (l0.length : Int) 0 a1_0 a1_1 a1_2 a1_3) = some r := h
 clear h
 have H' := zA H
 clear H
 go_enter Try.func152, Try.ntmps152
 go_wp2_with (first | ((with_reducible refine zar (N := 3) rfl ?_); refine zat ?hg (N := 3) ?hd (cs := #[.string a1_0, .int .i64 a1_1, .int .i64 a1_2, .int .i64 a1_3]) (t := 72) ?hr ?_; (case hd => rfl); (case hg => rfl); (case hr => go_simp <;> rfl); intro gb101 hg w3 hbox hb; have zs := zpair (by repeat (first | (with_reducible first | exact HB.out | apply zba | apply zbn | apply zbd) | exact HB.out)) hb; have n0_ := zA (zs.1); have n1_ := zA (hbox); have n2_ := zA ((by rw [hg]; exact zs.2 : w.heap.size ≤ gb101)); have n3_ := n2_; clear HB; have HB := n0_; have BK101 := n1_; have GW101 := n2_; have GE101 := n3_; clear n0_ n1_ n2_ n3_; clear zs hb hbox hg))
 repeat (go_quiet (first | ((with_reducible refine zar (N := 3) rfl ?_); refine zat ?hg (N := 3) ?hd (cs := #[.string a1_0, .int .i64 a1_1, .int .i64 a1_2, .int .i64 a1_3]) (t := 72) ?hr ?_; (case hd => rfl); (case hg => rfl); (case hr => go_simp <;> rfl); intro gb101 hg w3 hbox hb; have zs := zpair (by repeat (first | (with_reducible first | exact HB.out | apply zba | apply zbn | apply zbd) | exact HB.out)) hb; have n0_ := zA (zs.1); have n1_ := zA (hbox); have n2_ := zA ((by rw [hg]; exact zs.2 : w.heap.size ≤ gb101)); have n3_ := n2_; clear HB; have HB := n0_; have BK101 := n1_; have GW101 := n2_; have GE101 := n3_; clear n0_ n1_ n2_ n3_; clear zs hb hbox hg)); try go_wp2_with (first | ((with_reducible refine zar (N := 3) rfl ?_); refine zat ?hg (N := 3) ?hd (cs := #[.string a1_0, .int .i64 a1_1, .int .i64 a1_2, .int .i64 a1_3]) (t := 72) ?hr ?_; (case hd => rfl); (case hg => rfl); (case hr => go_simp <;> rfl); intro gb101 hg w3 hbox hb; have zs := zpair (by repeat (first | (with_reducible first | exact HB.out | apply zba | apply zbn | apply zbd) | exact HB.out)) hb; have n0_ := zA (zs.1); have n1_ := zA (hbox); have n2_ := zA ((by rw [hg]; exact zs.2 : w.heap.size ≤ gb101)); have n3_ := n2_; clear HB; have HB := n0_; have BK101 := n1_; have GW101 := n2_; have GE101 := n3_; clear n0_ n1_ n2_ n3_; clear zs hb hbox hg)))
 go_loopg [8] k (fun kq v8 w' => ∃ (x8_1 : Int), v8 = .int .i64 x8_1 ∧ Aside0 (zb9 kq l0 (l0.length : Int) x8_1 a1_0 a1_1 a1_2 a1_3 = some r) ∧ Aside0 (kq ≤ k) ∧ Aside0 (w'.heap[gb101]? = some (.cells #[.string a1_0, .int .i64 a1_1, .int .i64 a1_2, .int .i64 a1_3] 72 (0, 0))) ∧ Aside0 (Below w.heap.size w w'))
 case atStart => exact ⟨(0), (by first | rfl | (simp; done) | (simp [*]; done)), H', ⟨zlr _⟩, ⟨by (with_reducible repeat (first | refine zkn ?_ _ | refine zkd ?_ | refine zka ?_ _)); exact BK101.out⟩, ⟨by repeat (first | (with_reducible first | exact HB.out | apply zba | apply zbn | apply zbd | refine zab ?_ GE101.out) | exact HB.out)⟩⟩
 clear H'
 try clear c1
 try clear p2
 obtain ⟨x8_1, rfl, HA, HK1, BK101, HB⟩ := hrel
 cases gk with
 | zero => exact absurd HA.out (by simp [zb9])
 | succ k1 =>
 have H := HA.out
 clear HA
 simp only [zb9] at H
 by_cases c4 : x8_1 < (l0.length : Int)
 rotate_left
 · rw [if_neg c4] at H
   have c4b0 : decide (x8_1 < (l0.length : Int)) = false := zdf c4
   clear c4
   obtain rfl := zsi H
   go_wp2
   repeat (go_quiet (fail); try go_wp2)
   go_ret
   exact ⟨by first | rfl | (simp [zad, zae] <;> rfl) | (simp [*, zad, zae] <;> rfl), by repeat (first | (with_reducible first | exact HB.out | apply zba | apply zbn | apply zbd | refine zab ?_ GE101.out) | exact HB.out)⟩
 rw [if_pos c4] at H
 have c4b0 : decide (x8_1 < (l0.length : Int)) = true := zdt c4
 clear c4
 by_cases c5 : 0 ≤ x8_1
 rotate_left
 · rw [if_neg c5] at H
   exact absurd H (by simp)
 rw [if_pos c5] at H
 have c5b0 : decide (0 ≤ x8_1) = true := zdt c5
 clear c5
 by_cases c6 : x8_1 < (l0.length : Int)
 rotate_left
 · rw [if_neg c6] at H
   exact absurd H (by simp)
 rw [if_pos c6] at H
 have c6b0 : decide (x8_1 < (l0.length : Int)) = true := zdt c6
 clear c6
 by_cases c7 : (a1_0.toList == (((zac l0 x8_1).f0).toList) && (a1_1 == ((zac l0 x8_1).f1) && (a1_2 == ((zac l0 x8_1).f2) && (a1_3 == ((zac l0 x8_1).f3))))) = true
 · rw [if_pos c7] at H
   have c7b0 : (a1_0.toList == (((zac l0 x8_1).f0).toList) && (a1_1 == ((zac l0 x8_1).f1) && (a1_2 == ((zac l0 x8_1).f2) && (a1_3 == ((zac l0 x8_1).f3))))) = true := c7
   (try (have c7b1 : decide (a1_0.toList = (((zac l0 x8_1).f0).toList) && (a1_1 == ((zac l0 x8_1).f1) && (a1_2 == ((zac l0 x8_1).f2) && (a1_3 == ((zac l0 x8_1).f3))))) = true := by simpa using c7))
   (try (have c7b2 : (a1_0.toList == (((zac l0 x8_1).f0).toList) && (a1_1 == ((zac l0 x8_1).f1) && (a1_2 == ((zac l0 x8_1).f2) && (a1_3 == ((zac l0 x8_1).f3))))) = true := by simpa using c7))
   clear c7
   obtain rfl := zsi H
   obtain ⟨hcz8_0, hcz8_1, hcz8_2, hcz8_3⟩ := zc4 wr (.string a1_0) (.int .i64 a1_1) (.int .i64 a1_2) (.int .i64 a1_3) BK101.out
   obtain ⟨hfz8_0, hfz8_1, hfz8_2, hfz8_3⟩ := zf4 BK101.out
   have p102 : 0 ≤ (x8_1 : Int) := zde (by assumption)
   have q102 : x8_1 < (l0.length : Int) := zde (by assumption)
   obtain ⟨ad102, e102, hx102_0, hx102_1, hx102_2, hx102_3⟩ := zen HR0.out x8_1 p102 q102
   cases e102
   replace hx102_0 := zkep HB.out hx102_0
   replace hx102_1 := zkep HB.out hx102_1
   replace hx102_2 := zkep HB.out hx102_2
   replace hx102_3 := zkep HB.out hx102_3
   replace p102 := eq_true p102
   replace q102 := eq_true q102
   go_wp2
   repeat (go_quiet (fail); try go_wp2)
   go_ret
   exact ⟨by first | rfl | (simp [zad, zae] <;> rfl) | (simp [*, zad, zae] <;> rfl), by repeat (first | (with_reducible first | exact HB.out | apply zba | apply zbn | apply zbd | refine zab ?_ GE101.out) | exact HB.out)⟩
 rw [if_neg c7] at H
 have c7b0 : (a1_0.toList == (((zac l0 x8_1).f0).toList) && (a1_1 == ((zac l0 x8_1).f1) && (a1_2 == ((zac l0 x8_1).f2) && (a1_3 == ((zac l0 x8_1).f3))))) = false := by simpa using c7
 (try (have c7b1 : decide (a1_0.toList = (((zac l0 x8_1).f0).toList) && (a1_1 == ((zac l0 x8_1).f1) && (a1_2 == ((zac l0 x8_1).f2) && (a1_3 == ((zac l0 x8_1).f3))))) = false := by simpa using c7))
 (try (have c7b2 : (a1_0.toList == (((zac l0 x8_1).f0).toList) && (a1_1 == ((zac l0 x8_1).f1) && (a1_2 == ((zac l0 x8_1).f2) && (a1_3 == ((zac l0 x8_1).f3))))) = false := by simpa using c7))
 (try (have c7b3 : ¬ (a1_0.toList = (((zac l0 x8_1).f0).toList) && (a1_1 == ((zac l0 x8_1).f1) && (a1_2 == ((zac l0 x8_1).f2) && (a1_3 == ((zac l0 x8_1).f3))))) := by simpa using c7))
 clear c7
 have H' := zA H
 clear H
 obtain ⟨hcz9_0, hcz9_1, hcz9_2, hcz9_3⟩ := zc4 wr (.string a1_0) (.int .i64 a1_1) (.int .i64 a1_2) (.int .i64 a1_3) BK101.out
 obtain ⟨hfz9_0, hfz9_1, hfz9_2, hfz9_3⟩ := zf4 BK101.out
 have p102 : 0 ≤ (x8_1 : Int) := zde (by assumption)
 have q102 : x8_1 < (l0.length : Int) := zde (by assumption)
 obtain ⟨ad102, e102, hx102_0, hx102_1, hx102_2, hx102_3⟩ := zen HR0.out x8_1 p102 q102
 cases e102
 replace hx102_0 := zkep HB.out hx102_0
 replace hx102_1 := zkep HB.out hx102_1
 replace hx102_2 := zkep HB.out hx102_2
 replace hx102_3 := zkep HB.out hx102_3
 replace p102 := eq_true p102
 replace q102 := eq_true q102
 go_wp2
 repeat (go_quiet (fail); try go_wp2)
 go_roundg k1
 case measure => have := HK1.out; omega
 case rel => exact ⟨(wrap64 (x8_1 + 1)), (by first | rfl | (simp; done) | (simp [*]; done)), H', ⟨by have := HK1.out; omega⟩, ⟨by (with_reducible repeat (first | refine zkn ?_ _ | refine zkd ?_ | refine zka ?_ _)); exact BK101.out⟩, ⟨by repeat (first | (with_reducible first | exact HB.out | apply zba | apply zbn | apply zbd | refine zab ?_ GE101.out) | exact HB.out)⟩⟩
end Go.Proofs.Ytkfkbmlbpeojaaa.Q
end
section
namespace Go.Proofs.Ytkfkbmlbpeojaaa.Q
open Go.RowKit Go.Proofs.YtkfkbmlbpeojaaaW.PrintWords Go.Proofs.YtkfkbmlbpeojaaaW.PrintLast Go.Proofs.YtkfkbmlbpeojaaaW.PrintMore
attribute [local go_sem] zcz zc0 zd1 zd2 zcl zcm zc1 zc2
set_option linter.unusedVariables false
set_option linter.unusedSimpArgs false
def zhn (a0 : Int) (a1 : Int) : Option (Int × Int) := some (IntKind.u64.wrap ((IntKind.u64.wrap ((IntKind.u64.wrap ((a0 / 4294967296) * (a1 / 4294967296))) + ((IntKind.u64.wrap ((IntKind.u64.wrap ((a0 / 4294967296) * (Go.bits .and .u64 a1 4294967295))) + ((IntKind.u64.wrap ((Go.bits .and .u64 a0 4294967295) * (Go.bits .and .u64 a1 4294967295))) / 4294967296))) / 4294967296))) + ((IntKind.u64.wrap ((Go.bits .and .u64 (IntKind.u64.wrap ((IntKind.u64.wrap ((a0 / 4294967296) * (Go.bits .and .u64 a1 4294967295))) + ((IntKind.u64.wrap ((Go.bits .and .u64 a0 4294967295) * (Go.bits .and .u64 a1 4294967295))) / 4294967296))) 4294967295) + (IntKind.u64.wrap ((Go.bits .and .u64 a0 4294967295) * (a1 / 4294967296))))) / 4294967296)), IntKind.u64.wrap (a0 * a1))
set_option maxHeartbeats 8000000 in
set_option maxRecDepth 100000 in
theorem zlv (a0 : Int) (a1 : Int) (r1 : Int) (r2 : Int) (w : World) (h : zhn a0 a1 = some (r1, r2)) :
   Calls Try.prog 187 #[.int .u64 a0, .int .u64 a1] w fun e w' => e = .returned (.tuple #[.int .u64 r1, .int .u64 r2]) ∧ Drawn0 w w' := by
 have H : (some (IntKind.u64.wrap ((IntKind.u64.wrap ((IntKind.u64.wrap ((a0 / 4294967296) * (a1 / 4294967296))) + ((IntKind.u64.wrap ((IntKind.u64.wrap ((a0 / 4294967296) * (Go.bits .and .u64 a1 4294967295))) + ((IntKind.u64.wrap ((Go.bits .and .u64 a0 4294967295) * (Go.bits .and .u64 a1 4294967295))) / 4294967296))) / 4294967296))) + ((IntKind.u64.wrap ((Go.bits .and .u64 (IntKind.u64.wrap ((IntKind.u64.wrap ((a0 / 4294967296) * (Go.bits .and .u64 a1 4294967295))) + ((IntKind.u64.wrap ((Go.bits .and .u64 a0 4294967295) * (Go.bits .and .u64 a1 4294967295))) / 4294967296))) 4294967295) + (IntKind.u64.wrap ((Go.bits .and .u64 a0 4294967295) * (a1 / 4294967296))))) / 4294967296)), IntKind.u64.wrap (a0 * a1))) = some (r1, r2) := h
 clear h
 simp only [Option.some.injEq, Prod.mk.injEq] at H
 obtain ⟨rfl, rfl⟩ := H
 go_enter Try.func187, Try.ntmps187
 go_wp2
 go_ret2
 exact ⟨by first | rfl | (simp; done) | (simp [*]; done), by repeat (first | exact Drawn0.refl _ | apply Drawn0.step)⟩
def zk8 (a0 : Int) (a1 : Int) : Option (Int × Int) := (zhn a0 a1).bind fun bt101 => (some (bt101.1, bt101.2))
set_option maxHeartbeats 8000000 in
set_option maxRecDepth 100000 in
theorem zjo (a0 : Int) (a1 : Int) (r1 : Int) (r2 : Int) (w : World) (h : zk8 a0 a1 = some (r1, r2)) :
   Calls Try.prog 179 #[.int .u64 a0, .int .u64 a1] w fun e w' => e = .returned (.tuple #[.int .u64 r1, .int .u64 r2]) ∧ Drawn0 w w' := by
 have H : ((zhn a0 a1).bind fun bt101 => (some (bt101.1, bt101.2))) = some (r1, r2) := h
 clear h
 replace H := zob H
 obtain ⟨⟨t101, t102⟩, A30, H⟩ := H
 replace H : (some (t101, t102)) = some (r1, r2) := H
 have A3 := zA A30
 clear A30
 simp only [Option.some.injEq, Prod.mk.injEq] at H
 obtain ⟨rfl, rfl⟩ := H
 go_enter Try.func179, Try.ntmps179
 go_wp2_with (first | ((with_reducible refine zah (f := 187) rfl ?_); refine za3 (some 25) rfl rfl Try.func187 (by kernel_rfl) rfl #[.int .u64 a0, .int .u64 a1] rfl (by (try simp only [List.map_toArray, List.map_cons, List.map_nil]); first | done | rfl | (simp only [List.length_drop, List.length_take]; rfl)) ?_; (with_reducible refine (zlv a0 a1 t101 t102 _ A3.out).mono ?_); rintro e w' ⟨rfl, ⟨nd, rfl⟩⟩; refine ⟨_, rfl, ?_⟩))
 go_ret2
 exact ⟨by first | rfl | (simp; done) | (simp [*]; done), by repeat (first | exact Drawn0.refl _ | apply Drawn0.step)⟩
def zei (l0 : List Int) (a1 : Int) : Option (List Int) :=
 if l0.length = 1 ∧ 0 ≤ a1 ∧ a1 ≤ 1048576 then some (List.replicate a1.toNat (rd l0 0)) else none
theorem zsb (n : Nat) (h : n ≤ 1048576) : zk8 1 n = some (0, (n : Int)) := by
 have e1 : (Go.bits .and .u64 1 4294967295) = 1 := by rw [Go.and_low32 _ (by decide) (by decide)]; rfl
 have e2 : (Go.bits .and .u64 (n : Int) 4294967295) = n := by rw [Go.and_low32 _ (by omega) (by omega)]; omega
 have e3 : (Go.bits .and .u64 0 4294967295) = 0 := by rw [Go.and_low32 _ (by decide) (by decide)]; rfl
 have d1 : (1 : Int) / 4294967296 = 0 := by decide
 have d2 : (n : Int) / 4294967296 = 0 := by omega
 have w0 : IntKind.u64.wrap 0 = 0 := by decide
 have dz : (0 : Int) / 4294967296 = 0 := by decide
 have wn : IntKind.u64.wrap (n : Int) = n := by rw [IntKind.wrap_u64]; omega
 unfold zk8 zhn
 simp only [e1, e2, d1, d2, Int.zero_mul, Int.one_mul, Int.mul_zero, w0, wn, Int.zero_add, Int.add_zero, e3, dz, Option.bind_some]
theorem zoi (g o dl dc sl sc k : Nat) (ad : Addr) (cur : Array Value) (x : Value) (W : World) (hk : k = Nat.min sl dl) (hg : W.heap[g]? = some (.cells cur 3 (0, 0))) (hs : ∀ j, j < k → W.cell? (ad.add j) = some x) (hfit : o + k ≤ cur.size) (hx : x.oneCell' = true) :
   ∃ cur', (Builtin.copy_ #[51, 51] 3 #[.slice (some ⟨g, o, none⟩) dl dc, .slice (some ad) sl sc]).run Try.prog W = .ok (.int .i64 (k : Int)) (W.setRow g cur') ∧ cur'.size = cur.size ∧ (∀ j, j < o → cur'[j]? = cur[j]?) ∧ (∀ j, o ≤ j → j < o + k → cur'[j]? = some x) := by
 subst hk
 refine ⟨(cur.toList.take o ++ List.replicate (Nat.min sl dl) x ++ cur.toList.drop (o + Nat.min sl dl)).toArray, ?_, ?_, ?_, ?_⟩
 · have h := run_copy_row (P := Try.prog) W 51 51 3 3 g o dl dc ad sl sc cur 3 (List.replicate (Nat.min sl dl) x) Try.underlying51 (by kernel_rfl) hg (by simp) (fun j v hj => by
     rw [List.getElem?_replicate] at hj
     split at hj
     · rename_i hlt
       injection hj with hj
       rw [← hj]
       exact hs j hlt
     · cases hj) (by simpa using hfit) (fun v hv => by rw [List.eq_of_mem_replicate hv]; exact hx)
   simpa [goInt] using h
 · simp; omega
 · intro j hj
   simp only [List.getElem?_toArray]
   rw [List.append_assoc, List.getElem?_append_left (by simp; omega), List.getElem?_take, if_pos hj]
   simp
 · intro j h1 h2
   have hl : (cur.toList.take o).length = o := by simp; omega
   simp only [List.getElem?_toArray]
   rw [List.append_assoc, List.getElem?_append_right (by omega), hl, List.getElem?_append_left (by simp; omega), List.getElem?_replicate, if_pos (by omega)]
theorem zqv {opsq : Array Oper} {o : Oper} {a : Act} {w : World} {K : Act → World → Prop} {Q : Exit → Act → World → Prop} {E : Prop} (hgd : o.guard = none) (d s : Operand)
   (ho : o.op = .call { callee := .builtin .copy, args := #[d, s], argTypes := #[51, 51] }) (hty : o.type = 3) {x y : Value} (hd : a.eval d = x) (hs : a.eval s = y) {k : Int} (w' : World)
   (hrun : (Builtin.copy_ #[51, 51] 3 #[x, y]).run Try.prog w = .ok (.int .i64 k) w') (h : K (a.put o.dst (.int .i64 k)) w') :
   if Region.wanted o (yielded opsq a.tmps) = true then Oper.wp Try.prog o a w K Q else E := by
 have hw : Region.wanted o (yielded opsq a.tmps) = true := by simp [Region.wanted, hgd]
 rw [if_pos hw]
 unfold Oper.wp
 simp [execOp, ho, hty, resolve, invoke, builtin, hd, hs, hrun, Result.andThen]
 exact h
theorem ztt {w : World} {base g n cap : Nat} {ok : Nat → Prop} {xs : List Int} (h : Kd.R (Kd.int .i64) 3 w base ok (.slice (some ⟨g, 0, none⟩) n cap) xs) : n ≤ cap ∧ cap ≤ maxLen ∧ base ≤ g ∧ ∃ cur, w.heap[g]? = some (.cells cur 3 (0, 0)) ∧ cur.size = cap := by
 obtain ⟨_, inner, ho, _⟩ := h
 rcases ho.2 with ⟨he, _⟩ | ⟨g', cap', cur, he, hb, hh, h1, h2, h3, _⟩
 · cases he
 · injection he with ha hn hc
   injection ha with ha
   injection ha with ha
   subst ha; subst hc; subst hn
   exact ⟨h1, h2, hb, cur, hh, by rw [h3]; exact Nat.mul_one _⟩
theorem ztu {w : World} {base g n cap : Nat} {x : Int} {cur : Array Value} (hb : base ≤ g) (hg : w.heap[g]? = some (.cells cur 3 (0, 0))) (hc : cur.size = cap) (h1 : n ≤ cap) (h2 : cap ≤ maxLen) (hx : ∀ j, j < n → cur[j]? = some (.int .i64 x)) :
   Kd.R (Kd.int .i64) 3 w base (fun _ => True) (.slice (some ⟨g, 0, none⟩) n cap) (List.replicate n x) := by
 refine Kd.R_of_own ?_ (fun _ _ => trivial)
 refine ⟨by simp [encs], .inr ⟨g, cap, cur, by simp, hb, hg, by simpa using h1, h2, by simpa using hc, ?_⟩⟩
 apply List.ext_getElem?
 intro j
 by_cases hj : j < n
 · rw [List.getElem?_take, if_pos (by simpa using hj)]
   have := hx j hj
   rw [Array.getElem?_toList, this]
   simp [encs, hj]
 · rw [List.getElem?_eq_none (by simp; omega), List.getElem?_eq_none (by simp [encs]; omega)]
set_option maxHeartbeats 1600000 in
set_option maxRecDepth 100000 in
theorem zha (A0 : Option Addr) (c0 : Nat) (l0 : List Int) (a1 : Int) (r : List Int) (w : World) (hr0 : Kd.C (Kd.int .i64) w A0 l0.length l0) (hc0 : l0.length ≤ c0) (h : zei l0 a1 = some r) :
   Calls Try.prog 149 #[.slice A0 l0.length c0, .int .i64 a1] w fun e w' => ∃ v0_ : Value, e = .returned (v0_) ∧ Kd.R (Kd.int .i64) 3 w' w.heap.size (fun _ => True) v0_ r ∧ Below w.heap.size w w' := by
 unfold zei at h
 by_cases hp : l0.length = 1 ∧ 0 ≤ a1 ∧ a1 ≤ 1048576
 rotate_left
 · rw [if_neg hp] at h
   cases h
 rw [if_pos hp] at h
 obtain ⟨hl, h0, h1⟩ := hp
 obtain rfl := zsi h
 clear h
 obtain ⟨n, rfl⟩ := Int.eq_ofNat_of_zero_le h0
 obtain ⟨ad, rfl, hx⟩ := Kd.at_int hr0 0 (by decide) (by omega)
 obtain ⟨x, hxx⟩ : ∃ x, x = rd l0 0 := ⟨_, rfl⟩
 rw [← hxx] at hx ⊢
 have hn : n ≤ 1048576 := by omega
 have hx' : w.cell? ad = some (.int .i64 x) := by simpa [Addr.add] using hx
 rw [hl]
 have HX := zA hx'
 have HMU := zA (zsb n hn)
 have d1 : decide ((n : Int) < 0) = false := zdf (by omega)
 have d2 : decide ((9223372036854775807 : Int) < n) = false := zdf (by omega)
 have hlt := World.block_lt_of_cell? w _ hx'
 have HL := zA hlt
 have b0 : (0 : Int) ≤ n := by omega
 have b1 : (n : Int).toNat * 8 ≤ 281474976710656 := by simp; omega
 clear hr0 hx hx' hxx h0 h1 hlt
 rcases Nat.eq_zero_or_pos n with hz | hpos
 · subst hz
   go_enter Try.func149, Try.ntmps149
   go_wp2_with (first
     | (go_at_call 179; refine (zjo 1 0 0 0 _ HMU.out).mono ?_; rintro e w' ⟨rfl, ⟨nd, rfl⟩⟩)
     | ((with_reducible refine zar (N := 30) rfl ?_); refine Kd.R_make (Kd.int .i64) w.heap.size 3 rfl (N := 30) rfl 51 _ _ rfl (0 : Int) rfl rfl Try.underlying51 (.int .i64 0) 8 zlp rfl (by decide) (by omega) 0 (ok := fun _ => True) (okp := fun _ => True) rfl (fun _ hk => hk) trivial (by omega) (by decide) (zbn (Below.refl _ _) _) (zlr _) ?_; intro v102 w4 ho hb hg_ hnew_; clear hg_ hnew_; obtain ⟨A, c, e, hl_, hr_⟩ := Kd.R_reads ho; cases e; have HO := zA ho; have HB := zA hb; clear hl_ hr_ ho hb; have hcopy := run_copy_none (P := Try.prog) w4 51 51 3 3 A (some ad) 0 c 1 c0 Try.underlying51 (by kernel_rfl) rfl))
   clear hcopy
   go_loopw [8] (fun i wr => i = .int .i64 0 ∧ wr = w4) (fun _ _ => 0)
   case atStart => exact ⟨rfl, rfl⟩
   obtain ⟨rfl, rfl⟩ := hrel
   go_wp2
   go_ret
   exact ⟨_, rfl, HO.out, HB.out⟩
 have hnp : 0 < (List.replicate (n : Int).toNat (0 : Int)).length := by simp; omega
 go_enter Try.func149, Try.ntmps149
 go_wp2_with (first
   | (go_at_call 179; refine (zjo 1 n 0 n _ HMU.out).mono ?_; rintro e w' ⟨rfl, ⟨nd, rfl⟩⟩)
   | ((with_reducible refine zar (N := 30) rfl ?_); refine Kd.R_make (Kd.int .i64) w.heap.size 3 rfl (N := 30) rfl 51 _ _ rfl (n : Int) rfl rfl Try.underlying51 (.int .i64 0) 8 zlp rfl (by decide) (by omega) 0 (ok := fun _ => True) (okp := fun _ => True) rfl (fun _ hk => hk) trivial b0 b1 (zbn (Below.refl _ _) _) (zlr _) ?_; intro v102 w4 ho hb hg_ hnew_; clear hg_ hnew_; obtain ⟨g, cap, rfl, hgb, hgl, cells_, hcells_⟩ := Kd.R_form ho hnp; obtain ⟨hc1, hc2, _, cur, hcur, hcs⟩ := ztt ho; rw [show (List.replicate (n : Int).toNat (0 : Int)).length = n by simp] at hc1 ⊢; clear hcells_ ho; obtain ⟨cur', hcopy, hs', _, hhi⟩ := zoi g 0 n cap 1 c0 1 ad cur (.int .i64 x) w4 (Nat.min_eq_left hpos).symm hcur (fun j hj => by rw [show j = 0 by omega]; exact (hb.cell HL.out).trans HX.out) (by omega) rfl; have HB := zA hb; have HG := zA hgb; have HH := zA (setRow_heap _ _ _ cur' _ _ hcur); have HI := zA hhi; have HS := zA (hs'.trans hcs); clear hb hgb hcur hhi hs' hcs))
 clear hcopy hnp b0 b1 hgl
 have HI1 := zA (show ∀ j, j < 1 → cur'[j]? = some (.int .i64 x) from fun j hj => HI.out j (by omega) (by omega))
 have HB1 := zA (below_setRow HB.out HG.out cur')
 clear HI HB
 go_loopw [8] (fun i wr => ∃ (m : Nat) (cu : Array Value), i = .int .i64 (m : Int) ∧ 1 ≤ m ∧ m ≤ n ∧ Aside0 (wr.heap[g]? = some (.cells cu 3 (0, 0))) ∧ Aside0 (cu.size = cap) ∧ Aside0 (∀ j, j < m → cu[j]? = some (.int .i64 x)) ∧ Aside0 (Below w.heap.size w wr)) (fun i _ => n - (intOf i).toNat)
 case atStart => exact ⟨1, cur', rfl, by omega, by omega, HH, HS, HI1, HB1⟩
 clear HH HS HI1 HB1
 obtain ⟨m, cu, rfl, m1, mn, HH, HS, HI, HB⟩ := hrel
 by_cases hm : m < n
 rotate_left
 · have e1 : decide ((m : Int) < n) = false := zdf (by omega)
   obtain rfl : m = n := by omega
   go_wp2
   go_ret
   exact ⟨_, rfl, ztu HG.out HH.out HS.out hc1 hc2 HI.out, HB.out⟩
 have e1 : decide ((m : Int) < n) = true := zdt (by omega)
 have e2 : decide ((0 : Int) ≤ m) = true := zdt (by omega)
 have e3 : decide ((m : Int) ≤ n) = true := zdt (by omega)
 have e4 : decide ((m : Int) ≤ cap) = true := zdt (by omega)
 obtain ⟨k, hk⟩ : ∃ k, k = Nat.min m (n - m) := ⟨_, rfl⟩
 have hk' : k = min m (n - m) := hk
 have k1 : 1 ≤ k ∧ m + k ≤ n ∧ k ≤ m := by omega
 have hf : ∀ W : World, W.heap = wr.heap → ∃ cu', (Builtin.copy_ #[51, 51] 3 #[.slice (some ⟨g, m, none⟩) (n - m) (cap - m), .slice (some ⟨g, 0, none⟩) m cap]).run Try.prog W = .ok (.int .i64 (k : Int)) (W.setRow g cu') ∧ cu'.size = cu.size ∧ (∀ j, j < m → cu'[j]? = cu[j]?) ∧ (∀ j, m ≤ j → j < m + k → cu'[j]? = some (.int .i64 x)) := fun W hW =>
   zoi g m (n - m) (cap - m) m cap k ⟨g, 0, none⟩ cu (.int .i64 x) W hk (by rw [hW]; exact HH.out) (fun j hj => by
     have hjm : j < m := by omega
     have := Go.Lib.cells_of_row (w := W) (by rw [hW]; exact HH.out) m j (.int .i64 x) (by rw [List.getElem?_take, if_pos hjm, Array.getElem?_toList]; exact HI.out j hjm)
     exact this) (by rw [HS.out]; omega) rfl
 have HC := zA hf
 clear hf hk hk'
 have e5 : m ≤ cap := by omega
 have e6 : ¬ cap = m := by omega
 go_wp2
 go_region_law (obtain ⟨cu', hrun, q1, q2, q3⟩ := HC.out wr.drew rfl; refine zqv rfl (.tmp 41) (.tmp 44) rfl rfl (x := .slice (some ⟨g, m, none⟩) (n - m) (cap - m)) (y := .slice (some ⟨g, 0, none⟩) m cap) (by simp [Act.eval, Act.put, e6]) (by simp [Act.eval, Act.put]) _ hrun ?_)
 go_simp
 rw [show IntKind.i64.wrap ((m : Int) + (k : Int)) = ((m + k : Nat) : Int) from by rw [IntKind.wrap_i64]; omega]
 go_roundw
 case rel =>
   refine ⟨_, _, _, _, _, _, _, _, _, _, _, _, _, _, ⟨m + k, cu', rfl, by omega, by omega, ⟨setRow_heap _ _ _ cu' _ _ (by exact HH.out)⟩, ⟨q1.trans HS.out⟩, ⟨fun j hj => ?_⟩, ⟨below_setRow (zee HB.out) HG.out cu'⟩⟩, rfl⟩
   · by_cases hjm : j < m
     · rw [q2 j hjm]; exact HI.out j hjm
     · exact q3 j (by omega) hj
 case measure => simp [intOf]; omega
end Go.Proofs.Ytkfkbmlbpeojaaa.Q
end
section
namespace Go.Proofs.Ytkfkbmlbpeojaaa.Q
open Go.RowKit Go.Proofs.YtkfkbmlbpeojaaaW.PrintWords Go.Proofs.YtkfkbmlbpeojaaaW.PrintLast Go.Proofs.YtkfkbmlbpeojaaaW.PrintMore
attribute [local go_sem] zcz zc0 zd1 zd2 zcl zcm zc1 zc2
set_option linter.unusedVariables false
set_option linter.unusedSimpArgs false
set_option linter.unusedVariables false
set_option linter.unusedSimpArgs false
def shL (g : Int → List S72 × List Int → Option (List S72 × List Int)) : List Int → List S72 × List Int → Option (List S72 × List Int)
 | [], s => some s
 | x :: xs, s => (g x s).bind fun s1 => shL g xs s1
def zoj (k : Nat) (i : Int) (n : S72) (s : List S72 × List Int) : Option (List S72 × List Int) := if s.1.length < 3518437208883 then (zeo k s.1 n.f0 n.f1 n.f2 n.f3).bind fun m => some (if m < 0 then (s.1 ++ [n], s.2.set i.toNat s.1.length) else (s.1, s.2.set i.toNat m)) else none
def shW (k : Nat) (e : List S72) : Nat → Int → List S72 × List Int → Option (List S72 × List Int)
 | 0, _, _ => none
 | d + 1, i, s => if 0 ≤ i ∧ i < e.length then (if rd s.2 i ≥ 0 then some s else (zea k (zac e i).f0 (zac e i).f1 (zac e i).f2 (zac e i).f3).bind fun ks => if ks.length < 1048576 then (shL (shW k e d) ks s).bind fun s1 => (zb0 k (zac e i).f0 (zac e i).f1 (zac e i).f2 (zac e i).f3 s1.2).bind fun n => zoj k i ⟨n.1, n.2.1, n.2.2.1, n.2.2.2⟩ s1 else none) else none
structure ShX (w0 : World) (A0 : Option Addr) (c0 : Nat) (e : List S72) (gn ge gw go r cr : Nat) (s : List S72 × List Int) (vo : Value) (W : World) : Prop where
 below : Below w0.heap.size w0 W
 bn : W.heap[gn]? = some (.cells #[.slice (some ⟨r, 0, none⟩) e.length cr] 51 (0, 0))
 be : W.heap[ge]? = some (.cells #[.slice A0 e.length c0] 24 (0, 0))
 bw : W.heap[gw]? = some (.cells #[.func (.func 150) #[] #[.pointer (some ⟨gn, 0, none⟩), .pointer (some ⟨ge, 0, none⟩), .pointer (some ⟨gw, 0, none⟩), .pointer (some ⟨go, 0, none⟩)]] 152 (0, 0))
 bo : W.heap[go]? = some (.cells #[vo] 24 (0, 0))
 out : Kd.R k72 72 W w0.heap.size (fun k => k ≠ gn ∧ k ≠ ge ∧ k ≠ gw ∧ k ≠ go ∧ k ≠ r) vo s.1
 rne : r ≠ gn ∧ r ≠ ge ∧ r ≠ gw ∧ r ≠ go
 nam : Kd.R (Kd.int .i64) 3 W w0.heap.size (fun k => k = r) (.slice (some ⟨r, 0, none⟩) e.length cr) s.2
structure ShF (w0 : World) (gn ge gw go : Nat) : Prop where
 lo : w0.heap.size ≤ go
 n : gn ≠ go
 e : ge ≠ go
 w : gw ≠ go
section
variable {w0 : World} {A0 : Option Addr} {c0 : Nat} {e : List S72} {gn ge gw go r cr : Nat} {s : List S72 × List Int} {vo v : Value} {W W1 : World}
theorem ShX.step (h : ShX w0 A0 c0 e gn ge gw go r cr s vo W) (hb : Below W.heap.size W W1) : ShX w0 A0 c0 e gn ge gw go r cr s vo W1 :=
 ⟨zag h.below hb, zaj h.bn hb, zaj h.be hb, zaj h.bw hb, zaj h.bo hb, zRb h.out hb, h.rne, zRb h.nam hb⟩
theorem ShX.setn (h : ShX w0 A0 c0 e gn ge gw go r cr s vo W) (i x : Int) : ShX w0 A0 c0 e gn ge gw go r cr (s.1, s.2.set i.toNat x) vo (W.setCell ⟨r, i.toNat, none⟩ (.int .i64 x)) := by
 have hr := h.rne
 have hb := Kd.R_base h.nam r rfl
 exact ⟨h.below.setCell (p := ⟨r, i.toNat, none⟩) hb _, zav h.bn (fun e => hr.1 (by simpa using e.symm)) _, zav h.be (fun e => hr.2.1 (by simpa using e.symm)) _, zav h.bw (fun e => hr.2.2.1 (by simpa using e.symm)) _, zav h.bo (fun e => hr.2.2.2 (by simpa using e.symm)) _,
   Kd.R_far h.out (p := ⟨r, i.toNat, none⟩) (fun k hk => hk.2.2.2.2) _, h.rne, Kd.R_putn h.nam i x⟩
theorem ShX.append (F : ShF w0 gn ge gw go) (h : ShX w0 A0 c0 e gn ge gw go r cr s vo W) {W1 : World} {vo' : Value} {ys : List S72} (hR : Kd.R k72 72 W1 w0.heap.size (fun k => k ≠ gn ∧ k ≠ ge ∧ k ≠ gw ∧ k ≠ go ∧ k ≠ r) vo' ys) (hb : Below w0.heap.size w0 W1) (hg : W.grownBy W1 vo.ownBlock) : ShX w0 A0 c0 e gn ge gw go r cr (ys, s.2) vo' (W1.setCell ⟨go, 0, none⟩ vo') := by
 have bn : W1.heap[gn]? = _ := (hg.block gn (zcp h.bn) (fun e => (h.out.1 gn e.symm).1 rfl)).trans h.bn
 have be : W1.heap[ge]? = _ := (hg.block ge (zcp h.be) (fun e => (h.out.1 ge e.symm).2.1 rfl)).trans h.be
 have bw : W1.heap[gw]? = _ := (hg.block gw (zcp h.bw) (fun e => (h.out.1 gw e.symm).2.2.1 rfl)).trans h.bw
 have bo : W1.heap[go]? = _ := (hg.block go (zcp h.bo) (fun e => (h.out.1 go e.symm).2.2.2.1 rfl)).trans h.bo
 exact ⟨hb.setCell (p := ⟨go, 0, none⟩) F.lo _, zav bn (fun e => F.n (by simpa using e)) _, zav be (fun e => F.e (by simpa using e)) _, zav bw (fun e => F.w (by simpa using e)) _, by simpa using zas bo 0 vo',
   Kd.R_far hR (p := ⟨go, 0, none⟩) (fun k hk => hk.2.2.2.1) _, h.rne, Kd.R_far (Kd.R_grown h.nam hg (fun k hk e => (h.out.1 k e.symm).2.2.2.2 hk)) (p := ⟨go, 0, none⟩) (fun k hk => by rw [hk]; exact h.rne.2.2.2) _⟩
end
set_option maxHeartbeats 4000000 in
set_option maxRecDepth 100000 in
theorem zu4 (k : Nat) {w0 : World} {A0 : Option Addr} {c0 : Nat} {e : List S72} {gn ge gw go r cr : Nat} (F : ShF w0 gn ge gw go) (hC : Kd.C k72 w0 A0 e.length e) (hc0 : e.length ≤ c0) : ∀ (d : Nat) (i : Int) (s s' : List S72 × List Int) (vo : Value) (W : World), ShX w0 A0 c0 e gn ge gw go r cr s vo W → shW k e d i s = some s' →
   Calls Try.prog 150 #[.int .i64 i, .pointer (some ⟨gn, 0, none⟩), .pointer (some ⟨ge, 0, none⟩), .pointer (some ⟨gw, 0, none⟩), .pointer (some ⟨go, 0, none⟩)] W fun x W' => x = .returned (.tuple #[]) ∧ ∃ vo', ShX w0 A0 c0 e gn ge gw go r cr s' vo' W' ∧ ShFr go r vo W vo' W' := by
 have HF := zA F
 have HC := zA hC
 have HC0 := zA hc0
 clear F hC hc0
 intro d
 induction d with
 | zero => intro i s s' vo W hX h; cases h
 | succ d ih =>
 intro i s s' vo W hX h
 have HIH := zA ih
 clear ih
 unfold shW at h
 by_cases c1 : 0 ≤ i ∧ i < e.length
 rotate_left
 · rw [if_neg c1] at h
   cases h
 rw [if_pos c1] at h
 obtain ⟨c2, c3⟩ := c1
 have q1 := zaf hX.bn 0
 have q2 := zaf hX.be 0
 obtain ⟨p0, p1⟩ := Kd.R_celln 0 hX.nam i c2 c3
 have HX := zA hX
 clear hX
 by_cases hn : rd s.2 i ≥ 0
 · rw [if_pos hn] at h
   obtain rfl := zsi h
   clear h
   have d1 : decide (0 ≤ rdOf 0 s.2 i) = true := zdt hn
   clear hn
   go_enter Try.func150, Try.ntmps150
   go_wp2_with fail
   first | go_end0 | ((try simp only [Exit.inBlock, Exit.then]); refine bodyPost_ret (results_none rfl _ _ _) rfl ?_)
   exact ⟨rfl, vo, HX.out, ShFr.refl _ _ _ _⟩
 rw [if_neg hn] at h
 have d1 : decide (0 ≤ rdOf 0 s.2 i) = false := zdf hn
 clear hn
 obtain ⟨ks, hks, h⟩ := Option.bind_eq_some_iff.1 h
 by_cases hkl : ks.length < 1048576
 rotate_left
 · rw [if_neg hkl] at h
   cases h
 rw [if_pos hkl] at h
 obtain ⟨s1, hs1, h⟩ := Option.bind_eq_some_iff.1 h
 obtain ⟨nn, hnn, h⟩ := Option.bind_eq_some_iff.1 h
 have HKS := zA hks
 have HS1 := zA hs1
 have HNN := zA hnn
 have HH := zA h
 clear hks hs1 hnn h
 obtain ⟨ad, eA, x0, x1, x2, x3⟩ := zen (zCb HC.out HX.out.below) i c2 c3
 subst eA
 go_enter Try.func150, Try.ntmps150
 go_wp2_with (go_at_call 148; (with_reducible refine (zga k _ _ _ _ ks _ HKS.out).mono ?_); rintro x w1 ⟨vk, rfl, hk, hb⟩; obtain ⟨Ak, ck, rfl⟩ := Kd.R_slice hk; have HK1 := zA hk; have HB1 := zA hb; clear hk hb)
 have hks := HK1.out
 have hrr := Kd.R_lt HX.out.nam r rfl
 have hgo := zcp HX.out.bo
 go_loopw [7, 20] (fun v7 v20 wr => ∃ (u : Nat) (su : List S72 × List Int) (vu : Value), v20 = .int .i64 (u : Int) ∧ u ≤ ks.length ∧ Aside0 (ShX w0 (some ad) c0 e gn ge gw go r cr su vu wr) ∧ Aside0 (shL (shW k e d) (ks.drop u) su = some s1) ∧ Aside0 (ShFr go r vo W vu wr) ∧
   Aside0 (Kd.R (Kd.int .i64) 3 wr W.heap.size (fun k => k ≠ r ∧ k ≠ go ∧ some k ≠ vu.ownBlock) (.slice Ak ks.length ck) ks)) (fun _ v20 _ => ks.length - (intOf v20).toNat)
 case atStart =>
   refine ⟨0, s, vo, rfl, Nat.zero_le _, ⟨HX.out.step HB1.out⟩, ⟨by rw [List.drop_zero]; exact HS1.out⟩, ⟨(ShFr.refl go r vo W).step HB1.out⟩, ⟨Kd.R_mono (Kd.R_bound hks) (fun k hk => ⟨by have := hk.2.1; omega, by have := hk.2.1; omega, fun he => ?_⟩)⟩⟩
   have h1 := Kd.R_lt HX.out.out k he.symm
   have h2 := hk.2.1
   omega
 clear hks HK1 HB1 HS1 HX
 obtain ⟨u, su, vu, rfl, hu, HXu, HSu, HFu, HKu⟩ := hrel
 by_cases hlt : u < ks.length
 · obtain ⟨adk, ek, hck⟩ := Kd.at_int (zRr HKu.out).2.2 (u : Int) (by omega) (by omega)
   rw [Int.toNat_natCast] at hck
   subst ek
   have d2 : decide ((u : Int) < ks.length) = true := zdt (by omega)
   have d3 : (0 : Int) ≤ (u : Int) := by omega
   have d4 : (u : Int) < ks.length := by omega
   have qw := zaf HXu.out.bw 0
   have hs := HSu.out
   rw [List.drop_eq_getElem_cons hlt] at hs
   unfold shL at hs
   obtain ⟨s2, hs2, hs3⟩ := Option.bind_eq_some_iff.1 hs
   have hv : rd ks (u : Int) = ks[u] := by
     unfold rd
     rw [Int.toNat_natCast, List.getD_eq_getElem?_getD, List.getElem?_eq_getElem hlt]
     rfl
   rw [← hv] at hs2
   have HS2 := zA hs2
   have HS3 := zA hs3
   clear hs hs2 hs3 hv HSu
   go_wp2_with fail
   refine (HIH.out (rd ks (u : Int)) su s2 vu wr HXu.out HS2.out).mono ?_
   rintro x w3 ⟨rfl, v3, hX3, hF3⟩
   have HX3 := zA hX3
   have HF3 := zA hF3
   clear hX3 hF3
   go_wp2_with fail
   go_roundw
   case rel =>
     refine ⟨u + 1, s2, v3, by go_num, by omega, HX3, HS3, ⟨HFu.out.trans HF3.out⟩, ⟨Kd.R_mono (Kd.R_step (Kd.R_bound HKu.out) (fun k hk hl => HF3.out.keep k hl hk.1.1 hk.1.2.1 hk.1.2.2)) (fun k hk => ⟨hk.1.1, hk.1.2.1, fun he => ?_⟩)⟩⟩
     rcases HF3.out.own k he.symm with e' | e'
     · exact hk.1.2.2 e'.symm
     · have := hk.2.2.1
       omega
   case measure => simp [intOf]; omega
 obtain rfl : u = ks.length := by omega
 have d2 : decide ((ks.length : Int) < ks.length) = false := zdf (by omega)
 have hs := HSu.out
 rw [List.drop_length] at hs
 obtain rfl := zsi hs
 clear hs HSu HKu
 go_wp2_with fail
 obtain ⟨n0, n1, n2, n3⟩ := nn
 have hcr := (zRr HXu.out.nam).2.1
 have HLEN := zA (zRr HXu.out.nam).1
 have hrw := Kd.R_lt HXu.out.nam r rfl
 refine zic [[], [], [0, 1], [0, 1, 2], [], [0, 1, 2, 3, 4], [], [0, 1, 2, 3, 4, 5, 6]] [[2, 3, 5, 7], [2, 3, 5, 7], [3, 5, 7], [5, 7], [5, 7], [7], [7], []]
   (fun L s V => Below wr.heap.size wr V ∧ (L 0 = true → s 0 = .slice (some ad) e.length c0) ∧ (L 1 = true → s 1 = .int .i64 i) ∧ (L 2 = true → s 2 = .pointer (some (ad.add (i.toNat * 4)))) ∧ (L 3 = true → s 3 = .agg #[.string (zac e i).f0, .int .i64 (zac e i).f1, .int .i64 (zac e i).f2, .int .i64 (zac e i).f3]) ∧
     (L 4 = true → s 4 = .slice (some ⟨r, 0, none⟩) e.length cr) ∧ (L 5 = true → s 5 = .agg #[.string n0, .int .i64 n1, .int .i64 n2, .int .i64 n3]) ∧ (L 6 = true → ∃ g cs, s 6 = .pointer (some ⟨g, 0, none⟩) ∧ V.heap[g]? = some (.cells cs 72 (0, 0)) ∧ cs.size = 4 ∧ wr.heap.size ≤ g ∧ (L 7 = true → cs = #[.string n0, .int .i64 n1, .int .i64 n2, .int .i64 n3])))
   rfl (fun _ _ _ _ _ h => h) (by kernel_rfl) ?_ ⟨?_, ?_, ?_, ?_, ?_, ?_, ?_, ?_, trivial⟩ ?_
 · exact ⟨zee (Below.refl _ _), (fun h => Bool.noConfusion h), (fun h => Bool.noConfusion h), (fun h => Bool.noConfusion h), (fun h => Bool.noConfusion h), (fun h => Bool.noConfusion h), (fun h => Bool.noConfusion h), (fun h => Bool.noConfusion h)⟩
 · rintro L s V hu hd hn ⟨hB, g0, g1, g2, g3, g4, g5, g6⟩ K hK
   have hc := zaf (HXu.out.step hB).be 0
   refine zd0 (N := some 28) (v := .slice (some ad) e.length c0) (w1 := V) (by rfl) rfl ?_ (hK _ _ ⟨hB, fun _ => rfl, g1, g2, g3, g4, g5, g6⟩)
   simp only [zap, riGo, zb2, zby, zc3, zdl, Nat.reduceBEq, Nat.reduceAdd, List.headD, List.tail, List.getD, List.getElem?_cons_zero, List.getElem?_cons_succ, Option.getD_some, cond_true, cond_false]
   go_simp
 · rintro L s V hu hd hn ⟨hB, g0, g1, g2, g3, g4, g5, g6⟩ K hK
   refine zd0 (N := some 29) (v := .int .i64 i) (w1 := V) (by rfl) rfl ?_ (hK _ _ ⟨hB, g0, fun _ => rfl, g2, g3, g4, g5, g6⟩)
   simp only [zap, riGo, zb2, zby, zc3, zdl, Nat.reduceBEq, Nat.reduceAdd, List.headD, List.tail, List.getD, List.getElem?_cons_zero, List.getElem?_cons_succ, Option.getD_some, cond_true, cond_false]
   go_simp
 · rintro L s V hu hd hn ⟨hB, g0, g1, g2, g3, g4, g5, g6⟩ K hK
   have e0 := g0 hd.1
   have e1 := g1 hd.2
   refine zd0 (N := some 30) (v := .pointer (some (ad.add (i.toNat * 4)))) (w1 := V) (by rfl) rfl ?_ (hK _ _ ⟨hB, g0, g1, fun _ => rfl, g3, g4, g5, g6⟩)
   simp only [zap, riGo, zb2, zby, zc3, zdl, Nat.reduceBEq, Nat.reduceAdd, List.headD, List.tail, List.getD, List.getElem?_cons_zero, List.getElem?_cons_succ, Option.getD_some, cond_true, cond_false]
   rw [e0, e1]
   go_simp
 · rintro L s V hu hd hn ⟨hB, g0, g1, g2, g3, g4, g5, g6⟩ K hK
   have e2 := g2 hd.2.2
   obtain ⟨ad', ea, y0, y1, y2, y3⟩ := zen (zCb HC.out (HXu.out.step hB).below) i c2 c3
   cases ea
   refine zd0 (N := some 31) (v := .agg #[.string (zac e i).f0, .int .i64 (zac e i).f1, .int .i64 (zac e i).f2, .int .i64 (zac e i).f3]) (w1 := V) (by rfl) rfl ?_ (hK _ _ ⟨hB, g0, g1, g2, fun _ => rfl, g4, g5, g6⟩)
   simp only [zap, riGo, zb2, zby, zc3, zdl, Nat.reduceBEq, Nat.reduceAdd, List.headD, List.tail, List.getD, List.getElem?_cons_zero, List.getElem?_cons_succ, Option.getD_some, cond_true, cond_false]
   rw [e2]
   clear x0 x1 x2 x3
   go_simp
 · rintro L s V hu hd hn ⟨hB, g0, g1, g2, g3, g4, g5, g6⟩ K hK
   have hc := zaf (HXu.out.step hB).bn 0
   refine zd0 (N := some 32) (v := .slice (some ⟨r, 0, none⟩) e.length cr) (w1 := V) (by rfl) rfl ?_ (hK _ _ ⟨hB, g0, g1, g2, g3, fun _ => rfl, g5, g6⟩)
   simp only [zap, riGo, zb2, zby, zc3, zdl, Nat.reduceBEq, Nat.reduceAdd, List.headD, List.tail, List.getD, List.getElem?_cons_zero, List.getElem?_cons_succ, Option.getD_some, cond_true, cond_false]
   go_simp
 · rintro L s V hu hd hn ⟨hB, g0, g1, g2, g3, g4, g5, g6⟩ K hK
   have e3 := g3 hd.2.2.2.1
   have e4 := g4 hd.2.2.2.2
   have hCn := (zRr (HXu.out.step hB).nam).2.2
   have e34 : (#[s 3, s 4] : Array Value) = #[.agg #[.string (zac e i).f0, .int .i64 (zac e i).f1, .int .i64 (zac e i).f2, .int .i64 (zac e i).f3], .slice (some ⟨r, 0, none⟩) e.length cr] := by rw [e3, e4]
   have hcall := zgb k _ _ _ _ (some ⟨r, 0, none⟩) cr su.2 n0 n1 n2 n3 V hCn (HLEN.out ▸ hcr) HNN.out
   rw [← HLEN.out] at hcall
   refine zku Try.func151 (by kernel_rfl) rfl #[.agg #[.string (zac e i).f0, .int .i64 (zac e i).f1, .int .i64 (zac e i).f2, .int .i64 (zac e i).f3], .slice (some ⟨r, 0, none⟩) e.length cr] (by rfl) rfl rfl (by simp only [List.map_toArray, List.map_cons, List.map_nil]; exact e34) ?_
   refine hcall.mono ?_
   rintro x w4 ⟨rfl, hb⟩
   exact ⟨_, rfl, hK _ _ ⟨zag hB hb, g0, g1, g2, g3, g4, fun _ => rfl, fun h => by obtain ⟨g, cs, a1, a2, a3, a4, a5⟩ := g6 h; exact ⟨g, cs, a1, zaj a2 hb, a3, a4, a5⟩⟩⟩
 · rintro L s V hu hd hn ⟨hB, g0, g1, g2, g3, g4, g5, g6⟩ K hK
   refine zd0 (N := some 8) (v := .pointer (some ⟨V.heap.size, 0, none⟩)) (w1 := V.alloc (.cells #[.string ⟨#[]⟩, .int .i64 0, .int .i64 0, .int .i64 0] 72)) (by rfl) rfl ?_ (hK _ _ ⟨zba hB _, g0, g1, g2, g3, g4, g5, fun _ => ⟨V.heap.size, _, rfl, zit V _, rfl, hB.size, fun h => absurd (h.symm.trans hn) (by simp)⟩⟩)
   simp only [zap, riGo, zb2, zby, zc3, zdl, Nat.reduceBEq, Nat.reduceAdd, List.headD, List.tail, List.getD, List.getElem?_cons_zero, List.getElem?_cons_succ, Option.getD_some, cond_true, cond_false]
   go_simp
 · rintro L s V hu hd hn ⟨hB, g0, g1, g2, g3, g4, g5, g6⟩ K hK
   obtain ⟨g, cs, a1, a2, a3, a4, _⟩ := g6 hd.2.2.2.2.2.2
   have e5 := g5 hd.2.2.2.2.2.1
   have hst := ziu (P := Try.prog) (w := V) (o := 0) 72 (.agg #[.string n0, .int .i64 n1, .int .i64 n2, .int .i64 n3]) [.string n0, .int .i64 n1, .int .i64 n2, .int .i64 n3] a2 rfl rfl (by simp [a3]) (by simp [Value.oneCell'])
   refine zrs (w1 := V.setCells g 0 [.string n0, .int .i64 n1, .int .i64 n2, .int .i64 n3]) (by rfl) rfl ?_ (hK undef _ ⟨?_, g0, g1, g2, g3, g4, g5, fun _ => ?_⟩)
   · simp only [zap, riGo, zb2, zby, zc3, zdl, Nat.reduceBEq, Nat.reduceAdd, List.headD, List.tail, List.getD, List.getElem?_cons_zero, List.getElem?_cons_succ, Option.getD_some, cond_true, cond_false]
     rw [a1, e5]
     unfold execOp
     simp only [Sem.run_bind, Sem.run_pure]
     exact (congrArg (fun r => Result.andThen r _) hst).trans rfl
   · have hs := zgf g [.string n0, .int .i64 n1, .int .i64 n2, .int .i64 n3] 0 V
     exact hB.trans ⟨hs.1, hs.2.1, hs.2.2.1, Nat.le_of_eq hs.2.2.2.symm, fun k hk => zf2 _ _ k (by omega)⟩
   · obtain ⟨cur', b1, b2, b3⟩ := zgv (e := 72) [.string n0, .int .i64 n1, .int .i64 n2, .int .i64 n3] 0 V cs a2 (by simp [a3])
     refine ⟨g, cur', a1, b1, b2.trans a3, a4, fun _ => ?_⟩
     apply Array.ext'
     have hd4 : cs.toList.drop (0 + 4) = [] := List.drop_of_length_le (by simp [a3])
     rw [b3]
     show cs.toList.take 0 ++ [.string n0, .int .i64 n1, .int .i64 n2, .int .i64 n3] ++ cs.toList.drop (0 + 4) = _
     rw [hd4]
     rfl
 · rintro L s V hL ⟨hB, g0, g1, g2, g3, g4, g5, g6⟩
   obtain ⟨g, cs, a1, a2, a3, a4, a5⟩ := g6 (hL 6 rfl)
   obtain rfl := a5 (hL 7 rfl)
   have e5 := g5 (hL 5 rfl)
   have HX6 := zA (HXu.out.step hB)
   have HF6 := zA (HFu.out.step hB)
   have HG := zA a2
   have HGE := zA a4
   clear a2 a3 a4 a5 g0 g1 g2 g3 g4 g5 g6 hB
   simp only [zap, riGo, zb2, zby, zc3, zdl, Nat.reduceBEq, Nat.reduceAdd, List.headD, List.tail, List.getD, List.getElem?_cons_zero, List.getElem?_cons_succ, Option.getD_some, cond_true, cond_false]
   rw [a1, e5]
   clear a1 e5
   clear x0 x1 x2 x3 q1 q2 p0 p1
   go_wp2_with fail
   have h := HH.out
   unfold zoj at h
   by_cases hsl : su.1.length < 3518437208883
   rotate_left
   · rw [if_neg hsl] at h
     cases h
   rw [if_pos hsl] at h
   obtain ⟨m, hm, h⟩ := Option.bind_eq_some_iff.1 h
   have HM := zA hm
   have HS' := zA (zsi h)
   clear hm h HH HNN
   obtain ⟨Ao, co, eo⟩ := Kd.R_slice HX6.out.out
   have EO := zA eo
   clear eo
   refine zic [[], [], [], [], [2, 3], [0, 1, 2, 3, 4], [0, 1, 2, 3, 4, 5]] [[5, 6], [5, 6], [4, 5, 6], [4, 5, 6], [5, 6], [6], []]
     (fun L s X => (L 6 = false → Below V.heap.size V X) ∧ (L 6 = true → ∃ X', Below V.heap.size V X' ∧ X = X'.setCell ⟨r, i.toNat, none⟩ (.int .i64 m)) ∧ (L 0 = true → s 0 = .slice (some ⟨r, 0, none⟩) e.length cr) ∧ (L 1 = true → s 1 = .int .i64 i) ∧ (L 2 = true → s 2 = .slice Ao su.1.length co) ∧ (L 3 = true → s 3 = .agg #[.string n0, .int .i64 n1, .int .i64 n2, .int .i64 n3]) ∧
       (L 4 = true → s 4 = .int .i64 m) ∧ (L 5 = true → s 5 = .pointer (some ⟨r, i.toNat, none⟩)))
     rfl (fun _ _ _ _ _ h => h) (by kernel_rfl) ?_ ⟨?_, ?_, ?_, ?_, ?_, ?_, ?_, trivial⟩ ?_
   · exact ⟨fun _ => zee (Below.refl _ _), (fun h => Bool.noConfusion h), (fun h => Bool.noConfusion h), (fun h => Bool.noConfusion h), (fun h => Bool.noConfusion h), (fun h => Bool.noConfusion h), (fun h => Bool.noConfusion h), (fun h => Bool.noConfusion h)⟩
   · rintro L s X hu hd hn ⟨hB, hS, g0, g1, g2, g3, g4, g5⟩ K hK
     have hb := hB hn.2
     have hc := zaf (HX6.out.step hb).bn 0
     refine zd0 (N := some 34) (v := .slice (some ⟨r, 0, none⟩) e.length cr) (w1 := X) (by rfl) rfl ?_ (hK _ _ ⟨hB, hS, fun _ => rfl, g1, g2, g3, g4, g5⟩)
     simp only [zap, riGo, zb2, zby, zc3, zdl, Nat.reduceBEq, Nat.reduceAdd, List.headD, List.tail, List.getD, List.getElem?_cons_zero, List.getElem?_cons_succ, Option.getD_some, cond_true, cond_false]
     go_simp
   · rintro L s X hu hd hn ⟨hB, hS, g0, g1, g2, g3, g4, g5⟩ K hK
     refine zd0 (N := some 35) (v := .int .i64 i) (w1 := X) (by rfl) rfl ?_ (hK _ _ ⟨hB, hS, g0, fun _ => rfl, g2, g3, g4, g5⟩)
     simp only [zap, riGo, zb2, zby, zc3, zdl, Nat.reduceBEq, Nat.reduceAdd, List.headD, List.tail, List.getD, List.getElem?_cons_zero, List.getElem?_cons_succ, Option.getD_some, cond_true, cond_false]
     go_simp
   · rintro L s X hu hd hn ⟨hB, hS, g0, g1, g2, g3, g4, g5⟩ K hK
     have hb := hB hn.2.2
     have hc := zaf (HX6.out.step hb).bo 0
     rw [EO.out] at hc
     refine zd0 (N := some 36) (v := .slice Ao su.1.length co) (w1 := X) (by rfl) rfl ?_ (hK _ _ ⟨hB, hS, g0, g1, fun _ => rfl, g3, g4, g5⟩)
     simp only [zap, riGo, zb2, zby, zc3, zdl, Nat.reduceBEq, Nat.reduceAdd, List.headD, List.tail, List.getD, List.getElem?_cons_zero, List.getElem?_cons_succ, Option.getD_some, cond_true, cond_false]
     go_simp
   · rintro L s X hu hd hn ⟨hB, hS, g0, g1, g2, g3, g4, g5⟩ K hK
     have hb := hB hn.2.2
     have hg' := zaj HG.out hb
     have y0 : X.cell? ⟨g, 0, none⟩ = some (.string n0) := zaf hg' 0
     have y1 : X.cell? ⟨g, 1, none⟩ = some (.int .i64 n1) := zaf hg' 1
     have y2 : X.cell? ⟨g, 2, none⟩ = some (.int .i64 n2) := zaf hg' 2
     have y3 : X.cell? ⟨g, 3, none⟩ = some (.int .i64 n3) := zaf hg' 3
     clear hg'
     refine zd0 (N := some 37) (v := .agg #[.string n0, .int .i64 n1, .int .i64 n2, .int .i64 n3]) (w1 := X) (by rfl) rfl ?_ (hK _ _ ⟨hB, hS, g0, g1, g2, fun _ => rfl, g4, g5⟩)
     simp only [zap, riGo, zb2, zby, zc3, zdl, Nat.reduceBEq, Nat.reduceAdd, List.headD, List.tail, List.getD, List.getElem?_cons_zero, List.getElem?_cons_succ, Option.getD_some, cond_true, cond_false]
     go_simp
   · rintro L s X hu hd hn ⟨hB, hS, g0, g1, g2, g3, g4, g5⟩ K hK
     have hb := hB hn.2
     have e2 := g2 hd.1
     have e3 := g3 hd.2
     have hR6 := (HX6.out.step hb).out
     rw [EO.out] at hR6
     have hCo := zRr hR6
     have e23 : (#[s 2, s 3] : Array Value) = #[.slice Ao su.1.length co, .agg #[.string n0, .int .i64 n1, .int .i64 n2, .int .i64 n3]] := by rw [e2, e3]
     refine zku Try.func152 (by kernel_rfl) rfl #[.slice Ao su.1.length co, .agg #[.string n0, .int .i64 n1, .int .i64 n2, .int .i64 n3]] (by rfl) rfl rfl (by simp only [List.map_toArray, List.map_cons, List.map_nil]; exact e23) ?_
     refine (zju k Ao co su.1 n0 n1 n2 n3 m X hCo.2.2 hCo.2.1 HM.out).mono ?_
     rintro x w4 ⟨rfl, hb4⟩
     exact ⟨_, rfl, hK _ _ ⟨fun _ => zag hb hb4, fun h => absurd (h.symm.trans hn.2) (by simp), g0, g1, g2, g3, fun _ => rfl, g5⟩⟩
   · rintro L s X hu hd hn ⟨hB, hS, g0, g1, g2, g3, g4, g5⟩ K hK
     have e0 := g0 hd.1
     have e1 := g1 hd.2.1
     refine zd0 (N := some 39) (v := .pointer (some ⟨r, i.toNat, none⟩)) (w1 := X) (by rfl) rfl ?_ (hK _ _ ⟨hB, hS, g0, g1, g2, g3, g4, fun _ => rfl⟩)
     simp only [zap, riGo, zb2, zby, zc3, zdl, Nat.reduceBEq, Nat.reduceAdd, List.headD, List.tail, List.getD, List.getElem?_cons_zero, List.getElem?_cons_succ, Option.getD_some, cond_true, cond_false]
     rw [e0, e1]
     go_simp
   · rintro L s X hu hd hn ⟨hB, hS, g0, g1, g2, g3, g4, g5⟩ K hK
     have hb := hB hu
     have e4 := g4 hd.2.2.2.2.1
     have e5 := g5 hd.2.2.2.2.2
     obtain ⟨p2, p3⟩ := Kd.R_celln 0 (HX6.out.step hb).nam i c2 c3
     refine zrs (w1 := X.setCell ⟨r, i.toNat, none⟩ (.int .i64 m)) (by rfl) rfl ?_ (hK undef _ ⟨fun h => absurd h (by simp [riUp]), fun _ => ⟨X, hb, rfl⟩, g0, g1, g2, g3, g4, g5⟩)
     simp only [zap, riGo, zb2, zby, zc3, zdl, Nat.reduceBEq, Nat.reduceAdd, List.headD, List.tail, List.getD, List.getElem?_cons_zero, List.getElem?_cons_succ, Option.getD_some, cond_true, cond_false]
     rw [e4, e5]
     go_simp
   · rintro L s X hL ⟨hB, hS, g0, g1, g2, g3, g4, g5⟩
     obtain ⟨X', hb, rfl⟩ := hS (hL 6 rfl)
     have HX7 := zA ((HX6.out.step hb).setn i m)
     have HF7 := zA ((HF6.out.step hb).setn i.toNat (.int .i64 m))
     have hgr : g ≠ r := by have := HGE.out; omega
     have HG7 := zA (zav (zaj HG.out hb) (fun e => hgr (by simpa using e)) (p := ⟨r, i.toNat, none⟩) (.int .i64 m))
     have e4 := g4 (hL 4 rfl)
     have e5 := g5 (hL 5 rfl)
     clear hB hS g0 g1 g2 g3 g4 g5 hb
     simp only [zap, riGo, zb2, zby, zc3, zdl, Nat.reduceBEq, Nat.reduceAdd, List.headD, List.tail, List.getD, List.getElem?_cons_zero, List.getElem?_cons_succ, Option.getD_some, cond_true, cond_false]
     rw [e4, e5]
     clear e4 e5
     generalize X'.setCell ⟨r, i.toNat, none⟩ (.int .i64 m) = X at HX7 HF7 HG7 ⊢
     have q1 := zaf HX7.out.bn 0
     obtain ⟨p2, p3⟩ := Kd.R_celln 0 HX7.out.nam i c2 c3
     have hv : rdOf 0 (su.2.set i.toNat m) i = m := by
       have := HLEN.out
       unfold rdOf
       rw [List.getD_eq_getElem?_getD, List.getElem?_set_self (by omega), Option.getD_some]
     rw [show ((su.1, su.2.set i.toNat m) : List S72 × List Int).2 = su.2.set i.toNat m from rfl, hv] at p2
     clear hv
     by_cases hm : m < 0
     rotate_left
     · have d3 : decide (m < 0) = false := zdf hm
       have hs' := HS'.out
       rw [if_neg hm] at hs'
       subst hs'
       clear hm HS'
       go_wp2_with fail
       first | go_end0 | ((try simp only [Exit.inBlock, Exit.then]); refine bodyPost_ret (results_none rfl _ _ _) rfl ?_)
       exact ⟨rfl, vu, HX7.out, HF7.out⟩
     have d3 : decide (m < 0) = true := zdt hm
     have hs' := HS'.out
     rw [if_pos hm] at hs'
     have HS2 := zA hs'
     clear hm HS' hs'
     have HSZ := zA (show (X.setCell ⟨r, i.toNat, none⟩ (.int .i64 su.1.length)).heap.size = X.heap.size by simp)
     have q2 := zaf HX7.out.bo 0
     rw [EO.out] at q2
     have hX8 := HX7.out.setn i su.1.length
     rw [show (((su.1, su.2.set i.toNat m) : List S72 × List Int).1, (((su.1, su.2.set i.toNat m) : List S72 × List Int).2).set i.toNat (su.1.length : Int)) = (su.1, su.2.set i.toNat su.1.length) from by simp only [List.set_set]] at hX8
     have t0 := zaf hX8.bo 0
     rw [EO.out] at t0
     have hg8 := zav HG7.out (fun e => hgr (by simpa using e)) (p := ⟨r, i.toNat, none⟩) (.int .i64 su.1.length)
     have y0 : (X.setCell ⟨r, i.toNat, none⟩ (.int .i64 su.1.length)).cell? ⟨g, 0, none⟩ = some (.string n0) := zaf hg8 0
     have y1 : (X.setCell ⟨r, i.toNat, none⟩ (.int .i64 su.1.length)).cell? ⟨g, 1, none⟩ = some (.int .i64 n1) := zaf hg8 1
     have y2 : (X.setCell ⟨r, i.toNat, none⟩ (.int .i64 su.1.length)).cell? ⟨g, 2, none⟩ = some (.int .i64 n2) := zaf hg8 2
     have y3 : (X.setCell ⟨r, i.toNat, none⟩ (.int .i64 su.1.length)).cell? ⟨g, 3, none⟩ = some (.int .i64 n3) := zaf hg8 3
     have HX8 := zA hX8
     have HF8 := zA (HF7.out.setn i.toNat (.int .i64 su.1.length))
     clear hX8 hg8
     go_wp2_with ((with_reducible refine zf1 (b := .append) (xs := #[.tmp 50, .tmp 52]) rfl ?_); at_builtin; refine Kd.R_append k72 (w0 := w0) w0.heap.size rfl (.tmp 50) (.tmp 52) 24 72 (.agg #[(.string ⟨#[]⟩), (.int .i64 0), (.int .i64 0), (.int .i64 0)]) 40 rfl Try.underlying24 znb rfl (by decide) (by omega) (.slice Ao su.1.length co) su.1 (⟨n0, n1, n2, n3⟩ : S72) [.string n0, .int .i64 n1, .int .i64 n2, .int .i64 n3] (fun k => k ≠ gn ∧ k ≠ ge ∧ k ≠ gw ∧ k ≠ go ∧ k ≠ r) (fun _ => False) rfl ?aX (zfr _ _ _ (⟨n0, n1, n2, n3⟩ : S72)) (fun _ hk => hk.elim) ?aF ?aO ?aB ?aS ?aL ?_; (case aX => exact congrArg (fun n => Value.slice (some ⟨n, 0, none⟩) 1 1) HSZ.out.symm); (case aO => have := HX8.out.out; rw [EO.out] at this; exact this); (case aB => exact HX8.out.below); (case aS => exact HX8.out.below.size); (case aF => (have a1 := zcp HX8.out.bn; have a2 := zcp HX8.out.be; have a3 := zcp HX8.out.bw; have a4 := zcp HX8.out.bo; have a5 := Kd.R_lt HX8.out.nam r rfl; exact fun k hk => ⟨by omega, by omega, by omega, by omega, by omega⟩)); (case aL => omega); intro v1 w10 ho hb hg hat; obtain ⟨A1, c1', e1⟩ := Kd.R_slice ho; rw [List.length_append, List.length_singleton] at e1; subst e1; have t1 : w10.heap[go]? = _ := (hg.block go (zcp HX8.out.bo) (fun e => (HX8.out.out.1 go (by rw [EO.out]; exact e.symm)).2.2.2.1 rfl)).trans HX8.out.bo; have HX9 := zA (HX8.out.append HF.out ho hb (by rw [EO.out]; exact hg)); have HF9 := zA (HF8.out.append (by rw [EO.out]; exact hg) (by rw [EO.out]; exact hat)); have t2 := zaf t1 0; have t3 := zbu t1 0; clear t1 ho hb hg hat)
     first | go_end0 | ((try simp only [Exit.inBlock, Exit.then]); refine bodyPost_ret (results_none rfl _ _ _) rfl ?_)
     rw [← HS2.out]
     exact ⟨rfl, _, HX9.out, HF9.out⟩
theorem shNil (w : World) (base : Nat) (h : base ≤ w.heap.size) : Kd.R k72 72 (w.alloc (.cells #[] 72)) base (fun k => k = w.heap.size) (.slice (some ⟨w.heap.size, 0, none⟩) 0 0) [] :=
 ⟨fun k hk => by simpa [Value.ownBlock] using hk.symm, [], by have := World.ownsRow_lit (base := base) (e := 72) (size := k72.sz) w #[] 0 h (by simp [maxLen]) (by simp); simpa using this, Reps.none _ _⟩
def ze4 (k : Nat) (l0 : List S72) : Option (List S72) := if 0 < l0.length ∧ l0.length ≤ 1048576 then (zei [-1] l0.length).bind fun names => if names.length = l0.length then (shW k l0 k ((l0.length : Int) - 1) ([], names)).bind fun s => some s.1 else none else none
set_option maxHeartbeats 4000000 in
set_option maxRecDepth 100000 in
theorem zlw (k : Nat) (A0 : Option Addr) (c0 : Nat) (l0 : List S72) (r : List S72) (w : World) (hr0 : Kd.C k72 w A0 l0.length l0) (hc0 : l0.length ≤ c0) (h : ze4 k l0 = some r) :
   Calls Try.prog 101 #[.slice A0 l0.length c0] w fun e w' => ∃ v0_ : Value, e = .returned (v0_) ∧ Kd.R k72 72 w' w.heap.size (fun _ => True) v0_ r ∧ Below w.heap.size w w' := by
 unfold ze4 at h
 by_cases hl : 0 < l0.length ∧ l0.length ≤ 1048576
 rotate_left
 · rw [if_neg hl] at h
   cases h
 rw [if_pos hl] at h
 obtain ⟨names, hn, h⟩ := Option.bind_eq_some_iff.1 h
 by_cases hnl : names.length = l0.length
 rotate_left
 · rw [if_neg hnl] at h
   cases h
 rw [if_pos hnl] at h
 obtain ⟨s, hs, h⟩ := Option.bind_eq_some_iff.1 h
 obtain rfl := zsi h
 have HN := zA hn
 have HNL := zA hnl
 have HS := zA hs
 have HR := zA hr0
 have HC := zA hc0
 clear h hn hnl hs hr0 hc0
 go_enter Try.func101, Try.ntmps101
 have hc1 : ∀ V : World, V.heap[w.heap.size + 1 + 1]? = some (.cells #[.int .i64 (-1)] 3 (0, 0)) → (Kd.int .i64).C V (some ⟨w.heap.size + 1 + 1, 0, none⟩) [(-1 : Int)].length [-1] := fun V hV => zu1 (d := Kd.int .i64) hV (cs := [.int .i64 (-1)]) rfl rfl
 have HC1 := zA hc1
 clear hc1
 go_wp2_with (go_at_call 149; refine (zha (some ⟨w.heap.size + 1 + 1, 0, none⟩) 1 [-1] l0.length names _ (HC1.out _ ?s1) (zlr _) HN.out).mono ?_; (case s1 => simpa using zit ((w.alloc (Obj.cells #[Value.slice A0 l0.length c0] 24)).alloc (Obj.cells #[] 72)) (Obj.cells #[Value.int IntKind.i64 (-1)] 3)); rintro e w4 ⟨v4, rfl, hv4, hb4⟩; obtain ⟨r, cr, e4, hrb, _⟩ := Kd.R_form hv4 (by rw [HNL.out]; exact hl.1); rw [HNL.out] at e4; subst e4; have HRB := zA hrb; clear hrb; have be := zaj (zka (zka (zit w (.cells #[.slice A0 l0.length c0] 24)) (.cells #[] 72)) (.cells #[.int .i64 (-1)] 3)) hb4; have BE := zA be; have qf : (((w4.alloc (.cells #[.slice (some ⟨w.heap.size + 1, 0, none⟩) 0 0] 24)).alloc (.cells #[.slice (some ⟨r, 0, none⟩) l0.length cr] 51)).alloc (.cells #[Value.func (.func 150) #[] #[.pointer (some ⟨w4.heap.size + 1, 0, none⟩), .pointer (some ⟨w.heap.size, 0, none⟩), .pointer (some ⟨w4.heap.size + 1 + 1, 0, none⟩), .pointer (some ⟨w4.heap.size, 0, none⟩)]] 152)).cell? ⟨w.heap.size, 0, none⟩ = some (.slice A0 l0.length c0) := zaf (zka (zka (zka be _) _) _) 0; clear be; have HV4 := zA hv4; have HB4 := zA hb4; clear hv4 hb4)
 have hle4 := HB4.out.size
 have hX : ShX w A0 c0 l0 (w4.heap.size + 1) w.heap.size (w4.heap.size + 1 + 1) w4.heap.size r cr ([], names) (.slice (some ⟨w.heap.size + 1, 0, none⟩) 0 0) (((w4.alloc (.cells #[.slice (some ⟨w.heap.size + 1, 0, none⟩) 0 0] 24)).alloc (.cells #[.slice (some ⟨r, 0, none⟩) l0.length cr] 51)).alloc (.cells #[Value.func (.func 150) #[] #[.pointer (some ⟨w4.heap.size + 1, 0, none⟩), .pointer (some ⟨w.heap.size, 0, none⟩), .pointer (some ⟨w4.heap.size + 1 + 1, 0, none⟩), .pointer (some ⟨w4.heap.size, 0, none⟩)]] 152)) := by
   have hrb := HRB.out
   have hs3 : ((((w.alloc (.cells #[.slice A0 l0.length c0] 24)).alloc (.cells #[] 72)).alloc (.cells #[.int .i64 (-1)] 3))).heap.size = w.heap.size + 1 + 1 + 1 := by simp
   rw [hs3] at hrb hle4
   have hlt := Kd.R_lt HV4.out r rfl
   have b2 := zit (w4.alloc (.cells #[.slice (some ⟨w.heap.size + 1, 0, none⟩) 0 0] 24)) (.cells #[.slice (some ⟨r, 0, none⟩) l0.length cr] 51)
   have b3 := zit ((w4.alloc (.cells #[.slice (some ⟨w.heap.size + 1, 0, none⟩) 0 0] 24)).alloc (.cells #[.slice (some ⟨r, 0, none⟩) l0.length cr] 51)) (.cells #[Value.func (.func 150) #[] #[.pointer (some ⟨w4.heap.size + 1, 0, none⟩), .pointer (some ⟨w.heap.size, 0, none⟩), .pointer (some ⟨w4.heap.size + 1 + 1, 0, none⟩), .pointer (some ⟨w4.heap.size, 0, none⟩)]] 152)
   have h2 : (w4.alloc (.cells #[.slice (some ⟨w.heap.size + 1, 0, none⟩) 0 0] 24)).heap.size = w4.heap.size + 1 := by simp
   have h3 : ((w4.alloc (.cells #[.slice (some ⟨w.heap.size + 1, 0, none⟩) 0 0] 24)).alloc (.cells #[.slice (some ⟨r, 0, none⟩) l0.length cr] 51)).heap.size = w4.heap.size + 1 + 1 := by simp
   rw [h2] at b2
   rw [h3] at b3
   have hN := shNil (w.alloc (.cells #[.slice A0 l0.length c0] 24)) w.heap.size (by simp)
   have h1 : (w.alloc (.cells #[.slice A0 l0.length c0] 24)).heap.size = w.heap.size + 1 := by simp
   rw [h1] at hN
   refine ⟨zba (zba (zba (zag (zba (zba (zba (Below.refl _ _) _) _) _) HB4.out) _) _) _, zka b2 _, zka (zka (zka BE.out _) _) _, b3, zka (zka (zit w4 _) _) _, ?_, ⟨by omega, by omega, by omega, by omega⟩, ?_⟩
   · exact zRa (zRa (zRa (zRb (zRa (Kd.R_mono hN (fun k hk => ⟨by omega, by omega, by omega, by omega, by omega⟩)) _) HB4.out) _) _) _
   · have hv := HV4.out
     have hnl := HNL.out
     rw [← hnl] at hv
     exact zRa (zRa (zRa (Kd.R_lower (by rw [← hnl]; exact Kd.R_of_own (Kd.own_of_R hv) (fun k hk => by simpa [Value.ownBlock] using hk.symm)) (by simp only [World.size_alloc]; omega)) _) _) _
 have HX := zA hX
 clear hX hle4
 refine (zu4 k (go := w4.heap.size) (gn := w4.heap.size + 1) (ge := w.heap.size) (gw := w4.heap.size + 1 + 1) ⟨by have := HB4.out.size; simp at this; omega, by omega, by have := HB4.out.size; simp at this; omega, by omega⟩ HR.out HC.out k _ _ s _ _ HX.out HS.out).mono ?_
 rintro x w7 ⟨rfl, vo, hX7, hF7⟩
 have q7 := zaf hX7.bo 0
 obtain ⟨A7, c7, e7⟩ := Kd.R_slice hX7.out
 rw [e7] at q7
 have E7 := zA e7
 have HX7 := zA hX7
 clear hX7 hF7 e7
 go_wp2_with fail
 go_ret
 exact ⟨_, rfl, by have := HX7.out.out; rw [E7.out] at this; exact Kd.R_mono this (fun _ _ => trivial), HX7.out.below⟩
theorem zps (g g' : Int → List S72 × List Int → Option (List S72 × List Int)) (h : ∀ x s, LeO (g x s) (g' x s)) : ∀ ks s, LeO (shL g ks s) (shL g' ks s)
 | [], _ => LeO.refl _
 | x :: xs, s => LeO.bind (h x s) (fun s1 => zps g g' h xs s1)
theorem zqd (k : Nat) (i : Int) (n : S72) (s : List S72 × List Int) : LeO (zoj k i n s) (zoj (k + 1) i n s) := by
 unfold zoj
 exact zai (LeO.bind (zkb _ _ _ _ _ _) (fun _ => LeO.refl _)) (LeO.refl _)
theorem zpt (k : Nat) (e : List S72) : ∀ (d : Nat) (i : Int) (s : List S72 × List Int), LeO (shW k e d i s) (shW (k + 1) e (d + 1) i s)
 | 0, _, _ => LeO.none _
 | d + 1, i, s => by
   unfold shW
   exact zai (zai (LeO.refl _) (LeO.bind (zdo _ _ _ _ _) (fun ks => zai (LeO.bind (zps _ _ (zpt k e d) _ _) (fun s1 => LeO.bind (zd5 _ _ _ _ _ _) (fun n => zqd _ _ _ _))) (LeO.refl _)))) (LeO.refl _)
theorem zmm : ∀ a0 k, LeO (ze4 k a0) (ze4 (k + 1) a0) := by
 intro a0 k
 unfold ze4
 exact zai (LeO.bind (LeO.refl _) (fun _ => zai (LeO.bind (zpt _ _ _ _ _) (fun _ => LeO.refl _)) (LeO.refl _))) (LeO.refl _)
end Go.Proofs.Ytkfkbmlbpeojaaa.Q
end
section
namespace Go.Proofs.Ytkfkbmlbpeojaaa.Q
open Go.RowKit Go.Proofs.YtkfkbmlbpeojaaaW.PrintWords Go.Proofs.YtkfkbmlbpeojaaaW.PrintLast Go.Proofs.YtkfkbmlbpeojaaaW.PrintMore
attribute [local go_sem] zcz zc0 zd1 zd2 zcl zcm zc1 zc2
set_option linter.unusedVariables false
set_option linter.unusedSimpArgs false
structure SyX (w0 : World) (gb r cr m : Nat) (s : List S72 × List Int) (vo : Value) (W : World) : Prop where
 below : Below w0.heap.size w0 W
 bb : W.heap[gb]? = some (.cells #[vo] 24 (0, 0))
 lo : w0.heap.size ≤ gb
 out : Kd.R k72 72 W w0.heap.size (fun k => k ≠ gb ∧ k ≠ r) vo s.1
 rne : r ≠ gb
 nam : Kd.R (Kd.int .i64) 3 W w0.heap.size (fun k => k = r) (.slice (some ⟨r, 0, none⟩) m cr) s.2
section
variable {w0 : World} {gb r cr m : Nat} {s : List S72 × List Int} {vo v : Value} {W W1 : World}
theorem SyX.step (h : SyX w0 gb r cr m s vo W) (hb : Below W.heap.size W W1) : SyX w0 gb r cr m s vo W1 :=
 ⟨zag h.below hb, zaj h.bb hb, h.lo, zRb h.out hb, h.rne, zRb h.nam hb⟩
theorem SyX.setn (h : SyX w0 gb r cr m s vo W) (i x : Int) : SyX w0 gb r cr m (s.1, s.2.set i.toNat x) vo (W.setCell ⟨r, i.toNat, none⟩ (.int .i64 x)) :=
 ⟨h.below.setCell (p := ⟨r, i.toNat, none⟩) (Kd.R_base h.nam r rfl) _, zav h.bb (fun e => h.rne (by simpa using e.symm)) _, h.lo, Kd.R_far h.out (p := ⟨r, i.toNat, none⟩) (fun k hk => hk.2) _, h.rne, Kd.R_putn h.nam i x⟩
theorem SyX.append (h : SyX w0 gb r cr m s vo W) {vo' : Value} {ys : List S72} (hR : Kd.R k72 72 W1 w0.heap.size (fun k => k ≠ gb ∧ k ≠ r) vo' ys) (hb : Below w0.heap.size w0 W1) (hg : W.grownBy W1 vo.ownBlock) : SyX w0 gb r cr m (ys, s.2) vo' (W1.setCell ⟨gb, 0, none⟩ vo') := by
 have bb : W1.heap[gb]? = _ := (hg.block gb (zcp h.bb) (fun e => (h.out.1 gb e.symm).1 rfl)).trans h.bb
 exact ⟨hb.setCell (p := ⟨gb, 0, none⟩) h.lo _, by simpa using zas bb 0 vo', h.lo, Kd.R_far hR (p := ⟨gb, 0, none⟩) (fun k hk => hk.1) _, h.rne, Kd.R_far (Kd.R_grown h.nam hg (fun k hk e => (h.out.1 k e.symm).2 hk)) (p := ⟨gb, 0, none⟩) (fun k hk => by rw [hk]; exact h.rne) _⟩
end
set_option maxHeartbeats 4000000 in
set_option maxRecDepth 100000 in
theorem zjv {w0 : World} {gb r cr m : Nat} (s : List S72 × List Int) (vo : Value) (W : World) (hX : SyX w0 gb r cr m s vo W) (n0 : ByteArray) (n1 n2 n3 : Int) (hl : s.1.length < 1048576) :
   Calls Try.prog 115 #[.agg #[.string n0, .int .i64 n1, .int .i64 n2, .int .i64 n3], .pointer (some ⟨gb, 0, none⟩)] W fun x W' => ∃ vo', x = .returned (.int .i64 s.1.length) ∧ SyX w0 gb r cr m (s.1 ++ [(⟨n0, n1, n2, n3⟩ : S72)], s.2) vo' W' ∧ ShFr gb r vo W vo' W' := by
 obtain ⟨Ao, co, rfl⟩ := Kd.R_slice hX.out
 have q0 := zaf hX.bb 0
 have HX := zA hX
 clear hX
 go_enter Try.func115, Try.ntmps115
 go_wp2_with (first
   | ((with_reducible refine zar (N := 2) rfl ?_); refine zat ?hg (N := 2) ?hd (cs := #[.string n0, .int .i64 n1, .int .i64 n2, .int .i64 n3]) (t := 72) ?hr ?_; (case hd => rfl); (case hg => rfl); (case hr => go_simp <;> rfl); intro g hg w4 hbox hb; have HX4 := zA (HX.out.step hb); have HG := zA hbox; have HGE := zA (Nat.le_of_eq hg.symm); have HB4 := zA hb; have q0 := zaf HX4.out.bb 0; have y0 := zaf hbox 0; have y1 := zaf hbox 1; have y2 := zaf hbox 2; have y3 := zaf hbox 3; clear hg hbox hb)
   | ((with_reducible refine zf1 (b := .append) (xs := #[.tmp 4, .tmp 6]) rfl ?_); at_builtin; refine Kd.R_append k72 (w0 := w0) w0.heap.size rfl (.tmp 4) (.tmp 6) 24 72 (.agg #[(.string ⟨#[]⟩), (.int .i64 0), (.int .i64 0), (.int .i64 0)]) 40 rfl Try.underlying24 znb rfl (by decide) (by omega) (.slice Ao s.1.length co) s.1 (⟨n0, n1, n2, n3⟩ : S72) [.string n0, .int .i64 n1, .int .i64 n2, .int .i64 n3] (fun k => k ≠ gb ∧ k ≠ r) (fun _ => False) rfl ?aX (zfr _ _ _ (⟨n0, n1, n2, n3⟩ : S72)) (fun _ hk => hk.elim) ?aF ?aO ?aB ?aS ?aL ?_; (case aX => rfl); (case aO => exact HX4.out.out); (case aB => exact HX4.out.below); (case aS => exact HX4.out.below.size); (case aF => (have a1 := zcp HX4.out.bb; have a2 := Kd.R_lt HX4.out.nam r rfl; exact fun k hk => ⟨by omega, by omega⟩)); (case aL => omega); intro v1 w10 ho hb hg hat; obtain ⟨A1, c1', e1⟩ := Kd.R_slice ho; rw [List.length_append, List.length_singleton] at e1; subst e1; have t1 : w10.heap[gb]? = _ := (hg.block gb (zcp HX4.out.bb) (fun e => (HX4.out.out.1 gb e.symm).1 rfl)).trans HX4.out.bb; have HX5 := zA (HX4.out.append ho hb hg); have HF5 := zA (((ShFr.refl gb r (.slice Ao s.1.length co) W).step HB4.out).append hg hat); have t2 := zaf t1 0; have t3 := zbu t1 0; have t4 := zaf HX5.out.bb 0; clear t1 ho hb hg hat))
 go_ret
 exact ⟨_, rfl, HX5.out, HF5.out⟩
theorem SyX.grow {w0 : World} {gb r cr m : Nat} {s : List S72 × List Int} {vo : Value} {W W1 : World} (h : SyX w0 gb r cr m s vo W) {v1 : Value} {ys : List Int} (hR : Kd.R (Kd.int .i64) 3 W1 w0.heap.size (fun k => k = r ∨ W.heap.size ≤ k) v1 ys) (hn : 0 < ys.length) (hb : Below w0.heap.size w0 W1) (hg : W.grownBy W1 (some r)) :
   ∃ r' cr', v1 = .slice (some ⟨r', 0, none⟩) ys.length cr' ∧ SyX w0 gb r' cr' ys.length (s.1, ys) vo W1 := by
 obtain ⟨r', cr', e, _⟩ := Kd.R_form hR hn
 have hr : r' = r ∨ W.heap.size ≤ r' := hR.1 r' (by rw [e]; rfl)
 have hbl := zcp h.bb
 have hne := h.rne
 refine ⟨r', cr', e, hb, (hg.block gb hbl (fun e => hne (by simpa using e.symm))).trans h.bb, h.lo, ?_, by omega, ?_⟩
 · refine Kd.R_mono (Kd.R_step (Kd.R_bound h.out) (fun k hk hl => hg.block k hl (fun e => hk.1.2 (by simpa using e)))) (fun k hk => ⟨hk.1.1, ?_⟩)
   have := hk.1.2
   have := hk.2.2.1
   omega
 · rw [← e]
   exact Kd.R_of_own (Kd.own_of_R hR) (fun k hk => by rw [e] at hk; simpa [Value.ownBlock] using hk.symm)
theorem ShFr.box {gb r : Nat} {vo vo' : Value} {W W' : World} (h : ShFr gb r vo W vo' W') {g : Nat} {o : Obj} (hb : W.heap[g]? = some o) (h1 : g ≠ r) (h2 : g ≠ gb) (h3 : some g ≠ vo.ownBlock) : W'.heap[g]? = some o ∧ some g ≠ vo'.ownBlock := by
 refine ⟨(h.keep g (zcp hb) h1 h2 h3).trans hb, fun e => ?_⟩
 rcases h.own g e.symm with q | q
 · exact h3 q.symm
 · have := zcp hb
   omega
structure SyV (w0 : World) (gb r cr gx gf : Nat) (x : S94) (q1 q2 : Bool) (q3 q4 q5 : Int) (q6 : ByteArray) (s : List S72 × List Int) (vo : Value) (W : World) : Prop where
 sx : SyX w0 gb r cr 6 s vo W
 bx : W.heap[gx]? = some (.cells #[.string x.f0, .int .i64 x.f1, .int .i64 x.f2, .int .i64 x.f3, .int .i64 x.f4] 94 (0, 0))
 bf : W.heap[gf]? = some (.cells #[.bool q1, .bool q2, .int .i64 q3, .int .i64 q4, .int .i64 q5, .string q6] 130 (0, 0))
 nx : some gx ≠ vo.ownBlock
 nf : some gf ≠ vo.ownBlock
def SyA (w0 : World) (gb r cr gx gf : Nat) (x : S94) (q1 q2 : Bool) (q3 q4 q5 : Int) (q6 : ByteArray) (s : List S72 × List Int) (W : World) : Prop := ∃ vo, SyV w0 gb r cr gx gf x q1 q2 q3 q4 q5 q6 s vo W
section
variable {w0 : World} {gb r cr gx gf : Nat} {x : S94} {q1 q2 : Bool} {q3 q4 q5 : Int} {q6 : ByteArray} {s : List S72 × List Int} {W W1 : World}
theorem SyA.bx (h : SyA w0 gb r cr gx gf x q1 q2 q3 q4 q5 q6 s W) : W.heap[gx]? = some (.cells #[.string x.f0, .int .i64 x.f1, .int .i64 x.f2, .int .i64 x.f3, .int .i64 x.f4] 94 (0, 0)) := h.choose_spec.bx
theorem SyA.bf (h : SyA w0 gb r cr gx gf x q1 q2 q3 q4 q5 q6 s W) : W.heap[gf]? = some (.cells #[.bool q1, .bool q2, .int .i64 q3, .int .i64 q4, .int .i64 q5, .string q6] 130 (0, 0)) := h.choose_spec.bf
theorem SyA.nam (h : SyA w0 gb r cr gx gf x q1 q2 q3 q4 q5 q6 s W) : Kd.R (Kd.int .i64) 3 W w0.heap.size (fun k => k = r) (.slice (some ⟨r, 0, none⟩) 6 cr) s.2 := h.choose_spec.sx.nam
theorem SyA.step (h : SyA w0 gb r cr gx gf x q1 q2 q3 q4 q5 q6 s W) (hb : Below W.heap.size W W1) : SyA w0 gb r cr gx gf x q1 q2 q3 q4 q5 q6 s W1 := by
 obtain ⟨vo, h⟩ := h
 exact ⟨vo, h.sx.step hb, zaj h.bx hb, zaj h.bf hb, h.nx, h.nf⟩
theorem zmn (h : SyA w0 gb r cr gx gf x q1 q2 q3 q4 q5 q6 s W) (h1 : gb < gx) (h2 : r < gx) (h3 : gb < gf) (h4 : r < gf) (n0 : ByteArray) (n1 n2 n3 : Int) (hl : s.1.length < 1048576) :
   Calls Try.prog 115 #[.agg #[.string n0, .int .i64 n1, .int .i64 n2, .int .i64 n3], .pointer (some ⟨gb, 0, none⟩)] W fun e W' => e = .returned (.int .i64 s.1.length) ∧ SyA w0 gb r cr gx gf x q1 q2 q3 q4 q5 q6 (s.1 ++ [(⟨n0, n1, n2, n3⟩ : S72)], s.2) W' := by
 obtain ⟨vo, h⟩ := h
 refine (zjv s vo W h.sx n0 n1 n2 n3 hl).mono ?_
 rintro e W' ⟨vo', rfl, hX, hF⟩
 obtain ⟨b1, b2⟩ := hF.box h.bx (by omega) (by omega) h.nx
 obtain ⟨b3, b4⟩ := hF.box h.bf (by omega) (by omega) h.nf
 exact ⟨rfl, vo', hX, b1, b3, b2, b4⟩
end
def syIni : List S72 := [⟨⟨#[105, 110]⟩, 0, 0, 0⟩, ⟨⟨#[105, 110]⟩, 0, 0, 1⟩]
def syU (u : Nat) : List S72 × List Int := (syIni ++ List.replicate (u - 2) ⟨⟨#[99, 111, 110, 115, 116]⟩, 0, 0, 0⟩, (List.range u).map fun (j : Nat) => (j : Int))
theorem zsc (u : Nat) (h : 2 ≤ u) : ((syU u).1 ++ [(⟨⟨#[99, 111, 110, 115, 116]⟩, 0, 0, 0⟩ : S72)], (syU u).2 ++ [((syU u).1.length : Int)]) = syU (u + 1) := by
 unfold syU
 have e : u + 1 - 2 = (u - 2) + 1 := by omega
 have l : (syIni ++ List.replicate (u - 2) (⟨⟨#[99, 111, 110, 115, 116]⟩, 0, 0, 0⟩ : S72)).length = u := by simp [syIni]; omega
 simp only [l, List.append_assoc]
 rw [e, List.replicate_succ', List.range_succ, List.map_append]
 rfl
theorem zns (u : Nat) (h : 2 ≤ u) : (syU u).1.length = u ∧ (syU u).2.length = u := by
 unfold syU
 simp [syIni]
 omega
def syDo (x : S94) (t : Bool × Bool × Int × Int × Int × ByteArray × Bool) (s : List S72 × List Int) : List S72 × List Int :=
 let n1 := if t.2.2.1 ≤ t.2.2.2.1 then s.1 ++ [(⟨⟨#[99, 111, 110, 115, 116]⟩, 0, 0, x.f4⟩ : S72)] else s.1
 let c : Int := if t.2.2.1 ≤ t.2.2.2.1 then s.1.length else -1
 if x.f0.toList = ([115, 101, 116] : List UInt8) then (n1, s.2.set x.f1.toNat c)
 else if x.f0.toList = ([109, 111, 118] : List UInt8) then (n1, s.2.set x.f1.toNat (rd s.2 x.f2))
 else if x.f0.toList = ([108, 101, 97] : List UInt8) then (n1 ++ [(⟨⟨#[115, 104, 108]⟩, rd s.2 x.f3, c, 0⟩ : S72)] ++ [(⟨⟨#[97, 100, 100]⟩, rd s.2 x.f2, n1.length, 0⟩ : S72)], s.2.set x.f1.toNat ((n1 ++ [(⟨⟨#[115, 104, 108]⟩, rd s.2 x.f3, c, 0⟩ : S72)]).length : Int))
 else if t.2.2.1 ≤ t.2.2.2.1 then (n1 ++ [(⟨t.2.2.2.2.2.1, rd s.2 x.f2, c, 0⟩ : S72)], s.2.set x.f1.toNat n1.length)
 else if t.2.1 = true then (n1 ++ [(⟨t.2.2.2.2.2.1, rd s.2 x.f2, rd s.2 x.f3, 0⟩ : S72)], s.2.set x.f1.toNat n1.length)
 else (n1 ++ [(⟨t.2.2.2.2.2.1, rd s.2 x.f2, 0, 0⟩ : S72)], s.2.set x.f1.toNat n1.length)
def syOk (x : S94) (s : List S72 × List Int) : Prop := (0 ≤ x.f1 ∧ x.f1 < 6) ∧ (0 ≤ x.f2 ∧ x.f2 < 6) ∧ (0 ≤ x.f3 ∧ x.f3 < 6) ∧ s.1.length < 1000000 ∧ s.2.length = 6
instance (x : S94) (s : List S72 × List Int) : Decidable (syOk x s) := by unfold syOk; infer_instance
def syL : List S94 → List S72 × List Int → Option (List S72 × List Int)
 | [], s => some s
 | x :: xs, s => if syOk x s then (zf7 x.f0).bind fun t => syL xs (syDo x t s) else none
def zdm (k : Nat) (l0 : List S94) (a1 : Int) : Option (List S72 × Bool) := if l0.length < 1048576 ∧ 0 ≤ a1 ∧ a1 < 6 then (syL l0 (syU 6)).bind fun s => if s.2.length = 6 then (zfy k s.1 (rd s.2 a1)).bind fun e => (ze4 k e).bind fun o => (ze5 k o).bind fun b => some (o, b) else none else none
set_option maxHeartbeats 4000000 in
set_option maxRecDepth 100000 in
theorem zie (k : Nat) (A0 : Option Addr) (c0 : Nat) (l0 : List S94) (a1 : Int) (r1 : List S72) (r2 : Bool) (w : World) (hr0 : Kd.C k94 w A0 l0.length l0) (hc0 : l0.length ≤ c0) (h : zdm k l0 a1 = some (r1, r2)) :
   Calls Try.prog 70 #[.slice A0 l0.length c0, .int .i64 a1] w fun e w' => ∃ v0_ : Value, e = .returned (.tuple #[v0_, .bool r2]) ∧ Kd.R k72 72 w' w.heap.size (fun _ => True) v0_ r1 ∧ Below w.heap.size w w' := by
 unfold zdm at h
 by_cases hl : l0.length < 1048576 ∧ 0 ≤ a1 ∧ a1 < 6
 rotate_left
 · rw [if_neg hl] at h
   cases h
 rw [if_pos hl] at h
 obtain ⟨hl1, hl2, hl3⟩ := hl
 obtain ⟨sE, hsE, h⟩ := Option.bind_eq_some_iff.1 h
 by_cases hsl : sE.2.length = 6
 rotate_left
 · rw [if_neg hsl] at h
   cases h
 rw [if_pos hsl] at h
 obtain ⟨e1, he1, h⟩ := Option.bind_eq_some_iff.1 h
 obtain ⟨o1, ho1, h⟩ := Option.bind_eq_some_iff.1 h
 obtain ⟨b1, hb1, h⟩ := Option.bind_eq_some_iff.1 h
 have HH := zA (zsi h)
 have HSE := zA hsE
 have HSL := zA hsl
 have HE1 := zA he1
 have HO1 := zA ho1
 have HB1 := zA hb1
 have HR := zA hr0
 have HC := zA hc0
 clear h hsE hsl he1 ho1 hb1 hr0 hc0
 go_enter Try.func70, Try.ntmps70
 go_wp2_with (first
   | ((with_reducible refine zar (N := 17) rfl ?_); refine Kd.R_lit k72 w.heap.size 72 ?hg (N := 17) ?hd (w0 := w) (xs := syIni) (inner := [.string ⟨#[105, 110]⟩, .int .i64 0, .int .i64 0, .int .i64 0, .string ⟨#[105, 110]⟩, .int .i64 0, .int .i64 0, .int .i64 1]) (ok := fun _ => True) (okp := fun _ => True) ?hr ?hp (fun _ hk => hk) trivial (Below.refl _ _) (zlr _) (by simp [syIni]) ?_; (case hd => rfl); (case hg => rfl); (case hr => go_simp <;> rfl); (case hp => exact (zmx (zfr _ _ _ (⟨⟨#[105, 110]⟩, 0, 0, 0⟩ : S72)) (zmx (zfr _ _ _ (⟨⟨#[105, 110]⟩, 0, 0, 1⟩ : S72)) (Reps.none _ _)))); intro vn w3 hn hb hg_ hnew; obtain ⟨An, cn, rfl⟩ := Kd.R_slice hn; have HVN := zA hn; have HB3 := zA hb; clear hn hb hg_ hnew)
   | ((with_reducible refine zar (N := 18) rfl ?_); refine Kd.R_lit (Kd.int .i64) w.heap.size 3 ?hg (N := 18) ?hd (w0 := w) (xs := [0, 1]) (inner := [.int .i64 0, .int .i64 1]) (ok := fun k => w3.heap.size ≤ k) (okp := fun _ => False) ?hr ?hp (fun _ hk => hk.elim) (zlr _) HB3.out HB3.out.size (by simp) ?_; (case hd => rfl); (case hg => rfl); (case hr => go_simp <;> rfl); (case hp => exact (zcb (show Kd.M (Kd.int .i64) _ _ _ (0 : Int) [.int .i64 0] from rfl) (zcb (show Kd.M (Kd.int .i64) _ _ _ (1 : Int) [.int .i64 1] from rfl) (Reps.none _ _)))); intro va w4 ha hb hg_ hnew; obtain ⟨ra, ca, ea, ha0, ha1, _⟩ := Kd.R_form ha (by decide); subst ea; have HRA := zA (ha.1 ra rfl); have HVN4 := zA (Kd.R_mono (Kd.R_grown (Kd.R_bound HVN.out) hg_ (fun _ _ e => by cases e)) (fun k hk => (show k < w3.heap.size from hk.2.2.1))); have HVA := zA (show Kd.R (Kd.int .i64) 3 w4 w.heap.size (fun k => k = ra) (.slice (some ⟨ra, 0, none⟩) 2 ca) [0, 1] from Kd.R_of_own (Kd.own_of_R ha) (fun k hk => by simpa [Value.ownBlock] using hk.symm)); have HB4 := zA hb; have HLA := zA ha1; clear ha hb hg_ hnew HVN ha0 ha1)
   | ((with_reducible refine zar (N := 6) rfl ?_); refine zat ?hg (N := 6) ?hd (cs := #[.slice none 0 0]) (t := 24) ?hr ?_; (case hd => rfl); (case hg => rfl); (case hr => go_simp <;> rfl); intro gb hgb w5 hbox hb; have HGB := zA hgb; have BB := zA hbox; have HB5 := zA hb; clear hgb hbox hb)
   | ((with_reducible refine zbk (t := 24) (p := 6) rfl ?_); refine zid rfl (t := 24) (p := 6) rfl rfl (g := gb) (u := .slice An syIni.length cn) (seg := [.slice An syIni.length cn]) rfl rfl BB.out rfl rfl rfl (by simp [Value.oneCell']) ?_; intro w6 hbb hbw hfar; have HX0 := zA (show SyX w gb ra ca 2 (syU 2) (.slice An syIni.length cn) w6 from ⟨zag HB4.out (HB5.out.trans (hbw _ (Nat.le_of_eq HGB.out.symm))), hbb, by have := HB4.out.size; have := HGB.out; omega, ?sN, by have := HLA.out; have := HGB.out; omega, ?sA⟩); (case sN => exact Kd.R_mono (zRb HVN4.out (HB5.out.trans (hbw _ (Nat.le_of_eq HGB.out.symm)))) (fun k hk => by have := HRA.out; have := HLA.out; have := HGB.out; omega)); (case sA => exact zRb HVA.out (HB5.out.trans (hbw _ (Nat.le_of_eq HGB.out.symm)))); clear hbb hbw hfar HVN4 HVA HB3 HB4 HB5 BB HGB))
 go_loopw [7] (fun v7 wr => ∃ (u r' c' : Nat) (vo : Value), v7 = .slice (some ⟨r', 0, none⟩) u c' ∧ 2 ≤ u ∧ u ≤ 6 ∧ Aside0 (SyX w gb r' c' u (syU u) vo wr)) (fun v7 _ => match v7 with | .slice _ n _ => 6 - n | _ => 0)
 case atStart => exact ⟨2, ra, ca, _, rfl, zlr _, by omega, HX0⟩
 clear HX0 HRA HLA
 obtain ⟨u, r', c', vo, rfl, hu2, hu6, HX⟩ := hrel
 by_cases hlt : u < 6
 · have d1 : decide ((u : Int) < 6) = true := zdt (by omega)
   have HUL := zA (zns u hu2)
   go_wp2_with fail
   refine (zjv (syU u) vo wr HX.out ⟨#[99, 111, 110, 115, 116]⟩ 0 0 0 (by have := HUL.out; omega)).mono ?_
   rintro x w8 ⟨vo', rfl, hX8, _⟩
   have HX8 := zA hX8
   clear hX8
   go_wp2_with ((with_reducible refine zf1 (b := .append) (xs := #[.tmp 23, .tmp 27]) rfl ?_); at_builtin; refine Kd.R_append (Kd.int .i64) (w0 := w) w.heap.size rfl (.tmp 23) (.tmp 27) 51 3 (.int .i64 0) 8 rfl Try.underlying51 zlp rfl (by decide) (by decide) (.slice (some ⟨r', 0, none⟩) u c') (syU u).2 ((syU u).1.length : Int) [.int .i64 (syU u).1.length] (fun k => k = r' ∨ w8.heap.size ≤ k) (fun _ => False) rfl rfl (show Kd.M (Kd.int .i64) _ _ _ ((syU u).1.length : Int) [.int .i64 (syU u).1.length] from rfl) (fun _ hk => hk.elim) (fun k hk => .inr hk) (Kd.R_mono HX8.out.nam (fun k hk => .inl hk)) HX8.out.below HX8.out.below.size (by have := HUL.out; omega) ?_; intro v1 w10 ho hb hg hat; obtain ⟨r2, c2, e2, hX9⟩ := HX8.out.grow (W1 := w10) (Kd.R_mono ho (fun k hk => hk)) (by simp) hb hg; have hlu : ((syU u).2 ++ [((syU u).1.length : Int)]).length = u + 1 := (by have := HUL.out; simp; omega); have hsu := zsc u hu2; simp only at hX9 hsu; rw [hsu, hlu] at hX9; rw [hlu] at e2; subst e2; have HX9 := zA hX9; clear ho hb hg hat hX9 hlu hsu HX8)
   go_roundw
   case rel => exact ⟨u + 1, r2, c2, vo', rfl, by omega, by omega, HX9⟩
   case measure => simp; omega
 obtain rfl : u = 6 := by omega
 have d1 : decide (((6 : Nat) : Int) < 6) = false := zdf (by omega)
 go_wp2_with fail
 go_loopw [31] (fun v31 wq => ∃ (u : Nat) (s : List S72 × List Int) (vo : Value), v31 = .int .i64 (u : Int) ∧ u ≤ l0.length ∧ Aside0 (SyX w gb r' c' 6 s vo wq) ∧ Aside0 (syL (l0.drop u) s = some sE)) (fun v31 _ => l0.length - (intOf v31).toNat)
 case atStart => exact ⟨0, _, _, rfl, Nat.zero_le _, HX, ⟨by rw [List.drop_zero]; exact HSE.out⟩⟩
 clear HX HSE
 obtain ⟨u, s, vo, rfl, hu, HX, HS⟩ := hrel
 by_cases hlt : u < l0.length
 rotate_left
 · obtain rfl : u = l0.length := by omega
   have d1 : decide ((l0.length : Int) < l0.length) = false := zdf (by omega)
   have hs := HS.out
   rw [List.drop_length] at hs
   obtain rfl := zsi hs
   clear hs HS
   go_wp2_with fail
   obtain ⟨Ao, co, eo⟩ := Kd.R_slice HX.out.out
   have EO := zA eo
   clear eo
   refine zic [[], [], [], [1, 2], [1, 2, 3], [0, 1, 2, 3, 4], [0, 1, 2, 3, 4, 5], [0, 1, 2, 3, 4, 5, 6]] [[5, 6, 7], [3, 4, 5, 6, 7], [3, 4, 5, 6, 7], [4, 5, 6, 7], [5, 6, 7], [6, 7], [7], []]
     (fun L s_ V => Below wr.heap.size wr V ∧ (L 0 = true → s_ 0 = .slice Ao s.1.length co) ∧ (L 1 = true → s_ 1 = .slice (some ⟨r', 0, none⟩) 6 c') ∧ (L 2 = true → s_ 2 = .int .i64 a1) ∧ (L 3 = true → s_ 3 = .pointer (some ⟨r', a1.toNat, none⟩)) ∧ (L 4 = true → s_ 4 = .int .i64 (rd s.2 a1)) ∧
       (L 5 = true → Kd.R k72 72 V w.heap.size (fun _ => True) (s_ 5) e1) ∧ (L 6 = true → Kd.R k72 72 V w.heap.size (fun _ => True) (s_ 6) o1) ∧ (L 7 = true → s_ 7 = s_ 6))
     rfl (fun _ _ _ _ _ h => h) (by kernel_rfl) ?_ ⟨?_, ?_, ?_, ?_, ?_, ?_, ?_, ?_, trivial⟩ ?_
   · exact ⟨zee (Below.refl _ _), (fun h => Bool.noConfusion h), (fun h => Bool.noConfusion h), (fun h => Bool.noConfusion h), (fun h => Bool.noConfusion h), (fun h => Bool.noConfusion h), (fun h => Bool.noConfusion h), (fun h => Bool.noConfusion h), (fun h => Bool.noConfusion h)⟩
   · rintro L s_ V hu hd hn ⟨hB, g0, g1, g2, g3, g4, g5, g6, g7⟩ K hK
     have hc := zaf (HX.out.step hB).bb 0
     rw [EO.out] at hc
     refine zd0 (N := some 150) (v := .slice Ao s.1.length co) (w1 := V) (by rfl) rfl ?_ (hK _ _ ⟨hB, fun _ => rfl, g1, g2, g3, g4, g5, g6, g7⟩)
     simp only [zap, riGo, zb2, zby, zc3, zdl, Nat.reduceBEq, Nat.reduceAdd, List.headD, List.tail, List.getD, List.getElem?_cons_zero, List.getElem?_cons_succ, Option.getD_some, cond_true, cond_false]
     go_simp
   · rintro L s_ V hu hd hn ⟨hB, g0, g1, g2, g3, g4, g5, g6, g7⟩ K hK
     refine zd0 (N := some 151) (v := .slice (some ⟨r', 0, none⟩) 6 c') (w1 := V) (by rfl) rfl ?_ (hK _ _ ⟨hB, g0, fun _ => rfl, g2, g3, g4, g5, g6, g7⟩)
     simp only [zap, riGo, zb2, zby, zc3, zdl, Nat.reduceBEq, Nat.reduceAdd, List.headD, List.tail, List.getD, List.getElem?_cons_zero, List.getElem?_cons_succ, Option.getD_some, cond_true, cond_false]
     go_simp
   · rintro L s_ V hu hd hn ⟨hB, g0, g1, g2, g3, g4, g5, g6, g7⟩ K hK
     refine zd0 (N := some 152) (v := .int .i64 a1) (w1 := V) (by rfl) rfl ?_ (hK _ _ ⟨hB, g0, g1, fun _ => rfl, g3, g4, g5, g6, g7⟩)
     simp only [zap, riGo, zb2, zby, zc3, zdl, Nat.reduceBEq, Nat.reduceAdd, List.headD, List.tail, List.getD, List.getElem?_cons_zero, List.getElem?_cons_succ, Option.getD_some, cond_true, cond_false]
     go_simp
   · rintro L s_ V hu hd hn ⟨hB, g0, g1, g2, g3, g4, g5, g6, g7⟩ K hK
     have e1_ := g1 hd.1
     have e2_ := g2 hd.2
     refine zd0 (N := some 153) (v := .pointer (some ⟨r', a1.toNat, none⟩)) (w1 := V) (by rfl) rfl ?_ (hK _ _ ⟨hB, g0, g1, g2, fun _ => rfl, g4, g5, g6, g7⟩)
     simp only [zap, riGo, zb2, zby, zc3, zdl, Nat.reduceBEq, Nat.reduceAdd, List.headD, List.tail, List.getD, List.getElem?_cons_zero, List.getElem?_cons_succ, Option.getD_some, cond_true, cond_false]
     rw [e1_, e2_]
     go_simp
   · rintro L s_ V hu hd hn ⟨hB, g0, g1, g2, g3, g4, g5, g6, g7⟩ K hK
     have e3_ := g3 hd.2.2
     obtain ⟨y, _⟩ := Kd.R_celln 0 (HX.out.step hB).nam a1 hl2 hl3
     change V.cell? _ = some (.int .i64 (rd s.2 a1)) at y
     refine zd0 (N := some 154) (v := .int .i64 (rd s.2 a1)) (w1 := V) (by rfl) rfl ?_ (hK _ _ ⟨hB, g0, g1, g2, g3, fun _ => rfl, g5, g6, g7⟩)
     simp only [zap, riGo, zb2, zby, zc3, zdl, Nat.reduceBEq, Nat.reduceAdd, List.headD, List.tail, List.getD, List.getElem?_cons_zero, List.getElem?_cons_succ, Option.getD_some, cond_true, cond_false]
     rw [e3_]
     go_simp
   · rintro L s_ V hu hd hn ⟨hB, g0, g1, g2, g3, g4, g5, g6, g7⟩ K hK
     have e0_ := g0 hd.1
     have e4_ := g4 hd.2.2.2.2
     have hCo := zRr (by have := (HX.out.step hB).out; rw [EO.out] at this; exact this)
     have e04 : (#[s_ 0, s_ 4] : Array Value) = #[.slice Ao s.1.length co, .int .i64 (rd s.2 a1)] := by rw [e0_, e4_]
     refine zku Try.func118 (by kernel_rfl) rfl #[.slice Ao s.1.length co, .int .i64 (rd s.2 a1)] (by rfl) rfl rfl (by simp only [List.map_toArray, List.map_cons, List.map_nil]; exact e04) ?_
     refine (zml k Ao co s.1 (rd s.2 a1) e1 V hCo.2.2 hCo.2.1 HE1.out).mono ?_
     rintro x w4 ⟨v5, rfl, hv5, hb5⟩
     exact ⟨_, rfl, hK _ _ ⟨zag hB hb5, g0, g1, g2, g3, g4, fun _ => Kd.R_lower hv5 (Nat.le_trans HX.out.below.size hB.size), fun h => absurd (h.symm.trans hn.1) (by simp), fun h => absurd (h.symm.trans hn.2) (by simp)⟩⟩
   · rintro L s_ V hu hd hn ⟨hB, g0, g1, g2, g3, g4, g5, g6, g7⟩ K hK
     have h5 := g5 hd.2.2.2.2.2
     obtain ⟨A5, c5, e5_⟩ := Kd.R_slice h5
     rw [e5_] at h5
     have hC5 := zRr h5
     have e55 : (#[s_ 5] : Array Value) = #[.slice A5 e1.length c5] := by rw [e5_]
     refine zku Try.func101 (by kernel_rfl) rfl #[.slice A5 e1.length c5] (by rfl) rfl rfl (by simp only [List.map_toArray, List.map_cons, List.map_nil]; exact e55) ?_
     refine (zlw k A5 c5 e1 o1 V hC5.2.2 hC5.2.1 HO1.out).mono ?_
     rintro x w4 ⟨v6, rfl, hv6, hb6⟩
     exact ⟨_, rfl, hK _ _ ⟨zag hB hb6, g0, g1, g2, g3, g4, fun h => zRb (g5 h) hb6, fun _ => Kd.R_lower hv6 (Nat.le_trans HX.out.below.size hB.size), fun h => absurd (h.symm.trans hn) (by simp)⟩⟩
   · rintro L s_ V hu hd hn ⟨hB, g0, g1, g2, g3, g4, g5, g6, g7⟩ K hK
     refine zd0 (N := some 14) (v := s_ 6) (w1 := V) (by rfl) rfl ?_ (hK _ _ ⟨hB, g0, g1, g2, g3, g4, g5, g6, fun _ => rfl⟩)
     simp only [zap, riGo, zb2, zby, zc3, zdl, Nat.reduceBEq, Nat.reduceAdd, List.headD, List.tail, List.getD, List.getElem?_cons_zero, List.getElem?_cons_succ, Option.getD_some, cond_true, cond_false]
     go_simp
   · rintro L s_ V hL ⟨hB, g0, g1, g2, g3, g4, g5, g6, g7⟩
     have h6 := g6 (hL 6 rfl)
     have e7_ := g7 (hL 7 rfl)
     obtain ⟨A6, c6, e6_⟩ := Kd.R_slice h6
     rw [e6_] at h6
     have HV6 := zA h6
     have HBV := zA (zag HX.out.below hB)
     clear h6 hB g0 g1 g2 g3 g4 g5 g6 g7
     simp only [zap, riGo, zb2, zby, zc3, zdl, Nat.reduceBEq, Nat.reduceAdd, List.headD, List.tail, List.getD, List.getElem?_cons_zero, List.getElem?_cons_succ, Option.getD_some, cond_true, cond_false]
     rw [e7_, e6_]
     clear e6_ e7_
     go_wp2_with (go_at_call 46; go_must (have hC6 := zRr HV6.out; refine (zk7 k A6 c6 o1 b1 V hC6.2.2 hC6.2.1 HB1.out).mono ?_; rintro e w13 ⟨rfl, hb⟩; have HV7 := zA (zRb HV6.out hb); have HB7 := zA (zag HBV.out hb); clear hb hC6))
     go_ret2
     obtain ⟨rfl, rfl⟩ := Prod.mk.inj HH.out
     exact ⟨_, rfl, HV7.out, HB7.out⟩
 have d1 : decide ((u : Int) < l0.length) = true := zdt (by omega)
 have d2 : (0 : Int) ≤ (u : Int) := by omega
 have d3 : (u : Int) < l0.length := by omega
 have hs := HS.out
 obtain ⟨x, hx⟩ : ∃ x, x = zaa l0 (u : Int) := ⟨_, rfl⟩
 have hdr : l0.drop u = x :: l0.drop (u + 1) := by
   rw [List.drop_eq_getElem_cons hlt, hx]
   unfold zaa
   rw [Int.toNat_natCast, List.getD_eq_getElem?_getD, List.getElem?_eq_getElem hlt]
   rfl
 rw [hdr] at hs
 unfold syL at hs
 by_cases hok : syOk x s
 rotate_left
 · rw [if_neg hok] at hs
   cases hs
 rw [if_pos hok] at hs
 obtain ⟨⟨q1, q2, q3, q4, q5, q6, q7⟩, hq, hs⟩ := Option.bind_eq_some_iff.1 hs
 obtain ⟨adx, eA, x0, x1, x2, x3, x4⟩ := ziv (zCb HR.out HX.out.below) (u : Int) d2 d3
 rw [Int.toNat_natCast] at x0 x1 x2 x3 x4
 rw [← hx] at x0 x1 x2 x3 x4
 subst eA
 obtain ⟨bi, hbi⟩ : ∃ b : Bool, b = decide (q3 ≤ q4) := ⟨_, rfl⟩
 have HBI := zA hbi
 have HQ := zA hq
 have HS1 := zA hs
 have HOK := zA hok
 clear hs hq hok hdr hx HS hbi
 go_upto_if 42 with (first
   | ((with_reducible refine zar (N := 10) rfl ?_); refine zat ?hg (N := 10) ?hd (cs := #[.string ⟨#[]⟩, .int .i64 0, .int .i64 0, .int .i64 0, .int .i64 0]) (t := 94) ?hr ?_; (case hd => rfl); (case hg => rfl); (case hr => go_simp <;> rfl); intro gx hgx w5 hbx hb5; have HGX := zA hgx; have BX := zA hbx; have HB5 := zA hb5; clear hgx hbx hb5)
   | ((with_reducible refine zbk (t := 94) (p := 10) rfl ?_); go_must (refine zid rfl (t := 94) (p := 10) rfl rfl (g := gx) (u := .agg #[.string x.f0, .int .i64 x.f1, .int .i64 x.f2, .int .i64 x.f3, .int .i64 x.f4]) (seg := [.string x.f0, .int .i64 x.f1, .int .i64 x.f2, .int .i64 x.f3, .int .i64 x.f4]) rfl rfl BX.out rfl rfl rfl (by simp [Value.oneCell']) ?_; intro w6 hbb hbw hfar; have HBW := zA (HB5.out.trans (hbw _ (Nat.le_of_eq HGX.out.symm))); have HX6 := zA (HX.out.step HBW.out); have BX6 := zA hbb; have y0 := zaf hbb 0; have NX := zA (show some gx ≠ vo.ownBlock from fun e => by have h1 := Kd.R_lt HX.out.out gx e.symm; have h2 := HGX.out; omega); have NE := zA (show gb < gx ∧ r' < gx from by have h1 := zcp HX.out.bb; have h2 := Kd.R_lt HX.out.nam r' rfl; have h3 := HGX.out; omega); have HGX6 := zA (show w.heap.size ≤ gx from by have h2 := HGX.out; have h3 := HX.out.below.size; omega); clear hbb hbw hfar BX HB5 x0 x1 x2 x3 x4))
   | (go_at_call 116; go_must (refine (zh8 x.f0 q1 q2 q3 q4 q5 q6 q7 _ HQ.out).mono ?_; rintro e w7 ⟨rfl, hb⟩; have HX7 := zA (HX6.out.step hb); have BX7 := zA (zaj BX6.out hb); have HB7 := zA hb; clear hb y0))
   | ((with_reducible refine zar (N := 11) rfl ?_); refine zat ?hg (N := 11) ?hd (cs := #[.bool false, .bool false, .int .i64 0, .int .i64 0, .int .i64 0, .string ⟨#[]⟩]) (t := 130) ?hr ?_; (case hd => rfl); (case hg => rfl); (case hr => go_simp <;> rfl); intro gf hgf w8 hbf hb8; have HGF := zA hgf; have BF := zA hbf; have HB8 := zA hb8; clear hgf hbf hb8)
   | ((with_reducible refine zbk (t := 130) (p := 11) rfl ?_); go_must (refine zid rfl (t := 130) (p := 11) rfl rfl (g := gf) (u := .agg #[.bool q1, .bool q2, .int .i64 q3, .int .i64 q4, .int .i64 q5, .string q6]) (seg := [.bool q1, .bool q2, .int .i64 q3, .int .i64 q4, .int .i64 q5, .string q6]) rfl rfl BF.out rfl rfl rfl (by simp [Value.oneCell']) ?_; intro w9 hbb hbw hfar; have HB9 := zA (HB8.out.trans (hbw _ (Nat.le_of_eq HGF.out.symm))); have HX9 := zA (HX7.out.step HB9.out); have BX9 := zA (zaj BX7.out HB9.out); have BF9 := zA hbb; have NF := zA (show some gf ≠ vo.ownBlock from fun e => by have h1 := Kd.R_lt HX7.out.out gf e.symm; have h2 := HGF.out; omega); have NEF := zA (show gb < gf ∧ r' < gf ∧ gx < gf from by have h1 := zcp HX7.out.bb; have h2 := Kd.R_lt HX7.out.nam r' rfl; have h3 := HGF.out; have h4 := zcp BX7.out; omega); have z0 := zaf hbb 0; have z1 := zaf hbb 1; have z2 := zaf hbb 2; have z3 := zaf hbb 3; have z4 := zaf hbb 4; have z5 := zaf hbb 5; clear hbb hbw hfar BF HB8))
   | (go_at_call 117; go_must (refine (zd7 q1 q2 q3 q4 q5 q6 bi _ (by rw [HBI.out]; rfl)).mono ?_; rintro e w10 ⟨rfl, hb⟩; have HX10 := zA (HX9.out.step hb); have BX10 := zA (zaj BX9.out hb); have BF10 := zA (zaj BF9.out hb); have y4 := zaf BX10.out 4; clear hb z0 z1 z2 z3 z4 z5)))
 go_cut [13] from 33 to 149 (fun v13 wx => ∃ (n1 : List S72) (c : Int) (vo1 : Value), v13 = .int .i64 c ∧ Aside0 (n1 = (if q3 ≤ q4 then s.1 ++ [(⟨⟨#[99, 111, 110, 115, 116]⟩, 0, 0, x.f4⟩ : S72)] else s.1)) ∧ Aside0 (c = (if q3 ≤ q4 then (s.1.length : Int) else -1)) ∧ Aside0 (SyX w gb r' c' 6 (n1, s.2) vo1 wx) ∧
   Aside0 (wx.heap[gx]? = some (.cells #[.string x.f0, .int .i64 x.f1, .int .i64 x.f2, .int .i64 x.f3, .int .i64 x.f4] 94 (0, 0))) ∧ Aside0 (wx.heap[gf]? = some (.cells #[.bool q1, .bool q2, .int .i64 q3, .int .i64 q4, .int .i64 q5, .string q6] 130 (0, 0))) ∧ Aside0 (some gx ≠ vo1.ownBlock ∧ some gf ≠ vo1.ownBlock))
 case first =>
   by_cases hbt : bi = true
   rotate_left
   · obtain rfl : bi = false := by simpa using hbt
     have HIM := zA (of_decide_eq_false HBI.out.symm)
     clear hbt
     go_wp2_with fail
     go_meet
     case rel => exact ⟨_, _, vo, rfl, ⟨by rw [if_neg (by have := HIM.out; omega)]⟩, ⟨by rw [if_neg (by have := HIM.out; omega)]⟩, HX10, BX10, BF10, ⟨NX.out, NF.out⟩⟩
   subst hbt
   have HIM := zA (zde HBI.out.symm)
   go_wp2_with fail
   refine (zjv s vo w10 HX10.out ⟨#[99, 111, 110, 115, 116]⟩ 0 0 x.f4 (by have := HOK.out; unfold syOk at this; omega)).mono ?_
   rintro e w11 ⟨vo', rfl, hX, hF⟩
   have HX11 := zA hX
   have HF11 := zA hF
   clear hX hF
   go_wp2_with fail
   go_meet
   have hn := NE.out
   have hf := NEF.out
   obtain ⟨b1, b2⟩ := HF11.out.box BX10.out (by omega) (by omega) NX.out
   obtain ⟨b3, b4⟩ := HF11.out.box BF10.out (by omega) (by omega) NF.out
   exact ⟨_, _, vo', rfl, ⟨by rw [if_pos HIM.out]⟩, ⟨by rw [if_pos HIM.out]⟩, HX11, ⟨b1⟩, ⟨b3⟩, ⟨b2, b4⟩⟩
 clear HX HX6 HX7 HX9 HX10 BX6 BX7 BX9 BX10 BF9 BF10 y4 HB7 HB9 HBW NX NF HGX HGF
 obtain ⟨n1, c, vo1, rfl, HN1, HCC, HX, BX, BF, NX⟩ := hcut
 have HA0 := zA (show SyA w gb r' c' gx gf x q1 q2 q3 q4 q5 q6 (n1, s.2) wc from ⟨vo1, HX.out, BX.out, BF.out, NX.out.1, NX.out.2⟩)
 obtain ⟨⟨o1, p1⟩, ⟨o2, p2⟩, ⟨o3, p3⟩, hln, hl6⟩ := (show syOk x s from HOK.out)
 have HLN := zA (show n1.length < 1000002 from by rw [HN1.out]; split <;> (try simp) <;> omega)
 have HL6 := zA hl6
 clear hln hl6 HOK
 have y0 := zaf BX.out 0
 by_cases e1 : x.f0.toList = ([115, 101, 116] : List UInt8)
 · have b1 : (x.f0.toList == ([115, 101, 116] : List UInt8)) = true := beq_iff_eq.2 e1
   have HS2 := zA (show syL (l0.drop (u + 1)) (n1, s.2.set x.f1.toNat c) = some sE from by
     have h := HS1.out
     unfold syDo at h
     simp only at h
     rw [if_pos e1, ← HN1.out, ← HCC.out] at h
     exact h)
   have y1 := zaf BX.out 1
   obtain ⟨g1, g2⟩ := Kd.R_celln 0 HX.out.nam x.f1 o1 p1
   have HX2 := zA (HX.out.setn x.f1 c)
   clear e1
   go_wp2_with fail
   go_roundw
   case rel => exact ⟨u + 1, _, vo1, by go_num, by omega, HX2, HS2⟩
   case measure => simp [intOf]; omega
 have b1 : (x.f0.toList == ([115, 101, 116] : List UInt8)) = false := by simpa using e1
 have E1 := zA e1
 by_cases e2 : x.f0.toList = ([109, 111, 118] : List UInt8)
 · have b2 : (x.f0.toList == ([109, 111, 118] : List UInt8)) = true := beq_iff_eq.2 e2
   have HS2 := zA (show syL (l0.drop (u + 1)) (n1, s.2.set x.f1.toNat (rdOf 0 s.2 x.f2)) = some sE from by
     have h := HS1.out
     unfold syDo at h
     simp only at h
     rw [if_neg e1, if_pos e2, ← HN1.out] at h
     exact h)
   clear e1 e2
   go_wp2_with fail
   clear b1 b2 y0
   have hA0 := HA0.out
   refine zk4 [[], [], [1], [], [], [4], [3, 4, 5], [3, 4, 5, 6], [0, 1, 2, 3, 4, 5, 6, 7], [0, 1, 2, 3, 4, 5, 6, 7, 8]] [[8, 9], [2, 8, 9], [8, 9], [6, 7, 8, 9], [5, 6, 7, 8, 9], [6, 7, 8, 9], [7, 8, 9], [8, 9], [9], []] (zdl [.slice (some ⟨r', 0, none⟩) 6 c', .pointer (some ⟨gx, 1, none⟩), .int .i64 x.f1, .slice (some ⟨r', 0, none⟩) 6 c', .pointer (some ⟨gx, 2, none⟩), .int .i64 x.f2, .pointer (some ⟨r', x.f2.toNat, none⟩), .int .i64 (rdOf 0 s.2 x.f2), .pointer (some ⟨r', x.f1.toNat, none⟩), undef]) (fun L W => (L 9 = false → SyA w gb r' c' gx gf x q1 q2 q3 q4 q5 q6 (n1, s.2) W) ∧ (L 9 = true → ∃ vo2, SyX w gb r' c' 6 (n1, s.2.set x.f1.toNat (rdOf 0 s.2 x.f2)) vo2 W))
     rfl (fun _ _ _ _ _ h => h) (by kernel_rfl) ?_ ⟨?_, ?_, ?_, ?_, ?_, ?_, ?_, ?_, ?_, ?_, trivial⟩ ?_
   · exact ⟨fun _ => hA0.step (zee (Below.refl _ _)), fun h => Bool.noConfusion h⟩
   · refine fun L W hu hd hn hJ => zbp (by rfl) hJ ?_
     generalize hev : Act.eval (zap _ _ _ _) = ev
     have t7 : ev (.tmp 7) = .slice (some ⟨r', 0, none⟩) 6 c' := by rw [← hev]; rfl
     clear hev
     first | (go_simp; done) | (go_simp; rfl)
   · refine fun L W hu hd hn hJ => zbp (by rfl) hJ ?_
     generalize hev : Act.eval (zap _ _ _ _) = ev
     have t10 : ev (.tmp 10) = .pointer (some ⟨gx, 0, none⟩) := by rw [← hev]; rfl
     clear hev
     first | (go_simp; done) | (go_simp; rfl)
   · refine fun L W hu hd hn hJ => zbp (by rfl) hJ ?_
     have hA := hJ.1 (zcg _ hn 9 (by decide))
     clear hJ
     have y := zaf hA.bx 1
     generalize hev : Act.eval (zap _ _ _ _) = ev
     have t76 : ev (.tmp 76) = .pointer (some ⟨gx, 1, none⟩) := by rw [← hev]; rfl
     clear hev
     first | (go_simp; done) | (go_simp; rfl)
   · refine fun L W hu hd hn hJ => zbp (by rfl) hJ ?_
     generalize hev : Act.eval (zap _ _ _ _) = ev
     have t7 : ev (.tmp 7) = .slice (some ⟨r', 0, none⟩) 6 c' := by rw [← hev]; rfl
     clear hev
     first | (go_simp; done) | (go_simp; rfl)
   · refine fun L W hu hd hn hJ => zbp (by rfl) hJ ?_
     generalize hev : Act.eval (zap _ _ _ _) = ev
     have t10 : ev (.tmp 10) = .pointer (some ⟨gx, 0, none⟩) := by rw [← hev]; rfl
     clear hev
     first | (go_simp; done) | (go_simp; rfl)
   · refine fun L W hu hd hn hJ => zbp (by rfl) hJ ?_
     have hA := hJ.1 (zcg _ hn 9 (by decide))
     clear hJ
     have y := zaf hA.bx 2
     generalize hev : Act.eval (zap _ _ _ _) = ev
     have t79 : ev (.tmp 79) = .pointer (some ⟨gx, 2, none⟩) := by rw [← hev]; rfl
     clear hev
     first | (go_simp; done) | (go_simp; rfl)
   · refine fun L W hu hd hn hJ => zbp (by rfl) hJ ?_
     generalize hev : Act.eval (zap _ _ _ _) = ev
     have t78 : ev (.tmp 78) = .slice (some ⟨r', 0, none⟩) 6 c' := by rw [← hev]; rfl
     have t80 : ev (.tmp 80) = .int .i64 x.f2 := by rw [← hev]; rfl
     clear hev
     first | (go_simp; done) | (go_simp; rfl)
   · refine fun L W hu hd hn hJ => zbp (by rfl) hJ ?_
     have hA := hJ.1 (zcg _ hn 9 (by decide))
     clear hJ
     obtain ⟨y, _⟩ := Kd.R_celln 0 hA.nam x.f2 o2 p2
     generalize hev : Act.eval (zap _ _ _ _) = ev
     have t81 : ev (.tmp 81) = .pointer (some ⟨r', x.f2.toNat, none⟩) := by rw [← hev]; rfl
     clear hev
     first | (go_simp; done) | (go_simp; rfl)
   · refine fun L W hu hd hn hJ => zbp (by rfl) hJ ?_
     generalize hev : Act.eval (zap _ _ _ _) = ev
     have t75 : ev (.tmp 75) = .slice (some ⟨r', 0, none⟩) 6 c' := by rw [← hev]; rfl
     have t77 : ev (.tmp 77) = .int .i64 x.f1 := by rw [← hev]; rfl
     clear hev
     first | (go_simp; done) | (go_simp; rfl)
   · intro L W hu hd hn hJ
     obtain ⟨vo2, hA⟩ := hJ.1 hu
     have hX := hA.sx.setn x.f1 (rdOf 0 s.2 x.f2)
     refine zmi (by rfl) rfl rfl ⟨fun h => by simp [riUp] at h, fun _ => ⟨vo2, hX⟩⟩ ?_
     obtain ⟨y, y'⟩ := Kd.R_celln 0 hA.sx.nam x.f1 o1 p1
     clear hJ hX
     generalize hev : Act.eval (zap _ _ _ _) = ev
     have t82 : ev (.tmp 82) = .int .i64 (rdOf 0 s.2 x.f2) := by rw [← hev]; rfl
     have t83 : ev (.tmp 83) = .pointer (some ⟨r', x.f1.toNat, none⟩) := by rw [← hev]; rfl
     clear hev
     first | (go_simp; done) | (go_simp; rfl)
   · intro L W hL hJ
     obtain ⟨vo2, hX⟩ := hJ.2 (hL 9 rfl)
     have HX2 := zA hX
     clear hX hJ hL hA0
     simp only [zap, riGo, zb2, zby, zc3, zdl, Nat.reduceBEq, Nat.reduceAdd, List.headD, List.tail, List.getD, List.getElem?_cons_zero, List.getElem?_cons_succ, Option.getD_some, cond_true, cond_false]
     go_wp2_with fail
     go_roundw
     case rel => exact ⟨u + 1, _, vo2, by go_num, by omega, HX2, HS2⟩
     case measure => simp [intOf]; omega
 have b2 : (x.f0.toList == ([109, 111, 118] : List UInt8)) = false := by simpa using e2
 have E2 := zA e2
 by_cases e3 : x.f0.toList = ([108, 101, 97] : List UInt8)
 · have b3 : (x.f0.toList == ([108, 101, 97] : List UInt8)) = true := beq_iff_eq.2 e3
   have E3 := zA e3
   clear e1 e2 e3
   go_wp2_with fail
   clear b1 b2 b3 y0
   have HA1 := HA0
   have hA0 := HA1.out
   refine zk4 [[], [], [1], [], [], [], [5], [4, 5, 6], [4, 5, 6, 7], [], [], [], [11], [10, 11, 12], [10, 11, 12, 13], [], [10, 11, 12, 13, 14, 15], [9, 10, 11, 12, 13, 14, 15, 16], [4, 5, 6, 7, 8, 9, 10, 11, 12, 13, 14, 15, 16, 17], [3, 4, 5, 6, 7, 8, 9, 10, 11, 12, 13, 14, 15, 16, 17, 18], [0, 1, 2, 3, 4, 5, 6, 7, 8, 9, 10, 11, 12, 13, 14, 15, 16, 17, 18, 19], [0, 1, 2, 3, 4, 5, 6, 7, 8, 9, 10, 11, 12, 13, 14, 15, 16, 17, 18, 19, 20]] [[20, 21], [2, 20, 21], [20, 21], [19, 20, 21], [7, 8, 18, 19, 20, 21], [6, 7, 8, 18, 19, 20, 21], [7, 8, 18, 19, 20, 21], [8, 18, 19, 20, 21], [18, 19, 20, 21], [17, 18, 19, 20, 21], [13, 14, 16, 17, 18, 19, 20, 21], [12, 13, 14, 16, 17, 18, 19, 20, 21], [13, 14, 16, 17, 18, 19, 20, 21], [14, 16, 17, 18, 19, 20, 21], [16, 17, 18, 19, 20, 21], [16, 17, 18, 19, 20, 21], [17, 18, 19, 20, 21], [18, 19, 20, 21], [19, 20, 21], [20, 21], [21], []] (zdl [.slice (some ⟨r', 0, none⟩) 6 c', .pointer (some ⟨gx, 1, none⟩), .int .i64 x.f1, Value.func (.func 115) #[] #[.pointer (some ⟨gb, 0, none⟩)], .slice (some ⟨r', 0, none⟩) 6 c', .pointer (some ⟨gx, 2, none⟩), .int .i64 x.f2, .pointer (some ⟨r', x.f2.toNat, none⟩), .int .i64 (rdOf 0 s.2 x.f2), Value.func (.func 115) #[] #[.pointer (some ⟨gb, 0, none⟩)], .slice (some ⟨r', 0, none⟩) 6 c', .pointer (some ⟨gx, 3, none⟩), .int .i64 x.f3, .pointer (some ⟨r', x.f3.toNat, none⟩), .int .i64 (rdOf 0 s.2 x.f3), .int .i64 c, .agg #[.string ⟨#[115, 104, 108]⟩, .int .i64 (rdOf 0 s.2 x.f3), .int .i64 c, .int .i64 0], .int .i64 n1.length, .agg #[.string ⟨#[97, 100, 100]⟩, .int .i64 (rdOf 0 s.2 x.f2), .int .i64 n1.length, .int .i64 0], .int .i64 ((n1 ++ [(⟨(⟨#[115, 104, 108]⟩), (rdOf 0 s.2 x.f3), c, 0⟩ : S72)])).length, .pointer (some ⟨r', x.f1.toNat, none⟩), undef]) (fun L W => (L 21 = false → L 17 = false → SyA w gb r' c' gx gf x q1 q2 q3 q4 q5 q6 (n1, s.2) W) ∧ (L 21 = false → L 17 = true → L 19 = false → SyA w gb r' c' gx gf x q1 q2 q3 q4 q5 q6 ((n1 ++ [(⟨(⟨#[115, 104, 108]⟩), (rdOf 0 s.2 x.f3), c, 0⟩ : S72)]), s.2) W) ∧ (L 21 = false → L 17 = true → L 19 = true → SyA w gb r' c' gx gf x q1 q2 q3 q4 q5 q6 (((n1 ++ [(⟨(⟨#[115, 104, 108]⟩), (rdOf 0 s.2 x.f3), c, 0⟩ : S72)]) ++ [(⟨(⟨#[97, 100, 100]⟩), (rdOf 0 s.2 x.f2), n1.length, 0⟩ : S72)]), s.2) W) ∧ (L 21 = true → ∃ vo2, SyX w gb r' c' 6 (((n1 ++ [(⟨(⟨#[115, 104, 108]⟩), (rdOf 0 s.2 x.f3), c, 0⟩ : S72)]) ++ [(⟨(⟨#[97, 100, 100]⟩), (rdOf 0 s.2 x.f2), n1.length, 0⟩ : S72)]), s.2.set x.f1.toNat ((n1 ++ [(⟨(⟨#[115, 104, 108]⟩), (rdOf 0 s.2 x.f3), c, 0⟩ : S72)])).length) vo2 W))
     rfl (fun _ _ _ _ _ h => h) (by kernel_rfl) ?_ ⟨?_, ?_, ?_, ?_, ?_, ?_, ?_, ?_, ?_, ?_, ?_, ?_, ?_, ?_, ?_, ?_, ?_, ?_, ?_, ?_, ?_, ?_, trivial⟩ ?_
   · exact ⟨fun _ _ => hA0.step (zee (Below.refl _ _)), fun _ h => Bool.noConfusion h, fun _ h => Bool.noConfusion h, fun h => Bool.noConfusion h⟩
   · refine fun L W hu hd hn hJ => zbp (by rfl) hJ ?_
     generalize hev : Act.eval (zap _ _ _ _) = ev
     have t7 : ev (.tmp 7) = .slice (some ⟨r', 0, none⟩) 6 c' := by rw [← hev]; rfl
     clear hev
     first | (go_simp; done) | (go_simp; rfl)
   · refine fun L W hu hd hn hJ => zbp (by rfl) hJ ?_
     generalize hev : Act.eval (zap _ _ _ _) = ev
     have t10 : ev (.tmp 10) = .pointer (some ⟨gx, 0, none⟩) := by rw [← hev]; rfl
     clear hev
     first | (go_simp; done) | (go_simp; rfl)
   · refine fun L W hu hd hn hJ => zbp (by rfl) hJ ?_
     have hl := zcg _ hn 21 (by decide)
     obtain ⟨nd, hA⟩ : ∃ nd, SyA w gb r' c' gx gf x q1 q2 q3 q4 q5 q6 (nd, s.2) W := (match h0 : L 17 with | false => ⟨_, hJ.1 hl h0⟩ | true => (match h1 : L 19 with | false => ⟨_, hJ.2.1 hl h0 h1⟩ | true => ⟨_, hJ.2.2.1 hl h0 h1⟩))
     clear hJ
     have y := zaf hA.bx 1
     generalize hev : Act.eval (zap _ _ _ _) = ev
     have t89 : ev (.tmp 89) = .pointer (some ⟨gx, 1, none⟩) := by rw [← hev]; rfl
     clear hev
     first | (go_simp; done) | (go_simp; rfl)
   · refine fun L W hu hd hn hJ => zbp (by rfl) hJ ?_
     generalize hev : Act.eval (zap _ _ _ _) = ev
     have t8 : ev (.tmp 8) = Value.func (.func 115) #[] #[.pointer (some ⟨gb, 0, none⟩)] := by rw [← hev]; rfl
     clear hev
     first | (go_simp; done) | (go_simp; rfl)
   · refine fun L W hu hd hn hJ => zbp (by rfl) hJ ?_
     generalize hev : Act.eval (zap _ _ _ _) = ev
     have t7 : ev (.tmp 7) = .slice (some ⟨r', 0, none⟩) 6 c' := by rw [← hev]; rfl
     clear hev
     first | (go_simp; done) | (go_simp; rfl)
   · refine fun L W hu hd hn hJ => zbp (by rfl) hJ ?_
     generalize hev : Act.eval (zap _ _ _ _) = ev
     have t10 : ev (.tmp 10) = .pointer (some ⟨gx, 0, none⟩) := by rw [← hev]; rfl
     clear hev
     first | (go_simp; done) | (go_simp; rfl)
   · refine fun L W hu hd hn hJ => zbp (by rfl) hJ ?_
     have hl := zcg _ hn 21 (by decide)
     obtain ⟨nd, hA⟩ : ∃ nd, SyA w gb r' c' gx gf x q1 q2 q3 q4 q5 q6 (nd, s.2) W := (match h0 : L 17 with | false => ⟨_, hJ.1 hl h0⟩ | true => (match h1 : L 19 with | false => ⟨_, hJ.2.1 hl h0 h1⟩ | true => ⟨_, hJ.2.2.1 hl h0 h1⟩))
     clear hJ
     have y := zaf hA.bx 2
     generalize hev : Act.eval (zap _ _ _ _) = ev
     have t93 : ev (.tmp 93) = .pointer (some ⟨gx, 2, none⟩) := by rw [← hev]; rfl
     clear hev
     first | (go_simp; done) | (go_simp; rfl)
   · refine fun L W hu hd hn hJ => zbp (by rfl) hJ ?_
     generalize hev : Act.eval (zap _ _ _ _) = ev
     have t92 : ev (.tmp 92) = .slice (some ⟨r', 0, none⟩) 6 c' := by rw [← hev]; rfl
     have t94 : ev (.tmp 94) = .int .i64 x.f2 := by rw [← hev]; rfl
     clear hev
     first | (go_simp; done) | (go_simp; rfl)
   · refine fun L W hu hd hn hJ => zbp (by rfl) hJ ?_
     have hl := zcg _ hn 21 (by decide)
     obtain ⟨nd, hA⟩ : ∃ nd, SyA w gb r' c' gx gf x q1 q2 q3 q4 q5 q6 (nd, s.2) W := (match h0 : L 17 with | false => ⟨_, hJ.1 hl h0⟩ | true => (match h1 : L 19 with | false => ⟨_, hJ.2.1 hl h0 h1⟩ | true => ⟨_, hJ.2.2.1 hl h0 h1⟩))
     clear hJ
     obtain ⟨y, _⟩ := Kd.R_celln 0 hA.nam x.f2 o2 p2
     generalize hev : Act.eval (zap _ _ _ _) = ev
     have t95 : ev (.tmp 95) = .pointer (some ⟨r', x.f2.toNat, none⟩) := by rw [← hev]; rfl
     clear hev
     first | (go_simp; done) | (go_simp; rfl)
   · refine fun L W hu hd hn hJ => zbp (by rfl) hJ ?_
     generalize hev : Act.eval (zap _ _ _ _) = ev
     have t8 : ev (.tmp 8) = Value.func (.func 115) #[] #[.pointer (some ⟨gb, 0, none⟩)] := by rw [← hev]; rfl
     clear hev
     first | (go_simp; done) | (go_simp; rfl)
   · refine fun L W hu hd hn hJ => zbp (by rfl) hJ ?_
     generalize hev : Act.eval (zap _ _ _ _) = ev
     have t7 : ev (.tmp 7) = .slice (some ⟨r', 0, none⟩) 6 c' := by rw [← hev]; rfl
     clear hev
     first | (go_simp; done) | (go_simp; rfl)
   · refine fun L W hu hd hn hJ => zbp (by rfl) hJ ?_
     generalize hev : Act.eval (zap _ _ _ _) = ev
     have t10 : ev (.tmp 10) = .pointer (some ⟨gx, 0, none⟩) := by rw [← hev]; rfl
     clear hev
     first | (go_simp; done) | (go_simp; rfl)
   · refine fun L W hu hd hn hJ => zbp (by rfl) hJ ?_
     have hl := zcg _ hn 21 (by decide)
     obtain ⟨nd, hA⟩ : ∃ nd, SyA w gb r' c' gx gf x q1 q2 q3 q4 q5 q6 (nd, s.2) W := (match h0 : L 17 with | false => ⟨_, hJ.1 hl h0⟩ | true => (match h1 : L 19 with | false => ⟨_, hJ.2.1 hl h0 h1⟩ | true => ⟨_, hJ.2.2.1 hl h0 h1⟩))
     clear hJ
     have y := zaf hA.bx 3
     generalize hev : Act.eval (zap _ _ _ _) = ev
     have t99 : ev (.tmp 99) = .pointer (some ⟨gx, 3, none⟩) := by rw [← hev]; rfl
     clear hev
     first | (go_simp; done) | (go_simp; rfl)
   · refine fun L W hu hd hn hJ => zbp (by rfl) hJ ?_
     generalize hev : Act.eval (zap _ _ _ _) = ev
     have t98 : ev (.tmp 98) = .slice (some ⟨r', 0, none⟩) 6 c' := by rw [← hev]; rfl
     have t100 : ev (.tmp 100) = .int .i64 x.f3 := by rw [← hev]; rfl
     clear hev
     first | (go_simp; done) | (go_simp; rfl)
   · refine fun L W hu hd hn hJ => zbp (by rfl) hJ ?_
     have hl := zcg _ hn 21 (by decide)
     obtain ⟨nd, hA⟩ : ∃ nd, SyA w gb r' c' gx gf x q1 q2 q3 q4 q5 q6 (nd, s.2) W := (match h0 : L 17 with | false => ⟨_, hJ.1 hl h0⟩ | true => (match h1 : L 19 with | false => ⟨_, hJ.2.1 hl h0 h1⟩ | true => ⟨_, hJ.2.2.1 hl h0 h1⟩))
     clear hJ
     obtain ⟨y, _⟩ := Kd.R_celln 0 hA.nam x.f3 o3 p3
     generalize hev : Act.eval (zap _ _ _ _) = ev
     have t101 : ev (.tmp 101) = .pointer (some ⟨r', x.f3.toNat, none⟩) := by rw [← hev]; rfl
     clear hev
     first | (go_simp; done) | (go_simp; rfl)
   · refine fun L W hu hd hn hJ => zbp (by rfl) hJ ?_
     generalize hev : Act.eval (zap _ _ _ _) = ev
     have t13 : ev (.tmp 13) = .int .i64 c := by rw [← hev]; rfl
     clear hev
     first | (go_simp; done) | (go_simp; rfl)
   · refine fun L W hu hd hn hJ => zbp (by rfl) hJ ?_
     generalize hev : Act.eval (zap _ _ _ _) = ev
     have t102 : ev (.tmp 102) = .int .i64 (rdOf 0 s.2 x.f3) := by rw [← hev]; rfl
     have t103 : ev (.tmp 103) = .int .i64 c := by rw [← hev]; rfl
     have tc : ∀ v, ev (.const v) = v := fun v => by rw [← hev]; rfl
     clear hev
     first | (go_simp; done) | (go_simp; rfl)
   · intro L W hu hd hn hJ
     have hl := zcg _ hn 21 (by decide)
     refine zj8 Try.func115 (by kernel_rfl) rfl (f := 115) (p := .pointer (some ⟨gb, 0, none⟩)) (v1 := .agg #[.string (⟨#[115, 104, 108]⟩), .int .i64 (rdOf 0 s.2 x.f3), .int .i64 c, .int .i64 0]) (by rfl) rfl (by rfl) (by rfl) ?_
     refine (zmn (hJ.1 hl hu) NE.out.1 NE.out.2 NEF.out.1 NEF.out.2.1 (⟨#[115, 104, 108]⟩) (rdOf 0 s.2 x.f3) c 0 (by have := HLN.out; simp; omega)).mono ?_
     rintro e W' ⟨he, hA⟩
     exact ⟨he, fun _ h => by simp [riUp] at h, fun _ _ _ => hA, fun _ h0_ h1_ => absurd (h1_.symm.trans (zcg _ hn 19 (by decide))) (by simp), fun h => absurd (h.symm.trans hl) (by simp)⟩
   · refine fun L W hu hd hn hJ => zbp (by rfl) hJ ?_
     generalize hev : Act.eval (zap _ _ _ _) = ev
     have t96 : ev (.tmp 96) = .int .i64 (rdOf 0 s.2 x.f2) := by rw [← hev]; rfl
     have t105 : ev (.tmp 105) = .int .i64 n1.length := by rw [← hev]; rfl
     have tc : ∀ v, ev (.const v) = v := fun v => by rw [← hev]; rfl
     clear hev
     first | (go_simp; done) | (go_simp; rfl)
   · intro L W hu hd hn hJ
     have hl := zcg _ hn 21 (by decide)
     have h0 := zcg _ hd 17 (by decide)
     refine zj8 Try.func115 (by kernel_rfl) rfl (f := 115) (p := .pointer (some ⟨gb, 0, none⟩)) (v1 := .agg #[.string (⟨#[97, 100, 100]⟩), .int .i64 (rdOf 0 s.2 x.f2), .int .i64 n1.length, .int .i64 0]) (by rfl) rfl (by rfl) (by rfl) ?_
     refine (zmn (hJ.2.1 hl h0 hu) NE.out.1 NE.out.2 NEF.out.1 NEF.out.2.1 (⟨#[97, 100, 100]⟩) (rdOf 0 s.2 x.f2) n1.length 0 (by have := HLN.out; simp; omega)).mono ?_
     rintro e W' ⟨he, hA⟩
     exact ⟨he, fun _ h => by simp [riUp, h0] at h, fun _ _ h => by simp [riUp] at h, fun _ _ _ => hA, fun h => absurd (h.symm.trans hl) (by simp)⟩
   · refine fun L W hu hd hn hJ => zbp (by rfl) hJ ?_
     generalize hev : Act.eval (zap _ _ _ _) = ev
     have t88 : ev (.tmp 88) = .slice (some ⟨r', 0, none⟩) 6 c' := by rw [← hev]; rfl
     have t90 : ev (.tmp 90) = .int .i64 x.f1 := by rw [← hev]; rfl
     clear hev
     first | (go_simp; done) | (go_simp; rfl)
   · intro L W hu hd hn hJ
     have h0 := zcg _ hd 17 (by decide)
     have h1 := zcg _ hd 19 (by decide)
     obtain ⟨vo2, hA⟩ := hJ.2.2.1 hu h0 h1
     have hX := hA.sx.setn x.f1 ((n1 ++ [(⟨(⟨#[115, 104, 108]⟩), (rdOf 0 s.2 x.f3), c, 0⟩ : S72)])).length
     refine zmi (by rfl) rfl rfl ⟨fun h => by simp [riUp] at h, fun h => by simp [riUp] at h, fun h => by simp [riUp] at h, fun _ => ⟨vo2, hX⟩⟩ ?_
     obtain ⟨y, y'⟩ := Kd.R_celln 0 hA.sx.nam x.f1 o1 p1
     clear hJ hX
     generalize hev : Act.eval (zap _ _ _ _) = ev
     have t107 : ev (.tmp 107) = .int .i64 ((n1 ++ [(⟨(⟨#[115, 104, 108]⟩), (rdOf 0 s.2 x.f3), c, 0⟩ : S72)])).length := by rw [← hev]; rfl
     have t108 : ev (.tmp 108) = .pointer (some ⟨r', x.f1.toNat, none⟩) := by rw [← hev]; rfl
     clear hev
     first | (go_simp; done) | (go_simp; rfl)
   · intro L W hL hJ
     obtain ⟨vo2, hX⟩ := hJ.2.2.2 (hL 21 rfl)
     have HX2 := zA hX
     clear hX hJ hL hA0
     simp only [zap, riGo, zb2, zby, zc3, zdl, Nat.reduceBEq, Nat.reduceAdd, List.headD, List.tail, List.getD, List.getElem?_cons_zero, List.getElem?_cons_succ, Option.getD_some, cond_true, cond_false]
     go_wp2_with fail
     go_roundw
     case rel =>
       refine ⟨u + 1, _, vo2, by go_num, by omega, HX2, ⟨?_⟩⟩
       have h := HS1.out
       unfold syDo at h
       simp only at h
       rw [if_neg E1.out, if_neg E2.out, if_pos E3.out, ← HN1.out, ← HCC.out] at h
       exact h
     case measure => simp [intOf]; omega
 have b3 : (x.f0.toList == ([108, 101, 97] : List UInt8)) = false := by simpa using e3
 have E3 := zA e3
 have z0 := zaf BF.out 0
 have z1 := zaf BF.out 1
 have z2 := zaf BF.out 2
 have z3 := zaf BF.out 3
 have z4 := zaf BF.out 4
 have z5 := zaf BF.out 5
 clear e1 e2 e3
 by_cases hbt : bi = true
 · subst hbt
   have HIM := zA (zde HBI.out.symm)
   go_wp2_with (go_at_call 117; go_must (refine (zd7 q1 q2 q3 q4 q5 q6 true _ (by rw [HBI.out]; rfl)).mono ?_; rintro e w12 ⟨rfl, hb⟩; have HA1 := zA (HA0.out.step hb); clear hb z0 z1 z2 z3 z4 z5))
   clear b1 b2 b3 y0
   have hA0 := HA1.out
   refine zk4 [[], [], [1], [], [], [4], [], [], [7], [6, 7, 8], [6, 7, 8, 9], [], [4, 5, 6, 7, 8, 9, 10, 11], [3, 4, 5, 6, 7, 8, 9, 10, 11, 12], [0, 1, 2, 3, 4, 5, 6, 7, 8, 9, 10, 11, 12, 13], [0, 1, 2, 3, 4, 5, 6, 7, 8, 9, 10, 11, 12, 13, 14]] [[14, 15], [2, 14, 15], [14, 15], [13, 14, 15], [5, 12, 13, 14, 15], [12, 13, 14, 15], [9, 10, 12, 13, 14, 15], [8, 9, 10, 12, 13, 14, 15], [9, 10, 12, 13, 14, 15], [10, 12, 13, 14, 15], [12, 13, 14, 15], [12, 13, 14, 15], [13, 14, 15], [14, 15], [15], []] (zdl [.slice (some ⟨r', 0, none⟩) 6 c', .pointer (some ⟨gx, 1, none⟩), .int .i64 x.f1, Value.func (.func 115) #[] #[.pointer (some ⟨gb, 0, none⟩)], .pointer (some ⟨gf, 5, none⟩), .string q6, .slice (some ⟨r', 0, none⟩) 6 c', .pointer (some ⟨gx, 2, none⟩), .int .i64 x.f2, .pointer (some ⟨r', x.f2.toNat, none⟩), .int .i64 (rdOf 0 s.2 x.f2), .int .i64 c, .agg #[.string q6, .int .i64 (rdOf 0 s.2 x.f2), .int .i64 c, .int .i64 0], .int .i64 n1.length, .pointer (some ⟨r', x.f1.toNat, none⟩), undef]) (fun L W => (L 15 = false → L 13 = false → SyA w gb r' c' gx gf x q1 q2 q3 q4 q5 q6 (n1, s.2) W) ∧ (L 15 = false → L 13 = true → SyA w gb r' c' gx gf x q1 q2 q3 q4 q5 q6 ((n1 ++ [(⟨q6, (rdOf 0 s.2 x.f2), c, 0⟩ : S72)]), s.2) W) ∧ (L 15 = true → ∃ vo2, SyX w gb r' c' 6 ((n1 ++ [(⟨q6, (rdOf 0 s.2 x.f2), c, 0⟩ : S72)]), s.2.set x.f1.toNat n1.length) vo2 W))
     rfl (fun _ _ _ _ _ h => h) (by kernel_rfl) ?_ ⟨?_, ?_, ?_, ?_, ?_, ?_, ?_, ?_, ?_, ?_, ?_, ?_, ?_, ?_, ?_, ?_, trivial⟩ ?_
   · exact ⟨fun _ _ => hA0.step (zee (Below.refl _ _)), fun _ h => Bool.noConfusion h, fun h => Bool.noConfusion h⟩
   · refine fun L W hu hd hn hJ => zbp (by rfl) hJ ?_
     generalize hev : Act.eval (zap _ _ _ _) = ev
     have t7 : ev (.tmp 7) = .slice (some ⟨r', 0, none⟩) 6 c' := by rw [← hev]; rfl
     clear hev
     first | (go_simp; done) | (go_simp; rfl)
   · refine fun L W hu hd hn hJ => zbp (by rfl) hJ ?_
     generalize hev : Act.eval (zap _ _ _ _) = ev
     have t10 : ev (.tmp 10) = .pointer (some ⟨gx, 0, none⟩) := by rw [← hev]; rfl
     clear hev
     first | (go_simp; done) | (go_simp; rfl)
   · refine fun L W hu hd hn hJ => zbp (by rfl) hJ ?_
     have hl := zcg _ hn 15 (by decide)
     obtain ⟨nd, hA⟩ : ∃ nd, SyA w gb r' c' gx gf x q1 q2 q3 q4 q5 q6 (nd, s.2) W := (match h0 : L 13 with | false => ⟨_, hJ.1 hl h0⟩ | true => ⟨_, hJ.2.1 hl h0⟩)
     clear hJ
     have y := zaf hA.bx 1
     generalize hev : Act.eval (zap _ _ _ _) = ev
     have t113 : ev (.tmp 113) = .pointer (some ⟨gx, 1, none⟩) := by rw [← hev]; rfl
     clear hev
     first | (go_simp; done) | (go_simp; rfl)
   · refine fun L W hu hd hn hJ => zbp (by rfl) hJ ?_
     generalize hev : Act.eval (zap _ _ _ _) = ev
     have t8 : ev (.tmp 8) = Value.func (.func 115) #[] #[.pointer (some ⟨gb, 0, none⟩)] := by rw [← hev]; rfl
     clear hev
     first | (go_simp; done) | (go_simp; rfl)
   · refine fun L W hu hd hn hJ => zbp (by rfl) hJ ?_
     generalize hev : Act.eval (zap _ _ _ _) = ev
     have t11 : ev (.tmp 11) = .pointer (some ⟨gf, 0, none⟩) := by rw [← hev]; rfl
     clear hev
     first | (go_simp; done) | (go_simp; rfl)
   · refine fun L W hu hd hn hJ => zbp (by rfl) hJ ?_
     have hl := zcg _ hn 15 (by decide)
     obtain ⟨nd, hA⟩ : ∃ nd, SyA w gb r' c' gx gf x q1 q2 q3 q4 q5 q6 (nd, s.2) W := (match h0 : L 13 with | false => ⟨_, hJ.1 hl h0⟩ | true => ⟨_, hJ.2.1 hl h0⟩)
     clear hJ
     have y := zaf hA.bf 5
     generalize hev : Act.eval (zap _ _ _ _) = ev
     have t116 : ev (.tmp 116) = .pointer (some ⟨gf, 5, none⟩) := by rw [← hev]; rfl
     clear hev
     first | (go_simp; done) | (go_simp; rfl)
   · refine fun L W hu hd hn hJ => zbp (by rfl) hJ ?_
     generalize hev : Act.eval (zap _ _ _ _) = ev
     have t7 : ev (.tmp 7) = .slice (some ⟨r', 0, none⟩) 6 c' := by rw [← hev]; rfl
     clear hev
     first | (go_simp; done) | (go_simp; rfl)
   · refine fun L W hu hd hn hJ => zbp (by rfl) hJ ?_
     generalize hev : Act.eval (zap _ _ _ _) = ev
     have t10 : ev (.tmp 10) = .pointer (some ⟨gx, 0, none⟩) := by rw [← hev]; rfl
     clear hev
     first | (go_simp; done) | (go_simp; rfl)
   · refine fun L W hu hd hn hJ => zbp (by rfl) hJ ?_
     have hl := zcg _ hn 15 (by decide)
     obtain ⟨nd, hA⟩ : ∃ nd, SyA w gb r' c' gx gf x q1 q2 q3 q4 q5 q6 (nd, s.2) W := (match h0 : L 13 with | false => ⟨_, hJ.1 hl h0⟩ | true => ⟨_, hJ.2.1 hl h0⟩)
     clear hJ
     have y := zaf hA.bx 2
     generalize hev : Act.eval (zap _ _ _ _) = ev
     have t119 : ev (.tmp 119) = .pointer (some ⟨gx, 2, none⟩) := by rw [← hev]; rfl
     clear hev
     first | (go_simp; done) | (go_simp; rfl)
   · refine fun L W hu hd hn hJ => zbp (by rfl) hJ ?_
     generalize hev : Act.eval (zap _ _ _ _) = ev
     have t118 : ev (.tmp 118) = .slice (some ⟨r', 0, none⟩) 6 c' := by rw [← hev]; rfl
     have t120 : ev (.tmp 120) = .int .i64 x.f2 := by rw [← hev]; rfl
     clear hev
     first | (go_simp; done) | (go_simp; rfl)
   · refine fun L W hu hd hn hJ => zbp (by rfl) hJ ?_
     have hl := zcg _ hn 15 (by decide)
     obtain ⟨nd, hA⟩ : ∃ nd, SyA w gb r' c' gx gf x q1 q2 q3 q4 q5 q6 (nd, s.2) W := (match h0 : L 13 with | false => ⟨_, hJ.1 hl h0⟩ | true => ⟨_, hJ.2.1 hl h0⟩)
     clear hJ
     obtain ⟨y, _⟩ := Kd.R_celln 0 hA.nam x.f2 o2 p2
     generalize hev : Act.eval (zap _ _ _ _) = ev
     have t121 : ev (.tmp 121) = .pointer (some ⟨r', x.f2.toNat, none⟩) := by rw [← hev]; rfl
     clear hev
     first | (go_simp; done) | (go_simp; rfl)
   · refine fun L W hu hd hn hJ => zbp (by rfl) hJ ?_
     generalize hev : Act.eval (zap _ _ _ _) = ev
     have t13 : ev (.tmp 13) = .int .i64 c := by rw [← hev]; rfl
     clear hev
     first | (go_simp; done) | (go_simp; rfl)
   · refine fun L W hu hd hn hJ => zbp (by rfl) hJ ?_
     generalize hev : Act.eval (zap _ _ _ _) = ev
     have t117 : ev (.tmp 117) = .string q6 := by rw [← hev]; rfl
     have t122 : ev (.tmp 122) = .int .i64 (rdOf 0 s.2 x.f2) := by rw [← hev]; rfl
     have t123 : ev (.tmp 123) = .int .i64 c := by rw [← hev]; rfl
     have tc : ∀ v, ev (.const v) = v := fun v => by rw [← hev]; rfl
     clear hev
     first | (go_simp; done) | (go_simp; rfl)
   · intro L W hu hd hn hJ
     have hl := zcg _ hn 15 (by decide)
     refine zj8 Try.func115 (by kernel_rfl) rfl (f := 115) (p := .pointer (some ⟨gb, 0, none⟩)) (v1 := .agg #[.string q6, .int .i64 (rdOf 0 s.2 x.f2), .int .i64 c, .int .i64 0]) (by rfl) rfl (by rfl) (by rfl) ?_
     refine (zmn (hJ.1 hl hu) NE.out.1 NE.out.2 NEF.out.1 NEF.out.2.1 q6 (rdOf 0 s.2 x.f2) c 0 (by have := HLN.out; simp; omega)).mono ?_
     rintro e W' ⟨he, hA⟩
     exact ⟨he, fun _ h => by simp [riUp] at h, fun _ _ => hA, fun h => absurd (h.symm.trans hl) (by simp)⟩
   · refine fun L W hu hd hn hJ => zbp (by rfl) hJ ?_
     generalize hev : Act.eval (zap _ _ _ _) = ev
     have t112 : ev (.tmp 112) = .slice (some ⟨r', 0, none⟩) 6 c' := by rw [← hev]; rfl
     have t114 : ev (.tmp 114) = .int .i64 x.f1 := by rw [← hev]; rfl
     clear hev
     first | (go_simp; done) | (go_simp; rfl)
   · intro L W hu hd hn hJ
     have h0 := zcg _ hd 13 (by decide)
     obtain ⟨vo2, hA⟩ := hJ.2.1 hu h0
     have hX := hA.sx.setn x.f1 n1.length
     refine zmi (by rfl) rfl rfl ⟨fun h => by simp [riUp] at h, fun h => by simp [riUp] at h, fun _ => ⟨vo2, hX⟩⟩ ?_
     obtain ⟨y, y'⟩ := Kd.R_celln 0 hA.sx.nam x.f1 o1 p1
     clear hJ hX
     generalize hev : Act.eval (zap _ _ _ _) = ev
     have t125 : ev (.tmp 125) = .int .i64 n1.length := by rw [← hev]; rfl
     have t126 : ev (.tmp 126) = .pointer (some ⟨r', x.f1.toNat, none⟩) := by rw [← hev]; rfl
     clear hev
     first | (go_simp; done) | (go_simp; rfl)
   · intro L W hL hJ
     obtain ⟨vo2, hX⟩ := hJ.2.2 (hL 15 rfl)
     have HX2 := zA hX
     clear hX hJ hL hA0
     simp only [zap, riGo, zb2, zby, zc3, zdl, Nat.reduceBEq, Nat.reduceAdd, List.headD, List.tail, List.getD, List.getElem?_cons_zero, List.getElem?_cons_succ, Option.getD_some, cond_true, cond_false]
     go_wp2_with fail
     go_roundw
     case rel =>
       refine ⟨u + 1, _, vo2, by go_num, by omega, HX2, ⟨?_⟩⟩
       have h := HS1.out
       unfold syDo at h
       simp only at h
       rw [if_neg E1.out, if_neg E2.out, if_neg E3.out, ← HN1.out, ← HCC.out, if_pos HIM.out] at h
       exact h
     case measure => simp [intOf]; omega
 obtain rfl : bi = false := by simpa using hbt
 have HIM := zA (of_decide_eq_false HBI.out.symm)
 clear hbt
 by_cases hq2 : q2 = true
 rotate_left
 · obtain rfl : q2 = false := by simpa using hq2
   clear hq2
   go_wp2_with (go_at_call 117; go_must (refine (zd7 q1 false q3 q4 q5 q6 false _ (by rw [HBI.out]; rfl)).mono ?_; rintro e w12 ⟨rfl, hb⟩; have HA1 := zA (HA0.out.step hb); have zb := zaf HA1.out.bf 1; clear hb z0 z1 z2 z3 z4 z5))
   clear b1 b2 b3 y0 zb
   have hA0 := HA1.out
   refine zk4 [[], [], [1], [], [], [4], [], [], [7], [6, 7, 8], [6, 7, 8, 9], [4, 5, 6, 7, 8, 9, 10], [3, 4, 5, 6, 7, 8, 9, 10, 11], [0, 1, 2, 3, 4, 5, 6, 7, 8, 9, 10, 11, 12], [0, 1, 2, 3, 4, 5, 6, 7, 8, 9, 10, 11, 12, 13]] [[13, 14], [2, 13, 14], [13, 14], [12, 13, 14], [5, 11, 12, 13, 14], [11, 12, 13, 14], [9, 10, 11, 12, 13, 14], [8, 9, 10, 11, 12, 13, 14], [9, 10, 11, 12, 13, 14], [10, 11, 12, 13, 14], [11, 12, 13, 14], [12, 13, 14], [13, 14], [14], []] (zdl [.slice (some ⟨r', 0, none⟩) 6 c', .pointer (some ⟨gx, 1, none⟩), .int .i64 x.f1, Value.func (.func 115) #[] #[.pointer (some ⟨gb, 0, none⟩)], .pointer (some ⟨gf, 5, none⟩), .string q6, .slice (some ⟨r', 0, none⟩) 6 c', .pointer (some ⟨gx, 2, none⟩), .int .i64 x.f2, .pointer (some ⟨r', x.f2.toNat, none⟩), .int .i64 (rdOf 0 s.2 x.f2), .agg #[.string q6, .int .i64 (rdOf 0 s.2 x.f2), .int .i64 0, .int .i64 0], .int .i64 n1.length, .pointer (some ⟨r', x.f1.toNat, none⟩), undef]) (fun L W => (L 14 = false → L 12 = false → SyA w gb r' c' gx gf x q1 false q3 q4 q5 q6 (n1, s.2) W) ∧ (L 14 = false → L 12 = true → SyA w gb r' c' gx gf x q1 false q3 q4 q5 q6 ((n1 ++ [(⟨q6, (rdOf 0 s.2 x.f2), 0, 0⟩ : S72)]), s.2) W) ∧ (L 14 = true → ∃ vo2, SyX w gb r' c' 6 ((n1 ++ [(⟨q6, (rdOf 0 s.2 x.f2), 0, 0⟩ : S72)]), s.2.set x.f1.toNat n1.length) vo2 W))
     rfl (fun _ _ _ _ _ h => h) (by kernel_rfl) ?_ ⟨?_, ?_, ?_, ?_, ?_, ?_, ?_, ?_, ?_, ?_, ?_, ?_, ?_, ?_, ?_, trivial⟩ ?_
   · exact ⟨fun _ _ => hA0.step (zee (Below.refl _ _)), fun _ h => Bool.noConfusion h, fun h => Bool.noConfusion h⟩
   · refine fun L W hu hd hn hJ => zbp (by rfl) hJ ?_
     generalize hev : Act.eval (zap _ _ _ _) = ev
     have t7 : ev (.tmp 7) = .slice (some ⟨r', 0, none⟩) 6 c' := by rw [← hev]; rfl
     clear hev
     first | (go_simp; done) | (go_simp; rfl)
   · refine fun L W hu hd hn hJ => zbp (by rfl) hJ ?_
     generalize hev : Act.eval (zap _ _ _ _) = ev
     have t10 : ev (.tmp 10) = .pointer (some ⟨gx, 0, none⟩) := by rw [← hev]; rfl
     clear hev
     first | (go_simp; done) | (go_simp; rfl)
   · refine fun L W hu hd hn hJ => zbp (by rfl) hJ ?_
     have hl := zcg _ hn 14 (by decide)
     obtain ⟨nd, hA⟩ : ∃ nd, SyA w gb r' c' gx gf x q1 false q3 q4 q5 q6 (nd, s.2) W := (match h0 : L 12 with | false => ⟨_, hJ.1 hl h0⟩ | true => ⟨_, hJ.2.1 hl h0⟩)
     clear hJ
     have y := zaf hA.bx 1
     generalize hev : Act.eval (zap _ _ _ _) = ev
     have t49 : ev (.tmp 49) = .pointer (some ⟨gx, 1, none⟩) := by rw [← hev]; rfl
     clear hev
     first | (go_simp; done) | (go_simp; rfl)
   · refine fun L W hu hd hn hJ => zbp (by rfl) hJ ?_
     generalize hev : Act.eval (zap _ _ _ _) = ev
     have t8 : ev (.tmp 8) = Value.func (.func 115) #[] #[.pointer (some ⟨gb, 0, none⟩)] := by rw [← hev]; rfl
     clear hev
     first | (go_simp; done) | (go_simp; rfl)
   · refine fun L W hu hd hn hJ => zbp (by rfl) hJ ?_
     generalize hev : Act.eval (zap _ _ _ _) = ev
     have t11 : ev (.tmp 11) = .pointer (some ⟨gf, 0, none⟩) := by rw [← hev]; rfl
     clear hev
     first | (go_simp; done) | (go_simp; rfl)
   · refine fun L W hu hd hn hJ => zbp (by rfl) hJ ?_
     have hl := zcg _ hn 14 (by decide)
     obtain ⟨nd, hA⟩ : ∃ nd, SyA w gb r' c' gx gf x q1 false q3 q4 q5 q6 (nd, s.2) W := (match h0 : L 12 with | false => ⟨_, hJ.1 hl h0⟩ | true => ⟨_, hJ.2.1 hl h0⟩)
     clear hJ
     have y := zaf hA.bf 5
     generalize hev : Act.eval (zap _ _ _ _) = ev
     have t52 : ev (.tmp 52) = .pointer (some ⟨gf, 5, none⟩) := by rw [← hev]; rfl
     clear hev
     first | (go_simp; done) | (go_simp; rfl)
   · refine fun L W hu hd hn hJ => zbp (by rfl) hJ ?_
     generalize hev : Act.eval (zap _ _ _ _) = ev
     have t7 : ev (.tmp 7) = .slice (some ⟨r', 0, none⟩) 6 c' := by rw [← hev]; rfl
     clear hev
     first | (go_simp; done) | (go_simp; rfl)
   · refine fun L W hu hd hn hJ => zbp (by rfl) hJ ?_
     generalize hev : Act.eval (zap _ _ _ _) = ev
     have t10 : ev (.tmp 10) = .pointer (some ⟨gx, 0, none⟩) := by rw [← hev]; rfl
     clear hev
     first | (go_simp; done) | (go_simp; rfl)
   · refine fun L W hu hd hn hJ => zbp (by rfl) hJ ?_
     have hl := zcg _ hn 14 (by decide)
     obtain ⟨nd, hA⟩ : ∃ nd, SyA w gb r' c' gx gf x q1 false q3 q4 q5 q6 (nd, s.2) W := (match h0 : L 12 with | false => ⟨_, hJ.1 hl h0⟩ | true => ⟨_, hJ.2.1 hl h0⟩)
     clear hJ
     have y := zaf hA.bx 2
     generalize hev : Act.eval (zap _ _ _ _) = ev
     have t55 : ev (.tmp 55) = .pointer (some ⟨gx, 2, none⟩) := by rw [← hev]; rfl
     clear hev
     first | (go_simp; done) | (go_simp; rfl)
   · refine fun L W hu hd hn hJ => zbp (by rfl) hJ ?_
     generalize hev : Act.eval (zap _ _ _ _) = ev
     have t54 : ev (.tmp 54) = .slice (some ⟨r', 0, none⟩) 6 c' := by rw [← hev]; rfl
     have t56 : ev (.tmp 56) = .int .i64 x.f2 := by rw [← hev]; rfl
     clear hev
     first | (go_simp; done) | (go_simp; rfl)
   · refine fun L W hu hd hn hJ => zbp (by rfl) hJ ?_
     have hl := zcg _ hn 14 (by decide)
     obtain ⟨nd, hA⟩ : ∃ nd, SyA w gb r' c' gx gf x q1 false q3 q4 q5 q6 (nd, s.2) W := (match h0 : L 12 with | false => ⟨_, hJ.1 hl h0⟩ | true => ⟨_, hJ.2.1 hl h0⟩)
     clear hJ
     obtain ⟨y, _⟩ := Kd.R_celln 0 hA.nam x.f2 o2 p2
     generalize hev : Act.eval (zap _ _ _ _) = ev
     have t57 : ev (.tmp 57) = .pointer (some ⟨r', x.f2.toNat, none⟩) := by rw [← hev]; rfl
     clear hev
     first | (go_simp; done) | (go_simp; rfl)
   · refine fun L W hu hd hn hJ => zbp (by rfl) hJ ?_
     generalize hev : Act.eval (zap _ _ _ _) = ev
     have t53 : ev (.tmp 53) = .string q6 := by rw [← hev]; rfl
     have t58 : ev (.tmp 58) = .int .i64 (rdOf 0 s.2 x.f2) := by rw [← hev]; rfl
     have tc : ∀ v, ev (.const v) = v := fun v => by rw [← hev]; rfl
     clear hev
     first | (go_simp; done) | (go_simp; rfl)
   · intro L W hu hd hn hJ
     have hl := zcg _ hn 14 (by decide)
     refine zj8 Try.func115 (by kernel_rfl) rfl (f := 115) (p := .pointer (some ⟨gb, 0, none⟩)) (v1 := .agg #[.string q6, .int .i64 (rdOf 0 s.2 x.f2), .int .i64 0, .int .i64 0]) (by rfl) rfl (by rfl) (by rfl) ?_
     refine (zmn (hJ.1 hl hu) NE.out.1 NE.out.2 NEF.out.1 NEF.out.2.1 q6 (rdOf 0 s.2 x.f2) 0 0 (by have := HLN.out; simp; omega)).mono ?_
     rintro e W' ⟨he, hA⟩
     exact ⟨he, fun _ h => by simp [riUp] at h, fun _ _ => hA, fun h => absurd (h.symm.trans hl) (by simp)⟩
   · refine fun L W hu hd hn hJ => zbp (by rfl) hJ ?_
     generalize hev : Act.eval (zap _ _ _ _) = ev
     have t48 : ev (.tmp 48) = .slice (some ⟨r', 0, none⟩) 6 c' := by rw [← hev]; rfl
     have t50 : ev (.tmp 50) = .int .i64 x.f1 := by rw [← hev]; rfl
     clear hev
     first | (go_simp; done) | (go_simp; rfl)
   · intro L W hu hd hn hJ
     have h0 := zcg _ hd 12 (by decide)
     obtain ⟨vo2, hA⟩ := hJ.2.1 hu h0
     have hX := hA.sx.setn x.f1 n1.length
     refine zmi (by rfl) rfl rfl ⟨fun h => by simp [riUp] at h, fun h => by simp [riUp] at h, fun _ => ⟨vo2, hX⟩⟩ ?_
     obtain ⟨y, y'⟩ := Kd.R_celln 0 hA.sx.nam x.f1 o1 p1
     clear hJ hX
     generalize hev : Act.eval (zap _ _ _ _) = ev
     have t60 : ev (.tmp 60) = .int .i64 n1.length := by rw [← hev]; rfl
     have t61 : ev (.tmp 61) = .pointer (some ⟨r', x.f1.toNat, none⟩) := by rw [← hev]; rfl
     clear hev
     first | (go_simp; done) | (go_simp; rfl)
   · intro L W hL hJ
     obtain ⟨vo2, hX⟩ := hJ.2.2 (hL 14 rfl)
     have HX2 := zA hX
     clear hX hJ hL hA0
     simp only [zap, riGo, zb2, zby, zc3, zdl, Nat.reduceBEq, Nat.reduceAdd, List.headD, List.tail, List.getD, List.getElem?_cons_zero, List.getElem?_cons_succ, Option.getD_some, cond_true, cond_false]
     go_wp2_with fail
     go_roundw
     case rel =>
       refine ⟨u + 1, _, vo2, by go_num, by omega, HX2, ⟨?_⟩⟩
       have h := HS1.out
       unfold syDo at h
       simp only at h
       rw [if_neg E1.out, if_neg E2.out, if_neg E3.out, ← HN1.out, if_neg (by have := HIM.out; omega), if_neg (by decide)] at h
       exact h
     case measure => simp [intOf]; omega
 subst hq2
 go_wp2_with (go_at_call 117; go_must (refine (zd7 q1 true q3 q4 q5 q6 false _ (by rw [HBI.out]; rfl)).mono ?_; rintro e w12 ⟨rfl, hb⟩; have HA1 := zA (HA0.out.step hb); have zb := zaf HA1.out.bf 1; clear hb z0 z1 z2 z3 z4 z5))
 clear b1 b2 b3 y0 zb
 have hA0 := HA1.out
 refine zk4 [[], [], [1], [], [], [4], [], [], [7], [6, 7, 8], [6, 7, 8, 9], [], [], [12], [11, 12, 13], [11, 12, 13, 14], [4, 5, 6, 7, 8, 9, 10, 11, 12, 13, 14, 15], [3, 4, 5, 6, 7, 8, 9, 10, 11, 12, 13, 14, 15, 16], [0, 1, 2, 3, 4, 5, 6, 7, 8, 9, 10, 11, 12, 13, 14, 15, 16, 17], [0, 1, 2, 3, 4, 5, 6, 7, 8, 9, 10, 11, 12, 13, 14, 15, 16, 17, 18]] [[18, 19], [2, 18, 19], [18, 19], [17, 18, 19], [5, 16, 17, 18, 19], [16, 17, 18, 19], [9, 10, 16, 17, 18, 19], [8, 9, 10, 16, 17, 18, 19], [9, 10, 16, 17, 18, 19], [10, 16, 17, 18, 19], [16, 17, 18, 19], [14, 15, 16, 17, 18, 19], [13, 14, 15, 16, 17, 18, 19], [14, 15, 16, 17, 18, 19], [15, 16, 17, 18, 19], [16, 17, 18, 19], [17, 18, 19], [18, 19], [19], []] (zdl [.slice (some ⟨r', 0, none⟩) 6 c', .pointer (some ⟨gx, 1, none⟩), .int .i64 x.f1, Value.func (.func 115) #[] #[.pointer (some ⟨gb, 0, none⟩)], .pointer (some ⟨gf, 5, none⟩), .string q6, .slice (some ⟨r', 0, none⟩) 6 c', .pointer (some ⟨gx, 2, none⟩), .int .i64 x.f2, .pointer (some ⟨r', x.f2.toNat, none⟩), .int .i64 (rdOf 0 s.2 x.f2), .slice (some ⟨r', 0, none⟩) 6 c', .pointer (some ⟨gx, 3, none⟩), .int .i64 x.f3, .pointer (some ⟨r', x.f3.toNat, none⟩), .int .i64 (rdOf 0 s.2 x.f3), .agg #[.string q6, .int .i64 (rdOf 0 s.2 x.f2), .int .i64 (rdOf 0 s.2 x.f3), .int .i64 0], .int .i64 n1.length, .pointer (some ⟨r', x.f1.toNat, none⟩), undef]) (fun L W => (L 19 = false → L 17 = false → SyA w gb r' c' gx gf x q1 true q3 q4 q5 q6 (n1, s.2) W) ∧ (L 19 = false → L 17 = true → SyA w gb r' c' gx gf x q1 true q3 q4 q5 q6 ((n1 ++ [(⟨q6, (rdOf 0 s.2 x.f2), (rdOf 0 s.2 x.f3), 0⟩ : S72)]), s.2) W) ∧ (L 19 = true → ∃ vo2, SyX w gb r' c' 6 ((n1 ++ [(⟨q6, (rdOf 0 s.2 x.f2), (rdOf 0 s.2 x.f3), 0⟩ : S72)]), s.2.set x.f1.toNat n1.length) vo2 W))
   rfl (fun _ _ _ _ _ h => h) (by kernel_rfl) ?_ ⟨?_, ?_, ?_, ?_, ?_, ?_, ?_, ?_, ?_, ?_, ?_, ?_, ?_, ?_, ?_, ?_, ?_, ?_, ?_, ?_, trivial⟩ ?_
 · exact ⟨fun _ _ => hA0.step (zee (Below.refl _ _)), fun _ h => Bool.noConfusion h, fun h => Bool.noConfusion h⟩
 · refine fun L W hu hd hn hJ => zbp (by rfl) hJ ?_
   generalize hev : Act.eval (zap _ _ _ _) = ev
   have t7 : ev (.tmp 7) = .slice (some ⟨r', 0, none⟩) 6 c' := by rw [← hev]; rfl
   clear hev
   first | (go_simp; done) | (go_simp; rfl)
 · refine fun L W hu hd hn hJ => zbp (by rfl) hJ ?_
   generalize hev : Act.eval (zap _ _ _ _) = ev
   have t10 : ev (.tmp 10) = .pointer (some ⟨gx, 0, none⟩) := by rw [← hev]; rfl
   clear hev
   first | (go_simp; done) | (go_simp; rfl)
 · refine fun L W hu hd hn hJ => zbp (by rfl) hJ ?_
   have hl := zcg _ hn 19 (by decide)
   obtain ⟨nd, hA⟩ : ∃ nd, SyA w gb r' c' gx gf x q1 true q3 q4 q5 q6 (nd, s.2) W := (match h0 : L 17 with | false => ⟨_, hJ.1 hl h0⟩ | true => ⟨_, hJ.2.1 hl h0⟩)
   clear hJ
   have y := zaf hA.bx 1
   generalize hev : Act.eval (zap _ _ _ _) = ev
   have t131 : ev (.tmp 131) = .pointer (some ⟨gx, 1, none⟩) := by rw [← hev]; rfl
   clear hev
   first | (go_simp; done) | (go_simp; rfl)
 · refine fun L W hu hd hn hJ => zbp (by rfl) hJ ?_
   generalize hev : Act.eval (zap _ _ _ _) = ev
   have t8 : ev (.tmp 8) = Value.func (.func 115) #[] #[.pointer (some ⟨gb, 0, none⟩)] := by rw [← hev]; rfl
   clear hev
   first | (go_simp; done) | (go_simp; rfl)
 · refine fun L W hu hd hn hJ => zbp (by rfl) hJ ?_
   generalize hev : Act.eval (zap _ _ _ _) = ev
   have t11 : ev (.tmp 11) = .pointer (some ⟨gf, 0, none⟩) := by rw [← hev]; rfl
   clear hev
   first | (go_simp; done) | (go_simp; rfl)
 · refine fun L W hu hd hn hJ => zbp (by rfl) hJ ?_
   have hl := zcg _ hn 19 (by decide)
   obtain ⟨nd, hA⟩ : ∃ nd, SyA w gb r' c' gx gf x q1 true q3 q4 q5 q6 (nd, s.2) W := (match h0 : L 17 with | false => ⟨_, hJ.1 hl h0⟩ | true => ⟨_, hJ.2.1 hl h0⟩)
   clear hJ
   have y := zaf hA.bf 5
   generalize hev : Act.eval (zap _ _ _ _) = ev
   have t134 : ev (.tmp 134) = .pointer (some ⟨gf, 5, none⟩) := by rw [← hev]; rfl
   clear hev
   first | (go_simp; done) | (go_simp; rfl)
 · refine fun L W hu hd hn hJ => zbp (by rfl) hJ ?_
   generalize hev : Act.eval (zap _ _ _ _) = ev
   have t7 : ev (.tmp 7) = .slice (some ⟨r', 0, none⟩) 6 c' := by rw [← hev]; rfl
   clear hev
   first | (go_simp; done) | (go_simp; rfl)
 · refine fun L W hu hd hn hJ => zbp (by rfl) hJ ?_
   generalize hev : Act.eval (zap _ _ _ _) = ev
   have t10 : ev (.tmp 10) = .pointer (some ⟨gx, 0, none⟩) := by rw [← hev]; rfl
   clear hev
   first | (go_simp; done) | (go_simp; rfl)
 · refine fun L W hu hd hn hJ => zbp (by rfl) hJ ?_
   have hl := zcg _ hn 19 (by decide)
   obtain ⟨nd, hA⟩ : ∃ nd, SyA w gb r' c' gx gf x q1 true q3 q4 q5 q6 (nd, s.2) W := (match h0 : L 17 with | false => ⟨_, hJ.1 hl h0⟩ | true => ⟨_, hJ.2.1 hl h0⟩)
   clear hJ
   have y := zaf hA.bx 2
   generalize hev : Act.eval (zap _ _ _ _) = ev
   have t137 : ev (.tmp 137) = .pointer (some ⟨gx, 2, none⟩) := by rw [← hev]; rfl
   clear hev
   first | (go_simp; done) | (go_simp; rfl)
 · refine fun L W hu hd hn hJ => zbp (by rfl) hJ ?_
   generalize hev : Act.eval (zap _ _ _ _) = ev
   have t136 : ev (.tmp 136) = .slice (some ⟨r', 0, none⟩) 6 c' := by rw [← hev]; rfl
   have t138 : ev (.tmp 138) = .int .i64 x.f2 := by rw [← hev]; rfl
   clear hev
   first | (go_simp; done) | (go_simp; rfl)
 · refine fun L W hu hd hn hJ => zbp (by rfl) hJ ?_
   have hl := zcg _ hn 19 (by decide)
   obtain ⟨nd, hA⟩ : ∃ nd, SyA w gb r' c' gx gf x q1 true q3 q4 q5 q6 (nd, s.2) W := (match h0 : L 17 with | false => ⟨_, hJ.1 hl h0⟩ | true => ⟨_, hJ.2.1 hl h0⟩)
   clear hJ
   obtain ⟨y, _⟩ := Kd.R_celln 0 hA.nam x.f2 o2 p2
   generalize hev : Act.eval (zap _ _ _ _) = ev
   have t139 : ev (.tmp 139) = .pointer (some ⟨r', x.f2.toNat, none⟩) := by rw [← hev]; rfl
   clear hev
   first | (go_simp; done) | (go_simp; rfl)
 · refine fun L W hu hd hn hJ => zbp (by rfl) hJ ?_
   generalize hev : Act.eval (zap _ _ _ _) = ev
   have t7 : ev (.tmp 7) = .slice (some ⟨r', 0, none⟩) 6 c' := by rw [← hev]; rfl
   clear hev
   first | (go_simp; done) | (go_simp; rfl)
 · refine fun L W hu hd hn hJ => zbp (by rfl) hJ ?_
   generalize hev : Act.eval (zap _ _ _ _) = ev
   have t10 : ev (.tmp 10) = .pointer (some ⟨gx, 0, none⟩) := by rw [← hev]; rfl
   clear hev
   first | (go_simp; done) | (go_simp; rfl)
 · refine fun L W hu hd hn hJ => zbp (by rfl) hJ ?_
   have hl := zcg _ hn 19 (by decide)
   obtain ⟨nd, hA⟩ : ∃ nd, SyA w gb r' c' gx gf x q1 true q3 q4 q5 q6 (nd, s.2) W := (match h0 : L 17 with | false => ⟨_, hJ.1 hl h0⟩ | true => ⟨_, hJ.2.1 hl h0⟩)
   clear hJ
   have y := zaf hA.bx 3
   generalize hev : Act.eval (zap _ _ _ _) = ev
   have t142 : ev (.tmp 142) = .pointer (some ⟨gx, 3, none⟩) := by rw [← hev]; rfl
   clear hev
   first | (go_simp; done) | (go_simp; rfl)
 · refine fun L W hu hd hn hJ => zbp (by rfl) hJ ?_
   generalize hev : Act.eval (zap _ _ _ _) = ev
   have t141 : ev (.tmp 141) = .slice (some ⟨r', 0, none⟩) 6 c' := by rw [← hev]; rfl
   have t143 : ev (.tmp 143) = .int .i64 x.f3 := by rw [← hev]; rfl
   clear hev
   first | (go_simp; done) | (go_simp; rfl)
 · refine fun L W hu hd hn hJ => zbp (by rfl) hJ ?_
   have hl := zcg _ hn 19 (by decide)
   obtain ⟨nd, hA⟩ : ∃ nd, SyA w gb r' c' gx gf x q1 true q3 q4 q5 q6 (nd, s.2) W := (match h0 : L 17 with | false => ⟨_, hJ.1 hl h0⟩ | true => ⟨_, hJ.2.1 hl h0⟩)
   clear hJ
   obtain ⟨y, _⟩ := Kd.R_celln 0 hA.nam x.f3 o3 p3
   generalize hev : Act.eval (zap _ _ _ _) = ev
   have t144 : ev (.tmp 144) = .pointer (some ⟨r', x.f3.toNat, none⟩) := by rw [← hev]; rfl
   clear hev
   first | (go_simp; done) | (go_simp; rfl)
 · refine fun L W hu hd hn hJ => zbp (by rfl) hJ ?_
   generalize hev : Act.eval (zap _ _ _ _) = ev
   have t135 : ev (.tmp 135) = .string q6 := by rw [← hev]; rfl
   have t140 : ev (.tmp 140) = .int .i64 (rdOf 0 s.2 x.f2) := by rw [← hev]; rfl
   have t145 : ev (.tmp 145) = .int .i64 (rdOf 0 s.2 x.f3) := by rw [← hev]; rfl
   have tc : ∀ v, ev (.const v) = v := fun v => by rw [← hev]; rfl
   clear hev
   first | (go_simp; done) | (go_simp; rfl)
 · intro L W hu hd hn hJ
   have hl := zcg _ hn 19 (by decide)
   refine zj8 Try.func115 (by kernel_rfl) rfl (f := 115) (p := .pointer (some ⟨gb, 0, none⟩)) (v1 := .agg #[.string q6, .int .i64 (rdOf 0 s.2 x.f2), .int .i64 (rdOf 0 s.2 x.f3), .int .i64 0]) (by rfl) rfl (by rfl) (by rfl) ?_
   refine (zmn (hJ.1 hl hu) NE.out.1 NE.out.2 NEF.out.1 NEF.out.2.1 q6 (rdOf 0 s.2 x.f2) (rdOf 0 s.2 x.f3) 0 (by have := HLN.out; simp; omega)).mono ?_
   rintro e W' ⟨he, hA⟩
   exact ⟨he, fun _ h => by simp [riUp] at h, fun _ _ => hA, fun h => absurd (h.symm.trans hl) (by simp)⟩
 · refine fun L W hu hd hn hJ => zbp (by rfl) hJ ?_
   generalize hev : Act.eval (zap _ _ _ _) = ev
   have t130 : ev (.tmp 130) = .slice (some ⟨r', 0, none⟩) 6 c' := by rw [← hev]; rfl
   have t132 : ev (.tmp 132) = .int .i64 x.f1 := by rw [← hev]; rfl
   clear hev
   first | (go_simp; done) | (go_simp; rfl)
 · intro L W hu hd hn hJ
   have h0 := zcg _ hd 17 (by decide)
   obtain ⟨vo2, hA⟩ := hJ.2.1 hu h0
   have hX := hA.sx.setn x.f1 n1.length
   refine zmi (by rfl) rfl rfl ⟨fun h => by simp [riUp] at h, fun h => by simp [riUp] at h, fun _ => ⟨vo2, hX⟩⟩ ?_
   obtain ⟨y, y'⟩ := Kd.R_celln 0 hA.sx.nam x.f1 o1 p1
   clear hJ hX
   generalize hev : Act.eval (zap _ _ _ _) = ev
   have t147 : ev (.tmp 147) = .int .i64 n1.length := by rw [← hev]; rfl
   have t148 : ev (.tmp 148) = .pointer (some ⟨r', x.f1.toNat, none⟩) := by rw [← hev]; rfl
   clear hev
   first | (go_simp; done) | (go_simp; rfl)
 · intro L W hL hJ
   obtain ⟨vo2, hX⟩ := hJ.2.2 (hL 19 rfl)
   have HX2 := zA hX
   clear hX hJ hL hA0
   simp only [zap, riGo, zb2, zby, zc3, zdl, Nat.reduceBEq, Nat.reduceAdd, List.headD, List.tail, List.getD, List.getElem?_cons_zero, List.getElem?_cons_succ, Option.getD_some, cond_true, cond_false]
   go_wp2_with fail
   go_roundw
   case rel =>
     refine ⟨u + 1, _, vo2, by go_num, by omega, HX2, ⟨?_⟩⟩
     have h := HS1.out
     unfold syDo at h
     simp only at h
     rw [if_neg E1.out, if_neg E2.out, if_neg E3.out, ← HN1.out, if_neg (by have := HIM.out; omega), if_pos trivial] at h
     exact h
   case measure => simp [intOf]; omega
theorem ziy : ∀ a0 a1 k, LeO (zdm k a0 a1) (zdm (k + 1) a0 a1) := by
 intro a0 a1 k
 unfold zdm
 exact zai (LeO.bind (LeO.refl _) (fun _ => zai (LeO.bind (zm5 _ _ _) (fun _ => LeO.bind (zmm _ _) (fun _ => LeO.bind (zlu _ _) (fun _ => LeO.refl _)))) (LeO.refl _))) (LeO.refl _)
end Go.Proofs.Ytkfkbmlbpeojaaa.Q
end
section
namespace Go.Proofs.Ytkfkbmlbpeojaaa.Q
open Go.RowKit Go.Proofs.YtkfkbmlbpeojaaaW.PrintWords Go.Proofs.YtkfkbmlbpeojaaaW.PrintLast Go.Proofs.YtkfkbmlbpeojaaaW.PrintMore
attribute [local go_sem] zcz zc0 zd1 zd2 zcl zcm zc1 zc2
set_option linter.unusedVariables false
set_option linter.unusedSimpArgs false
def zbe : Nat → List (S94) → Int → Bool → Option ((List (S72)) × Bool)
 | 0, _, _, _ => none
 | k + 1, x0, x1, x15 => if x15 = true then (some (([] : List (S72)), false)) else ((zdm k x0 x1).bind fun bt103 => (if bt103.2 = true then (some (bt103.1, true)) else (some (([] : List (S72)), false))))
def zep (k : Nat) (l0 : List (S94)) (a1 : Int) : Option ((List (S72)) × Bool) := (zel k l0).bind fun t101 => (if t101 = true then ((zch a1).bind fun t102 => (zbe k l0 a1 (!t102))) else (zbe k l0 a1 true))
theorem zgz : ∀ k, (∀ y0 y1 y2, LeO (zbe k y0 y1 y2) (zbe (k + 1) y0 y1 y2))
 | 0 => fun _ _ _ r h => by simp [zbe] at h
 | k + 1 => by
   have ih0 := zgz k
   · intro y0 y1 y2
     unfold zbe
     repeat' first
     | (with_reducible first | exact ih0 _ _ _ | exact zia _ _ | exact ziy _ _ _ | exact LeO.refl _ | exact LeO.none _ | refine zai ?_ ?_ | refine LeO.bind ?_ (fun _ => ?_))
     | exact LeO.none _
     | refine zai ?_ ?_
     | refine LeO.bind ?_ (fun _ => ?_)
theorem zpu : ∀ a0 a1 k, LeO (zep k a0 a1) (zep (k + 1) a0 a1) := by
 intro a0 a1 k
 have ih0 := zgz k
 unfold zep
 repeat' first
     | (with_reducible first | exact ih0 _ _ _ | exact zia _ _ | exact ziy _ _ _ | exact LeO.refl _ | exact LeO.none _ | refine zai ?_ ?_ | refine LeO.bind ?_ (fun _ => ?_))
     | exact LeO.none _
     | refine zai ?_ ?_
     | refine LeO.bind ?_ (fun _ => ?_)
set_option maxHeartbeats 8000000 in
set_option maxRecDepth 100000 in
theorem zhb (k : Nat) (A0 : Option Addr) (c0 : Nat) (l0 : List (S94)) (a1 : Int) (r1 : List (S72)) (r2 : Bool) (w : World) (hr0 : Kd.C k94 w A0 l0.length l0) (hc0 : l0.length ≤ c0) (h : zep k l0 a1 = some (r1, r2)) :
   Calls Try.prog 28 #[.slice A0 l0.length c0, .int .i64 a1] w fun e w' => ∃ v0_ : Value, e = .returned (.tuple #[v0_, .bool r2]) ∧ Kd.R k72 72 w' w.heap.size (fun _ => True) v0_ r1 ∧ Below w.heap.size w w' := by
 have HR0 := zA hr0
 have HC0 := zA hc0
 clear hr0 hc0
 have HB := zA (Below.refl w.heap.size w)
 have H : ((zel k l0).bind fun t101 => (if t101 = true then ((zch a1).bind fun t102 => (zbe k l0 a1 (!t102))) else (zbe k l0 a1 true))) = some (r1, r2) := h
 clear h
 have HC3 := zA H
 clear H
 go_enter Try.func28, Try.ntmps28
 go_upto_region 1 with (fail)
 go_cut [15] (fun v15 wc => ∃ (kq : Nat) (x15_2 : Bool), v15 = .bool x15_2 ∧ Aside0 (zbe kq l0 a1 x15_2 = some (r1, r2)) ∧ Aside0 (kq ≤ k) ∧ Aside0 (Below w.heap.size w wc))
 case first =>
   have H := HC3.out
   clear HC3
   replace H := zob H
   obtain ⟨t101, A40, H⟩ := H
   replace H : (if t101 = true then ((zch a1).bind fun t102 => (zbe k l0 a1 (!t102))) else (zbe k l0 a1 true)) = some (r1, r2) := H
   have A4 := zA A40
   clear A40
   by_cases c5 : t101 = true
   rotate_left
   · replace c5 := zbf c5
     subst c5
     replace H : (zbe k l0 a1 true) = some (r1, r2) := by rw [if_neg (show ¬ (false = true) by decide)] at H; exact H
     have H' := zA H
     clear H
     go_wp2_with (first | ((with_reducible refine zah (f := 59) rfl ?_); refine za3 (some 9) rfl rfl Try.func59 (by kernel_rfl) rfl #[.slice A0 l0.length c0] rfl (by (try simp only [List.map_toArray, List.map_cons, List.map_nil]); first | done | rfl | (simp only [List.length_drop, List.length_take]; rfl)) ?_; (with_reducible refine (zhl k _ _ l0 false _ ?side1 ?side2 A4.out).mono ?_); (case side1 => repeat (first | exact (zCb HR0.out HB.out) | (with_reducible first | refine zCa ?_ _ | refine zCn ?_ _ | refine zCd ?_))); (case side2 => exact HC0.out); rintro e w8 ⟨rfl, hb⟩; refine ⟨_, rfl, ?_⟩; have n0_ := zA (zag (by repeat (first | (with_reducible first | exact HB.out | apply zba | apply zbn | apply zbd) | exact HB.out)) hb); clear HB; have HB := n0_; clear n0_; (try clear hb)))
     go_meet
     case rel => exact ⟨_, (true), (by first | rfl | (simp; done) | (simp [*]; done)), H', ⟨by first | omega | exact zlr _⟩, ⟨by repeat (first | (with_reducible first | exact HB.out | apply zba | apply zbn | apply zbd) | exact HB.out)⟩⟩
   subst c5
   replace H : ((zch a1).bind fun t102 => (zbe k l0 a1 (!t102))) = some (r1, r2) := by rw [if_pos rfl] at H; exact H
   replace H := zob H
   obtain ⟨t102, A60, H⟩ := H
   replace H : (zbe k l0 a1 (!t102)) = some (r1, r2) := H
   have A6 := zA A60
   clear A60
   have H' := zA H
   clear H
   go_wp2_with (first | ((with_reducible refine zah (f := 59) rfl ?_); refine za3 (some 9) rfl rfl Try.func59 (by kernel_rfl) rfl #[.slice A0 l0.length c0] rfl (by (try simp only [List.map_toArray, List.map_cons, List.map_nil]); first | done | rfl | (simp only [List.length_drop, List.length_take]; rfl)) ?_; (with_reducible refine (zhl k _ _ l0 true _ ?side1 ?side2 A4.out).mono ?_); (case side1 => repeat (first | exact (zCb HR0.out HB.out) | (with_reducible first | refine zCa ?_ _ | refine zCn ?_ _ | refine zCd ?_))); (case side2 => exact HC0.out); rintro e w7 ⟨rfl, hb⟩; refine ⟨_, rfl, ?_⟩; have n0_ := zA (zag (by repeat (first | (with_reducible first | exact HB.out | apply zba | apply zbn | apply zbd) | exact HB.out)) hb); clear HB; have HB := n0_; clear n0_; (try clear hb)) | (go_at_call 56; (with_reducible refine (zev a1 t102 _ A6.out).mono ?_); rintro e w' ⟨rfl, ⟨nd, rfl⟩⟩))
   go_meet
   case rel => exact ⟨_, (!t102), (by first | rfl | (simp; done) | (simp [*]; done)), H', ⟨by first | omega | exact zlr _⟩, ⟨by repeat (first | (with_reducible first | exact HB.out | apply zba | apply zbn | apply zbd) | exact HB.out)⟩⟩
 clear HC3
 try clear c2
 try clear p2
 try clear c5
 obtain ⟨kq, x15_2, rfl, HA, HJ2, HB⟩ := hcut
 cases kq with
 | zero => exact absurd HA.out (by simp [zbe])
 | succ kj2 =>
 have H := HA.out
 clear HA
 simp only [zbe] at H
 by_cases c9 : x15_2 = true
 · subst c9
   replace H : (some (([] : List (S72)), false)) = some (r1, r2) := by rw [if_pos rfl] at H; exact H
   simp only [Option.some.injEq, Prod.mk.injEq] at H
   obtain ⟨rfl, rfl⟩ := H
   go_wp2
   go_ret2
   exact ⟨_, by first | rfl | (simp [zad, zae] <;> rfl) | (simp [*, zad, zae] <;> rfl), by first | exact Kd.R_nil _ _ _ _ _ | exact Kd.N_nil _ _ _ _ _ | exact Kd.V_nil _ _ _ _ _ | exact Kd.Q_nil _ _ _ _ _ | exact Kd.S_nil _ _ _ _ _, by repeat (first | (with_reducible first | exact HB.out | apply zba | apply zbn | apply zbd) | exact HB.out)⟩
 replace c9 := zbf c9
 subst c9
 replace H : ((zdm kj2 l0 a1).bind fun bt103 => (if bt103.2 = true then (some (bt103.1, true)) else (some (([] : List (S72)), false)))) = some (r1, r2) := by rw [if_neg (show ¬ (false = true) by decide)] at H; exact H
 replace H := zob H
 obtain ⟨⟨t103, t104⟩, A100, H⟩ := H
 replace H : (if t104 = true then (some (t103, true)) else (some (([] : List (S72)), false))) = some (r1, r2) := H
 have A10 := zA A100
 clear A100
 by_cases c11 : t104 = true
 · subst c11
   replace H : (some (t103, true)) = some (r1, r2) := by rw [if_pos rfl] at H; exact H
   simp only [Option.some.injEq, Prod.mk.injEq] at H
   obtain ⟨rfl, rfl⟩ := H
   go_wp2_with (first | ((with_reducible refine zah (f := 70) rfl ?_); refine za3 (some 19) rfl rfl Try.func70 (by kernel_rfl) rfl #[.slice A0 l0.length c0, .int .i64 a1] rfl (by (try simp only [List.map_toArray, List.map_cons, List.map_nil]); first | done | rfl | (simp only [List.length_drop, List.length_take]; rfl)) ?_; (with_reducible refine (zie kj2 _ _ l0 a1 t103 true _ ?side1 ?side2 A10.out).mono ?_); (case side1 => repeat (first | exact (zCb HR0.out HB.out) | (with_reducible first | refine zCa ?_ _ | refine zCn ?_ _ | refine zCd ?_))); (case side2 => exact HC0.out); rintro e w12 ⟨v105, rfl, ho0, hb⟩; refine ⟨_, rfl, ?_⟩; have n0_ := zA (Kd.R_lower ho0 (za0 (by repeat (first | (with_reducible first | exact HB.out | apply zba | apply zbn | apply zbd) | exact HB.out)))); have n1_ := zA (zag (by repeat (first | (with_reducible first | exact HB.out | apply zba | apply zbn | apply zbd) | exact HB.out)) hb); clear HB; have HO106 := n0_; have HB := n1_; clear n0_ n1_; (try clear hb); (try clear ho0)))
   go_ret2
   exact ⟨_, by first | rfl | (simp [zad, zae] <;> rfl) | (simp [*, zad, zae] <;> rfl), by (with_reducible repeat (first | apply zRa | apply zRn | apply zRd)); exact HO106.out, by repeat (first | (with_reducible first | exact HB.out | apply zba | apply zbn | apply zbd) | exact HB.out)⟩
 replace c11 := zbf c11
 subst c11
 replace H : (some (([] : List (S72)), false)) = some (r1, r2) := by rw [if_neg (show ¬ (false = true) by decide)] at H; exact H
 simp only [Option.some.injEq, Prod.mk.injEq] at H
 obtain ⟨rfl, rfl⟩ := H
 go_wp2_with (first | ((with_reducible refine zah (f := 70) rfl ?_); refine za3 (some 19) rfl rfl Try.func70 (by kernel_rfl) rfl #[.slice A0 l0.length c0, .int .i64 a1] rfl (by (try simp only [List.map_toArray, List.map_cons, List.map_nil]); first | done | rfl | (simp only [List.length_drop, List.length_take]; rfl)) ?_; (with_reducible refine (zie kj2 _ _ l0 a1 t103 false _ ?side1 ?side2 A10.out).mono ?_); (case side1 => repeat (first | exact (zCb HR0.out HB.out) | (with_reducible first | refine zCa ?_ _ | refine zCn ?_ _ | refine zCd ?_))); (case side2 => exact HC0.out); rintro e w13 ⟨v105, rfl, ho0, hb⟩; refine ⟨_, rfl, ?_⟩; have n0_ := zA (Kd.R_lower ho0 (za0 (by repeat (first | (with_reducible first | exact HB.out | apply zba | apply zbn | apply zbd) | exact HB.out)))); have n1_ := zA (zag (by repeat (first | (with_reducible first | exact HB.out | apply zba | apply zbn | apply zbd) | exact HB.out)) hb); clear HB; have HO106 := n0_; have HB := n1_; clear n0_ n1_; (try clear hb); (try clear ho0)))
 go_ret2
 exact ⟨_, by first | rfl | (simp [zad, zae] <;> rfl) | (simp [*, zad, zae] <;> rfl), by first | exact Kd.R_nil _ _ _ _ _ | exact Kd.N_nil _ _ _ _ _ | exact Kd.V_nil _ _ _ _ _ | exact Kd.Q_nil _ _ _ _ _ | exact Kd.S_nil _ _ _ _ _, by repeat (first | (with_reducible first | exact HB.out | apply zba | apply zbn | apply zbd) | exact HB.out)⟩
def zgn (a0_0 : ByteArray) (a0_1 : Int) (a0_2 : Int) (a0_3 : Int) (a0_4 : Int) (a1_0 : ByteArray) (a1_1 : Int) (a1_2 : Int) (a1_3 : Int) (a1_4 : Int) : Option (Bool) := if a0_0.toList = a1_0.toList then (if a0_1 = a1_1 then (if a0_2 = a1_2 then (if a0_3 = a1_3 then (if a0_4 = a1_4 then (some true) else (some false)) else (some false)) else (some false)) else (some false)) else (some false)
set_option maxHeartbeats 8000000 in
set_option maxRecDepth 100000 in
theorem zho (a0_0 : ByteArray) (a0_1 : Int) (a0_2 : Int) (a0_3 : Int) (a0_4 : Int) (a1_0 : ByteArray) (a1_1 : Int) (a1_2 : Int) (a1_3 : Int) (a1_4 : Int) (r : Bool) (w : World) (h : zgn a0_0 a0_1 a0_2 a0_3 a0_4 a1_0 a1_1 a1_2 a1_3 a1_4 = some r) :
   Calls Try.prog 71 #[.agg #[.string a0_0, .int .i64 a0_1, .int .i64 a0_2, .int .i64 a0_3, .int .i64 a0_4], .agg #[.string a1_0, .int .i64 a1_1, .int .i64 a1_2, .int .i64 a1_3, .int .i64 a1_4]] w fun e w' => e = .returned (.bool r) ∧ Below w.heap.size w w' := by
 have hu57 := Try.underlying57
 have key : r = (!(a0_0.toList != a1_0.toList) && !(a0_1 != a1_1) && !(a0_2 != a1_2) && !(a0_3 != a1_3) && !(a0_4 != a1_4)) := by
   unfold zgn at h
   (repeat' split at h) <;> simp_all
 have HK := zA key
 clear h key
 go_enter Try.func71, Try.ntmps71
 go_wp2
 all_goals
   go_ret
   exact ⟨by rw [HK.out]; simp_all, zba (zba (Below.refl _ _) _) _⟩
def zb1 : Nat → List (S94) → List (S94) → Int → Option (Bool)
 | 0, _, _, _ => none
 | k + 1, x0, x1, x5 => if x5 < (x0.length : Int) then (if 0 ≤ x5 then (if x5 < (x1.length : Int) then ((zgn ((zaa x0 x5).f0) ((zaa x0 x5).f1) ((zaa x0 x5).f2) ((zaa x0 x5).f3) ((zaa x0 x5).f4) ((zaa x1 x5).f0) ((zaa x1 x5).f1) ((zaa x1 x5).f2) ((zaa x1 x5).f3) ((zaa x1 x5).f4)).bind fun t103 => (if t103 = true then (zb1 k x0 x1 (wrap64 (x5 + 1))) else (some false))) else (none)) else (none)) else (some true)
def zeq (k : Nat) (l0 : List (S94)) (l1 : List (S94)) : Option (Bool) := if (l0.length : Int) = (l1.length : Int) then (zb1 k l0 l1 0) else (some false)
theorem zg0 : ∀ k, (∀ y0 y1 y2, LeO (zb1 k y0 y1 y2) (zb1 (k + 1) y0 y1 y2))
 | 0 => fun _ _ _ r h => by simp [zb1] at h
 | k + 1 => by
   have ih0 := zg0 k
   · intro y0 y1 y2
     unfold zb1
     repeat' first
     | (with_reducible first | exact ih0 _ _ _ | exact LeO.refl _ | exact LeO.none _ | refine zai ?_ ?_ | refine LeO.bind ?_ (fun _ => ?_))
     | exact LeO.none _
     | refine zai ?_ ?_
     | refine LeO.bind ?_ (fun _ => ?_)
theorem zpv : ∀ a0 a1 k, LeO (zeq k a0 a1) (zeq (k + 1) a0 a1) := by
 intro a0 a1 k
 have ih0 := zg0 k
 unfold zeq
 repeat' first
     | (with_reducible first | exact ih0 _ _ _ | exact LeO.refl _ | exact LeO.none _ | refine zai ?_ ?_ | refine LeO.bind ?_ (fun _ => ?_))
     | exact LeO.none _
     | refine zai ?_ ?_
     | refine LeO.bind ?_ (fun _ => ?_)
def laws_eqInstrS.T6 : Bool × List (List Nat × List Nat) := (true, [([], []), ([], []), ([0, 1], [0, 1]), ([2], [2]), ([], []), ([], []), ([4, 5], [4, 5]), ([6], [6]), ([3, 7], [3, 7]), ([8], [8])])
def zlx : List Nat := [0, 0, 3, 7, 0, 0, 48, 112, 255, 511]
theorem zhp : rtab .any (zqm Try.f29 6) = laws_eqInstrS.T6 := by kernel_rfl
theorem zhc : zh7 laws_eqInstrS.T6.2 zlx = true := by kernel_rfl
set_option maxHeartbeats 8000000 in
set_option maxRecDepth 100000 in
theorem zjw (k : Nat) (A0 : Option Addr) (c0 : Nat) (l0 : List (S94)) (A1 : Option Addr) (c1 : Nat) (l1 : List (S94)) (r : Bool) (w : World) (hr0 : Kd.C k94 w A0 l0.length l0) (hc0 : l0.length ≤ c0) (hr1 : Kd.C k94 w A1 l1.length l1) (hc1 : l1.length ≤ c1) (h : zeq k l0 l1 = some r) :
   Calls Try.prog 29 #[.slice A0 l0.length c0, .slice A1 l1.length c1] w fun e w' => e = .returned (.bool r) ∧ Below w.heap.size w w' := by
 have hu94 := Try.underlying94
 have HR0 := zA hr0
 have HC0 := zA hc0
 clear hr0 hc0
 have HR1 := zA hr1
 have HC1 := zA hc1
 clear hr1 hc1
 have HB := zA (Below.refl w.heap.size w)
 have H : (if (l0.length : Int) = (l1.length : Int) then (zb1 k l0 l1 0) else (some false)) = some r := h
 clear h
 by_cases c3 : (l0.length : Int) = (l1.length : Int)
 rotate_left
 · rw [if_neg c3] at H
   have c3b0 : ((l0.length : Int) == (l1.length : Int)) = false := beq_eq_false_iff_ne.mpr c3
   have c3b1 : ((l0.length : Int) != (l1.length : Int)) = true := bne_iff_ne.mpr c3
   have c3b2 : (l0.length == l1.length) = false := by first | simpa using c3 | (simp at c3 ⊢; omega)
   obtain rfl := zsi H
   go_enter Try.func29, Try.ntmps29
   go_wp2
   go_ret
   exact ⟨by first | rfl | (simp [zad, zae] <;> rfl) | (simp [*, zad, zae] <;> rfl), by repeat (first | (with_reducible first | exact HB.out | apply zba | apply zbn | apply zbd) | exact HB.out)⟩
 rw [if_pos c3] at H
 have c3b0 : ((l0.length : Int) == (l1.length : Int)) = true := beq_iff_eq.mpr c3
 have c3b1 : ((l0.length : Int) != (l1.length : Int)) = false := bne_eq_false_iff_eq.mpr c3
 have c3b2 : (l0.length == l1.length) = true := by first | simpa using c3 | (simp at c3 ⊢; omega)
 clear c3
 have H' := zA H
 clear H
 go_enter Try.func29, Try.ntmps29
 go_wp2
 go_loopg [5] k (fun kq v5 w' => ∃ (x5_1 : Int), v5 = .int .i64 x5_1 ∧ Aside0 (zb1 kq l0 l1 x5_1 = some r) ∧ Aside0 (kq ≤ k) ∧ Aside0 (Below w.heap.size w w'))
 case atStart => exact ⟨(0), (by first | rfl | (simp; done) | (simp [*]; done)), H', ⟨zlr _⟩, ⟨by repeat (first | (with_reducible first | exact HB.out | apply zba | apply zbn | apply zbd) | exact HB.out)⟩⟩
 clear H'
 try clear c1
 try clear c2
 try clear p2
 try clear c3
 try clear c3b0
 try clear c3b1
 try clear c3b2
 obtain ⟨x5_1, rfl, HA, HK1, HB⟩ := hrel
 cases gk with
 | zero => exact absurd HA.out (by simp [zb1])
 | succ k1 =>
 have H := HA.out
 clear HA
 simp only [zb1] at H
 by_cases c4 : x5_1 < (l0.length : Int)
 rotate_left
 · rw [if_neg c4] at H
   have c4b0 : decide (x5_1 < (l0.length : Int)) = false := zdf c4
   clear c4
   obtain rfl := zsi H
   go_wp2
   go_ret
   exact ⟨by first | rfl | (simp [zad, zae] <;> rfl) | (simp [*, zad, zae] <;> rfl), by repeat (first | (with_reducible first | exact HB.out | apply zba | apply zbn | apply zbd) | exact HB.out)⟩
 rw [if_pos c4] at H
 have c4b0 : decide (x5_1 < (l0.length : Int)) = true := zdt c4
 clear c4
 by_cases c5 : 0 ≤ x5_1
 rotate_left
 · rw [if_neg c5] at H
   exact absurd H (by simp)
 rw [if_pos c5] at H
 have c5b0 : decide (0 ≤ x5_1) = true := zdt c5
 clear c5
 by_cases c6 : x5_1 < (l1.length : Int)
 rotate_left
 · rw [if_neg c6] at H
   exact absurd H (by simp)
 rw [if_pos c6] at H
 have c6b0 : decide (x5_1 < (l1.length : Int)) = true := zdt c6
 clear c6
 replace H := zob H
 obtain ⟨t103, A70, H⟩ := H
 replace H : (if t103 = true then (zb1 k1 l0 l1 (wrap64 (x5_1 + 1))) else (some false)) = some r := H
 have A7 := zA A70
 clear A70
 by_cases c8 : t103 = true
 rotate_left
 · replace c8 := zbf c8
   subst c8
   replace H : (some false) = some r := by rw [if_neg (show ¬ (false = true) by decide)] at H; exact H
   obtain rfl := zsi H
   try go_wp2
   have n0_ := zA (zbd HB.out)
   clear HB
   have HB := n0_
   clear n0_
   have p101 : 0 ≤ (x5_1 : Int) := zde (by assumption)
   have q101 : x5_1 < (l0.length : Int) := zde (by assumption)
   obtain ⟨ad101, e101, hx101_0, hx101_1, hx101_2, hx101_3, hx101_4⟩ := ziv HR0.out x5_1 p101 q101
   have hw101_4 := hx101_4
   have hw101_3 := hx101_3
   have hw101_2 := hx101_2
   have hw101_1 := hx101_1
   have hw101_0 := hx101_0
   cases e101
   replace hx101_0 := zkep HB.out hx101_0
   replace hx101_1 := zkep HB.out hx101_1
   replace hx101_2 := zkep HB.out hx101_2
   replace hx101_3 := zkep HB.out hx101_3
   replace hx101_4 := zkep HB.out hx101_4
   replace p101 := eq_true p101
   replace q101 := eq_true q101
   have p102 : 0 ≤ (x5_1 : Int) := zde (by assumption)
   have q102 : x5_1 < (l1.length : Int) := zde (by assumption)
   obtain ⟨ad102, e102, hx102_0, hx102_1, hx102_2, hx102_3, hx102_4⟩ := ziv HR1.out x5_1 p102 q102
   have hw102_4 := hx102_4
   have hw102_3 := hx102_3
   have hw102_2 := hx102_2
   have hw102_1 := hx102_1
   have hw102_0 := hx102_0
   cases e102
   replace hx102_0 := zkep HB.out hx102_0
   replace hx102_1 := zkep HB.out hx102_1
   replace hx102_2 := zkep HB.out hx102_2
   replace hx102_3 := zkep HB.out hx102_3
   replace hx102_4 := zkep HB.out hx102_4
   replace p102 := eq_true p102
   replace q102 := eq_true q102
   refine zks (n := 10) (S := fun w' => w'.cell? (ad101.add ((x5_1).toNat * 5)) = some (.string ((zaa l0 x5_1).f0)) ∧ w'.cell? ⟨(ad101.add ((x5_1).toNat * 5)).block, (ad101.add ((x5_1).toNat * 5)).off + 1, none⟩ = some (.int .i64 ((zaa l0 x5_1).f1)) ∧ w'.cell? ⟨(ad101.add ((x5_1).toNat * 5)).block, (ad101.add ((x5_1).toNat * 5)).off + 2, none⟩ = some (.int .i64 ((zaa l0 x5_1).f2)) ∧ w'.cell? ⟨(ad101.add ((x5_1).toNat * 5)).block, (ad101.add ((x5_1).toNat * 5)).off + 3, none⟩ = some (.int .i64 ((zaa l0 x5_1).f3)) ∧ w'.cell? ⟨(ad101.add ((x5_1).toNat * 5)).block, (ad101.add ((x5_1).toNat * 5)).off + 4, none⟩ = some (.int .i64 ((zaa l0 x5_1).f4)) ∧ w'.cell? (ad102.add ((x5_1).toNat * 5)) = some (.string ((zaa l1 x5_1).f0)) ∧ w'.cell? ⟨(ad102.add ((x5_1).toNat * 5)).block, (ad102.add ((x5_1).toNat * 5)).off + 1, none⟩ = some (.int .i64 ((zaa l1 x5_1).f1)) ∧ w'.cell? ⟨(ad102.add ((x5_1).toNat * 5)).block, (ad102.add ((x5_1).toNat * 5)).off + 2, none⟩ = some (.int .i64 ((zaa l1 x5_1).f2)) ∧ w'.cell? ⟨(ad102.add ((x5_1).toNat * 5)).block, (ad102.add ((x5_1).toNat * 5)).off + 3, none⟩ = some (.int .i64 ((zaa l1 x5_1).f3)) ∧ w'.cell? ⟨(ad102.add ((x5_1).toNat * 5)).block, (ad102.add ((x5_1).toNat * 5)).off + 4, none⟩ = some (.int .i64 ((zaa l1 x5_1).f4))) (ds := []) #[false, false, false, false, false, false, false, false, false, false] (by kernel_rfl) rfl rfl ⟨(zkep HB.out hw101_0), (zkep HB.out hw101_1), (zkep HB.out hw101_2), (zkep HB.out hw101_3), (zkep HB.out hw101_4), (zkep HB.out hw102_0), (zkep HB.out hw102_1), (zkep HB.out hw102_2), (zkep HB.out hw102_3), (zkep HB.out hw102_4)⟩ (fun hHeld => ?_); refine zgu zhp zhc (fun HT_ HW_ => ?_)
   generalize wr.drew = w11 at HB hx101_0 hx101_1 hx101_2 hx101_3 hx101_4 hx102_0 hx102_1 hx102_2 hx102_3 hx102_4 hHeld ⊢
   refine zcs (i := 0) (N := some 17) (v := ?_) (a' := ?_) #[true, false, false, false, false, false, false, false, false, false] rfl rfl (zbs HT_.out (by kernel_rfl)) (fun _ _ _ h => h) (Or.inl ⟨by rfl, ?_⟩) ?_ ?_
   rotate_left
   · intro w'
     go_simp
     with_reducible rfl
   rotate_left
   · simp only [Act.put, List.setIfInBounds_toArray, List.set_cons_zero, List.set_cons_succ, za4, za6]
     rfl
   refine zcs (i := 1) (N := some 18) (v := ?_) (a' := ?_) #[true, true, false, false, false, false, false, false, false, false] rfl rfl (zbs HT_.out (by kernel_rfl)) (fun _ _ _ h => h) (Or.inl ⟨by rfl, ?_⟩) ?_ ?_
   rotate_left
   · intro w'
     go_simp
     with_reducible rfl
   rotate_left
   · simp only [Act.put, List.setIfInBounds_toArray, List.set_cons_zero, List.set_cons_succ, za4, za6]
     rfl
   refine zcs (i := 2) (N := some 19) (v := ?_) (a' := ?_) #[true, true, true, false, false, false, false, false, false, false] rfl rfl (zbs HT_.out (by kernel_rfl)) (fun _ _ _ h => h) (Or.inl ⟨by rfl, ?_⟩) ?_ ?_
   rotate_left
   · intro w'
     go_simp
     with_reducible rfl
   rotate_left
   · simp only [Act.put, List.setIfInBounds_toArray, List.set_cons_zero, List.set_cons_succ, za4, za6]
     rfl
   refine zcs (i := 4) (N := some 21) (v := ?_) (a' := ?_) #[true, true, true, false, true, false, false, false, false, false] rfl rfl (zbs HT_.out (by kernel_rfl)) (fun _ _ _ h => h) (Or.inl ⟨by rfl, ?_⟩) ?_ ?_
   rotate_left
   · intro w'
     go_simp
     with_reducible rfl
   rotate_left
   · simp only [Act.put, List.setIfInBounds_toArray, List.set_cons_zero, List.set_cons_succ, za4, za6]
     rfl
   refine zcs (i := 5) (N := some 22) (v := ?_) (a' := ?_) #[true, true, true, false, true, true, false, false, false, false] rfl rfl (zbs HT_.out (by kernel_rfl)) (fun _ _ _ h => h) (Or.inl ⟨by rfl, ?_⟩) ?_ ?_
   rotate_left
   · intro w'
     go_simp
     with_reducible rfl
   rotate_left
   · simp only [Act.put, List.setIfInBounds_toArray, List.set_cons_zero, List.set_cons_succ, za4, za6]
     rfl
   refine zcs (i := 6) (N := some 23) (v := ?_) (a' := ?_) #[true, true, true, false, true, true, true, false, false, false] rfl rfl (zbs HT_.out (by kernel_rfl)) (fun _ _ _ h => h) (Or.inl ⟨by rfl, ?_⟩) ?_ ?_
   rotate_left
   · intro w'
     go_simp
     with_reducible rfl
   rotate_left
   · simp only [Act.put, List.setIfInBounds_toArray, List.set_cons_zero, List.set_cons_succ, za4, za6]
     rfl
   refine take_ (i := 3) (N := some 20) (v := ?_) (a' := ?_) #[true, true, true, true, true, true, true, false, false, false] rfl rfl (zd3 HT_.out HW_.out (by kernel_rfl)) (fun _ _ _ h => h) (Or.inl ⟨by rfl, ?_⟩) hHeld ?_ ?_
   rotate_left
   · rintro w' ⟨s0, s1, s2, s3, s4, s5, s6, s7, s8, s9⟩
     go_simp
     with_reducible rfl
   rotate_left
   · simp only [Act.put, List.setIfInBounds_toArray, List.set_cons_zero, List.set_cons_succ, za4, za6]
     rfl
   refine take_ (i := 7) (N := some 24) (v := ?_) (a' := ?_) #[true, true, true, true, true, true, true, true, false, false] rfl rfl (zd3 HT_.out HW_.out (by kernel_rfl)) (fun _ _ _ h => h) (Or.inl ⟨by rfl, ?_⟩) hHeld ?_ ?_
   rotate_left
   · rintro w' ⟨s0, s1, s2, s3, s4, s5, s6, s7, s8, s9⟩
     go_simp
     with_reducible rfl
   rotate_left
   · simp only [Act.put, List.setIfInBounds_toArray, List.set_cons_zero, List.set_cons_succ, za4, za6]
     rfl
   refine one_ (i := 8) (N := some 25) #[true, true, true, true, true, true, true, true, true, false] rfl rfl (zky HT_.out (by kernel_rfl)) (by decide) (fun K hK => ?_)
   refine zku Try.func71 (by kernel_rfl) rfl #[.agg #[.string ((zaa l0 x5_1).f0), .int .i64 ((zaa l0 x5_1).f1), .int .i64 ((zaa l0 x5_1).f2), .int .i64 ((zaa l0 x5_1).f3), .int .i64 ((zaa l0 x5_1).f4)], .agg #[.string ((zaa l1 x5_1).f0), .int .i64 ((zaa l1 x5_1).f1), .int .i64 ((zaa l1 x5_1).f2), .int .i64 ((zaa l1 x5_1).f3), .int .i64 ((zaa l1 x5_1).f4)]] (by rfl) rfl rfl (by (try simp only [List.map_toArray, List.map_cons, List.map_nil]); first | done | rfl | (simp only [List.length_drop, List.length_take]; rfl)) ?_
   with_reducible refine (zho ((zaa l0 x5_1).f0) ((zaa l0 x5_1).f1) ((zaa l0 x5_1).f2) ((zaa l0 x5_1).f3) ((zaa l0 x5_1).f4) ((zaa l1 x5_1).f0) ((zaa l1 x5_1).f1) ((zaa l1 x5_1).f2) ((zaa l1 x5_1).f3) ((zaa l1 x5_1).f4) false _ A7.out).mono ?_
   rintro e w12 ⟨rfl, hb⟩
   refine ⟨_, rfl, ?_⟩
   have n0_ := zA (zag (by repeat (first | (with_reducible first | exact HB.out | apply zba | apply zbn | apply zbd) | exact HB.out)) hb)
   clear HB
   have HB := n0_
   clear n0_
   (try clear hb)
   (try clear hb2)
   (try clear hk)
   (try clear hi)
   refine hK.out _ _ ⟨(zkep HB.out hw101_0), (zkep HB.out hw101_1), (zkep HB.out hw101_2), (zkep HB.out hw101_3), (zkep HB.out hw101_4), (zkep HB.out hw102_0), (zkep HB.out hw102_1), (zkep HB.out hw102_2), (zkep HB.out hw102_3), (zkep HB.out hw102_4)⟩ (fun hHeld => ?_)
   clear hK K
   refine zh6 (a' := ?_) ?_ ?_
   rotate_left
   · show Act.put _ (some 25) _ = _
     simp only [Act.put, List.setIfInBounds_toArray, List.set_cons_zero, List.set_cons_succ, za4, za6]
     rfl
   refine zcs (i := 9) (N := some 26) (v := ?_) (a' := ?_) #[true, true, true, true, true, true, true, true, true, true] rfl rfl (zbs HT_.out (by kernel_rfl)) (fun _ _ _ h => h) (Or.inl ⟨by rfl, ?_⟩) ?_ ?_
   rotate_left
   · intro w'
     go_simp
     with_reducible rfl
   rotate_left
   · simp only [Act.put, List.setIfInBounds_toArray, List.set_cons_zero, List.set_cons_succ, za4, za6]
     rfl
   refine zoc (zjf HT_.out (by kernel_rfl)) ?_
   try go_wp2
   go_ret
   exact ⟨by first | rfl | (simp [zad, zae] <;> rfl) | (simp [*, zad, zae] <;> rfl), by repeat (first | (with_reducible first | exact HB.out | apply zba | apply zbn | apply zbd) | exact HB.out)⟩
 subst c8
 replace H : (zb1 k1 l0 l1 (wrap64 (x5_1 + 1))) = some r := by rw [if_pos rfl] at H; exact H
 have H' := zA H
 clear H
 try go_wp2
 have n0_ := zA (zbd HB.out)
 clear HB
 have HB := n0_
 clear n0_
 have p101 : 0 ≤ (x5_1 : Int) := zde (by assumption)
 have q101 : x5_1 < (l0.length : Int) := zde (by assumption)
 obtain ⟨ad101, e101, hx101_0, hx101_1, hx101_2, hx101_3, hx101_4⟩ := ziv HR0.out x5_1 p101 q101
 have hw101_4 := hx101_4
 have hw101_3 := hx101_3
 have hw101_2 := hx101_2
 have hw101_1 := hx101_1
 have hw101_0 := hx101_0
 cases e101
 replace hx101_0 := zkep HB.out hx101_0
 replace hx101_1 := zkep HB.out hx101_1
 replace hx101_2 := zkep HB.out hx101_2
 replace hx101_3 := zkep HB.out hx101_3
 replace hx101_4 := zkep HB.out hx101_4
 replace p101 := eq_true p101
 replace q101 := eq_true q101
 have p102 : 0 ≤ (x5_1 : Int) := zde (by assumption)
 have q102 : x5_1 < (l1.length : Int) := zde (by assumption)
 obtain ⟨ad102, e102, hx102_0, hx102_1, hx102_2, hx102_3, hx102_4⟩ := ziv HR1.out x5_1 p102 q102
 have hw102_4 := hx102_4
 have hw102_3 := hx102_3
 have hw102_2 := hx102_2
 have hw102_1 := hx102_1
 have hw102_0 := hx102_0
 cases e102
 replace hx102_0 := zkep HB.out hx102_0
 replace hx102_1 := zkep HB.out hx102_1
 replace hx102_2 := zkep HB.out hx102_2
 replace hx102_3 := zkep HB.out hx102_3
 replace hx102_4 := zkep HB.out hx102_4
 replace p102 := eq_true p102
 replace q102 := eq_true q102
 refine zks (n := 10) (S := fun w' => w'.cell? (ad101.add ((x5_1).toNat * 5)) = some (.string ((zaa l0 x5_1).f0)) ∧ w'.cell? ⟨(ad101.add ((x5_1).toNat * 5)).block, (ad101.add ((x5_1).toNat * 5)).off + 1, none⟩ = some (.int .i64 ((zaa l0 x5_1).f1)) ∧ w'.cell? ⟨(ad101.add ((x5_1).toNat * 5)).block, (ad101.add ((x5_1).toNat * 5)).off + 2, none⟩ = some (.int .i64 ((zaa l0 x5_1).f2)) ∧ w'.cell? ⟨(ad101.add ((x5_1).toNat * 5)).block, (ad101.add ((x5_1).toNat * 5)).off + 3, none⟩ = some (.int .i64 ((zaa l0 x5_1).f3)) ∧ w'.cell? ⟨(ad101.add ((x5_1).toNat * 5)).block, (ad101.add ((x5_1).toNat * 5)).off + 4, none⟩ = some (.int .i64 ((zaa l0 x5_1).f4)) ∧ w'.cell? (ad102.add ((x5_1).toNat * 5)) = some (.string ((zaa l1 x5_1).f0)) ∧ w'.cell? ⟨(ad102.add ((x5_1).toNat * 5)).block, (ad102.add ((x5_1).toNat * 5)).off + 1, none⟩ = some (.int .i64 ((zaa l1 x5_1).f1)) ∧ w'.cell? ⟨(ad102.add ((x5_1).toNat * 5)).block, (ad102.add ((x5_1).toNat * 5)).off + 2, none⟩ = some (.int .i64 ((zaa l1 x5_1).f2)) ∧ w'.cell? ⟨(ad102.add ((x5_1).toNat * 5)).block, (ad102.add ((x5_1).toNat * 5)).off + 3, none⟩ = some (.int .i64 ((zaa l1 x5_1).f3)) ∧ w'.cell? ⟨(ad102.add ((x5_1).toNat * 5)).block, (ad102.add ((x5_1).toNat * 5)).off + 4, none⟩ = some (.int .i64 ((zaa l1 x5_1).f4))) (ds := []) #[false, false, false, false, false, false, false, false, false, false] (by kernel_rfl) rfl rfl ⟨(zkep HB.out hw101_0), (zkep HB.out hw101_1), (zkep HB.out hw101_2), (zkep HB.out hw101_3), (zkep HB.out hw101_4), (zkep HB.out hw102_0), (zkep HB.out hw102_1), (zkep HB.out hw102_2), (zkep HB.out hw102_3), (zkep HB.out hw102_4)⟩ (fun hHeld => ?_); refine zgu zhp zhc (fun HT_ HW_ => ?_)
 generalize wr.drew = w9 at HB hx101_0 hx101_1 hx101_2 hx101_3 hx101_4 hx102_0 hx102_1 hx102_2 hx102_3 hx102_4 hHeld ⊢
 refine zcs (i := 0) (N := some 17) (v := ?_) (a' := ?_) #[true, false, false, false, false, false, false, false, false, false] rfl rfl (zbs HT_.out (by kernel_rfl)) (fun _ _ _ h => h) (Or.inl ⟨by rfl, ?_⟩) ?_ ?_
 rotate_left
 · intro w'
   go_simp
   with_reducible rfl
 rotate_left
 · simp only [Act.put, List.setIfInBounds_toArray, List.set_cons_zero, List.set_cons_succ, za4, za6]
   rfl
 refine zcs (i := 1) (N := some 18) (v := ?_) (a' := ?_) #[true, true, false, false, false, false, false, false, false, false] rfl rfl (zbs HT_.out (by kernel_rfl)) (fun _ _ _ h => h) (Or.inl ⟨by rfl, ?_⟩) ?_ ?_
 rotate_left
 · intro w'
   go_simp
   with_reducible rfl
 rotate_left
 · simp only [Act.put, List.setIfInBounds_toArray, List.set_cons_zero, List.set_cons_succ, za4, za6]
   rfl
 refine zcs (i := 2) (N := some 19) (v := ?_) (a' := ?_) #[true, true, true, false, false, false, false, false, false, false] rfl rfl (zbs HT_.out (by kernel_rfl)) (fun _ _ _ h => h) (Or.inl ⟨by rfl, ?_⟩) ?_ ?_
 rotate_left
 · intro w'
   go_simp
   with_reducible rfl
 rotate_left
 · simp only [Act.put, List.setIfInBounds_toArray, List.set_cons_zero, List.set_cons_succ, za4, za6]
   rfl
 refine zcs (i := 4) (N := some 21) (v := ?_) (a' := ?_) #[true, true, true, false, true, false, false, false, false, false] rfl rfl (zbs HT_.out (by kernel_rfl)) (fun _ _ _ h => h) (Or.inl ⟨by rfl, ?_⟩) ?_ ?_
 rotate_left
 · intro w'
   go_simp
   with_reducible rfl
 rotate_left
 · simp only [Act.put, List.setIfInBounds_toArray, List.set_cons_zero, List.set_cons_succ, za4, za6]
   rfl
 refine zcs (i := 5) (N := some 22) (v := ?_) (a' := ?_) #[true, true, true, false, true, true, false, false, false, false] rfl rfl (zbs HT_.out (by kernel_rfl)) (fun _ _ _ h => h) (Or.inl ⟨by rfl, ?_⟩) ?_ ?_
 rotate_left
 · intro w'
   go_simp
   with_reducible rfl
 rotate_left
 · simp only [Act.put, List.setIfInBounds_toArray, List.set_cons_zero, List.set_cons_succ, za4, za6]
   rfl
 refine zcs (i := 6) (N := some 23) (v := ?_) (a' := ?_) #[true, true, true, false, true, true, true, false, false, false] rfl rfl (zbs HT_.out (by kernel_rfl)) (fun _ _ _ h => h) (Or.inl ⟨by rfl, ?_⟩) ?_ ?_
 rotate_left
 · intro w'
   go_simp
   with_reducible rfl
 rotate_left
 · simp only [Act.put, List.setIfInBounds_toArray, List.set_cons_zero, List.set_cons_succ, za4, za6]
   rfl
 refine take_ (i := 3) (N := some 20) (v := ?_) (a' := ?_) #[true, true, true, true, true, true, true, false, false, false] rfl rfl (zd3 HT_.out HW_.out (by kernel_rfl)) (fun _ _ _ h => h) (Or.inl ⟨by rfl, ?_⟩) hHeld ?_ ?_
 rotate_left
 · rintro w' ⟨s0, s1, s2, s3, s4, s5, s6, s7, s8, s9⟩
   go_simp
   with_reducible rfl
 rotate_left
 · simp only [Act.put, List.setIfInBounds_toArray, List.set_cons_zero, List.set_cons_succ, za4, za6]
   rfl
 refine take_ (i := 7) (N := some 24) (v := ?_) (a' := ?_) #[true, true, true, true, true, true, true, true, false, false] rfl rfl (zd3 HT_.out HW_.out (by kernel_rfl)) (fun _ _ _ h => h) (Or.inl ⟨by rfl, ?_⟩) hHeld ?_ ?_
 rotate_left
 · rintro w' ⟨s0, s1, s2, s3, s4, s5, s6, s7, s8, s9⟩
   go_simp
   with_reducible rfl
 rotate_left
 · simp only [Act.put, List.setIfInBounds_toArray, List.set_cons_zero, List.set_cons_succ, za4, za6]
   rfl
 refine one_ (i := 8) (N := some 25) #[true, true, true, true, true, true, true, true, true, false] rfl rfl (zky HT_.out (by kernel_rfl)) (by decide) (fun K hK => ?_)
 refine zku Try.func71 (by kernel_rfl) rfl #[.agg #[.string ((zaa l0 x5_1).f0), .int .i64 ((zaa l0 x5_1).f1), .int .i64 ((zaa l0 x5_1).f2), .int .i64 ((zaa l0 x5_1).f3), .int .i64 ((zaa l0 x5_1).f4)], .agg #[.string ((zaa l1 x5_1).f0), .int .i64 ((zaa l1 x5_1).f1), .int .i64 ((zaa l1 x5_1).f2), .int .i64 ((zaa l1 x5_1).f3), .int .i64 ((zaa l1 x5_1).f4)]] (by rfl) rfl rfl (by (try simp only [List.map_toArray, List.map_cons, List.map_nil]); first | done | rfl | (simp only [List.length_drop, List.length_take]; rfl)) ?_
 with_reducible refine (zho ((zaa l0 x5_1).f0) ((zaa l0 x5_1).f1) ((zaa l0 x5_1).f2) ((zaa l0 x5_1).f3) ((zaa l0 x5_1).f4) ((zaa l1 x5_1).f0) ((zaa l1 x5_1).f1) ((zaa l1 x5_1).f2) ((zaa l1 x5_1).f3) ((zaa l1 x5_1).f4) true _ A7.out).mono ?_
 rintro e w10 ⟨rfl, hb⟩
 refine ⟨_, rfl, ?_⟩
 have n0_ := zA (zag (by repeat (first | (with_reducible first | exact HB.out | apply zba | apply zbn | apply zbd) | exact HB.out)) hb)
 clear HB
 have HB := n0_
 clear n0_
 (try clear hb)
 (try clear hb2)
 (try clear hk)
 (try clear hi)
 refine hK.out _ _ ⟨(zkep HB.out hw101_0), (zkep HB.out hw101_1), (zkep HB.out hw101_2), (zkep HB.out hw101_3), (zkep HB.out hw101_4), (zkep HB.out hw102_0), (zkep HB.out hw102_1), (zkep HB.out hw102_2), (zkep HB.out hw102_3), (zkep HB.out hw102_4)⟩ (fun hHeld => ?_)
 clear hK K
 refine zh6 (a' := ?_) ?_ ?_
 rotate_left
 · show Act.put _ (some 25) _ = _
   simp only [Act.put, List.setIfInBounds_toArray, List.set_cons_zero, List.set_cons_succ, za4, za6]
   rfl
 refine zcs (i := 9) (N := some 26) (v := ?_) (a' := ?_) #[true, true, true, true, true, true, true, true, true, true] rfl rfl (zbs HT_.out (by kernel_rfl)) (fun _ _ _ h => h) (Or.inl ⟨by rfl, ?_⟩) ?_ ?_
 rotate_left
 · intro w'
   go_simp
   with_reducible rfl
 rotate_left
 · simp only [Act.put, List.setIfInBounds_toArray, List.set_cons_zero, List.set_cons_succ, za4, za6]
   rfl
 refine zoc (zjf HT_.out (by kernel_rfl)) ?_
 try go_wp2
 go_roundg k1
 case measure => have := HK1.out; omega
 case rel => exact ⟨(wrap64 (x5_1 + 1)), (by first | rfl | (simp; done) | (simp [*]; done)), H', ⟨by have := HK1.out; omega⟩, ⟨by repeat (first | (with_reducible first | exact HB.out | apply zba | apply zbn | apply zbd) | exact HB.out)⟩⟩
def zg7 (a0_0 : ByteArray) (a0_1 : Int) (a0_2 : Int) (a0_3 : Int) (a1_0 : ByteArray) (a1_1 : Int) (a1_2 : Int) (a1_3 : Int) : Option (Bool) := if a0_0.toList = a1_0.toList then (if a0_1 = a1_1 then (if a0_2 = a1_2 then (if a0_3 = a1_3 then (some true) else (some false)) else (some false)) else (some false)) else (some false)
set_option maxHeartbeats 8000000 in
set_option maxRecDepth 100000 in
theorem zif (a0_0 : ByteArray) (a0_1 : Int) (a0_2 : Int) (a0_3 : Int) (a1_0 : ByteArray) (a1_1 : Int) (a1_2 : Int) (a1_3 : Int) (r : Bool) (w : World) (h : zg7 a0_0 a0_1 a0_2 a0_3 a1_0 a1_1 a1_2 a1_3 = some r) :
   Calls Try.prog 48 #[.agg #[.string a0_0, .int .i64 a0_1, .int .i64 a0_2, .int .i64 a0_3], .agg #[.string a1_0, .int .i64 a1_1, .int .i64 a1_2, .int .i64 a1_3]] w fun e w' => e = .returned (.bool r) ∧ Below w.heap.size w w' := by
 have key : r = (!(a0_0.toList != a1_0.toList) && !(a0_1 != a1_1) && !(a0_2 != a1_2) && !(a0_3 != a1_3)) := by
   unfold zg7 at h
   (repeat' split at h) <;> simp_all
 have HK := zA key
 clear h key
 go_enter Try.func48, Try.ntmps48
 go_wp2
 all_goals
   go_ret
   exact ⟨by rw [HK.out]; simp_all, zba (zba (Below.refl _ _) _) _⟩
end Go.Proofs.Ytkfkbmlbpeojaaa.Q
end
