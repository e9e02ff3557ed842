/- Proved here: contracts of functions that the law FnExactSymbolOf reaches, and lemmas on what they compute; texts of this session and the printed words of the kit that they lean on, cut down and put together by its program link.py. Conditions: as each states. -/
import Derived.Deep.DeepMust
import Derived.Laws.EntriesVeiled
import Derived.Test.YtkfkbmlbpeojaaaZFnExactSymbolOf1
import Derived.Test.YtkfkbmlbpeojaaaZFnExactSymbolOf2
import Derived.Test.YtkfkbmlbpeojaaaZFnExactSymbolOf3
section
namespace Go.Proofs.Ytkfkbmlbpeojaaa.Q
open Go.RowKit Go.Proofs.YtkfkbmlbpeojaaaW.PrintWords Go.Proofs.YtkfkbmlbpeojaaaW.PrintLast Go.Proofs.YtkfkbmlbpeojaaaW.PrintMore
attribute [local go_sem] zcz zc0 zd1 zd2 zcl zcm zc1 zc2
set_option linter.unusedVariables false
set_option linter.unusedSimpArgs false
def zdh (k : Nat) (a0_0 : ByteArray) (a0_1 : Int) (a0_2 : Int) (a0_3 : Int) : Option (List Int) := (zfk a0_0).bind fun t102 => (if t102 = true then (some (([a0_1] : List Int))) else ((zdg k a0_0).bind fun t106 => (if t106 = true then (some (([a0_1, a0_2] : List Int))) else (some ([] : List Int)))))
theorem zdc : ∀ a0 a1 a2 a3 k, LeO (zdh k a0 a1 a2 a3) (zdh (k + 1) a0 a1 a2 a3) := by
 intro a0 a1 a2 a3 k
 unfold zdh
 repeat' first
     | (with_reducible first | exact zi7 _ _ | exact LeO.refl _ | exact LeO.none _ | refine zai ?_ ?_ | refine LeO.bind ?_ (fun _ => ?_))
     | exact LeO.none _
     | refine zai ?_ ?_
     | refine LeO.bind ?_ (fun _ => ?_)
set_option maxHeartbeats 8000000 in
set_option maxRecDepth 100000 in
theorem zdx (k : Nat) (a0_0 : ByteArray) (a0_1 : Int) (a0_2 : Int) (a0_3 : Int) (r : List Int) (w : World) (h : zdh k a0_0 a0_1 a0_2 a0_3 = some r) :
   Calls Try.prog 143 #[.agg #[.string a0_0, .int .i64 a0_1, .int .i64 a0_2, .int .i64 a0_3]] w fun e w' => ∃ v0_ : Value, e = .returned (v0_) ∧ Kd.R (Kd.int .i64) 3 w' w.heap.size (fun _ => True) v0_ r ∧ Below w.heap.size w w' := by
 have hu72 := Try.underlying72
 have HB := zA (Below.refl w.heap.size w)
 have H : ((zfk a0_0).bind fun t102 => (if t102 = true then (some (([a0_1] : List Int))) else ((zdg k a0_0).bind fun t106 => (if t106 = true then (some (([a0_1, a0_2] : List Int))) else (some ([] : List Int)))))) = some r := h
 clear h
 replace H := zob H
 obtain ⟨t102, A20, H⟩ := H
 replace H : (if t102 = true then (some (([a0_1] : List Int))) else ((zdg k a0_0).bind fun t106 => (if t106 = true then (some (([a0_1, a0_2] : List Int))) else (some ([] : List Int))))) = some r := H
 have A2 := zA A20
 clear A20
 by_cases c3 : t102 = true
 · subst c3
   replace H : (some (([a0_1] : List Int))) = some r := by rw [if_pos rfl] at H; exact H
   obtain ⟨y103, hy103⟩ : ∃ y_ : List Int, y_ = (([a0_1] : List Int)) := ⟨_, rfl⟩
   replace H : (some y103) = some r := by first | (rw [hy103]; with_reducible exact H) | (have H2_ := (Option.bind_some _ _).symm.trans H; rw [hy103]; with_reducible exact H2_) | (have H2_ := (Option.bind_some _ _).symm.trans H; with_reducible exact H2_) | with_reducible exact H | (rw [hy103]; exact H) | exact H
   have Ny103 := zA hy103
   clear hy103
   obtain rfl := zsi H
   go_enter Try.func143, Try.ntmps143
   go_wp2_with (first | ((with_reducible refine zar (N := 1) rfl ?_); refine zat ?hg (N := 1) ?hd (cs := #[.string a0_0, .int .i64 a0_1, .int .i64 a0_2, .int .i64 a0_3]) (t := 72) ?hr ?_; (case hd => rfl); (case hg => rfl); (case hr => go_simp <;> rfl); intro gb101 hg w4 hbox hb; have zs := zpair (by repeat (first | (with_reducible first | exact HB.out | apply zba | apply zbn | apply zbd) | exact HB.out)) hb; have n0_ := zA (zs.1); have n1_ := zA (hbox); have n2_ := zA ((by rw [hg]; exact zs.2 : w.heap.size ≤ gb101)); have n3_ := n2_; clear HB; have HB := n0_; have BK101 := n1_; have GW101 := n2_; have GE101 := n3_; clear n0_ n1_ n2_ n3_; clear zs hb hbox hg; obtain ⟨hcz5_0, hcz5_1, hcz5_2, hcz5_3⟩ := zc4 w4 (.string a0_0) (.int .i64 a0_1) (.int .i64 a0_2) (.int .i64 a0_3) BK101.out; obtain ⟨hfz5_0, hfz5_1, hfz5_2, hfz5_3⟩ := zf4 BK101.out) | ((with_reducible refine zah (f := 141) rfl ?_); refine za3 (some 6) rfl rfl Try.func141 (by kernel_rfl) rfl #[.string a0_0] rfl (by (try simp only [List.map_toArray, List.map_cons, List.map_nil]); first | done | rfl | (simp only [List.length_drop, List.length_take]; rfl)) ?_; (with_reducible refine (zda a0_0 true _ A2.out).mono ?_); rintro e w' ⟨rfl, ⟨nd, rfl⟩⟩; refine ⟨_, rfl, ?_⟩) | ((with_reducible refine zar (N := 9) rfl ?_); refine Kd.R_lit (Kd.int .i64) _ 3 ?hg (N := 9) ?hd (xs := ([a0_1] : List Int)) (inner := [.int .i64 a0_1]) (ok := fun _ => True) (okp := fun _ => True) ?hr ?hp (fun _ hk => hk) trivial (Below.refl _ _) (zlr _) (by simp) ?_; (case hd => rfl); (case hg => rfl); (case hr => go_simp <;> rfl); (case hp => exact (zcb (show Kd.M (Kd.int .i64) _ _ _ a0_1 [.int .i64 a0_1] from rfl) (Reps.none _ _))); intro v104 w6 ho7 hb hg_ hnew_; clear hg_ hnew_; (first | rw [← Ny103.out] at ho7 | (simp only [Int.reduceToNat] at ho7; rw [← Ny103.out] at ho7)); have n0_ := zA (Kd.R_lower ho7 (za0 (by repeat (first | (with_reducible first | exact HB.out | apply zba | apply zbn | apply zbd | refine zab ?_ GE101.out) | exact HB.out)))); have n1_ := zA (zaj (g := gb101) (o := .cells #[.string a0_0, .int .i64 a0_1, .int .i64 a0_2, .int .i64 a0_3] 72 (0, 0)) (by (with_reducible repeat (first | refine zkn ?_ _ | refine zkd ?_ | refine zka ?_ _)); exact BK101.out) hb); have n2_ := zA (zag (by repeat (first | (with_reducible first | exact HB.out | apply zba | apply zbn | apply zbd | refine zab ?_ GE101.out) | exact HB.out)) hb); clear BK101 HB; have HO105 := n0_; have BK101 := n1_; have HB := n2_; clear n0_ n1_ n2_; clear hb ho7))
   go_ret
   exact ⟨_, by first | rfl | (simp [zad, zae] <;> rfl) | (simp [*, zad, zae] <;> rfl), by (with_reducible repeat (first | apply zRa | apply zRn | apply zRd)); exact HO105.out, by repeat (first | (with_reducible first | exact HB.out | apply zba | apply zbn | apply zbd | refine zab ?_ GE101.out) | exact HB.out)⟩
 replace c3 := zbf c3
 subst c3
 replace H : ((zdg k a0_0).bind fun t106 => (if t106 = true then (some (([a0_1, a0_2] : List Int))) else (some ([] : List Int)))) = some r := by rw [if_neg (show ¬ (false = true) by decide)] at H; exact H
 replace H := zob H
 obtain ⟨t106, A80, H⟩ := H
 replace H : (if t106 = true then (some (([a0_1, a0_2] : List Int))) else (some ([] : List Int))) = some r := H
 have A8 := zA A80
 clear A80
 by_cases c9 : t106 = true
 rotate_left
 · replace c9 := zbf c9
   subst c9
   replace H : (some ([] : List Int)) = some r := by rw [if_neg (show ¬ (false = true) by decide)] at H; exact H
   obtain rfl := zsi H
   go_enter Try.func143, Try.ntmps143
   go_wp2_with (first | ((with_reducible refine zar (N := 1) rfl ?_); refine zat ?hg (N := 1) ?hd (cs := #[.string a0_0, .int .i64 a0_1, .int .i64 a0_2, .int .i64 a0_3]) (t := 72) ?hr ?_; (case hd => rfl); (case hg => rfl); (case hr => go_simp <;> rfl); intro gb101 hg w16 hbox hb; have zs := zpair (by repeat (first | (with_reducible first | exact HB.out | apply zba | apply zbn | apply zbd) | exact HB.out)) hb; have n0_ := zA (zs.1); have n1_ := zA (hbox); have n2_ := zA ((by rw [hg]; exact zs.2 : w.heap.size ≤ gb101)); have n3_ := n2_; clear HB; have HB := n0_; have BK101 := n1_; have GW101 := n2_; have GE101 := n3_; clear n0_ n1_ n2_ n3_; clear zs hb hbox hg; obtain ⟨hcz17_0, hcz17_1, hcz17_2, hcz17_3⟩ := zc4 w16 (.string a0_0) (.int .i64 a0_1) (.int .i64 a0_2) (.int .i64 a0_3) BK101.out; obtain ⟨hfz17_0, hfz17_1, hfz17_2, hfz17_3⟩ := zf4 BK101.out) | ((with_reducible refine zah (f := 141) rfl ?_); refine za3 (some 6) rfl rfl Try.func141 (by kernel_rfl) rfl #[.string a0_0] rfl (by (try simp only [List.map_toArray, List.map_cons, List.map_nil]); first | done | rfl | (simp only [List.length_drop, List.length_take]; rfl)) ?_; (with_reducible refine (zda a0_0 false _ A2.out).mono ?_); rintro e w' ⟨rfl, ⟨nd, rfl⟩⟩; refine ⟨_, rfl, ?_⟩) | ((with_reducible refine zah (f := 142) rfl ?_); refine za3 (some 13) rfl rfl Try.func142 (by kernel_rfl) rfl #[.string a0_0] rfl (by (try simp only [List.map_toArray, List.map_cons, List.map_nil]); first | done | rfl | (simp only [List.length_drop, List.length_take]; rfl)) ?_; (with_reducible refine (zet k a0_0 false _ A8.out).mono ?_); rintro e w18 ⟨rfl, hb⟩; refine ⟨_, rfl, ?_⟩; have n0_ := zA (zaj (g := gb101) (o := .cells #[.string a0_0, .int .i64 a0_1, .int .i64 a0_2, .int .i64 a0_3] 72 (0, 0)) (by (with_reducible repeat (first | refine zkn ?_ _ | refine zkd ?_ | refine zka ?_ _)); exact BK101.out) hb); have n1_ := zA (zag (by repeat (first | (with_reducible first | exact HB.out | apply zba | apply zbn | apply zbd | refine zab ?_ GE101.out) | exact HB.out)) hb); clear BK101 HB; have BK101 := n0_; have HB := n1_; clear n0_ n1_; (try clear hb)))
   go_ret
   exact ⟨_, by first | rfl | (simp [zad, zae] <;> rfl) | (simp [*, zad, zae] <;> rfl), by first | exact Kd.R_nil _ _ _ _ _ | exact Kd.N_nil _ _ _ _ _ | exact Kd.V_nil _ _ _ _ _ | exact Kd.Q_nil _ _ _ _ _ | exact Kd.S_nil _ _ _ _ _, by repeat (first | (with_reducible first | exact HB.out | apply zba | apply zbn | apply zbd | refine zab ?_ GE101.out) | exact HB.out)⟩
 subst c9
 replace H : (some (([a0_1, a0_2] : List Int))) = some r := by rw [if_pos rfl] at H; exact H
 obtain ⟨y107, hy107⟩ : ∃ y_ : List Int, y_ = (([a0_1, a0_2] : List Int)) := ⟨_, rfl⟩
 replace H : (some y107) = some r := by first | (rw [hy107]; with_reducible exact H) | (have H2_ := (Option.bind_some _ _).symm.trans H; rw [hy107]; with_reducible exact H2_) | (have H2_ := (Option.bind_some _ _).symm.trans H; with_reducible exact H2_) | with_reducible exact H | (rw [hy107]; exact H) | exact H
 have Ny107 := zA hy107
 clear hy107
 obtain rfl := zsi H
 go_enter Try.func143, Try.ntmps143
 go_wp2_with (first | ((with_reducible refine zar (N := 1) rfl ?_); refine zat ?hg (N := 1) ?hd (cs := #[.string a0_0, .int .i64 a0_1, .int .i64 a0_2, .int .i64 a0_3]) (t := 72) ?hr ?_; (case hd => rfl); (case hg => rfl); (case hr => go_simp <;> rfl); intro gb101 hg w10 hbox hb; have zs := zpair (by repeat (first | (with_reducible first | exact HB.out | apply zba | apply zbn | apply zbd) | exact HB.out)) hb; have n0_ := zA (zs.1); have n1_ := zA (hbox); have n2_ := zA ((by rw [hg]; exact zs.2 : w.heap.size ≤ gb101)); have n3_ := n2_; clear HB; have HB := n0_; have BK101 := n1_; have GW101 := n2_; have GE101 := n3_; clear n0_ n1_ n2_ n3_; clear zs hb hbox hg; obtain ⟨hcz11_0, hcz11_1, hcz11_2, hcz11_3⟩ := zc4 w10 (.string a0_0) (.int .i64 a0_1) (.int .i64 a0_2) (.int .i64 a0_3) BK101.out; obtain ⟨hfz11_0, hfz11_1, hfz11_2, hfz11_3⟩ := zf4 BK101.out) | ((with_reducible refine zah (f := 141) rfl ?_); refine za3 (some 6) rfl rfl Try.func141 (by kernel_rfl) rfl #[.string a0_0] rfl (by (try simp only [List.map_toArray, List.map_cons, List.map_nil]); first | done | rfl | (simp only [List.length_drop, List.length_take]; rfl)) ?_; (with_reducible refine (zda a0_0 false _ A2.out).mono ?_); rintro e w' ⟨rfl, ⟨nd, rfl⟩⟩; refine ⟨_, rfl, ?_⟩) | ((with_reducible refine zah (f := 142) rfl ?_); refine za3 (some 13) rfl rfl Try.func142 (by kernel_rfl) rfl #[.string a0_0] rfl (by (try simp only [List.map_toArray, List.map_cons, List.map_nil]); first | done | rfl | (simp only [List.length_drop, List.length_take]; rfl)) ?_; (with_reducible refine (zet k a0_0 true _ A8.out).mono ?_); rintro e w12 ⟨rfl, hb⟩; refine ⟨_, rfl, ?_⟩; have n0_ := zA (zaj (g := gb101) (o := .cells #[.string a0_0, .int .i64 a0_1, .int .i64 a0_2, .int .i64 a0_3] 72 (0, 0)) (by (with_reducible repeat (first | refine zkn ?_ _ | refine zkd ?_ | refine zka ?_ _)); exact BK101.out) hb); have n1_ := zA (zag (by repeat (first | (with_reducible first | exact HB.out | apply zba | apply zbn | apply zbd | refine zab ?_ GE101.out) | exact HB.out)) hb); clear BK101 HB; have BK101 := n0_; have HB := n1_; clear n0_ n1_; (try clear hb); (try clear hk); obtain ⟨hcz13_0, hcz13_1, hcz13_2, hcz13_3⟩ := zc4 w12 (.string a0_0) (.int .i64 a0_1) (.int .i64 a0_2) (.int .i64 a0_3) BK101.out; obtain ⟨hfz13_0, hfz13_1, hfz13_2, hfz13_3⟩ := zf4 BK101.out) | ((with_reducible refine zar (N := 18) rfl ?_); refine Kd.R_lit (Kd.int .i64) _ 3 ?hg (N := 18) ?hd (xs := ([a0_1, a0_2] : List Int)) (inner := [.int .i64 a0_1, .int .i64 a0_2]) (ok := fun _ => True) (okp := fun _ => True) ?hr ?hp (fun _ hk => hk) trivial (Below.refl _ _) (zlr _) (by simp) ?_; (case hd => rfl); (case hg => rfl); (case hr => go_simp <;> rfl); (case hp => exact (zcb (show Kd.M (Kd.int .i64) _ _ _ a0_1 [.int .i64 a0_1] from rfl) (zcb (show Kd.M (Kd.int .i64) _ _ _ a0_2 [.int .i64 a0_2] from rfl) (Reps.none _ _)))); intro v108 w14 ho15 hb hg_ hnew_; clear hg_ hnew_; (first | rw [← Ny107.out] at ho15 | (simp only [Int.reduceToNat] at ho15; rw [← Ny107.out] at ho15)); have n0_ := zA (Kd.R_lower ho15 (za0 (by repeat (first | (with_reducible first | exact HB.out | apply zba | apply zbn | apply zbd | refine zab ?_ GE101.out) | exact HB.out)))); have n1_ := zA (zaj (g := gb101) (o := .cells #[.string a0_0, .int .i64 a0_1, .int .i64 a0_2, .int .i64 a0_3] 72 (0, 0)) (by (with_reducible repeat (first | refine zkn ?_ _ | refine zkd ?_ | refine zka ?_ _)); exact BK101.out) hb); have n2_ := zA (zag (by repeat (first | (with_reducible first | exact HB.out | apply zba | apply zbn | apply zbd | refine zab ?_ GE101.out) | exact HB.out)) hb); clear BK101 HB; have HO109 := n0_; have BK101 := n1_; have HB := n2_; clear n0_ n1_ n2_; clear hb ho15))
 go_ret
 exact ⟨_, by first | rfl | (simp [zad, zae] <;> rfl) | (simp [*, zad, zae] <;> rfl), by (with_reducible repeat (first | apply zRa | apply zRn | apply zRd)); exact HO109.out, by repeat (first | (with_reducible first | exact HB.out | apply zba | apply zbn | apply zbd | refine zab ?_ GE101.out) | exact HB.out)⟩
end Go.Proofs.Ytkfkbmlbpeojaaa.Q
end
section
namespace Go.Proofs.Ytkfkbmlbpeojaaa.Q
open Go.RowKit Go.Proofs.YtkfkbmlbpeojaaaW.PrintWords Go.Proofs.YtkfkbmlbpeojaaaW.PrintLast Go.Proofs.YtkfkbmlbpeojaaaW.PrintMore
attribute [local go_sem] zcz zc0 zd1 zd2 zcl zcm zc1 zc2
set_option linter.unusedVariables false
set_option linter.unusedSimpArgs false
mutual
def zcn : Nat → List Int → List (S72) → Int → Int → Option (List Int)
 | 0, _, _, _, _ => none
 | k + 1, x3, x11, x12, x13 => if x13 < x12 then (if 0 ≤ x13 then (if x13 < (x11.length : Int) then ((zdh k ((zac x11 x13).f0) ((zac x11 x13).f1) ((zac x11 x13).f2) ((zac x11 x13).f3)).bind fun t106 => (zcw k x3 x11 x12 x13 t106 (t106.length : Int) 0)) else (none)) else (none)) else (some x3)
def zcw : Nat → List Int → List (S72) → Int → Int → List Int → Int → Int → Option (List Int)
 | 0, _, _, _, _, _, _, _ => none
 | k + 1, x3, x11, x12, x13, x18, x19, x20 => if x20 < x19 then (if 0 ≤ x20 then (if x20 < (x18.length : Int) then (if 0 ≤ (rd x18 x20) then (if (rd x18 x20) < (x3.length : Int) then (zcw k (x3.set ((rd x18 x20) : Int).toNat (wrap64 ((rd x3 (rd x18 x20)) + 1))) x11 x12 x13 x18 x19 (wrap64 (x20 + 1))) else (none)) else (none)) else (none)) else (none)) else (zcn k x3 x11 x12 (wrap64 (x13 + 1)))
end
def ze9 (k : Nat) (l0 : List (S72)) : Option (List Int) := if 0 ≤ (l0.length : Int) then (if ((l0.length : Int) : Int).toNat ≤ 35184372088832 then (zcn k (List.replicate ((l0.length : Int) : Int).toNat 0) l0 (l0.length : Int) 0) else (none)) else (none)
theorem zhv : ∀ k, (∀ y0 y1 y2 y3, LeO (zcn k y0 y1 y2 y3) (zcn (k + 1) y0 y1 y2 y3)) ∧ (∀ y0 y1 y2 y3 y4 y5 y6, LeO (zcw k y0 y1 y2 y3 y4 y5 y6) (zcw (k + 1) y0 y1 y2 y3 y4 y5 y6))
 | 0 => ⟨fun _ _ _ _ r h => by simp [zcn] at h, fun _ _ _ _ _ _ _ r h => by simp [zcw] at h⟩
 | k + 1 => by
   obtain ⟨ih0, ih1⟩ := zhv k
   refine ⟨?_, ?_⟩
   · intro y0 y1 y2 y3
     unfold zcn
     repeat' first
     | (with_reducible first | exact ih0 _ _ _ _ | exact ih1 _ _ _ _ _ _ _ | exact zdc _ _ _ _ _ | exact LeO.refl _ | exact LeO.none _ | refine zai ?_ ?_ | refine LeO.bind ?_ (fun _ => ?_))
     | exact LeO.none _
     | refine zai ?_ ?_
     | refine LeO.bind ?_ (fun _ => ?_)
   · intro y0 y1 y2 y3 y4 y5 y6
     unfold zcw
     repeat' first
     | (with_reducible first | exact ih0 _ _ _ _ | exact ih1 _ _ _ _ _ _ _ | exact zdc _ _ _ _ _ | exact LeO.refl _ | exact LeO.none _ | refine zai ?_ ?_ | refine LeO.bind ?_ (fun _ => ?_))
     | exact LeO.none _
     | refine zai ?_ ?_
     | refine LeO.bind ?_ (fun _ => ?_)
theorem zi2 : ∀ a0 k, LeO (ze9 k a0) (ze9 (k + 1) a0) := by
 intro a0 k
 obtain ⟨ih0, ih1⟩ := zhv k
 unfold ze9
 repeat' first
     | (with_reducible first | exact ih0 _ _ _ _ | exact ih1 _ _ _ _ _ _ _ | exact zdc _ _ _ _ _ | exact LeO.refl _ | exact LeO.none _ | refine zai ?_ ?_ | refine LeO.bind ?_ (fun _ => ?_))
     | exact LeO.none _
     | refine zai ?_ ?_
     | refine LeO.bind ?_ (fun _ => ?_)
set_option maxHeartbeats 8000000 in
set_option maxRecDepth 100000 in
theorem zlc (k : Nat) (A0 : Option Addr) (c0 : Nat) (l0 : List (S72)) (r : List Int) (w : World) (hr0 : Kd.C k72 w A0 l0.length l0) (hc0 : l0.length ≤ c0) (h : ze9 k l0 = some r) :
   Calls Try.prog 94 #[.slice A0 l0.length c0] w fun e w' => ∃ v0_ : Value, e = .returned (v0_) ∧ Kd.R (Kd.int .i64) 3 w' w.heap.size (fun _ => True) v0_ r ∧ Below w.heap.size w w' := by
 have hu72 := Try.underlying72
 have HR0 := zA hr0
 have HC0 := zA hc0
 clear hr0 hc0
 have HB := zA (Below.refl w.heap.size w)
 have H : (if 0 ≤ (l0.length : Int) then (if ((l0.length : Int) : Int).toNat ≤ 35184372088832 then (zcn k (List.replicate ((l0.length : Int) : Int).toNat 0) l0 (l0.length : Int) 0) else (none)) else (none)) = some r := h
 clear h
 by_cases c2 : 0 ≤ (l0.length : Int)
 rotate_left
 · rw [if_neg c2] at H
   exact absurd H (by simp)
 rw [if_pos c2] at H
 have c2b0 := eq_true c2
 have c2b1 : decide (0 ≤ (l0.length : Int)) = true := zdt c2
 clear c2
 by_cases c3 : ((l0.length : Int) : Int).toNat ≤ 35184372088832
 rotate_left
 · rw [if_neg c3] at H
   exact absurd H (by simp)
 rw [if_pos c3] at H
 have c3b0 := eq_true c3
 have c3b1 : decide (((l0.length : Int) : Int).toNat ≤ 35184372088832) = true := zdt c3
 clear c3
 obtain ⟨y101, hy101⟩ : ∃ y_ : List Int, y_ = (List.replicate ((l0.length : Int) : Int).toNat 0) := ⟨_, rfl⟩
 replace H : (zcn k y101 l0 (l0.length : Int) 0) = some r := by first | (rw [hy101]; with_reducible exact H) | (have H2_ := (Option.bind_some _ _).symm.trans H; rw [hy101]; with_reducible exact H2_) | (have H2_ := (Option.bind_some _ _).symm.trans H; with_reducible exact H2_) | with_reducible exact H | (rw [hy101]; exact H) | exact H
 have Ny101 := zA hy101
 clear hy101
 have H' := zA H
 clear H
 go_enter Try.func94, Try.ntmps94
 go_wp2_with (first | ((with_reducible refine zar (N := 10) rfl ?_); refine Kd.R_make (Kd.int .i64) _ 3 rfl (N := 10) rfl 51 _ _ rfl (l0.length : Int) rfl rfl Try.underlying51 (.int .i64 0) 8 zlp rfl (by decide) (by omega) 0 (ok := fun _ => True) (okp := fun _ => True) rfl (fun _ hk => hk) trivial (zde (by assumption)) (Nat.le_trans (Nat.mul_le_mul_right _ (zde (by assumption) : (l0.length : Int).toNat ≤ 35184372088832)) (by omega)) (Below.refl _ _) (zlr _) ?_; intro v102 w4 ho5 hb hg_ hnew_; clear hg_ hnew_; (first | rw [← Ny101.out] at ho5 | (simp only [Int.reduceToNat] at ho5; rw [← Ny101.out] at ho5)); have n0_ := zA (Kd.R_lower ho5 (za0 (by repeat (first | (with_reducible first | exact HB.out | apply zba | apply zbn | apply zbd) | exact HB.out)))); have n1_ := zA (zag (by repeat (first | (with_reducible first | exact HB.out | apply zba | apply zbn | apply zbd) | exact HB.out)) hb); clear HB; have HO103 := n0_; have HB := n1_; clear n0_ n1_; clear hb ho5))
 go_loopg [13] k (fun kq v13 w' => ∃ (x3_1 : List Int) (x13_1 : Int), v13 = .int .i64 x13_1 ∧ Aside0 (zcn kq x3_1 l0 (l0.length : Int) x13_1 = some r) ∧ Aside0 (kq ≤ k) ∧ Aside0 (Kd.R (Kd.int .i64) 3 w' w.heap.size (fun _ => True) v102 x3_1) ∧ Aside0 (Below w.heap.size w w'))
 case atStart => exact ⟨(y101), (0), (by first | rfl | (simp; done) | (simp [*]; done)), H', ⟨zlr _⟩, ⟨by (with_reducible repeat (first | apply zRa | apply zRn | apply zRd)); exact HO103.out⟩, ⟨by repeat (first | (with_reducible first | exact HB.out | apply zba | apply zbn | apply zbd) | exact HB.out)⟩⟩
 clear H'
 try clear c2
 try clear c2b0
 try clear c2b1
 try clear p2
 try clear c3
 try clear c3b0
 try clear c3b1
 obtain ⟨x3_1, x13_1, rfl, HA, HK1, HO_3, HB⟩ := hrel
 cases gk with
 | zero => exact absurd HA.out (by simp [zcn])
 | succ k1 =>
 have H := HA.out
 clear HA
 simp only [zcn] at H
 by_cases c6 : x13_1 < (l0.length : Int)
 rotate_left
 · rw [if_neg c6] at H
   have c6b0 : decide (x13_1 < (l0.length : Int)) = false := zdf c6
   clear c6
   obtain rfl := zsi H
   go_wp2
   go_ret
   exact ⟨_, by first | rfl | (simp [zad, zae] <;> rfl) | (simp [*, zad, zae] <;> rfl), by (with_reducible repeat (first | apply zRa | apply zRn | apply zRd)); exact HO_3.out, by repeat (first | (with_reducible first | exact HB.out | apply zba | apply zbn | apply zbd) | exact HB.out)⟩
 rw [if_pos c6] at H
 have c6b0 : decide (x13_1 < (l0.length : Int)) = true := zdt c6
 clear c6
 by_cases c7 : 0 ≤ x13_1
 rotate_left
 · rw [if_neg c7] at H
   exact absurd H (by simp)
 rw [if_pos c7] at H
 have c7b0 : decide (0 ≤ x13_1) = true := zdt c7
 clear c7
 by_cases c8 : x13_1 < (l0.length : Int)
 rotate_left
 · rw [if_neg c8] at H
   exact absurd H (by simp)
 rw [if_pos c8] at H
 have c8b0 : decide (x13_1 < (l0.length : Int)) = true := zdt c8
 clear c8
 replace H := zob H
 obtain ⟨t106, A90, H⟩ := H
 replace H : (zcw k1 x3_1 l0 (l0.length : Int) x13_1 t106 (t106.length : Int) 0) = some r := H
 have A9 := zA A90
 clear A90
 have H' := zA H
 clear H
 have p104 : 0 ≤ (x13_1 : Int) := zde (by assumption)
 have q104 : x13_1 < (l0.length : Int) := zde (by assumption)
 obtain ⟨ad104, e104, hx104_0, hx104_1, hx104_2, hx104_3⟩ := zen HR0.out x13_1 p104 q104
 cases e104
 replace hx104_0 := zkep HB.out hx104_0
 replace hx104_1 := zkep HB.out hx104_1
 replace hx104_2 := zkep HB.out hx104_2
 replace hx104_3 := zkep HB.out hx104_3
 replace p104 := eq_true p104
 replace q104 := eq_true q104
 go_wp2_with (first | ((with_reducible refine zar (N := 5) rfl ?_); refine zat ?hg (N := 5) ?hd (cs := #[.string (⟨#[]⟩ : ByteArray), .int .i64 0, .int .i64 0, .int .i64 0]) (t := 72) ?hr ?_; (case hd => rfl); (case hg => rfl); (case hr => go_simp <;> rfl); intro gb105 hg w10 hbox hb; have n0_ := zA (zRb (by (with_reducible repeat (first | apply zRa | apply zRn | apply zRd)); exact HO_3.out) hb); have zs := zpair (by repeat (first | (with_reducible first | exact HB.out | apply zba | apply zbn | apply zbd) | exact HB.out)) hb; have n1_ := zA (zs.1); have n2_ := zA (hbox); have n3_ := zA ((by rw [hg]; exact zs.2 : w.heap.size ≤ gb105)); have n4_ := n3_; clear HO_3 HB; have HO_3 := n0_; have HB := n1_; have BK105 := n2_; have GW105 := n3_; have GE105 := n4_; clear n0_ n1_ n2_ n3_ n4_; clear zs hb hbox hg; obtain ⟨hcz11_0, hcz11_1, hcz11_2, hcz11_3⟩ := zc4 w10 (.string (⟨#[]⟩ : ByteArray)) (.int .i64 0) (.int .i64 0) (.int .i64 0) BK105.out; obtain ⟨hfz11_0, hfz11_1, hfz11_2, hfz11_3⟩ := zf4 BK105.out) | ((with_reducible refine zah (f := 143) rfl ?_); refine za3 (some 18) rfl rfl Try.func143 (by kernel_rfl) rfl #[.agg #[.string ((zac l0 x13_1).f0), .int .i64 ((zac l0 x13_1).f1), .int .i64 ((zac l0 x13_1).f2), .int .i64 ((zac l0 x13_1).f3)]] rfl (by (try simp only [List.map_toArray, List.map_cons, List.map_nil]); first | done | rfl | (simp only [List.length_drop, List.length_take]; rfl)) ?_; (with_reducible refine (zdx k1 ((zac l0 x13_1).f0) ((zac l0 x13_1).f1) ((zac l0 x13_1).f2) ((zac l0 x13_1).f3) t106 _ A9.out).mono ?_); rintro e w12 ⟨v107, rfl, ho0, hb⟩; refine ⟨_, rfl, ?_⟩; have n0_ := zA (Kd.R_elder' (by (with_reducible repeat (first | apply zRa | apply zRn | apply zRd)); exact (Kd.R_mono (Kd.R_far (p := ⟨gb105, 3, none⟩) (Kd.R_far (p := ⟨gb105, 2, none⟩) (Kd.R_far (p := ⟨gb105, 1, none⟩) (Kd.R_far (p := ⟨gb105, 0, none⟩) (Kd.R_types HO_3.out BK105.out (by decide)) (fun _ hk => hk.2) (.string ((zac l0 x13_1).f0))) (fun _ hk => hk.2) (.int .i64 ((zac l0 x13_1).f1))) (fun _ hk => hk.2) (.int .i64 ((zac l0 x13_1).f2))) (fun _ hk => hk.2) (.int .i64 ((zac l0 x13_1).f3))) (fun _ h_ => h_.1))) (Kd.R_base ho0) hb); have n1_ := zA (Kd.R_lower (Kd.R_new' ho0 (Kd.R_lt (by (with_reducible repeat (first | apply zRa | apply zRn | apply zRd)); exact (Kd.R_mono (Kd.R_far (p := ⟨gb105, 3, none⟩) (Kd.R_far (p := ⟨gb105, 2, none⟩) (Kd.R_far (p := ⟨gb105, 1, none⟩) (Kd.R_far (p := ⟨gb105, 0, none⟩) (Kd.R_types HO_3.out BK105.out (by decide)) (fun _ hk => hk.2) (.string ((zac l0 x13_1).f0))) (fun _ hk => hk.2) (.int .i64 ((zac l0 x13_1).f1))) (fun _ hk => hk.2) (.int .i64 ((zac l0 x13_1).f2))) (fun _ hk => hk.2) (.int .i64 ((zac l0 x13_1).f3))) (fun _ h_ => h_.1))))) (za0 (by repeat (first | (with_reducible first | exact HB.out | apply zba | apply zbn | apply zbd | refine zab ?_ GE105.out) | exact HB.out)))); have n2_ := zA (zaj (g := gb105) (o := .cells #[.string ((zac l0 x13_1).f0), .int .i64 ((zac l0 x13_1).f1), .int .i64 ((zac l0 x13_1).f2), .int .i64 ((zac l0 x13_1).f3)] 72 (0, 0)) (by (with_reducible repeat (first | refine zkn ?_ _ | refine zkd ?_ | refine zka ?_ _)); refine zan (cs := #[.string ((zac l0 x13_1).f0), .int .i64 ((zac l0 x13_1).f1), .int .i64 ((zac l0 x13_1).f2), .int .i64 0]) ?_ 3 _ rfl; (with_reducible repeat (first | refine zkn ?_ _ | refine zkd ?_ | refine zka ?_ _)); refine zan (cs := #[.string ((zac l0 x13_1).f0), .int .i64 ((zac l0 x13_1).f1), .int .i64 0, .int .i64 0]) ?_ 2 _ rfl; (with_reducible repeat (first | refine zkn ?_ _ | refine zkd ?_ | refine zka ?_ _)); refine zan (cs := #[.string ((zac l0 x13_1).f0), .int .i64 0, .int .i64 0, .int .i64 0]) ?_ 1 _ rfl; (with_reducible repeat (first | refine zkn ?_ _ | refine zkd ?_ | refine zka ?_ _)); refine zan (cs := #[.string (⟨#[]⟩ : ByteArray), .int .i64 0, .int .i64 0, .int .i64 0]) ?_ 0 _ rfl; (with_reducible repeat (first | refine zkn ?_ _ | refine zkd ?_ | refine zka ?_ _)); exact BK105.out) hb); have n3_ := zA (zag (by repeat (first | (with_reducible first | exact HB.out | apply zba | apply zbn | apply zbd | refine zab ?_ GE105.out) | exact HB.out)) hb); clear HO_3 BK105 HB; have HO_3 := n0_; have HO108 := n1_; have BK105 := n2_; have HB := n3_; clear n0_ n1_ n2_ n3_; (try clear hb); (try clear hk); (try clear ho0); obtain ⟨Ao13, co13, eo13⟩ := Kd.R_slice HO108.out; subst eo13))
 go_loopg [20] k1 (fun kq v20 w' => ∃ (x3_2 : List Int) (x20_2 : Int), v20 = .int .i64 x20_2 ∧ Aside0 (zcw kq x3_2 l0 (l0.length : Int) x13_1 t106 (t106.length : Int) x20_2 = some r) ∧ Aside0 (kq ≤ k1) ∧ Aside0 (Kd.R (Kd.int .i64) 3 w' w.heap.size (fun k_ => some k_ ≠ ((.slice Ao13 t106.length co13) : Value).ownBlock) v102 x3_2) ∧ Aside0 (Kd.R (Kd.int .i64) 3 w' w.heap.size (fun k_ => some k_ ≠ (v102 : Value).ownBlock) (.slice Ao13 t106.length co13) t106) ∧ Aside0 (w'.heap[gb105]? = some (.cells #[.string ((zac l0 x13_1).f0), .int .i64 ((zac l0 x13_1).f1), .int .i64 ((zac l0 x13_1).f2), .int .i64 ((zac l0 x13_1).f3)] 72 (0, 0))) ∧ Aside0 (Below w.heap.size w w'))
 case atStart => exact ⟨(x3_1), (0), (by first | rfl | (simp; done) | (simp [*]; done)), H', ⟨zlr _⟩, ⟨by (with_reducible repeat (first | apply zRa | apply zRn | apply zRd)); exact Kd.R_mono HO_3.out (fun _ hk => hk.2)⟩, ⟨by (with_reducible repeat (first | apply zRa | apply zRn | apply zRd)); exact Kd.R_mono HO108.out (fun _ hk => hk.2)⟩, ⟨by (with_reducible repeat (first | refine zkn ?_ _ | refine zkd ?_ | refine zka ?_ _)); exact BK105.out⟩, ⟨by repeat (first | (with_reducible first | exact HB.out | apply zba | apply zbn | apply zbd | refine zab ?_ GE105.out) | exact HB.out)⟩⟩
 clear H'
 try clear c1
 try clear p1
 try clear q1
 try clear hx1
 try clear c2
 try clear c2b0
 try clear c2b1
 try clear p2
 try clear c3
 try clear c3b0
 try clear c3b1
 try clear c6
 try clear c6b0
 try clear c7
 try clear c7b0
 try clear c8
 try clear c8b0
 try clear c9
 try clear p10
 try clear q10
 try clear hx10
 try clear hcz11_0
 try clear hcz11_1
 try clear hcz11_2
 try clear hcz11_3
 try clear hfz11_0
 try clear hfz11_1
 try clear hfz11_2
 try clear hfz11_3
 try clear hx104_0
 try clear hx104_1
 try clear hx104_2
 try clear hx104_3
 try clear p104
 try clear p2
 try clear q104
 obtain ⟨x3_2, x20_2, rfl, HA, HK2, HO_3, HO_18, BK105, HB⟩ := hrel
 cases gk with
 | zero => exact absurd HA.out (by simp [zcw])
 | succ k2 =>
 have H := HA.out
 clear HA
 simp only [zcw] at H
 by_cases c14 : x20_2 < (t106.length : Int)
 rotate_left
 · rw [if_neg c14] at H
   have c14b0 : decide (x20_2 < (t106.length : Int)) = false := zdf c14
   clear c14
   have H' := zA H
   clear H
   go_wp2
   go_roundg k2
   case measure => have := HK1.out; have := HK2.out; omega
   case rel => exact ⟨(x3_2), (wrap64 (x13_1 + 1)), (by first | rfl | (simp; done) | (simp [*]; done)), H', ⟨by have := HK1.out; have := HK2.out; omega⟩, ⟨by (with_reducible repeat (first | apply zRa | apply zRn | apply zRd)); exact Kd.R_mono HO_3.out (fun _ hk => trivial)⟩, ⟨by repeat (first | (with_reducible first | exact HB.out | apply zba | apply zbn | apply zbd | refine zab ?_ GE105.out) | exact HB.out)⟩⟩
 rw [if_pos c14] at H
 have c14b0 : decide (x20_2 < (t106.length : Int)) = true := zdt c14
 clear c14
 by_cases c15 : 0 ≤ x20_2
 rotate_left
 · rw [if_neg c15] at H
   exact absurd H (by simp)
 rw [if_pos c15] at H
 have c15b0 : decide (0 ≤ x20_2) = true := zdt c15
 clear c15
 by_cases c16 : x20_2 < (t106.length : Int)
 rotate_left
 · rw [if_neg c16] at H
   exact absurd H (by simp)
 rw [if_pos c16] at H
 have c16b0 : decide (x20_2 < (t106.length : Int)) = true := zdt c16
 clear c16
 by_cases c17 : 0 ≤ (rd t106 x20_2)
 rotate_left
 · rw [if_neg c17] at H
   exact absurd H (by simp)
 rw [if_pos c17] at H
 have c17b0 : decide (0 ≤ (rd t106 x20_2)) = true := zdt c17
 clear c17
 by_cases c18 : (rd t106 x20_2) < (x3_2.length : Int)
 rotate_left
 · rw [if_neg c18] at H
   exact absurd H (by simp)
 rw [if_pos c18] at H
 have c18b0 : decide ((rd t106 x20_2) < (x3_2.length : Int)) = true := zdt c18
 clear c18
 obtain ⟨y111, hy111⟩ : ∃ y_ : List Int, y_ = (x3_2.set ((rd t106 x20_2) : Int).toNat (wrap64 ((rd x3_2 (rd t106 x20_2)) + 1))) := ⟨_, rfl⟩
 replace H : (zcw k2 y111 l0 (l0.length : Int) x13_1 t106 (t106.length : Int) (wrap64 (x20_2 + 1))) = some r := by first | (rw [hy111]; with_reducible exact H) | (have H2_ := (Option.bind_some _ _).symm.trans H; rw [hy111]; with_reducible exact H2_) | (have H2_ := (Option.bind_some _ _).symm.trans H; with_reducible exact H2_) | with_reducible exact H | (rw [hy111]; exact H) | exact H
 have Ny111 := zA hy111
 clear hy111
 have H' := zA H
 clear H
 have p109 : 0 ≤ (x20_2 : Int) := zde (by assumption)
 have q109 : x20_2 < (t106.length : Int) := zde (by assumption)
 obtain ⟨ad109, e109, hx109_0⟩ := Kd.at_int (zRr HO_18.out).2.2 x20_2 p109 q109
 cases e109
 replace p109 := eq_true p109
 replace q109 := eq_true q109
 obtain ⟨Ao20, co20, eo20⟩ := Kd.R_slice HO_3.out
 subst eo20
 have p110 : 0 ≤ ((rd t106 x20_2) : Int) := zde (by assumption)
 have q110 : (rd t106 x20_2) < (x3_2.length : Int) := zde (by assumption)
 obtain ⟨ad110, e110, hx110_0⟩ := Kd.at_int (zRr HO_3.out).2.2 (rd t106 x20_2) p110 q110
 cases e110
 replace p110 := eq_true p110
 replace q110 := eq_true q110
 have p19 : 0 ≤ ((rd t106 x20_2) : Int) := zde (by assumption)
 have q19 : ((rd t106 x20_2) : Int) < ((x3_2.length : Int) : Int) := zde (by assumption)
 obtain ⟨go19, co19, eo19, gb19, gl19, cl19, HG19⟩ := Kd.R_form HO_3.out (by omega)
 (first | cases eo19 | (injection eo19 with ea_ en_ ec_; (first | subst ea_ | (injection ea_ with ea_; subst ea_)); subst ec_; clear en_))
 have GB19 := zA gb19
 have GG19 := zA HG19
 clear gb19 gl19 HG19
 (first | simp only [zdk] at hx110_0 | skip)
 obtain ⟨hx19_0, hf19_0⟩ := Kd.R_celln 0 HO_3.out ((rd t106 x20_2) : Int) p19 q19
 replace p19 := eq_true p19
 replace q19 := eq_true q19
 have HP21 := Kd.R_putg HO_3.out ((rd t106 x20_2) : Int) (wrap64 ((rd x3_2 (rd t106 x20_2)) + 1))
 go_wp2_with (first | ((with_reducible refine zbk (t := 3) (p := 29) rfl ?_); refine zbj (t := 3) (p := 29) (v := ?vo_w22) (w1 := (wr.setCell ⟨go19, ((rd t106 x20_2) : Int).toNat, none⟩ (.int .i64 (wrap64 ((rd x3_2 (rd t106 x20_2)) + 1))))) ?hg ?ho ?hn ?hr ?_; (case ho => rfl); (case hg => rfl); (case hn => rfl); (case hr => go_simp <;> rfl); intro w22 hw; have hg : wr.grownBy w22 (some go19) := (by rw [hw]; exact HP21.2); have hp_ : Kd.R (Kd.int .i64) 3 w22 w.heap.size (fun k_ => some k_ ≠ (.slice (some ad109) t106.length co13 : Value).ownBlock) (.slice (some ⟨go19, 0, none⟩) x3_2.length co20) y111 := (by rw [hw, Ny111.out]; exact HP21.1); clear HP21; have n0_ := zA (hp_); have n1_ := zA (Kd.R_after (v := (.slice (some ⟨go19, 0, none⟩) x3_2.length co20)) (v1 := (.slice (some ⟨go19, 0, none⟩) x3_2.length co20)) (ok := (fun _ => True)) (by (with_reducible repeat (first | apply zRa | apply zRn | apply zRd)); exact Kd.R_mono HO_18.out (fun _ hk => ⟨trivial, hk⟩)) hg (.inl rfl)); have n2_ := zA (zed (g := gb105) (o := .cells #[.string ((zac l0 x13_1).f0), .int .i64 ((zac l0 x13_1).f1), .int .i64 ((zac l0 x13_1).f2), .int .i64 ((zac l0 x13_1).f3)] 72 (0, 0)) (by (with_reducible repeat (first | refine zkn ?_ _ | refine zkd ?_ | refine zka ?_ _)); exact BK105.out) hg (Kd.R_ne HO_3.out BK105.out (by decide))); have n3_ := zA ((by rw [hw]; exact zab (HB.out) GB19.out : Below w.heap.size w w22)); clear HO_3 HO_18; clear BK105 HB; have HO_3 := n0_; have HO_18 := n1_; have BK105 := n2_; have HB := n3_; clear n0_ n1_ n2_ n3_; clear hg hw hp_))
 go_roundg k2
 case measure => have := HK1.out; have := HK2.out; omega
 case rel => exact ⟨(y111), (wrap64 (x20_2 + 1)), (by first | rfl | (simp; done) | (simp [*]; done)), H', ⟨by have := HK1.out; have := HK2.out; omega⟩, ⟨by (with_reducible repeat (first | apply zRa | apply zRn | apply zRd)); exact HO_3.out⟩, ⟨by (with_reducible repeat (first | apply zRa | apply zRn | apply zRd)); exact Kd.R_mono HO_18.out (fun _ hk => hk.2)⟩, ⟨by (with_reducible repeat (first | refine zkn ?_ _ | refine zkd ?_ | refine zka ?_ _)); exact BK105.out⟩, ⟨by repeat (first | (with_reducible first | exact HB.out | apply zba | apply zbn | apply zbd | refine zab ?_ GE105.out) | exact HB.out)⟩⟩
end Go.Proofs.Ytkfkbmlbpeojaaa.Q
end
section
namespace Go.Proofs.Ytkfkbmlbpeojaaa.Q
open Go.RowKit Go.Proofs.YtkfkbmlbpeojaaaW.PrintWords Go.Proofs.YtkfkbmlbpeojaaaW.PrintLast Go.Proofs.YtkfkbmlbpeojaaaW.PrintMore
attribute [local go_sem] zcz zc0 zd1 zd2 zcl zcm zc1 zc2
set_option linter.unusedVariables false
set_option linter.unusedSimpArgs false
def zdd : Nat → Int → List Int → Int → Int → Option (Bool)
 | 0, _, _, _, _ => none
 | k + 1, x1, x7, x8, x9 => if x9 < x8 then (if 0 ≤ x9 then (if x9 < (x7.length : Int) then (if (rd x7 x9) = x1 then (some true) else (zdd k x1 x7 x8 (wrap64 (x9 + 1)))) else (none)) else (none)) else (some false)
def zem (k : Nat) (l0 : List Int) (a1 : Int) : Option (Bool) := zdd k a1 l0 (l0.length : Int) 0
theorem zik : ∀ k, (∀ y0 y1 y2 y3, LeO (zdd k y0 y1 y2 y3) (zdd (k + 1) y0 y1 y2 y3))
 | 0 => fun _ _ _ _ r h => by simp [zdd] at h
 | k + 1 => by
   have ih0 := zik k
   · intro y0 y1 y2 y3
     unfold zdd
     repeat' first
     | (with_reducible first | exact ih0 _ _ _ _ | exact LeO.refl _ | exact LeO.none _ | refine zai ?_ ?_ | refine LeO.bind ?_ (fun _ => ?_))
     | exact LeO.none _
     | refine zai ?_ ?_
     | refine LeO.bind ?_ (fun _ => ?_)
theorem zi8 : ∀ a0 a1 k, LeO (zem k a0 a1) (zem (k + 1) a0 a1) := by
 intro a0 a1 k
 have ih0 := zik k
 unfold zem
 repeat' first
     | (with_reducible first | exact ih0 _ _ _ _ | exact LeO.refl _ | exact LeO.none _ | refine zai ?_ ?_ | refine LeO.bind ?_ (fun _ => ?_))
     | exact LeO.none _
     | refine zai ?_ ?_
     | refine LeO.bind ?_ (fun _ => ?_)
set_option maxHeartbeats 8000000 in
set_option maxRecDepth 100000 in
theorem zl1 (k : Nat) (A0 : Option Addr) (c0 : Nat) (l0 : List Int) (a1 : Int) (r : Bool) (w : World) (hr0 : Kd.C (Kd.int .i64) w A0 l0.length l0) (hc0 : l0.length ≤ c0) (h : zem k l0 a1 = some r) :
   Calls Try.prog 93 #[.slice A0 l0.length c0, .int .i64 a1] w fun e w' => e = .returned (.bool r) ∧ Drawn0 w w' := by
 have HR0 := zA hr0
 have HC0 := zA hc0
 clear hr0 hc0
 have H : (zdd k a1 l0 (l0.length : Int) 0) = some r := h
 clear h
 have H' := zA H
 clear H
 go_enter Try.func93, Try.ntmps93
 go_wp2
 go_loopg [9] k (fun kq v9 w' => ∃ (x9_1 : Int), v9 = .int .i64 x9_1 ∧ Aside0 (zdd kq a1 l0 (l0.length : Int) x9_1 = some r) ∧ Aside0 (kq ≤ k) ∧ Drawn0 w w')
 case atStart => exact ⟨(0), (by first | rfl | (simp; done) | (simp [*]; done)), H', ⟨zlr _⟩, by repeat (first | exact Drawn0.refl _ | apply Drawn0.step)⟩
 clear H'
 try clear p2
 obtain ⟨x9_1, rfl, HA, HK1, ⟨m1, rfl⟩⟩ := hrel
 cases gk with
 | zero => exact absurd HA.out (by simp [zdd])
 | succ k1 =>
 have H := HA.out
 clear HA
 simp only [zdd] at H
 by_cases c3 : x9_1 < (l0.length : Int)
 rotate_left
 · rw [if_neg c3] at H
   have c3b0 : decide (x9_1 < (l0.length : Int)) = false := zdf c3
   clear c3
   obtain rfl := zsi H
   go_wp2
   go_ret
   exact ⟨by first | rfl | (simp; done) | (simp [*]; done), by repeat (first | exact Drawn0.refl _ | apply Drawn0.step)⟩
 rw [if_pos c3] at H
 have c3b0 : decide (x9_1 < (l0.length : Int)) = true := zdt c3
 clear c3
 by_cases c4 : 0 ≤ x9_1
 rotate_left
 · rw [if_neg c4] at H
   exact absurd H (by simp)
 rw [if_pos c4] at H
 have c4b0 : decide (0 ≤ x9_1) = true := zdt c4
 clear c4
 by_cases c5 : x9_1 < (l0.length : Int)
 rotate_left
 · rw [if_neg c5] at H
   exact absurd H (by simp)
 rw [if_pos c5] at H
 have c5b0 : decide (x9_1 < (l0.length : Int)) = true := zdt c5
 clear c5
 by_cases c6 : (rd l0 x9_1) = a1
 · rw [if_pos c6] at H
   have c6b0 : ((rd l0 x9_1) == a1) = true := beq_iff_eq.mpr c6
   have c6b1 : ((rd l0 x9_1) != a1) = false := bne_eq_false_iff_eq.mpr c6
   clear c6
   obtain rfl := zsi H
   have p101 : 0 ≤ (x9_1 : Int) := zde (by assumption)
   have q101 : x9_1 < (l0.length : Int) := zde (by assumption)
   obtain ⟨ad101, e101, hx101_0⟩ := Kd.at_int HR0.out x9_1 p101 q101
   cases e101
   replace p101 := eq_true p101
   replace q101 := eq_true q101
   go_wp2
   go_ret
   exact ⟨by first | rfl | (simp; done) | (simp [*]; done), by repeat (first | exact Drawn0.refl _ | apply Drawn0.step)⟩
 rw [if_neg c6] at H
 have c6b0 : ((rd l0 x9_1) == a1) = false := beq_eq_false_iff_ne.mpr c6
 have c6b1 : ((rd l0 x9_1) != a1) = true := bne_iff_ne.mpr c6
 have H' := zA H
 clear H
 have p101 : 0 ≤ (x9_1 : Int) := zde (by assumption)
 have q101 : x9_1 < (l0.length : Int) := zde (by assumption)
 obtain ⟨ad101, e101, hx101_0⟩ := Kd.at_int HR0.out x9_1 p101 q101
 cases e101
 replace p101 := eq_true p101
 replace q101 := eq_true q101
 go_wp2
 go_roundg k1
 case measure => have := HK1.out; omega
 case rel => exact ⟨(wrap64 (x9_1 + 1)), (by first | rfl | (simp; done) | (simp [*]; done)), H', ⟨by have := HK1.out; omega⟩, by repeat (first | exact Drawn0.refl _ | apply Drawn0.step)⟩
def zb5 : Nat → List (S72) → List (S72) → Int → Int → Option (Bool)
 | 0, _, _, _, _ => none
 | k + 1, x0, x9, x10, x11 => if x11 < x10 then (if 0 ≤ x11 then (if x11 < (x9.length : Int) then ((ze8 k ((zac x9 x11).f0) ((zac x9 x11).f1) ((zac x9 x11).f2) ((zac x9 x11).f3) x11).bind fun t104 => (if t104 = true then (zb5 k x0 x9 x10 (wrap64 (x11 + 1))) else (some false))) else (none)) else (none)) else ((ze9 k x0).bind fun t105 => (if 0 ≤ (wrap64 ((x0.length : Int) - 1)) then (if (wrap64 ((x0.length : Int) - 1)) ≤ (t105.length : Int) then ((zem k (t105.take ((wrap64 ((x0.length : Int) - 1)) : Int).toNat) 0).bind fun t112 => (some (!t112))) else (none)) else (none)))
def zdy (k : Nat) (l0 : List (S72)) : Option (Bool) := (zaz (l0.length : Int) 1 24).bind fun t101 => (if t101 = true then (zb5 k l0 l0 (l0.length : Int) 0) else (some false))
theorem zhw : ∀ k, (∀ y0 y1 y2 y3, LeO (zb5 k y0 y1 y2 y3) (zb5 (k + 1) y0 y1 y2 y3))
 | 0 => fun _ _ _ _ r h => by simp [zb5] at h
 | k + 1 => by
   have ih0 := zhw k
   · intro y0 y1 y2 y3
     unfold zb5
     repeat' first
     | (with_reducible first | exact ih0 _ _ _ _ | exact zi1 _ _ _ _ _ _ | exact zi2 _ _ | exact zi8 _ _ _ | exact LeO.refl _ | exact LeO.none _ | refine zai ?_ ?_ | refine LeO.bind ?_ (fun _ => ?_))
     | exact LeO.none _
     | refine zai ?_ ?_
     | refine LeO.bind ?_ (fun _ => ?_)
theorem zl2 : ∀ a0 k, LeO (zdy k a0) (zdy (k + 1) a0) := by
 intro a0 k
 have ih0 := zhw k
 unfold zdy
 repeat' first
     | (with_reducible first | exact ih0 _ _ _ _ | exact zi1 _ _ _ _ _ _ | exact zi2 _ _ | exact zi8 _ _ _ | exact LeO.refl _ | exact LeO.none _ | refine zai ?_ ?_ | refine LeO.bind ?_ (fun _ => ?_))
     | exact LeO.none _
     | refine zai ?_ ?_
     | refine LeO.bind ?_ (fun _ => ?_)
set_option maxHeartbeats 8000000 in
set_option maxRecDepth 100000 in
theorem zld (k : Nat) (A0 : Option Addr) (c0 : Nat) (l0 : List (S72)) (r : Bool) (w : World) (hr0 : Kd.C k72 w A0 l0.length l0) (hc0 : l0.length ≤ c0) (h : zdy k l0 = some r) :
   Calls Try.prog 43 #[.slice A0 l0.length c0] w fun e w' => e = .returned (.bool r) ∧ Below w.heap.size w w' := by
 have hu72 := Try.underlying72
 have HR0 := zA hr0
 have HC0 := zA hc0
 clear hr0 hc0
 have HB := zA (Below.refl w.heap.size w)
 have H : ((zaz (l0.length : Int) 1 24).bind fun t101 => (if t101 = true then (zb5 k l0 l0 (l0.length : Int) 0) else (some false))) = some r := h
 clear h
 replace H := zob H
 obtain ⟨t101, A20, H⟩ := H
 replace H : (if t101 = true then (zb5 k l0 l0 (l0.length : Int) 0) else (some false)) = some r := H
 have A2 := zA A20
 clear A20
 by_cases c3 : t101 = true
 rotate_left
 · replace c3 := zbf c3
   subst c3
   replace H : (some false) = some r := by rw [if_neg (show ¬ (false = true) by decide)] at H; exact H
   obtain rfl := zsi H
   go_enter Try.func43, Try.ntmps43
   go_wp2_with (first | ((with_reducible refine zah (f := 50) rfl ?_); refine za3 (some 7) rfl rfl Try.func50 (by kernel_rfl) rfl #[.int .i64 (l0.length : Int), .int .i64 1, .int .i64 24] rfl (by (try simp only [List.map_toArray, List.map_cons, List.map_nil]); first | done | rfl | (simp only [List.length_drop, List.length_take]; rfl)) ?_; (with_reducible refine (zbm (l0.length : Int) 1 24 false _ A2.out).mono ?_); rintro e w' ⟨rfl, ⟨nd, rfl⟩⟩; refine ⟨_, rfl, ?_⟩))
   go_ret
   exact ⟨by first | rfl | (simp [zad, zae] <;> rfl) | (simp [*, zad, zae] <;> rfl), by repeat (first | (with_reducible first | exact HB.out | apply zba | apply zbn | apply zbd) | exact HB.out)⟩
 subst c3
 replace H : (zb5 k l0 l0 (l0.length : Int) 0) = some r := by rw [if_pos rfl] at H; exact H
 have H' := zA H
 clear H
 go_enter Try.func43, Try.ntmps43
 go_wp2_with (first | ((with_reducible refine zah (f := 50) rfl ?_); refine za3 (some 7) rfl rfl Try.func50 (by kernel_rfl) rfl #[.int .i64 (l0.length : Int), .int .i64 1, .int .i64 24] rfl (by (try simp only [List.map_toArray, List.map_cons, List.map_nil]); first | done | rfl | (simp only [List.length_drop, List.length_take]; rfl)) ?_; (with_reducible refine (zbm (l0.length : Int) 1 24 true _ A2.out).mono ?_); rintro e w' ⟨rfl, ⟨nd, rfl⟩⟩; refine ⟨_, rfl, ?_⟩))
 go_loopg [11] k (fun kq v11 w' => ∃ (x11_1 : Int), v11 = .int .i64 x11_1 ∧ Aside0 (zb5 kq l0 l0 (l0.length : Int) x11_1 = some r) ∧ Aside0 (kq ≤ k) ∧ Aside0 (Below w.heap.size w w'))
 case atStart => exact ⟨(0), (by first | rfl | (simp; done) | (simp [*]; done)), H', ⟨zlr _⟩, ⟨by repeat (first | (with_reducible first | exact HB.out | apply zba | apply zbn | apply zbd) | exact HB.out)⟩⟩
 clear H'
 try clear p2
 try clear c3
 obtain ⟨x11_1, rfl, HA, HK1, HB⟩ := hrel
 cases gk with
 | zero => exact absurd HA.out (by simp [zb5])
 | succ k1 =>
 have H := HA.out
 clear HA
 simp only [zb5] at H
 by_cases c4 : x11_1 < (l0.length : Int)
 rotate_left
 · rw [if_neg c4] at H
   have c4b0 : decide (x11_1 < (l0.length : Int)) = false := zdf c4
   clear c4
   replace H := zob H
   obtain ⟨t105, A150, H⟩ := H
   replace H : (if 0 ≤ (wrap64 ((l0.length : Int) - 1)) then (if (wrap64 ((l0.length : Int) - 1)) ≤ (t105.length : Int) then ((zem k1 (t105.take ((wrap64 ((l0.length : Int) - 1)) : Int).toNat) 0).bind fun t112 => (some (!t112))) else (none)) else (none)) = some r := H
   have A15 := zA A150
   clear A150
   obtain ⟨ji16, hji16⟩ : ∃ j_ : Int, (wrap64 ((l0.length : Int) - 1)) = j_ := ⟨_, rfl⟩
   replace H : (if 0 ≤ (ji16) then (if (ji16) ≤ (t105.length : Int) then ((zem k1 (t105.take ((ji16) : Int).toNat) 0).bind fun t112 => (some (!t112))) else (none)) else (none)) = some r := by first | (rw [hji16] at H; exact H) | (simp only [hji16] at H ⊢; exact H)
   (try rw [hji16] at A15)
   have hji16w : (IntKind.i64.wrap ((l0.length : Int) - 1)) = ji16 := (za4 _).trans hji16
   by_cases c17 : 0 ≤ (ji16)
   rotate_left
   · rw [if_neg c17] at H
     exact absurd H (by simp)
   rw [if_pos c17] at H
   have c17b0 := eq_true c17
   have c17b1 : decide (0 ≤ (ji16)) = true := zdt c17
   clear c17
   by_cases c18 : (ji16) ≤ (t105.length : Int)
   rotate_left
   · rw [if_neg c18] at H
     exact absurd H (by simp)
   rw [if_pos c18] at H
   have c18b0 := eq_true c18
   have c18b1 : decide ((ji16) ≤ (t105.length : Int)) = true := zdt c18
   clear c18
   obtain ⟨y108, hy108⟩ : ∃ y_ : List Int, y_ = (t105.take ((ji16) : Int).toNat) := ⟨_, rfl⟩
   replace H : ((zem k1 y108 0).bind fun t112 => (some (!t112))) = some r := by first | (rw [hy108]; with_reducible exact H) | (have H2_ := (Option.bind_some _ _).symm.trans H; rw [hy108]; with_reducible exact H2_) | (have H2_ := (Option.bind_some _ _).symm.trans H; with_reducible exact H2_) | with_reducible exact H | (rw [hy108]; exact H) | exact H
   have Ny108 := zA hy108
   clear hy108
   replace H := zob H
   obtain ⟨t112, A190, H⟩ := H
   replace H : (some (!t112)) = some r := H
   have A19 := zA A190
   clear A190
   obtain rfl := zsi H
   go_wp2_with (first | ((with_reducible refine zah (f := 94) rfl ?_); refine za3 (some 22) rfl rfl Try.func94 (by kernel_rfl) rfl #[.slice A0 l0.length c0] rfl (by (try simp only [List.map_toArray, List.map_cons, List.map_nil]); first | done | rfl | (simp only [List.length_drop, List.length_take]; rfl)) ?_; (with_reducible refine (zlc k1 _ _ l0 t105 _ ?side1 ?side2 A15.out).mono ?_); (case side1 => repeat (first | exact (zCb HR0.out HB.out) | (with_reducible first | refine zCa ?_ _ | refine zCn ?_ _ | refine zCd ?_))); (case side2 => exact HC0.out); rintro e w20 ⟨v106, rfl, ho0, hb⟩; refine ⟨_, rfl, ?_⟩; have n0_ := zA (Kd.R_lower ho0 (za0 (by repeat (first | (with_reducible first | exact HB.out | apply zba | apply zbn | apply zbd) | exact HB.out)))); have n1_ := zA (zag (by repeat (first | (with_reducible first | exact HB.out | apply zba | apply zbn | apply zbd) | exact HB.out)) hb); clear HB; have HO107 := n0_; have HB := n1_; clear n0_ n1_; (try clear hb); (try clear ho0); obtain ⟨Ao22, co22, eo22⟩ := Kd.R_slice HO107.out; subst eo22; have q21 : ((ji16) : Int) ≤ ((t105.length : Int) : Int) := zde (by assumption); obtain ⟨i021, hi021, _, hsz21, _⟩ := info_parts zlp; have hroom21 : t105.length ≤ co22 := (zRr HO107.out).2.1; have hC21 : Kd.C (Kd.int .i64) _ Ao22 t105.length t105 := (zRr HO107.out).2.2; have hcut21 := zr4 (P := Try.prog) 51 3 .i64 Try.underlying51 hi021 Ao22 t105.length co22 (ji16) (zde (by assumption)) q21 hroom21; have hr21 := Kd.C_take (m := ((ji16) : Int).toNat) hC21 (by omega); have hy21 : y108.length = ((ji16) : Int).toNat := (by rw [Ny108.out, List.length_take]; omega); rw [← Ny108.out] at hr21; rw [← hy21] at hcut21; have HR111 := zA hr21; have HC111 := zA (show y108.length ≤ co22 from by omega); clear hr21 hC21 hroom21 hi021 hsz21; have KY21 := zA hy21; clear hy21; have KL21 := zA (show ((ji16) : Int).toNat ≤ t105.length from by omega); replace q21 := eq_true q21) | ((with_reducible refine zah (f := 93) rfl ?_); refine za3 (some 27) rfl rfl Try.func93 (by kernel_rfl) rfl #[.slice Ao22 y108.length co22, .int .i64 0] rfl (by (try simp only [List.map_toArray, List.map_cons, List.map_nil]); first | done | rfl | (simp only [List.length_drop, List.length_take]; rfl)) ?_; (with_reducible refine (zl1 k1 _ _ y108 0 t112 _ ?side1 ?side2 A19.out).mono ?_); (case side1 => repeat (first | exact (by repeat (first | (with_reducible exact HR111.out) | (with_reducible first | refine zCa ?_ _ | refine zCn ?_ _ | refine zCd ?_) | exact HR111.out)) | (with_reducible first | refine zCa ?_ _ | refine zCn ?_ _ | refine zCd ?_))); (case side2 => exact HC111.out); rintro e w' ⟨rfl, ⟨nd, rfl⟩⟩; refine ⟨_, rfl, ?_⟩))
   go_ret
   exact ⟨by first | rfl | (simp [zad, zae] <;> rfl) | (simp only [← hji16]; first | rfl | (simp [zad, zae] <;> rfl)) | (simp [*, zad, zae] <;> rfl), by repeat (first | (with_reducible first | exact HB.out | apply zba | apply zbn | apply zbd) | exact HB.out)⟩
 rw [if_pos c4] at H
 have c4b0 : decide (x11_1 < (l0.length : Int)) = true := zdt c4
 clear c4
 by_cases c5 : 0 ≤ x11_1
 rotate_left
 · rw [if_neg c5] at H
   exact absurd H (by simp)
 rw [if_pos c5] at H
 have c5b0 : decide (0 ≤ x11_1) = true := zdt c5
 clear c5
 by_cases c6 : x11_1 < (l0.length : Int)
 rotate_left
 · rw [if_neg c6] at H
   exact absurd H (by simp)
 rw [if_pos c6] at H
 have c6b0 : decide (x11_1 < (l0.length : Int)) = true := zdt c6
 clear c6
 replace H := zob H
 obtain ⟨t104, A70, H⟩ := H
 replace H : (if t104 = true then (zb5 k1 l0 l0 (l0.length : Int) (wrap64 (x11_1 + 1))) else (some false)) = some r := H
 have A7 := zA A70
 clear A70
 by_cases c8 : t104 = true
 rotate_left
 · replace c8 := zbf c8
   subst c8
   replace H : (some false) = some r := by rw [if_neg (show ¬ (false = true) by decide)] at H; exact H
   obtain rfl := zsi H
   have p102 : 0 ≤ (x11_1 : Int) := zde (by assumption)
   have q102 : x11_1 < (l0.length : Int) := zde (by assumption)
   obtain ⟨ad102, e102, hx102_0, hx102_1, hx102_2, hx102_3⟩ := zen HR0.out x11_1 p102 q102
   cases e102
   replace hx102_0 := zkep HB.out hx102_0
   replace hx102_1 := zkep HB.out hx102_1
   replace hx102_2 := zkep HB.out hx102_2
   replace hx102_3 := zkep HB.out hx102_3
   replace p102 := eq_true p102
   replace q102 := eq_true q102
   go_wp2_with (first | ((with_reducible refine zar (N := 4) rfl ?_); refine zat ?hg (N := 4) ?hd (cs := #[.string (⟨#[]⟩ : ByteArray), .int .i64 0, .int .i64 0, .int .i64 0]) (t := 72) ?hr ?_; (case hd => rfl); (case hg => rfl); (case hr => go_simp <;> rfl); intro gb103 hg w12 hbox hb; have zs := zpair (by repeat (first | (with_reducible first | exact HB.out | apply zba | apply zbn | apply zbd) | exact HB.out)) hb; have n0_ := zA (zs.1); have n1_ := zA (hbox); have n2_ := zA ((by rw [hg]; exact zs.2 : w.heap.size ≤ gb103)); have n3_ := n2_; clear HB; have HB := n0_; have BK103 := n1_; have GW103 := n2_; have GE103 := n3_; clear n0_ n1_ n2_ n3_; clear zs hb hbox hg; obtain ⟨hcz13_0, hcz13_1, hcz13_2, hcz13_3⟩ := zc4 w12 (.string (⟨#[]⟩ : ByteArray)) (.int .i64 0) (.int .i64 0) (.int .i64 0) BK103.out; obtain ⟨hfz13_0, hfz13_1, hfz13_2, hfz13_3⟩ := zf4 BK103.out) | ((with_reducible refine zah (f := 92) rfl ?_); refine za3 (some 18) rfl rfl Try.func92 (by kernel_rfl) rfl #[.agg #[.string ((zac l0 x11_1).f0), .int .i64 ((zac l0 x11_1).f1), .int .i64 ((zac l0 x11_1).f2), .int .i64 ((zac l0 x11_1).f3)], .int .i64 x11_1] rfl (by (try simp only [List.map_toArray, List.map_cons, List.map_nil]); first | done | rfl | (simp only [List.length_drop, List.length_take]; rfl)) ?_; (with_reducible refine (zij k1 ((zac l0 x11_1).f0) ((zac l0 x11_1).f1) ((zac l0 x11_1).f2) ((zac l0 x11_1).f3) x11_1 false _ A7.out).mono ?_); rintro e w14 ⟨rfl, hb⟩; refine ⟨_, rfl, ?_⟩; have n0_ := zA (zaj (g := gb103) (o := .cells #[.string ((zac l0 x11_1).f0), .int .i64 ((zac l0 x11_1).f1), .int .i64 ((zac l0 x11_1).f2), .int .i64 ((zac l0 x11_1).f3)] 72 (0, 0)) (by (with_reducible repeat (first | refine zkn ?_ _ | refine zkd ?_ | refine zka ?_ _)); refine zan (cs := #[.string ((zac l0 x11_1).f0), .int .i64 ((zac l0 x11_1).f1), .int .i64 ((zac l0 x11_1).f2), .int .i64 0]) ?_ 3 _ rfl; (with_reducible repeat (first | refine zkn ?_ _ | refine zkd ?_ | refine zka ?_ _)); refine zan (cs := #[.string ((zac l0 x11_1).f0), .int .i64 ((zac l0 x11_1).f1), .int .i64 0, .int .i64 0]) ?_ 2 _ rfl; (with_reducible repeat (first | refine zkn ?_ _ | refine zkd ?_ | refine zka ?_ _)); refine zan (cs := #[.string ((zac l0 x11_1).f0), .int .i64 0, .int .i64 0, .int .i64 0]) ?_ 1 _ rfl; (with_reducible repeat (first | refine zkn ?_ _ | refine zkd ?_ | refine zka ?_ _)); refine zan (cs := #[.string (⟨#[]⟩ : ByteArray), .int .i64 0, .int .i64 0, .int .i64 0]) ?_ 0 _ rfl; (with_reducible repeat (first | refine zkn ?_ _ | refine zkd ?_ | refine zka ?_ _)); exact BK103.out) hb); have n1_ := zA (zag (by repeat (first | (with_reducible first | exact HB.out | apply zba | apply zbn | apply zbd | refine zab ?_ GE103.out) | exact HB.out)) hb); clear BK103 HB; have BK103 := n0_; have HB := n1_; clear n0_ n1_; (try clear hb)))
   go_ret
   exact ⟨by first | rfl | (simp [zad, zae] <;> rfl) | (simp [*, zad, zae] <;> rfl), by repeat (first | (with_reducible first | exact HB.out | apply zba | apply zbn | apply zbd | refine zab ?_ GE103.out) | exact HB.out)⟩
 subst c8
 replace H : (zb5 k1 l0 l0 (l0.length : Int) (wrap64 (x11_1 + 1))) = some r := by rw [if_pos rfl] at H; exact H
 have H' := zA H
 clear H
 have p102 : 0 ≤ (x11_1 : Int) := zde (by assumption)
 have q102 : x11_1 < (l0.length : Int) := zde (by assumption)
 obtain ⟨ad102, e102, hx102_0, hx102_1, hx102_2, hx102_3⟩ := zen HR0.out x11_1 p102 q102
 cases e102
 replace hx102_0 := zkep HB.out hx102_0
 replace hx102_1 := zkep HB.out hx102_1
 replace hx102_2 := zkep HB.out hx102_2
 replace hx102_3 := zkep HB.out hx102_3
 replace p102 := eq_true p102
 replace q102 := eq_true q102
 go_wp2_with (first | ((with_reducible refine zar (N := 4) rfl ?_); refine zat ?hg (N := 4) ?hd (cs := #[.string (⟨#[]⟩ : ByteArray), .int .i64 0, .int .i64 0, .int .i64 0]) (t := 72) ?hr ?_; (case hd => rfl); (case hg => rfl); (case hr => go_simp <;> rfl); intro gb103 hg w9 hbox hb; have zs := zpair (by repeat (first | (with_reducible first | exact HB.out | apply zba | apply zbn | apply zbd) | exact HB.out)) hb; have n0_ := zA (zs.1); have n1_ := zA (hbox); have n2_ := zA ((by rw [hg]; exact zs.2 : w.heap.size ≤ gb103)); have n3_ := n2_; clear HB; have HB := n0_; have BK103 := n1_; have GW103 := n2_; have GE103 := n3_; clear n0_ n1_ n2_ n3_; clear zs hb hbox hg; obtain ⟨hcz10_0, hcz10_1, hcz10_2, hcz10_3⟩ := zc4 w9 (.string (⟨#[]⟩ : ByteArray)) (.int .i64 0) (.int .i64 0) (.int .i64 0) BK103.out; obtain ⟨hfz10_0, hfz10_1, hfz10_2, hfz10_3⟩ := zf4 BK103.out) | ((with_reducible refine zah (f := 92) rfl ?_); refine za3 (some 18) rfl rfl Try.func92 (by kernel_rfl) rfl #[.agg #[.string ((zac l0 x11_1).f0), .int .i64 ((zac l0 x11_1).f1), .int .i64 ((zac l0 x11_1).f2), .int .i64 ((zac l0 x11_1).f3)], .int .i64 x11_1] rfl (by (try simp only [List.map_toArray, List.map_cons, List.map_nil]); first | done | rfl | (simp only [List.length_drop, List.length_take]; rfl)) ?_; (with_reducible refine (zij k1 ((zac l0 x11_1).f0) ((zac l0 x11_1).f1) ((zac l0 x11_1).f2) ((zac l0 x11_1).f3) x11_1 true _ A7.out).mono ?_); rintro e w11 ⟨rfl, hb⟩; refine ⟨_, rfl, ?_⟩; have n0_ := zA (zaj (g := gb103) (o := .cells #[.string ((zac l0 x11_1).f0), .int .i64 ((zac l0 x11_1).f1), .int .i64 ((zac l0 x11_1).f2), .int .i64 ((zac l0 x11_1).f3)] 72 (0, 0)) (by (with_reducible repeat (first | refine zkn ?_ _ | refine zkd ?_ | refine zka ?_ _)); refine zan (cs := #[.string ((zac l0 x11_1).f0), .int .i64 ((zac l0 x11_1).f1), .int .i64 ((zac l0 x11_1).f2), .int .i64 0]) ?_ 3 _ rfl; (with_reducible repeat (first | refine zkn ?_ _ | refine zkd ?_ | refine zka ?_ _)); refine zan (cs := #[.string ((zac l0 x11_1).f0), .int .i64 ((zac l0 x11_1).f1), .int .i64 0, .int .i64 0]) ?_ 2 _ rfl; (with_reducible repeat (first | refine zkn ?_ _ | refine zkd ?_ | refine zka ?_ _)); refine zan (cs := #[.string ((zac l0 x11_1).f0), .int .i64 0, .int .i64 0, .int .i64 0]) ?_ 1 _ rfl; (with_reducible repeat (first | refine zkn ?_ _ | refine zkd ?_ | refine zka ?_ _)); refine zan (cs := #[.string (⟨#[]⟩ : ByteArray), .int .i64 0, .int .i64 0, .int .i64 0]) ?_ 0 _ rfl; (with_reducible repeat (first | refine zkn ?_ _ | refine zkd ?_ | refine zka ?_ _)); exact BK103.out) hb); have n1_ := zA (zag (by repeat (first | (with_reducible first | exact HB.out | apply zba | apply zbn | apply zbd | refine zab ?_ GE103.out) | exact HB.out)) hb); clear BK103 HB; have BK103 := n0_; have HB := n1_; clear n0_ n1_; (try clear hb)))
 go_roundg k1
 case measure => have := HK1.out; omega
 case rel => exact ⟨(wrap64 (x11_1 + 1)), (by first | rfl | (simp; done) | (simp [*]; done)), H', ⟨by have := HK1.out; omega⟩, ⟨by repeat (first | (with_reducible first | exact HB.out | apply zba | apply zbn | apply zbd | refine zab ?_ GE103.out) | exact HB.out)⟩⟩
def zdi (k : Nat) (a0_0 : ByteArray) (a0_1 : Int) (a0_2 : Int) (a0_3 : Int) (l1 : List Int) : Option (ByteArray × Int × Int × Int) := (zdh k a0_0 a0_1 a0_2 a0_3).bind fun ps =>
 if (0 < ps.length → 0 ≤ a0_1 ∧ a0_1 < (l1.length : Int)) ∧ (1 < ps.length → 0 ≤ a0_2 ∧ a0_2 < (l1.length : Int)) then some (a0_0, if 0 < ps.length then rd l1 a0_1 else 0, if 1 < ps.length then rd l1 a0_2 else 0, a0_3) else none
theorem zfp : ∀ a0 a1 a2 a3 a4 k, LeO (zdi k a0 a1 a2 a3 a4) (zdi (k + 1) a0 a1 a2 a3 a4) := by
 intro a0 a1 a2 a3 a4 k
 unfold zdi
 exact LeO.bind (zdc _ _ _ _ _) (fun _ => LeO.refl _)
set_option maxHeartbeats 4000000 in
set_option maxRecDepth 100000 in
theorem zke (k : Nat) (a0_0 : ByteArray) (a0_1 : Int) (a0_2 : Int) (a0_3 : Int) (A1 : Option Addr) (c1 : Nat) (l1 : List Int) (r1 : ByteArray) (r2 : Int) (r3 : Int) (r4 : Int) (w : World) (hr1 : Kd.C (Kd.int .i64) w A1 l1.length l1) (hc1 : l1.length ≤ c1) (h : zdi k a0_0 a0_1 a0_2 a0_3 l1 = some (r1, r2, r3, r4)) :
   Calls Try.prog 165 #[.agg #[.string a0_0, .int .i64 a0_1, .int .i64 a0_2, .int .i64 a0_3], .slice A1 l1.length c1] w fun e w' => e = .returned (.agg #[.string r1, .int .i64 r2, .int .i64 r3, .int .i64 r4]) ∧ Below w.heap.size w w' := by
 unfold zdi at h
 obtain ⟨ps, hps, h⟩ := Option.bind_eq_some_iff.1 h
 by_cases hc : (0 < ps.length → 0 ≤ a0_1 ∧ a0_1 < (l1.length : Int)) ∧ (1 < ps.length → 0 ≤ a0_2 ∧ a0_2 < (l1.length : Int))
 rotate_left
 · rw [if_neg hc] at h
   cases h
 rw [if_pos hc] at h
 have HH := zA (zsi h)
 have HPS := zA hps
 have HP := zA hc
 have HR := zA hr1
 clear h hps hc hr1
 go_enter Try.func165, Try.ntmps165
 go_upto_if 14 with (first
   | ((with_reducible refine zar (N := 2) rfl ?_); go_must (refine zat ?hg (N := 2) ?hd (cs := #[.string a0_0, .int .i64 a0_1, .int .i64 a0_2, .int .i64 a0_3]) (t := 72) ?hr ?_; (case hd => rfl); (case hg => rfl); (case hr => go_simp <;> rfl); intro g2 hg w4 hbox hb; have G2 := zA (Nat.le_of_eq hg.symm); have B2 := zA hbox; have HB := zA hb; clear hg hbox hb))
   | ((with_reducible refine zar (N := 4) rfl ?_); go_must (refine zat ?hg (N := 4) ?hd (cs := #[.string ⟨#[]⟩, .int .i64 0, .int .i64 0, .int .i64 0]) (t := 72) ?hr ?_; (case hd => rfl); (case hg => rfl); (case hr => go_simp <;> rfl); intro g4 hg w5 hbox hb; have G4 := zA (show g2 < g4 ∧ w.heap.size ≤ g4 from ⟨by have := zcp B2.out; omega, by have := HB.out.size; omega⟩); have B4 := zA hbox; have n1 := zA (zaj B2.out hb); have n2 := zA (zag HB.out hb); clear B2 HB; have B2 := n1; have HB := n2; have y0 := zaf B2.out 0; have y3 := zaf B2.out 3; clear n1 n2 hg hbox hb))
   | ((with_reducible refine zar (N := 5) rfl ?_); go_must (refine zat ?hg (N := 5) ?hd (cs := #[.string ⟨#[]⟩, .int .i64 0, .int .i64 0, .int .i64 0]) (t := 72) ?hr ?_; (case hd => rfl); (case hg => rfl); (case hr => go_simp <;> rfl); intro g5 hg w6 hbox hb; have G5 := zA (show g2 < g5 ∧ g4 < g5 ∧ w.heap.size ≤ g5 from ⟨by have := zcp B2.out; omega, by have := zcp B4.out; omega, by have := HB.out.size; omega⟩); have B5 := zA hbox; have n1 := zA (zaj B2.out hb); have n2 := zA (zag HB.out hb); have n3 := zA (zaj B4.out hb); clear B2 HB B4 y0 y3; have B2 := n1; have HB := n2; have B4 := n3; clear n1 n2 n3 hg hbox hb))
   | ((with_reducible refine zbk (t := 72) (p := 5) rfl ?_); go_must (refine zid rfl (t := 72) (p := 5) rfl rfl (g := g5) (u := .agg #[.string a0_0, .int .i64 0, .int .i64 0, .int .i64 a0_3]) (seg := [.string a0_0, .int .i64 0, .int .i64 0, .int .i64 a0_3]) rfl rfl B5.out rfl rfl rfl (by simp [Value.oneCell']) ?_; intro w7 hbb hbw hfar; have n1 := zA ((hfar g2 (by have := G5.out; omega)).trans B2.out); have n2 := zA (HB.out.trans (hbw _ G5.out.2.2)); have n3 := zA ((hfar g4 (by have := G5.out; omega)).trans B4.out); clear B2 HB B4 B5; have B2 := n1; have HB := n2; have B4 := n3; have B5 := zA hbb; have y0 := zaf B2.out 0; have y1 := zaf B2.out 1; have y2 := zaf B2.out 2; have y3 := zaf B2.out 3; clear n1 n2 n3 hbb hbw hfar))
   | (go_at_call 143; go_must (refine (zdx k a0_0 a0_1 a0_2 a0_3 ps _ HPS.out).mono ?_; rintro e w8 ⟨v, rfl, ho, hb⟩; obtain ⟨A9, c9, rfl⟩ := Kd.R_slice ho; have n1 := zA (zaj B2.out hb); have n2 := zA (zag HB.out hb); have n3 := zA (zaj B4.out hb); have n4 := zA (zaj B5.out hb); clear B2 HB B4 B5 y0 y1 y2 y3; have B2 := n1; have HB := n2; have B4 := n3; have B5 := n4; clear n1 n2 n3 n4 hb ho)))
 go_cut [] from 6 (fun wx => Aside0 (wx.heap[g2]? = some (.cells #[.string a0_0, .int .i64 a0_1, .int .i64 a0_2, .int .i64 a0_3] 72 (0, 0))) ∧ Aside0 (Below w.heap.size w wx) ∧ Aside0 (wx.heap[g4]? = some (.cells #[.string ⟨#[]⟩, .int .i64 0, .int .i64 0, .int .i64 0] 72 (0, 0))) ∧ Aside0 (wx.heap[g5]? = some (.cells #[.string a0_0, .int .i64 (if 0 < ps.length then rd l1 a0_1 else 0), .int .i64 0, .int .i64 a0_3] 72 (0, 0))))
 case first =>
   by_cases q : 0 < ps.length
   rotate_left
   · have d1 : decide (0 < ps.length) = false := zdf (by omega)
     have d2 : decide ((0 : Int) < ps.length) = false := zdf (by omega)
     first | rw [d1] | rw [d2]
     clear d1 d2
     have Q := zA q
     clear q
     go_wp2_with fail
     go_meet
     case rel => exact ⟨B2, HB, B4, ⟨by rw [if_neg Q.out]; exact B5.out⟩⟩
   have d1 : decide (0 < ps.length) = true := zdt (by omega)
   have d2 : decide ((0 : Int) < ps.length) = true := zdt (by omega)
   first | rw [d1] | rw [d2]
   clear d1 d2
   obtain ⟨p1, p2⟩ := HP.out.1 q
   have Q := zA q
   have HB5 := zA (zas B5.out 1 (.int .i64 (rd l1 a0_1)))
   obtain ⟨ad, eA, x0⟩ := Kd.at_int (zCb HR.out HB.out) a0_1 p1 p2
   subst eA
   have y1 := zaf B2.out 1
   have y5 := zaf B5.out 1
   have f5 := zbu B5.out 1
   clear q
   go_wp2_with fail
   go_meet
   refine ⟨⟨zav B2.out (by have := G5.out; intro e; have : g2 = g5 := (by simpa using e); omega) _⟩, ⟨HB.out.setCell (p := ⟨g5, 1, none⟩) G5.out.2.2 _⟩, ⟨zav B4.out (by have := G5.out; intro e; have : g4 = g5 := (by simpa using e); omega) _⟩, ⟨?_⟩⟩
   rw [if_pos Q.out]
   simpa using HB5.out
 case rest =>
 clear B2 HB B4 B5
 obtain ⟨B2, HB, B4, B5⟩ := hcut
 have y0 := zaf B2.out 0
 have y1 := zaf B2.out 1
 have y2 := zaf B2.out 2
 have y3 := zaf B2.out 3
 go_upto_if 24 with (go_at_call 143; go_must (refine (zdx k a0_0 a0_1 a0_2 a0_3 ps _ HPS.out).mono ?_; rintro e w8 ⟨v, rfl, ho, hb⟩; obtain ⟨A9, c9, rfl⟩ := Kd.R_slice ho; have n1 := zA (zaj B2.out hb); have n2 := zA (zag HB.out hb); have n3 := zA (zaj B4.out hb); have n4 := zA (zaj B5.out hb); clear B2 HB B4 B5 y0 y1 y2 y3; have B2 := n1; have HB := n2; have B4 := n3; have B5 := n4; clear n1 n2 n3 n4 hb ho))
 go_cut [] from 6 (fun wx => Aside0 (wx.heap[g2]? = some (.cells #[.string a0_0, .int .i64 a0_1, .int .i64 a0_2, .int .i64 a0_3] 72 (0, 0))) ∧ Aside0 (Below w.heap.size w wx) ∧ Aside0 (wx.heap[g4]? = some (.cells #[.string ⟨#[]⟩, .int .i64 0, .int .i64 0, .int .i64 0] 72 (0, 0))) ∧ Aside0 (wx.heap[g5]? = some (.cells #[.string a0_0, .int .i64 (if 0 < ps.length then rd l1 a0_1 else 0), .int .i64 (if 1 < ps.length then rd l1 a0_2 else 0), .int .i64 a0_3] 72 (0, 0))))
 case first =>
   by_cases q : 1 < ps.length
   rotate_left
   · have d1 : decide (1 < ps.length) = false := zdf (by omega)
     have d2 : decide ((1 : Int) < ps.length) = false := zdf (by omega)
     first | rw [d1] | rw [d2]
     clear d1 d2
     have Q := zA q
     clear q
     go_wp2_with fail
     go_meet
     case rel => exact ⟨B2, HB, B4, ⟨by rw [if_neg Q.out]; exact B5.out⟩⟩
   have d1 : decide (1 < ps.length) = true := zdt (by omega)
   have d2 : decide ((1 : Int) < ps.length) = true := zdt (by omega)
   first | rw [d1] | rw [d2]
   clear d1 d2
   obtain ⟨p1, p2⟩ := HP.out.2 q
   have Q := zA q
   have HB5 := zA (zas B5.out 2 (.int .i64 (rd l1 a0_2)))
   obtain ⟨ad, eA, x0⟩ := Kd.at_int (zCb HR.out HB.out) a0_2 p1 p2
   subst eA
   have y1 := zaf B2.out 2
   have y5 := zaf B5.out 2
   have f5 := zbu B5.out 2
   clear q
   go_wp2_with fail
   go_meet
   refine ⟨⟨zav B2.out (by have := G5.out; intro e; have : g2 = g5 := (by simpa using e); omega) _⟩, ⟨HB.out.setCell (p := ⟨g5, 2, none⟩) G5.out.2.2 _⟩, ⟨zav B4.out (by have := G5.out; intro e; have : g4 = g5 := (by simpa using e); omega) _⟩, ⟨?_⟩⟩
   rw [if_pos Q.out]
   simpa using HB5.out
 case rest =>
 clear B2 HB B4 B5
 obtain ⟨B2, HB, B4, B5⟩ := hcut
 obtain ⟨z1, hz1⟩ : ∃ z, z = (if 0 < ps.length then rd l1 a0_1 else 0) := ⟨_, rfl⟩
 obtain ⟨z2, hz2⟩ : ∃ z, z = (if 1 < ps.length then rd l1 a0_2 else 0) := ⟨_, rfl⟩
 rw [← hz1, ← hz2] at B5
 have HZ1 := zA hz1
 have HZ2 := zA hz2
 clear hz1 hz2
 have y0 := zaf B5.out 0
 have y1 := zaf B5.out 1
 have y2 := zaf B5.out 2
 have y3 := zaf B5.out 3
 go_wp2_with ((with_reducible refine zbk (t := 72) (p := 4) rfl ?_); go_must (refine zid rfl (t := 72) (p := 4) rfl rfl (g := g4) (u := .agg #[.string a0_0, .int .i64 z1, .int .i64 z2, .int .i64 a0_3]) (seg := [.string a0_0, .int .i64 z1, .int .i64 z2, .int .i64 a0_3]) rfl rfl B4.out rfl rfl rfl (by simp [Value.oneCell']) ?_; intro w9 hbb hbw hfar; have n2 := zA (HB.out.trans (hbw _ G4.out.2)); have B6 := zA hbb; clear HB y0 y1 y2 y3 hbb hbw hfar; have HB := n2; clear n2))
 refine bodyPost_ret (results_cell_row rfl _ _ g4 72 #[.string a0_0, .int .i64 z1, .int .i64 z2, .int .i64 a0_3] (0, 0) _ rfl B6.out Try.underlying72 rfl (by kernel_rfl)) rfl ?_
 obtain ⟨rfl, h2⟩ := Prod.mk.inj HH.out
 obtain ⟨rfl, h3⟩ := Prod.mk.inj h2
 obtain ⟨rfl, rfl⟩ := Prod.mk.inj h3
 exact ⟨by rw [← HZ1.out, ← HZ2.out], HB.out⟩
end Go.Proofs.Ytkfkbmlbpeojaaa.Q
end
section
namespace Go.Proofs.Ytkfkbmlbpeojaaa.Q
open Go.RowKit Go.Proofs.YtkfkbmlbpeojaaaW.PrintWords Go.Proofs.YtkfkbmlbpeojaaaW.PrintLast Go.Proofs.YtkfkbmlbpeojaaaW.PrintMore
attribute [local go_sem] zcz zc0 zd1 zd2 zcl zcm zc1 zc2
set_option linter.unusedVariables false
set_option linter.unusedSimpArgs false
mutual
def zb6 : Nat → List (S72) → Int → List Bool → Int → Option ((List (S72)))
 | 0, _, _, _, _ => none
 | k + 1, x0, x1, x5, x6 => if x6 ≥ 0 then (if 0 ≤ x6 then (if x6 < (x0.length : Int) then ((zdh k ((zac x0 x6).f0) ((zac x0 x6).f1) ((zac x0 x6).f2) ((zac x0 x6).f3)).bind fun t106 => (zbr k x0 x1 x5 x6 t106 (t106.length : Int) 0)) else (none)) else (none)) else (if 0 ≤ (wrap64 (x1 + 1)) then (if (wrap64 (x1 + 1) : Int).toNat ≤ 35184372088832 then (zbb k x0 x1 x5 (List.replicate (wrap64 (x1 + 1) : Int).toNat 0) ([] : List (S72)) 0) else (none)) else (none))
def zbr : Nat → List (S72) → Int → List Bool → Int → List Int → Int → Int → Option ((List (S72)))
 | 0, _, _, _, _, _, _, _ => none
 | k + 1, x0, x1, x5, x6, x27, x28, x29 => if x29 < x28 then (if 0 ≤ x29 then (if x29 < (x27.length : Int) then (if 0 ≤ (rd x27 x29) then (if (rd x27 x29) < (x5.length : Int) then (if rdOf false x5 (rd x27 x29) = true then (zbr k x0 x1 (x5.set ((rd x27 x29) : Int).toNat true) x6 x27 x28 (wrap64 (x29 + 1))) else (if 0 ≤ x6 then (if x6 < (x5.length : Int) then (zbr k x0 x1 (x5.set ((rd x27 x29) : Int).toNat (rdOf false x5 x6)) x6 x27 x28 (wrap64 (x29 + 1))) else (none)) else (none))) else (none)) else (none)) else (none)) else (none)) else (zb6 k x0 x1 x5 (wrap64 (x6 - 1)))
def zbb : Nat → List (S72) → Int → List Bool → List Int → List (S72) → Int → Option ((List (S72)))
 | 0, _, _, _, _, _, _ => none
 | k + 1, x0, x1, x5, x9, x10, x11 => if x11 ≤ x1 then (if 0 ≤ x11 then (if x11 < (x5.length : Int) then (if rdOf false x5 x11 = true then (if x11 < (x9.length : Int) then ((some (x9.set (x11 : Int).toNat (x10.length : Int) : List Int)).bind fun y118 => (if x11 < (x0.length : Int) then ((zdi k ((zac x0 x11).f0) ((zac x0 x11).f1) ((zac x0 x11).f2) ((zac x0 x11).f3) y118).bind fun bt120 => (if x10.length < 3518437208883 then (zbb k x0 x1 x5 y118 (x10 ++ [(⟨bt120.1, bt120.2.1, bt120.2.2.1, bt120.2.2.2⟩ : S72)]) (wrap64 (x11 + 1))) else (none))) else (none))) else (none)) else (zbb k x0 x1 x5 x9 x10 (wrap64 (x11 + 1)))) else (none)) else (none)) else (some x10)
end
def zek (k : Nat) (l0 : List (S72)) (a1 : Int) : Option ((List (S72))) := if 0 ≤ (wrap64 (a1 + 1)) then (if (wrap64 (a1 + 1) : Int).toNat ≤ 281474976710656 then ((some (List.replicate (wrap64 (a1 + 1) : Int).toNat false : List Bool)).bind fun y101 => (if 0 ≤ a1 then (if a1 < (y101.length : Int) then (zb6 k l0 a1 (y101.set (a1 : Int).toNat true) a1) else (none)) else (none))) else (none)) else (none)
theorem zhx : ∀ k, (∀ y0 y1 y2 y3, LeO (zb6 k y0 y1 y2 y3) (zb6 (k + 1) y0 y1 y2 y3)) ∧ (∀ y0 y1 y2 y3 y4 y5 y6, LeO (zbr k y0 y1 y2 y3 y4 y5 y6) (zbr (k + 1) y0 y1 y2 y3 y4 y5 y6)) ∧ (∀ y0 y1 y2 y3 y4 y5, LeO (zbb k y0 y1 y2 y3 y4 y5) (zbb (k + 1) y0 y1 y2 y3 y4 y5))
 | 0 => ⟨fun _ _ _ _ r h => by simp [zb6] at h, fun _ _ _ _ _ _ _ r h => by simp [zbr] at h, fun _ _ _ _ _ _ r h => by simp [zbb] at h⟩
 | k + 1 => by
   obtain ⟨ih0, ih1, ih2⟩ := zhx k
   refine ⟨?_, ?_, ?_⟩
   · intro y0 y1 y2 y3
     unfold zb6
     repeat' first
     | (with_reducible first | exact ih0 _ _ _ _ | exact ih1 _ _ _ _ _ _ _ | exact ih2 _ _ _ _ _ _ | exact zfp _ _ _ _ _ _ | exact zdc _ _ _ _ _ | exact LeO.refl _ | exact LeO.none _ | refine zai ?_ ?_ | refine LeO.bind ?_ (fun _ => ?_))
     | exact LeO.none _
     | refine zai ?_ ?_
     | refine LeO.bind ?_ (fun _ => ?_)
   · intro y0 y1 y2 y3 y4 y5 y6
     unfold zbr
     repeat' first
     | (with_reducible first | exact ih0 _ _ _ _ | exact ih1 _ _ _ _ _ _ _ | exact ih2 _ _ _ _ _ _ | exact zfp _ _ _ _ _ _ | exact zdc _ _ _ _ _ | exact LeO.refl _ | exact LeO.none _ | refine zai ?_ ?_ | refine LeO.bind ?_ (fun _ => ?_))
     | exact LeO.none _
     | refine zai ?_ ?_
     | refine LeO.bind ?_ (fun _ => ?_)
   · intro y0 y1 y2 y3 y4 y5
     unfold zbb
     repeat' first
     | (with_reducible first | exact ih0 _ _ _ _ | exact ih1 _ _ _ _ _ _ _ | exact ih2 _ _ _ _ _ _ | exact zfp _ _ _ _ _ _ | exact zdc _ _ _ _ _ | exact LeO.refl _ | exact LeO.none _ | refine zai ?_ ?_ | refine LeO.bind ?_ (fun _ => ?_))
     | exact LeO.none _
     | refine zai ?_ ?_
     | refine LeO.bind ?_ (fun _ => ?_)
theorem zl3 : ∀ a0 a1 k, LeO (zek k a0 a1) (zek (k + 1) a0 a1) := by
 intro a0 a1 k
 obtain ⟨ih0, ih1, ih2⟩ := zhx k
 unfold zek
 repeat' first
     | (with_reducible first | exact ih0 _ _ _ _ | exact ih1 _ _ _ _ _ _ _ | exact ih2 _ _ _ _ _ _ | exact zfp _ _ _ _ _ _ | exact zdc _ _ _ _ _ | exact LeO.refl _ | exact LeO.none _ | refine zai ?_ ?_ | refine LeO.bind ?_ (fun _ => ?_))
     | exact LeO.none _
     | refine zai ?_ ?_
     | refine LeO.bind ?_ (fun _ => ?_)
set_option maxHeartbeats 8000000 in
set_option maxRecDepth 100000 in
theorem zle (k : Nat) (A0 : Option Addr) (c0 : Nat) (l0 : List (S72)) (a1 : Int) (r : List (S72)) (w : World) (hr0 : Kd.C k72 w A0 l0.length l0) (hc0 : l0.length ≤ c0) (h : zek k l0 a1 = some r) :
   Calls Try.prog 114 #[.slice A0 l0.length c0, .int .i64 a1] w fun e w' => ∃ v0_ : Value, e = .returned (v0_) ∧ Kd.R k72 72 w' w.heap.size (fun _ => True) v0_ r ∧ Below w.heap.size w w' := by
 have hu72 := Try.underlying72
 have HR0 := zA hr0
 have HC0 := zA hc0
 clear hr0 hc0
 have HB := zA (Below.refl w.heap.size w)
 have H : (if 0 ≤ (wrap64 (a1 + 1)) then (if (wrap64 (a1 + 1) : Int).toNat ≤ 281474976710656 then ((some (List.replicate (wrap64 (a1 + 1) : Int).toNat false : List Bool)).bind fun y101 => (if 0 ≤ a1 then (if a1 < (y101.length : Int) then (zb6 k l0 a1 (y101.set (a1 : Int).toNat true) a1) else (none)) else (none))) else (none)) else (none)) = some r := h
 clear h
 obtain ⟨ji3, hji3⟩ : ∃ j_ : Int, (wrap64 (a1 + 1)) = j_ := ⟨_, rfl⟩
 replace H : (if 0 ≤ (ji3) then (if (ji3 : Int).toNat ≤ 281474976710656 then ((some (List.replicate (ji3 : Int).toNat false : List Bool)).bind fun y101 => (if 0 ≤ a1 then (if a1 < (y101.length : Int) then (zb6 k l0 a1 (y101.set (a1 : Int).toNat true) a1) else (none)) else (none))) else (none)) else (none)) = some r := by first | (rw [hji3] at H; exact H) | (simp only [hji3] at H ⊢; exact H)
 have hji3w : (IntKind.i64.wrap (a1 + 1)) = ji3 := (za4 _).trans hji3
 by_cases c4 : 0 ≤ (ji3)
 rotate_left
 · rw [if_neg c4] at H
   exact absurd H (by simp)
 rw [if_pos c4] at H
 have c4b0 := eq_true c4
 have c4b1 : decide (0 ≤ (ji3)) = true := zdt c4
 clear c4
 by_cases c5 : (ji3 : Int).toNat ≤ 281474976710656
 rotate_left
 · rw [if_neg c5] at H
   exact absurd H (by simp)
 rw [if_pos c5] at H
 have c5b0 := eq_true c5
 have c5b1 : decide ((ji3 : Int).toNat ≤ 281474976710656) = true := zdt c5
 clear c5
 obtain ⟨y101, hy101⟩ : ∃ y_ : List Bool, y_ = (List.replicate (ji3 : Int).toNat false) := ⟨_, rfl⟩
 replace H : (if 0 ≤ a1 then (if a1 < (y101.length : Int) then (zb6 k l0 a1 (y101.set (a1 : Int).toNat true) a1) else (none)) else (none)) = some r := by first | (rw [hy101]; with_reducible exact H) | (have H2_ := (Option.bind_some _ _).symm.trans H; rw [hy101]; with_reducible exact H2_) | (have H2_ := (Option.bind_some _ _).symm.trans H; with_reducible exact H2_) | with_reducible exact H | (rw [hy101]; exact H) | exact H
 have Ny101 := zA hy101
 clear hy101
 by_cases c6 : 0 ≤ a1
 rotate_left
 · rw [if_neg c6] at H
   exact absurd H (by simp)
 rw [if_pos c6] at H
 have c6b0 : decide (0 ≤ a1) = true := zdt c6
 clear c6
 by_cases c7 : a1 < (y101.length : Int)
 rotate_left
 · rw [if_neg c7] at H
   exact absurd H (by simp)
 rw [if_pos c7] at H
 have c7b0 : decide (a1 < (y101.length : Int)) = true := zdt c7
 clear c7
 obtain ⟨y104, hy104⟩ : ∃ y_ : List Bool, y_ = (y101.set (a1 : Int).toNat true) := ⟨_, rfl⟩
 replace H : (zb6 k l0 a1 y104 a1) = some r := by first | (rw [hy104]; with_reducible exact H) | (have H2_ := (Option.bind_some _ _).symm.trans H; rw [hy104]; with_reducible exact H2_) | (have H2_ := (Option.bind_some _ _).symm.trans H; with_reducible exact H2_) | with_reducible exact H | (rw [hy104]; exact H) | exact H
 have Ny104 := zA hy104
 clear hy104
 have H' := zA H
 clear H
 go_enter Try.func114, Try.ntmps114
 go_wp2_with (first | ((with_reducible refine zar (N := 14) rfl ?_); refine Kd.R_make Kd.bool _ 4 rfl (N := 14) rfl 162 _ _ rfl ji3 rfl rfl Try.underlying162 (.bool false) 1 zuk rfl (by decide) (by omega) false (ok := fun _ => True) (okp := fun _ => True) rfl (fun _ hk => hk) trivial (zde (by assumption)) (Nat.le_trans (Nat.mul_le_mul_right _ (zde (by assumption) : ji3.toNat ≤ 281474976710656)) (by omega)) (Below.refl _ _) (zlr _) ?_; intro v102 w9 ho10 hb hg_ hnew_; clear hg_ hnew_; (first | rw [← Ny101.out] at ho10 | (simp only [Int.reduceToNat] at ho10; rw [← Ny101.out] at ho10)); have n0_ := zA (Kd.R_lower ho10 (za0 (by repeat (first | (with_reducible first | exact HB.out | apply zba | apply zbn | apply zbd) | exact HB.out)))); have n1_ := zA (zag (by repeat (first | (with_reducible first | exact HB.out | apply zba | apply zbn | apply zbd) | exact HB.out)) hb); clear HB; have HO103 := n0_; have HB := n1_; clear n0_ n1_; clear hb ho10; have p8 : 0 ≤ (a1 : Int) := zde (by assumption); have q8 : (a1 : Int) < ((y101.length : Int) : Int) := zde (by assumption); obtain ⟨go8, co8, eo8, gb8, gl8, cl8, HG8⟩ := Kd.R_form HO103.out (by omega); (first | cases eo8 | (injection eo8 with ea_ en_ ec_; (first | subst ea_ | (injection ea_ with ea_; subst ea_)); subst ec_; clear en_)); have GB8 := zA gb8; have GG8 := zA HG8; clear gb8 gl8 HG8; obtain ⟨hx8_0, hf8_0⟩ := Kd.R_celln false HO103.out (a1 : Int) p8 q8; replace p8 := eq_true p8; replace q8 := eq_true q8; obtain ⟨hy11_, hz11_⟩ := Kd.R_celln false HO103.out (a1 : Int) (zde (by assumption)) (zde (by assumption)); have HP11 := Kd.R_putg HO103.out (a1 : Int) true) | ((with_reducible refine zbk (t := 4) (p := 17) rfl ?_); refine zbj (t := 4) (p := 17) (v := ?vo_w12) (w1 := (w9.setCell ⟨go8, (a1 : Int).toNat, none⟩ (.bool true))) ?hg ?ho ?hn ?hr ?_; (case ho => rfl); (case hg => rfl); (case hn => rfl); (case hr => go_simp <;> rfl); intro w12 hw; have hg : w9.grownBy w12 (some go8) := (by rw [hw]; exact HP11.2); have hp_ : Kd.R Kd.bool 4 w12 w.heap.size (fun _ => True) (.slice (some ⟨go8, 0, none⟩) y101.length co8) y104 := (by rw [hw, Ny104.out]; exact HP11.1); clear HP11; have n0_ := zA (hp_); have n1_ := zA ((by rw [hw]; exact zab (HB.out) GB8.out : Below w.heap.size w w12)); clear HO103 HB; have HO103 := n0_; have HB := n1_; clear n0_ n1_; clear hg hw hp_))
 go_loopg [6] k (fun kq v6 w' => ∃ (x5_1 : List Bool) (x6_1 : Int), v6 = .int .i64 x6_1 ∧ Aside0 (zb6 kq l0 a1 x5_1 x6_1 = some r) ∧ Aside0 (kq ≤ k) ∧ Aside0 (Kd.R Kd.bool 4 w' w.heap.size (fun _ => True) (.slice (some ⟨go8, 0, none⟩) y101.length co8) x5_1) ∧ Aside0 (Below w.heap.size w w'))
 case atStart => exact ⟨(y104), (a1), (by first | rfl | (simp; done) | (simp [*]; done)), H', ⟨zlr _⟩, ⟨by (with_reducible repeat (first | apply zRa | apply zRn | apply zRd)); exact HO103.out⟩, ⟨by repeat (first | (with_reducible first | exact HB.out | apply zba | apply zbn | apply zbd) | exact HB.out)⟩⟩
 clear H'
 try clear c1
 try clear p2
 try clear c4
 try clear c4b0
 try clear c4b1
 try clear c5
 try clear c5b0
 try clear c5b1
 try clear c6
 try clear c6b0
 try clear p6
 try clear c7
 try clear c7b0
 try clear p8
 try clear q8
 try clear hx8
 try clear hf8
 try clear c11
 try clear hx8_0
 try clear p8
 try clear q8
 obtain ⟨x5_1, x6_1, rfl, HA, HK1, HO_5, HB⟩ := hrel
 have hl5_1 := (zRr HO_5.out).1
 rw [hl5_1] at HO_5
 (try simp only [hl5_1])
 cases gk with
 | zero => exact absurd HA.out (by simp [zb6])
 | succ k1 =>
 have H := HA.out
 clear HA
 simp only [zb6] at H
 by_cases c13 : x6_1 ≥ 0
 · rw [if_pos c13] at H
   have c13b0 : decide (0 ≤ x6_1) = true := zdt c13
   clear c13
   by_cases c14 : 0 ≤ x6_1
   rotate_left
   · rw [if_neg c14] at H
     exact absurd H (by simp)
   rw [if_pos c14] at H
   have c14b0 : decide (0 ≤ x6_1) = true := zdt c14
   clear c14
   by_cases c15 : x6_1 < (l0.length : Int)
   rotate_left
   · rw [if_neg c15] at H
     exact absurd H (by simp)
   rw [if_pos c15] at H
   have c15b0 : decide (x6_1 < (l0.length : Int)) = true := zdt c15
   clear c15
   replace H := zob H
   obtain ⟨t106, A160, H⟩ := H
   replace H : (zbr k1 l0 a1 x5_1 x6_1 t106 (t106.length : Int) 0) = some r := H
   have A16 := zA A160
   clear A160
   have H' := zA H
   clear H
   have p105 : 0 ≤ (x6_1 : Int) := zde (by assumption)
   have q105 : x6_1 < (l0.length : Int) := zde (by assumption)
   obtain ⟨ad105, e105, hx105_0, hx105_1, hx105_2, hx105_3⟩ := zen HR0.out x6_1 p105 q105
   cases e105
   replace hx105_0 := zkep HB.out hx105_0
   replace hx105_1 := zkep HB.out hx105_1
   replace hx105_2 := zkep HB.out hx105_2
   replace hx105_3 := zkep HB.out hx105_3
   replace p105 := eq_true p105
   replace q105 := eq_true q105
   go_wp2_with (first | ((with_reducible refine zah (f := 143) rfl ?_); refine za3 (some 27) rfl rfl Try.func143 (by kernel_rfl) rfl #[.agg #[.string ((zac l0 x6_1).f0), .int .i64 ((zac l0 x6_1).f1), .int .i64 ((zac l0 x6_1).f2), .int .i64 ((zac l0 x6_1).f3)]] rfl (by (try simp only [List.map_toArray, List.map_cons, List.map_nil]); first | done | rfl | (simp only [List.length_drop, List.length_take]; rfl)) ?_; (with_reducible refine (zdx k1 ((zac l0 x6_1).f0) ((zac l0 x6_1).f1) ((zac l0 x6_1).f2) ((zac l0 x6_1).f3) t106 _ A16.out).mono ?_); rintro e w17 ⟨v107, rfl, ho0, hb⟩; refine ⟨_, rfl, ?_⟩; have n0_ := zA (zRb (by (with_reducible repeat (first | apply zRa | apply zRn | apply zRd)); exact HO_5.out) hb); have n1_ := zA (Kd.R_lower ho0 (za0 (by repeat (first | (with_reducible first | exact HB.out | apply zba | apply zbn | apply zbd) | exact HB.out)))); have n2_ := zA (zag (by repeat (first | (with_reducible first | exact HB.out | apply zba | apply zbn | apply zbd) | exact HB.out)) hb); clear HO_5 HB; have HO_5 := n0_; have HO108 := n1_; have HB := n2_; clear n0_ n1_ n2_; (try clear hb); (try clear ho0); obtain ⟨Ao18, co18, eo18⟩ := Kd.R_slice HO108.out; subst eo18))
   go_loopg [29] k1 (fun kq v29 w' => ∃ (x5_2 : List Bool) (x29_2 : Int), v29 = .int .i64 x29_2 ∧ Aside0 (zbr kq l0 a1 x5_2 x6_1 t106 (t106.length : Int) x29_2 = some r) ∧ Aside0 (kq ≤ k1) ∧ Aside0 (Kd.R Kd.bool 4 w' w.heap.size (fun _ => True) (.slice (some ⟨go8, 0, none⟩) x5_1.length co8) x5_2) ∧ Aside0 (Kd.R (Kd.int .i64) 3 w' w.heap.size (fun _ => True) (.slice Ao18 t106.length co18) t106) ∧ Aside0 (Below w.heap.size w w'))
   case atStart => exact ⟨(x5_1), (0), (by first | rfl | (simp; done) | (simp [*]; done)), H', ⟨zlr _⟩, ⟨by (try simp only [hl5_1]); (with_reducible repeat (first | apply zRa | apply zRn | apply zRd)); exact HO_5.out⟩, ⟨by (try simp only [hl5_1]); (with_reducible repeat (first | apply zRa | apply zRn | apply zRd)); exact HO108.out⟩, ⟨by repeat (first | (with_reducible first | exact HB.out | apply zba | apply zbn | apply zbd) | exact HB.out)⟩⟩
   clear H'
   try clear c1
   try clear p1
   try clear q1
   try clear hx1
   try clear p2
   try clear c4
   try clear c4b0
   try clear c4b1
   try clear c5
   try clear c5b0
   try clear c5b1
   try clear c6
   try clear c6b0
   try clear p6
   try clear c7
   try clear c7b0
   try clear p8
   try clear q8
   try clear hx8
   try clear hf8
   try clear p10
   try clear q10
   try clear hx10
   try clear c11
   try clear c13
   try clear c13b0
   try clear c14
   try clear c14b0
   try clear c15
   try clear c15b0
   try clear hx105_0
   try clear hx105_1
   try clear hx105_2
   try clear hx105_3
   try clear hx8_0
   try clear p105
   try clear p2
   try clear p6
   try clear p8
   try clear q105
   try clear q8
   obtain ⟨x5_2, x29_2, rfl, HA, HK2, HO_5, HO_27, HB⟩ := hrel
   have hl5_2 := (zRr HO_5.out).1
   rw [hl5_2] at HO_5
   (try simp only [hl5_2])
   (try simp only [hl5_2] at HO_27)
   cases gk with
   | zero => exact absurd HA.out (by simp [zbr])
   | succ k2 =>
   have H := HA.out
   clear HA
   simp only [zbr] at H
   by_cases c19 : x29_2 < (t106.length : Int)
   rotate_left
   · rw [if_neg c19] at H
     have c19b0 : decide (x29_2 < (t106.length : Int)) = false := zdf c19
     clear c19
     have H' := zA H
     clear H
     go_wp2
     (try simp only [← hl5_1, ← hl5_2])
     go_roundg k2
     case measure => have := HK1.out; have := HK2.out; omega
     case rel => exact ⟨(x5_2), (wrap64 (x6_1 - 1)), (by first | rfl | (simp; done) | (simp [*]; done)), H', ⟨by have := HK1.out; have := HK2.out; omega⟩, ⟨by (try simp only [hl5_1]); (try simp only [hl5_2]); (with_reducible repeat (first | apply zRa | apply zRn | apply zRd)); exact HO_5.out⟩, ⟨by repeat (first | (with_reducible first | exact HB.out | apply zba | apply zbn | apply zbd) | exact HB.out)⟩⟩
   rw [if_pos c19] at H
   have c19b0 : decide (x29_2 < (t106.length : Int)) = true := zdt c19
   clear c19
   by_cases c20 : 0 ≤ x29_2
   rotate_left
   · rw [if_neg c20] at H
     exact absurd H (by simp)
   rw [if_pos c20] at H
   have c20b0 : decide (0 ≤ x29_2) = true := zdt c20
   clear c20
   by_cases c21 : x29_2 < (t106.length : Int)
   rotate_left
   · rw [if_neg c21] at H
     exact absurd H (by simp)
   rw [if_pos c21] at H
   have c21b0 : decide (x29_2 < (t106.length : Int)) = true := zdt c21
   clear c21
   by_cases c22 : 0 ≤ (rd t106 x29_2)
   rotate_left
   · rw [if_neg c22] at H
     exact absurd H (by simp)
   rw [if_pos c22] at H
   have c22b0 : decide (0 ≤ (rd t106 x29_2)) = true := zdt c22
   clear c22
   by_cases c23 : (rd t106 x29_2) < (x5_2.length : Int)
   rotate_left
   · rw [if_neg c23] at H
     exact absurd H (by simp)
   rw [if_pos c23] at H
   have c23b0 : decide ((rd t106 x29_2) < (x5_2.length : Int)) = true := zdt c23
   clear c23
   obtain ⟨bq24, hbq24⟩ : ∃ b_ : Bool, b_ = (rdOf false x5_2 (rd t106 x29_2)) := ⟨_, rfl⟩
   replace H : (if bq24 = true then (zbr k2 l0 a1 (x5_2.set ((rd t106 x29_2) : Int).toNat true) x6_1 t106 (t106.length : Int) (wrap64 (x29_2 + 1))) else (if 0 ≤ x6_1 then (if x6_1 < (x5_2.length : Int) then (zbr k2 l0 a1 (x5_2.set ((rd t106 x29_2) : Int).toNat (rdOf false x5_2 x6_1)) x6_1 t106 (t106.length : Int) (wrap64 (x29_2 + 1))) else (none)) else (none))) = some r := by rw [← hbq24] at H; exact H
   have Nbq24 := zA hbq24
   clear hbq24
   by_cases c25 : bq24 = true
   · subst c25
     replace H : (zbr k2 l0 a1 (x5_2.set ((rd t106 x29_2) : Int).toNat true) x6_1 t106 (t106.length : Int) (wrap64 (x29_2 + 1))) = some r := by rw [if_pos rfl] at H; exact H
     obtain ⟨y111, hy111⟩ : ∃ y_ : List Bool, y_ = (x5_2.set ((rd t106 x29_2) : Int).toNat true) := ⟨_, rfl⟩
     replace H : (zbr k2 l0 a1 y111 x6_1 t106 (t106.length : Int) (wrap64 (x29_2 + 1))) = some r := by first | (rw [hy111]; with_reducible exact H) | (have H2_ := (Option.bind_some _ _).symm.trans H; rw [hy111]; with_reducible exact H2_) | (have H2_ := (Option.bind_some _ _).symm.trans H; with_reducible exact H2_) | with_reducible exact H | (rw [hy111]; exact H) | exact H
     have Ny111 := zA hy111
     clear hy111
     have H' := zA H
     clear H
     have p109 : 0 ≤ (x29_2 : Int) := zde (by assumption)
     have q109 : x29_2 < (t106.length : Int) := zde (by assumption)
     obtain ⟨ad109, e109, hx109_0⟩ := Kd.at_int (zRr HO_27.out).2.2 x29_2 p109 q109
     cases e109
     replace p109 := eq_true p109
     replace q109 := eq_true q109
     have p110 : 0 ≤ ((rd t106 x29_2) : Int) := zde (by assumption)
     have q110 : (rd t106 x29_2) < (x5_2.length : Int) := zde (by assumption)
     obtain ⟨ad110, e110, hx110_0⟩ := Kd.at_bool (zRr HO_5.out).2.2 (rd t106 x29_2) p110 q110
     (try rw [← Nbq24.out] at hx110_0)
     obtain rfl : (⟨go8, 0, none⟩ : Addr) = ad110 := (by injection e110)
     (first | simp only [zdk] at hx110_0 | simp only [zjs] at hx110_0 | simp only [Addr.add, Nat.zero_add] at hx110_0 | skip)
     replace p110 := eq_true p110
     replace q110 := eq_true q110
     have p26 : 0 ≤ ((rd t106 x29_2) : Int) := zde (by assumption)
     have q26 : ((rd t106 x29_2) : Int) < ((x5_2.length : Int) : Int) := zde (by assumption)
     obtain ⟨hx26_0, hf26_0⟩ := Kd.R_celln false HO_5.out ((rd t106 x29_2) : Int) p26 q26
     replace p26 := eq_true p26
     replace q26 := eq_true q26
     have HP27 := Kd.R_putg HO_5.out ((rd t106 x29_2) : Int) true
     go_wp2_with (first | ((with_reducible refine zbk (t := 4) (p := 45) rfl ?_); refine zbj (t := 4) (p := 45) (v := ?vo_w28) (w1 := (wr.setCell ⟨go8, ((rd t106 x29_2) : Int).toNat, none⟩ (.bool true))) ?hg ?ho ?hn ?hr ?_; (case ho => rfl); (case hg => rfl); (case hn => rfl); (case hr => go_simp <;> rfl); intro w28 hw; have hg : wr.grownBy w28 (some go8) := (by rw [hw]; exact HP27.2); have hp_ : Kd.R Kd.bool 4 w28 w.heap.size (fun _ => True) (.slice (some ⟨go8, 0, none⟩) x5_2.length co8) y111 := (by rw [hw, Ny111.out]; exact HP27.1); clear HP27; have n0_ := zA (hp_); have n1_ := zA (Kd.R_over' (v := (.slice (some ⟨go8, 0, none⟩) x5_2.length co8)) (by (with_reducible repeat (first | apply zRa | apply zRn | apply zRd)); exact HO_27.out) (Kd.R_typed HO_5.out) (by decide) hg); have n2_ := zA ((by rw [hw]; exact zab (HB.out) GB8.out : Below w.heap.size w w28)); clear HO_5 HO_27 HB; have HO_5 := n0_; have HO_27 := n1_; have HB := n2_; clear n0_ n1_ n2_; clear hg hw hp_))
     (try simp only [← hl5_2])
     go_roundg k2
     case measure => have := HK1.out; have := HK2.out; omega
     case rel => exact ⟨(y111), (wrap64 (x29_2 + 1)), (by first | rfl | (simp; done) | (simp [*]; done)), H', ⟨by have := HK1.out; have := HK2.out; omega⟩, ⟨by (try simp only [hl5_1]); (try simp only [hl5_2]); (with_reducible repeat (first | apply zRa | apply zRn | apply zRd)); exact HO_5.out⟩, ⟨by (try simp only [hl5_1]); (try simp only [hl5_2]); (with_reducible repeat (first | apply zRa | apply zRn | apply zRd)); exact HO_27.out⟩, ⟨by repeat (first | (with_reducible first | exact HB.out | apply zba | apply zbn | apply zbd) | exact HB.out)⟩⟩
   replace c25 := zbf c25
   subst c25
   replace H : (if 0 ≤ x6_1 then (if x6_1 < (x5_2.length : Int) then (zbr k2 l0 a1 (x5_2.set ((rd t106 x29_2) : Int).toNat (rdOf false x5_2 x6_1)) x6_1 t106 (t106.length : Int) (wrap64 (x29_2 + 1))) else (none)) else (none)) = some r := by rw [if_neg (show ¬ (false = true) by decide)] at H; exact H
   by_cases c29 : 0 ≤ x6_1
   rotate_left
   · rw [if_neg c29] at H
     exact absurd H (by simp)
   rw [if_pos c29] at H
   have c29b0 : decide (0 ≤ x6_1) = true := zdt c29
   clear c29
   by_cases c30 : x6_1 < (x5_2.length : Int)
   rotate_left
   · rw [if_neg c30] at H
     exact absurd H (by simp)
   rw [if_pos c30] at H
   have c30b0 : decide (x6_1 < (x5_2.length : Int)) = true := zdt c30
   clear c30
   obtain ⟨y113, hy113⟩ : ∃ y_ : List Bool, y_ = (x5_2.set ((rd t106 x29_2) : Int).toNat (rdOf false x5_2 x6_1)) := ⟨_, rfl⟩
   replace H : (zbr k2 l0 a1 y113 x6_1 t106 (t106.length : Int) (wrap64 (x29_2 + 1))) = some r := by first | (rw [hy113]; with_reducible exact H) | (have H2_ := (Option.bind_some _ _).symm.trans H; rw [hy113]; with_reducible exact H2_) | (have H2_ := (Option.bind_some _ _).symm.trans H; with_reducible exact H2_) | with_reducible exact H | (rw [hy113]; exact H) | exact H
   have Ny113 := zA hy113
   clear hy113
   have H' := zA H
   clear H
   have p109 : 0 ≤ (x29_2 : Int) := zde (by assumption)
   have q109 : x29_2 < (t106.length : Int) := zde (by assumption)
   obtain ⟨ad109, e109, hx109_0⟩ := Kd.at_int (zRr HO_27.out).2.2 x29_2 p109 q109
   cases e109
   replace p109 := eq_true p109
   replace q109 := eq_true q109
   have p110 : 0 ≤ ((rd t106 x29_2) : Int) := zde (by assumption)
   have q110 : (rd t106 x29_2) < (x5_2.length : Int) := zde (by assumption)
   obtain ⟨ad110, e110, hx110_0⟩ := Kd.at_bool (zRr HO_5.out).2.2 (rd t106 x29_2) p110 q110
   (try rw [← Nbq24.out] at hx110_0)
   obtain rfl : (⟨go8, 0, none⟩ : Addr) = ad110 := (by injection e110)
   (first | simp only [zdk] at hx110_0 | simp only [zjs] at hx110_0 | simp only [Addr.add, Nat.zero_add] at hx110_0 | skip)
   replace p110 := eq_true p110
   replace q110 := eq_true q110
   have p112 : 0 ≤ (x6_1 : Int) := zde (by assumption)
   have q112 : x6_1 < (x5_2.length : Int) := zde (by assumption)
   obtain ⟨ad112, e112, hx112_0⟩ := Kd.at_bool (zRr HO_5.out).2.2 x6_1 p112 q112
   (try rw [← Nbq24.out] at hx112_0)
   obtain rfl : (⟨go8, 0, none⟩ : Addr) = ad112 := (by injection e112)
   (first | simp only [zdk] at hx112_0 | simp only [zjs] at hx112_0 | simp only [Addr.add, Nat.zero_add] at hx112_0 | skip)
   replace p112 := eq_true p112
   replace q112 := eq_true q112
   have p31 : 0 ≤ ((rd t106 x29_2) : Int) := zde (by assumption)
   have q31 : ((rd t106 x29_2) : Int) < ((x5_2.length : Int) : Int) := zde (by assumption)
   obtain ⟨hx31_0, hf31_0⟩ := Kd.R_celln false HO_5.out ((rd t106 x29_2) : Int) p31 q31
   replace p31 := eq_true p31
   replace q31 := eq_true q31
   have HP32 := Kd.R_putg HO_5.out ((rd t106 x29_2) : Int) (rdOf false x5_2 x6_1)
   go_wp2_with (first | ((with_reducible refine zbk (t := 4) (p := 45) rfl ?_); refine zbj (t := 4) (p := 45) (v := ?vo_w33) (w1 := (wr.setCell ⟨go8, ((rd t106 x29_2) : Int).toNat, none⟩ (.bool (rdOf false x5_2 x6_1)))) ?hg ?ho ?hn ?hr ?_; (case ho => rfl); (case hg => rfl); (case hn => rfl); (case hr => go_simp <;> rfl); intro w33 hw; have hg : wr.grownBy w33 (some go8) := (by rw [hw]; exact HP32.2); have hp_ : Kd.R Kd.bool 4 w33 w.heap.size (fun _ => True) (.slice (some ⟨go8, 0, none⟩) x5_2.length co8) y113 := (by rw [hw, Ny113.out]; exact HP32.1); clear HP32; have n0_ := zA (hp_); have n1_ := zA (Kd.R_over' (v := (.slice (some ⟨go8, 0, none⟩) x5_2.length co8)) (by (with_reducible repeat (first | apply zRa | apply zRn | apply zRd)); exact HO_27.out) (Kd.R_typed HO_5.out) (by decide) hg); have n2_ := zA ((by rw [hw]; exact zab (HB.out) GB8.out : Below w.heap.size w w33)); clear HO_5 HO_27 HB; have HO_5 := n0_; have HO_27 := n1_; have HB := n2_; clear n0_ n1_ n2_; clear hg hw hp_))
   (try simp only [← hl5_2])
   go_roundg k2
   case measure => have := HK1.out; have := HK2.out; omega
   case rel => exact ⟨(y113), (wrap64 (x29_2 + 1)), (by first | rfl | (simp; done) | (simp [*]; done)), H', ⟨by have := HK1.out; have := HK2.out; omega⟩, ⟨by (try simp only [hl5_1]); (try simp only [hl5_2]); (with_reducible repeat (first | apply zRa | apply zRn | apply zRd)); exact HO_5.out⟩, ⟨by (try simp only [hl5_1]); (try simp only [hl5_2]); (with_reducible repeat (first | apply zRa | apply zRn | apply zRd)); exact HO_27.out⟩, ⟨by repeat (first | (with_reducible first | exact HB.out | apply zba | apply zbn | apply zbd) | exact HB.out)⟩⟩
 rw [if_neg c13] at H
 have c13b0 : decide (0 ≤ x6_1) = false := zdf c13
 clear c13
 obtain ⟨ji34, hji34⟩ : ∃ j_ : Int, (wrap64 (a1 + 1)) = j_ := ⟨_, rfl⟩
 replace H : (if 0 ≤ (ji34) then (if (ji34 : Int).toNat ≤ 35184372088832 then (zbb k1 l0 a1 x5_1 (List.replicate (ji34 : Int).toNat 0) ([] : List (S72)) 0) else (none)) else (none)) = some r := by first | (rw [hji34] at H; exact H) | (simp only [hji34] at H ⊢; exact H)
 have hji34w : (IntKind.i64.wrap (a1 + 1)) = ji34 := (za4 _).trans hji34
 try (obtain rfl : ji34 = ji3 := hji34.symm.trans hji3)
 by_cases c35 : 0 ≤ (ji34)
 rotate_left
 · rw [if_neg c35] at H
   exact absurd H (by simp)
 rw [if_pos c35] at H
 have c35b0 := eq_true c35
 have c35b1 : decide (0 ≤ (ji34)) = true := zdt c35
 clear c35
 by_cases c36 : (ji34 : Int).toNat ≤ 35184372088832
 rotate_left
 · rw [if_neg c36] at H
   exact absurd H (by simp)
 rw [if_pos c36] at H
 have c36b0 := eq_true c36
 have c36b1 : decide ((ji34 : Int).toNat ≤ 35184372088832) = true := zdt c36
 clear c36
 obtain ⟨y114, hy114⟩ : ∃ y_ : List Int, y_ = (List.replicate (ji34 : Int).toNat 0) := ⟨_, rfl⟩
 replace H : (zbb k1 l0 a1 x5_1 y114 ([] : List (S72)) 0) = some r := by first | (rw [hy114]; with_reducible exact H) | (have H2_ := (Option.bind_some _ _).symm.trans H; rw [hy114]; with_reducible exact H2_) | (have H2_ := (Option.bind_some _ _).symm.trans H; with_reducible exact H2_) | with_reducible exact H | (rw [hy114]; exact H) | exact H
 have Ny114 := zA hy114
 clear hy114
 have H' := zA H
 clear H
 go_wp2_with (first | ((with_reducible refine zar (N := 49) rfl ?_); refine Kd.R_make (Kd.int .i64) _ 3 rfl (N := 49) rfl 51 _ _ rfl ji34 rfl rfl Try.underlying51 (.int .i64 0) 8 zlp rfl (by decide) (by omega) 0 (ok := fun _ => True) (okp := fun _ => True) rfl (fun _ hk => hk) trivial (zde (by assumption)) (Nat.le_trans (Nat.mul_le_mul_right _ (zde (by assumption) : ji34.toNat ≤ 35184372088832)) (by omega)) (Below.refl _ _) (zlr _) ?_; intro v115 w37 ho38 hb hg_ hnew_; clear hg_ hnew_; (first | rw [← Ny114.out] at ho38 | (simp only [Int.reduceToNat] at ho38; rw [← Ny114.out] at ho38)); have n0_ := zA (zRb (by (with_reducible repeat (first | apply zRa | apply zRn | apply zRd)); exact HO_5.out) hb); have n1_ := zA (Kd.R_lower ho38 (za0 (by repeat (first | (with_reducible first | exact HB.out | apply zba | apply zbn | apply zbd) | exact HB.out)))); have n2_ := zA (zag (by repeat (first | (with_reducible first | exact HB.out | apply zba | apply zbn | apply zbd) | exact HB.out)) hb); clear HO_5 HB; have HO_5 := n0_; have HO116 := n1_; have HB := n2_; clear n0_ n1_ n2_; clear hb ho38))
 go_loopg [10, 11] k1 (fun kq v10 v11 w' => ∃ (x9_2 : List Int) (x10_2 : List (S72)) (x11_2 : Int), v11 = .int .i64 x11_2 ∧ Aside0 (zbb kq l0 a1 x5_1 x9_2 x10_2 x11_2 = some r) ∧ Aside0 (kq ≤ k1) ∧ Aside0 (Kd.R Kd.bool 4 w' w.heap.size (fun _ => True) (.slice (some ⟨go8, 0, none⟩) x5_1.length co8) x5_1) ∧ Aside0 (Kd.R (Kd.int .i64) 3 w' w.heap.size (fun _ => True) v115 x9_2) ∧ Aside0 (Kd.R k72 72 w' w.heap.size (fun _ => True) v10 x10_2) ∧ Aside0 (Below w.heap.size w w'))
 case atStart => exact ⟨(y114), (([] : List (S72))), (0), (by first | rfl | (simp; done) | (simp [*]; done)), H', ⟨zlr _⟩, ⟨by (try simp only [hl5_1]); (with_reducible repeat (first | apply zRa | apply zRn | apply zRd)); exact HO_5.out⟩, ⟨by (try simp only [hl5_1]); (with_reducible repeat (first | apply zRa | apply zRn | apply zRd)); exact HO116.out⟩, ⟨by (try simp only [hl5_1]); first | exact Kd.R_nil _ _ _ _ _ | exact Kd.N_nil _ _ _ _ _ | exact Kd.V_nil _ _ _ _ _ | exact Kd.Q_nil _ _ _ _ _ | exact Kd.S_nil _ _ _ _ _⟩, ⟨by repeat (first | (with_reducible first | exact HB.out | apply zba | apply zbn | apply zbd) | exact HB.out)⟩⟩
 clear H'
 try clear c1
 try clear p1
 try clear q1
 try clear hx1
 try clear c2
 try clear p2
 try clear q2
 try clear hx2
 try clear hf2
 try clear c3
 try clear p3
 try clear q3
 try clear hx3
 try clear hf3
 try clear c4
 try clear c4b0
 try clear c4b1
 try clear c5
 try clear c5b0
 try clear c5b1
 try clear c6
 try clear c6b0
 try clear p6
 try clear c7
 try clear c7b0
 try clear p8
 try clear q8
 try clear hx8
 try clear hf8
 try clear p10
 try clear q10
 try clear hx10
 try clear c11
 try clear p11
 try clear q11
 try clear hx11
 try clear c13
 try clear c13b0
 try clear c14
 try clear c14b0
 try clear c15
 try clear c15b0
 try clear c19
 try clear c19b0
 try clear c20
 try clear c20b0
 try clear c21
 try clear c21b0
 try clear c22
 try clear c22b0
 try clear c23
 try clear c23b0
 try clear q24
 try clear c25
 try clear p26
 try clear q26
 try clear hx26
 try clear hf26
 try clear c29
 try clear c29b0
 try clear c30
 try clear c30b0
 try clear p31
 try clear q31
 try clear hx31
 try clear hf31
 try clear c35
 try clear c35b0
 try clear c35b1
 try clear c36
 try clear c36b0
 try clear c36b1
 try clear hx105_0
 try clear hx105_1
 try clear hx105_2
 try clear hx105_3
 try clear hx109_0
 try clear hx110_0
 try clear hx112_0
 try clear hx26_0
 try clear hx31_0
 try clear hx8_0
 try clear p1
 try clear p10
 try clear p105
 try clear p109
 try clear p110
 try clear p112
 try clear p2
 try clear p26
 try clear p31
 try clear p6
 try clear p8
 try clear q1
 try clear q10
 try clear q105
 try clear q109
 try clear q110
 try clear q112
 try clear q26
 try clear q31
 try clear q8
 obtain ⟨x9_2, x10_2, x11_2, rfl, HA, HK2, HO_5, HO_9, HO_10, HB⟩ := hrel
 cases gk with
 | zero => exact absurd HA.out (by simp [zbb])
 | succ k2 =>
 have H := HA.out
 clear HA
 simp only [zbb] at H
 by_cases c39 : x11_2 ≤ a1
 rotate_left
 · rw [if_neg c39] at H
   have c39b0 : decide (x11_2 ≤ a1) = false := zdf c39
   clear c39
   obtain rfl := zsi H
   go_wp2
   go_ret
   exact ⟨_, by first | rfl | (simp [zad, zae] <;> rfl) | (simp only [← hji3, ← hji34]; first | rfl | (simp [zad, zae] <;> rfl)) | (simp [*, zad, zae] <;> rfl), by (with_reducible repeat (first | apply zRa | apply zRn | apply zRd)); exact HO_10.out, by repeat (first | (with_reducible first | exact HB.out | apply zba | apply zbn | apply zbd) | exact HB.out)⟩
 rw [if_pos c39] at H
 have c39b0 : decide (x11_2 ≤ a1) = true := zdt c39
 clear c39
 by_cases c40 : 0 ≤ x11_2
 rotate_left
 · rw [if_neg c40] at H
   exact absurd H (by simp)
 rw [if_pos c40] at H
 have c40b0 : decide (0 ≤ x11_2) = true := zdt c40
 clear c40
 by_cases c41 : x11_2 < (x5_1.length : Int)
 rotate_left
 · rw [if_neg c41] at H
   exact absurd H (by simp)
 rw [if_pos c41] at H
 have c41b0 : decide (x11_2 < (x5_1.length : Int)) = true := zdt c41
 clear c41
 obtain ⟨bq42, hbq42⟩ : ∃ b_ : Bool, b_ = (rdOf false x5_1 x11_2) := ⟨_, rfl⟩
 replace H : (if bq42 = true then (if x11_2 < (x9_2.length : Int) then ((some (x9_2.set (x11_2 : Int).toNat (x10_2.length : Int) : List Int)).bind fun y118 => (if x11_2 < (l0.length : Int) then ((zdi k2 ((zac l0 x11_2).f0) ((zac l0 x11_2).f1) ((zac l0 x11_2).f2) ((zac l0 x11_2).f3) y118).bind fun bt120 => (if x10_2.length < 3518437208883 then (zbb k2 l0 a1 x5_1 y118 (x10_2 ++ [(⟨bt120.1, bt120.2.1, bt120.2.2.1, bt120.2.2.2⟩ : S72)]) (wrap64 (x11_2 + 1))) else (none))) else (none))) else (none)) else (zbb k2 l0 a1 x5_1 x9_2 x10_2 (wrap64 (x11_2 + 1)))) = some r := by rw [← hbq42] at H; exact H
 have Nbq42 := zA hbq42
 clear hbq42
 by_cases c43 : bq42 = true
 rotate_left
 · replace c43 := zbf c43
   subst c43
   replace H : (zbb k2 l0 a1 x5_1 x9_2 x10_2 (wrap64 (x11_2 + 1))) = some r := by rw [if_neg (show ¬ (false = true) by decide)] at H; exact H
   have H' := zA H
   clear H
   have p117 : 0 ≤ (x11_2 : Int) := zde (by assumption)
   have q117 : x11_2 < (x5_1.length : Int) := zde (by assumption)
   obtain ⟨ad117, e117, hx117_0⟩ := Kd.at_bool (zRr HO_5.out).2.2 x11_2 p117 q117
   (try rw [← Nbq42.out] at hx117_0)
   obtain rfl : (⟨go8, 0, none⟩ : Addr) = ad117 := (by injection e117)
   (first | simp only [zdk] at hx117_0 | simp only [zjs] at hx117_0 | simp only [Addr.add, Nat.zero_add] at hx117_0 | skip)
   replace p117 := eq_true p117
   replace q117 := eq_true q117
   go_wp2
   go_roundg k2
   case measure => have := HK1.out; have := HK2.out; omega
   case rel => exact ⟨(x9_2), (x10_2), (wrap64 (x11_2 + 1)), (by first | rfl | (simp; done) | (simp [*]; done)), H', ⟨by have := HK1.out; have := HK2.out; omega⟩, ⟨by (try simp only [hl5_1]); (with_reducible repeat (first | apply zRa | apply zRn | apply zRd)); exact HO_5.out⟩, ⟨by (try simp only [hl5_1]); (with_reducible repeat (first | apply zRa | apply zRn | apply zRd)); exact HO_9.out⟩, ⟨by (try simp only [hl5_1]); (with_reducible repeat (first | apply zRa | apply zRn | apply zRd)); exact HO_10.out⟩, ⟨by repeat (first | (with_reducible first | exact HB.out | apply zba | apply zbn | apply zbd) | exact HB.out)⟩⟩
 subst c43
 replace H : (if x11_2 < (x9_2.length : Int) then ((some (x9_2.set (x11_2 : Int).toNat (x10_2.length : Int) : List Int)).bind fun y118 => (if x11_2 < (l0.length : Int) then ((zdi k2 ((zac l0 x11_2).f0) ((zac l0 x11_2).f1) ((zac l0 x11_2).f2) ((zac l0 x11_2).f3) y118).bind fun bt120 => (if x10_2.length < 3518437208883 then (zbb k2 l0 a1 x5_1 y118 (x10_2 ++ [(⟨bt120.1, bt120.2.1, bt120.2.2.1, bt120.2.2.2⟩ : S72)]) (wrap64 (x11_2 + 1))) else (none))) else (none))) else (none)) = some r := by rw [if_pos rfl] at H; exact H
 by_cases c44 : x11_2 < (x9_2.length : Int)
 rotate_left
 · rw [if_neg c44] at H
   exact absurd H (by simp)
 rw [if_pos c44] at H
 have c44b0 : decide (x11_2 < (x9_2.length : Int)) = true := zdt c44
 clear c44
 obtain ⟨y118, hy118⟩ : ∃ y_ : List Int, y_ = (x9_2.set (x11_2 : Int).toNat (x10_2.length : Int)) := ⟨_, rfl⟩
 replace H : (if x11_2 < (l0.length : Int) then ((zdi k2 ((zac l0 x11_2).f0) ((zac l0 x11_2).f1) ((zac l0 x11_2).f2) ((zac l0 x11_2).f3) y118).bind fun bt120 => (if x10_2.length < 3518437208883 then (zbb k2 l0 a1 x5_1 y118 (x10_2 ++ [(⟨bt120.1, bt120.2.1, bt120.2.2.1, bt120.2.2.2⟩ : S72)]) (wrap64 (x11_2 + 1))) else (none))) else (none)) = some r := by first | (rw [hy118]; with_reducible exact H) | (have H2_ := (Option.bind_some _ _).symm.trans H; rw [hy118]; with_reducible exact H2_) | (have H2_ := (Option.bind_some _ _).symm.trans H; with_reducible exact H2_) | with_reducible exact H | (rw [hy118]; exact H) | exact H
 have Ny118 := zA hy118
 clear hy118
 by_cases c46 : x11_2 < (l0.length : Int)
 rotate_left
 · rw [if_neg c46] at H
   exact absurd H (by simp)
 rw [if_pos c46] at H
 have c46b0 : decide (x11_2 < (l0.length : Int)) = true := zdt c46
 clear c46
 replace H := zob H
 obtain ⟨⟨t120, t121, t122, t123⟩, A470, H⟩ := H
 replace H : (if x10_2.length < 3518437208883 then (zbb k2 l0 a1 x5_1 y118 (x10_2 ++ [(⟨t120, t121, t122, t123⟩ : S72)]) (wrap64 (x11_2 + 1))) else (none)) = some r := H
 have A47 := zA A470
 clear A470
 by_cases c48 : x10_2.length < 3518437208883
 rotate_left
 · rw [if_neg c48] at H
   exact absurd H (by simp)
 rw [if_pos c48] at H
 have LMc48 := zA c48
 clear c48
 obtain ⟨y124, hy124⟩ : ∃ y_ : List (S72), y_ = (x10_2 ++ [(⟨t120, t121, t122, t123⟩ : S72)]) := ⟨_, rfl⟩
 replace H : (zbb k2 l0 a1 x5_1 y118 y124 (wrap64 (x11_2 + 1))) = some r := by first | (rw [hy124]; with_reducible exact H) | (have H2_ := (Option.bind_some _ _).symm.trans H; rw [hy124]; with_reducible exact H2_) | (have H2_ := (Option.bind_some _ _).symm.trans H; with_reducible exact H2_) | with_reducible exact H | (rw [hy124]; exact H) | exact H
 have Ny124 := zA hy124
 clear hy124
 have H' := zA H
 clear H
 have p117 : 0 ≤ (x11_2 : Int) := zde (by assumption)
 have q117 : x11_2 < (x5_1.length : Int) := zde (by assumption)
 obtain ⟨ad117, e117, hx117_0⟩ := Kd.at_bool (zRr HO_5.out).2.2 x11_2 p117 q117
 (try rw [← Nbq42.out] at hx117_0)
 obtain rfl : (⟨go8, 0, none⟩ : Addr) = ad117 := (by injection e117)
 (first | simp only [zdk] at hx117_0 | simp only [zjs] at hx117_0 | simp only [Addr.add, Nat.zero_add] at hx117_0 | skip)
 replace p117 := eq_true p117
 replace q117 := eq_true q117
 obtain ⟨Ao49, co49, eo49⟩ := Kd.R_slice HO_10.out
 subst eo49
 have p45 : 0 ≤ (x11_2 : Int) := zde (by assumption)
 have q45 : (x11_2 : Int) < ((x9_2.length : Int) : Int) := zde (by assumption)
 obtain ⟨go45, co45, eo45, gb45, gl45, cl45, HG45⟩ := Kd.R_form HO_9.out (by omega)
 (first | cases eo45 | (injection eo45 with ea_ en_ ec_; (first | subst ea_ | (injection ea_ with ea_; subst ea_)); subst ec_; clear en_))
 have GB45 := zA gb45
 have GG45 := zA HG45
 clear gb45 gl45 HG45
 obtain ⟨hx45_0, hf45_0⟩ := Kd.R_celln 0 HO_9.out (x11_2 : Int) p45 q45
 replace p45 := eq_true p45
 replace q45 := eq_true q45
 have HP50 := Kd.R_putg HO_9.out (x11_2 : Int) (x10_2.length : Int)
 go_wp2_with (first | ((with_reducible refine zbk (t := 3) (p := 63) rfl ?_); refine zbj (t := 3) (p := 63) (v := ?vo_w51) (w1 := (wr.setCell ⟨go45, (x11_2 : Int).toNat, none⟩ (.int .i64 (x10_2.length : Int)))) ?hg ?ho ?hn ?hr ?_; (case ho => rfl); (case hg => rfl); (case hn => rfl); (case hr => go_simp <;> rfl); intro w51 hw; have hg : wr.grownBy w51 (some go45) := (by rw [hw]; exact HP50.2); have hp_ : Kd.R (Kd.int .i64) 3 w51 w.heap.size (fun _ => True) (.slice (some ⟨go45, 0, none⟩) x9_2.length co45) y118 := (by rw [hw, Ny118.out]; exact HP50.1); clear HP50; have n0_ := zA (Kd.R_over' (v := (.slice (some ⟨go45, 0, none⟩) x9_2.length co45)) (by (with_reducible repeat (first | apply zRa | apply zRn | apply zRd)); exact HO_5.out) (Kd.R_typed HO_9.out) (by decide) hg); have n1_ := zA (hp_); have n2_ := zA (Kd.R_over' (v := (.slice (some ⟨go45, 0, none⟩) x9_2.length co45)) (by (with_reducible repeat (first | apply zRa | apply zRn | apply zRd)); exact HO_10.out) (Kd.R_typed HO_9.out) (by decide) hg); have n3_ := zA ((by rw [hw]; exact zab (HB.out) GB45.out : Below w.heap.size w w51)); clear HO_5 HO_9; clear HO_10 HB; have HO_5 := n0_; have HO_9 := n1_; have HO_10 := n2_; have HB := n3_; clear n0_ n1_ n2_ n3_; clear hg hw hp_; have p119 : 0 ≤ (x11_2 : Int) := zde (by assumption); have q119 : x11_2 < (l0.length : Int) := zde (by assumption); obtain ⟨ad119, e119, hx119_0, hx119_1, hx119_2, hx119_3⟩ := zen HR0.out x11_2 p119 q119; cases e119; replace hx119_0 := zkep HB.out hx119_0; replace hx119_1 := zkep HB.out hx119_1; replace hx119_2 := zkep HB.out hx119_2; replace hx119_3 := zkep HB.out hx119_3; replace p119 := eq_true p119; replace q119 := eq_true q119) | ((with_reducible refine zah (f := 165) rfl ?_); refine za3 (some 70) rfl rfl Try.func165 (by kernel_rfl) rfl #[.agg #[.string ((zac l0 x11_2).f0), .int .i64 ((zac l0 x11_2).f1), .int .i64 ((zac l0 x11_2).f2), .int .i64 ((zac l0 x11_2).f3)], .slice (some ⟨go45, 0, none⟩) y118.length co45] rfl (by (try simp only [List.map_toArray, List.map_cons, List.map_nil]); first | done | (rw [show y118.length = x9_2.length from (zRr HO_9.out).1.symm] <;> rfl) | rfl | (simp only [List.length_drop, List.length_take]; rfl)) ?_; (with_reducible refine (zke k2 ((zac l0 x11_2).f0) ((zac l0 x11_2).f1) ((zac l0 x11_2).f2) ((zac l0 x11_2).f3) _ _ y118 t120 t121 t122 t123 _ ?side1 ?side2 A47.out).mono ?_); (case side1 => repeat (first | exact (zRr HO_9.out).2.2 | (with_reducible first | refine zCa ?_ _ | refine zCn ?_ _ | refine zCd ?_))); (case side2 => rw [show y118.length = x9_2.length from (zRr HO_9.out).1.symm]; exact (zRr HO_9.out).2.1); rintro e w52 ⟨rfl, hb⟩; refine ⟨_, rfl, ?_⟩; have n0_ := zA (zRb (by (with_reducible repeat (first | apply zRa | apply zRn | apply zRd)); exact HO_5.out) hb); have n1_ := zA (zRb (by (with_reducible repeat (first | apply zRa | apply zRn | apply zRd)); exact HO_9.out) hb); have n2_ := zA (zRb (by (with_reducible repeat (first | apply zRa | apply zRn | apply zRd)); exact HO_10.out) hb); have n3_ := zA (zag (by repeat (first | (with_reducible first | exact HB.out | apply zba | apply zbn | apply zbd) | exact HB.out)) hb); clear HO_5 HO_9; clear HO_10 HB; have HO_5 := n0_; have HO_9 := n1_; have HO_10 := n2_; have HB := n3_; clear n0_ n1_ n2_ n3_; (try clear hb); (try clear hk)) | ((with_reducible refine zf1 (b := .append) (xs := #[.tmp 64, .tmp 71]) rfl ?_); at_builtin; refine Kd.R_append k72 (w0 := w) w.heap.size rfl (.tmp 64) (.tmp 71) 24 72 (.agg #[(.string ⟨#[]⟩), (.int .i64 0), (.int .i64 0), (.int .i64 0)]) 40 rfl Try.underlying24 znb rfl (by decide) (by omega) (.slice Ao49 x10_2.length co49) x10_2 (⟨t120, t121, t122, t123⟩ : S72) [.string t120, .int .i64 t121, .int .i64 t122, .int .i64 t123] (fun _ => True) (fun _ => False) rfl rfl ?aP (fun _ hk => hk.elim) ?aF ?aO ?aB ?aS ?aL ?_; (case aP => exact zfr _ _ _ (⟨t120, t121, t122, t123⟩ : S72)); (case aB => exact (by repeat (first | (with_reducible first | exact HB.out | apply zba | apply zbn | apply zbd) | exact HB.out))); (case aF => exact (fun _ _ => trivial)); (case aO => exact (by (with_reducible repeat (first | apply zRa | apply zRn | apply zRd)); exact HO_10.out)); (case aS => exact (za0 (by repeat (first | (with_reducible first | exact HB.out | apply zba | apply zbn | apply zbd) | exact HB.out)))); (case aL => have := LMc48.out; omega); intro v125 w53 ho hb hg hat; rw [← Ny124.out] at ho; have n0_ := zA (Kd.R_over' (by (with_reducible repeat (first | apply zRa | apply zRn | apply zRd)); exact HO_5.out) (Kd.R_typed (by (with_reducible repeat (first | apply zRa | apply zRn | apply zRd)); exact HO_10.out)) (by decide) hg); have n1_ := zA (Kd.R_over' (by (with_reducible repeat (first | apply zRa | apply zRn | apply zRd)); exact HO_9.out) (Kd.R_typed (by (with_reducible repeat (first | apply zRa | apply zRn | apply zRd)); exact HO_10.out)) (by decide) hg); have n2_ := zA (hb); have n3_ := zA (ho); clear HO_5 HO_9; clear HB HO_10; have HO_5 := n0_; have HO_9 := n1_; have HB := n2_; have HO126 := n3_; clear n0_ n1_ n2_ n3_; clear ho hb hg hat))
 go_roundg k2
 case measure => have := HK1.out; have := HK2.out; omega
 case rel => exact ⟨(y118), (y124), (wrap64 (x11_2 + 1)), (by first | rfl | (simp; done) | (simp [*]; done)), H', ⟨by have := HK1.out; have := HK2.out; omega⟩, ⟨by (try simp only [hl5_1]); (with_reducible repeat (first | apply zRa | apply zRn | apply zRd)); exact HO_5.out⟩, ⟨by (try simp only [hl5_1]); (with_reducible repeat (first | apply zRa | apply zRn | apply zRd)); exact HO_9.out⟩, ⟨by (try simp only [hl5_1]); (with_reducible repeat (first | apply zRa | apply zRn | apply zRd)); exact HO126.out⟩, ⟨by repeat (first | (with_reducible first | exact HB.out | apply zba | apply zbn | apply zbd) | exact HB.out)⟩⟩
end Go.Proofs.Ytkfkbmlbpeojaaa.Q
end
section
namespace Go.Proofs.Ytkfkbmlbpeojaaa.Q
open Go.RowKit Go.Proofs.YtkfkbmlbpeojaaaW.PrintWords Go.Proofs.YtkfkbmlbpeojaaaW.PrintLast Go.Proofs.YtkfkbmlbpeojaaaW.PrintMore
attribute [local go_sem] zcz zc0 zd1 zd2 zcl zcm zc1 zc2
set_option linter.unusedVariables false
set_option linter.unusedSimpArgs false
attribute [local go_sem high] zu3
set_option linter.unusedVariables false
set_option linter.unusedSimpArgs false
def exEq (x y : S72) : Bool := x.f0.toList == y.f0.toList && (x.f1 == y.f1 && (x.f2 == y.f2 && (x.f3 == y.f3)))
def exIx (n : S72) : List S72 → Int → Int
 | [], _ => -1
 | x :: xs, i => if exEq x n = true then i else exIx n xs (i + 1)
def zd8 (n : S72) (out : List S72) : List S72 × Int := if exIx n out 0 < 0 then (out ++ [n], out.length) else (out, exIx n out 0)
structure ExX (w0 : World) (gb r cr m : Nat) (s : List S72 × List Int) (vo : Value) (W : World) : Prop where
 below : Below w0.heap.size w0 W
 bb : W.heap[gb]? = some (.cells #[vo, .bool true] 147 (0, 0))
 lo : w0.heap.size ≤ gb
 out : Kd.R k72 72 W w0.heap.size (fun k => k ≠ gb ∧ k ≠ r) vo s.1
 rne : r ≠ gb
 nam : Kd.R (Kd.int .i64) 3 W w0.heap.size (fun k => k = r) (.slice (some ⟨r, 0, none⟩) m cr) s.2
section
variable {w0 : World} {gb r cr m : Nat} {s : List S72 × List Int} {vo v : Value} {W W1 : World}
theorem ExX.step (h : ExX w0 gb r cr m s vo W) (hb : Below W.heap.size W W1) : ExX w0 gb r cr m s vo W1 :=
 ⟨zag h.below hb, zaj h.bb hb, h.lo, zRb h.out hb, h.rne, zRb h.nam hb⟩
theorem ExX.setn (h : ExX w0 gb r cr m s vo W) (i x : Int) : ExX w0 gb r cr m (s.1, s.2.set i.toNat x) vo (W.setCell ⟨r, i.toNat, none⟩ (.int .i64 x)) :=
 ⟨h.below.setCell (p := ⟨r, i.toNat, none⟩) (Kd.R_base h.nam r rfl) _, zav h.bb (fun e => h.rne (by simpa using e.symm)) _, h.lo, Kd.R_far h.out (p := ⟨r, i.toNat, none⟩) (fun k hk => hk.2) _, h.rne, Kd.R_putn h.nam i x⟩
theorem ExX.append (h : ExX w0 gb r cr m s vo W) {vo' : Value} {ys : List S72} (hR : Kd.R k72 72 W1 w0.heap.size (fun k => k ≠ gb ∧ k ≠ r) vo' ys) (hb : Below w0.heap.size w0 W1) (hg : W.grownBy W1 vo.ownBlock) : ExX w0 gb r cr m (ys, s.2) vo' (W1.setCell ⟨gb, 0, none⟩ vo') := by
 have bb : W1.heap[gb]? = _ := (hg.block gb (zcp h.bb) (fun e => (h.out.1 gb e.symm).1 rfl)).trans h.bb
 exact ⟨hb.setCell (p := ⟨gb, 0, none⟩) h.lo _, by simpa using zas bb 0 vo', h.lo, Kd.R_far hR (p := ⟨gb, 0, none⟩) (fun k hk => hk.1) _, h.rne, Kd.R_far (Kd.R_grown h.nam hg (fun k hk e => (h.out.1 k e.symm).2 hk)) (p := ⟨gb, 0, none⟩) (fun k hk => by rw [hk]; exact h.rne) _⟩
end
def ExA (w0 : World) (gb r : Nat) (wr : World) (vo : Value) (ys : List S72) (V : World) (v' : Value) : Prop :=
 ∃ V1, Below wr.heap.size wr V1 ∧ Below w0.heap.size w0 V ∧ V1.grownBy V vo.ownBlock ∧ (v'.ownBlock = vo.ownBlock ∨ ∃ b, v'.ownBlock = some b ∧ V1.heap.size ≤ b) ∧ Kd.R k72 72 V w0.heap.size (fun k => k ≠ gb ∧ k ≠ r) v' ys
set_option maxHeartbeats 4000000 in
set_option maxRecDepth 100000 in
theorem zjx {w0 : World} {gb r cr m : Nat} (s : List S72 × List Int) (vo : Value) (W : World) (hX : ExX w0 gb r cr m s vo W) (n0 : ByteArray) (n1 n2 n3 : Int) (hl : s.1.length < 1048576) :
   Calls Try.prog 178 #[.pointer (some ⟨gb, 0, none⟩), .agg #[.string n0, .int .i64 n1, .int .i64 n2, .int .i64 n3]] W fun x W' => ∃ vo', x = .returned (.int .i64 (zd8 ⟨n0, n1, n2, n3⟩ s.1).2) ∧ ExX w0 gb r cr m ((zd8 ⟨n0, n1, n2, n3⟩ s.1).1, s.2) vo' W' ∧ ShFr gb r vo W vo' W' := by
 obtain ⟨Ao, co, rfl⟩ := Kd.R_slice hX.out
 have hCo := (zRr hX.out).2.2
 have q0 := zaf hX.bb 0
 have q1 := zaf hX.bb 1
 have HX := zA hX
 clear hX
 have HCO := zA hCo
 clear hCo
 go_enter Try.func178, Try.ntmps178
 go_wp2_with ((with_reducible refine zar (N := 3) rfl ?_); refine zat ?hg (N := 3) ?hd (cs := #[.string n0, .int .i64 n1, .int .i64 n2, .int .i64 n3]) (t := 72) ?hr ?_; (case hd => rfl); (case hg => rfl); (case hr => go_simp <;> rfl); intro g hg w4 hbox hb; have HX4 := zA (HX.out.step hb); have HG := zA hbox; have HGE := zA (Nat.le_of_eq hg.symm); have HB4 := zA hb; have q0 := zaf HX4.out.bb 0; have q1 := zaf HX4.out.bb 1; clear hg hbox hb)
 obtain ⟨L, hL⟩ : ∃ L, L = exIx ⟨n0, n1, n2, n3⟩ s.1 0 := ⟨_, rfl⟩
 have HL := zA hL
 clear hL
 go_loopw [5, 6, 16] (fun v5 v6 v16 wr => ∃ u : Nat, v16 = .int .i64 (u : Int) ∧ u ≤ s.1.length ∧ Aside0 (Below w4.heap.size w4 wr) ∧ Aside0 (exIx ⟨n0, n1, n2, n3⟩ (s.1.drop u) u = L)) (fun _ _ v16 _ => s.1.length - (intOf v16).toNat)
 case atStart => exact ⟨0, rfl, Nat.zero_le _, ⟨Below.refl _ _⟩, ⟨by rw [List.drop_zero]; exact HL.out.symm⟩⟩
 obtain ⟨u, rfl, hu, HBr, HS⟩ := hrel
 by_cases hlt : u < s.1.length
 · have d1 : decide ((u : Int) < s.1.length) = true := zdt (by omega)
   have d2 : (0 : Int) ≤ (u : Int) := by omega
   have d3 : (u : Int) < s.1.length := by omega
   obtain ⟨ad, eA, x0, x1, x2, x3⟩ := zen (zCb (zRr HX4.out.out).2.2 HBr.out) (u : Int) d2 d3
   rw [Int.toNat_natCast] at x0 x1 x2 x3
   subst eA
   have hg := zaj HG.out HBr.out
   obtain ⟨x, hx⟩ : ∃ x, x = zac s.1 (u : Int) := ⟨_, rfl⟩
   rw [← hx] at x0 x1 x2 x3
   have hdr : s.1.drop u = x :: s.1.drop (u + 1) := by
     rw [List.drop_eq_getElem_cons hlt, hx]
     unfold zac
     rw [Int.toNat_natCast, List.getD_eq_getElem?_getD, List.getElem?_eq_getElem hlt]
     rfl
   have hs := HS.out
   rw [hdr] at hs
   unfold exIx at hs
   have t0 : ∀ V, Below wr.heap.size wr V → V.cell? ⟨g, 0, none⟩ = some (.string n0) := fun V h => zaf (zaj hg h) 0
   have t1 : ∀ V, Below wr.heap.size wr V → V.cell? ⟨g, 1, none⟩ = some (.int .i64 n1) := fun V h => zaf (zaj hg h) 1
   have t2 : ∀ V, Below wr.heap.size wr V → V.cell? ⟨g, 2, none⟩ = some (.int .i64 n2) := fun V h => zaf (zaj hg h) 2
   have t3 : ∀ V, Below wr.heap.size wr V → V.cell? ⟨g, 3, none⟩ = some (.int .i64 n3) := fun V h => zaf (zaj hg h) 3
   have hb := zba (Below.refl wr.heap.size wr) (.cells #[.string x.f0, .int .i64 x.f1, .int .i64 x.f2, .int .i64 x.f3] 72)
   have y0 := t0 _ hb
   have y1 := t1 _ hb
   have y2 := t2 _ hb
   have y3 := t3 _ hb
   have HBA := zA (zag HBr.out hb)
   clear t0 t1 t2 t3 hb hg hdr hx HS
   by_cases c : exEq x ⟨n0, n1, n2, n3⟩ = true
   rotate_left
   · rw [if_neg c] at hs
     have HS := zA hs
     have d4 : (x.f0.toList == n0.toList && (x.f1 == n1 && (x.f2 == n2 && (x.f3 == n3)))) = false := by simpa [exEq] using c
     clear hs c
     go_wp2_with fail
     go_roundw
     case rel => exact ⟨u + 1, by go_num, by omega, HBA, ⟨by rw [show ((u + 1 : Nat) : Int) = (u : Int) + 1 from rfl]; exact HS.out⟩⟩
     case measure => simp [intOf]; omega
   rw [if_pos c] at hs
   have HS := zA hs
   have d4 : (x.f0.toList == n0.toList && (x.f1 == n1 && (x.f2 == n2 && (x.f3 == n3)))) = true := c
   clear hs c
   go_wp2_with fail
   go_ret
   have e : zd8 ⟨n0, n1, n2, n3⟩ s.1 = (s.1, (u : Int)) := by
     unfold zd8
     rw [← HL.out, ← HS.out, if_neg (by omega)]
   rw [e]
   exact ⟨_, rfl, HX4.out.step HBA.out, ((ShFr.refl _ _ _ _).step HB4.out).step HBA.out⟩
 obtain rfl : u = s.1.length := by omega
 have d1 : decide ((s.1.length : Int) < s.1.length) = false := zdf (by omega)
 go_wp2_with fail
 have hs := HS.out
 rw [List.drop_length] at hs
 have HS' := zA (show (-1 : Int) = L from hs)
 clear hs HS
 have HX5 := zA (HX4.out.step HBr.out)
 have HG5 := zA (zaj HG.out HBr.out)
 refine zic [[], [], [1], [1, 2], [1, 2, 3], [], [5], [1, 2, 3, 4, 5, 6], [0, 1, 2, 3, 4, 5, 6, 7], [0, 1, 2, 3, 4, 5, 6, 7, 8], [0, 1, 2, 3, 4, 5, 6, 7, 8, 9]] [[8, 9, 10], [2, 3, 4, 7, 8, 9, 10], [3, 4, 7, 8, 9, 10], [4, 7, 8, 9, 10], [7, 8, 9, 10], [6, 7, 8, 9, 10], [7, 8, 9, 10], [8, 9, 10], [9, 10], [10], []]
   (fun L s_ V => (L 7 = false → Below wr.heap.size wr V) ∧ (L 7 = true → L 10 = false → ExA w0 gb r wr (.slice Ao s.1.length co) (s.1 ++ [(⟨n0, n1, n2, n3⟩ : S72)]) V (s_ 7)) ∧ (L 10 = true → ∃ V2, ExA w0 gb r wr (.slice Ao s.1.length co) (s.1 ++ [(⟨n0, n1, n2, n3⟩ : S72)]) V2 (s_ 7) ∧ V = V2.setCell ⟨gb, 0, none⟩ (s_ 7)) ∧
     (L 0 = true → s_ 0 = .pointer (some ⟨gb, 0, none⟩)) ∧ (L 1 = true → s_ 1 = .pointer (some ⟨gb, 0, none⟩)) ∧ (L 2 = true → s_ 2 = .pointer (some ⟨gb, 0, none⟩)) ∧ (L 3 = true → s_ 3 = .pointer (some ⟨gb, 0, none⟩)) ∧ (L 4 = true → s_ 4 = .slice Ao s.1.length co) ∧ (L 5 = true → s_ 5 = .agg #[.string n0, .int .i64 n1, .int .i64 n2, .int .i64 n3]) ∧
     (L 6 = true → L 7 = false → ∃ A c, s_ 6 = .slice A 1 c ∧ Kd.C k72 V A 1 [(⟨n0, n1, n2, n3⟩ : S72)]) ∧ (L 8 = true → s_ 8 = .pointer (some ⟨gb, 0, none⟩)) ∧ (L 9 = true → s_ 9 = .pointer (some ⟨gb, 0, none⟩)))
   rfl (fun _ _ _ _ _ h => h) (by kernel_rfl) ?_ ⟨?_, ?_, ?_, ?_, ?_, ?_, ?_, ?_, ?_, ?_, ?_, trivial⟩ ?_
 · exact ⟨fun _ => zee (Below.refl _ _), (fun h => Bool.noConfusion h), (fun h => Bool.noConfusion h), (fun h => Bool.noConfusion h), (fun h => Bool.noConfusion h), (fun h => Bool.noConfusion h), (fun h => Bool.noConfusion h), (fun h => Bool.noConfusion h), (fun h => Bool.noConfusion h), (fun h => Bool.noConfusion h), (fun h => Bool.noConfusion h), (fun h => Bool.noConfusion h)⟩
 · rintro L s_ V hu hd hn ⟨hB, hA, hS, g0, g1, g2, g3, g4, g5, g6, g8, g9⟩ K hK
   refine zd0 (N := some 26) (v := .pointer (some ⟨gb, 0, none⟩)) (w1 := V) (by rfl) rfl ?_ (hK _ _ ⟨hB, hA, hS, fun _ => rfl, g1, g2, g3, g4, g5, g6, g8, g9⟩)
   simp only [zap, riGo, zb2, zby, zc3, zdl, Nat.reduceBEq, Nat.reduceAdd, List.headD, List.tail, List.getD, List.getElem?_cons_zero, List.getElem?_cons_succ, Option.getD_some, cond_true, cond_false]
   go_simp
 · rintro L s_ V hu hd hn ⟨hB, hA, hS, g0, g1, g2, g3, g4, g5, g6, g8, g9⟩ K hK
   refine zd0 (N := some 27) (v := .pointer (some ⟨gb, 0, none⟩)) (w1 := V) (by rfl) rfl ?_ (hK _ _ ⟨hB, hA, hS, g0, fun _ => rfl, g2, g3, g4, g5, g6, g8, g9⟩)
   simp only [zap, riGo, zb2, zby, zc3, zdl, Nat.reduceBEq, Nat.reduceAdd, List.headD, List.tail, List.getD, List.getElem?_cons_zero, List.getElem?_cons_succ, Option.getD_some, cond_true, cond_false]
   go_simp
 · rintro L s_ V hu hd hn ⟨hB, hA, hS, g0, g1, g2, g3, g4, g5, g6, g8, g9⟩ K hK
   have e1 := g1 hd
   refine zd0 (N := some 28) (v := .pointer (some ⟨gb, 0, none⟩)) (w1 := V) (by rfl) rfl ?_ (hK _ _ ⟨hB, hA, hS, g0, g1, fun _ => rfl, g3, g4, g5, g6, g8, g9⟩)
   simp only [zap, riGo, zb2, zby, zc3, zdl, Nat.reduceBEq, Nat.reduceAdd, List.headD, List.tail, List.getD, List.getElem?_cons_zero, List.getElem?_cons_succ, Option.getD_some, cond_true, cond_false]
   rw [e1]
   go_simp
 · rintro L s_ V hu hd hn ⟨hB, hA, hS, g0, g1, g2, g3, g4, g5, g6, g8, g9⟩ K hK
   have e2 := g2 hd.2
   refine zd0 (N := some 29) (v := .pointer (some ⟨gb, 0, none⟩)) (w1 := V) (by rfl) rfl ?_ (hK _ _ ⟨hB, hA, hS, g0, g1, g2, fun _ => rfl, g4, g5, g6, g8, g9⟩)
   simp only [zap, riGo, zb2, zby, zc3, zdl, Nat.reduceBEq, Nat.reduceAdd, List.headD, List.tail, List.getD, List.getElem?_cons_zero, List.getElem?_cons_succ, Option.getD_some, cond_true, cond_false]
   rw [e2]
   go_simp
 · rintro L s_ V hu hd hn ⟨hB, hA, hS, g0, g1, g2, g3, g4, g5, g6, g8, g9⟩ K hK
   have e3 := g3 hd.2.2
   have hc := zaf (HX5.out.step (hB hn.1)).bb 0
   refine zd0 (N := some 30) (v := .slice Ao s.1.length co) (w1 := V) (by rfl) rfl ?_ (hK _ _ ⟨hB, hA, hS, g0, g1, g2, g3, fun _ => rfl, g5, g6, g8, g9⟩)
   simp only [zap, riGo, zb2, zby, zc3, zdl, Nat.reduceBEq, Nat.reduceAdd, List.headD, List.tail, List.getD, List.getElem?_cons_zero, List.getElem?_cons_succ, Option.getD_some, cond_true, cond_false]
   rw [e3]
   go_simp
 · rintro L s_ V hu hd hn ⟨hB, hA, hS, g0, g1, g2, g3, g4, g5, g6, g8, g9⟩ K hK
   have hg' := zaj HG5.out (hB hn.2.1)
   have y0 : V.cell? ⟨g, 0, none⟩ = some (.string n0) := zaf hg' 0
   have y1 : V.cell? ⟨g, 1, none⟩ = some (.int .i64 n1) := zaf hg' 1
   have y2 : V.cell? ⟨g, 2, none⟩ = some (.int .i64 n2) := zaf hg' 2
   have y3 : V.cell? ⟨g, 3, none⟩ = some (.int .i64 n3) := zaf hg' 3
   clear hg'
   refine zd0 (N := some 31) (v := .agg #[.string n0, .int .i64 n1, .int .i64 n2, .int .i64 n3]) (w1 := V) (by rfl) rfl ?_ (hK _ _ ⟨hB, hA, hS, g0, g1, g2, g3, g4, fun _ => rfl, g6, g8, g9⟩)
   simp only [zap, riGo, zb2, zby, zc3, zdl, Nat.reduceBEq, Nat.reduceAdd, List.headD, List.tail, List.getD, List.getElem?_cons_zero, List.getElem?_cons_succ, Option.getD_some, cond_true, cond_false]
   go_simp
 · rintro L s_ V hu hd hn ⟨hB, hA, hS, g0, g1, g2, g3, g4, g5, g6, g8, g9⟩ K hK
   have e5 := g5 hd
   have hb := hB hn.1
   refine zd0 (N := some 32) (v := .slice (some ⟨V.heap.size, 0, none⟩) 1 1) (w1 := V.alloc (.cells #[.string n0, .int .i64 n1, .int .i64 n2, .int .i64 n3] 72)) (by rfl) rfl ?_ (hK _ _ ⟨fun _ => zba hb _, fun h => absurd (h.symm.trans hn.1) (by simp), fun h => absurd (h.symm.trans hn.2.2.2) (by simp), g0, g1, g2, g3, g4, g5, fun _ _ => ⟨_, _, rfl, zu1 (d := k72) (zit V _) (cs := [.string n0, .int .i64 n1, .int .i64 n2, .int .i64 n3]) rfl (zum _ (⟨n0, n1, n2, n3⟩ : S72))⟩, g8, g9⟩)
   simp only [zap, riGo, zb2, zby, zc3, zdl, Nat.reduceBEq, Nat.reduceAdd, List.headD, List.tail, List.getD, List.getElem?_cons_zero, List.getElem?_cons_succ, Option.getD_some, cond_true, cond_false]
   rw [e5]
   go_simp
 · rintro L s_ V hu hd hn ⟨hB, hA, hS, g0, g1, g2, g3, g4, g5, g6, g8, g9⟩ K hK
   obtain ⟨h1, h2, h3, h4, h5, h6⟩ := hd
   have hb := hB hu
   have e4 := g4 h4
   obtain ⟨A6, c6, e6, hC6⟩ := g6 h6 hu
   have hX := HX5.out.step hb
   refine Kd.R_append_rows_step k72 (Rr := k72.K V) w0.heap.size (by rfl) _ _ 24 72 (.agg #[(.string ⟨#[]⟩), (.int .i64 0), (.int .i64 0), (.int .i64 0)]) 40 rfl Try.underlying24 znb rfl (by decide) (by omega) (.slice Ao s.1.length co) s.1 [(⟨n0, n1, n2, n3⟩ : S72)] A6 1 c6 (fun k => k ≠ gb ∧ k ≠ r) (fun _ => False) e4 e6 hX.out hC6 (fun x cs h => by rw [zpo h]; exact zfr _ _ _ x) (fun _ hk => hk.elim) (fun k hk => by have a1 := zcp hX.bb; have a2 := Kd.R_lt hX.nam r rfl; exact ⟨by omega, by omega⟩) hX.below hX.below.size (by omega) ?_
   intro v1 w1 ho hb1 hgr hat
   exact hK _ _ ⟨(fun h => Bool.noConfusion h), fun _ _ => ⟨V, hb, hb1, hgr, hat, ho⟩, fun h => absurd (h.symm.trans hn.2.2) (by simp), g0, g1, g2, g3, g4, g5, fun _ h => Bool.noConfusion h, g8, g9⟩
 · rintro L s_ V hu hd hn ⟨hB, hA, hS, g0, g1, g2, g3, g4, g5, g6, g8, g9⟩ K hK
   have e0 := g0 hd.1
   refine zd0 (N := some 34) (v := .pointer (some ⟨gb, 0, none⟩)) (w1 := V) (by rfl) rfl ?_ (hK _ _ ⟨hB, hA, hS, g0, g1, g2, g3, g4, g5, g6, fun _ => rfl, g9⟩)
   simp only [zap, riGo, zb2, zby, zc3, zdl, Nat.reduceBEq, Nat.reduceAdd, List.headD, List.tail, List.getD, List.getElem?_cons_zero, List.getElem?_cons_succ, Option.getD_some, cond_true, cond_false]
   rw [e0]
   go_simp
 · rintro L s_ V hu hd hn ⟨hB, hA, hS, g0, g1, g2, g3, g4, g5, g6, g8, g9⟩ K hK
   have e8 := g8 hd.2.2.2.2.2.2.2.2
   refine zd0 (N := some 35) (v := .pointer (some ⟨gb, 0, none⟩)) (w1 := V) (by rfl) rfl ?_ (hK _ _ ⟨hB, hA, hS, g0, g1, g2, g3, g4, g5, g6, g8, fun _ => rfl⟩)
   simp only [zap, riGo, zb2, zby, zc3, zdl, Nat.reduceBEq, Nat.reduceAdd, List.headD, List.tail, List.getD, List.getElem?_cons_zero, List.getElem?_cons_succ, Option.getD_some, cond_true, cond_false]
   rw [e8]
   go_simp
 · rintro L s_ V hu hd hn ⟨hB, hA, hS, g0, g1, g2, g3, g4, g5, g6, g8, g9⟩ K hK
   have h7 := hd.2.2.2.2.2.2.2.1
   have e9 := g9 hd.2.2.2.2.2.2.2.2.2
   have hAP := hA h7 hu
   obtain ⟨V1, hb, hb1, hgr, hat, ho⟩ := hAP
   obtain ⟨A7, c7, e7⟩ := Kd.R_slice ho
   have hX := HX5.out.step hb
   have bb : V.heap[gb]? = _ := (hgr.block gb (zcp hX.bb) (fun e => (hX.out.1 gb e.symm).1 rfl)).trans hX.bb
   have b1 := zaf bb 0
   have b2 := zbu bb 0
   refine zrs (w1 := V.setCell ⟨gb, 0, none⟩ (s_ 7)) (by rfl) rfl ?_ (hK undef _ ⟨fun h => absurd (h.symm.trans h7) (by simp), fun _ h => absurd h (by simp [riUp]), fun _ => ⟨V, ⟨V1, hb, hb1, hgr, hat, ho⟩, rfl⟩, g0, g1, g2, g3, g4, g5, fun _ h => absurd (h.symm.trans h7) (by simp), g8, g9⟩)
   simp only [zap, riGo, zb2, zby, zc3, zdl, Nat.reduceBEq, Nat.reduceAdd, List.headD, List.tail, List.getD, List.getElem?_cons_zero, List.getElem?_cons_succ, Option.getD_some, cond_true, cond_false]
   rw [e9, e7]
   clear bb hgr hat ho hb1 hb hX
   go_simp
 · rintro L s_ V hL ⟨hB, hA, hS, g0, g1, g2, g3, g4, g5, g6, g8, g9⟩
   obtain ⟨V2, ⟨V1, hb, hb1, hgr, hat, ho⟩, rfl⟩ := hS (hL 10 rfl)
   obtain ⟨A7, c7, e7⟩ := Kd.R_slice ho
   have HX6 := zA ((HX5.out.step hb).append ho hb1 hgr)
   have HF6 := zA (((((ShFr.refl gb r (.slice Ao s.1.length co) W).step HB4.out).step HBr.out).step hb).append hgr hat)
   have q2 := zaf HX6.out.bb 0
   rw [e7] at HX6 HF6 q2 ⊢
   clear hb hb1 hgr hat ho hB hA hS g0 g1 g2 g3 g4 g5 g6 g8 g9
   simp only [zap, riGo, zb2, zby, zc3, zdl, Nat.reduceBEq, Nat.reduceAdd, List.headD, List.tail, List.getD, List.getElem?_cons_zero, List.getElem?_cons_succ, Option.getD_some, cond_true, cond_false]
   generalize V2.setCell ⟨gb, 0, none⟩ (.slice A7 (s.1 ++ [(⟨n0, n1, n2, n3⟩ : S72)]).length c7) = X at HX6 HF6 q2 ⊢
   go_wp2_with fail
   go_ret
   have e : zd8 ⟨n0, n1, n2, n3⟩ s.1 = (s.1 ++ [⟨n0, n1, n2, n3⟩], (s.1.length : Int)) := by
     unfold zd8
     rw [← HL.out, ← HS'.out, if_pos (by omega)]
   rw [e]
   exact ⟨_, rfl, HX6.out, HF6.out⟩
set_option linter.unusedVariables false
set_option linter.unusedSimpArgs false
def exW (k : Nat) (e : List S72) : Nat → Int → List S72 × List Int → Option ((List S72 × List Int) × Int)
 | 0, _, _ => none
 | d + 1, i, s => if 0 ≤ i ∧ i < e.length then (if rd s.2 i ≥ 0 then some (s, rd s.2 i) else (zdh k (zac e i).f0 (zac e i).f1 (zac e i).f2 (zac e i).f3).bind fun ps => if ps.length < 1048576 then
     (if 0 < ps.length then exW k e d (zac e i).f1 s else some (s, 0)).bind fun r1 => (if 1 < ps.length then exW k e d (zac e i).f2 r1.1 else some (r1.1, 0)).bind fun r2 => if r2.1.1.length < 1048576 then
       some (((zd8 ⟨(zac e i).f0, r1.2, r2.2, (zac e i).f3⟩ r2.1.1).1, r2.1.2.set i.toNat (zd8 ⟨(zac e i).f0, r1.2, r2.2, (zac e i).f3⟩ r2.1.1).2), (zd8 ⟨(zac e i).f0, r1.2, r2.2, (zac e i).f3⟩ r2.1.1).2) else none else none) else none
theorem kOwn {W : World} {base : Nat} {ok : Nat → Prop} {v : Value} {xs : List S72} (h : Kd.R k72 72 W base ok v xs) : Kd.R k72 72 W base (fun k => some k = v.ownBlock) v xs := by
 obtain ⟨h0, inner, ho, hr⟩ := h
 exact ⟨fun k hk => hk.symm, inner, ho, hr.imp_ (fun x cs hp => by rw [zf3 hp]; exact zfr _ _ _ x)⟩
structure ExN (w0 : World) (gb r cr m g : Nat) (W : World) (vo : Value) (f0 : ByteArray) (f3 : Int) (s : List S72 × List Int) (v : Value) (a b : Int) (V : World) : Prop where
 x : ExX w0 gb r cr m s v V
 box : V.heap[g]? = some (.cells #[.string f0, .int .i64 a, .int .i64 b, .int .i64 f3] 72 (0, 0))
 ge : W.heap.size ≤ g
 lo : w0.heap.size ≤ g
 ne : g ≠ gb ∧ g ≠ r
 own : some g ≠ v.ownBlock
 fr : ShFr gb r vo W v V
section
variable {w0 : World} {gb r cr m g : Nat} {W : World} {vo : Value} {f0 : ByteArray} {f3 : Int} {s : List S72 × List Int} {v : Value} {a b : Int} {V : World}
theorem ExN.step (h : ExN w0 gb r cr m g W vo f0 f3 s v a b V) {V1 : World} (hb : Below V.heap.size V V1) : ExN w0 gb r cr m g W vo f0 f3 s v a b V1 :=
 ⟨h.x.step hb, zaj h.box hb, h.ge, h.lo, h.ne, h.own, h.fr.step hb⟩
theorem ExN.walked (h : ExN w0 gb r cr m g W vo f0 f3 s v a b V) {s1 : List S72 × List Int} {v1 : Value} {V1 : World} (hX : ExX w0 gb r cr m s1 v1 V1) (hF : ShFr gb r v V v1 V1) : ExN w0 gb r cr m g W vo f0 f3 s1 v1 a b V1 := by
 have hlt := zcp h.box
 refine ⟨hX, (hF.keep g hlt h.ne.2 h.ne.1 h.own).trans h.box, h.ge, h.lo, h.ne, fun e => ?_, h.fr.trans hF⟩
 rcases hF.own g e.symm with e' | e'
 · exact h.own e'.symm
 · omega
theorem ExN.set (h : ExN w0 gb r cr m g W vo f0 f3 s v a b V) (j : Nat) (u : Value) (a' b' : Int) (hc : (#[.string f0, .int .i64 a, .int .i64 b, .int .i64 f3] : Array Value).setIfInBounds j u = #[.string f0, .int .i64 a', .int .i64 b', .int .i64 f3]) : ExN w0 gb r cr m g W vo f0 f3 s v a' b' (V.setCell ⟨g, j, none⟩ u) := by
 refine ⟨⟨h.x.below.setCell (p := ⟨g, j, none⟩) h.lo _, zav h.x.bb (fun e => h.ne.1 (by simpa using e.symm)) _, h.x.lo, Kd.R_mono (Kd.R_far (kOwn h.x.out) (p := ⟨g, j, none⟩) (fun k hk e => h.own (by rw [← hk]; exact congrArg some e.symm)) _) (fun k hk => h.x.out.1 k hk.symm), h.x.rne, Kd.R_far h.x.nam (p := ⟨g, j, none⟩) (fun k hk => by rw [hk]; exact fun e => h.ne.2 e.symm) _⟩, ?_, h.ge, h.lo, h.ne, h.own, ?_⟩
 · rw [← hc]
   exact zas h.box j u
 · have hg := h.ge
   exact ⟨Nat.le_trans h.fr.size ((Below.refl 0 V).setCell (p := ⟨g, j, none⟩) (Nat.zero_le _) u).size, fun k hk h1 h2 h3 => (Below.heap_setCell V ⟨g, j, none⟩ u k (show k ≠ g by omega)).trans (h.fr.keep k hk h1 h2 h3), h.fr.own⟩
end
set_option maxHeartbeats 8000000 in
set_option maxRecDepth 100000 in
theorem zu5 (k : Nat) {w0 : World} {A0 : Option Addr} {c0 : Nat} {e : List S72} {gb r cr : Nat} (hC : Kd.C k72 w0 A0 e.length e) : ∀ (d : Nat) (i : Int) (s s' : List S72 × List Int) (x : Int) (vo : Value) (W : World), ExX w0 gb r cr e.length s vo W → exW k e d i s = some (s', x) →
   Calls Try.prog 144 #[.pointer (some ⟨gb, 0, none⟩), .slice A0 e.length c0, .int .i64 i, .slice (some ⟨r, 0, none⟩) e.length cr] W fun y W' => y = .returned (.int .i64 x) ∧ ∃ vo', ExX w0 gb r cr e.length s' vo' W' ∧ ShFr gb r vo W vo' W' := by
 have HC := zA hC
 clear hC
 intro d
 induction d with
 | zero => intro i s s' x vo W hX h; cases h
 | succ d ih =>
 intro i s s' x vo W hX h
 have HIH := zA ih
 clear ih
 unfold exW at h
 by_cases c1 : 0 ≤ i ∧ i < e.length
 rotate_left
 · rw [if_neg c1] at h
   cases h
 rw [if_pos c1] at h
 obtain ⟨c2, c3⟩ := c1
 obtain ⟨p0, p1⟩ := Kd.R_celln 0 hX.nam i c2 c3
 have HX := zA hX
 clear hX
 by_cases hn : rd s.2 i ≥ 0
 · rw [if_pos hn] at h
   obtain ⟨rfl, rfl⟩ := Prod.mk.inj (zsi h)
   clear h
   have d1 : decide (0 ≤ rdOf 0 s.2 i) = true := zdt hn
   clear hn
   go_enter Try.func144, Try.ntmps144
   go_wp2_with fail
   go_ret
   exact ⟨rfl, vo, HX.out, ShFr.refl _ _ _ _⟩
 rw [if_neg hn] at h
 have d1 : decide (0 ≤ rdOf 0 s.2 i) = false := zdf hn
 clear hn
 obtain ⟨ps, hps, h⟩ := Option.bind_eq_some_iff.1 h
 by_cases hpl : ps.length < 1048576
 rotate_left
 · rw [if_neg hpl] at h
   cases h
 rw [if_pos hpl] at h
 obtain ⟨⟨s1, z1⟩, hs1, h⟩ := Option.bind_eq_some_iff.1 h
 obtain ⟨⟨s2, z2⟩, hs2, h⟩ := Option.bind_eq_some_iff.1 h
 by_cases hsl : s2.1.length < 1048576
 rotate_left
 · rw [if_neg hsl] at h
   cases h
 rw [if_pos hsl] at h
 have HPS := zA hps
 have HS1 := zA hs1
 have HS2 := zA hs2
 have HE := zA (Prod.mk.inj (zsi h))
 clear hps hs1 hs2 h
 obtain ⟨ad, eA, x0, x1, x2, x3⟩ := zen (zCb HC.out HX.out.below) i c2 c3
 subst eA
 go_enter Try.func144, Try.ntmps144
 go_wp2_with fail
 obtain ⟨f0, hf0⟩ : ∃ f0, f0 = (zac e i).f0 := ⟨_, rfl⟩
 obtain ⟨f3, hf3⟩ : ∃ f3, f3 = (zac e i).f3 := ⟨_, rfl⟩
 have HF0 := zA hf0
 have HF3 := zA hf3
 clear hf0 hf3
 refine zic [[], [], [0, 1], [0, 1, 2], [0, 1, 2, 3], [], [], [5, 6], [5, 6, 7], [5, 6, 7, 8], [0, 1, 2, 3, 4, 5, 6, 7, 8, 9], [], [0, 1, 2, 3, 4, 5, 6, 7, 8, 9, 10, 11]] [[2, 3, 4, 10, 12], [2, 3, 4, 10, 12], [3, 4, 10, 12], [4, 10, 12], [10, 12], [7, 8, 9, 10, 12], [7, 8, 9, 10, 12], [8, 9, 10, 12], [9, 10, 12], [10, 12], [12], [12], []]
   (fun L s_ V => Below W.heap.size W V ∧ (L 0 = true → s_ 0 = .slice (some ad) e.length c0) ∧ (L 1 = true → s_ 1 = .int .i64 i) ∧ (L 2 = true → s_ 2 = .pointer (some (ad.add (i.toNat * 4)))) ∧ (L 3 = true → s_ 3 = .pointer (some (ad.add (i.toNat * 4)))) ∧ (L 4 = true → s_ 4 = .string f0) ∧ (L 5 = true → s_ 5 = .slice (some ad) e.length c0) ∧ (L 6 = true → s_ 6 = .int .i64 i) ∧ (L 7 = true → s_ 7 = .pointer (some (ad.add (i.toNat * 4)))) ∧ (L 8 = true → s_ 8 = .pointer (some ⟨(ad.add (i.toNat * 4)).block, (ad.add (i.toNat * 4)).off + 3, none⟩)) ∧ (L 9 = true → s_ 9 = .int .i64 f3) ∧ (L 10 = true → s_ 10 = .agg #[.string f0, .int .i64 0, .int .i64 0, .int .i64 f3]) ∧ (L 11 = true → ∃ g cs, s_ 11 = .pointer (some ⟨g, 0, none⟩) ∧ V.heap[g]? = some (.cells cs 72 (0, 0)) ∧ cs.size = 4 ∧ W.heap.size ≤ g ∧ (L 12 = true → cs = #[.string f0, .int .i64 0, .int .i64 0, .int .i64 f3])))
   rfl (fun _ _ _ _ _ h => h) (by kernel_rfl) ?_ ⟨?_, ?_, ?_, ?_, ?_, ?_, ?_, ?_, ?_, ?_, ?_, ?_, ?_, trivial⟩ ?_
 · exact ⟨zee (Below.refl _ _), (fun h => Bool.noConfusion h), (fun h => Bool.noConfusion h), (fun h => Bool.noConfusion h), (fun h => Bool.noConfusion h), (fun h => Bool.noConfusion h), (fun h => Bool.noConfusion h), (fun h => Bool.noConfusion h), (fun h => Bool.noConfusion h), (fun h => Bool.noConfusion h), (fun h => Bool.noConfusion h), (fun h => Bool.noConfusion h), (fun h => Bool.noConfusion h)⟩
 · rintro L s_ V hu hd hn ⟨hB, g0, g1, g2, g3, g4, g5, g6, g7, g8, g9, g10, g11⟩ K hK
   refine zd0 (N := some 19) (v := .slice (some ad) e.length c0) (w1 := V) (by rfl) rfl ?_ (hK _ _ ⟨hB, fun _ => rfl, g1, g2, g3, g4, g5, g6, g7, g8, g9, g10, g11⟩)
   simp only [zap, riGo, zb2, zby, zc3, zdl, Nat.reduceBEq, Nat.reduceAdd, List.headD, List.tail, List.getD, List.getElem?_cons_zero, List.getElem?_cons_succ, Option.getD_some, cond_true, cond_false]
   go_simp
 · rintro L s_ V hu hd hn ⟨hB, g0, g1, g2, g3, g4, g5, g6, g7, g8, g9, g10, g11⟩ K hK
   refine zd0 (N := some 20) (v := .int .i64 i) (w1 := V) (by rfl) rfl ?_ (hK _ _ ⟨hB, g0, fun _ => rfl, g2, g3, g4, g5, g6, g7, g8, g9, g10, g11⟩)
   simp only [zap, riGo, zb2, zby, zc3, zdl, Nat.reduceBEq, Nat.reduceAdd, List.headD, List.tail, List.getD, List.getElem?_cons_zero, List.getElem?_cons_succ, Option.getD_some, cond_true, cond_false]
   go_simp
 · rintro L s_ V hu hd hn ⟨hB, g0, g1, g2, g3, g4, g5, g6, g7, g8, g9, g10, g11⟩ K hK
   have e0 := g0 hd.1
   have e1 := g1 hd.2
   refine zd0 (N := some 21) (v := .pointer (some (ad.add (i.toNat * 4)))) (w1 := V) (by rfl) rfl ?_ (hK _ _ ⟨hB, g0, g1, fun _ => rfl, g3, g4, g5, g6, g7, g8, g9, g10, g11⟩)
   simp only [zap, riGo, zb2, zby, zc3, zdl, Nat.reduceBEq, Nat.reduceAdd, List.headD, List.tail, List.getD, List.getElem?_cons_zero, List.getElem?_cons_succ, Option.getD_some, cond_true, cond_false]
   rw [e0, e1]
   go_simp
 · rintro L s_ V hu hd hn ⟨hB, g0, g1, g2, g3, g4, g5, g6, g7, g8, g9, g10, g11⟩ K hK
   have e2 := g2 hd.2.2
   refine zd0 (N := some 22) (v := .pointer (some (ad.add (i.toNat * 4)))) (w1 := V) (by rfl) rfl ?_ (hK _ _ ⟨hB, g0, g1, g2, fun _ => rfl, g4, g5, g6, g7, g8, g9, g10, g11⟩)
   simp only [zap, riGo, zb2, zby, zc3, zdl, Nat.reduceBEq, Nat.reduceAdd, List.headD, List.tail, List.getD, List.getElem?_cons_zero, List.getElem?_cons_succ, Option.getD_some, cond_true, cond_false]
   rw [e2]
   go_simp
 · rintro L s_ V hu hd hn ⟨hB, g0, g1, g2, g3, g4, g5, g6, g7, g8, g9, g10, g11⟩ K hK
   have e3 := g3 hd.2.2.2
   obtain ⟨ad', ea, y0, y1, y2, y3⟩ := zen (zCb HC.out (HX.out.step hB).below) i c2 c3
   cases ea
   rw [← HF0.out] at y0
   clear x0 x1 x2 x3
   refine zd0 (N := some 23) (v := .string f0) (w1 := V) (by rfl) rfl ?_ (hK _ _ ⟨hB, g0, g1, g2, g3, fun _ => rfl, g5, g6, g7, g8, g9, g10, g11⟩)
   simp only [zap, riGo, zb2, zby, zc3, zdl, Nat.reduceBEq, Nat.reduceAdd, List.headD, List.tail, List.getD, List.getElem?_cons_zero, List.getElem?_cons_succ, Option.getD_some, cond_true, cond_false]
   rw [e3]
   go_simp
 · rintro L s_ V hu hd hn ⟨hB, g0, g1, g2, g3, g4, g5, g6, g7, g8, g9, g10, g11⟩ K hK
   refine zd0 (N := some 24) (v := .slice (some ad) e.length c0) (w1 := V) (by rfl) rfl ?_ (hK _ _ ⟨hB, g0, g1, g2, g3, g4, fun _ => rfl, g6, g7, g8, g9, g10, g11⟩)
   simp only [zap, riGo, zb2, zby, zc3, zdl, Nat.reduceBEq, Nat.reduceAdd, List.headD, List.tail, List.getD, List.getElem?_cons_zero, List.getElem?_cons_succ, Option.getD_some, cond_true, cond_false]
   go_simp
 · rintro L s_ V hu hd hn ⟨hB, g0, g1, g2, g3, g4, g5, g6, g7, g8, g9, g10, g11⟩ K hK
   refine zd0 (N := some 25) (v := .int .i64 i) (w1 := V) (by rfl) rfl ?_ (hK _ _ ⟨hB, g0, g1, g2, g3, g4, g5, fun _ => rfl, g7, g8, g9, g10, g11⟩)
   simp only [zap, riGo, zb2, zby, zc3, zdl, Nat.reduceBEq, Nat.reduceAdd, List.headD, List.tail, List.getD, List.getElem?_cons_zero, List.getElem?_cons_succ, Option.getD_some, cond_true, cond_false]
   go_simp
 · rintro L s_ V hu hd hn ⟨hB, g0, g1, g2, g3, g4, g5, g6, g7, g8, g9, g10, g11⟩ K hK
   have e5 := g5 hd.1
   have e6 := g6 hd.2
   refine zd0 (N := some 26) (v := .pointer (some (ad.add (i.toNat * 4)))) (w1 := V) (by rfl) rfl ?_ (hK _ _ ⟨hB, g0, g1, g2, g3, g4, g5, g6, fun _ => rfl, g8, g9, g10, g11⟩)
   simp only [zap, riGo, zb2, zby, zc3, zdl, Nat.reduceBEq, Nat.reduceAdd, List.headD, List.tail, List.getD, List.getElem?_cons_zero, List.getElem?_cons_succ, Option.getD_some, cond_true, cond_false]
   rw [e5, e6]
   go_simp
 · rintro L s_ V hu hd hn ⟨hB, g0, g1, g2, g3, g4, g5, g6, g7, g8, g9, g10, g11⟩ K hK
   have e7 := g7 hd.2.2
   refine zd0 (N := some 27) (v := .pointer (some ⟨(ad.add (i.toNat * 4)).block, (ad.add (i.toNat * 4)).off + 3, none⟩)) (w1 := V) (by rfl) rfl ?_ (hK _ _ ⟨hB, g0, g1, g2, g3, g4, g5, g6, g7, fun _ => rfl, g9, g10, g11⟩)
   simp only [zap, riGo, zb2, zby, zc3, zdl, Nat.reduceBEq, Nat.reduceAdd, List.headD, List.tail, List.getD, List.getElem?_cons_zero, List.getElem?_cons_succ, Option.getD_some, cond_true, cond_false]
   rw [e7]
   go_simp
 · rintro L s_ V hu hd hn ⟨hB, g0, g1, g2, g3, g4, g5, g6, g7, g8, g9, g10, g11⟩ K hK
   have e8 := g8 hd.2.2.2
   obtain ⟨ad', ea, y0, y1, y2, y3⟩ := zen (zCb HC.out (HX.out.step hB).below) i c2 c3
   cases ea
   rw [← HF3.out] at y3
   clear x0 x1 x2 x3
   refine zd0 (N := some 28) (v := .int .i64 f3) (w1 := V) (by rfl) rfl ?_ (hK _ _ ⟨hB, g0, g1, g2, g3, g4, g5, g6, g7, g8, fun _ => rfl, g10, g11⟩)
   simp only [zap, riGo, zb2, zby, zc3, zdl, Nat.reduceBEq, Nat.reduceAdd, List.headD, List.tail, List.getD, List.getElem?_cons_zero, List.getElem?_cons_succ, Option.getD_some, cond_true, cond_false]
   rw [e8]
   go_simp
 · rintro L s_ V hu hd hn ⟨hB, g0, g1, g2, g3, g4, g5, g6, g7, g8, g9, g10, g11⟩ K hK
   have e4 := g4 hd.2.2.2.2.1
   have e9 := g9 hd.2.2.2.2.2.2.2.2.2
   refine zd0 (N := some 29) (v := .agg #[.string f0, .int .i64 0, .int .i64 0, .int .i64 f3]) (w1 := V) (by rfl) rfl ?_ (hK _ _ ⟨hB, g0, g1, g2, g3, g4, g5, g6, g7, g8, g9, fun _ => rfl, g11⟩)
   simp only [zap, riGo, zb2, zby, zc3, zdl, Nat.reduceBEq, Nat.reduceAdd, List.headD, List.tail, List.getD, List.getElem?_cons_zero, List.getElem?_cons_succ, Option.getD_some, cond_true, cond_false]
   rw [e4, e9]
   go_simp
 · rintro L s_ V hu hd hn ⟨hB, g0, g1, g2, g3, g4, g5, g6, g7, g8, g9, g10, g11⟩ K hK
   refine zd0 (N := some 9) (v := .pointer (some ⟨V.heap.size, 0, none⟩)) (w1 := V.alloc (.cells #[.string ⟨#[]⟩, .int .i64 0, .int .i64 0, .int .i64 0] 72)) (by rfl) rfl ?_ (hK _ _ ⟨zba hB _, g0, g1, g2, g3, g4, g5, g6, g7, g8, g9, g10, fun _ => ⟨V.heap.size, _, rfl, zit V _, rfl, hB.size, fun h => absurd (h.symm.trans hn) (by simp)⟩⟩)
   simp only [zap, riGo, zb2, zby, zc3, zdl, Nat.reduceBEq, Nat.reduceAdd, List.headD, List.tail, List.getD, List.getElem?_cons_zero, List.getElem?_cons_succ, Option.getD_some, cond_true, cond_false]
   go_simp
 · rintro L s_ V hu hd hn ⟨hB, g0, g1, g2, g3, g4, g5, g6, g7, g8, g9, g10, g11⟩ K hK
   obtain ⟨g, cs, a1, a2, a3, a4, _⟩ := g11 hd.2.2.2.2.2.2.2.2.2.2.2
   have e10 := g10 hd.2.2.2.2.2.2.2.2.2.2.1
   have hst := ziu (P := Try.prog) (w := V) (o := 0) 72 (.agg #[.string f0, .int .i64 0, .int .i64 0, .int .i64 f3]) [.string f0, .int .i64 0, .int .i64 0, .int .i64 f3] a2 rfl rfl (by simp [a3]) (by simp [Value.oneCell'])
   refine zrs (w1 := V.setCells g 0 [.string f0, .int .i64 0, .int .i64 0, .int .i64 f3]) (by rfl) rfl ?_ (hK undef _ ⟨?_, g0, g1, g2, g3, g4, g5, g6, g7, g8, g9, g10, fun _ => ?_⟩)
   · simp only [zap, riGo, zb2, zby, zc3, zdl, Nat.reduceBEq, Nat.reduceAdd, List.headD, List.tail, List.getD, List.getElem?_cons_zero, List.getElem?_cons_succ, Option.getD_some, cond_true, cond_false]
     rw [a1, e10]
     unfold execOp
     simp only [Sem.run_bind, Sem.run_pure]
     exact (congrArg (fun r => Result.andThen r _) hst).trans rfl
   · have hs := zgf g [.string f0, .int .i64 0, .int .i64 0, .int .i64 f3] 0 V
     exact hB.trans ⟨hs.1, hs.2.1, hs.2.2.1, Nat.le_of_eq hs.2.2.2.symm, fun k hk => zf2 _ _ k (by omega)⟩
   · obtain ⟨cur', b1, b2, b3⟩ := zgv (e := 72) [.string f0, .int .i64 0, .int .i64 0, .int .i64 f3] 0 V cs a2 (by simp [a3])
     refine ⟨g, cur', a1, b1, b2.trans a3, a4, fun _ => ?_⟩
     apply Array.ext'
     have hd4 : cs.toList.drop (0 + 4) = [] := List.drop_of_length_le (by simp [a3])
     rw [b3]
     show cs.toList.take 0 ++ [.string f0, .int .i64 0, .int .i64 0, .int .i64 f3] ++ cs.toList.drop (0 + 4) = _
     rw [hd4]
     rfl
 · rintro L s_ V hL ⟨hB, g0, g1, g2, g3, g4, g5, g6, g7, g8, g9, g10, g11⟩
   obtain ⟨g, cs, a1, a2, a3, a4, a5⟩ := g11 (hL 11 rfl)
   obtain rfl := a5 (hL 12 rfl)
   have hown : some g ≠ vo.ownBlock := fun e => by
     have := Kd.R_lt HX.out.out g e.symm
     omega
   have hgb := zcp HX.out.bb
   have hgr := Kd.R_lt HX.out.nam r rfl
   have HN := zA (show ExN w0 gb r cr e.length g W vo f0 f3 s vo 0 0 V from ⟨HX.out.step hB, a2, a4, Nat.le_trans HX.out.below.size a4, ⟨by omega, by omega⟩, hown, (ShFr.refl _ _ _ _).step hB⟩)
   clear a2 a3 a4 a5 g0 g1 g2 g3 g4 g5 g6 g7 g8 g9 g10 g11 hown hgb hgr x0 x1 x2 x3 p0 p1
   obtain ⟨ad', ea, x0, x1, x2, x3⟩ := zen (zCb HC.out HN.out.x.below) i c2 c3
   cases ea
   clear hB
   simp only [zap, riGo, zb2, zby, zc3, zdl, Nat.reduceBEq, Nat.reduceAdd, List.headD, List.tail, List.getD, List.getElem?_cons_zero, List.getElem?_cons_succ, Option.getD_some, cond_true, cond_false]
   rw [a1]
   clear a1
   rw [← HF0.out] at x0
   rw [← HF3.out] at x3
   have HPS2 := zA (show zdh k f0 (zac e i).f1 (zac e i).f2 f3 = some ps by rw [HF0.out, HF3.out]; exact HPS.out)
   by_cases k1 : 0 < ps.length
   rotate_left
   · have d2 : decide ((0 : Int) < ps.length) = false := zdf (by omega)
     have d3 : decide ((1 : Int) < ps.length) = false := zdf (by omega)
     have hs1 := HS1.out
     rw [if_neg k1] at hs1
     obtain ⟨rfl, rfl⟩ := Prod.mk.inj (zsi hs1)
     have hs2 := HS2.out
     rw [if_neg (by omega)] at hs2
     obtain ⟨rfl, rfl⟩ := Prod.mk.inj (zsi hs2)
     clear hs1 hs2 HS1 HS2
     have HE2 := zA (show ((zd8 ⟨f0, 0, 0, f3⟩ s.1).1, s.2.set i.toNat (zd8 ⟨f0, 0, 0, f3⟩ s.1).2) = s' ∧ (zd8 ⟨f0, 0, 0, f3⟩ s.1).2 = x by have := HE.out; rw [← HF0.out, ← HF3.out] at this; exact this)
     clear HE
     go_wp2_with (first | (go_at_call 143; (with_reducible refine (zdx k _ _ _ _ ps _ HPS2.out).mono ?_); rintro y w1 ⟨v1, rfl, hv1, hb1⟩; obtain ⟨A1, k1, rfl⟩ := Kd.R_slice hv1; have HNn := zA (HN.out.step hb1); clear HN hv1 hb1 x0 x1 x2 x3; have HN := HNn; clear HNn; obtain ⟨ad', ea, x0, x1, x2, x3⟩ := zen (zCb HC.out HN.out.x.below) i c2 c3; cases ea; rw [← HF0.out] at x0; rw [← HF3.out] at x3; have y0 := zaf HN.out.box 0; have y1 := zaf HN.out.box 1; have y2 := zaf HN.out.box 2; have y3 := zaf HN.out.box 3) | (go_at_call 178; refine (zjx _ _ _ HN.out.x f0 0 0 f3 hsl).mono ?_; rintro y w5 ⟨v5, rfl, hX5, hF5⟩; have HX5 := zA hX5; have HF5 := zA (HN.out.fr.trans hF5); obtain ⟨p2, p3⟩ := Kd.R_celln 0 hX5.nam i c2 c3; clear HN hX5 hF5 x0 x1 x2 x3 y0 y1 y2 y3))
     go_ret
     rw [← HE2.out.1, ← HE2.out.2]
     exact ⟨rfl, _, HX5.out.setn i _, HF5.out.setn i.toNat _⟩
   have d2 : decide ((0 : Int) < ps.length) = true := zdt (by omega)
   have hs1 := HS1.out
   rw [if_pos k1] at hs1
   have HS1' := zA hs1
   by_cases k2 : 1 < ps.length
   rotate_left
   · have d3 : decide ((1 : Int) < ps.length) = false := zdf (by omega)
     have hs2 := HS2.out
     rw [if_neg k2] at hs2
     obtain ⟨rfl, rfl⟩ := Prod.mk.inj (zsi hs2)
     clear hs1 hs2 HS1 HS2
     have HE2 := zA (show ((zd8 ⟨f0, z1, 0, f3⟩ s1.1).1, s1.2.set i.toNat (zd8 ⟨f0, z1, 0, f3⟩ s1.1).2) = s' ∧ (zd8 ⟨f0, z1, 0, f3⟩ s1.1).2 = x by have := HE.out; rw [← HF0.out, ← HF3.out] at this; exact this)
     clear HE
     go_wp2_with (first | (go_at_call 143; (with_reducible refine (zdx k _ _ _ _ ps _ HPS2.out).mono ?_); rintro y w1 ⟨v1, rfl, hv1, hb1⟩; obtain ⟨A1, k1, rfl⟩ := Kd.R_slice hv1; have HNn := zA (HN.out.step hb1); clear HN hv1 hb1 x0 x1 x2 x3; have HN := HNn; clear HNn; obtain ⟨ad', ea, x0, x1, x2, x3⟩ := zen (zCb HC.out HN.out.x.below) i c2 c3; cases ea; rw [← HF0.out] at x0; rw [← HF3.out] at x3; have y0 := zaf HN.out.box 0; have y1 := zaf HN.out.box 1; have y2 := zaf HN.out.box 2; have y3 := zaf HN.out.box 3) | (go_at_call 144; refine (HIH.out (zac e i).f1 s s1 z1 _ _ HN.out.x HS1'.out).mono ?_; rintro y w2 ⟨rfl, v2, hX2, hF2⟩; have HN2 := HN.out.walked hX2 hF2; have q1 := zaf HN2.box 1; have q2 := zbu HN2.box 1; have HNn := zA (HN2.set 1 (.int .i64 z1) z1 0 rfl); clear HN HN2 hX2 hF2 x0 x1 x2 x3 y0 y1 y2 y3; have HN := HNn; clear HNn; obtain ⟨ad', ea, x0, x1, x2, x3⟩ := zen (zCb HC.out HN.out.x.below) i c2 c3; cases ea; rw [← HF0.out] at x0; rw [← HF3.out] at x3) | (go_at_call 178; refine (zjx _ _ _ HN.out.x f0 z1 0 f3 hsl).mono ?_; rintro y w5 ⟨v5, rfl, hX5, hF5⟩; have HX5 := zA hX5; have HF5 := zA (HN.out.fr.trans hF5); obtain ⟨p2, p3⟩ := Kd.R_celln 0 hX5.nam i c2 c3; clear HN hX5 hF5 x0 x1 x2 x3 y0 y1 y2 y3))
     go_ret
     rw [← HE2.out.1, ← HE2.out.2]
     exact ⟨rfl, _, HX5.out.setn i _, HF5.out.setn i.toNat _⟩
   have d3 : decide ((1 : Int) < ps.length) = true := zdt (by omega)
   have hs2 := HS2.out
   rw [if_pos k2] at hs2
   have HS2' := zA hs2
   clear hs1 hs2 HS1 HS2
   have HE2 := zA (show ((zd8 ⟨f0, z1, z2, f3⟩ s2.1).1, s2.2.set i.toNat (zd8 ⟨f0, z1, z2, f3⟩ s2.1).2) = s' ∧ (zd8 ⟨f0, z1, z2, f3⟩ s2.1).2 = x by have := HE.out; rw [← HF0.out, ← HF3.out] at this; exact this)
   clear HE
   go_wp2_with (first | (go_at_call 143; (with_reducible refine (zdx k _ _ _ _ ps _ HPS2.out).mono ?_); rintro y w1 ⟨v1, rfl, hv1, hb1⟩; obtain ⟨A1, k1, rfl⟩ := Kd.R_slice hv1; have HNn := zA (HN.out.step hb1); clear HN hv1 hb1 x0 x1 x2 x3; have HN := HNn; clear HNn; obtain ⟨ad', ea, x0, x1, x2, x3⟩ := zen (zCb HC.out HN.out.x.below) i c2 c3; cases ea; rw [← HF0.out] at x0; rw [← HF3.out] at x3; have y0 := zaf HN.out.box 0; have y1 := zaf HN.out.box 1; have y2 := zaf HN.out.box 2; have y3 := zaf HN.out.box 3) | (go_at_call 144; refine (HIH.out (zac e i).f1 s s1 z1 _ _ HN.out.x HS1'.out).mono ?_; rintro y w2 ⟨rfl, v2, hX2, hF2⟩; have HN2 := HN.out.walked hX2 hF2; have q1 := zaf HN2.box 1; have q2 := zbu HN2.box 1; have HNn := zA (HN2.set 1 (.int .i64 z1) z1 0 rfl); clear HN HN2 hX2 hF2 x0 x1 x2 x3 y0 y1 y2 y3; have HN := HNn; clear HNn; obtain ⟨ad', ea, x0, x1, x2, x3⟩ := zen (zCb HC.out HN.out.x.below) i c2 c3; cases ea; rw [← HF0.out] at x0; rw [← HF3.out] at x3) | (go_at_call 144; refine (HIH.out (zac e i).f2 s1 s2 z2 _ _ HN.out.x HS2'.out).mono ?_; rintro y w2 ⟨rfl, v2, hX2, hF2⟩; have HN2 := HN.out.walked hX2 hF2; have q1 := zaf HN2.box 2; have q2 := zbu HN2.box 2; have HNn := zA (HN2.set 2 (.int .i64 z2) z1 z2 rfl); clear HN HN2 hX2 hF2 x0 x1 x2 x3 y0 y1 y2 y3; have HN := HNn; clear HNn; obtain ⟨ad', ea, x0, x1, x2, x3⟩ := zen (zCb HC.out HN.out.x.below) i c2 c3; cases ea; rw [← HF0.out] at x0; rw [← HF3.out] at x3; have y0 := zaf HN.out.box 0; have y1 := zaf HN.out.box 1; have y2 := zaf HN.out.box 2; have y3 := zaf HN.out.box 3) | (go_at_call 178; refine (zjx _ _ _ HN.out.x f0 z1 z2 f3 hsl).mono ?_; rintro y w5 ⟨v5, rfl, hX5, hF5⟩; have HX5 := zA hX5; have HF5 := zA (HN.out.fr.trans hF5); obtain ⟨p2, p3⟩ := Kd.R_celln 0 hX5.nam i c2 c3; clear HN hX5 hF5 x0 x1 x2 x3 y0 y1 y2 y3))
   go_ret
   rw [← HE2.out.1, ← HE2.out.2]
   exact ⟨rfl, _, HX5.out.setn i _, HF5.out.setn i.toNat _⟩
theorem exSet (n u : Nat) (h : u < n) : (List.replicate u (-1 : Int) ++ List.replicate (n - u) 0).set u (-1) = List.replicate (u + 1) (-1) ++ List.replicate (n - (u + 1)) 0 := by
 rw [show n - u = (n - (u + 1)) + 1 by omega, List.replicate_succ, List.set_append_right _ _ (by simp)]
 simp only [List.length_replicate, Nat.sub_self, List.set_cons_zero]
 rw [List.replicate_succ', List.append_assoc, List.singleton_append]
def zdj (k : Nat) (l0 : List S72) : Option (List S72) := if 0 < l0.length ∧ l0.length ≤ 1048576 then (exW k l0 k ((l0.length : Int) - 1) ([], List.replicate l0.length (-1))).bind fun z => some z.1.1 else none
set_option maxHeartbeats 4000000 in
set_option maxRecDepth 100000 in
theorem zkf (k : Nat) (A0 : Option Addr) (c0 : Nat) (l0 : List S72) (r : List S72) (w : World) (hr0 : Kd.C k72 w A0 l0.length l0) (hc0 : l0.length ≤ c0) (h : zdj k l0 = some r) :
   Calls Try.prog 95 #[.slice A0 l0.length c0] w fun e w' => ∃ v0_ : Value, e = .returned (v0_) ∧ Kd.R k72 72 w' w.heap.size (fun _ => True) v0_ r ∧ Below w.heap.size w w' := by
 unfold zdj at h
 by_cases hl : 0 < l0.length ∧ l0.length ≤ 1048576
 rotate_left
 · rw [if_neg hl] at h
   cases h
 rw [if_pos hl] at h
 obtain ⟨⟨s, z⟩, hs, h⟩ := Option.bind_eq_some_iff.1 h
 obtain rfl := zsi h
 have HS := zA hs
 have HR := zA hr0
 have HC := zA hc0
 clear h hs hr0 hc0
 have k1 : (0 : Int) ≤ l0.length := by omega
 go_enter Try.func95, Try.ntmps95
 go_wp2_with (first
   | ((with_reducible refine zar (N := 7) rfl ?_); refine zat ?hg (N := 7) ?hd (cs := #[.slice none 0 0, .bool true]) (t := 147) ?hr ?_; (case hd => rfl); (case hg => rfl); (case hr => go_simp <;> rfl); intro gb hg w4 hbox hb; have BB := zA hbox; have HGB := zA (show w.heap.size ≤ gb from Nat.le_of_eq hg.symm); have HB := zA hb; clear hg hbox hb)
   | ((with_reducible refine zar (N := 10) rfl ?_); refine Kd.R_make (Kd.int .i64) (w0 := w) w.heap.size 3 rfl (N := 10) rfl 51 _ _ rfl (l0.length : Int) rfl rfl Try.underlying51 (.int .i64 0) 8 zlp rfl (by decide) (by omega) 0 (ok := fun _ => True) (okp := fun _ => True) rfl (fun _ hk => hk) trivial k1 (by omega) HB.out HB.out.size ?_; intro v5 w5 ho hb hgr hnew; rw [Int.toNat_natCast] at ho; obtain ⟨r, cr, e5, hrb, _⟩ := Kd.R_form ho (by rw [List.length_replicate]; exact hl.1); rw [List.length_replicate] at e5; subst e5; have HO := zA ho; have BB5 := zA ((hgr.block gb (zcp BB.out) (by simp)).trans BB.out); have RNE := zA (show r ≠ gb from by obtain ⟨b, e, hb2⟩ := hnew; have hlt := zcp BB.out; have : r = b := (by simpa [Value.ownBlock] using e); omega); have HB5 := zA hb; clear ho hb hgr hnew hrb BB HB))
 go_loopw [5, 13] (fun v5 v13 wr => ∃ u : Nat, v13 = .int .i64 (u : Int) ∧ u ≤ l0.length ∧ Aside0 (wr.heap[gb]? = some (.cells #[.slice none 0 0, .bool true] 147 (0, 0))) ∧ Aside0 (Below w.heap.size w wr) ∧
   Aside0 (Kd.R (Kd.int .i64) 3 wr w.heap.size (fun _ => True) (.slice (some ⟨r, 0, none⟩) l0.length cr) (List.replicate u (-1) ++ List.replicate (l0.length - u) 0))) (fun _ v13 _ => l0.length - (intOf v13).toNat)
 case atStart => exact ⟨0, rfl, Nat.zero_le _, BB5, HB5, HO⟩
 clear BB5 HB5 HO
 obtain ⟨u, rfl, hu, BBr, HBr, HOr⟩ := hrel
 by_cases hlt : u < l0.length
 · have d1 : decide ((u : Int) < l0.length) = true := zdt (by omega)
   have d2 : (0 : Int) ≤ (u : Int) := by omega
   have d3 : (u : Int) < l0.length := by omega
   obtain ⟨p2, p3⟩ := Kd.R_celln 0 HOr.out (u : Int) d2 d3
   rw [Int.toNat_natCast] at p2 p3
   go_wp2_with fail
   go_roundw
   case rel =>
     have hp := Kd.R_putn HOr.out (u : Int) (-1)
     rw [Int.toNat_natCast, exSet l0.length u hlt] at hp
     exact ⟨u + 1, by go_num, by omega, ⟨zav BBr.out (fun e => RNE.out (by simpa using e.symm)) _⟩, ⟨HBr.out.setCell (p := ⟨r, u, none⟩) (Kd.R_base HOr.out r rfl) _⟩, ⟨hp⟩⟩
   case measure => simp [intOf]; omega
 obtain rfl : u = l0.length := by omega
 have d1 : decide ((l0.length : Int) < l0.length) = false := zdf (by omega)
 have ho := HOr.out
 rw [Nat.sub_self, List.replicate_zero, List.append_nil] at ho
 have HX := zA (show ExX w gb r cr l0.length ([], List.replicate l0.length (-1)) (.slice none 0 0) wr from ⟨HBr.out, BBr.out, HGB.out, Kd.R_nil _ _ _ _ _, RNE.out, by
   have hv : (Kd.int .i64).R 3 wr w.heap.size (fun _ => True) (.slice (some ⟨r, 0, none⟩) (List.replicate l0.length (-1 : Int)).length cr) (List.replicate l0.length (-1)) := by rw [List.length_replicate]; exact ho
   have hw := Kd.R_of_own (h1 := fun _ => rfl) (Kd.own_of_R hv) (ok := fun k => k = r) (fun k hk => by simpa [Value.ownBlock] using hk.symm)
   rw [List.length_replicate] at hw
   exact hw⟩)
 clear ho HOr BBr HBr
 go_wp2_with (go_at_call 144; refine (zu5 k HR.out k _ _ s z _ _ HX.out HS.out).mono ?_; rintro y w6 ⟨rfl, v6, hX6, hF6⟩; obtain ⟨A6, c6, e6⟩ := Kd.R_slice hX6.out; subst e6; have q6 := zaf hX6.bb 0; have HX6 := zA hX6; clear hX6 hF6)
 go_ret
 exact ⟨_, rfl, Kd.R_mono HX6.out.out (fun _ _ => trivial), HX6.out.below⟩
theorem znt (k : Nat) (e : List S72) : ∀ (d : Nat) (i : Int) (s : List S72 × List Int), LeO (exW k e d i s) (exW (k + 1) e (d + 1) i s)
 | 0, _, _ => LeO.none _
 | d + 1, i, s => by
   unfold exW
   exact zai (zai (LeO.refl _) (LeO.bind (zdc _ _ _ _ _) (fun ps => zai (LeO.bind (zai (znt k e d _ _) (LeO.refl _)) (fun r1 => LeO.bind (zai (znt k e d _ _) (LeO.refl _)) (fun r2 => LeO.refl _))) (LeO.refl _)))) (LeO.refl _)
theorem zlf : ∀ a0 k, LeO (zdj k a0) (zdj (k + 1) a0) := by
 intro a0 k
 unfold zdj
 exact zai (LeO.bind (znt _ _ _ _ _) (fun _ => LeO.refl _)) (LeO.refl _)
end Go.Proofs.Ytkfkbmlbpeojaaa.Q
end
section
namespace Go.Proofs.Ytkfkbmlbpeojaaa.Q
open Go.RowKit Go.Proofs.YtkfkbmlbpeojaaaW.PrintWords Go.Proofs.YtkfkbmlbpeojaaaW.PrintLast Go.Proofs.YtkfkbmlbpeojaaaW.PrintMore
attribute [local go_sem] zcz zc0 zd1 zd2 zcl zcm zc1 zc2
set_option linter.unusedVariables false
set_option linter.unusedSimpArgs false
def zbo (l0 : List (S72)) (a1_0 : ByteArray) (a1_1 : Int) (a1_2 : Int) (a1_3 : Int) : Option ((List (S72)) × Int) := if l0.length < 3518437208883 then (some ((l0 ++ [(⟨a1_0, a1_1, a1_2, a1_3⟩ : S72)]), (l0.length : Int))) else (none)
set_option maxHeartbeats 8000000 in
set_option maxRecDepth 100000 in
theorem zdr (P0_ : Nat → Prop) (u9000_ : Value) (l0 : List (S72)) (a1_0 : ByteArray) (a1_1 : Int) (a1_2 : Int) (a1_3 : Int) (r1 : List (S72)) (r2 : Int) (w0 w : World) (hB : Below w0.heap.size w0 w) (ho0 : Kd.R k72 72 w w0.heap.size P0_ u9000_ l0) (h : zbo l0 a1_0 a1_1 a1_2 a1_3 = some (r1, r2)) :
   Calls Try.prog 164 #[u9000_, .agg #[.string a1_0, .int .i64 a1_1, .int .i64 a1_2, .int .i64 a1_3]] w fun e w' => ∃ v0_ : Value, e = .returned (.tuple #[v0_, .int .i64 r2]) ∧ Kd.R k72 72 w' w0.heap.size (fun k_ => (P0_ k_ ∨ w.heap.size ≤ k_)) v0_ r1 ∧ Below w0.heap.size w0 w' ∧ Kept w w' (fun k_ => P0_ k_) := by
 obtain ⟨A9_, c9_, rfl⟩ := Kd.R_slice ho0
 have hu72 := Try.underlying72
 have HO0 := zA (show Kd.R k72 72 w w0.heap.size (fun k_ => (P0_ k_ ∨ w.heap.size ≤ k_)) (.slice A9_ l0.length c9_) l0 from Kd.R_mono ho0 (fun k_ hk => (.inl hk)))
 have HK := zA (Kept.refl w (fun k_ => P0_ k_))
 have HW0 := zA hB.size
 have HB := zA hB
 clear hB
 have H : (if l0.length < 3518437208883 then (some ((l0 ++ [(⟨a1_0, a1_1, a1_2, a1_3⟩ : S72)]), (l0.length : Int))) else (none)) = some (r1, r2) := h
 clear h
 by_cases c3 : l0.length < 3518437208883
 · rw [if_pos c3] at H
   have LMc3 := zA c3
   clear c3
   obtain ⟨y102, hy102⟩ : ∃ y_ : List (S72), y_ = (l0 ++ [(⟨a1_0, a1_1, a1_2, a1_3⟩ : S72)]) := ⟨_, rfl⟩
   replace H : (some (y102, (l0.length : Int))) = some (r1, r2) := by first | (rw [hy102]; with_reducible exact H) | (have H2_ := (Option.bind_some _ _).symm.trans H; rw [hy102]; with_reducible exact H2_) | (have H2_ := (Option.bind_some _ _).symm.trans H; with_reducible exact H2_) | with_reducible exact H | (rw [hy102]; exact H) | exact H
   have Ny102 := zA hy102
   clear hy102
   simp only [Option.some.injEq, Prod.mk.injEq] at H
   obtain ⟨rfl, rfl⟩ := H
   go_enter Try.func164, Try.ntmps164
   go_wp2_with (first | ((with_reducible refine zar (N := 3) rfl ?_); refine zat ?hg (N := 3) ?hd (cs := #[.string a1_0, .int .i64 a1_1, .int .i64 a1_2, .int .i64 a1_3]) (t := 72) ?hr ?_; (case hd => rfl); (case hg => rfl); (case hr => go_simp <;> rfl); intro gb101 hg w4 hbox hb; have n0_ := zA (zRb (Kd.R_elderB (by (with_reducible repeat (first | apply zRa | apply zRn | apply zRd)); exact HO0.out) gb101 (Nat.le_of_eq hg.symm)) hb); have n1_ := zA (Kept.below (S := (fun k_ => P0_ k_)) (by repeat (first | (with_reducible first | exact HK.out | apply Kept.alloc | apply Kept.drewN | apply Kept.drew) | exact HK.out)) hb); have n2_ := zA (zag (by repeat (first | (with_reducible first | exact HB.out | apply zba | apply zbn | apply zbd) | exact HB.out)) hb); have n3_ := zA (hbox); have n4_ := zA ((by rw [hg]; exact (by first | exact HK.out.1 | exact (show Kept w _ (fun k_ => P0_ k_) from by repeat (first | (with_reducible first | exact HK.out | apply Kept.alloc | apply Kept.drewN | apply Kept.drew) | exact HK.out)).1) : w.heap.size ≤ gb101)); have n5_ := zA ((by rw [hg]; exact (za0 (by repeat (first | (with_reducible first | exact HB.out | apply zba | apply zbn | apply zbd) | exact HB.out))) : w0.heap.size ≤ gb101)); clear HO0; clear HK; clear HB; have HO0 := n0_; have HK := n1_; have HB := n2_; have BK101 := n3_; have GW101 := n4_; have GE101 := n5_; clear n0_ n1_ n2_ n3_ n4_ n5_; clear hb hbox hg; obtain ⟨hcz5_0, hcz5_1, hcz5_2, hcz5_3⟩ := zc4 w4 (.string a1_0) (.int .i64 a1_1) (.int .i64 a1_2) (.int .i64 a1_3) BK101.out; obtain ⟨hfz5_0, hfz5_1, hfz5_2, hfz5_3⟩ := zf4 BK101.out) | ((with_reducible refine zf1 (b := .append) (xs := #[.tmp 6, .tmp 8]) rfl ?_); at_builtin; refine Kd.R_append k72 (w0 := w0) w0.heap.size rfl (.tmp 6) (.tmp 8) 24 72 (.agg #[(.string ⟨#[]⟩), (.int .i64 0), (.int .i64 0), (.int .i64 0)]) 40 rfl Try.underlying24 znb rfl (by decide) (by omega) (.slice A9_ l0.length c9_) l0 (⟨a1_0, a1_1, a1_2, a1_3⟩ : S72) [.string a1_0, .int .i64 a1_1, .int .i64 a1_2, .int .i64 a1_3] (fun k_ => (P0_ k_ ∨ w.heap.size ≤ k_) ∧ k_ ≠ gb101) (fun _ => False) rfl rfl ?aP (fun _ hk => hk.elim) ?aF ?aO ?aB ?aS ?aL ?_; (case aP => exact zfr _ _ _ (⟨a1_0, a1_1, a1_2, a1_3⟩ : S72)); (case aB => exact (by repeat (first | (with_reducible first | exact HB.out | apply zba | apply zbn | apply zbd | refine zab ?_ GE101.out) | exact HB.out))); (case aF => exact (fun k_ hk => ⟨(.inr (Nat.le_trans (by first | exact HK.out.1 | exact (show Kept w _ (fun k_ => P0_ k_) from by repeat (first | (with_reducible first | exact HK.out | apply Kept.alloc | apply Kept.drewN | apply Kept.drew | refine Kept.setCell ?_ (.inr GW101.out) _) | exact HK.out)).1) hk)), Kd.freshB (g := gb101) (o := .cells #[.string a1_0, .int .i64 a1_1, .int .i64 a1_2, .int .i64 a1_3] 72 (0, 0)) (by (with_reducible repeat (first | refine zkn ?_ _ | refine zkd ?_ | refine zka ?_ _)); exact BK101.out) k_ hk⟩)); (case aO => exact (by (with_reducible repeat (first | apply zRa | apply zRn | apply zRd)); exact HO0.out)); (case aS => exact (za0 (by repeat (first | (with_reducible first | exact HB.out | apply zba | apply zbn | apply zbd | refine zab ?_ GE101.out) | exact HB.out)))); (case aL => have := LMc3.out; omega); intro v103 w6 ho hb hg hat; rw [← Ny102.out] at ho; have n0_ := zA (zed (g := gb101) (o := .cells #[.string a1_0, .int .i64 a1_1, .int .i64 a1_2, .int .i64 a1_3] 72 (0, 0)) (by (with_reducible repeat (first | refine zkn ?_ _ | refine zkd ?_ | refine zka ?_ _)); exact BK101.out) hg (Kd.R_away HO0.out (fun _ hk => hk.2))); have n1_ := zA (hb); have n2_ := zA (zeb (S := (fun k_ => P0_ k_)) hg (by repeat (first | (with_reducible first | exact HK.out | apply Kept.alloc | apply Kept.drewN | apply Kept.drew | refine Kept.setCell ?_ (.inr GW101.out) _) | exact HK.out)) (fun k_ e_ => (HO0.out.1 k_ e_).1)); have n3_ := zA (ho); clear BK101 HB; clear HK; clear HO0; have BK101 := n0_; have HB := n1_; have HK := n2_; have HO104 := n3_; clear n0_ n1_ n2_ n3_; clear ho hb hg hat))
   go_ret2
   exact ⟨_, by first | rfl | (simp [zad, zae] <;> rfl) | (simp [*, zad, zae] <;> rfl), by (with_reducible repeat (first | apply zRa | apply zRn | apply zRd)); exact Kd.R_mono HO104.out (fun _ hk => hk.1), by repeat (first | (with_reducible first | exact HB.out | apply zba | apply zbn | apply zbd | refine zab ?_ GE101.out) | exact HB.out), by repeat (first | (with_reducible first | exact HK.out | apply Kept.alloc | apply Kept.drewN | apply Kept.drew | refine Kept.setCell ?_ (.inr GW101.out) _) | exact HK.out)⟩
 · rw [if_neg c3] at H
   exact absurd H (by simp)
end Go.Proofs.Ytkfkbmlbpeojaaa.Q
end
