/- Proved here: contracts of functions that the law FnExactPlainSymbol reaches, and lemmas on what they compute; texts of this session and the printed words of the kit that they lean on, cut down and put together by its program link.py. Conditions: as each states. -/
import Derived.Deep.CutRange
import Derived.Deep.DeepMust
import Derived.Laws.EntriesVeiled
import Derived.Test.YtkfkbmlbpeojaaaZFnExactPlainSymbol1
import Derived.Test.YtkfkbmlbpeojaaaZFnExactPlainSymbol2
import Derived.Test.YtkfkbmlbpeojaaaZFnExactPlainSymbol3
section
namespace Go.Proofs.Ytkfkbmlbpeojaaa.Q
open Go.RowKit Go.Proofs.YtkfkbmlbpeojaaaW.PrintWords Go.Proofs.YtkfkbmlbpeojaaaW.PrintLast Go.Proofs.YtkfkbmlbpeojaaaW.PrintMore
attribute [local go_sem] zcs zct zdo zdp zb2 zb3 zcu zcv
set_option linter.unusedVariables false
set_option linter.unusedSimpArgs false
def zi0  : Option (List ByteArray) := some (([(⟨#[97, 100, 100]⟩ : ByteArray), (⟨#[115, 117, 98]⟩ : ByteArray), (⟨#[109, 117, 108]⟩ : ByteArray), (⟨#[97, 110, 100]⟩ : ByteArray), (⟨#[111, 114]⟩ : ByteArray), (⟨#[120, 111, 114]⟩ : ByteArray), (⟨#[115, 104, 108]⟩ : ByteArray), (⟨#[115, 104, 114]⟩ : ByteArray), (⟨#[108, 101, 115, 115]⟩ : ByteArray), (⟨#[101, 113]⟩ : ByteArray)] : List ByteArray))
set_option maxHeartbeats 8000000 in
set_option maxRecDepth 100000 in
theorem zn3  (r : List ByteArray) (w : World) (h : zi0  = some r) :
   Calls Try.prog 177 #[] w fun e w' => ∃ v0_ : Value, e = .returned (v0_) ∧ Kd.R Kd.string 9 w' w.heap.size (fun _ => True) v0_ r ∧ Below w.heap.size w w' := by
 have HB := zA (Below.refl w.heap.size w)
 have H : (some (([(⟨#[97, 100, 100]⟩ : ByteArray), (⟨#[115, 117, 98]⟩ : ByteArray), (⟨#[109, 117, 108]⟩ : ByteArray), (⟨#[97, 110, 100]⟩ : ByteArray), (⟨#[111, 114]⟩ : ByteArray), (⟨#[120, 111, 114]⟩ : ByteArray), (⟨#[115, 104, 108]⟩ : ByteArray), (⟨#[115, 104, 114]⟩ : ByteArray), (⟨#[108, 101, 115, 115]⟩ : ByteArray), (⟨#[101, 113]⟩ : ByteArray)] : List ByteArray))) = some r := h
 clear h
 obtain ⟨y101, hy101⟩ : ∃ y_ : List ByteArray, y_ = (([(⟨#[97, 100, 100]⟩ : ByteArray), (⟨#[115, 117, 98]⟩ : ByteArray), (⟨#[109, 117, 108]⟩ : ByteArray), (⟨#[97, 110, 100]⟩ : ByteArray), (⟨#[111, 114]⟩ : ByteArray), (⟨#[120, 111, 114]⟩ : ByteArray), (⟨#[115, 104, 108]⟩ : ByteArray), (⟨#[115, 104, 114]⟩ : ByteArray), (⟨#[108, 101, 115, 115]⟩ : ByteArray), (⟨#[101, 113]⟩ : ByteArray)] : List ByteArray)) := ⟨_, rfl⟩
 replace H : (some y101) = some r := by first | (rw [hy101]; with_reducible exact H) | (have H2_ := (Option.bind_some _ _).symm.trans H; rw [hy101]; with_reducible exact H2_) | (have H2_ := (Option.bind_some _ _).symm.trans H; with_reducible exact H2_) | with_reducible exact H | (rw [hy101]; exact H) | exact H
 have Ny101 := zA hy101
 clear hy101
 obtain rfl := zsi H
 go_enter Try.func177, Try.ntmps177
 go_wp2_with (first | ((with_reducible refine zgd 1 ?_); refine Kd.R_lit Kd.string _ 9 ?hg (N := 1) ?hd (xs := ([(⟨#[97, 100, 100]⟩ : ByteArray), (⟨#[115, 117, 98]⟩ : ByteArray), (⟨#[109, 117, 108]⟩ : ByteArray), (⟨#[97, 110, 100]⟩ : ByteArray), (⟨#[111, 114]⟩ : ByteArray), (⟨#[120, 111, 114]⟩ : ByteArray), (⟨#[115, 104, 108]⟩ : ByteArray), (⟨#[115, 104, 114]⟩ : ByteArray), (⟨#[108, 101, 115, 115]⟩ : ByteArray), (⟨#[101, 113]⟩ : ByteArray)] : List ByteArray)) (inner := [.string (⟨#[97, 100, 100]⟩ : ByteArray), .string (⟨#[115, 117, 98]⟩ : ByteArray), .string (⟨#[109, 117, 108]⟩ : ByteArray), .string (⟨#[97, 110, 100]⟩ : ByteArray), .string (⟨#[111, 114]⟩ : ByteArray), .string (⟨#[120, 111, 114]⟩ : ByteArray), .string (⟨#[115, 104, 108]⟩ : ByteArray), .string (⟨#[115, 104, 114]⟩ : ByteArray), .string (⟨#[108, 101, 115, 115]⟩ : ByteArray), .string (⟨#[101, 113]⟩ : ByteArray)]) (ok := fun _ => True) (okp := fun _ => True) ?hr ?hp (fun _ hk => hk) trivial (Below.refl _ _) (zlr _) (by simp) ?_; (case hd => rfl); (case hg => rfl); (case hr => go_simp <;> rfl); (case hp => exact (zau (show Kd.M Kd.string _ _ _ (⟨#[97, 100, 100]⟩ : ByteArray) [.string (⟨#[97, 100, 100]⟩ : ByteArray)] from rfl) (zau (show Kd.M Kd.string _ _ _ (⟨#[115, 117, 98]⟩ : ByteArray) [.string (⟨#[115, 117, 98]⟩ : ByteArray)] from rfl) (zau (show Kd.M Kd.string _ _ _ (⟨#[109, 117, 108]⟩ : ByteArray) [.string (⟨#[109, 117, 108]⟩ : ByteArray)] from rfl) (zau (show Kd.M Kd.string _ _ _ (⟨#[97, 110, 100]⟩ : ByteArray) [.string (⟨#[97, 110, 100]⟩ : ByteArray)] from rfl) (zau (show Kd.M Kd.string _ _ _ (⟨#[111, 114]⟩ : ByteArray) [.string (⟨#[111, 114]⟩ : ByteArray)] from rfl) (zau (show Kd.M Kd.string _ _ _ (⟨#[120, 111, 114]⟩ : ByteArray) [.string (⟨#[120, 111, 114]⟩ : ByteArray)] from rfl) (zau (show Kd.M Kd.string _ _ _ (⟨#[115, 104, 108]⟩ : ByteArray) [.string (⟨#[115, 104, 108]⟩ : ByteArray)] from rfl) (zau (show Kd.M Kd.string _ _ _ (⟨#[115, 104, 114]⟩ : ByteArray) [.string (⟨#[115, 104, 114]⟩ : ByteArray)] from rfl) (zau (show Kd.M Kd.string _ _ _ (⟨#[108, 101, 115, 115]⟩ : ByteArray) [.string (⟨#[108, 101, 115, 115]⟩ : ByteArray)] from rfl) (zau (show Kd.M Kd.string _ _ _ (⟨#[101, 113]⟩ : ByteArray) [.string (⟨#[101, 113]⟩ : ByteArray)] from rfl) (Reps.none _ _)))))))))))); intro v102 w1 ho2 hb hg_ hnew_; clear hg_ hnew_; (first | rw [← Ny101.out] at ho2 | (simp only [Int.reduceToNat] at ho2; rw [← Ny101.out] at ho2)); have HO103 := zA (Kd.R_lower ho2 (zar zq1)); replace HB := zA (zad zq1 hb); clear hb ho2))
 go_ret
 exact ⟨_, zq4, zq3 HO103, zq1⟩
def zc1 : Nat → ByteArray → List ByteArray → Int → Int → Option (Bool)
 | 0, _, _, _, _ => none
 | k + 1, x1, x7, x8, x9 => if x9 < x8 then (if 0 ≤ x9 then (if x9 < (x7.length : Int) then (if (rdOf ByteArray.empty x7 x9).toList = x1.toList then (some true) else (zc1 k x1 x7 x8 (wrap64 (x9 + 1)))) else (none)) else (none)) else (some false)
def zdr (k : Nat) (l0 : List ByteArray) (a1 : ByteArray) : Option (Bool) := zc1 k a1 l0 (l0.length : Int) 0
theorem zi1 : ∀ k, (∀ y0 y1 y2 y3, LeO (zc1 k y0 y1 y2 y3) (zc1 (k + 1) y0 y1 y2 y3))
 | 0 => fun _ _ _ _ r h => by simp [zc1] at h
 | k + 1 => by
   have ih0 := zi1 k
   · intro y0 y1 y2 y3
     unfold zc1
     exact zm1 ih0
theorem zj6 : ∀ a0 a1 k, LeO (zdr k a0 a1) (zdr (k + 1) a0 a1) := by
 intro a0 a1 k
 have ih0 := zi1 k
 unfold zdr
 exact zm1 ih0
set_option maxHeartbeats 8000000 in
set_option maxRecDepth 100000 in
theorem zjo (k : Nat) (A0 : Option Addr) (c0 : Nat) (l0 : List ByteArray) (a1 : ByteArray) (r : Bool) (w : World) (hr0 : Kd.C Kd.string w A0 l0.length l0) (hc0 : l0.length ≤ c0) (h : zdr k l0 a1 = some r) :
   Calls Try.prog 126 #[.slice A0 l0.length c0, .string a1] w fun e w' => e = .returned (.bool r) ∧ Drawn0 w w' := by
 have HR0 := zA hr0
 have HC0 := zA hc0
 clear hr0 hc0
 have H : (zc1 k a1 l0 (l0.length : Int) 0) = some r := h
 clear h
 have H' := zA H
 clear H
 go_enter Try.func126, Try.ntmps126
 go_wp2
 go_loopg [9] k (fun kq v9 w' => ∃ (x9_1 : Int), v9 = .int .i64 x9_1 ∧ Aside0 (zc1 kq a1 l0 (l0.length : Int) x9_1 = some r) ∧ Aside0 (kq ≤ k) ∧ Drawn0 w w')
 case atStart => exact ⟨(0), zq6, H', ⟨zlr _⟩, zq7⟩
 clear H'
 try clear c1
 try clear p2
 obtain ⟨x9_1, rfl, HA, HK1, ⟨m1, rfl⟩⟩ := hrel
 cases gk with
 | zero => exact absurd HA.out (by simp [zc1])
 | succ k1 =>
 have H := HA.out
 clear HA
 simp only [zc1] at H
 revert H
 refine zit (fun c3 H => ?_) fun c3 H => ?_
 rotate_left
 · obtain rfl := zsi H
   go_wp2
   go_ret
   exact ⟨zq6, zq7⟩
 revert H
 refine zin fun c4 H => ?_
 revert H
 refine zin fun c5 H => ?_
 by_cases c6 : (rdOf ByteArray.empty l0 x9_1).toList = a1.toList
 · rw [if_pos c6] at H
   have c6b0 := beq_iff_eq.mpr c6
   have c6b1 := bne_eq_false_iff_eq.mpr c6
   clear c6
   obtain rfl := zsi H
   have p101 : 0 ≤ (x9_1 : Int) := zde zq16
   have q101 : x9_1 < (l0.length : Int) := zde zq16
   obtain ⟨ad101, e101, hx101_0⟩ := Kd.at_string HR0.out x9_1 p101 q101
   cases e101
   replace p101 := eq_true p101
   replace q101 := eq_true q101
   go_wp2
   go_ret
   exact ⟨zq6, zq7⟩
 rw [if_neg c6] at H
 have c6b0 := beq_eq_false_iff_ne.mpr c6
 have c6b1 := bne_iff_ne.mpr c6
 have H' := zA H
 clear H
 have p101 : 0 ≤ (x9_1 : Int) := zde zq16
 have q101 : x9_1 < (l0.length : Int) := zde zq16
 obtain ⟨ad101, e101, hx101_0⟩ := Kd.at_string HR0.out x9_1 p101 q101
 cases e101
 replace p101 := eq_true p101
 replace q101 := eq_true q101
 go_wp2
 go_roundg k1
 case measure => have := HK1.out; omega
 case rel => exact ⟨(wrap64 (x9_1 + 1)), zq6, H', ⟨zq38 HK1⟩, zq7⟩
def zdl (k : Nat) (a0 : ByteArray) : Option (Bool) := (zi0).bind fun t101 => ((zdr k t101 a0).bind fun t104 => (some t104))
theorem zko : ∀ a0 k, LeO (zdl k a0) (zdl (k + 1) a0) := by
 intro a0 k
 unfold zdl
 exact zm1 zj6
set_option maxHeartbeats 8000000 in
set_option maxRecDepth 100000 in
theorem ze3 (k : Nat) (a0 : ByteArray) (r : Bool) (w : World) (h : zdl k a0 = some r) :
   Calls Try.prog 142 #[.string a0] w fun e w' => e = .returned (.bool r) ∧ Below w.heap.size w w' := by
 have HB := zA (Below.refl w.heap.size w)
 have H : ((zi0).bind fun t101 => ((zdr k t101 a0).bind fun t104 => (some t104))) = some r := h
 clear h
 replace H := zob H
 obtain ⟨t101, A20, H⟩ := H
 replace H : ((zdr k t101 a0).bind fun t104 => (some t104)) = some r := H
 have A2 := zA A20
 clear A20
 replace H := zob H
 obtain ⟨t104, A30, H⟩ := H
 replace H : (some t104) = some r := H
 have A3 := zA A30
 clear A30
 obtain rfl := zsi H
 go_enter Try.func142, Try.ntmps142
 go_wp2_with (first | ((with_reducible refine zgc 177 ?_); refine zcl 3 Try.func177 (zn3  t101 _ A2.out) ?_; rintro e w4 ⟨v102, rfl, ho0, hb⟩; refine ⟨_, rfl, ?_⟩; have HO103 := zA (Kd.R_lower ho0 (zar zq1)); replace HB := zA (zad zq1 hb); (try clear hb); (try clear ho0); obtain ⟨Ao5, co5, eo5⟩ := Kd.R_slice HO103.out; subst eo5) | ((with_reducible refine zax (f := 126) rfl ?_); refine zdu (some 5) rfl rfl Try.func126 zq23 rfl #[.slice Ao5 t101.length co5, .string a0] rfl zq9 ?_; (with_reducible refine (zjo k _ _ t101 a0 t104 _ ?side1 ?side2 A3.out).mono ?_); (case side1 => repeat (first | exact (zRr HO103.out).2.2 | (with_reducible first | refine zCa ?_ _ | refine zCn ?_ _ | refine zCd ?_))); (case side2 => exact (zRr HO103.out).2.1); rintro e w' ⟨rfl, ⟨nd, rfl⟩⟩; refine ⟨_, rfl, ?_⟩))
 go_ret
 exact ⟨zq4, zq1⟩
def zcq (k : Nat) (a0_0 : ByteArray) (a0_1 : Int) (a0_2 : Int) (a0_3 : Int) : Option (List Int) := (zgb a0_0).bind fun t102 => (if t102 = true then (some (([a0_1] : List Int))) else ((zdl k a0_0).bind fun t106 => (if t106 = true then (some (([a0_1, a0_2] : List Int))) else (some ([] : List Int)))))
theorem zce : ∀ a0 a1 a2 a3 k, LeO (zcq k a0 a1 a2 a3) (zcq (k + 1) a0 a1 a2 a3) := by
 intro a0 a1 a2 a3 k
 unfold zcq
 exact zm1 zko
set_option maxHeartbeats 8000000 in
set_option maxRecDepth 100000 in
theorem zcr (k : Nat) (a0_0 : ByteArray) (a0_1 : Int) (a0_2 : Int) (a0_3 : Int) (r : List Int) (w : World) (h : zcq k a0_0 a0_1 a0_2 a0_3 = some r) :
   Calls Try.prog 143 #[.agg #[.string a0_0, .int .i64 a0_1, .int .i64 a0_2, .int .i64 a0_3]] w fun e w' => ∃ v0_ : Value, e = .returned (v0_) ∧ Kd.R (Kd.int .i64) 3 w' w.heap.size (fun _ => True) v0_ r ∧ Below w.heap.size w w' := by
 have hu72 := Try.underlying72
 have HB := zA (Below.refl w.heap.size w)
 have H : ((zgb a0_0).bind fun t102 => (if t102 = true then (some (([a0_1] : List Int))) else ((zdl k a0_0).bind fun t106 => (if t106 = true then (some (([a0_1, a0_2] : List Int))) else (some ([] : List Int)))))) = some r := h
 clear h
 replace H := zob H
 obtain ⟨t102, A20, H⟩ := H
 replace H : (if t102 = true then (some (([a0_1] : List Int))) else ((zdl k a0_0).bind fun t106 => (if t106 = true then (some (([a0_1, a0_2] : List Int))) else (some ([] : List Int))))) = some r := H
 have A2 := zA A20
 clear A20
 by_cases c3 : t102 = true
 · subst c3
   replace H : (some (([a0_1] : List Int))) = some r := by rw [if_pos rfl] at H; exact H
   obtain ⟨y103, hy103⟩ : ∃ y_ : List Int, y_ = (([a0_1] : List Int)) := ⟨_, rfl⟩
   replace H : (some y103) = some r := by first | (rw [hy103]; with_reducible exact H) | (have H2_ := (Option.bind_some _ _).symm.trans H; rw [hy103]; with_reducible exact H2_) | (have H2_ := (Option.bind_some _ _).symm.trans H; with_reducible exact H2_) | with_reducible exact H | (rw [hy103]; exact H) | exact H
   have Ny103 := zA hy103
   clear hy103
   obtain rfl := zsi H
   go_enter Try.func143, Try.ntmps143
   go_wp2_with (first | ((with_reducible refine zgd 1 ?_); refine zbx #[.string a0_0, .int .i64 a0_1, .int .i64 a0_2, .int .i64 a0_3] 72 ?_; intro gb101 hg w4 hbox hb; have zs := zpair zq1 hb; replace HB := zA (zs.1); have BK101 := zA (hbox); have GW101 := zA (zge hg zs.2); have GE101 := GW101; clear zs hb hbox hg; obtain ⟨hcz5_0, hcz5_1, hcz5_2, hcz5_3⟩ := zc4 w4 (.string a0_0) (.int .i64 a0_1) (.int .i64 a0_2) (.int .i64 a0_3) BK101.out; obtain ⟨hfz5_0, hfz5_1, hfz5_2, hfz5_3⟩ := zf4 BK101.out) | ((with_reducible refine zgc 141 ?_); refine zcl 6 Try.func141 (zdg a0_0 true _ A2.out) ?_; rintro e w' ⟨rfl, ⟨nd, rfl⟩⟩; refine ⟨_, rfl, ?_⟩) | ((with_reducible refine zgd 9 ?_); refine Kd.R_lit (Kd.int .i64) _ 3 ?hg (N := 9) ?hd (xs := ([a0_1] : List Int)) (inner := [.int .i64 a0_1]) (ok := fun _ => True) (okp := fun _ => True) ?hr ?hp (fun _ hk => hk) trivial (Below.refl _ _) (zlr _) (by simp) ?_; (case hd => rfl); (case hg => rfl); (case hr => go_simp <;> rfl); (case hp => exact (zau (show Kd.M (Kd.int .i64) _ _ _ a0_1 [.int .i64 a0_1] from rfl) (Reps.none _ _))); intro v104 w6 ho7 hb hg_ hnew_; clear hg_ hnew_; (first | rw [← Ny103.out] at ho7 | (simp only [Int.reduceToNat] at ho7; rw [← Ny103.out] at ho7)); have HO105 := zA (Kd.R_lower ho7 (zar (zq2 GE101))); replace BK101 := zA (zaf (g := gb101) (o := .cells #[.string a0_0, .int .i64 a0_1, .int .i64 a0_2, .int .i64 a0_3] 72 (0, 0)) (zq5 BK101) hb); replace HB := zA (zad (zq2 GE101) hb); clear hb ho7))
   go_ret
   exact ⟨_, zq4, zq3 HO105, zq2 GE101⟩
 replace c3 := zbf c3
 subst c3
 replace H : ((zdl k a0_0).bind fun t106 => (if t106 = true then (some (([a0_1, a0_2] : List Int))) else (some ([] : List Int)))) = some r := by rw [if_neg (show ¬ (false = true) by decide)] at H; exact H
 replace H := zob H
 obtain ⟨t106, A80, H⟩ := H
 replace H : (if t106 = true then (some (([a0_1, a0_2] : List Int))) else (some ([] : List Int))) = some r := H
 have A8 := zA A80
 clear A80
 by_cases c9 : t106 = true
 rotate_left
 · replace c9 := zbf c9
   subst c9
   replace H : (some ([] : List Int)) = some r := by rw [if_neg (show ¬ (false = true) by decide)] at H; exact H
   obtain rfl := zsi H
   go_enter Try.func143, Try.ntmps143
   go_wp2_with (first | ((with_reducible refine zgd 1 ?_); refine zbx #[.string a0_0, .int .i64 a0_1, .int .i64 a0_2, .int .i64 a0_3] 72 ?_; intro gb101 hg w16 hbox hb; have zs := zpair zq1 hb; replace HB := zA (zs.1); have BK101 := zA (hbox); have GW101 := zA (zge hg zs.2); have GE101 := GW101; clear zs hb hbox hg; obtain ⟨hcz17_0, hcz17_1, hcz17_2, hcz17_3⟩ := zc4 w16 (.string a0_0) (.int .i64 a0_1) (.int .i64 a0_2) (.int .i64 a0_3) BK101.out; obtain ⟨hfz17_0, hfz17_1, hfz17_2, hfz17_3⟩ := zf4 BK101.out) | ((with_reducible refine zgc 141 ?_); refine zcl 6 Try.func141 (zdg a0_0 false _ A2.out) ?_; rintro e w' ⟨rfl, ⟨nd, rfl⟩⟩; refine ⟨_, rfl, ?_⟩) | ((with_reducible refine zgc 142 ?_); refine zcl 13 Try.func142 (ze3 k a0_0 false _ A8.out) ?_; rintro e w18 ⟨rfl, hb⟩; refine ⟨_, rfl, ?_⟩; replace BK101 := zA (zaf (g := gb101) (o := .cells #[.string a0_0, .int .i64 a0_1, .int .i64 a0_2, .int .i64 a0_3] 72 (0, 0)) (zq5 BK101) hb); replace HB := zA (zad (zq2 GE101) hb); (try clear hb)))
   go_ret
   exact ⟨_, zq4, zq30, zq2 GE101⟩
 subst c9
 replace H : (some (([a0_1, a0_2] : List Int))) = some r := by rw [if_pos rfl] at H; exact H
 obtain ⟨y107, hy107⟩ : ∃ y_ : List Int, y_ = (([a0_1, a0_2] : List Int)) := ⟨_, rfl⟩
 replace H : (some y107) = some r := by first | (rw [hy107]; with_reducible exact H) | (have H2_ := (Option.bind_some _ _).symm.trans H; rw [hy107]; with_reducible exact H2_) | (have H2_ := (Option.bind_some _ _).symm.trans H; with_reducible exact H2_) | with_reducible exact H | (rw [hy107]; exact H) | exact H
 have Ny107 := zA hy107
 clear hy107
 obtain rfl := zsi H
 go_enter Try.func143, Try.ntmps143
 go_wp2_with (first | ((with_reducible refine zgd 1 ?_); refine zbx #[.string a0_0, .int .i64 a0_1, .int .i64 a0_2, .int .i64 a0_3] 72 ?_; intro gb101 hg w10 hbox hb; have zs := zpair zq1 hb; replace HB := zA (zs.1); have BK101 := zA (hbox); have GW101 := zA (zge hg zs.2); have GE101 := GW101; clear zs hb hbox hg; obtain ⟨hcz11_0, hcz11_1, hcz11_2, hcz11_3⟩ := zc4 w10 (.string a0_0) (.int .i64 a0_1) (.int .i64 a0_2) (.int .i64 a0_3) BK101.out; obtain ⟨hfz11_0, hfz11_1, hfz11_2, hfz11_3⟩ := zf4 BK101.out) | ((with_reducible refine zgc 141 ?_); refine zcl 6 Try.func141 (zdg a0_0 false _ A2.out) ?_; rintro e w' ⟨rfl, ⟨nd, rfl⟩⟩; refine ⟨_, rfl, ?_⟩) | ((with_reducible refine zgc 142 ?_); refine zcl 13 Try.func142 (ze3 k a0_0 true _ A8.out) ?_; rintro e w12 ⟨rfl, hb⟩; refine ⟨_, rfl, ?_⟩; replace BK101 := zA (zaf (g := gb101) (o := .cells #[.string a0_0, .int .i64 a0_1, .int .i64 a0_2, .int .i64 a0_3] 72 (0, 0)) (zq5 BK101) hb); replace HB := zA (zad (zq2 GE101) hb); (try clear hb); obtain ⟨hcz13_0, hcz13_1, hcz13_2, hcz13_3⟩ := zc4 w12 (.string a0_0) (.int .i64 a0_1) (.int .i64 a0_2) (.int .i64 a0_3) BK101.out; obtain ⟨hfz13_0, hfz13_1, hfz13_2, hfz13_3⟩ := zf4 BK101.out) | ((with_reducible refine zgd 18 ?_); refine Kd.R_lit (Kd.int .i64) _ 3 ?hg (N := 18) ?hd (xs := ([a0_1, a0_2] : List Int)) (inner := [.int .i64 a0_1, .int .i64 a0_2]) (ok := fun _ => True) (okp := fun _ => True) ?hr ?hp (fun _ hk => hk) trivial (Below.refl _ _) (zlr _) (by simp) ?_; (case hd => rfl); (case hg => rfl); (case hr => go_simp <;> rfl); (case hp => exact (zau (show Kd.M (Kd.int .i64) _ _ _ a0_1 [.int .i64 a0_1] from rfl) (zau (show Kd.M (Kd.int .i64) _ _ _ a0_2 [.int .i64 a0_2] from rfl) (Reps.none _ _)))); intro v108 w14 ho15 hb hg_ hnew_; clear hg_ hnew_; (first | rw [← Ny107.out] at ho15 | (simp only [Int.reduceToNat] at ho15; rw [← Ny107.out] at ho15)); have HO109 := zA (Kd.R_lower ho15 (zar (zq2 GE101))); replace BK101 := zA (zaf (g := gb101) (o := .cells #[.string a0_0, .int .i64 a0_1, .int .i64 a0_2, .int .i64 a0_3] 72 (0, 0)) (zq5 BK101) hb); replace HB := zA (zad (zq2 GE101) hb); clear hb ho15))
 go_ret
 exact ⟨_, zq4, zq3 HO109, zq2 GE101⟩
def zdm (k : Nat) (a0_0 : ByteArray) (a0_1 : Int) (a0_2 : Int) (a0_3 : Int) (l1 : List Int) : Option (ByteArray × Int × Int × Int) := (zcq k a0_0 a0_1 a0_2 a0_3).bind fun ps =>
 if (0 < ps.length → 0 ≤ a0_1 ∧ a0_1 < (l1.length : Int)) ∧ (1 < ps.length → 0 ≤ a0_2 ∧ a0_2 < (l1.length : Int)) then some (a0_0, if 0 < ps.length then rd l1 a0_1 else 0, if 1 < ps.length then rd l1 a0_2 else 0, a0_3) else none
theorem zgi : ∀ a0 a1 a2 a3 a4 k, LeO (zdm k a0 a1 a2 a3 a4) (zdm (k + 1) a0 a1 a2 a3 a4) := by
 intro a0 a1 a2 a3 a4 k
 unfold zdm
 exact LeO.bind (zce _ _ _ _ _) (fun _ => LeO.refl _)
set_option maxHeartbeats 4000000 in
set_option maxRecDepth 100000 in
theorem zl7 (k : Nat) (a0_0 : ByteArray) (a0_1 : Int) (a0_2 : Int) (a0_3 : Int) (A1 : Option Addr) (c1 : Nat) (l1 : List Int) (r1 : ByteArray) (r2 : Int) (r3 : Int) (r4 : Int) (w : World) (hr1 : Kd.C (Kd.int .i64) w A1 l1.length l1) (hc1 : l1.length ≤ c1) (h : zdm k a0_0 a0_1 a0_2 a0_3 l1 = some (r1, r2, r3, r4)) :
   Calls Try.prog 165 #[.agg #[.string a0_0, .int .i64 a0_1, .int .i64 a0_2, .int .i64 a0_3], .slice A1 l1.length c1] w fun e w' => e = .returned (.agg #[.string r1, .int .i64 r2, .int .i64 r3, .int .i64 r4]) ∧ Below w.heap.size w w' := by
 unfold zdm at h
 obtain ⟨ps, hps, h⟩ := Option.bind_eq_some_iff.1 h
 by_cases hc : (0 < ps.length → 0 ≤ a0_1 ∧ a0_1 < (l1.length : Int)) ∧ (1 < ps.length → 0 ≤ a0_2 ∧ a0_2 < (l1.length : Int))
 rotate_left
 · rw [if_neg hc] at h
   cases h
 rw [if_pos hc] at h
 have HH := zA (zsi h)
 have HPS := zA hps
 have HP := zA hc
 have HR := zA hr1
 clear h hps hc hr1
 go_enter Try.func165, Try.ntmps165
 go_upto_if 14 with (first
   | ((with_reducible refine zek (N := 2) rfl ?_); go_must (refine zfl ?hg (N := 2) ?hd (cs := #[.string a0_0, .int .i64 a0_1, .int .i64 a0_2, .int .i64 a0_3]) (t := 72) ?hr ?_; (case hd => rfl); (case hg => rfl); (case hr => go_simp <;> rfl); intro g2 hg w4 hbox hb; have G2 := zA (Nat.le_of_eq hg.symm); have B2 := zA hbox; have HB := zA hb; clear hg hbox hb))
   | ((with_reducible refine zek (N := 4) rfl ?_); go_must (refine zfl ?hg (N := 4) ?hd (cs := #[.string ⟨#[]⟩, .int .i64 0, .int .i64 0, .int .i64 0]) (t := 72) ?hr ?_; (case hd => rfl); (case hg => rfl); (case hr => go_simp <;> rfl); intro g4 hg w5 hbox hb; have G4 := zA (show g2 < g4 ∧ w.heap.size ≤ g4 from ⟨by have := zb9 B2.out; omega, by have := HB.out.size; omega⟩); have B4 := zA hbox; have n1 := zA (zaf B2.out hb); have n2 := zA (zad HB.out hb); clear B2 HB; have B2 := n1; have HB := n2; have y0 := zac B2.out 0; have y3 := zac B2.out 3; clear n1 n2 hg hbox hb))
   | ((with_reducible refine zek (N := 5) rfl ?_); go_must (refine zfl ?hg (N := 5) ?hd (cs := #[.string ⟨#[]⟩, .int .i64 0, .int .i64 0, .int .i64 0]) (t := 72) ?hr ?_; (case hd => rfl); (case hg => rfl); (case hr => go_simp <;> rfl); intro g5 hg w6 hbox hb; have G5 := zA (show g2 < g5 ∧ g4 < g5 ∧ w.heap.size ≤ g5 from ⟨by have := zb9 B2.out; omega, by have := zb9 B4.out; omega, by have := HB.out.size; omega⟩); have B5 := zA hbox; have n1 := zA (zaf B2.out hb); have n2 := zA (zad HB.out hb); have n3 := zA (zaf B4.out hb); clear B2 HB B4 y0 y3; have B2 := n1; have HB := n2; have B4 := n3; clear n1 n2 n3 hg hbox hb))
   | ((with_reducible refine zhi (t := 72) (p := 5) rfl ?_); go_must (refine zhd rfl (t := 72) (p := 5) rfl rfl (g := g5) (u := .agg #[.string a0_0, .int .i64 0, .int .i64 0, .int .i64 a0_3]) (seg := [.string a0_0, .int .i64 0, .int .i64 0, .int .i64 a0_3]) rfl rfl B5.out rfl rfl rfl zq39 ?_; intro w7 hbb hbw hfar; have n1 := zA ((hfar g2 (zq38 G5)).trans B2.out); have n2 := zA (HB.out.trans (hbw _ G5.out.2.2)); have n3 := zA ((hfar g4 (zq38 G5)).trans B4.out); clear B2 HB B4 B5; have B2 := n1; have HB := n2; have B4 := n3; have B5 := zA hbb; have y0 := zac B2.out 0; have y1 := zac B2.out 1; have y2 := zac B2.out 2; have y3 := zac B2.out 3; clear n1 n2 n3 hbb hbw hfar))
   | (go_at_call 143; go_must (refine (zcr k a0_0 a0_1 a0_2 a0_3 ps _ HPS.out).mono ?_; rintro e w8 ⟨v, rfl, ho, hb⟩; obtain ⟨A9, c9, rfl⟩ := Kd.R_slice ho; have n1 := zA (zaf B2.out hb); have n2 := zA (zad HB.out hb); have n3 := zA (zaf B4.out hb); have n4 := zA (zaf B5.out hb); clear B2 HB B4 B5 y0 y1 y2 y3; have B2 := n1; have HB := n2; have B4 := n3; have B5 := n4; clear n1 n2 n3 n4 hb ho)))
 go_cut [] from 6 (fun wx => Aside0 (wx.heap[g2]? = some (.cells #[.string a0_0, .int .i64 a0_1, .int .i64 a0_2, .int .i64 a0_3] 72 (0, 0))) ∧ Aside0 (Below w.heap.size w wx) ∧ Aside0 (wx.heap[g4]? = some (.cells #[.string ⟨#[]⟩, .int .i64 0, .int .i64 0, .int .i64 0] 72 (0, 0))) ∧ Aside0 (wx.heap[g5]? = some (.cells #[.string a0_0, .int .i64 (if 0 < ps.length then rd l1 a0_1 else 0), .int .i64 0, .int .i64 a0_3] 72 (0, 0))))
 case first =>
   by_cases q : 0 < ps.length
   rotate_left
   · have d1 : decide (0 < ps.length) = false := zdf (by omega)
     have d2 : decide ((0 : Int) < ps.length) = false := zdf (by omega)
     first | rw [d1] | rw [d2]
     clear d1 d2
     have Q := zA q
     clear q
     go_wp2_with fail
     go_meet
     case rel => exact ⟨B2, HB, B4, ⟨by rw [if_neg Q.out]; exact B5.out⟩⟩
   have d1 : decide (0 < ps.length) = true := zdt (by omega)
   have d2 : decide ((0 : Int) < ps.length) = true := zdt (by omega)
   first | rw [d1] | rw [d2]
   clear d1 d2
   obtain ⟨p1, p2⟩ := HP.out.1 q
   have Q := zA q
   have HB5 := zA (zan B5.out 1 (.int .i64 (rd l1 a0_1)))
   obtain ⟨ad, eA, x0⟩ := Kd.at_int (zCb HR.out HB.out) a0_1 p1 p2
   subst eA
   have y1 := zac B2.out 1
   have y5 := zac B5.out 1
   have f5 := zbq B5.out 1
   clear q
   go_wp2_with fail
   go_meet
   refine ⟨⟨za0 B2.out (by have := G5.out; intro e; have : g2 = g5 := zq50; omega) _⟩, ⟨HB.out.setCell (p := ⟨g5, 1, none⟩) G5.out.2.2 _⟩, ⟨za0 B4.out (by have := G5.out; intro e; have : g4 = g5 := zq50; omega) _⟩, ⟨?_⟩⟩
   rw [if_pos Q.out]
   simpa using HB5.out
 case rest =>
 clear B2 HB B4 B5
 obtain ⟨B2, HB, B4, B5⟩ := hcut
 have y0 := zac B2.out 0
 have y1 := zac B2.out 1
 have y2 := zac B2.out 2
 have y3 := zac B2.out 3
 go_upto_if 24 with (go_at_call 143; go_must (refine (zcr k a0_0 a0_1 a0_2 a0_3 ps _ HPS.out).mono ?_; rintro e w8 ⟨v, rfl, ho, hb⟩; obtain ⟨A9, c9, rfl⟩ := Kd.R_slice ho; have n1 := zA (zaf B2.out hb); have n2 := zA (zad HB.out hb); have n3 := zA (zaf B4.out hb); have n4 := zA (zaf B5.out hb); clear B2 HB B4 B5 y0 y1 y2 y3; have B2 := n1; have HB := n2; have B4 := n3; have B5 := n4; clear n1 n2 n3 n4 hb ho))
 go_cut [] from 6 (fun wx => Aside0 (wx.heap[g2]? = some (.cells #[.string a0_0, .int .i64 a0_1, .int .i64 a0_2, .int .i64 a0_3] 72 (0, 0))) ∧ Aside0 (Below w.heap.size w wx) ∧ Aside0 (wx.heap[g4]? = some (.cells #[.string ⟨#[]⟩, .int .i64 0, .int .i64 0, .int .i64 0] 72 (0, 0))) ∧ Aside0 (wx.heap[g5]? = some (.cells #[.string a0_0, .int .i64 (if 0 < ps.length then rd l1 a0_1 else 0), .int .i64 (if 1 < ps.length then rd l1 a0_2 else 0), .int .i64 a0_3] 72 (0, 0))))
 case first =>
   by_cases q : 1 < ps.length
   rotate_left
   · have d1 : decide (1 < ps.length) = false := zdf (by omega)
     have d2 : decide ((1 : Int) < ps.length) = false := zdf (by omega)
     first | rw [d1] | rw [d2]
     clear d1 d2
     have Q := zA q
     clear q
     go_wp2_with fail
     go_meet
     case rel => exact ⟨B2, HB, B4, ⟨by rw [if_neg Q.out]; exact B5.out⟩⟩
   have d1 : decide (1 < ps.length) = true := zdt (by omega)
   have d2 : decide ((1 : Int) < ps.length) = true := zdt (by omega)
   first | rw [d1] | rw [d2]
   clear d1 d2
   obtain ⟨p1, p2⟩ := HP.out.2 q
   have Q := zA q
   have HB5 := zA (zan B5.out 2 (.int .i64 (rd l1 a0_2)))
   obtain ⟨ad, eA, x0⟩ := Kd.at_int (zCb HR.out HB.out) a0_2 p1 p2
   subst eA
   have y1 := zac B2.out 2
   have y5 := zac B5.out 2
   have f5 := zbq B5.out 2
   clear q
   go_wp2_with fail
   go_meet
   refine ⟨⟨za0 B2.out (by have := G5.out; intro e; have : g2 = g5 := zq50; omega) _⟩, ⟨HB.out.setCell (p := ⟨g5, 2, none⟩) G5.out.2.2 _⟩, ⟨za0 B4.out (by have := G5.out; intro e; have : g4 = g5 := zq50; omega) _⟩, ⟨?_⟩⟩
   rw [if_pos Q.out]
   simpa using HB5.out
 case rest =>
 clear B2 HB B4 B5
 obtain ⟨B2, HB, B4, B5⟩ := hcut
 obtain ⟨z1, hz1⟩ : ∃ z, z = (if 0 < ps.length then rd l1 a0_1 else 0) := ⟨_, rfl⟩
 obtain ⟨z2, hz2⟩ : ∃ z, z = (if 1 < ps.length then rd l1 a0_2 else 0) := ⟨_, rfl⟩
 rw [← hz1, ← hz2] at B5
 have HZ1 := zA hz1
 have HZ2 := zA hz2
 clear hz1 hz2
 have y0 := zac B5.out 0
 have y1 := zac B5.out 1
 have y2 := zac B5.out 2
 have y3 := zac B5.out 3
 go_wp2_with ((with_reducible refine zhi (t := 72) (p := 4) rfl ?_); go_must (refine zhd rfl (t := 72) (p := 4) rfl rfl (g := g4) (u := .agg #[.string a0_0, .int .i64 z1, .int .i64 z2, .int .i64 a0_3]) (seg := [.string a0_0, .int .i64 z1, .int .i64 z2, .int .i64 a0_3]) rfl rfl B4.out rfl rfl rfl zq39 ?_; intro w9 hbb hbw hfar; have n2 := zA (HB.out.trans (hbw _ G4.out.2)); have B6 := zA hbb; clear HB y0 y1 y2 y3 hbb hbw hfar; have HB := n2; clear n2))
 refine bodyPost_ret (results_cell_row rfl _ _ g4 72 #[.string a0_0, .int .i64 z1, .int .i64 z2, .int .i64 a0_3] (0, 0) _ rfl B6.out Try.underlying72 rfl zq23) rfl ?_
 obtain ⟨rfl, h2⟩ := Prod.mk.inj HH.out
 obtain ⟨rfl, h3⟩ := Prod.mk.inj h2
 obtain ⟨rfl, rfl⟩ := Prod.mk.inj h3
 exact ⟨by rw [← HZ1.out, ← HZ2.out], HB.out⟩
end Go.Proofs.Ytkfkbmlbpeojaaa.Q
end
section
namespace Go.Proofs.Ytkfkbmlbpeojaaa.Q
open Go.RowKit Go.Proofs.YtkfkbmlbpeojaaaW.PrintWords Go.Proofs.YtkfkbmlbpeojaaaW.PrintLast Go.Proofs.YtkfkbmlbpeojaaaW.PrintMore
attribute [local go_sem] zcs zct zdo zdp zb2 zb3 zcu zcv
set_option linter.unusedVariables false
set_option linter.unusedSimpArgs false
mutual
def zb0 : Nat → List (S72) → Int → List Bool → Int → Option ((List (S72)))
 | 0, _, _, _, _ => none
 | k + 1, x0, x1, x5, x6 => if x6 ≥ 0 then (if 0 ≤ x6 then (if x6 < (x0.length : Int) then ((zcq k ((zab x0 x6).f0) ((zab x0 x6).f1) ((zab x0 x6).f2) ((zab x0 x6).f3)).bind fun t106 => (zbp k x0 x1 x5 x6 t106 (t106.length : Int) 0)) else (none)) else (none)) else (if 0 ≤ (wrap64 (x1 + 1)) then (if (wrap64 (x1 + 1) : Int).toNat ≤ 35184372088832 then (zbb k x0 x1 x5 (List.replicate (wrap64 (x1 + 1) : Int).toNat 0) ([] : List (S72)) 0) else (none)) else (none))
def zbp : Nat → List (S72) → Int → List Bool → Int → List Int → Int → Int → Option ((List (S72)))
 | 0, _, _, _, _, _, _, _ => none
 | k + 1, x0, x1, x5, x6, x27, x28, x29 => if x29 < x28 then (if 0 ≤ x29 then (if x29 < (x27.length : Int) then (if 0 ≤ (rd x27 x29) then (if (rd x27 x29) < (x5.length : Int) then (if rdOf false x5 (rd x27 x29) = true then (zbp k x0 x1 (x5.set ((rd x27 x29) : Int).toNat true) x6 x27 x28 (wrap64 (x29 + 1))) else (if 0 ≤ x6 then (if x6 < (x5.length : Int) then (zbp k x0 x1 (x5.set ((rd x27 x29) : Int).toNat (rdOf false x5 x6)) x6 x27 x28 (wrap64 (x29 + 1))) else (none)) else (none))) else (none)) else (none)) else (none)) else (none)) else (zb0 k x0 x1 x5 (wrap64 (x6 - 1)))
def zbb : Nat → List (S72) → Int → List Bool → List Int → List (S72) → Int → Option ((List (S72)))
 | 0, _, _, _, _, _, _ => none
 | k + 1, x0, x1, x5, x9, x10, x11 => if x11 ≤ x1 then (if 0 ≤ x11 then (if x11 < (x5.length : Int) then (if rdOf false x5 x11 = true then (if x11 < (x9.length : Int) then ((some (x9.set (x11 : Int).toNat (x10.length : Int) : List Int)).bind fun y118 => (if x11 < (x0.length : Int) then ((zdm k ((zab x0 x11).f0) ((zab x0 x11).f1) ((zab x0 x11).f2) ((zab x0 x11).f3) y118).bind fun bt120 => (if x10.length < 3518437208883 then (zbb k x0 x1 x5 y118 (x10 ++ [(⟨bt120.1, bt120.2.1, bt120.2.2.1, bt120.2.2.2⟩ : S72)]) (wrap64 (x11 + 1))) else (none))) else (none))) else (none)) else (zbb k x0 x1 x5 x9 x10 (wrap64 (x11 + 1)))) else (none)) else (none)) else (some x10)
end
def zeg (k : Nat) (l0 : List (S72)) (a1 : Int) : Option ((List (S72))) := if 0 ≤ (wrap64 (a1 + 1)) then (if (wrap64 (a1 + 1) : Int).toNat ≤ 281474976710656 then ((some (List.replicate (wrap64 (a1 + 1) : Int).toNat false : List Bool)).bind fun y101 => (if 0 ≤ a1 then (if a1 < (y101.length : Int) then (zb0 k l0 a1 (y101.set (a1 : Int).toNat true) a1) else (none)) else (none))) else (none)) else (none)
theorem zi2 : ∀ k, (∀ y0 y1 y2 y3, LeO (zb0 k y0 y1 y2 y3) (zb0 (k + 1) y0 y1 y2 y3)) ∧ (∀ y0 y1 y2 y3 y4 y5 y6, LeO (zbp k y0 y1 y2 y3 y4 y5 y6) (zbp (k + 1) y0 y1 y2 y3 y4 y5 y6)) ∧ (∀ y0 y1 y2 y3 y4 y5, LeO (zbb k y0 y1 y2 y3 y4 y5) (zbb (k + 1) y0 y1 y2 y3 y4 y5))
 | 0 => ⟨fun _ _ _ _ r h => by simp [zb0] at h, fun _ _ _ _ _ _ _ r h => by simp [zbp] at h, fun _ _ _ _ _ _ r h => by simp [zbb] at h⟩
 | k + 1 => by
   obtain ⟨ih0, ih1, ih2⟩ := zi2 k
   refine ⟨?_, ?_, ?_⟩
   · intro y0 y1 y2 y3
     unfold zb0
     exact zm5 ih0 ih1 ih2 zgi zce
   · intro y0 y1 y2 y3 y4 y5 y6
     unfold zbp
     exact zm5 ih0 ih1 ih2 zgi zce
   · intro y0 y1 y2 y3 y4 y5
     unfold zbb
     exact zm5 ih0 ih1 ih2 zgi zce
theorem zj7 : ∀ a0 a1 k, LeO (zeg k a0 a1) (zeg (k + 1) a0 a1) := by
 intro a0 a1 k
 obtain ⟨ih0, ih1, ih2⟩ := zi2 k
 unfold zeg
 exact zm5 ih0 ih1 ih2 zgi zce
set_option maxHeartbeats 8000000 in
set_option maxRecDepth 100000 in
theorem zjp (k : Nat) (A0 : Option Addr) (c0 : Nat) (l0 : List (S72)) (a1 : Int) (r : List (S72)) (w : World) (hr0 : Kd.C k72 w A0 l0.length l0) (hc0 : l0.length ≤ c0) (h : zeg k l0 a1 = some r) :
   Calls Try.prog 114 #[.slice A0 l0.length c0, .int .i64 a1] w fun e w' => ∃ v0_ : Value, e = .returned (v0_) ∧ Kd.R k72 72 w' w.heap.size (fun _ => True) v0_ r ∧ Below w.heap.size w w' := by
 have hu72 := Try.underlying72
 have HR0 := zA hr0
 have HC0 := zA hc0
 clear hr0 hc0
 have HB := zA (Below.refl w.heap.size w)
 have H : (if 0 ≤ (wrap64 (a1 + 1)) then (if (wrap64 (a1 + 1) : Int).toNat ≤ 281474976710656 then ((some (List.replicate (wrap64 (a1 + 1) : Int).toNat false : List Bool)).bind fun y101 => (if 0 ≤ a1 then (if a1 < (y101.length : Int) then (zb0 k l0 a1 (y101.set (a1 : Int).toNat true) a1) else (none)) else (none))) else (none)) else (none)) = some r := h
 clear h
 obtain ⟨ji3, hji3⟩ : ∃ j_ : Int, (wrap64 (a1 + 1)) = j_ := ⟨_, rfl⟩
 replace H : (if 0 ≤ (ji3) then (if (ji3 : Int).toNat ≤ 281474976710656 then ((some (List.replicate (ji3 : Int).toNat false : List Bool)).bind fun y101 => (if 0 ≤ a1 then (if a1 < (y101.length : Int) then (zb0 k l0 a1 (y101.set (a1 : Int).toNat true) a1) else (none)) else (none))) else (none)) else (none)) = some r := by first | (rw [hji3] at H; exact H) | (simp only [hji3] at H ⊢; exact H)
 have hji3w : (IntKind.i64.wrap (a1 + 1)) = ji3 := (zfx _).trans hji3
 by_cases c4 : 0 ≤ (ji3)
 rotate_left
 · rw [if_neg c4] at H
   exact absurd H (by simp)
 rw [if_pos c4] at H
 have c4b0 := eq_true c4
 have c4b1 := zdt c4
 clear c4
 by_cases c5 : (ji3 : Int).toNat ≤ 281474976710656
 rotate_left
 · rw [if_neg c5] at H
   exact absurd H (by simp)
 rw [if_pos c5] at H
 have c5b0 := eq_true c5
 have c5b1 := zdt c5
 clear c5
 obtain ⟨y101, hy101⟩ : ∃ y_ : List Bool, y_ = (List.replicate (ji3 : Int).toNat false) := ⟨_, rfl⟩
 replace H : (if 0 ≤ a1 then (if a1 < (y101.length : Int) then (zb0 k l0 a1 (y101.set (a1 : Int).toNat true) a1) else (none)) else (none)) = some r := by first | (rw [hy101]; with_reducible exact H) | (have H2_ := (Option.bind_some _ _).symm.trans H; rw [hy101]; with_reducible exact H2_) | (have H2_ := (Option.bind_some _ _).symm.trans H; with_reducible exact H2_) | with_reducible exact H | (rw [hy101]; exact H) | exact H
 have Ny101 := zA hy101
 clear hy101
 revert H
 refine zin fun c6 H => ?_
 revert H
 refine zin fun c7 H => ?_
 obtain ⟨y104, hy104⟩ : ∃ y_ : List Bool, y_ = (y101.set (a1 : Int).toNat true) := ⟨_, rfl⟩
 replace H : (zb0 k l0 a1 y104 a1) = some r := by first | (rw [hy104]; with_reducible exact H) | (have H2_ := (Option.bind_some _ _).symm.trans H; rw [hy104]; with_reducible exact H2_) | (have H2_ := (Option.bind_some _ _).symm.trans H; with_reducible exact H2_) | with_reducible exact H | (rw [hy104]; exact H) | exact H
 have Ny104 := zA hy104
 clear hy104
 have H' := zA H
 clear H
 go_enter Try.func114, Try.ntmps114
 go_wp2_with (first | ((with_reducible refine zgd 14 ?_); refine Kd.R_make Kd.bool _ 4 rfl (N := 14) rfl 162 _ _ rfl ji3 rfl rfl Try.underlying162 (.bool false) 1 zyl rfl (by decide) (by omega) false (ok := fun _ => True) (okp := fun _ => True) rfl (fun _ hk => hk) trivial (zde zq16) (Nat.le_trans (Nat.mul_le_mul_right _ (zde zq16 : ji3.toNat ≤ 281474976710656)) (by omega)) (Below.refl _ _) (zlr _) ?_; intro v102 w9 ho10 hb hg_ hnew_; clear hg_ hnew_; (first | rw [← Ny101.out] at ho10 | (simp only [Int.reduceToNat] at ho10; rw [← Ny101.out] at ho10)); have HO103 := zA (Kd.R_lower ho10 (zar zq1)); replace HB := zA (zad zq1 hb); clear hb ho10; have p8 : 0 ≤ (a1 : Int) := zde zq16; have q8 : (a1 : Int) < ((y101.length : Int) : Int) := zde zq16; obtain ⟨go8, co8, eo8, gb8, gl8, cl8, HG8⟩ := Kd.R_form HO103.out (by omega); (first | cases eo8 | (injection eo8 with ea_ en_ ec_; (first | subst ea_ | (injection ea_ with ea_; subst ea_)); subst ec_; clear en_)); have GB8 := zA gb8; have GG8 := zA HG8; clear gb8 gl8 HG8; obtain ⟨hx8_0, hf8_0⟩ := Kd.R_celln false HO103.out (a1 : Int) p8 q8; replace p8 := eq_true p8; replace q8 := eq_true q8; obtain ⟨hy11_, hz11_⟩ := Kd.R_celln false HO103.out (a1 : Int) (zde zq16) (zde zq16); have HP11 := Kd.R_putg HO103.out (a1 : Int) true) | ((with_reducible refine zgs 4 17 ?_); refine zse (w9.setCell ⟨go8, (a1 : Int).toNat, none⟩ (.bool true)) ?_; intro w12 hw; have hg : w9.grownBy w12 (some go8) := (by rw [hw]; exact HP11.2); have hp_ : Kd.R Kd.bool 4 w12 w.heap.size (fun _ => True) (.slice (some ⟨go8, 0, none⟩) y101.length co8) y104 := (by rw [hw, Ny104.out]; exact HP11.1); clear HP11; replace HO103 := zA (hp_); replace HB := zA ((zq32 GB8 : Below w.heap.size w w12)); clear hg hw hp_))
 go_loopg [6] k (fun kq v6 w' => ∃ (x5_1 : List Bool) (x6_1 : Int), v6 = .int .i64 x6_1 ∧ Aside0 (zb0 kq l0 a1 x5_1 x6_1 = some r) ∧ Aside0 (kq ≤ k) ∧ Aside0 (Kd.R Kd.bool 4 w' w.heap.size (fun _ => True) (.slice (some ⟨go8, 0, none⟩) y101.length co8) x5_1) ∧ Aside0 (Below w.heap.size w w'))
 case atStart => exact ⟨(y104), (a1), zq6, H', ⟨zlr _⟩, ⟨zq3 HO103⟩, ⟨zq1⟩⟩
 clear H'
 try clear c1
 try clear p2
 try clear c4
 try clear c4b0
 try clear c4b1
 try clear c5
 try clear c5b0
 try clear c5b1
 try clear c6
 try clear c6b0
 try clear p6
 try clear c7
 try clear c7b0
 try clear p8
 try clear q8
 try clear hx8
 try clear hf8
 try clear c11
 try clear hx8_0
 try clear p8
 try clear q8
 obtain ⟨x5_1, x6_1, rfl, HA, HK1, HO_5, HB⟩ := hrel
 have hl5_1 := (zRr HO_5.out).1
 rw [hl5_1] at HO_5
 (try simp only [hl5_1])
 cases gk with
 | zero => exact absurd HA.out (by simp [zb0])
 | succ k1 =>
 have H := HA.out
 clear HA
 simp only [zb0] at H
 by_cases c13 : x6_1 ≥ 0
 · rw [if_pos c13] at H
   have c13b0 := zdt c13
   clear c13
   revert H
   refine zin fun c14 H => ?_
   revert H
   refine zin fun c15 H => ?_
   replace H := zob H
   obtain ⟨t106, A160, H⟩ := H
   replace H : (zbp k1 l0 a1 x5_1 x6_1 t106 (t106.length : Int) 0) = some r := H
   have A16 := zA A160
   clear A160
   have H' := zA H
   clear H
   have p105 : 0 ≤ (x6_1 : Int) := zde zq16
   have q105 : x6_1 < (l0.length : Int) := zde zq16
   obtain ⟨ad105, e105, hx105_0, hx105_1, hx105_2, hx105_3⟩ := zd0 HR0.out x6_1 p105 q105
   cases e105
   replace hx105_0 := zkep HB.out hx105_0
   replace hx105_1 := zkep HB.out hx105_1
   replace hx105_2 := zkep HB.out hx105_2
   replace hx105_3 := zkep HB.out hx105_3
   replace p105 := eq_true p105
   replace q105 := eq_true q105
   go_wp2_with (first | ((with_reducible refine zgc 143 ?_); refine zcl 27 Try.func143 (zcr k1 ((zab l0 x6_1).f0) ((zab l0 x6_1).f1) ((zab l0 x6_1).f2) ((zab l0 x6_1).f3) t106 _ A16.out) ?_; rintro e w17 ⟨v107, rfl, ho0, hb⟩; refine ⟨_, rfl, ?_⟩; replace HO_5 := zA (zRb (zq3 HO_5) hb); have HO108 := zA (Kd.R_lower ho0 (zar zq1)); replace HB := zA (zad zq1 hb); (try clear hb); (try clear ho0); obtain ⟨Ao18, co18, eo18⟩ := Kd.R_slice HO108.out; subst eo18))
   go_loopg [29] k1 (fun kq v29 w' => ∃ (x5_2 : List Bool) (x29_2 : Int), v29 = .int .i64 x29_2 ∧ Aside0 (zbp kq l0 a1 x5_2 x6_1 t106 (t106.length : Int) x29_2 = some r) ∧ Aside0 (kq ≤ k1) ∧ Aside0 (Kd.R Kd.bool 4 w' w.heap.size (fun _ => True) (.slice (some ⟨go8, 0, none⟩) x5_1.length co8) x5_2) ∧ Aside0 (Kd.R (Kd.int .i64) 3 w' w.heap.size (fun _ => True) (.slice Ao18 t106.length co18) t106) ∧ Aside0 (Below w.heap.size w w'))
   case atStart => exact ⟨(x5_1), (0), zq6, H', ⟨zlr _⟩, ⟨zq22 HO_5⟩, ⟨zq22 HO108⟩, ⟨zq1⟩⟩
   clear H'
   try clear c1
   try clear p1
   try clear q1
   try clear hx1
   try clear p2
   try clear c4
   try clear c4b0
   try clear c4b1
   try clear c5
   try clear c5b0
   try clear c5b1
   try clear c6
   try clear c6b0
   try clear p6
   try clear c7
   try clear c7b0
   try clear p8
   try clear q8
   try clear hx8
   try clear hf8
   try clear p10
   try clear q10
   try clear hx10
   try clear c11
   try clear c13
   try clear c13b0
   try clear c14
   try clear c14b0
   try clear c15
   try clear c15b0
   try clear hx105_0
   try clear hx105_1
   try clear hx105_2
   try clear hx105_3
   try clear hx8_0
   try clear p105
   try clear p2
   try clear p6
   try clear p8
   try clear q105
   try clear q8
   obtain ⟨x5_2, x29_2, rfl, HA, HK2, HO_5, HO_27, HB⟩ := hrel
   have hl5_2 := (zRr HO_5.out).1
   rw [hl5_2] at HO_5
   (try simp only [hl5_2])
   (try simp only [hl5_2] at HO_27)
   cases gk with
   | zero => exact absurd HA.out (by simp [zbp])
   | succ k2 =>
   have H := HA.out
   clear HA
   simp only [zbp] at H
   revert H
   refine zit (fun c19 H => ?_) fun c19 H => ?_
   rotate_left
   · have H' := zA H
     clear H
     go_wp2
     (try simp only [← hl5_1, ← hl5_2])
     go_roundg k2
     case measure => have := HK1.out; have := HK2.out; omega
     case rel => exact ⟨(x5_2), (wrap64 (x6_1 - 1)), zq6, H', ⟨zq40 HK1 HK2⟩, ⟨zq26 HO_5⟩, ⟨zq1⟩⟩
   revert H
   refine zin fun c20 H => ?_
   revert H
   refine zin fun c21 H => ?_
   revert H
   refine zin fun c22 H => ?_
   revert H
   refine zin fun c23 H => ?_
   obtain ⟨bq24, hbq24⟩ : ∃ b_ : Bool, b_ = (rdOf false x5_2 (rd t106 x29_2)) := ⟨_, rfl⟩
   replace H : (if bq24 = true then (zbp k2 l0 a1 (x5_2.set ((rd t106 x29_2) : Int).toNat true) x6_1 t106 (t106.length : Int) (wrap64 (x29_2 + 1))) else (if 0 ≤ x6_1 then (if x6_1 < (x5_2.length : Int) then (zbp k2 l0 a1 (x5_2.set ((rd t106 x29_2) : Int).toNat (rdOf false x5_2 x6_1)) x6_1 t106 (t106.length : Int) (wrap64 (x29_2 + 1))) else (none)) else (none))) = some r := by rw [← hbq24] at H; exact H
   have Nbq24 := zA hbq24
   clear hbq24
   by_cases c25 : bq24 = true
   · subst c25
     replace H : (zbp k2 l0 a1 (x5_2.set ((rd t106 x29_2) : Int).toNat true) x6_1 t106 (t106.length : Int) (wrap64 (x29_2 + 1))) = some r := by rw [if_pos rfl] at H; exact H
     obtain ⟨y111, hy111⟩ : ∃ y_ : List Bool, y_ = (x5_2.set ((rd t106 x29_2) : Int).toNat true) := ⟨_, rfl⟩
     replace H : (zbp k2 l0 a1 y111 x6_1 t106 (t106.length : Int) (wrap64 (x29_2 + 1))) = some r := by first | (rw [hy111]; with_reducible exact H) | (have H2_ := (Option.bind_some _ _).symm.trans H; rw [hy111]; with_reducible exact H2_) | (have H2_ := (Option.bind_some _ _).symm.trans H; with_reducible exact H2_) | with_reducible exact H | (rw [hy111]; exact H) | exact H
     have Ny111 := zA hy111
     clear hy111
     have H' := zA H
     clear H
     have p109 : 0 ≤ (x29_2 : Int) := zde zq16
     have q109 : x29_2 < (t106.length : Int) := zde zq16
     obtain ⟨ad109, e109, hx109_0⟩ := Kd.at_int (zRr HO_27.out).2.2 x29_2 p109 q109
     cases e109
     replace p109 := eq_true p109
     replace q109 := eq_true q109
     have p110 : 0 ≤ ((rd t106 x29_2) : Int) := zde zq16
     have q110 : (rd t106 x29_2) < (x5_2.length : Int) := zde zq16
     obtain ⟨ad110, e110, hx110_0⟩ := Kd.at_bool (zRr HO_5.out).2.2 (rd t106 x29_2) p110 q110
     (try rw [← Nbq24.out] at hx110_0)
     obtain rfl : (⟨go8, 0, none⟩ : Addr) = ad110 := (by injection e110)
     (first | simp only [zcw] at hx110_0 | simp only [zlh] at hx110_0 | simp only [Addr.add, Nat.zero_add] at hx110_0 | skip)
     replace p110 := eq_true p110
     replace q110 := eq_true q110
     have p26 : 0 ≤ ((rd t106 x29_2) : Int) := zde zq16
     have q26 : ((rd t106 x29_2) : Int) < ((x5_2.length : Int) : Int) := zde zq16
     obtain ⟨hx26_0, hf26_0⟩ := Kd.R_celln false HO_5.out ((rd t106 x29_2) : Int) p26 q26
     replace p26 := eq_true p26
     replace q26 := eq_true q26
     have HP27 := Kd.R_putg HO_5.out ((rd t106 x29_2) : Int) true
     go_wp2_with (first | ((with_reducible refine zgs 4 45 ?_); refine zse (wr.setCell ⟨go8, ((rd t106 x29_2) : Int).toNat, none⟩ (.bool true)) ?_; intro w28 hw; have hg : wr.grownBy w28 (some go8) := (by rw [hw]; exact HP27.2); have hp_ : Kd.R Kd.bool 4 w28 w.heap.size (fun _ => True) (.slice (some ⟨go8, 0, none⟩) x5_2.length co8) y111 := (by rw [hw, Ny111.out]; exact HP27.1); clear HP27; replace HO_27 := zA (Kd.R_over' (v := (.slice (some ⟨go8, 0, none⟩) x5_2.length co8)) (zq3 HO_27) (Kd.R_typed HO_5.out) (by decide) hg); replace HO_5 := zA (hp_); replace HB := zA ((zq32 GB8 : Below w.heap.size w w28)); clear hg hw hp_))
     (try simp only [← hl5_2])
     go_roundg k2
     case measure => have := HK1.out; have := HK2.out; omega
     case rel => exact ⟨(y111), (wrap64 (x29_2 + 1)), zq6, H', ⟨zq40 HK1 HK2⟩, ⟨zq26 HO_5⟩, ⟨zq26 HO_27⟩, ⟨zq1⟩⟩
   replace c25 := zbf c25
   subst c25
   replace H : (if 0 ≤ x6_1 then (if x6_1 < (x5_2.length : Int) then (zbp k2 l0 a1 (x5_2.set ((rd t106 x29_2) : Int).toNat (rdOf false x5_2 x6_1)) x6_1 t106 (t106.length : Int) (wrap64 (x29_2 + 1))) else (none)) else (none)) = some r := by rw [if_neg (show ¬ (false = true) by decide)] at H; exact H
   revert H
   refine zin fun c29 H => ?_
   revert H
   refine zin fun c30 H => ?_
   obtain ⟨y113, hy113⟩ : ∃ y_ : List Bool, y_ = (x5_2.set ((rd t106 x29_2) : Int).toNat (rdOf false x5_2 x6_1)) := ⟨_, rfl⟩
   replace H : (zbp k2 l0 a1 y113 x6_1 t106 (t106.length : Int) (wrap64 (x29_2 + 1))) = some r := by first | (rw [hy113]; with_reducible exact H) | (have H2_ := (Option.bind_some _ _).symm.trans H; rw [hy113]; with_reducible exact H2_) | (have H2_ := (Option.bind_some _ _).symm.trans H; with_reducible exact H2_) | with_reducible exact H | (rw [hy113]; exact H) | exact H
   have Ny113 := zA hy113
   clear hy113
   have H' := zA H
   clear H
   have p109 : 0 ≤ (x29_2 : Int) := zde zq16
   have q109 : x29_2 < (t106.length : Int) := zde zq16
   obtain ⟨ad109, e109, hx109_0⟩ := Kd.at_int (zRr HO_27.out).2.2 x29_2 p109 q109
   cases e109
   replace p109 := eq_true p109
   replace q109 := eq_true q109
   have p110 : 0 ≤ ((rd t106 x29_2) : Int) := zde zq16
   have q110 : (rd t106 x29_2) < (x5_2.length : Int) := zde zq16
   obtain ⟨ad110, e110, hx110_0⟩ := Kd.at_bool (zRr HO_5.out).2.2 (rd t106 x29_2) p110 q110
   (try rw [← Nbq24.out] at hx110_0)
   obtain rfl : (⟨go8, 0, none⟩ : Addr) = ad110 := (by injection e110)
   (first | simp only [zcw] at hx110_0 | simp only [zlh] at hx110_0 | simp only [Addr.add, Nat.zero_add] at hx110_0 | skip)
   replace p110 := eq_true p110
   replace q110 := eq_true q110
   have p112 : 0 ≤ (x6_1 : Int) := zde zq16
   have q112 : x6_1 < (x5_2.length : Int) := zde zq16
   obtain ⟨ad112, e112, hx112_0⟩ := Kd.at_bool (zRr HO_5.out).2.2 x6_1 p112 q112
   (try rw [← Nbq24.out] at hx112_0)
   obtain rfl : (⟨go8, 0, none⟩ : Addr) = ad112 := (by injection e112)
   (first | simp only [zcw] at hx112_0 | simp only [zlh] at hx112_0 | simp only [Addr.add, Nat.zero_add] at hx112_0 | skip)
   replace p112 := eq_true p112
   replace q112 := eq_true q112
   have p31 : 0 ≤ ((rd t106 x29_2) : Int) := zde zq16
   have q31 : ((rd t106 x29_2) : Int) < ((x5_2.length : Int) : Int) := zde zq16
   obtain ⟨hx31_0, hf31_0⟩ := Kd.R_celln false HO_5.out ((rd t106 x29_2) : Int) p31 q31
   replace p31 := eq_true p31
   replace q31 := eq_true q31
   have HP32 := Kd.R_putg HO_5.out ((rd t106 x29_2) : Int) (rdOf false x5_2 x6_1)
   go_wp2_with (first | ((with_reducible refine zgs 4 45 ?_); refine zse (wr.setCell ⟨go8, ((rd t106 x29_2) : Int).toNat, none⟩ (.bool (rdOf false x5_2 x6_1))) ?_; intro w33 hw; have hg : wr.grownBy w33 (some go8) := (by rw [hw]; exact HP32.2); have hp_ : Kd.R Kd.bool 4 w33 w.heap.size (fun _ => True) (.slice (some ⟨go8, 0, none⟩) x5_2.length co8) y113 := (by rw [hw, Ny113.out]; exact HP32.1); clear HP32; replace HO_27 := zA (Kd.R_over' (v := (.slice (some ⟨go8, 0, none⟩) x5_2.length co8)) (zq3 HO_27) (Kd.R_typed HO_5.out) (by decide) hg); replace HO_5 := zA (hp_); replace HB := zA ((zq32 GB8 : Below w.heap.size w w33)); clear hg hw hp_))
   (try simp only [← hl5_2])
   go_roundg k2
   case measure => have := HK1.out; have := HK2.out; omega
   case rel => exact ⟨(y113), (wrap64 (x29_2 + 1)), zq6, H', ⟨zq40 HK1 HK2⟩, ⟨zq26 HO_5⟩, ⟨zq26 HO_27⟩, ⟨zq1⟩⟩
 rw [if_neg c13] at H
 have c13b0 := zdf c13
 clear c13
 obtain ⟨ji34, hji34⟩ : ∃ j_ : Int, (wrap64 (a1 + 1)) = j_ := ⟨_, rfl⟩
 replace H : (if 0 ≤ (ji34) then (if (ji34 : Int).toNat ≤ 35184372088832 then (zbb k1 l0 a1 x5_1 (List.replicate (ji34 : Int).toNat 0) ([] : List (S72)) 0) else (none)) else (none)) = some r := by first | (rw [hji34] at H; exact H) | (simp only [hji34] at H ⊢; exact H)
 have hji34w : (IntKind.i64.wrap (a1 + 1)) = ji34 := (zfx _).trans hji34
 try (obtain rfl : ji34 = ji3 := hji34.symm.trans hji3)
 by_cases c35 : 0 ≤ (ji34)
 rotate_left
 · rw [if_neg c35] at H
   exact absurd H (by simp)
 rw [if_pos c35] at H
 have c35b0 := eq_true c35
 have c35b1 := zdt c35
 clear c35
 by_cases c36 : (ji34 : Int).toNat ≤ 35184372088832
 rotate_left
 · rw [if_neg c36] at H
   exact absurd H (by simp)
 rw [if_pos c36] at H
 have c36b0 := eq_true c36
 have c36b1 := zdt c36
 clear c36
 obtain ⟨y114, hy114⟩ : ∃ y_ : List Int, y_ = (List.replicate (ji34 : Int).toNat 0) := ⟨_, rfl⟩
 replace H : (zbb k1 l0 a1 x5_1 y114 ([] : List (S72)) 0) = some r := by first | (rw [hy114]; with_reducible exact H) | (have H2_ := (Option.bind_some _ _).symm.trans H; rw [hy114]; with_reducible exact H2_) | (have H2_ := (Option.bind_some _ _).symm.trans H; with_reducible exact H2_) | with_reducible exact H | (rw [hy114]; exact H) | exact H
 have Ny114 := zA hy114
 clear hy114
 have H' := zA H
 clear H
 go_wp2_with (first | ((with_reducible refine zgd 49 ?_); refine Kd.R_make (Kd.int .i64) _ 3 rfl (N := 49) rfl 51 _ _ rfl ji34 rfl rfl Try.underlying51 (.int .i64 0) 8 zns rfl (by decide) (by omega) 0 (ok := fun _ => True) (okp := fun _ => True) rfl (fun _ hk => hk) trivial (zde zq16) (Nat.le_trans (Nat.mul_le_mul_right _ (zde zq16 : ji34.toNat ≤ 35184372088832)) (by omega)) (Below.refl _ _) (zlr _) ?_; intro v115 w37 ho38 hb hg_ hnew_; clear hg_ hnew_; (first | rw [← Ny114.out] at ho38 | (simp only [Int.reduceToNat] at ho38; rw [← Ny114.out] at ho38)); replace HO_5 := zA (zRb (zq3 HO_5) hb); have HO116 := zA (Kd.R_lower ho38 (zar zq1)); replace HB := zA (zad zq1 hb); clear hb ho38))
 go_loopg [10, 11] k1 (fun kq v10 v11 w' => ∃ (x9_2 : List Int) (x10_2 : List (S72)) (x11_2 : Int), v11 = .int .i64 x11_2 ∧ Aside0 (zbb kq l0 a1 x5_1 x9_2 x10_2 x11_2 = some r) ∧ Aside0 (kq ≤ k1) ∧ Aside0 (Kd.R Kd.bool 4 w' w.heap.size (fun _ => True) (.slice (some ⟨go8, 0, none⟩) x5_1.length co8) x5_1) ∧ Aside0 (Kd.R (Kd.int .i64) 3 w' w.heap.size (fun _ => True) v115 x9_2) ∧ Aside0 (Kd.R k72 72 w' w.heap.size (fun _ => True) v10 x10_2) ∧ Aside0 (Below w.heap.size w w'))
 case atStart => exact ⟨(y114), (([] : List (S72))), (0), zq6, H', ⟨zlr _⟩, ⟨zq22 HO_5⟩, ⟨zq22 HO116⟩, ⟨by (try simp only [hl5_1]); first | exact Kd.R_nil _ _ _ _ _ | exact Kd.N_nil _ _ _ _ _ | exact Kd.V_nil _ _ _ _ _ | exact Kd.Q_nil _ _ _ _ _ | exact Kd.S_nil _ _ _ _ _⟩, ⟨zq1⟩⟩
 clear H'
 try clear c1
 try clear p1
 try clear q1
 try clear hx1
 try clear c2
 try clear p2
 try clear q2
 try clear hx2
 try clear hf2
 try clear c3
 try clear p3
 try clear q3
 try clear hx3
 try clear hf3
 try clear c4
 try clear c4b0
 try clear c4b1
 try clear c5
 try clear c5b0
 try clear c5b1
 try clear c6
 try clear c6b0
 try clear p6
 try clear c7
 try clear c7b0
 try clear p8
 try clear q8
 try clear hx8
 try clear hf8
 try clear p10
 try clear q10
 try clear hx10
 try clear c11
 try clear p11
 try clear q11
 try clear hx11
 try clear c13
 try clear c13b0
 try clear c14
 try clear c14b0
 try clear c15
 try clear c15b0
 try clear c19
 try clear c19b0
 try clear c20
 try clear c20b0
 try clear c21
 try clear c21b0
 try clear c22
 try clear c22b0
 try clear c23
 try clear c23b0
 try clear q24
 try clear c25
 try clear p26
 try clear q26
 try clear hx26
 try clear hf26
 try clear c29
 try clear c29b0
 try clear c30
 try clear c30b0
 try clear p31
 try clear q31
 try clear hx31
 try clear hf31
 try clear c35
 try clear c35b0
 try clear c35b1
 try clear c36
 try clear c36b0
 try clear c36b1
 try clear hx105_0
 try clear hx105_1
 try clear hx105_2
 try clear hx105_3
 try clear hx109_0
 try clear hx110_0
 try clear hx112_0
 try clear hx26_0
 try clear hx31_0
 try clear hx8_0
 try clear p1
 try clear p10
 try clear p105
 try clear p109
 try clear p110
 try clear p112
 try clear p2
 try clear p26
 try clear p31
 try clear p6
 try clear p8
 try clear q1
 try clear q10
 try clear q105
 try clear q109
 try clear q110
 try clear q112
 try clear q26
 try clear q31
 try clear q8
 obtain ⟨x9_2, x10_2, x11_2, rfl, HA, HK2, HO_5, HO_9, HO_10, HB⟩ := hrel
 cases gk with
 | zero => exact absurd HA.out (by simp [zbb])
 | succ k2 =>
 have H := HA.out
 clear HA
 simp only [zbb] at H
 revert H
 refine zit (fun c39 H => ?_) fun c39 H => ?_
 rotate_left
 · obtain rfl := zsi H
   go_wp2
   go_ret
   exact ⟨_, by first | rfl | (simp [zf1, zf2] <;> rfl) | (simp only [← hji3, ← hji34]; first | rfl | (simp [zf1, zf2] <;> rfl)) | (simp [*, zf1, zf2] <;> rfl), zq3 HO_10, zq1⟩
 revert H
 refine zin fun c40 H => ?_
 revert H
 refine zin fun c41 H => ?_
 obtain ⟨bq42, hbq42⟩ : ∃ b_ : Bool, b_ = (rdOf false x5_1 x11_2) := ⟨_, rfl⟩
 replace H : (if bq42 = true then (if x11_2 < (x9_2.length : Int) then ((some (x9_2.set (x11_2 : Int).toNat (x10_2.length : Int) : List Int)).bind fun y118 => (if x11_2 < (l0.length : Int) then ((zdm k2 ((zab l0 x11_2).f0) ((zab l0 x11_2).f1) ((zab l0 x11_2).f2) ((zab l0 x11_2).f3) y118).bind fun bt120 => (if x10_2.length < 3518437208883 then (zbb k2 l0 a1 x5_1 y118 (x10_2 ++ [(⟨bt120.1, bt120.2.1, bt120.2.2.1, bt120.2.2.2⟩ : S72)]) (wrap64 (x11_2 + 1))) else (none))) else (none))) else (none)) else (zbb k2 l0 a1 x5_1 x9_2 x10_2 (wrap64 (x11_2 + 1)))) = some r := by rw [← hbq42] at H; exact H
 have Nbq42 := zA hbq42
 clear hbq42
 by_cases c43 : bq42 = true
 rotate_left
 · replace c43 := zbf c43
   subst c43
   replace H : (zbb k2 l0 a1 x5_1 x9_2 x10_2 (wrap64 (x11_2 + 1))) = some r := by rw [if_neg (show ¬ (false = true) by decide)] at H; exact H
   have H' := zA H
   clear H
   have p117 : 0 ≤ (x11_2 : Int) := zde zq16
   have q117 : x11_2 < (x5_1.length : Int) := zde zq16
   obtain ⟨ad117, e117, hx117_0⟩ := Kd.at_bool (zRr HO_5.out).2.2 x11_2 p117 q117
   (try rw [← Nbq42.out] at hx117_0)
   obtain rfl : (⟨go8, 0, none⟩ : Addr) = ad117 := (by injection e117)
   (first | simp only [zcw] at hx117_0 | simp only [zlh] at hx117_0 | simp only [Addr.add, Nat.zero_add] at hx117_0 | skip)
   replace p117 := eq_true p117
   replace q117 := eq_true q117
   go_wp2
   go_roundg k2
   case measure => have := HK1.out; have := HK2.out; omega
   case rel => exact ⟨(x9_2), (x10_2), (wrap64 (x11_2 + 1)), zq6, H', ⟨zq40 HK1 HK2⟩, ⟨zq22 HO_5⟩, ⟨zq22 HO_9⟩, ⟨zq22 HO_10⟩, ⟨zq1⟩⟩
 subst c43
 replace H : (if x11_2 < (x9_2.length : Int) then ((some (x9_2.set (x11_2 : Int).toNat (x10_2.length : Int) : List Int)).bind fun y118 => (if x11_2 < (l0.length : Int) then ((zdm k2 ((zab l0 x11_2).f0) ((zab l0 x11_2).f1) ((zab l0 x11_2).f2) ((zab l0 x11_2).f3) y118).bind fun bt120 => (if x10_2.length < 3518437208883 then (zbb k2 l0 a1 x5_1 y118 (x10_2 ++ [(⟨bt120.1, bt120.2.1, bt120.2.2.1, bt120.2.2.2⟩ : S72)]) (wrap64 (x11_2 + 1))) else (none))) else (none))) else (none)) = some r := by rw [if_pos rfl] at H; exact H
 revert H
 refine zin fun c44 H => ?_
 obtain ⟨y118, hy118⟩ : ∃ y_ : List Int, y_ = (x9_2.set (x11_2 : Int).toNat (x10_2.length : Int)) := ⟨_, rfl⟩
 replace H : (if x11_2 < (l0.length : Int) then ((zdm k2 ((zab l0 x11_2).f0) ((zab l0 x11_2).f1) ((zab l0 x11_2).f2) ((zab l0 x11_2).f3) y118).bind fun bt120 => (if x10_2.length < 3518437208883 then (zbb k2 l0 a1 x5_1 y118 (x10_2 ++ [(⟨bt120.1, bt120.2.1, bt120.2.2.1, bt120.2.2.2⟩ : S72)]) (wrap64 (x11_2 + 1))) else (none))) else (none)) = some r := by first | (rw [hy118]; with_reducible exact H) | (have H2_ := (Option.bind_some _ _).symm.trans H; rw [hy118]; with_reducible exact H2_) | (have H2_ := (Option.bind_some _ _).symm.trans H; with_reducible exact H2_) | with_reducible exact H | (rw [hy118]; exact H) | exact H
 have Ny118 := zA hy118
 clear hy118
 revert H
 refine zin fun c46 H => ?_
 replace H := zob H
 obtain ⟨⟨t120, t121, t122, t123⟩, A470, H⟩ := H
 replace H : (if x10_2.length < 3518437208883 then (zbb k2 l0 a1 x5_1 y118 (x10_2 ++ [(⟨t120, t121, t122, t123⟩ : S72)]) (wrap64 (x11_2 + 1))) else (none)) = some r := H
 have A47 := zA A470
 clear A470
 by_cases c48 : x10_2.length < 3518437208883
 rotate_left
 · rw [if_neg c48] at H
   exact absurd H (by simp)
 rw [if_pos c48] at H
 have LMc48 := zA c48
 clear c48
 obtain ⟨y124, hy124⟩ : ∃ y_ : List (S72), y_ = (x10_2 ++ [(⟨t120, t121, t122, t123⟩ : S72)]) := ⟨_, rfl⟩
 replace H : (zbb k2 l0 a1 x5_1 y118 y124 (wrap64 (x11_2 + 1))) = some r := by first | (rw [hy124]; with_reducible exact H) | (have H2_ := (Option.bind_some _ _).symm.trans H; rw [hy124]; with_reducible exact H2_) | (have H2_ := (Option.bind_some _ _).symm.trans H; with_reducible exact H2_) | with_reducible exact H | (rw [hy124]; exact H) | exact H
 have Ny124 := zA hy124
 clear hy124
 have H' := zA H
 clear H
 have p117 : 0 ≤ (x11_2 : Int) := zde zq16
 have q117 : x11_2 < (x5_1.length : Int) := zde zq16
 obtain ⟨ad117, e117, hx117_0⟩ := Kd.at_bool (zRr HO_5.out).2.2 x11_2 p117 q117
 (try rw [← Nbq42.out] at hx117_0)
 obtain rfl : (⟨go8, 0, none⟩ : Addr) = ad117 := (by injection e117)
 (first | simp only [zcw] at hx117_0 | simp only [zlh] at hx117_0 | simp only [Addr.add, Nat.zero_add] at hx117_0 | skip)
 replace p117 := eq_true p117
 replace q117 := eq_true q117
 obtain ⟨Ao49, co49, eo49⟩ := Kd.R_slice HO_10.out
 subst eo49
 have p45 : 0 ≤ (x11_2 : Int) := zde zq16
 have q45 : (x11_2 : Int) < ((x9_2.length : Int) : Int) := zde zq16
 obtain ⟨go45, co45, eo45, gb45, gl45, cl45, HG45⟩ := Kd.R_form HO_9.out (by omega)
 (first | cases eo45 | (injection eo45 with ea_ en_ ec_; (first | subst ea_ | (injection ea_ with ea_; subst ea_)); subst ec_; clear en_))
 have GB45 := zA gb45
 have GG45 := zA HG45
 clear gb45 gl45 HG45
 obtain ⟨hx45_0, hf45_0⟩ := Kd.R_celln 0 HO_9.out (x11_2 : Int) p45 q45
 replace p45 := eq_true p45
 replace q45 := eq_true q45
 have HP50 := Kd.R_putg HO_9.out (x11_2 : Int) (x10_2.length : Int)
 go_wp2_with (first | ((with_reducible refine zgs 3 63 ?_); refine zse (wr.setCell ⟨go45, (x11_2 : Int).toNat, none⟩ (.int .i64 (x10_2.length : Int))) ?_; intro w51 hw; have hg : wr.grownBy w51 (some go45) := (by rw [hw]; exact HP50.2); have hp_ : Kd.R (Kd.int .i64) 3 w51 w.heap.size (fun _ => True) (.slice (some ⟨go45, 0, none⟩) x9_2.length co45) y118 := (by rw [hw, Ny118.out]; exact HP50.1); clear HP50; replace HO_5 := zA (Kd.R_over' (v := (.slice (some ⟨go45, 0, none⟩) x9_2.length co45)) (zq3 HO_5) (Kd.R_typed HO_9.out) (by decide) hg); replace HO_10 := zA (Kd.R_over' (v := (.slice (some ⟨go45, 0, none⟩) x9_2.length co45)) (zq3 HO_10) (Kd.R_typed HO_9.out) (by decide) hg); replace HO_9 := zA (hp_); replace HB := zA ((zq32 GB45 : Below w.heap.size w w51)); clear hg hw hp_; have p119 : 0 ≤ (x11_2 : Int) := zde zq16; have q119 : x11_2 < (l0.length : Int) := zde zq16; obtain ⟨ad119, e119, hx119_0, hx119_1, hx119_2, hx119_3⟩ := zd0 HR0.out x11_2 p119 q119; cases e119; replace hx119_0 := zkep HB.out hx119_0; replace hx119_1 := zkep HB.out hx119_1; replace hx119_2 := zkep HB.out hx119_2; replace hx119_3 := zkep HB.out hx119_3; replace p119 := eq_true p119; replace q119 := eq_true q119) | ((with_reducible refine zax (f := 165) rfl ?_); refine zdu (some 70) rfl rfl Try.func165 zq23 rfl #[.agg #[.string ((zab l0 x11_2).f0), .int .i64 ((zab l0 x11_2).f1), .int .i64 ((zab l0 x11_2).f2), .int .i64 ((zab l0 x11_2).f3)], .slice (some ⟨go45, 0, none⟩) y118.length co45] rfl (by (try simp only [List.map_toArray, List.map_cons, List.map_nil]); first | done | (rw [show y118.length = x9_2.length from (zRr HO_9.out).1.symm] <;> rfl) | rfl | (simp only [List.length_drop, List.length_take]; rfl)) ?_; (with_reducible refine (zl7 k2 ((zab l0 x11_2).f0) ((zab l0 x11_2).f1) ((zab l0 x11_2).f2) ((zab l0 x11_2).f3) _ _ y118 t120 t121 t122 t123 _ ?side1 ?side2 A47.out).mono ?_); (case side1 => repeat (first | exact (zRr HO_9.out).2.2 | (with_reducible first | refine zCa ?_ _ | refine zCn ?_ _ | refine zCd ?_))); (case side2 => rw [show y118.length = x9_2.length from (zRr HO_9.out).1.symm]; exact (zRr HO_9.out).2.1); rintro e w52 ⟨rfl, hb⟩; refine ⟨_, rfl, ?_⟩; replace HO_5 := zA (zRb (zq3 HO_5) hb); replace HO_9 := zA (zRb (zq3 HO_9) hb); replace HO_10 := zA (zRb (zq3 HO_10) hb); replace HB := zA (zad zq1 hb); (try clear hb)) | ((with_reducible refine zfb (b := .append) (xs := #[.tmp 64, .tmp 71]) rfl ?_); at_builtin; refine Kd.R_append k72 (w0 := w) w.heap.size rfl (.tmp 64) (.tmp 71) 24 72 (.agg #[(.string ⟨#[]⟩), (.int .i64 0), (.int .i64 0), (.int .i64 0)]) 40 rfl Try.underlying24 znq rfl (by decide) (by omega) (.slice Ao49 x10_2.length co49) x10_2 (⟨t120, t121, t122, t123⟩ : S72) [.string t120, .int .i64 t121, .int .i64 t122, .int .i64 t123] (fun _ => True) (fun _ => False) rfl rfl ?aP (fun _ hk => hk.elim) ?aF ?aO ?aB ?aS ?aL ?_; (case aP => exact ze2 _ _ _ (⟨t120, t121, t122, t123⟩ : S72)); (case aB => exact zq1); (case aF => exact (fun _ _ => trivial)); (case aO => exact (zq3 HO_10)); (case aS => exact (zar zq1)); (case aL => have := LMc48.out; omega); intro v125 w53 ho hb hg hat; rw [← Ny124.out] at ho; replace HO_5 := zA (Kd.R_over' (zq3 HO_5) (Kd.R_typed (zq3 HO_10)) (by decide) hg); replace HO_9 := zA (Kd.R_over' (zq3 HO_9) (Kd.R_typed (zq3 HO_10)) (by decide) hg); replace HB := zA (hb); have HO126 := zA (ho); clear HO_10; clear ho hb hg hat))
 go_roundg k2
 case measure => have := HK1.out; have := HK2.out; omega
 case rel => exact ⟨(y118), (y124), (wrap64 (x11_2 + 1)), zq6, H', ⟨zq40 HK1 HK2⟩, ⟨zq22 HO_5⟩, ⟨zq22 HO_9⟩, ⟨zq22 HO126⟩, ⟨zq1⟩⟩
end Go.Proofs.Ytkfkbmlbpeojaaa.Q
end
section
namespace Go.Proofs.Ytkfkbmlbpeojaaa.Q
open Go.RowKit Go.Proofs.YtkfkbmlbpeojaaaW.PrintWords Go.Proofs.YtkfkbmlbpeojaaaW.PrintLast Go.Proofs.YtkfkbmlbpeojaaaW.PrintMore
attribute [local go_sem] zcs zct zdo zdp zb2 zb3 zcu zcv
set_option linter.unusedVariables false
set_option linter.unusedSimpArgs false
structure EfX (wr : World) (gx : Nat) (x : S72) (Ap : Option Addr) (cp : Nat) (ps : List Int) (W : World) : Prop where
 below : Below wr.heap.size wr W
 bx : W.heap[gx]? = some (.cells #[.string x.f0, .int .i64 x.f1, .int .i64 x.f2, .int .i64 x.f3] 72 (0, 0))
 ps : Kd.R (Kd.int .i64) 3 W wr.heap.size (fun _ => True) (.slice Ap ps.length cp) ps
theorem EfX.step {wr W W1 : World} {gx : Nat} {x : S72} {Ap : Option Addr} {cp : Nat} {ps : List Int} (h : EfX wr gx x Ap cp ps W) (hb : Below W.heap.size W W1) : EfX wr gx x Ap cp ps W1 := ⟨zad h.below hb, zaf h.bx hb, zRb h.ps hb⟩
def efIn (out : List S72) : List Int → Bool → Option Bool
 | [], b => some b
 | p :: ps, b => if b = true then (if 0 ≤ p ∧ p < (out.length : Int) then efIn out ps ((zab out p).f0.toList == ([99, 111, 110, 115, 116] : List UInt8)) else none) else efIn out ps false
def efSt (k : Nat) (out : List S72) (u : Nat) : Option (List S72) := (zcq k (zab out (u : Int)).f0 (zab out (u : Int)).f1 (zab out (u : Int)).f2 (zab out (u : Int)).f3).bind fun ps =>
 (efIn out ps (decide (0 < ps.length))).bind fun b => if b = true then
   (if (0 ≤ (zab out (u : Int)).f1 ∧ (zab out (u : Int)).f1 < (out.length : Int)) ∧ (1 < ps.length → 0 ≤ (zab out (u : Int)).f2 ∧ (zab out (u : Int)).f2 < (out.length : Int)) then
     (zet (zab out (u : Int)).f0 (zab out (zab out (u : Int)).f1).f3 (if 1 < ps.length then (zab out (zab out (u : Int)).f2).f3 else 0)).bind fun v => some (out.set u (fdC v)) else none) else some out
def efL (k : Nat) : Nat → Nat → List S72 → Option (List S72)
 | 0, _, out => some out
 | d + 1, u, out => (efSt k out u).bind fun o => efL k d (u + 1) o
theorem zv6 (k : Nat) (out o : List S72) (u : Nat) (h : efSt k out u = some o) : o.length = out.length := by
 unfold efSt at h
 obtain ⟨ps, _, h⟩ := Option.bind_eq_some_iff.1 h
 obtain ⟨b, _, h⟩ := Option.bind_eq_some_iff.1 h
 split at h
 · split at h
   · obtain ⟨v, _, h⟩ := Option.bind_eq_some_iff.1 h
     obtain rfl := zsi h
     simp
   · cases h
 · obtain rfl := zsi h
   rfl
def zds (k : Nat) (o : List S72) : Option (List S72) := if o.length < 1048576 then (efL k o.length 0 o).bind fun o2 => if o2.length = o.length then zeg k o2 ((o.length : Int) - 1) else none else none
set_option maxHeartbeats 4000000 in
set_option maxRecDepth 100000 in
theorem znb (k : Nat) (A0 : Option Addr) (c0 : Nat) (o : List S72) (r : List S72) (w : World) (hr0 : Kd.C k72 w A0 o.length o) (hc0 : o.length ≤ c0) (h : zds k o = some r) :
   Calls Try.prog 123 #[.slice A0 o.length c0] w fun e w' => ∃ v0_ : Value, e = .returned (v0_) ∧ Kd.R k72 72 w' w.heap.size (fun _ => True) v0_ r ∧ Below w.heap.size w w' := by
 unfold zds at h
 by_cases hol : o.length < 1048576
 rotate_left
 · rw [if_neg hol] at h
   cases h
 rw [if_pos hol] at h
 obtain ⟨o2, ho2, h⟩ := Option.bind_eq_some_iff.1 h
 by_cases hl2 : o2.length = o.length
 rotate_left
 · rw [if_neg hl2] at h
   cases h
 rw [if_pos hl2] at h
 have HO2 := zA ho2
 have HH := zA h
 have HR := zA hr0
 have HC := zA hc0
 have HL2 := zA hl2
 have HOL := zA hol
 clear h ho2 hr0 hc0 hl2
 go_enter Try.func123, Try.ntmps123
 go_wp2_with (first
   | ((with_reducible refine zek (N := 11) rfl ?_); go_must (refine Kd.R_lit k72 _ 72 ?hg (N := 11) ?hd (w0 := w) (xs := ([] : List S72)) (inner := []) (ok := fun _ => True) (okp := fun _ => True) ?hr ?hp (fun _ hk => hk) trivial (Below.refl _ _) (zlr _) (by simp) ?_; (case hd => rfl); (case hg => rfl); (case hr => go_simp <;> rfl); (case hp => exact (Reps.none _ _)); intro v0 w2 h2 hb hg_ hnew_; have HV0 := zA h2; have HB0 := zA hb; clear h2 hb hg_ hnew_))
   | ((with_reducible refine zfb (b := .append) (xs := #[.tmp 11, .tmp 12]) rfl ?_); at_builtin; go_must (refine Kd.R_append_rows k72 (w0 := w) w.heap.size rfl (.tmp 11) (.tmp 12) 24 72 (.agg #[(.string ⟨#[]⟩), (.int .i64 0), (.int .i64 0), (.int .i64 0)]) 40 rfl Try.underlying24 znq rfl (by decide) (by omega) v0 [] o _ _ _ (fun _ => True) (fun _ => False) rfl rfl ?aO ?aR (fun _ _ h => h) (fun _ h => h.elim) ?aF ?aB ?aS ?aL ?_; (case aR => exact zCb HR.out HB0.out); (case aB => exact HB0.out); (case aF => exact fun _ _ => trivial); (case aO => exact HV0.out); (case aS => exact HB0.out.size); (case aL => have := HOL.out; simp; omega); intro v3 w3 hv3 hb3 hg3 hat3; rw [List.nil_append] at hv3; obtain ⟨A3, c3, rfl⟩ := Kd.R_slice hv3; have HV := zA hv3; have HB := zA hb3; clear hv3 hb3 hg3 hat3)))
 go_loopw [16] (fun v16 wr => ∃ (u : Nat) (out : List S72), v16 = .int .i64 (u : Int) ∧ u ≤ o.length ∧ Aside0 (out.length = o.length) ∧ Aside0 (efL k (o.length - u) u out = some o2) ∧ Aside0 (Below w.heap.size w wr) ∧ Aside0 (Kd.R k72 72 wr w.heap.size (fun _ => True) (.slice A3 o.length c3) out)) (fun v16 _ => o.length - (intOf v16).toNat)
 case atStart => exact ⟨0, o, rfl, Nat.zero_le _, ⟨rfl⟩, HO2, HB, HV⟩
 clear HV HB HO2
 obtain ⟨u, out, rfl, hu, HLO, HL, HB, HV⟩ := hrel
 obtain ⟨wo, hwo⟩ : ∃ q, q = wr := ⟨_, rfl⟩
 subst hwo
 by_cases hlt : u < o.length
 rotate_left
 · obtain rfl : u = o.length := by omega
   have d1 : decide ((o.length : Int) < o.length) = false := zdf (by omega)
   have h := HL.out
   rw [Nat.sub_self] at h
   obtain rfl := zsi h
   clear h HL
   have hv := HV.out
   have hlen := HLO.out
   rw [← hlen] at hv
   have HRD := zA (zRr hv)
   clear hv hlen
   go_wp2_with (go_at_call 114; go_must (rw [← HLO.out]; refine (zjp k A3 c3 out ((out.length : Int) - 1) r _ HRD.out.2.2 HRD.out.2.1 (by rw [HLO.out]; exact HH.out)).mono ?_; rintro e w6 ⟨v6, rfl, hv6, hb6⟩; have HV6 := zA hv6; have HB6 := zA hb6; clear hv6 hb6))
   go_ret
   exact ⟨_, rfl, Kd.R_lower HV6.out HB.out.size, zad HB.out HB6.out⟩
 have d1 : decide ((u : Int) < o.length) = true := zdt (by omega)
 have d2 : (0 : Int) ≤ (u : Int) := by omega
 have d3 : (u : Int) < o.length := by omega
 obtain ⟨g, cp, e, hgb, hgl, _⟩ := Kd.R_form HV.out (by rw [HLO.out]; omega)
 injection e with e1 e2 e3
 subst e1
 clear e2 e3
 obtain ⟨x0, x1, x2, x3⟩ := zjb (Below.refl _ _) HV.out (u : Int) d2 d3
 rw [Int.toNat_natCast] at x0 x1 x2 x3
 have h := HL.out
 rw [show o.length - u = (o.length - (u + 1)) + 1 by omega] at h
 simp only [efL] at h
 obtain ⟨o', ho', h⟩ := Option.bind_eq_some_iff.1 h
 have HL' := zA h
 have HLO' := zA ((zv6 _ _ _ _ ho').trans HLO.out)
 unfold efSt at ho'
 obtain ⟨x, hx⟩ : ∃ n, n = zab out (u : Int) := ⟨_, rfl⟩
 rw [← hx] at x0 x1 x2 x3 ho'
 obtain ⟨ps, hps, ho'⟩ := Option.bind_eq_some_iff.1 ho'
 obtain ⟨bE, hsE, ho'⟩ := Option.bind_eq_some_iff.1 ho'
 have HPS := zA hps
 have HSE := zA hsE
 have HO' := zA ho'
 have HGL := zA hgl
 clear hx hps hsE ho' h HL hgl hgb
 go_wp2_with (first
   | ((with_reducible refine zek (N := 5) rfl ?_); go_must (refine zfl ?hg (N := 5) ?hd (cs := #[.string ⟨#[]⟩, .int .i64 0, .int .i64 0, .int .i64 0]) (t := 72) ?hr ?_; (case hd => rfl); (case hg => rfl); (case hr => go_simp <;> rfl); intro gx hg w5 hbox hb; have GX := zA hg; have BX := zA hbox; have HBR := zA hb; clear hg hbox hb))
   | ((with_reducible refine zhi (t := 72) (p := 5) rfl ?_); go_must (refine zhd rfl (t := 72) (p := 5) rfl rfl (g := gx) (u := .agg #[.string x.f0, .int .i64 x.f1, .int .i64 x.f2, .int .i64 x.f3]) (seg := [.string x.f0, .int .i64 x.f1, .int .i64 x.f2, .int .i64 x.f3]) rfl rfl BX.out rfl rfl rfl zq39 ?_; intro w6 hbb hbw hfar; have n1 := zA (HBR.out.trans (hbw _ (Nat.le_of_eq GX.out.symm))); clear HBR BX x0 x1 x2 x3; have HBR := n1; have BX := zA hbb; have y0 := zac BX.out 0; have y1 := zac BX.out 1; have y2 := zac BX.out 2; have y3 := zac BX.out 3; clear n1 hbb hbw hfar))
   | (go_at_call 143; go_must (refine (zcr k x.f0 x.f1 x.f2 x.f3 ps _ HPS.out).mono ?_; rintro e w9 ⟨v, rfl, hk, hb⟩; obtain ⟨Ap, cq, rfl⟩ := Kd.R_slice hk; have HX := zA (show EfX wo gx x Ap cq ps w9 from ⟨zad HBR.out hb, zaf BX.out hb, Kd.R_lower hk HBR.out.size⟩); clear HBR BX y0 y1 y2 y3 hk hb)))
 go_loopw [7, 28] (fun v7 v28 wq => ∃ (j : Nat) (b : Bool), v28 = .int .i64 (j : Int) ∧ v7 = .bool b ∧ j ≤ ps.length ∧ Aside0 (efIn out (ps.drop j) b = some bE) ∧ Aside0 (EfX wo gx x Ap cq ps wq)) (fun _ v28 _ => ps.length - (intOf v28).toNat)
 case atStart => exact ⟨0, decide (0 < ps.length), rfl, by first | rfl | (congr 1; apply decide_eq_decide.2; omega), Nat.zero_le _, HSE, HX⟩
 clear HX HSE
 obtain ⟨j, b, rfl, rfl, hj, HSE, HX⟩ := hrel
 by_cases hjl : j < ps.length
 · have hlen := (zRr HX.out.ps).2.2.2.1
   have e1 : decide ((j : Int) < ps.length) = true := zdt (by omega)
   have e2 : (0 : Int) ≤ (j : Int) := by omega
   have e3 : (j : Int) < ps.length := by omega
   obtain ⟨adk, ek, hck⟩ := Kd.at_int (zRr HX.out.ps).2.2 (j : Int) (by omega) (by omega)
   rw [Int.toNat_natCast] at hck
   subst ek
   have hs := HSE.out
   rw [List.drop_eq_getElem_cons hjl] at hs
   have hv : rd ps (j : Int) = ps[j] := by
     unfold rd
     rw [Int.toNat_natCast, List.getD_eq_getElem?_getD, List.getElem?_eq_getElem hjl]
     rfl
   rw [← hv] at hs
   obtain ⟨p, hp⟩ : ∃ p, p = rd ps (j : Int) := ⟨_, rfl⟩
   rw [← hp] at hs hck
   clear hv hp
   unfold efIn at hs
   cases b with
   | true =>
     rw [if_pos rfl] at hs
     by_cases hq : 0 ≤ p ∧ p < (out.length : Int)
     rotate_left
     · rw [if_neg hq] at hs
       cases hs
     rw [if_pos hq] at hs
     obtain ⟨P0, P1⟩ := hq
     rw [HLO.out] at P1
     obtain ⟨cb, b1⟩ : ∃ cb, ((zab out p).f0.toList == ([99, 111, 110, 115, 116] : List UInt8)) = cb := ⟨_, rfl⟩
     rw [b1] at hs
     have HS1 := zA hs
     obtain ⟨y0, y1, y2, y3⟩ := zjb HX.out.below HV.out p P0 P1
     clear hs HSE y1 y2 y3
     go_wp2_with fail
     go_roundw
     case rel => exact ⟨j + 1, cb, by go_num, rfl, by omega, HS1, HX⟩
     case measure => simp [intOf]; omega
   | false =>
     rw [if_neg Bool.false_ne_true] at hs
     have HS1 := zA hs
     clear hs HSE
     go_wp2_with fail
     go_roundw
     case rel => exact ⟨j + 1, false, by go_num, rfl, by omega, HS1, HX⟩
     case measure => simp [intOf]; omega
 obtain rfl : j = ps.length := by omega
 have e1 : decide ((ps.length : Int) < ps.length) = false := zdf (by omega)
 have hs := HSE.out
 rw [List.drop_length] at hs
 obtain rfl := zsi hs
 have ho' := HO'.out
 clear hs HSE HO'
 cases b with
 | true =>
   rw [if_pos rfl] at ho'
   by_cases hq : (0 ≤ x.f1 ∧ x.f1 < (out.length : Int)) ∧ (1 < ps.length → 0 ≤ x.f2 ∧ x.f2 < (out.length : Int))
   rotate_left
   · rw [if_neg hq] at ho'
     cases ho'
   rw [if_pos hq] at ho'
   obtain ⟨v, hap, ho'⟩ := Option.bind_eq_some_iff.1 ho'
   have HOO := zA (zsi ho')
   have HAP0 := zA hap
   have HQ := zA hq
   clear ho' hap hq
   go_upto_if 46 with fail
   go_cut [10] from 17 to 66 (fun v10 wx => v10 = .int .i64 (if 1 < ps.length then (zab out x.f2).f3 else 0) ∧ Aside0 (EfX wo gx x Ap cq ps wx))
   case first =>
     by_cases q : 1 < ps.length
     rotate_left
     · have d4 : decide (1 < ps.length) = false := zdf (by omega)
       have d5 : decide ((1 : Int) < ps.length) = false := zdf (by omega)
       first | rw [d4] | rw [d5]
       clear d4 d5
       have Q := zA q
       clear q
       go_wp2_with fail
       go_meet
       case rel => exact ⟨by rw [if_neg Q.out], HX⟩
     have d4 : decide (1 < ps.length) = true := zdt (by omega)
     have d5 : decide ((1 : Int) < ps.length) = true := zdt (by omega)
     first | rw [d4] | rw [d5]
     clear d4 d5
     obtain ⟨R0, R1⟩ := HQ.out.2 q
     rw [HLO.out] at R1
     have y2 := zac HX.out.bx 2
     obtain ⟨z0, z1, z2, z3⟩ := zjb HX.out.below HV.out x.f2 R0 R1
     have Q := zA q
     clear q z0 z1 z2
     go_wp2_with fail
     go_meet
     case rel => exact ⟨by rw [if_pos Q.out], HX⟩
   clear HX
   obtain ⟨rfl, HX⟩ := hcut
   obtain ⟨bv, hbv⟩ : ∃ z, z = (if 1 < ps.length then (zab out x.f2).f3 else 0) := ⟨_, rfl⟩
   rw [← hbv]
   have HAP := zA (show zet x.f0 (zab out x.f1).f3 bv = some v from by rw [hbv]; exact HAP0.out)
   obtain ⟨⟨Q0, Q1⟩, _⟩ := HQ.out
   rw [HLO.out] at Q1
   clear hbv HAP0
   go_wp2_with fail
   refine zja [[], [], [], [2], [], [], [5], [4, 5, 6], [4, 5, 6, 7], [4, 5, 6, 7, 8], [], [2, 3, 4, 5, 6, 7, 8, 9, 10], [2, 3, 4, 5, 6, 7, 8, 9, 10, 11], [0, 1, 2, 3, 4, 5, 6, 7, 8, 9, 10, 11, 12], [0, 1, 2, 3, 4, 5, 6, 7, 8, 9, 10, 11, 12, 13]] [[13, 14], [13, 14], [3, 11, 12, 13, 14], [11, 12, 13, 14], [7, 8, 9, 11, 12, 13, 14], [6, 7, 8, 9, 11, 12, 13, 14], [7, 8, 9, 11, 12, 13, 14], [8, 9, 11, 12, 13, 14], [9, 11, 12, 13, 14], [11, 12, 13, 14], [11, 12, 13, 14], [12, 13, 14], [13, 14], [14], []] (zbi [.slice (some ⟨g, 0, none⟩) o.length c3, .int .i64 (u : Int), .pointer (some ⟨gx, 0, none⟩), .string x.f0, .slice (some ⟨g, 0, none⟩) o.length c3, .pointer (some ⟨gx, 1, none⟩), .int .i64 x.f1, .pointer (some ⟨g, x.f1.toNat * 4, none⟩), .pointer (some ⟨g, x.f1.toNat * 4 + 3, none⟩), .int .i64 (zab out x.f1).f3, .int .i64 bv, .int .i64 v, .agg #[.string ⟨#[99, 111, 110, 115, 116]⟩, .int .i64 0, .int .i64 0, .int .i64 v], .pointer (some ⟨g, u * 4, none⟩), undef]) (fun L W => (L 14 = false → EfX wo gx x Ap cq ps W) ∧ (L 14 = true → Kd.R k72 72 W w.heap.size (fun _ => True) (.slice (some ⟨g, 0, none⟩) o.length c3) (out.set u (fdC v)) ∧ Below w.heap.size w W))
     rfl (fun _ _ _ _ _ h => h) zq23 ?_ ⟨?_, ?_, ?_, ?_, ?_, ?_, ?_, ?_, ?_, ?_, ?_, ?_, ?_, ?_, ?_, trivial⟩ ?_
   · exact ⟨fun _ => HX.out.step (zco (Below.refl _ _)), fun h => Bool.noConfusion h⟩
   · refine fun L W hu hd hn hJ => zap (by rfl) hJ ?_
     clear hJ
     generalize hev : Act.eval (zag _ _ _ _) = ev
     have t3 : ev (.tmp 3) = .slice (some ⟨g, 0, none⟩) o.length c3 := by rw [← hev]; rfl
     clear hev
     first | (go_simp; done) | (go_simp; rfl)
   · refine fun L W hu hd hn hJ => zap (by rfl) hJ ?_
     clear hJ
     generalize hev : Act.eval (zag _ _ _ _) = ev
     have t4 : ev (.tmp 4) = .int .i64 (u : Int) := by rw [← hev]; rfl
     clear hev
     first | (go_simp; done) | (go_simp; rfl)
   · refine fun L W hu hd hn hJ => zap (by rfl) hJ ?_
     clear hJ
     generalize hev : Act.eval (zag _ _ _ _) = ev
     have t5 : ev (.tmp 5) = .pointer (some ⟨gx, 0, none⟩) := by rw [← hev]; rfl
     clear hev
     first | (go_simp; done) | (go_simp; rfl)
   · refine fun L W hu hd hn hJ => zap (by rfl) hJ ?_
     have hF := hJ.1 (zay _ hn 14 (by decide))
     have yb := zac hF.bx 0
     clear hJ
     generalize hev : Act.eval (zag _ _ _ _) = ev
     have t55 : ev (.tmp 55) = .pointer (some ⟨gx, 0, none⟩) := by rw [← hev]; rfl
     clear hev
     first | (go_simp; done) | (go_simp; rfl)
   · refine fun L W hu hd hn hJ => zap (by rfl) hJ ?_
     clear hJ
     generalize hev : Act.eval (zag _ _ _ _) = ev
     have t3 : ev (.tmp 3) = .slice (some ⟨g, 0, none⟩) o.length c3 := by rw [← hev]; rfl
     clear hev
     first | (go_simp; done) | (go_simp; rfl)
   · refine fun L W hu hd hn hJ => zap (by rfl) hJ ?_
     clear hJ
     generalize hev : Act.eval (zag _ _ _ _) = ev
     have t5 : ev (.tmp 5) = .pointer (some ⟨gx, 0, none⟩) := by rw [← hev]; rfl
     clear hev
     first | (go_simp; done) | (go_simp; rfl)
   · refine fun L W hu hd hn hJ => zap (by rfl) hJ ?_
     have hF := hJ.1 (zay _ hn 14 (by decide))
     have yb := zac hF.bx 1
     clear hJ
     generalize hev : Act.eval (zag _ _ _ _) = ev
     have t58 : ev (.tmp 58) = .pointer (some ⟨gx, 1, none⟩) := by rw [← hev]; rfl
     clear hev
     first | (go_simp; done) | (go_simp; rfl)
   · refine fun L W hu hd hn hJ => zap (by rfl) hJ ?_
     clear hJ
     generalize hev : Act.eval (zag _ _ _ _) = ev
     have t57 : ev (.tmp 57) = .slice (some ⟨g, 0, none⟩) o.length c3 := by rw [← hev]; rfl
     have t59 : ev (.tmp 59) = .int .i64 x.f1 := by rw [← hev]; rfl
     clear hev
     first | (go_simp; done) | (go_simp; rfl)
   · refine fun L W hu hd hn hJ => zap (by rfl) hJ ?_
     clear hJ
     generalize hev : Act.eval (zag _ _ _ _) = ev
     have t60 : ev (.tmp 60) = .pointer (some ⟨g, x.f1.toNat * 4, none⟩) := by rw [← hev]; rfl
     clear hev
     first | (go_simp; done) | (go_simp; rfl)
   · refine fun L W hu hd hn hJ => zap (by rfl) hJ ?_
     have hF := hJ.1 (zay _ hn 14 (by decide))
     obtain ⟨y0, y1, y2, y3⟩ := zjb hF.below HV.out x.f1 Q0 Q1
     clear hJ
     generalize hev : Act.eval (zag _ _ _ _) = ev
     have t61 : ev (.tmp 61) = .pointer (some ⟨g, x.f1.toNat * 4 + 3, none⟩) := by rw [← hev]; rfl
     clear hev
     first | (go_simp; done) | (go_simp; rfl)
   · refine fun L W hu hd hn hJ => zap (by rfl) hJ ?_
     clear hJ
     generalize hev : Act.eval (zag _ _ _ _) = ev
     have t10 : ev (.tmp 10) = .int .i64 bv := by rw [← hev]; rfl
     clear hev
     first | (go_simp; done) | (go_simp; rfl)
   · intro L W hu hd hn hJ
     have hF := hJ.1 (zay _ hn 14 (by decide))
     refine zr0 Try.func173 zq23 rfl #[.string x.f0, .int .i64 (zab out x.f1).f3, .int .i64 bv] (by rfl) rfl zq35 ((zl6 x.f0 (zab out x.f1).f3 bv v W HAP.out).mono ?_)
     rintro e W' ⟨he, n, rfl⟩
     exact ⟨he, fun _ => hF.step (zbn (Below.refl _ _) n), fun h => absurd (h.symm.trans (zay _ hn 14 (by decide))) (by simp)⟩
   · refine fun L W hu hd hn hJ => zap (by rfl) hJ ?_
     clear hJ
     generalize hev : Act.eval (zag _ _ _ _) = ev
     have t64 : ev (.tmp 64) = .int .i64 v := by rw [← hev]; rfl
     have tc : ∀ v, ev (.const v) = v := fun v => by rw [← hev]; rfl
     clear hev
     first | (go_simp; done) | (go_simp; rfl)
   · refine fun L W hu hd hn hJ => zap (by rfl) hJ ?_
     clear hJ
     generalize hev : Act.eval (zag _ _ _ _) = ev
     have t53 : ev (.tmp 53) = .slice (some ⟨g, 0, none⟩) o.length c3 := by rw [← hev]; rfl
     have t54 : ev (.tmp 54) = .int .i64 (u : Int) := by rw [← hev]; rfl
     clear hev
     first | (go_simp; done) | (go_simp; rfl)
   · intro L W hu hd hn hJ
     have hF := hJ.1 hu
     have hR := zRb HV.out hF.below
     obtain ⟨y0, y1, y2, y3⟩ := zjb hF.below HV.out (u : Int) (by omega) (by omega)
     rw [Int.toNat_natCast] at y0 y1 y2 y3
     refine zw2 k72 (w0 := w) (x' := fdC v) w.heap.size (by rfl) rfl rfl rfl u _ [.string ⟨#[99, 111, 110, 115, 116]⟩, .int .i64 0, .int .i64 0, .int .i64 v] (by rfl) rfl (by rfl) rfl rfl zq39 hR hlt zt9 (zsr y0 y1 y2 y3) rfl (ze2 _ _ _ (fdC v)) (zad HB.out hF.below) ?_
     exact fun w1 h1 h2 => ⟨fun h => by simp [riUp] at h, fun _ => ⟨h1, h2⟩⟩
   · intro L W hL hJ
     have hG := hJ.2 (hL 14 rfl)
     have HG := zA hG
     clear hG hJ hL
     simp only [zag, riGo, zat, zas, za6, zbi, Nat.reduceBEq, Nat.reduceAdd, List.headD, List.tail, List.getD, List.getElem?_cons_zero, List.getElem?_cons_succ, Option.getD_some, cond_true, cond_false]
     go_wp2_with fail
     go_roundw
     case rel => exact ⟨u + 1, o', by go_num, by omega, HLO', HL', ⟨HG.out.2⟩, ⟨by rw [← HOO.out]; exact HG.out.1⟩⟩
     case measure => simp [intOf]; omega
 | false =>
   rw [if_neg Bool.false_ne_true] at ho'
   obtain rfl := zsi ho'
   clear ho'
   go_wp2_with fail
   go_roundw
   case rel => exact ⟨u + 1, out, by go_num, by omega, HLO', HL', ⟨zad HB.out HX.out.below⟩, ⟨zRb HV.out HX.out.below⟩⟩
   case measure => simp [intOf]; omega
theorem zud (k : Nat) (out : List S72) (u : Nat) : LeO (efSt k out u) (efSt (k + 1) out u) := by
 unfold efSt
 exact LeO.bind (zce _ _ _ _ _) (fun _ => LeO.refl _)
theorem zs2 (k : Nat) : ∀ (d u : Nat) (out : List S72), LeO (efL k d u out) (efL (k + 1) d u out)
 | 0, _, _ => LeO.refl _
 | d + 1, u, out => LeO.bind (zud k out u) (fun _ => zs2 k d (u + 1) _)
theorem zn4 : ∀ a0 k, LeO (zds k a0) (zds (k + 1) a0) := by
 intro a0 k
 unfold zds
 exact zbh (LeO.bind (zs2 _ _ _ _) (fun _ => zbh (zj7 _ _ _) (LeO.refl _))) (LeO.refl _)
end Go.Proofs.Ytkfkbmlbpeojaaa.Q
end
section
namespace Go.Proofs.Ytkfkbmlbpeojaaa.Q
open Go.RowKit Go.Proofs.YtkfkbmlbpeojaaaW.PrintWords Go.Proofs.YtkfkbmlbpeojaaaW.PrintLast Go.Proofs.YtkfkbmlbpeojaaaW.PrintMore
attribute [local go_sem] zcs zct zdo zdp zb2 zb3 zcu zcv
set_option linter.unusedVariables false
set_option linter.unusedSimpArgs false
attribute [local go_sem high] zy5
set_option linter.unusedVariables false
set_option linter.unusedSimpArgs false
def exEq (x y : S72) : Bool := x.f0.toList == y.f0.toList && (x.f1 == y.f1 && (x.f2 == y.f2 && (x.f3 == y.f3)))
def exIx (n : S72) : List S72 → Int → Int
 | [], _ => -1
 | x :: xs, i => if exEq x n = true then i else exIx n xs (i + 1)
def zdz (n : S72) (out : List S72) : List S72 × Int := if exIx n out 0 < 0 then (out ++ [n], out.length) else (out, exIx n out 0)
structure ExX (w0 : World) (gb r cr m : Nat) (s : List S72 × List Int) (vo : Value) (W : World) : Prop where
 below : Below w0.heap.size w0 W
 bb : W.heap[gb]? = some (.cells #[vo, .bool true] 147 (0, 0))
 lo : w0.heap.size ≤ gb
 out : Kd.R k72 72 W w0.heap.size (fun k => k ≠ gb ∧ k ≠ r) vo s.1
 rne : r ≠ gb
 nam : Kd.R (Kd.int .i64) 3 W w0.heap.size (fun k => k = r) (.slice (some ⟨r, 0, none⟩) m cr) s.2
section
variable {w0 : World} {gb r cr m : Nat} {s : List S72 × List Int} {vo v : Value} {W W1 : World}
theorem ExX.step (h : ExX w0 gb r cr m s vo W) (hb : Below W.heap.size W W1) : ExX w0 gb r cr m s vo W1 :=
 ⟨zad h.below hb, zaf h.bb hb, h.lo, zRb h.out hb, h.rne, zRb h.nam hb⟩
theorem ExX.setn (h : ExX w0 gb r cr m s vo W) (i x : Int) : ExX w0 gb r cr m (s.1, s.2.set i.toNat x) vo (W.setCell ⟨r, i.toNat, none⟩ (.int .i64 x)) :=
 ⟨h.below.setCell (p := ⟨r, i.toNat, none⟩) (Kd.R_base h.nam r rfl) _, za0 h.bb (fun e => h.rne zq46) _, h.lo, Kd.R_far h.out (p := ⟨r, i.toNat, none⟩) (fun k hk => hk.2) _, h.rne, Kd.R_putn h.nam i x⟩
theorem ExX.append (h : ExX w0 gb r cr m s vo W) {vo' : Value} {ys : List S72} (hR : Kd.R k72 72 W1 w0.heap.size (fun k => k ≠ gb ∧ k ≠ r) vo' ys) (hb : Below w0.heap.size w0 W1) (hg : W.grownBy W1 vo.ownBlock) : ExX w0 gb r cr m (ys, s.2) vo' (W1.setCell ⟨gb, 0, none⟩ vo') := by
 have bb : W1.heap[gb]? = _ := (hg.block gb (zb9 h.bb) (fun e => (h.out.1 gb e.symm).1 rfl)).trans h.bb
 exact ⟨hb.setCell (p := ⟨gb, 0, none⟩) h.lo _, by simpa using zan bb 0 vo', h.lo, Kd.R_far hR (p := ⟨gb, 0, none⟩) (fun k hk => hk.1) _, h.rne, Kd.R_far (Kd.R_grown h.nam hg (fun k hk e => (h.out.1 k e.symm).2 hk)) (p := ⟨gb, 0, none⟩) (fun k hk => by rw [hk]; exact h.rne) _⟩
end
def ExA (w0 : World) (gb r : Nat) (wr : World) (vo : Value) (ys : List S72) (V : World) (v' : Value) : Prop :=
 ∃ V1, Below wr.heap.size wr V1 ∧ Below w0.heap.size w0 V ∧ V1.grownBy V vo.ownBlock ∧ (v'.ownBlock = vo.ownBlock ∨ ∃ b, v'.ownBlock = some b ∧ V1.heap.size ≤ b) ∧ Kd.R k72 72 V w0.heap.size (fun k => k ≠ gb ∧ k ≠ r) v' ys
set_option maxHeartbeats 4000000 in
set_option maxRecDepth 100000 in
theorem zlo {w0 : World} {gb r cr m : Nat} (s : List S72 × List Int) (vo : Value) (W : World) (hX : ExX w0 gb r cr m s vo W) (n0 : ByteArray) (n1 n2 n3 : Int) (hl : s.1.length < 1048576) :
   Calls Try.prog 178 #[.pointer (some ⟨gb, 0, none⟩), .agg #[.string n0, .int .i64 n1, .int .i64 n2, .int .i64 n3]] W fun x W' => ∃ vo', x = .returned (.int .i64 (zdz ⟨n0, n1, n2, n3⟩ s.1).2) ∧ ExX w0 gb r cr m ((zdz ⟨n0, n1, n2, n3⟩ s.1).1, s.2) vo' W' ∧ ShFr gb r vo W vo' W' := by
 obtain ⟨Ao, co, rfl⟩ := Kd.R_slice hX.out
 have hCo := (zRr hX.out).2.2
 have q0 := zac hX.bb 0
 have q1 := zac hX.bb 1
 have HX := zA hX
 clear hX
 have HCO := zA hCo
 clear hCo
 go_enter Try.func178, Try.ntmps178
 go_wp2_with ((with_reducible refine zek (N := 3) rfl ?_); refine zfl ?hg (N := 3) ?hd (cs := #[.string n0, .int .i64 n1, .int .i64 n2, .int .i64 n3]) (t := 72) ?hr ?_; (case hd => rfl); (case hg => rfl); (case hr => go_simp <;> rfl); intro g hg w4 hbox hb; have HX4 := zA (HX.out.step hb); have HG := zA hbox; have HGE := zA (Nat.le_of_eq hg.symm); have HB4 := zA hb; have q0 := zac HX4.out.bb 0; have q1 := zac HX4.out.bb 1; clear hg hbox hb)
 obtain ⟨L, hL⟩ : ∃ L, L = exIx ⟨n0, n1, n2, n3⟩ s.1 0 := ⟨_, rfl⟩
 have HL := zA hL
 clear hL
 go_loopw [5, 6, 16] (fun v5 v6 v16 wr => ∃ u : Nat, v16 = .int .i64 (u : Int) ∧ u ≤ s.1.length ∧ Aside0 (Below w4.heap.size w4 wr) ∧ Aside0 (exIx ⟨n0, n1, n2, n3⟩ (s.1.drop u) u = L)) (fun _ _ v16 _ => s.1.length - (intOf v16).toNat)
 case atStart => exact ⟨0, rfl, Nat.zero_le _, ⟨Below.refl _ _⟩, ⟨by rw [List.drop_zero]; exact HL.out.symm⟩⟩
 obtain ⟨u, rfl, hu, HBr, HS⟩ := hrel
 by_cases hlt : u < s.1.length
 · have d1 : decide ((u : Int) < s.1.length) = true := zdt (by omega)
   have d2 : (0 : Int) ≤ (u : Int) := by omega
   have d3 : (u : Int) < s.1.length := by omega
   obtain ⟨ad, eA, x0, x1, x2, x3⟩ := zd0 (zCb (zRr HX4.out.out).2.2 HBr.out) (u : Int) d2 d3
   rw [Int.toNat_natCast] at x0 x1 x2 x3
   subst eA
   have hg := zaf HG.out HBr.out
   obtain ⟨x, hx⟩ : ∃ x, x = zab s.1 (u : Int) := ⟨_, rfl⟩
   rw [← hx] at x0 x1 x2 x3
   have hdr : s.1.drop u = x :: s.1.drop (u + 1) := by
     rw [List.drop_eq_getElem_cons hlt, hx]
     unfold zab
     rw [Int.toNat_natCast, List.getD_eq_getElem?_getD, List.getElem?_eq_getElem hlt]
     rfl
   have hs := HS.out
   rw [hdr] at hs
   unfold exIx at hs
   have t0 : ∀ V, Below wr.heap.size wr V → V.cell? ⟨g, 0, none⟩ = some (.string n0) := fun V h => zac (zaf hg h) 0
   have t1 : ∀ V, Below wr.heap.size wr V → V.cell? ⟨g, 1, none⟩ = some (.int .i64 n1) := fun V h => zac (zaf hg h) 1
   have t2 : ∀ V, Below wr.heap.size wr V → V.cell? ⟨g, 2, none⟩ = some (.int .i64 n2) := fun V h => zac (zaf hg h) 2
   have t3 : ∀ V, Below wr.heap.size wr V → V.cell? ⟨g, 3, none⟩ = some (.int .i64 n3) := fun V h => zac (zaf hg h) 3
   have hb := zba (Below.refl wr.heap.size wr) (.cells #[.string x.f0, .int .i64 x.f1, .int .i64 x.f2, .int .i64 x.f3] 72)
   have y0 := t0 _ hb
   have y1 := t1 _ hb
   have y2 := t2 _ hb
   have y3 := t3 _ hb
   have HBA := zA (zad HBr.out hb)
   clear t0 t1 t2 t3 hb hg hdr hx HS
   by_cases c : exEq x ⟨n0, n1, n2, n3⟩ = true
   rotate_left
   · rw [if_neg c] at hs
     have HS := zA hs
     have d4 : (x.f0.toList == n0.toList && (x.f1 == n1 && (x.f2 == n2 && (x.f3 == n3)))) = false := by simpa [exEq] using c
     clear hs c
     go_wp2_with fail
     go_roundw
     case rel => exact ⟨u + 1, by go_num, by omega, HBA, ⟨by rw [show ((u + 1 : Nat) : Int) = (u : Int) + 1 from rfl]; exact HS.out⟩⟩
     case measure => simp [intOf]; omega
   rw [if_pos c] at hs
   have HS := zA hs
   have d4 : (x.f0.toList == n0.toList && (x.f1 == n1 && (x.f2 == n2 && (x.f3 == n3)))) = true := c
   clear hs c
   go_wp2_with fail
   go_ret
   have e : zdz ⟨n0, n1, n2, n3⟩ s.1 = (s.1, (u : Int)) := by
     unfold zdz
     rw [← HL.out, ← HS.out, if_neg (by omega)]
   rw [e]
   exact ⟨_, rfl, HX4.out.step HBA.out, ((ShFr.refl _ _ _ _).step HB4.out).step HBA.out⟩
 obtain rfl : u = s.1.length := by omega
 have d1 : decide ((s.1.length : Int) < s.1.length) = false := zdf (by omega)
 go_wp2_with fail
 have hs := HS.out
 rw [List.drop_length] at hs
 have HS' := zA (show (-1 : Int) = L from hs)
 clear hs HS
 have HX5 := zA (HX4.out.step HBr.out)
 have HG5 := zA (zaf HG.out HBr.out)
 refine zhm [[], [], [1], [1, 2], [1, 2, 3], [], [5], [1, 2, 3, 4, 5, 6], [0, 1, 2, 3, 4, 5, 6, 7], [0, 1, 2, 3, 4, 5, 6, 7, 8], [0, 1, 2, 3, 4, 5, 6, 7, 8, 9]] [[8, 9, 10], [2, 3, 4, 7, 8, 9, 10], [3, 4, 7, 8, 9, 10], [4, 7, 8, 9, 10], [7, 8, 9, 10], [6, 7, 8, 9, 10], [7, 8, 9, 10], [8, 9, 10], [9, 10], [10], []]
   (fun L s_ V => (L 7 = false → Below wr.heap.size wr V) ∧ (L 7 = true → L 10 = false → ExA w0 gb r wr (.slice Ao s.1.length co) (s.1 ++ [(⟨n0, n1, n2, n3⟩ : S72)]) V (s_ 7)) ∧ (L 10 = true → ∃ V2, ExA w0 gb r wr (.slice Ao s.1.length co) (s.1 ++ [(⟨n0, n1, n2, n3⟩ : S72)]) V2 (s_ 7) ∧ V = V2.setCell ⟨gb, 0, none⟩ (s_ 7)) ∧
     (L 0 = true → s_ 0 = .pointer (some ⟨gb, 0, none⟩)) ∧ (L 1 = true → s_ 1 = .pointer (some ⟨gb, 0, none⟩)) ∧ (L 2 = true → s_ 2 = .pointer (some ⟨gb, 0, none⟩)) ∧ (L 3 = true → s_ 3 = .pointer (some ⟨gb, 0, none⟩)) ∧ (L 4 = true → s_ 4 = .slice Ao s.1.length co) ∧ (L 5 = true → s_ 5 = .agg #[.string n0, .int .i64 n1, .int .i64 n2, .int .i64 n3]) ∧
     (L 6 = true → L 7 = false → ∃ A c, s_ 6 = .slice A 1 c ∧ Kd.C k72 V A 1 [(⟨n0, n1, n2, n3⟩ : S72)]) ∧ (L 8 = true → s_ 8 = .pointer (some ⟨gb, 0, none⟩)) ∧ (L 9 = true → s_ 9 = .pointer (some ⟨gb, 0, none⟩)))
   rfl (fun _ _ _ _ _ h => h) zq23 ?_ ⟨?_, ?_, ?_, ?_, ?_, ?_, ?_, ?_, ?_, ?_, ?_, trivial⟩ ?_
 · exact ⟨fun _ => zco (Below.refl _ _), (fun h => Bool.noConfusion h), (fun h => Bool.noConfusion h), (fun h => Bool.noConfusion h), (fun h => Bool.noConfusion h), (fun h => Bool.noConfusion h), (fun h => Bool.noConfusion h), (fun h => Bool.noConfusion h), (fun h => Bool.noConfusion h), (fun h => Bool.noConfusion h), (fun h => Bool.noConfusion h), (fun h => Bool.noConfusion h)⟩
 · rintro L s_ V hu hd hn ⟨hB, hA, hS, g0, g1, g2, g3, g4, g5, g6, g8, g9⟩ K hK
   refine zcx (N := some 26) (v := .pointer (some ⟨gb, 0, none⟩)) (w1 := V) (by rfl) rfl ?_ (hK _ _ ⟨hB, hA, hS, fun _ => rfl, g1, g2, g3, g4, g5, g6, g8, g9⟩)
   simp only [zag, riGo, zat, zas, za6, zbi, Nat.reduceBEq, Nat.reduceAdd, List.headD, List.tail, List.getD, List.getElem?_cons_zero, List.getElem?_cons_succ, Option.getD_some, cond_true, cond_false]
   go_simp
 · rintro L s_ V hu hd hn ⟨hB, hA, hS, g0, g1, g2, g3, g4, g5, g6, g8, g9⟩ K hK
   refine zcx (N := some 27) (v := .pointer (some ⟨gb, 0, none⟩)) (w1 := V) (by rfl) rfl ?_ (hK _ _ ⟨hB, hA, hS, g0, fun _ => rfl, g2, g3, g4, g5, g6, g8, g9⟩)
   simp only [zag, riGo, zat, zas, za6, zbi, Nat.reduceBEq, Nat.reduceAdd, List.headD, List.tail, List.getD, List.getElem?_cons_zero, List.getElem?_cons_succ, Option.getD_some, cond_true, cond_false]
   go_simp
 · rintro L s_ V hu hd hn ⟨hB, hA, hS, g0, g1, g2, g3, g4, g5, g6, g8, g9⟩ K hK
   have e1 := g1 hd
   refine zcx (N := some 28) (v := .pointer (some ⟨gb, 0, none⟩)) (w1 := V) (by rfl) rfl ?_ (hK _ _ ⟨hB, hA, hS, g0, g1, fun _ => rfl, g3, g4, g5, g6, g8, g9⟩)
   simp only [zag, riGo, zat, zas, za6, zbi, Nat.reduceBEq, Nat.reduceAdd, List.headD, List.tail, List.getD, List.getElem?_cons_zero, List.getElem?_cons_succ, Option.getD_some, cond_true, cond_false]
   rw [e1]
   go_simp
 · rintro L s_ V hu hd hn ⟨hB, hA, hS, g0, g1, g2, g3, g4, g5, g6, g8, g9⟩ K hK
   have e2 := g2 hd.2
   refine zcx (N := some 29) (v := .pointer (some ⟨gb, 0, none⟩)) (w1 := V) (by rfl) rfl ?_ (hK _ _ ⟨hB, hA, hS, g0, g1, g2, fun _ => rfl, g4, g5, g6, g8, g9⟩)
   simp only [zag, riGo, zat, zas, za6, zbi, Nat.reduceBEq, Nat.reduceAdd, List.headD, List.tail, List.getD, List.getElem?_cons_zero, List.getElem?_cons_succ, Option.getD_some, cond_true, cond_false]
   rw [e2]
   go_simp
 · rintro L s_ V hu hd hn ⟨hB, hA, hS, g0, g1, g2, g3, g4, g5, g6, g8, g9⟩ K hK
   have e3 := g3 hd.2.2
   have hc := zac (HX5.out.step (hB hn.1)).bb 0
   refine zcx (N := some 30) (v := .slice Ao s.1.length co) (w1 := V) (by rfl) rfl ?_ (hK _ _ ⟨hB, hA, hS, g0, g1, g2, g3, fun _ => rfl, g5, g6, g8, g9⟩)
   simp only [zag, riGo, zat, zas, za6, zbi, Nat.reduceBEq, Nat.reduceAdd, List.headD, List.tail, List.getD, List.getElem?_cons_zero, List.getElem?_cons_succ, Option.getD_some, cond_true, cond_false]
   rw [e3]
   go_simp
 · rintro L s_ V hu hd hn ⟨hB, hA, hS, g0, g1, g2, g3, g4, g5, g6, g8, g9⟩ K hK
   have hg' := zaf HG5.out (hB hn.2.1)
   have y0 : V.cell? ⟨g, 0, none⟩ = some (.string n0) := zac hg' 0
   have y1 : V.cell? ⟨g, 1, none⟩ = some (.int .i64 n1) := zac hg' 1
   have y2 : V.cell? ⟨g, 2, none⟩ = some (.int .i64 n2) := zac hg' 2
   have y3 : V.cell? ⟨g, 3, none⟩ = some (.int .i64 n3) := zac hg' 3
   clear hg'
   refine zcx (N := some 31) (v := .agg #[.string n0, .int .i64 n1, .int .i64 n2, .int .i64 n3]) (w1 := V) (by rfl) rfl ?_ (hK _ _ ⟨hB, hA, hS, g0, g1, g2, g3, g4, fun _ => rfl, g6, g8, g9⟩)
   simp only [zag, riGo, zat, zas, za6, zbi, Nat.reduceBEq, Nat.reduceAdd, List.headD, List.tail, List.getD, List.getElem?_cons_zero, List.getElem?_cons_succ, Option.getD_some, cond_true, cond_false]
   go_simp
 · rintro L s_ V hu hd hn ⟨hB, hA, hS, g0, g1, g2, g3, g4, g5, g6, g8, g9⟩ K hK
   have e5 := g5 hd
   have hb := hB hn.1
   refine zcx (N := some 32) (v := .slice (some ⟨V.heap.size, 0, none⟩) 1 1) (w1 := V.alloc (.cells #[.string n0, .int .i64 n1, .int .i64 n2, .int .i64 n3] 72)) (by rfl) rfl ?_ (hK _ _ ⟨fun _ => zba hb _, fun h => absurd (h.symm.trans hn.1) (by simp), fun h => absurd (h.symm.trans hn.2.2.2) (by simp), g0, g1, g2, g3, g4, g5, fun _ _ => ⟨_, _, rfl, zy2 (d := k72) (zfy V _) (cs := [.string n0, .int .i64 n1, .int .i64 n2, .int .i64 n3]) rfl (zyn _ (⟨n0, n1, n2, n3⟩ : S72))⟩, g8, g9⟩)
   simp only [zag, riGo, zat, zas, za6, zbi, Nat.reduceBEq, Nat.reduceAdd, List.headD, List.tail, List.getD, List.getElem?_cons_zero, List.getElem?_cons_succ, Option.getD_some, cond_true, cond_false]
   rw [e5]
   go_simp
 · rintro L s_ V hu hd hn ⟨hB, hA, hS, g0, g1, g2, g3, g4, g5, g6, g8, g9⟩ K hK
   obtain ⟨h1, h2, h3, h4, h5, h6⟩ := hd
   have hb := hB hu
   have e4 := g4 h4
   obtain ⟨A6, c6, e6, hC6⟩ := g6 h6 hu
   have hX := HX5.out.step hb
   refine Kd.R_append_rows_step k72 (Rr := k72.K V) w0.heap.size (by rfl) _ _ 24 72 (.agg #[(.string ⟨#[]⟩), (.int .i64 0), (.int .i64 0), (.int .i64 0)]) 40 rfl Try.underlying24 znq rfl (by decide) (by omega) (.slice Ao s.1.length co) s.1 [(⟨n0, n1, n2, n3⟩ : S72)] A6 1 c6 (fun k => k ≠ gb ∧ k ≠ r) (fun _ => False) e4 e6 hX.out hC6 (fun x cs h => by rw [zn9 h]; exact ze2 _ _ _ x) (fun _ hk => hk.elim) (fun k hk => by have a1 := zb9 hX.bb; have a2 := Kd.R_lt hX.nam r rfl; exact ⟨by omega, by omega⟩) hX.below hX.below.size (by omega) ?_
   intro v1 w1 ho hb1 hgr hat
   exact hK _ _ ⟨(fun h => Bool.noConfusion h), fun _ _ => ⟨V, hb, hb1, hgr, hat, ho⟩, fun h => absurd (h.symm.trans hn.2.2) (by simp), g0, g1, g2, g3, g4, g5, fun _ h => Bool.noConfusion h, g8, g9⟩
 · rintro L s_ V hu hd hn ⟨hB, hA, hS, g0, g1, g2, g3, g4, g5, g6, g8, g9⟩ K hK
   have e0 := g0 hd.1
   refine zcx (N := some 34) (v := .pointer (some ⟨gb, 0, none⟩)) (w1 := V) (by rfl) rfl ?_ (hK _ _ ⟨hB, hA, hS, g0, g1, g2, g3, g4, g5, g6, fun _ => rfl, g9⟩)
   simp only [zag, riGo, zat, zas, za6, zbi, Nat.reduceBEq, Nat.reduceAdd, List.headD, List.tail, List.getD, List.getElem?_cons_zero, List.getElem?_cons_succ, Option.getD_some, cond_true, cond_false]
   rw [e0]
   go_simp
 · rintro L s_ V hu hd hn ⟨hB, hA, hS, g0, g1, g2, g3, g4, g5, g6, g8, g9⟩ K hK
   have e8 := g8 hd.2.2.2.2.2.2.2.2
   refine zcx (N := some 35) (v := .pointer (some ⟨gb, 0, none⟩)) (w1 := V) (by rfl) rfl ?_ (hK _ _ ⟨hB, hA, hS, g0, g1, g2, g3, g4, g5, g6, g8, fun _ => rfl⟩)
   simp only [zag, riGo, zat, zas, za6, zbi, Nat.reduceBEq, Nat.reduceAdd, List.headD, List.tail, List.getD, List.getElem?_cons_zero, List.getElem?_cons_succ, Option.getD_some, cond_true, cond_false]
   rw [e8]
   go_simp
 · rintro L s_ V hu hd hn ⟨hB, hA, hS, g0, g1, g2, g3, g4, g5, g6, g8, g9⟩ K hK
   have h7 := hd.2.2.2.2.2.2.2.1
   have e9 := g9 hd.2.2.2.2.2.2.2.2.2
   have hAP := hA h7 hu
   obtain ⟨V1, hb, hb1, hgr, hat, ho⟩ := hAP
   obtain ⟨A7, c7, e7⟩ := Kd.R_slice ho
   have hX := HX5.out.step hb
   have bb : V.heap[gb]? = _ := (hgr.block gb (zb9 hX.bb) (fun e => (hX.out.1 gb e.symm).1 rfl)).trans hX.bb
   have b1 := zac bb 0
   have b2 := zbq bb 0
   refine zrm (w1 := V.setCell ⟨gb, 0, none⟩ (s_ 7)) (by rfl) rfl ?_ (hK undef _ ⟨fun h => absurd (h.symm.trans h7) (by simp), fun _ h => absurd h (by simp [riUp]), fun _ => ⟨V, ⟨V1, hb, hb1, hgr, hat, ho⟩, rfl⟩, g0, g1, g2, g3, g4, g5, fun _ h => absurd (h.symm.trans h7) (by simp), g8, g9⟩)
   simp only [zag, riGo, zat, zas, za6, zbi, Nat.reduceBEq, Nat.reduceAdd, List.headD, List.tail, List.getD, List.getElem?_cons_zero, List.getElem?_cons_succ, Option.getD_some, cond_true, cond_false]
   rw [e9, e7]
   clear bb hgr hat ho hb1 hb hX
   go_simp
 · rintro L s_ V hL ⟨hB, hA, hS, g0, g1, g2, g3, g4, g5, g6, g8, g9⟩
   obtain ⟨V2, ⟨V1, hb, hb1, hgr, hat, ho⟩, rfl⟩ := hS (hL 10 rfl)
   obtain ⟨A7, c7, e7⟩ := Kd.R_slice ho
   have HX6 := zA ((HX5.out.step hb).append ho hb1 hgr)
   have HF6 := zA (((((ShFr.refl gb r (.slice Ao s.1.length co) W).step HB4.out).step HBr.out).step hb).append hgr hat)
   have q2 := zac HX6.out.bb 0
   rw [e7] at HX6 HF6 q2 ⊢
   clear hb hb1 hgr hat ho hB hA hS g0 g1 g2 g3 g4 g5 g6 g8 g9
   simp only [zag, riGo, zat, zas, za6, zbi, Nat.reduceBEq, Nat.reduceAdd, List.headD, List.tail, List.getD, List.getElem?_cons_zero, List.getElem?_cons_succ, Option.getD_some, cond_true, cond_false]
   generalize V2.setCell ⟨gb, 0, none⟩ (.slice A7 (s.1 ++ [(⟨n0, n1, n2, n3⟩ : S72)]).length c7) = X at HX6 HF6 q2 ⊢
   go_wp2_with fail
   go_ret
   have e : zdz ⟨n0, n1, n2, n3⟩ s.1 = (s.1 ++ [⟨n0, n1, n2, n3⟩], (s.1.length : Int)) := by
     unfold zdz
     rw [← HL.out, ← HS'.out, if_pos (by omega)]
   rw [e]
   exact ⟨_, rfl, HX6.out, HF6.out⟩
set_option linter.unusedVariables false
set_option linter.unusedSimpArgs false
def exW (k : Nat) (e : List S72) : Nat → Int → List S72 × List Int → Option ((List S72 × List Int) × Int)
 | 0, _, _ => none
 | d + 1, i, s => if 0 ≤ i ∧ i < e.length then (if rd s.2 i ≥ 0 then some (s, rd s.2 i) else (zcq k (zab e i).f0 (zab e i).f1 (zab e i).f2 (zab e i).f3).bind fun ps => if ps.length < 1048576 then
     (if 0 < ps.length then exW k e d (zab e i).f1 s else some (s, 0)).bind fun r1 => (if 1 < ps.length then exW k e d (zab e i).f2 r1.1 else some (r1.1, 0)).bind fun r2 => if r2.1.1.length < 1048576 then
       some (((zdz ⟨(zab e i).f0, r1.2, r2.2, (zab e i).f3⟩ r2.1.1).1, r2.1.2.set i.toNat (zdz ⟨(zab e i).f0, r1.2, r2.2, (zab e i).f3⟩ r2.1.1).2), (zdz ⟨(zab e i).f0, r1.2, r2.2, (zab e i).f3⟩ r2.1.1).2) else none else none) else none
theorem kOwn {W : World} {base : Nat} {ok : Nat → Prop} {v : Value} {xs : List S72} (h : Kd.R k72 72 W base ok v xs) : Kd.R k72 72 W base (fun k => some k = v.ownBlock) v xs := by
 obtain ⟨h0, inner, ho, hr⟩ := h
 exact ⟨fun k hk => hk.symm, inner, ho, hr.imp_ (fun x cs hp => by rw [zgy hp]; exact ze2 _ _ _ x)⟩
structure ExN (w0 : World) (gb r cr m g : Nat) (W : World) (vo : Value) (f0 : ByteArray) (f3 : Int) (s : List S72 × List Int) (v : Value) (a b : Int) (V : World) : Prop where
 x : ExX w0 gb r cr m s v V
 box : V.heap[g]? = some (.cells #[.string f0, .int .i64 a, .int .i64 b, .int .i64 f3] 72 (0, 0))
 ge : W.heap.size ≤ g
 lo : w0.heap.size ≤ g
 ne : g ≠ gb ∧ g ≠ r
 own : some g ≠ v.ownBlock
 fr : ShFr gb r vo W v V
section
variable {w0 : World} {gb r cr m g : Nat} {W : World} {vo : Value} {f0 : ByteArray} {f3 : Int} {s : List S72 × List Int} {v : Value} {a b : Int} {V : World}
theorem ExN.step (h : ExN w0 gb r cr m g W vo f0 f3 s v a b V) {V1 : World} (hb : Below V.heap.size V V1) : ExN w0 gb r cr m g W vo f0 f3 s v a b V1 :=
 ⟨h.x.step hb, zaf h.box hb, h.ge, h.lo, h.ne, h.own, h.fr.step hb⟩
theorem ExN.walked (h : ExN w0 gb r cr m g W vo f0 f3 s v a b V) {s1 : List S72 × List Int} {v1 : Value} {V1 : World} (hX : ExX w0 gb r cr m s1 v1 V1) (hF : ShFr gb r v V v1 V1) : ExN w0 gb r cr m g W vo f0 f3 s1 v1 a b V1 := by
 have hlt := zb9 h.box
 refine ⟨hX, (hF.keep g hlt h.ne.2 h.ne.1 h.own).trans h.box, h.ge, h.lo, h.ne, fun e => ?_, h.fr.trans hF⟩
 rcases hF.own g e.symm with e' | e'
 · exact h.own e'.symm
 · omega
theorem ExN.set (h : ExN w0 gb r cr m g W vo f0 f3 s v a b V) (j : Nat) (u : Value) (a' b' : Int) (hc : (#[.string f0, .int .i64 a, .int .i64 b, .int .i64 f3] : Array Value).setIfInBounds j u = #[.string f0, .int .i64 a', .int .i64 b', .int .i64 f3]) : ExN w0 gb r cr m g W vo f0 f3 s v a' b' (V.setCell ⟨g, j, none⟩ u) := by
 refine ⟨⟨h.x.below.setCell (p := ⟨g, j, none⟩) h.lo _, za0 h.x.bb (fun e => h.ne.1 zq46) _, h.x.lo, Kd.R_mono (Kd.R_far (kOwn h.x.out) (p := ⟨g, j, none⟩) (fun k hk e => h.own (by rw [← hk]; exact congrArg some e.symm)) _) (fun k hk => h.x.out.1 k hk.symm), h.x.rne, Kd.R_far h.x.nam (p := ⟨g, j, none⟩) (fun k hk => by rw [hk]; exact fun e => h.ne.2 e.symm) _⟩, ?_, h.ge, h.lo, h.ne, h.own, ?_⟩
 · rw [← hc]
   exact zan h.box j u
 · have hg := h.ge
   exact ⟨Nat.le_trans h.fr.size ((Below.refl 0 V).setCell (p := ⟨g, j, none⟩) (Nat.zero_le _) u).size, fun k hk h1 h2 h3 => (Below.heap_setCell V ⟨g, j, none⟩ u k (show k ≠ g by omega)).trans (h.fr.keep k hk h1 h2 h3), h.fr.own⟩
end
set_option maxHeartbeats 8000000 in
set_option maxRecDepth 100000 in
theorem zy9 (k : Nat) {w0 : World} {A0 : Option Addr} {c0 : Nat} {e : List S72} {gb r cr : Nat} (hC : Kd.C k72 w0 A0 e.length e) : ∀ (d : Nat) (i : Int) (s s' : List S72 × List Int) (x : Int) (vo : Value) (W : World), ExX w0 gb r cr e.length s vo W → exW k e d i s = some (s', x) →
   Calls Try.prog 144 #[.pointer (some ⟨gb, 0, none⟩), .slice A0 e.length c0, .int .i64 i, .slice (some ⟨r, 0, none⟩) e.length cr] W fun y W' => y = .returned (.int .i64 x) ∧ ∃ vo', ExX w0 gb r cr e.length s' vo' W' ∧ ShFr gb r vo W vo' W' := by
 have HC := zA hC
 clear hC
 intro d
 induction d with
 | zero => intro i s s' x vo W hX h; cases h
 | succ d ih =>
 intro i s s' x vo W hX h
 have HIH := zA ih
 clear ih
 unfold exW at h
 by_cases c1 : 0 ≤ i ∧ i < e.length
 rotate_left
 · rw [if_neg c1] at h
   cases h
 rw [if_pos c1] at h
 obtain ⟨c2, c3⟩ := c1
 obtain ⟨p0, p1⟩ := Kd.R_celln 0 hX.nam i c2 c3
 have HX := zA hX
 clear hX
 by_cases hn : rd s.2 i ≥ 0
 · rw [if_pos hn] at h
   obtain ⟨rfl, rfl⟩ := Prod.mk.inj (zsi h)
   clear h
   have d1 : decide (0 ≤ rdOf 0 s.2 i) = true := zdt hn
   clear hn
   go_enter Try.func144, Try.ntmps144
   go_wp2_with fail
   go_ret
   exact ⟨rfl, vo, HX.out, ShFr.refl _ _ _ _⟩
 rw [if_neg hn] at h
 have d1 : decide (0 ≤ rdOf 0 s.2 i) = false := zdf hn
 clear hn
 obtain ⟨ps, hps, h⟩ := Option.bind_eq_some_iff.1 h
 by_cases hpl : ps.length < 1048576
 rotate_left
 · rw [if_neg hpl] at h
   cases h
 rw [if_pos hpl] at h
 obtain ⟨⟨s1, z1⟩, hs1, h⟩ := Option.bind_eq_some_iff.1 h
 obtain ⟨⟨s2, z2⟩, hs2, h⟩ := Option.bind_eq_some_iff.1 h
 by_cases hsl : s2.1.length < 1048576
 rotate_left
 · rw [if_neg hsl] at h
   cases h
 rw [if_pos hsl] at h
 have HPS := zA hps
 have HS1 := zA hs1
 have HS2 := zA hs2
 have HE := zA (Prod.mk.inj (zsi h))
 clear hps hs1 hs2 h
 obtain ⟨ad, eA, x0, x1, x2, x3⟩ := zd0 (zCb HC.out HX.out.below) i c2 c3
 subst eA
 go_enter Try.func144, Try.ntmps144
 go_wp2_with fail
 obtain ⟨f0, hf0⟩ : ∃ f0, f0 = (zab e i).f0 := ⟨_, rfl⟩
 obtain ⟨f3, hf3⟩ : ∃ f3, f3 = (zab e i).f3 := ⟨_, rfl⟩
 have HF0 := zA hf0
 have HF3 := zA hf3
 clear hf0 hf3
 refine zhm [[], [], [0, 1], [0, 1, 2], [0, 1, 2, 3], [], [], [5, 6], [5, 6, 7], [5, 6, 7, 8], [0, 1, 2, 3, 4, 5, 6, 7, 8, 9], [], [0, 1, 2, 3, 4, 5, 6, 7, 8, 9, 10, 11]] [[2, 3, 4, 10, 12], [2, 3, 4, 10, 12], [3, 4, 10, 12], [4, 10, 12], [10, 12], [7, 8, 9, 10, 12], [7, 8, 9, 10, 12], [8, 9, 10, 12], [9, 10, 12], [10, 12], [12], [12], []]
   (fun L s_ V => Below W.heap.size W V ∧ (L 0 = true → s_ 0 = .slice (some ad) e.length c0) ∧ (L 1 = true → s_ 1 = .int .i64 i) ∧ (L 2 = true → s_ 2 = .pointer (some (ad.add (i.toNat * 4)))) ∧ (L 3 = true → s_ 3 = .pointer (some (ad.add (i.toNat * 4)))) ∧ (L 4 = true → s_ 4 = .string f0) ∧ (L 5 = true → s_ 5 = .slice (some ad) e.length c0) ∧ (L 6 = true → s_ 6 = .int .i64 i) ∧ (L 7 = true → s_ 7 = .pointer (some (ad.add (i.toNat * 4)))) ∧ (L 8 = true → s_ 8 = .pointer (some ⟨(ad.add (i.toNat * 4)).block, (ad.add (i.toNat * 4)).off + 3, none⟩)) ∧ (L 9 = true → s_ 9 = .int .i64 f3) ∧ (L 10 = true → s_ 10 = .agg #[.string f0, .int .i64 0, .int .i64 0, .int .i64 f3]) ∧ (L 11 = true → ∃ g cs, s_ 11 = .pointer (some ⟨g, 0, none⟩) ∧ V.heap[g]? = some (.cells cs 72 (0, 0)) ∧ cs.size = 4 ∧ W.heap.size ≤ g ∧ (L 12 = true → cs = #[.string f0, .int .i64 0, .int .i64 0, .int .i64 f3])))
   rfl (fun _ _ _ _ _ h => h) zq23 ?_ ⟨?_, ?_, ?_, ?_, ?_, ?_, ?_, ?_, ?_, ?_, ?_, ?_, ?_, trivial⟩ ?_
 · exact ⟨zco (Below.refl _ _), (fun h => Bool.noConfusion h), (fun h => Bool.noConfusion h), (fun h => Bool.noConfusion h), (fun h => Bool.noConfusion h), (fun h => Bool.noConfusion h), (fun h => Bool.noConfusion h), (fun h => Bool.noConfusion h), (fun h => Bool.noConfusion h), (fun h => Bool.noConfusion h), (fun h => Bool.noConfusion h), (fun h => Bool.noConfusion h), (fun h => Bool.noConfusion h)⟩
 · rintro L s_ V hu hd hn ⟨hB, g0, g1, g2, g3, g4, g5, g6, g7, g8, g9, g10, g11⟩ K hK
   refine zcx (N := some 19) (v := .slice (some ad) e.length c0) (w1 := V) (by rfl) rfl ?_ (hK _ _ ⟨hB, fun _ => rfl, g1, g2, g3, g4, g5, g6, g7, g8, g9, g10, g11⟩)
   simp only [zag, riGo, zat, zas, za6, zbi, Nat.reduceBEq, Nat.reduceAdd, List.headD, List.tail, List.getD, List.getElem?_cons_zero, List.getElem?_cons_succ, Option.getD_some, cond_true, cond_false]
   go_simp
 · rintro L s_ V hu hd hn ⟨hB, g0, g1, g2, g3, g4, g5, g6, g7, g8, g9, g10, g11⟩ K hK
   refine zcx (N := some 20) (v := .int .i64 i) (w1 := V) (by rfl) rfl ?_ (hK _ _ ⟨hB, g0, fun _ => rfl, g2, g3, g4, g5, g6, g7, g8, g9, g10, g11⟩)
   simp only [zag, riGo, zat, zas, za6, zbi, Nat.reduceBEq, Nat.reduceAdd, List.headD, List.tail, List.getD, List.getElem?_cons_zero, List.getElem?_cons_succ, Option.getD_some, cond_true, cond_false]
   go_simp
 · rintro L s_ V hu hd hn ⟨hB, g0, g1, g2, g3, g4, g5, g6, g7, g8, g9, g10, g11⟩ K hK
   have e0 := g0 hd.1
   have e1 := g1 hd.2
   refine zcx (N := some 21) (v := .pointer (some (ad.add (i.toNat * 4)))) (w1 := V) (by rfl) rfl ?_ (hK _ _ ⟨hB, g0, g1, fun _ => rfl, g3, g4, g5, g6, g7, g8, g9, g10, g11⟩)
   simp only [zag, riGo, zat, zas, za6, zbi, Nat.reduceBEq, Nat.reduceAdd, List.headD, List.tail, List.getD, List.getElem?_cons_zero, List.getElem?_cons_succ, Option.getD_some, cond_true, cond_false]
   rw [e0, e1]
   go_simp
 · rintro L s_ V hu hd hn ⟨hB, g0, g1, g2, g3, g4, g5, g6, g7, g8, g9, g10, g11⟩ K hK
   have e2 := g2 hd.2.2
   refine zcx (N := some 22) (v := .pointer (some (ad.add (i.toNat * 4)))) (w1 := V) (by rfl) rfl ?_ (hK _ _ ⟨hB, g0, g1, g2, fun _ => rfl, g4, g5, g6, g7, g8, g9, g10, g11⟩)
   simp only [zag, riGo, zat, zas, za6, zbi, Nat.reduceBEq, Nat.reduceAdd, List.headD, List.tail, List.getD, List.getElem?_cons_zero, List.getElem?_cons_succ, Option.getD_some, cond_true, cond_false]
   rw [e2]
   go_simp
 · rintro L s_ V hu hd hn ⟨hB, g0, g1, g2, g3, g4, g5, g6, g7, g8, g9, g10, g11⟩ K hK
   have e3 := g3 hd.2.2.2
   obtain ⟨ad', ea, y0, y1, y2, y3⟩ := zd0 (zCb HC.out (HX.out.step hB).below) i c2 c3
   cases ea
   rw [← HF0.out] at y0
   clear x0 x1 x2 x3
   refine zcx (N := some 23) (v := .string f0) (w1 := V) (by rfl) rfl ?_ (hK _ _ ⟨hB, g0, g1, g2, g3, fun _ => rfl, g5, g6, g7, g8, g9, g10, g11⟩)
   simp only [zag, riGo, zat, zas, za6, zbi, Nat.reduceBEq, Nat.reduceAdd, List.headD, List.tail, List.getD, List.getElem?_cons_zero, List.getElem?_cons_succ, Option.getD_some, cond_true, cond_false]
   rw [e3]
   go_simp
 · rintro L s_ V hu hd hn ⟨hB, g0, g1, g2, g3, g4, g5, g6, g7, g8, g9, g10, g11⟩ K hK
   refine zcx (N := some 24) (v := .slice (some ad) e.length c0) (w1 := V) (by rfl) rfl ?_ (hK _ _ ⟨hB, g0, g1, g2, g3, g4, fun _ => rfl, g6, g7, g8, g9, g10, g11⟩)
   simp only [zag, riGo, zat, zas, za6, zbi, Nat.reduceBEq, Nat.reduceAdd, List.headD, List.tail, List.getD, List.getElem?_cons_zero, List.getElem?_cons_succ, Option.getD_some, cond_true, cond_false]
   go_simp
 · rintro L s_ V hu hd hn ⟨hB, g0, g1, g2, g3, g4, g5, g6, g7, g8, g9, g10, g11⟩ K hK
   refine zcx (N := some 25) (v := .int .i64 i) (w1 := V) (by rfl) rfl ?_ (hK _ _ ⟨hB, g0, g1, g2, g3, g4, g5, fun _ => rfl, g7, g8, g9, g10, g11⟩)
   simp only [zag, riGo, zat, zas, za6, zbi, Nat.reduceBEq, Nat.reduceAdd, List.headD, List.tail, List.getD, List.getElem?_cons_zero, List.getElem?_cons_succ, Option.getD_some, cond_true, cond_false]
   go_simp
 · rintro L s_ V hu hd hn ⟨hB, g0, g1, g2, g3, g4, g5, g6, g7, g8, g9, g10, g11⟩ K hK
   have e5 := g5 hd.1
   have e6 := g6 hd.2
   refine zcx (N := some 26) (v := .pointer (some (ad.add (i.toNat * 4)))) (w1 := V) (by rfl) rfl ?_ (hK _ _ ⟨hB, g0, g1, g2, g3, g4, g5, g6, fun _ => rfl, g8, g9, g10, g11⟩)
   simp only [zag, riGo, zat, zas, za6, zbi, Nat.reduceBEq, Nat.reduceAdd, List.headD, List.tail, List.getD, List.getElem?_cons_zero, List.getElem?_cons_succ, Option.getD_some, cond_true, cond_false]
   rw [e5, e6]
   go_simp
 · rintro L s_ V hu hd hn ⟨hB, g0, g1, g2, g3, g4, g5, g6, g7, g8, g9, g10, g11⟩ K hK
   have e7 := g7 hd.2.2
   refine zcx (N := some 27) (v := .pointer (some ⟨(ad.add (i.toNat * 4)).block, (ad.add (i.toNat * 4)).off + 3, none⟩)) (w1 := V) (by rfl) rfl ?_ (hK _ _ ⟨hB, g0, g1, g2, g3, g4, g5, g6, g7, fun _ => rfl, g9, g10, g11⟩)
   simp only [zag, riGo, zat, zas, za6, zbi, Nat.reduceBEq, Nat.reduceAdd, List.headD, List.tail, List.getD, List.getElem?_cons_zero, List.getElem?_cons_succ, Option.getD_some, cond_true, cond_false]
   rw [e7]
   go_simp
 · rintro L s_ V hu hd hn ⟨hB, g0, g1, g2, g3, g4, g5, g6, g7, g8, g9, g10, g11⟩ K hK
   have e8 := g8 hd.2.2.2
   obtain ⟨ad', ea, y0, y1, y2, y3⟩ := zd0 (zCb HC.out (HX.out.step hB).below) i c2 c3
   cases ea
   rw [← HF3.out] at y3
   clear x0 x1 x2 x3
   refine zcx (N := some 28) (v := .int .i64 f3) (w1 := V) (by rfl) rfl ?_ (hK _ _ ⟨hB, g0, g1, g2, g3, g4, g5, g6, g7, g8, fun _ => rfl, g10, g11⟩)
   simp only [zag, riGo, zat, zas, za6, zbi, Nat.reduceBEq, Nat.reduceAdd, List.headD, List.tail, List.getD, List.getElem?_cons_zero, List.getElem?_cons_succ, Option.getD_some, cond_true, cond_false]
   rw [e8]
   go_simp
 · rintro L s_ V hu hd hn ⟨hB, g0, g1, g2, g3, g4, g5, g6, g7, g8, g9, g10, g11⟩ K hK
   have e4 := g4 hd.2.2.2.2.1
   have e9 := g9 hd.2.2.2.2.2.2.2.2.2
   refine zcx (N := some 29) (v := .agg #[.string f0, .int .i64 0, .int .i64 0, .int .i64 f3]) (w1 := V) (by rfl) rfl ?_ (hK _ _ ⟨hB, g0, g1, g2, g3, g4, g5, g6, g7, g8, g9, fun _ => rfl, g11⟩)
   simp only [zag, riGo, zat, zas, za6, zbi, Nat.reduceBEq, Nat.reduceAdd, List.headD, List.tail, List.getD, List.getElem?_cons_zero, List.getElem?_cons_succ, Option.getD_some, cond_true, cond_false]
   rw [e4, e9]
   go_simp
 · rintro L s_ V hu hd hn ⟨hB, g0, g1, g2, g3, g4, g5, g6, g7, g8, g9, g10, g11⟩ K hK
   refine zcx (N := some 9) (v := .pointer (some ⟨V.heap.size, 0, none⟩)) (w1 := V.alloc (.cells #[.string ⟨#[]⟩, .int .i64 0, .int .i64 0, .int .i64 0] 72)) (by rfl) rfl ?_ (hK _ _ ⟨zba hB _, g0, g1, g2, g3, g4, g5, g6, g7, g8, g9, g10, fun _ => ⟨V.heap.size, _, rfl, zfy V _, rfl, hB.size, fun h => absurd (h.symm.trans hn) (by simp)⟩⟩)
   simp only [zag, riGo, zat, zas, za6, zbi, Nat.reduceBEq, Nat.reduceAdd, List.headD, List.tail, List.getD, List.getElem?_cons_zero, List.getElem?_cons_succ, Option.getD_some, cond_true, cond_false]
   go_simp
 · rintro L s_ V hu hd hn ⟨hB, g0, g1, g2, g3, g4, g5, g6, g7, g8, g9, g10, g11⟩ K hK
   obtain ⟨g, cs, a1, a2, a3, a4, _⟩ := g11 hd.2.2.2.2.2.2.2.2.2.2.2
   have e10 := g10 hd.2.2.2.2.2.2.2.2.2.2.1
   have hst := zgl (P := Try.prog) (w := V) (o := 0) 72 (.agg #[.string f0, .int .i64 0, .int .i64 0, .int .i64 f3]) [.string f0, .int .i64 0, .int .i64 0, .int .i64 f3] a2 rfl rfl (by simp [a3]) zq39
   refine zrm (w1 := V.setCells g 0 [.string f0, .int .i64 0, .int .i64 0, .int .i64 f3]) (by rfl) rfl ?_ (hK undef _ ⟨?_, g0, g1, g2, g3, g4, g5, g6, g7, g8, g9, g10, fun _ => ?_⟩)
   · simp only [zag, riGo, zat, zas, za6, zbi, Nat.reduceBEq, Nat.reduceAdd, List.headD, List.tail, List.getD, List.getElem?_cons_zero, List.getElem?_cons_succ, Option.getD_some, cond_true, cond_false]
     rw [a1, e10]
     unfold execOp
     simp only [Sem.run_bind, Sem.run_pure]
     exact (congrArg (fun r => Result.andThen r _) hst).trans rfl
   · have hs := zgk g [.string f0, .int .i64 0, .int .i64 0, .int .i64 f3] 0 V
     exact hB.trans ⟨hs.1, hs.2.1, hs.2.2.1, Nat.le_of_eq hs.2.2.2.symm, fun k hk => zev _ _ k (by omega)⟩
   · obtain ⟨cur', b1, b2, b3⟩ := zgx (e := 72) [.string f0, .int .i64 0, .int .i64 0, .int .i64 f3] 0 V cs a2 (by simp [a3])
     refine ⟨g, cur', a1, b1, b2.trans a3, a4, fun _ => ?_⟩
     apply Array.ext'
     have hd4 : cs.toList.drop (0 + 4) = [] := List.drop_of_length_le (by simp [a3])
     rw [b3]
     show cs.toList.take 0 ++ [.string f0, .int .i64 0, .int .i64 0, .int .i64 f3] ++ cs.toList.drop (0 + 4) = _
     rw [hd4]
     rfl
 · rintro L s_ V hL ⟨hB, g0, g1, g2, g3, g4, g5, g6, g7, g8, g9, g10, g11⟩
   obtain ⟨g, cs, a1, a2, a3, a4, a5⟩ := g11 (hL 11 rfl)
   obtain rfl := a5 (hL 12 rfl)
   have hown : some g ≠ vo.ownBlock := fun e => by
     have := Kd.R_lt HX.out.out g e.symm
     omega
   have hgb := zb9 HX.out.bb
   have hgr := Kd.R_lt HX.out.nam r rfl
   have HN := zA (show ExN w0 gb r cr e.length g W vo f0 f3 s vo 0 0 V from ⟨HX.out.step hB, a2, a4, Nat.le_trans HX.out.below.size a4, ⟨by omega, by omega⟩, hown, (ShFr.refl _ _ _ _).step hB⟩)
   clear a2 a3 a4 a5 g0 g1 g2 g3 g4 g5 g6 g7 g8 g9 g10 g11 hown hgb hgr x0 x1 x2 x3 p0 p1
   obtain ⟨ad', ea, x0, x1, x2, x3⟩ := zd0 (zCb HC.out HN.out.x.below) i c2 c3
   cases ea
   clear hB
   simp only [zag, riGo, zat, zas, za6, zbi, Nat.reduceBEq, Nat.reduceAdd, List.headD, List.tail, List.getD, List.getElem?_cons_zero, List.getElem?_cons_succ, Option.getD_some, cond_true, cond_false]
   rw [a1]
   clear a1
   rw [← HF0.out] at x0
   rw [← HF3.out] at x3
   have HPS2 := zA (show zcq k f0 (zab e i).f1 (zab e i).f2 f3 = some ps by rw [HF0.out, HF3.out]; exact HPS.out)
   by_cases k1 : 0 < ps.length
   rotate_left
   · have d2 : decide ((0 : Int) < ps.length) = false := zdf (by omega)
     have d3 : decide ((1 : Int) < ps.length) = false := zdf (by omega)
     have hs1 := HS1.out
     rw [if_neg k1] at hs1
     obtain ⟨rfl, rfl⟩ := Prod.mk.inj (zsi hs1)
     have hs2 := HS2.out
     rw [if_neg (by omega)] at hs2
     obtain ⟨rfl, rfl⟩ := Prod.mk.inj (zsi hs2)
     clear hs1 hs2 HS1 HS2
     have HE2 := zA (show ((zdz ⟨f0, 0, 0, f3⟩ s.1).1, s.2.set i.toNat (zdz ⟨f0, 0, 0, f3⟩ s.1).2) = s' ∧ (zdz ⟨f0, 0, 0, f3⟩ s.1).2 = x by have := HE.out; rw [← HF0.out, ← HF3.out] at this; exact this)
     clear HE
     go_wp2_with (first | (go_at_call 143; (with_reducible refine (zcr k _ _ _ _ ps _ HPS2.out).mono ?_); rintro y w1 ⟨v1, rfl, hv1, hb1⟩; obtain ⟨A1, k1, rfl⟩ := Kd.R_slice hv1; have HNn := zA (HN.out.step hb1); clear HN hv1 hb1 x0 x1 x2 x3; have HN := HNn; clear HNn; obtain ⟨ad', ea, x0, x1, x2, x3⟩ := zd0 (zCb HC.out HN.out.x.below) i c2 c3; cases ea; rw [← HF0.out] at x0; rw [← HF3.out] at x3; have y0 := zac HN.out.box 0; have y1 := zac HN.out.box 1; have y2 := zac HN.out.box 2; have y3 := zac HN.out.box 3) | (go_at_call 178; refine (zlo _ _ _ HN.out.x f0 0 0 f3 hsl).mono ?_; rintro y w5 ⟨v5, rfl, hX5, hF5⟩; have HX5 := zA hX5; have HF5 := zA (HN.out.fr.trans hF5); obtain ⟨p2, p3⟩ := Kd.R_celln 0 hX5.nam i c2 c3; clear HN hX5 hF5 x0 x1 x2 x3 y0 y1 y2 y3))
     go_ret
     rw [← HE2.out.1, ← HE2.out.2]
     exact ⟨rfl, _, HX5.out.setn i _, HF5.out.setn i.toNat _⟩
   have d2 : decide ((0 : Int) < ps.length) = true := zdt (by omega)
   have hs1 := HS1.out
   rw [if_pos k1] at hs1
   have HS1' := zA hs1
   by_cases k2 : 1 < ps.length
   rotate_left
   · have d3 : decide ((1 : Int) < ps.length) = false := zdf (by omega)
     have hs2 := HS2.out
     rw [if_neg k2] at hs2
     obtain ⟨rfl, rfl⟩ := Prod.mk.inj (zsi hs2)
     clear hs1 hs2 HS1 HS2
     have HE2 := zA (show ((zdz ⟨f0, z1, 0, f3⟩ s1.1).1, s1.2.set i.toNat (zdz ⟨f0, z1, 0, f3⟩ s1.1).2) = s' ∧ (zdz ⟨f0, z1, 0, f3⟩ s1.1).2 = x by have := HE.out; rw [← HF0.out, ← HF3.out] at this; exact this)
     clear HE
     go_wp2_with (first | (go_at_call 143; (with_reducible refine (zcr k _ _ _ _ ps _ HPS2.out).mono ?_); rintro y w1 ⟨v1, rfl, hv1, hb1⟩; obtain ⟨A1, k1, rfl⟩ := Kd.R_slice hv1; have HNn := zA (HN.out.step hb1); clear HN hv1 hb1 x0 x1 x2 x3; have HN := HNn; clear HNn; obtain ⟨ad', ea, x0, x1, x2, x3⟩ := zd0 (zCb HC.out HN.out.x.below) i c2 c3; cases ea; rw [← HF0.out] at x0; rw [← HF3.out] at x3; have y0 := zac HN.out.box 0; have y1 := zac HN.out.box 1; have y2 := zac HN.out.box 2; have y3 := zac HN.out.box 3) | (go_at_call 144; refine (HIH.out (zab e i).f1 s s1 z1 _ _ HN.out.x HS1'.out).mono ?_; rintro y w2 ⟨rfl, v2, hX2, hF2⟩; have HN2 := HN.out.walked hX2 hF2; have q1 := zac HN2.box 1; have q2 := zbq HN2.box 1; have HNn := zA (HN2.set 1 (.int .i64 z1) z1 0 rfl); clear HN HN2 hX2 hF2 x0 x1 x2 x3 y0 y1 y2 y3; have HN := HNn; clear HNn; obtain ⟨ad', ea, x0, x1, x2, x3⟩ := zd0 (zCb HC.out HN.out.x.below) i c2 c3; cases ea; rw [← HF0.out] at x0; rw [← HF3.out] at x3) | (go_at_call 178; refine (zlo _ _ _ HN.out.x f0 z1 0 f3 hsl).mono ?_; rintro y w5 ⟨v5, rfl, hX5, hF5⟩; have HX5 := zA hX5; have HF5 := zA (HN.out.fr.trans hF5); obtain ⟨p2, p3⟩ := Kd.R_celln 0 hX5.nam i c2 c3; clear HN hX5 hF5 x0 x1 x2 x3 y0 y1 y2 y3))
     go_ret
     rw [← HE2.out.1, ← HE2.out.2]
     exact ⟨rfl, _, HX5.out.setn i _, HF5.out.setn i.toNat _⟩
   have d3 : decide ((1 : Int) < ps.length) = true := zdt (by omega)
   have hs2 := HS2.out
   rw [if_pos k2] at hs2
   have HS2' := zA hs2
   clear hs1 hs2 HS1 HS2
   have HE2 := zA (show ((zdz ⟨f0, z1, z2, f3⟩ s2.1).1, s2.2.set i.toNat (zdz ⟨f0, z1, z2, f3⟩ s2.1).2) = s' ∧ (zdz ⟨f0, z1, z2, f3⟩ s2.1).2 = x by have := HE.out; rw [← HF0.out, ← HF3.out] at this; exact this)
   clear HE
   go_wp2_with (first | (go_at_call 143; (with_reducible refine (zcr k _ _ _ _ ps _ HPS2.out).mono ?_); rintro y w1 ⟨v1, rfl, hv1, hb1⟩; obtain ⟨A1, k1, rfl⟩ := Kd.R_slice hv1; have HNn := zA (HN.out.step hb1); clear HN hv1 hb1 x0 x1 x2 x3; have HN := HNn; clear HNn; obtain ⟨ad', ea, x0, x1, x2, x3⟩ := zd0 (zCb HC.out HN.out.x.below) i c2 c3; cases ea; rw [← HF0.out] at x0; rw [← HF3.out] at x3; have y0 := zac HN.out.box 0; have y1 := zac HN.out.box 1; have y2 := zac HN.out.box 2; have y3 := zac HN.out.box 3) | (go_at_call 144; refine (HIH.out (zab e i).f1 s s1 z1 _ _ HN.out.x HS1'.out).mono ?_; rintro y w2 ⟨rfl, v2, hX2, hF2⟩; have HN2 := HN.out.walked hX2 hF2; have q1 := zac HN2.box 1; have q2 := zbq HN2.box 1; have HNn := zA (HN2.set 1 (.int .i64 z1) z1 0 rfl); clear HN HN2 hX2 hF2 x0 x1 x2 x3 y0 y1 y2 y3; have HN := HNn; clear HNn; obtain ⟨ad', ea, x0, x1, x2, x3⟩ := zd0 (zCb HC.out HN.out.x.below) i c2 c3; cases ea; rw [← HF0.out] at x0; rw [← HF3.out] at x3) | (go_at_call 144; refine (HIH.out (zab e i).f2 s1 s2 z2 _ _ HN.out.x HS2'.out).mono ?_; rintro y w2 ⟨rfl, v2, hX2, hF2⟩; have HN2 := HN.out.walked hX2 hF2; have q1 := zac HN2.box 2; have q2 := zbq HN2.box 2; have HNn := zA (HN2.set 2 (.int .i64 z2) z1 z2 rfl); clear HN HN2 hX2 hF2 x0 x1 x2 x3 y0 y1 y2 y3; have HN := HNn; clear HNn; obtain ⟨ad', ea, x0, x1, x2, x3⟩ := zd0 (zCb HC.out HN.out.x.below) i c2 c3; cases ea; rw [← HF0.out] at x0; rw [← HF3.out] at x3; have y0 := zac HN.out.box 0; have y1 := zac HN.out.box 1; have y2 := zac HN.out.box 2; have y3 := zac HN.out.box 3) | (go_at_call 178; refine (zlo _ _ _ HN.out.x f0 z1 z2 f3 hsl).mono ?_; rintro y w5 ⟨v5, rfl, hX5, hF5⟩; have HX5 := zA hX5; have HF5 := zA (HN.out.fr.trans hF5); obtain ⟨p2, p3⟩ := Kd.R_celln 0 hX5.nam i c2 c3; clear HN hX5 hF5 x0 x1 x2 x3 y0 y1 y2 y3))
   go_ret
   rw [← HE2.out.1, ← HE2.out.2]
   exact ⟨rfl, _, HX5.out.setn i _, HF5.out.setn i.toNat _⟩
theorem exSet (n u : Nat) (h : u < n) : (List.replicate u (-1 : Int) ++ List.replicate (n - u) 0).set u (-1) = List.replicate (u + 1) (-1) ++ List.replicate (n - (u + 1)) 0 := by
 rw [show n - u = (n - (u + 1)) + 1 by omega, List.replicate_succ, List.set_append_right _ _ (by simp)]
 simp only [List.length_replicate, Nat.sub_self, List.set_cons_zero]
 rw [List.replicate_succ', List.append_assoc, List.singleton_append]
def zc2 (k : Nat) (l0 : List S72) : Option (List S72) := if 0 < l0.length ∧ l0.length ≤ 1048576 then (exW k l0 k ((l0.length : Int) - 1) ([], List.replicate l0.length (-1))).bind fun z => some z.1.1 else none
set_option maxHeartbeats 4000000 in
set_option maxRecDepth 100000 in
theorem zg6 (k : Nat) (A0 : Option Addr) (c0 : Nat) (l0 : List S72) (r : List S72) (w : World) (hr0 : Kd.C k72 w A0 l0.length l0) (hc0 : l0.length ≤ c0) (h : zc2 k l0 = some r) :
   Calls Try.prog 95 #[.slice A0 l0.length c0] w fun e w' => ∃ v0_ : Value, e = .returned (v0_) ∧ Kd.R k72 72 w' w.heap.size (fun _ => True) v0_ r ∧ Below w.heap.size w w' := by
 unfold zc2 at h
 by_cases hl : 0 < l0.length ∧ l0.length ≤ 1048576
 rotate_left
 · rw [if_neg hl] at h
   cases h
 rw [if_pos hl] at h
 obtain ⟨⟨s, z⟩, hs, h⟩ := Option.bind_eq_some_iff.1 h
 obtain rfl := zsi h
 have HS := zA hs
 have HR := zA hr0
 have HC := zA hc0
 clear h hs hr0 hc0
 have k1 : (0 : Int) ≤ l0.length := by omega
 go_enter Try.func95, Try.ntmps95
 go_wp2_with (first
   | ((with_reducible refine zek (N := 7) rfl ?_); refine zfl ?hg (N := 7) ?hd (cs := #[.slice none 0 0, .bool true]) (t := 147) ?hr ?_; (case hd => rfl); (case hg => rfl); (case hr => go_simp <;> rfl); intro gb hg w4 hbox hb; have BB := zA hbox; have HGB := zA (show w.heap.size ≤ gb from Nat.le_of_eq hg.symm); have HB := zA hb; clear hg hbox hb)
   | ((with_reducible refine zek (N := 10) rfl ?_); refine Kd.R_make (Kd.int .i64) (w0 := w) w.heap.size 3 rfl (N := 10) rfl 51 _ _ rfl (l0.length : Int) rfl rfl Try.underlying51 (.int .i64 0) 8 zns rfl (by decide) (by omega) 0 (ok := fun _ => True) (okp := fun _ => True) rfl (fun _ hk => hk) trivial k1 (by omega) HB.out HB.out.size ?_; intro v5 w5 ho hb hgr hnew; rw [Int.toNat_natCast] at ho; obtain ⟨r, cr, e5, hrb, _⟩ := Kd.R_form ho (by rw [List.length_replicate]; exact hl.1); rw [List.length_replicate] at e5; subst e5; have HO := zA ho; have BB5 := zA ((hgr.block gb (zb9 BB.out) (by simp)).trans BB.out); have RNE := zA (show r ≠ gb from by obtain ⟨b, e, hb2⟩ := hnew; have hlt := zb9 BB.out; have : r = b := (by simpa [Value.ownBlock] using e); omega); have HB5 := zA hb; clear ho hb hgr hnew hrb BB HB))
 go_loopw [5, 13] (fun v5 v13 wr => ∃ u : Nat, v13 = .int .i64 (u : Int) ∧ u ≤ l0.length ∧ Aside0 (wr.heap[gb]? = some (.cells #[.slice none 0 0, .bool true] 147 (0, 0))) ∧ Aside0 (Below w.heap.size w wr) ∧
   Aside0 (Kd.R (Kd.int .i64) 3 wr w.heap.size (fun _ => True) (.slice (some ⟨r, 0, none⟩) l0.length cr) (List.replicate u (-1) ++ List.replicate (l0.length - u) 0))) (fun _ v13 _ => l0.length - (intOf v13).toNat)
 case atStart => exact ⟨0, rfl, Nat.zero_le _, BB5, HB5, HO⟩
 clear BB5 HB5 HO
 obtain ⟨u, rfl, hu, BBr, HBr, HOr⟩ := hrel
 by_cases hlt : u < l0.length
 · have d1 : decide ((u : Int) < l0.length) = true := zdt (by omega)
   have d2 : (0 : Int) ≤ (u : Int) := by omega
   have d3 : (u : Int) < l0.length := by omega
   obtain ⟨p2, p3⟩ := Kd.R_celln 0 HOr.out (u : Int) d2 d3
   rw [Int.toNat_natCast] at p2 p3
   go_wp2_with fail
   go_roundw
   case rel =>
     have hp := Kd.R_putn HOr.out (u : Int) (-1)
     rw [Int.toNat_natCast, exSet l0.length u hlt] at hp
     exact ⟨u + 1, by go_num, by omega, ⟨za0 BBr.out (fun e => RNE.out zq46) _⟩, ⟨HBr.out.setCell (p := ⟨r, u, none⟩) (Kd.R_base HOr.out r rfl) _⟩, ⟨hp⟩⟩
   case measure => simp [intOf]; omega
 obtain rfl : u = l0.length := by omega
 have d1 : decide ((l0.length : Int) < l0.length) = false := zdf (by omega)
 have ho := HOr.out
 rw [Nat.sub_self, List.replicate_zero, List.append_nil] at ho
 have HX := zA (show ExX w gb r cr l0.length ([], List.replicate l0.length (-1)) (.slice none 0 0) wr from ⟨HBr.out, BBr.out, HGB.out, Kd.R_nil _ _ _ _ _, RNE.out, by
   have hv : (Kd.int .i64).R 3 wr w.heap.size (fun _ => True) (.slice (some ⟨r, 0, none⟩) (List.replicate l0.length (-1 : Int)).length cr) (List.replicate l0.length (-1)) := by rw [List.length_replicate]; exact ho
   have hw := Kd.R_of_own (h1 := fun _ => rfl) (Kd.own_of_R hv) (ok := fun k => k = r) (fun k hk => by simpa [Value.ownBlock] using hk.symm)
   rw [List.length_replicate] at hw
   exact hw⟩)
 clear ho HOr BBr HBr
 go_wp2_with (go_at_call 144; refine (zy9 k HR.out k _ _ s z _ _ HX.out HS.out).mono ?_; rintro y w6 ⟨rfl, v6, hX6, hF6⟩; obtain ⟨A6, c6, e6⟩ := Kd.R_slice hX6.out; subst e6; have q6 := zac hX6.bb 0; have HX6 := zA hX6; clear hX6 hF6)
 go_ret
 exact ⟨_, rfl, Kd.R_mono HX6.out.out (fun _ _ => trivial), HX6.out.below⟩
theorem zp4 (k : Nat) (e : List S72) : ∀ (d : Nat) (i : Int) (s : List S72 × List Int), LeO (exW k e d i s) (exW (k + 1) e (d + 1) i s)
 | 0, _, _ => LeO.none _
 | d + 1, i, s => by
   unfold exW
   exact zbh (zbh (LeO.refl _) (LeO.bind (zce _ _ _ _ _) (fun ps => zbh (LeO.bind (zbh (zp4 k e d _ _) (LeO.refl _)) (fun r1 => LeO.bind (zbh (zp4 k e d _ _) (LeO.refl _)) (fun r2 => LeO.refl _))) (LeO.refl _)))) (LeO.refl _)
theorem zhg : ∀ a0 k, LeO (zc2 k a0) (zc2 (k + 1) a0) := by
 intro a0 k
 unfold zc2
 exact zbh (LeO.bind (zp4 _ _ _ _ _) (fun _ => LeO.refl _)) (LeO.refl _)
end Go.Proofs.Ytkfkbmlbpeojaaa.Q
end
section
namespace Go.Proofs.Ytkfkbmlbpeojaaa.Q
open Go.RowKit Go.Proofs.YtkfkbmlbpeojaaaW.PrintWords Go.Proofs.YtkfkbmlbpeojaaaW.PrintLast Go.Proofs.YtkfkbmlbpeojaaaW.PrintMore
attribute [local go_sem] zcs zct zdo zdp zb2 zb3 zcu zcv
set_option linter.unusedVariables false
set_option linter.unusedSimpArgs false
def zc3 : Nat → ByteArray → List ByteArray → Int → Option (Int)
 | 0, _, _, _ => none
 | k + 1, x0, x3, x4 => if 0 ≤ x4 then (if x4 < (x3.length : Int) then (if (rdOf ByteArray.empty x3 x4).toList = x0.toList then (some x4) else (zc3 k x0 x3 (wrap64 (x4 + 1)))) else (none)) else (none)
def zfa (k : Nat) (a0 : ByteArray) : Option (Int) := zc3 k a0 (([(⟨#[105, 110]⟩ : ByteArray), (⟨#[99, 111, 110, 115, 116]⟩ : ByteArray), (⟨#[110, 111, 116]⟩ : ByteArray), (⟨#[110, 101, 103]⟩ : ByteArray), (⟨#[97, 100, 100]⟩ : ByteArray), (⟨#[115, 117, 98]⟩ : ByteArray), (⟨#[109, 117, 108]⟩ : ByteArray), (⟨#[97, 110, 100]⟩ : ByteArray), (⟨#[111, 114]⟩ : ByteArray), (⟨#[120, 111, 114]⟩ : ByteArray), (⟨#[115, 104, 108]⟩ : ByteArray), (⟨#[115, 104, 114]⟩ : ByteArray), (⟨#[108, 101, 115, 115]⟩ : ByteArray), (⟨#[101, 113]⟩ : ByteArray)] : List ByteArray)) 0
theorem zi3 : ∀ k, (∀ y0 y1 y2, LeO (zc3 k y0 y1 y2) (zc3 (k + 1) y0 y1 y2))
 | 0 => fun _ _ _ r h => by simp [zc3] at h
 | k + 1 => by
   have ih0 := zi3 k
   · intro y0 y1 y2
     unfold zc3
     exact zm1 ih0
theorem zj8 : ∀ a0 k, LeO (zfa k a0) (zfa (k + 1) a0) := by
 intro a0 k
 have ih0 := zi3 k
 unfold zfa
 exact zm1 ih0
set_option maxHeartbeats 8000000 in
set_option maxRecDepth 100000 in
theorem zjq (k : Nat) (a0 : ByteArray) (r : Int) (w : World) (h : zfa k a0 = some r) :
   Calls Try.prog 145 #[.string a0] w fun e w' => e = .returned (.int .i64 r) ∧ Below w.heap.size w w' := by
 have HB := zA (Below.refl w.heap.size w)
 have H : (zc3 k a0 (([(⟨#[105, 110]⟩ : ByteArray), (⟨#[99, 111, 110, 115, 116]⟩ : ByteArray), (⟨#[110, 111, 116]⟩ : ByteArray), (⟨#[110, 101, 103]⟩ : ByteArray), (⟨#[97, 100, 100]⟩ : ByteArray), (⟨#[115, 117, 98]⟩ : ByteArray), (⟨#[109, 117, 108]⟩ : ByteArray), (⟨#[97, 110, 100]⟩ : ByteArray), (⟨#[111, 114]⟩ : ByteArray), (⟨#[120, 111, 114]⟩ : ByteArray), (⟨#[115, 104, 108]⟩ : ByteArray), (⟨#[115, 104, 114]⟩ : ByteArray), (⟨#[108, 101, 115, 115]⟩ : ByteArray), (⟨#[101, 113]⟩ : ByteArray)] : List ByteArray)) 0) = some r := h
 clear h
 obtain ⟨y101, hy101⟩ : ∃ y_ : List ByteArray, y_ = (([(⟨#[105, 110]⟩ : ByteArray), (⟨#[99, 111, 110, 115, 116]⟩ : ByteArray), (⟨#[110, 111, 116]⟩ : ByteArray), (⟨#[110, 101, 103]⟩ : ByteArray), (⟨#[97, 100, 100]⟩ : ByteArray), (⟨#[115, 117, 98]⟩ : ByteArray), (⟨#[109, 117, 108]⟩ : ByteArray), (⟨#[97, 110, 100]⟩ : ByteArray), (⟨#[111, 114]⟩ : ByteArray), (⟨#[120, 111, 114]⟩ : ByteArray), (⟨#[115, 104, 108]⟩ : ByteArray), (⟨#[115, 104, 114]⟩ : ByteArray), (⟨#[108, 101, 115, 115]⟩ : ByteArray), (⟨#[101, 113]⟩ : ByteArray)] : List ByteArray)) := ⟨_, rfl⟩
 replace H : (zc3 k a0 y101 0) = some r := by first | (rw [hy101]; with_reducible exact H) | (have H2_ := (Option.bind_some _ _).symm.trans H; rw [hy101]; with_reducible exact H2_) | (have H2_ := (Option.bind_some _ _).symm.trans H; with_reducible exact H2_) | with_reducible exact H | (rw [hy101]; exact H) | exact H
 have Ny101 := zA hy101
 clear hy101
 have H' := zA H
 clear H
 go_enter Try.func145, Try.ntmps145
 go_wp2_with (first | ((with_reducible refine zgd 5 ?_); refine Kd.R_lit Kd.string _ 9 ?hg (N := 5) ?hd (xs := ([(⟨#[105, 110]⟩ : ByteArray), (⟨#[99, 111, 110, 115, 116]⟩ : ByteArray), (⟨#[110, 111, 116]⟩ : ByteArray), (⟨#[110, 101, 103]⟩ : ByteArray), (⟨#[97, 100, 100]⟩ : ByteArray), (⟨#[115, 117, 98]⟩ : ByteArray), (⟨#[109, 117, 108]⟩ : ByteArray), (⟨#[97, 110, 100]⟩ : ByteArray), (⟨#[111, 114]⟩ : ByteArray), (⟨#[120, 111, 114]⟩ : ByteArray), (⟨#[115, 104, 108]⟩ : ByteArray), (⟨#[115, 104, 114]⟩ : ByteArray), (⟨#[108, 101, 115, 115]⟩ : ByteArray), (⟨#[101, 113]⟩ : ByteArray)] : List ByteArray)) (inner := [.string (⟨#[105, 110]⟩ : ByteArray), .string (⟨#[99, 111, 110, 115, 116]⟩ : ByteArray), .string (⟨#[110, 111, 116]⟩ : ByteArray), .string (⟨#[110, 101, 103]⟩ : ByteArray), .string (⟨#[97, 100, 100]⟩ : ByteArray), .string (⟨#[115, 117, 98]⟩ : ByteArray), .string (⟨#[109, 117, 108]⟩ : ByteArray), .string (⟨#[97, 110, 100]⟩ : ByteArray), .string (⟨#[111, 114]⟩ : ByteArray), .string (⟨#[120, 111, 114]⟩ : ByteArray), .string (⟨#[115, 104, 108]⟩ : ByteArray), .string (⟨#[115, 104, 114]⟩ : ByteArray), .string (⟨#[108, 101, 115, 115]⟩ : ByteArray), .string (⟨#[101, 113]⟩ : ByteArray)]) (ok := fun _ => True) (okp := fun _ => True) ?hr ?hp (fun _ hk => hk) trivial (Below.refl _ _) (zlr _) (by simp) ?_; (case hd => rfl); (case hg => rfl); (case hr => go_simp <;> rfl); (case hp => exact (zau (show Kd.M Kd.string _ _ _ (⟨#[105, 110]⟩ : ByteArray) [.string (⟨#[105, 110]⟩ : ByteArray)] from rfl) (zau (show Kd.M Kd.string _ _ _ (⟨#[99, 111, 110, 115, 116]⟩ : ByteArray) [.string (⟨#[99, 111, 110, 115, 116]⟩ : ByteArray)] from rfl) (zau (show Kd.M Kd.string _ _ _ (⟨#[110, 111, 116]⟩ : ByteArray) [.string (⟨#[110, 111, 116]⟩ : ByteArray)] from rfl) (zau (show Kd.M Kd.string _ _ _ (⟨#[110, 101, 103]⟩ : ByteArray) [.string (⟨#[110, 101, 103]⟩ : ByteArray)] from rfl) (zau (show Kd.M Kd.string _ _ _ (⟨#[97, 100, 100]⟩ : ByteArray) [.string (⟨#[97, 100, 100]⟩ : ByteArray)] from rfl) (zau (show Kd.M Kd.string _ _ _ (⟨#[115, 117, 98]⟩ : ByteArray) [.string (⟨#[115, 117, 98]⟩ : ByteArray)] from rfl) (zau (show Kd.M Kd.string _ _ _ (⟨#[109, 117, 108]⟩ : ByteArray) [.string (⟨#[109, 117, 108]⟩ : ByteArray)] from rfl) (zau (show Kd.M Kd.string _ _ _ (⟨#[97, 110, 100]⟩ : ByteArray) [.string (⟨#[97, 110, 100]⟩ : ByteArray)] from rfl) (zau (show Kd.M Kd.string _ _ _ (⟨#[111, 114]⟩ : ByteArray) [.string (⟨#[111, 114]⟩ : ByteArray)] from rfl) (zau (show Kd.M Kd.string _ _ _ (⟨#[120, 111, 114]⟩ : ByteArray) [.string (⟨#[120, 111, 114]⟩ : ByteArray)] from rfl) (zau (show Kd.M Kd.string _ _ _ (⟨#[115, 104, 108]⟩ : ByteArray) [.string (⟨#[115, 104, 108]⟩ : ByteArray)] from rfl) (zau (show Kd.M Kd.string _ _ _ (⟨#[115, 104, 114]⟩ : ByteArray) [.string (⟨#[115, 104, 114]⟩ : ByteArray)] from rfl) (zau (show Kd.M Kd.string _ _ _ (⟨#[108, 101, 115, 115]⟩ : ByteArray) [.string (⟨#[108, 101, 115, 115]⟩ : ByteArray)] from rfl) (zau (show Kd.M Kd.string _ _ _ (⟨#[101, 113]⟩ : ByteArray) [.string (⟨#[101, 113]⟩ : ByteArray)] from rfl) (Reps.none _ _)))))))))))))))); intro v102 w2 ho3 hb hg_ hnew_; clear hg_ hnew_; (first | rw [← Ny101.out] at ho3 | (simp only [Int.reduceToNat] at ho3; rw [← Ny101.out] at ho3)); have HO103 := zA (Kd.R_lower ho3 (zar zq1)); replace HB := zA (zad zq1 hb); clear hb ho3))
 go_loopg [4] k (fun kq v4 w' => ∃ (x4_1 : Int), v4 = .int .i64 x4_1 ∧ Aside0 (zc3 kq a0 y101 x4_1 = some r) ∧ Aside0 (kq ≤ k) ∧ Aside0 (Kd.R Kd.string 9 w' w.heap.size (fun _ => True) v102 y101) ∧ Aside0 (Below w.heap.size w w'))
 case atStart => exact ⟨(0), zq6, H', ⟨zlr _⟩, ⟨zq3 HO103⟩, ⟨zq1⟩⟩
 clear H'
 try clear c1
 try clear p2
 obtain ⟨x4_1, rfl, HA, HK1, HO_3, HB⟩ := hrel
 cases gk with
 | zero => exact absurd HA.out (by simp [zc3])
 | succ k1 =>
 have H := HA.out
 clear HA
 simp only [zc3] at H
 revert H
 refine zin fun c4 H => ?_
 revert H
 refine zin fun c5 H => ?_
 by_cases c6 : (rdOf ByteArray.empty y101 x4_1).toList = a0.toList
 · rw [if_pos c6] at H
   have c6b0 := beq_iff_eq.mpr c6
   have c6b1 := bne_eq_false_iff_eq.mpr c6
   clear c6
   obtain rfl := zsi H
   obtain ⟨Ao7, co7, eo7⟩ := Kd.R_slice HO_3.out
   subst eo7
   have p104 : 0 ≤ (x4_1 : Int) := zde zq16
   have q104 : x4_1 < (y101.length : Int) := zde zq16
   obtain ⟨ad104, e104, hx104_0⟩ := Kd.at_string (zRr HO_3.out).2.2 x4_1 p104 q104
   cases e104
   replace p104 := eq_true p104
   replace q104 := eq_true q104
   go_wp2
   go_ret
   exact ⟨zq4, zq1⟩
 rw [if_neg c6] at H
 have c6b0 := beq_eq_false_iff_ne.mpr c6
 have c6b1 := bne_iff_ne.mpr c6
 have H' := zA H
 clear H
 obtain ⟨Ao8, co8, eo8⟩ := Kd.R_slice HO_3.out
 subst eo8
 have p104 : 0 ≤ (x4_1 : Int) := zde zq16
 have q104 : x4_1 < (y101.length : Int) := zde zq16
 obtain ⟨ad104, e104, hx104_0⟩ := Kd.at_string (zRr HO_3.out).2.2 x4_1 p104 q104
 cases e104
 replace p104 := eq_true p104
 replace q104 := eq_true q104
 go_wp2
 go_roundg k1
 case measure => have := HK1.out; omega
 case rel => exact ⟨(wrap64 (x4_1 + 1)), zq6, H', ⟨zq38 HK1⟩, ⟨zq3 HO_3⟩, ⟨zq1⟩⟩
def scL (g : Int → Int → Option Int) : List Int → List Int → Option Int
 | [], _ => some 0
 | _ :: _, [] => none
 | x :: xs, y :: ys => (g x y).bind fun c => if c = 0 then scL g xs ys else some c
def scW (k : Nat) (e : List S72) : Nat → Int → Int → Option Int
 | 0, _, _ => none
 | d + 1, i, j => if i = j then some 0 else if (0 ≤ i ∧ i < (e.length : Int)) ∧ 0 ≤ j ∧ j < (e.length : Int) then if (zab e i).f0.toList = (zab e j).f0.toList then (if (zab e i).f3 = (zab e j).f3 then (zcq k (zab e j).f0 (zab e j).f1 (zab e j).f2 (zab e j).f3).bind fun kb => (zcq k (zab e i).f0 (zab e i).f1 (zab e i).f2 (zab e i).f3).bind fun ka => if ka.length < 1048576 then scL (scW k e d) ka kb else none else some (wrap64 ((zab e i).f3 - (zab e j).f3))) else (zfa k (zab e i).f0).bind fun ra => (zfa k (zab e j).f0).bind fun rb => some (wrap64 (ra - rb)) else none
def zhq (k : Nat) (l0 : List S72) (a1 : Int) (a2 : Int) : Option Int := scW k l0 k a1 a2
theorem zr4 (g g' : Int → Int → Option Int) (h : ∀ x y, LeO (g x y) (g' x y)) : ∀ xs ys, LeO (scL g xs ys) (scL g' xs ys)
 | [], _ => LeO.refl _
 | _ :: _, [] => LeO.none _
 | x :: xs, y :: ys => LeO.bind (h x y) (fun _ => zbh (zr4 g g' h xs ys) (LeO.refl _))
theorem zs3 (k : Nat) (e : List S72) : ∀ (d : Nat) (i j : Int), LeO (scW k e d i j) (scW (k + 1) e (d + 1) i j)
 | 0, _, _ => LeO.none _
 | d + 1, i, j => by
   unfold scW
   exact zbh (LeO.refl _) (zbh (zbh (zbh (LeO.bind (zce _ _ _ _ _) (fun _ => LeO.bind (zce _ _ _ _ _) (fun _ => zbh (zr4 _ _ (zs3 k e d) _ _) (LeO.refl _)))) (LeO.refl _)) (LeO.bind (zj8 _ _) (fun _ => LeO.bind (zj8 _ _) (fun _ => LeO.refl _)))) (LeO.refl _))
theorem zs4 (k : Nat) (e : List S72) : ∀ (d : Nat) (i j : Int), LeO (scW k e d i j) (scW k e (d + 1) i j)
 | 0, _, _ => LeO.none _
 | d + 1, i, j => by
   unfold scW
   exact zbh (LeO.refl _) (zbh (zbh (zbh (LeO.bind (LeO.refl _) (fun _ => LeO.bind (LeO.refl _) (fun _ => zbh (zr4 _ _ (zs4 k e d) _ _) (LeO.refl _)))) (LeO.refl _)) (LeO.bind (LeO.refl _) (fun _ => LeO.bind (LeO.refl _) (fun _ => LeO.refl _)))) (LeO.refl _))
theorem zor : ∀ a0 a1 a2 k, LeO (zhq k a0 a1 a2) (zhq (k + 1) a0 a1 a2) := fun a0 a1 a2 k => zs3 k a0 k a1 a2
set_option maxHeartbeats 4000000 in
set_option maxRecDepth 100000 in
theorem zza (k : Nat) {A0 : Option Addr} {c0 : Nat} {e : List S72} {w : World} (hC : Kd.C k72 w A0 e.length e) (hc0 : e.length ≤ c0) : ∀ (d : Nat) (i j r : Int) (W : World), Below w.heap.size w W → scW k e d i j = some r →
   Calls Try.prog 97 #[.slice A0 e.length c0, .int .i64 i, .int .i64 j] W fun y W' => y = .returned (.int .i64 r) ∧ Below W.heap.size W W' := by
 have HC := zA hC
 clear hC
 intro d
 induction d with
 | zero => intro i j r W hB h; cases h
 | succ d ih =>
 intro i j r W hB h
 have HIH := zA ih
 have HB := zA hB
 clear ih hB
 unfold scW at h
 by_cases hij : i = j
 · rw [if_pos hij] at h
   obtain rfl := zsi h
   subst hij
   clear h
   go_enter Try.func97, Try.ntmps97
   go_wp2_with fail
   go_ret
   exact ⟨rfl, Below.refl _ _⟩
 rw [if_neg hij] at h
 by_cases hin : (0 ≤ i ∧ i < (e.length : Int)) ∧ 0 ≤ j ∧ j < (e.length : Int)
 rotate_left
 · rw [if_neg hin] at h
   cases h
 rw [if_pos hin] at h
 obtain ⟨⟨i0, i1⟩, j0, j1⟩ := hin
 have dij : decide (i = j) = false := zdf hij
 have dij' : (i == j) = false := by simpa using hij
 obtain ⟨ad, eA, x0, x1, x2, x3⟩ := zd0 (zCb HC.out HB.out) i i0 i1
 subst eA
 obtain ⟨x, hx⟩ : ∃ x, x = zab e i := ⟨_, rfl⟩
 obtain ⟨y, hy⟩ : ∃ y, y = zab e j := ⟨_, rfl⟩
 have HX := zA hx
 have HY := zA hy
 rw [← hx, ← hy] at h
 have HH := zA h
 clear hx hy h x0 x1 x2 x3
 go_enter Try.func97, Try.ntmps97
 go_wp2_with fail
 clear hij dij dij'
 refine zsq [[], [], [0, 1], [0, 1, 2], [], [], [4, 5], [4, 5, 6], [], [], [0, 1, 2, 3, 8, 9], [0, 1, 2, 3, 4, 5, 6, 7, 8, 9, 10]] [[2, 3, 10, 11], [2, 3, 10, 11], [3, 10, 11], [10, 11], [6, 7, 11], [6, 7, 11], [7, 11], [11], [10, 11], [10, 11], [11], []] (za6 [8, 9])
   (zbi [.slice (some ad) e.length c0, .int .i64 i, .pointer (some (ad.add (i.toNat * 4))), .agg #[.string x.f0, .int .i64 x.f1, .int .i64 x.f2, .int .i64 x.f3], .slice (some ad) e.length c0, .int .i64 j, .pointer (some (ad.add (j.toNat * 4))), .agg #[.string y.f0, .int .i64 y.f1, .int .i64 y.f2, .int .i64 y.f3], undef, undef, undef, undef])
   (fun L s V => Below W.heap.size W V ∧ (L 8 = true → ∃ g cs, s 8 = .pointer (some ⟨g, 0, none⟩) ∧ W.heap.size ≤ g ∧ V.heap[g]? = some (.cells cs 72 (0, 0)) ∧ cs.size = 4 ∧ (L 10 = true → cs = #[.string x.f0, .int .i64 x.f1, .int .i64 x.f2, .int .i64 x.f3]) ∧ (L 9 = true → s 9 ≠ s 8)) ∧ (L 9 = true → ∃ g cs, s 9 = .pointer (some ⟨g, 0, none⟩) ∧ W.heap.size ≤ g ∧ V.heap[g]? = some (.cells cs 72 (0, 0)) ∧ cs.size = 4 ∧ (L 11 = true → cs = #[.string y.f0, .int .i64 y.f1, .int .i64 y.f2, .int .i64 y.f3])))
   rfl (fun _ _ _ _ _ h => h) zq23 ⟨zco (Below.refl _ _), fun h => Bool.noConfusion h, fun h => Bool.noConfusion h⟩ ⟨?_, ?_, ?_, ?_, ?_, ?_, ?_, ?_, ?_, ?_, ?_, ?_, trivial⟩ ?_
 iterate 3
   · refine fun L s V hu hd hn hJ => zff (by rfl) ⟨fun _ => rfl, hJ⟩ ?_
     simp only [zag, riGo, zat, zas, za6, zbi, mixV, Nat.reduceBEq, Nat.reduceAdd, List.headD, List.tail, List.getD, List.getElem?_cons_zero, List.getElem?_cons_succ, Option.getD_some, cond_true, cond_false]
     first | (go_simp; done) | (go_simp; rfl)
 · refine fun L s V hu hd hn hJ => zff (by rfl) ⟨fun _ => rfl, hJ⟩ ?_
   obtain ⟨ad', ea, z0, z1, z2, z3⟩ := zd0 (zCb HC.out (zad HB.out hJ.1)) i i0 i1
   cases ea
   rw [← HX.out] at z0 z1 z2 z3
   clear hJ
   simp only [zag, riGo, zat, zas, za6, zbi, mixV, Nat.reduceBEq, Nat.reduceAdd, List.headD, List.tail, List.getD, List.getElem?_cons_zero, List.getElem?_cons_succ, Option.getD_some, cond_true, cond_false]
   first | (go_simp; done) | (go_simp; rfl)
 iterate 3
   · refine fun L s V hu hd hn hJ => zff (by rfl) ⟨fun _ => rfl, hJ⟩ ?_
     simp only [zag, riGo, zat, zas, za6, zbi, mixV, Nat.reduceBEq, Nat.reduceAdd, List.headD, List.tail, List.getD, List.getElem?_cons_zero, List.getElem?_cons_succ, Option.getD_some, cond_true, cond_false]
     first | (go_simp; done) | (go_simp; rfl)
 · refine fun L s V hu hd hn hJ => zff (by rfl) ⟨fun _ => rfl, hJ⟩ ?_
   obtain ⟨ad', ea, z0, z1, z2, z3⟩ := zd0 (zCb HC.out (zad HB.out hJ.1)) j j0 j1
   cases ea
   rw [← HY.out] at z0 z1 z2 z3
   clear hJ
   simp only [zag, riGo, zat, zas, za6, zbi, mixV, Nat.reduceBEq, Nat.reduceAdd, List.headD, List.tail, List.getD, List.getElem?_cons_zero, List.getElem?_cons_succ, Option.getD_some, cond_true, cond_false]
   first | (go_simp; done) | (go_simp; rfl)
 · rintro L s V hu hd hn ⟨hb, g8, g9⟩
   refine zff (v := .pointer (some ⟨V.heap.size, 0, none⟩)) (w1 := V.alloc (.cells #[.string ⟨#[]⟩, .int .i64 0, .int .i64 0, .int .i64 0] 72)) (by rfl) ⟨fun h => absurd h (by decide), zba hb _, fun _ => ⟨_, _, rfl, hb.size, zfy V _, rfl, fun h => absurd (h.symm.trans hn.1) (by simp), fun h e => ?_⟩, fun h => ?_⟩ ?_
   · obtain ⟨g, cs, a1, a2, a3, _⟩ := g9 h
     have := zb9 a3
     rw [show riUp s 8 (.pointer (some ⟨V.heap.size, 0, none⟩)) 9 = s 9 from rfl, a1] at e
     have e2 : g = V.heap.size := by first | (simp [riUp] at e; done) | (simp [riUp] at e; exact e)
     omega
   · obtain ⟨g, cs, a1, a2, a3, a4, a5⟩ := g9 h
     exact ⟨g, cs, a1, a2, zka a3 _, a4, a5⟩
   · simp only [zag, riGo, zat, zas, za6, zbi, mixV, Nat.reduceBEq, Nat.reduceAdd, List.headD, List.tail, List.getD, List.getElem?_cons_zero, List.getElem?_cons_succ, Option.getD_some, cond_true, cond_false]
     first | (go_simp; done) | (go_simp; rfl)
 · rintro L s V hu hd hn ⟨hb, g8, g9⟩
   refine zff (v := .pointer (some ⟨V.heap.size, 0, none⟩)) (w1 := V.alloc (.cells #[.string ⟨#[]⟩, .int .i64 0, .int .i64 0, .int .i64 0] 72)) (by rfl) ⟨fun h => absurd h (by decide), zba hb _, fun h => ?_, fun _ => ⟨_, _, rfl, hb.size, zfy V _, rfl, fun h => absurd (h.symm.trans hn.2) (by simp)⟩⟩ ?_
   · obtain ⟨g, cs, a1, a2, a3, a4, a5, _⟩ := g8 h
     refine ⟨g, cs, a1, a2, zka a3 _, a4, a5, fun _ e => ?_⟩
     have := zb9 a3
     rw [show riUp s 9 (.pointer (some ⟨V.heap.size, 0, none⟩)) 8 = s 8 from rfl, a1] at e
     have e2 : V.heap.size = g := by first | (simp [riUp] at e; done) | (simp [riUp] at e; exact e)
     omega
   simp only [zag, riGo, zat, zas, za6, zbi, mixV, Nat.reduceBEq, Nat.reduceAdd, List.headD, List.tail, List.getD, List.getElem?_cons_zero, List.getElem?_cons_succ, Option.getD_some, cond_true, cond_false]
   first | (go_simp; done) | (go_simp; rfl)
 · rintro L s V hu hd hn ⟨hb, g8, g9⟩
   obtain ⟨g, cs, a1, a2, a3, a4, a5, a6⟩ := g8 (zay _ hd 8 (by decide))
   obtain ⟨g', cs', b1, b2, b3, b4, b5⟩ := g9 (zay _ hd 9 (by decide))
   have hne : g' ≠ g := fun e => a6 (zay _ hd 9 (by decide)) (by rw [a1, b1, e])
   refine zp2 (by rfl) rfl rfl (g := g) (u := .agg #[.string x.f0, .int .i64 x.f1, .int .i64 x.f2, .int .i64 x.f3]) (seg := [.string x.f0, .int .i64 x.f1, .int .i64 x.f2, .int .i64 x.f3]) (by exact a1) (by rfl) a3 rfl rfl a4 zq39 (fun V1 c1 c2 c3 => ⟨fun _ => rfl, hb.trans (c2 _ a2), fun _ => ⟨g, _, a1, a2, c1, rfl, fun _ => rfl, a6⟩, fun _ => ⟨g', cs', b1, b2, (c3 g' hne).trans b3, b4, b5⟩⟩)
 · rintro L s V hu hd hn ⟨hb, g8, g9⟩
   obtain ⟨g, cs, a1, a2, a3, a4, a5, a6⟩ := g8 (zay _ hd 8 (by decide))
   obtain ⟨g', cs', b1, b2, b3, b4, b5⟩ := g9 (zay _ hd 9 (by decide))
   have hne : g ≠ g' := fun e => a6 (zay _ hd 9 (by decide)) (by rw [a1, b1, e])
   refine zp2 (by rfl) rfl rfl (g := g') (u := .agg #[.string y.f0, .int .i64 y.f1, .int .i64 y.f2, .int .i64 y.f3]) (seg := [.string y.f0, .int .i64 y.f1, .int .i64 y.f2, .int .i64 y.f3]) (by exact b1) (by rfl) b3 rfl rfl b4 zq39 (fun V1 c1 c2 c3 => ⟨fun _ => rfl, hb.trans (c2 _ b2), fun _ => ⟨g, cs, a1, a2, (c3 g hne).trans a3, a4, a5, a6⟩, fun _ => ⟨g', _, b1, b2, c1, rfl, fun _ => rfl⟩⟩)
 · rintro L s V hL ⟨hb, g8, g9⟩
   obtain ⟨g, cs, a1, a2, a3, a4, a5, a6⟩ := g8 (hL 8 rfl)
   obtain ⟨g', cs', b1, b2, b3, b4, b5⟩ := g9 (hL 9 rfl)
   obtain rfl := a5 (hL 10 rfl)
   obtain rfl := b5 (hL 11 rfl)
   have HB3 := zA (zad HB.out hb)
   have HW3 := zA hb
   have BX := zA a3
   have BY := zA b3
   clear a2 a3 a4 a5 a6 b2 b3 b4 b5 g8 g9 hb hL
   simp only [zag, riGo, zat, zas, za6, zbi, mixV, Nat.reduceBEq, Nat.reduceAdd, List.headD, List.tail, List.getD, List.getElem?_cons_zero, List.getElem?_cons_succ, Option.getD_some, cond_true, cond_false]
   rw [a1, b1]
   clear a1 b1
   have x0 := zac BX.out 0
   have x3 := zac BX.out 3
   have y0 := zac BY.out 0
   have y3 := zac BY.out 3
   by_cases ho : x.f0.toList = y.f0.toList
   rotate_left
   · have h := HH.out
     rw [if_neg ho] at h
     obtain ⟨ra, hra, h⟩ := Option.bind_eq_some_iff.1 h
     obtain ⟨rb, hrb, h⟩ := Option.bind_eq_some_iff.1 h
     have HRA := zA hra
     have HRB := zA hrb
     obtain rfl := zsi h
     have b0 : (x.f0.toList == y.f0.toList) = false := by simpa using ho
     clear h HH hra hrb ho x3 y3
     go_wp2_with fail
     clear b0 x0 y0
     refine zsq [[], [0], [0, 1], [], [3], [0, 1, 2, 3, 4], [0, 1, 2, 3, 4, 5], [0, 1, 2, 3, 4, 5, 6]] [] (za6 []) (zbi [.pointer (some ⟨g, 0, none⟩), .string x.f0, .int .i64 ra, .pointer (some ⟨g', 0, none⟩), .string y.f0, .int .i64 rb, .int .i64 (wrap64 (ra - rb)), .int .i64 (wrap64 (ra - rb))]) (fun L s U => Below V.heap.size V U)
       rfl (fun _ _ _ _ _ h => h) zq23 (zco (Below.refl _ _)) ⟨?_, ?_, ?_, ?_, ?_, ?_, ?_, ?_, trivial⟩ ?_
     · refine fun L s U hu hd hn hJ => zff (by rfl) ⟨fun _ => rfl, hJ⟩ ?_
       simp only [zag, riGo, zat, zas, za6, zbi, mixV, Nat.reduceBEq, Nat.reduceAdd, List.headD, List.tail, List.getD, List.getElem?_cons_zero, List.getElem?_cons_succ, Option.getD_some, cond_true, cond_false]
       first | (go_simp; done) | (go_simp; rfl) | (go_simp; exact zfx _)
     · refine fun L s U hu hd hn hJ => zff (by rfl) ⟨fun _ => rfl, hJ⟩ ?_
       have q := zac (zaf BX.out hJ) 0
       simp only [zag, riGo, zat, zas, za6, zbi, mixV, Nat.reduceBEq, Nat.reduceAdd, List.headD, List.tail, List.getD, List.getElem?_cons_zero, List.getElem?_cons_succ, Option.getD_some, cond_true, cond_false]
       first | (go_simp; done) | (go_simp; rfl) | (go_simp; exact zfx _)
     · intro L s U hu hd hn hJ
       exact zlj Try.func145 zq23 rfl #[.string x.f0] (by rfl) rfl zq35 ((zjq k x.f0 ra U HRA.out).mono (by rintro e U' ⟨rfl, hb⟩; exact ⟨_, rfl, fun _ => rfl, zad hJ hb⟩))
     · refine fun L s U hu hd hn hJ => zff (by rfl) ⟨fun _ => rfl, hJ⟩ ?_
       simp only [zag, riGo, zat, zas, za6, zbi, mixV, Nat.reduceBEq, Nat.reduceAdd, List.headD, List.tail, List.getD, List.getElem?_cons_zero, List.getElem?_cons_succ, Option.getD_some, cond_true, cond_false]
       first | (go_simp; done) | (go_simp; rfl) | (go_simp; exact zfx _)
     · refine fun L s U hu hd hn hJ => zff (by rfl) ⟨fun _ => rfl, hJ⟩ ?_
       have q := zac (zaf BY.out hJ) 0
       simp only [zag, riGo, zat, zas, za6, zbi, mixV, Nat.reduceBEq, Nat.reduceAdd, List.headD, List.tail, List.getD, List.getElem?_cons_zero, List.getElem?_cons_succ, Option.getD_some, cond_true, cond_false]
       first | (go_simp; done) | (go_simp; rfl) | (go_simp; exact zfx _)
     · intro L s U hu hd hn hJ
       exact zlj Try.func145 zq23 rfl #[.string y.f0] (by rfl) rfl zq35 ((zjq k y.f0 rb U HRB.out).mono (by rintro e U' ⟨rfl, hb⟩; exact ⟨_, rfl, fun _ => rfl, zad hJ hb⟩))
     · refine fun L s U hu hd hn hJ => zff (by rfl) ⟨fun _ => rfl, hJ⟩ ?_
       simp only [zag, riGo, zat, zas, za6, zbi, mixV, Nat.reduceBEq, Nat.reduceAdd, List.headD, List.tail, List.getD, List.getElem?_cons_zero, List.getElem?_cons_succ, Option.getD_some, cond_true, cond_false]
       first | (go_simp; done) | (go_simp; rfl) | (go_simp; exact zfx _)
     · refine fun L s U hu hd hn hJ => zff (by rfl) ⟨fun _ => rfl, hJ⟩ ?_
       simp only [zag, riGo, zat, zas, za6, zbi, mixV, Nat.reduceBEq, Nat.reduceAdd, List.headD, List.tail, List.getD, List.getElem?_cons_zero, List.getElem?_cons_succ, Option.getD_some, cond_true, cond_false]
       first | (go_simp; done) | (go_simp; rfl) | (go_simp; exact zfx _)
     · intro L s U hL hJ
       have HW4 := zA (zad HW3.out hJ)
       clear hL hJ
       simp only [zag, riGo, zat, zas, za6, zbi, mixV, Nat.reduceBEq, Nat.reduceAdd, List.headD, List.tail, List.getD, List.getElem?_cons_zero, List.getElem?_cons_succ, Option.getD_some, cond_true, cond_false]
       go_wp2_with fail
       go_ret
       exact ⟨rfl, HW4.out⟩
   have b0 : (x.f0.toList == y.f0.toList) = true := beq_iff_eq.2 ho
   have h := HH.out
   rw [if_pos ho] at h
   clear HH ho
   by_cases hv : x.f3 = y.f3
   rotate_left
   · rw [if_neg hv] at h
     obtain rfl := zsi h
     clear h
     go_wp2_with fail
     go_ret
     exact ⟨rfl, HW3.out⟩
   rw [if_pos hv] at h
   obtain ⟨kb, hkb, h⟩ := Option.bind_eq_some_iff.1 h
   obtain ⟨ka, hka, h⟩ := Option.bind_eq_some_iff.1 h
   by_cases hkl : ka.length < 1048576
   rotate_left
   · rw [if_neg hkl] at h
     cases h
   rw [if_pos hkl] at h
   have HKA := zA hka
   have HKB := zA hkb
   have HLP := zA h
   have HV3 := zA hv
   have bv : (x.f3 == y.f3) = true := by simpa using hv
   clear hka hkb h
   have y1 := zac BY.out 1
   have y2 := zac BY.out 2
   go_upto_region 9 with (go_at_call 143; go_must (refine (zcr k y.f0 y.f1 y.f2 y.f3 kb _ HKB.out).mono ?_; rintro e U0 ⟨v, rfl, ho, hb⟩; obtain ⟨Ab, cb, rfl⟩ := Kd.R_slice ho; have HKb := zA (zRr ho).2.2; have HB4 := zA (zad HB3.out hb); have HW4 := zA (zad HW3.out hb); have BX4 := zA (zaf BX.out hb); clear hb ho y1 y2 x0 x3 y0 y3))
   clear hv b0 bv
   have x0 := zac BX4.out 0
   have x1 := zac BX4.out 1
   have x2 := zac BX4.out 2
   have x3 := zac BX4.out 3
   go_wp2_with (go_at_call 143; go_must (refine (zcr k x.f0 x.f1 x.f2 x.f3 ka _ HKA.out).mono ?_; rintro e U1 ⟨v, rfl, ho, hb⟩; obtain ⟨Ak, ck, rfl⟩ := Kd.R_slice ho; have HK := zA (zRr ho).2.2; have HB5 := zA (zad HB4.out hb); have HW5 := zA (zad HW4.out hb); have HKb5 := zA (zCb HKb.out hb); clear hb ho x0 x1 x2 x3))
   go_loopw [51] (fun v51 wr => ∃ u : Nat, v51 = .int .i64 (u : Int) ∧ u ≤ ka.length ∧ Aside0 (Below U1.heap.size U1 wr) ∧ Aside0 (scL (scW k e d) (ka.drop u) (kb.drop u) = some r)) (fun v51 _ => ka.length - (intOf v51).toNat)
   case atStart => exact ⟨0, rfl, Nat.zero_le _, ⟨Below.refl _ _⟩, ⟨by rw [List.drop_zero, List.drop_zero]; exact HLP.out⟩⟩
   clear HLP
   obtain ⟨u, rfl, hu, HBr, HS⟩ := hrel
   by_cases hlt : u < ka.length
   rotate_left
   · obtain rfl : u = ka.length := by omega
     have d1 : decide ((ka.length : Int) < ka.length) = false := zdf (by omega)
     have hs := HS.out
     rw [List.drop_length] at hs
     obtain rfl := zsi hs
     clear hs HS
     go_wp2_with fail
     go_ret
     exact ⟨rfl, HW5.out.trans (HBr.out.mono HW5.out.size)⟩
   have d1 : decide ((u : Int) < ka.length) = true := zdt (by omega)
   have d2 : (0 : Int) ≤ (u : Int) := by omega
   have d3 : (u : Int) < ka.length := by omega
   have hs := HS.out
   rw [List.drop_eq_getElem_cons hlt] at hs
   by_cases hltb : u < kb.length
   rotate_left
   · rw [List.drop_of_length_le (by omega : kb.length ≤ u)] at hs
     cases hs
   rw [List.drop_eq_getElem_cons hltb] at hs
   have d4 : (u : Int) < kb.length := by omega
   unfold scL at hs
   obtain ⟨c', hc', hs⟩ := Option.bind_eq_some_iff.1 hs
   have hva : rd ka (u : Int) = ka[u] := by
     unfold rd
     rw [Int.toNat_natCast, List.getD_eq_getElem?_getD, List.getElem?_eq_getElem hlt]
     rfl
   have hvb : rd kb (u : Int) = kb[u] := by
     unfold rd
     rw [Int.toNat_natCast, List.getD_eq_getElem?_getD, List.getElem?_eq_getElem hltb]
     rfl
   rw [← hva, ← hvb] at hc'
   have HREC := zA hc'
   have HLT := zA hlt
   have HS2 := zA hs
   obtain ⟨adk, ek, hck⟩ := Kd.at_int (zCb HK.out HBr.out) (u : Int) d2 d3
   rw [Int.toNat_natCast] at hck
   subst ek
   obtain ⟨adb, eb, hcb⟩ := Kd.at_int (zCb HKb5.out HBr.out) (u : Int) d2 d4
   rw [Int.toNat_natCast] at hcb
   subst eb
   clear hs hc' hva hvb HS
   by_cases hcz : c' = 0
   rotate_left
   · have hs := HS2.out
     rw [if_neg hcz] at hs
     obtain rfl := zsi hs
     clear hs HS2
     go_wp2_with (go_at_call 97; go_must (refine (HIH.out (rd ka (u : Int)) (rd kb (u : Int)) c' wr (HB5.out.trans (HBr.out.mono HB5.out.size)) HREC.out).mono ?_; rintro e U3 ⟨rfl, hb⟩; have HB7 := zA (zad HBr.out hb); clear hb hcb hck))
     go_ret
     exact ⟨rfl, HW5.out.trans (HB7.out.mono HW5.out.size)⟩
   subst hcz
   have hs := HS2.out
   rw [if_pos rfl] at hs
   have HS3 := zA hs
   clear hs HS2
   go_wp2_with (go_at_call 97; go_must (refine (HIH.out (rd ka (u : Int)) (rd kb (u : Int)) 0 wr (HB5.out.trans (HBr.out.mono HB5.out.size)) HREC.out).mono ?_; rintro e U3 ⟨rfl, hb⟩; have HB7 := zA (zad HBr.out hb); clear hb hcb hck))
   go_roundw
   case rel => exact ⟨u + 1, by go_num, HLT.out, HB7, HS3⟩
   have := HLT.out
   simp [intOf]
   omega
theorem zn5 (k : Nat) (A0 : Option Addr) (c0 : Nat) (l0 : List S72) (a1 : Int) (a2 : Int) (r : Int) (w : World) (hr0 : Kd.C k72 w A0 l0.length l0) (hc0 : l0.length ≤ c0) (h : zhq k l0 a1 a2 = some r) :
   Calls Try.prog 97 #[.slice A0 l0.length c0, .int .i64 a1, .int .i64 a2] w fun e w' => e = .returned (.int .i64 r) ∧ Below w.heap.size w w' := zza k hr0 hc0 k a1 a2 r w (Below.refl _ _) h
def ze1 (k : Nat) (a0 : ByteArray) : Option (Bool) := (zdr k (([(⟨#[97, 100, 100]⟩ : ByteArray), (⟨#[109, 117, 108]⟩ : ByteArray), (⟨#[97, 110, 100]⟩ : ByteArray), (⟨#[111, 114]⟩ : ByteArray), (⟨#[120, 111, 114]⟩ : ByteArray), (⟨#[101, 113]⟩ : ByteArray)] : List ByteArray)) a0).bind fun t104 => (some t104)
theorem zl8 : ∀ a0 k, LeO (ze1 k a0) (ze1 (k + 1) a0) := by
 intro a0 k
 unfold ze1
 exact zm1 zj6
set_option maxHeartbeats 8000000 in
set_option maxRecDepth 100000 in
theorem zgu (k : Nat) (a0 : ByteArray) (r : Bool) (w : World) (h : ze1 k a0 = some r) :
   Calls Try.prog 96 #[.string a0] w fun e w' => e = .returned (.bool r) ∧ Below w.heap.size w w' := by
 have HB := zA (Below.refl w.heap.size w)
 have H : ((zdr k (([(⟨#[97, 100, 100]⟩ : ByteArray), (⟨#[109, 117, 108]⟩ : ByteArray), (⟨#[97, 110, 100]⟩ : ByteArray), (⟨#[111, 114]⟩ : ByteArray), (⟨#[120, 111, 114]⟩ : ByteArray), (⟨#[101, 113]⟩ : ByteArray)] : List ByteArray)) a0).bind fun t104 => (some t104)) = some r := h
 clear h
 obtain ⟨y101, hy101⟩ : ∃ y_ : List ByteArray, y_ = (([(⟨#[97, 100, 100]⟩ : ByteArray), (⟨#[109, 117, 108]⟩ : ByteArray), (⟨#[97, 110, 100]⟩ : ByteArray), (⟨#[111, 114]⟩ : ByteArray), (⟨#[120, 111, 114]⟩ : ByteArray), (⟨#[101, 113]⟩ : ByteArray)] : List ByteArray)) := ⟨_, rfl⟩
 replace H : ((zdr k y101 a0).bind fun t104 => (some t104)) = some r := by first | (rw [hy101]; with_reducible exact H) | (have H2_ := (Option.bind_some _ _).symm.trans H; rw [hy101]; with_reducible exact H2_) | (have H2_ := (Option.bind_some _ _).symm.trans H; with_reducible exact H2_) | with_reducible exact H | (rw [hy101]; exact H) | exact H
 have Ny101 := zA hy101
 clear hy101
 replace H := zob H
 obtain ⟨t104, A20, H⟩ := H
 replace H : (some t104) = some r := H
 have A2 := zA A20
 clear A20
 obtain rfl := zsi H
 go_enter Try.func96, Try.ntmps96
 go_wp2_with (first | ((with_reducible refine zgd 3 ?_); refine Kd.R_lit Kd.string _ 9 ?hg (N := 3) ?hd (xs := ([(⟨#[97, 100, 100]⟩ : ByteArray), (⟨#[109, 117, 108]⟩ : ByteArray), (⟨#[97, 110, 100]⟩ : ByteArray), (⟨#[111, 114]⟩ : ByteArray), (⟨#[120, 111, 114]⟩ : ByteArray), (⟨#[101, 113]⟩ : ByteArray)] : List ByteArray)) (inner := [.string (⟨#[97, 100, 100]⟩ : ByteArray), .string (⟨#[109, 117, 108]⟩ : ByteArray), .string (⟨#[97, 110, 100]⟩ : ByteArray), .string (⟨#[111, 114]⟩ : ByteArray), .string (⟨#[120, 111, 114]⟩ : ByteArray), .string (⟨#[101, 113]⟩ : ByteArray)]) (ok := fun _ => True) (okp := fun _ => True) ?hr ?hp (fun _ hk => hk) trivial (Below.refl _ _) (zlr _) (by simp) ?_; (case hd => rfl); (case hg => rfl); (case hr => go_simp <;> rfl); (case hp => exact (zau (show Kd.M Kd.string _ _ _ (⟨#[97, 100, 100]⟩ : ByteArray) [.string (⟨#[97, 100, 100]⟩ : ByteArray)] from rfl) (zau (show Kd.M Kd.string _ _ _ (⟨#[109, 117, 108]⟩ : ByteArray) [.string (⟨#[109, 117, 108]⟩ : ByteArray)] from rfl) (zau (show Kd.M Kd.string _ _ _ (⟨#[97, 110, 100]⟩ : ByteArray) [.string (⟨#[97, 110, 100]⟩ : ByteArray)] from rfl) (zau (show Kd.M Kd.string _ _ _ (⟨#[111, 114]⟩ : ByteArray) [.string (⟨#[111, 114]⟩ : ByteArray)] from rfl) (zau (show Kd.M Kd.string _ _ _ (⟨#[120, 111, 114]⟩ : ByteArray) [.string (⟨#[120, 111, 114]⟩ : ByteArray)] from rfl) (zau (show Kd.M Kd.string _ _ _ (⟨#[101, 113]⟩ : ByteArray) [.string (⟨#[101, 113]⟩ : ByteArray)] from rfl) (Reps.none _ _)))))))); intro v102 w3 ho4 hb hg_ hnew_; clear hg_ hnew_; (first | rw [← Ny101.out] at ho4 | (simp only [Int.reduceToNat] at ho4; rw [← Ny101.out] at ho4)); have HO103 := zA (Kd.R_lower ho4 (zar zq1)); replace HB := zA (zad zq1 hb); clear hb ho4; obtain ⟨Ao5, co5, eo5⟩ := Kd.R_slice HO103.out; subst eo5) | ((with_reducible refine zax (f := 126) rfl ?_); refine zdu (some 5) rfl rfl Try.func126 zq23 rfl #[.slice Ao5 y101.length co5, .string a0] rfl zq9 ?_; (with_reducible refine (zjo k _ _ y101 a0 t104 _ ?side1 ?side2 A2.out).mono ?_); (case side1 => repeat (first | exact (zRr HO103.out).2.2 | (with_reducible first | refine zCa ?_ _ | refine zCn ?_ _ | refine zCd ?_))); (case side2 => exact (zRr HO103.out).2.1); rintro e w' ⟨rfl, ⟨nd, rfl⟩⟩; refine ⟨_, rfl, ?_⟩))
 go_ret
 exact ⟨zq4, zq1⟩
def vaSt (k : Nat) (out : List S72) (i : Int) : Option (List S72) := (ze1 k (zab out i).f0).bind fun t => if t = true then (zhq k out (zab out i).f2 (zab out i).f1).bind fun c => some (if c < 0 then out.set i.toNat ⟨(zab out i).f0, (zab out i).f2, (zab out i).f1, (zab out i).f3⟩ else out) else some out
def vaL (k : Nat) : Nat → Nat → List S72 → Option (List S72)
 | 0, _, out => some out
 | d + 1, u, out => (vaSt k out (u : Int)).bind fun o => vaL k d (u + 1) o
theorem zv7 (k : Nat) (out o : List S72) (i : Int) (h : vaSt k out i = some o) : o.length = out.length := by
 unfold vaSt at h
 obtain ⟨t, _, h⟩ := Option.bind_eq_some_iff.1 h
 split at h
 · obtain ⟨c, _, h⟩ := Option.bind_eq_some_iff.1 h
   obtain rfl := zsi h
   split <;> simp
 · obtain rfl := zsi h
   rfl
def zcj (k : Nat) (l0 : List S72) : Option (List S72) := (zc2 k l0).bind fun o => if o.length < 1048576 then (vaL k o.length 0 o).bind fun o2 => zc2 k o2 else none
set_option maxHeartbeats 4000000 in
set_option maxRecDepth 100000 in
theorem zl9 (k : Nat) (A0 : Option Addr) (c0 : Nat) (l0 : List S72) (r : List S72) (w : World) (hr0 : Kd.C k72 w A0 l0.length l0) (hc0 : l0.length ≤ c0) (h : zcj k l0 = some r) :
   Calls Try.prog 44 #[.slice A0 l0.length c0] w fun e w' => ∃ v0_ : Value, e = .returned (v0_) ∧ Kd.R k72 72 w' w.heap.size (fun _ => True) v0_ r ∧ Below w.heap.size w w' := by
 unfold zcj at h
 obtain ⟨o, ho, h⟩ := Option.bind_eq_some_iff.1 h
 by_cases hol : o.length < 1048576
 rotate_left
 · rw [if_neg hol] at h
   cases h
 rw [if_pos hol] at h
 obtain ⟨o2, ho2, h⟩ := Option.bind_eq_some_iff.1 h
 have HO1 := zA ho
 have HO2 := zA ho2
 have HH := zA h
 have HR := zA hr0
 have HC := zA hc0
 clear h ho ho2 hr0 hc0
 go_enter Try.func44, Try.ntmps44
 go_wp2_with (go_at_call 95; refine (zg6 k A0 c0 l0 o _ HR.out HC.out HO1.out).mono ?_; rintro e w3 ⟨v3, rfl, hv3, hb3⟩; obtain ⟨A3, c3, rfl⟩ := Kd.R_slice hv3; have HV := zA hv3; have HB := zA hb3; clear hv3 hb3)
 go_loopw [4, 5, 10] (fun v4 v5 v10 wr => ∃ (u : Nat) (out : List S72), v10 = .int .i64 (u : Int) ∧ u ≤ o.length ∧ Aside0 (out.length = o.length) ∧ Aside0 (vaL k (o.length - u) u out = some o2) ∧ Aside0 (Below w.heap.size w wr) ∧ Aside0 (Kd.R k72 72 wr w.heap.size (fun _ => True) (.slice A3 o.length c3) out)) (fun _ _ v10 _ => o.length - (intOf v10).toNat)
 case atStart => exact ⟨0, o, rfl, Nat.zero_le _, ⟨rfl⟩, HO2, HB, HV⟩
 clear HV HB HO2
 obtain ⟨u, out, rfl, hu, HLO, HL, HB, HV⟩ := hrel
 by_cases hlt : u < o.length
 rotate_left
 · obtain rfl : u = o.length := by omega
   have d1 : decide ((o.length : Int) < o.length) = false := zdf (by omega)
   have h := HL.out
   rw [Nat.sub_self] at h
   obtain rfl := zsi h
   clear h HL
   have hv := HV.out
   have hlen := HLO.out
   rw [← hlen] at hv
   have hrd := zRr hv
   have HRD := zA hrd
   clear hv hrd hlen
   go_wp2_with (go_at_call 95; rw [← HLO.out]; refine (zg6 k A3 c3 out r _ HRD.out.2.2 HRD.out.2.1 HH.out).mono ?_; rintro e w6 ⟨v6, rfl, hv6, hb6⟩; have HV6 := zA hv6; have HB6 := zA hb6; clear hv6 hb6)
   go_ret
   exact ⟨_, rfl, Kd.R_lower HV6.out HB.out.size, zad HB.out HB6.out⟩
 have d1 : decide ((u : Int) < o.length) = true := zdt (by omega)
 have d2 : (0 : Int) ≤ (u : Int) := by omega
 have d3 : (u : Int) < o.length := by omega
 obtain ⟨g, cp, e, hgb, hgl, _⟩ := Kd.R_form HV.out (by rw [HLO.out]; omega)
 injection e with e1 e2 e3
 subst e1
 clear e2 e3
 obtain ⟨ad, eA, x0, x1, x2, x3⟩ := zd0 (zRr HV.out).2.2 (u : Int) d2 (by rw [HLO.out]; omega)
 cases eA
 have h := HL.out
 rw [show o.length - u = (o.length - (u + 1)) + 1 by omega] at h
 simp only [vaL] at h
 obtain ⟨o', ho', h⟩ := Option.bind_eq_some_iff.1 h
 have HL' := zA h
 have hlo := zv7 _ _ _ _ ho'
 have HLO' := zA (hlo.trans HLO.out)
 unfold vaSt at ho'
 obtain ⟨t, ht, ho'⟩ := Option.bind_eq_some_iff.1 ho'
 have HT := zA ht
 clear ht h hlo HL
 rw [Int.toNat_natCast] at x0 x1 x2 x3
 simp only [zcw, Nat.zero_add] at x0 x1 x2 x3
 obtain ⟨n, hn⟩ : ∃ n, n = zab out (u : Int) := ⟨_, rfl⟩
 rw [← hn] at x0 x1 x2 x3 HT ho'
 have HNN := zA hn
 clear hn
 cases hto : t with
 | false =>
   rw [hto] at ho' HT
   rw [if_neg (by decide)] at ho'
   obtain rfl := zsi ho'
   clear ho' hto
   go_wp2_with (go_at_call 96; (with_reducible refine (zgu k n.f0 false _ HT.out).mono ?_); rintro e w5 ⟨rfl, hb5⟩; have HB5 := zA hb5; clear hb5)
   go_roundw
   case rel => exact ⟨u + 1, out, by go_num, by omega, HLO, HL', ⟨zad (zba HB.out _) HB5.out⟩, ⟨zRb (zRa HV.out _) HB5.out⟩⟩
   case measure => simp [intOf]; omega
 | true =>
   rw [hto] at ho' HT
   rw [if_pos rfl] at ho'
   obtain ⟨c, hc, ho'⟩ := Option.bind_eq_some_iff.1 ho'
   have HO' := zA (zsi ho')
   have HKC := zA (show ∀ V, Kd.R k72 72 V w.heap.size (fun _ => True) (.slice (some ⟨g, 0, none⟩) o.length c3) out → Calls Try.prog 97 #[.slice (some ⟨g, 0, none⟩) o.length c3, .int .i64 n.f2, .int .i64 n.f1] V (fun e w' => e = .returned (.int .i64 c) ∧ Below V.heap.size V w') from fun V hV => by
     have hlen := HLO.out
     rw [← hlen] at hV ⊢
     have hr := zRr hV
     exact zn5 k (some ⟨g, 0, none⟩) c3 out n.f2 n.f1 c V hr.2.2 hr.2.1 hc)
   have HGN := zA (show g ≠ wr.heap.size by omega)
   have HCC := zA (show ∀ (V : World) (xs : List S72) (y : S72), Kd.R k72 72 V w.heap.size (fun _ => True) (.slice (some ⟨g, 0, none⟩) o.length c3) xs → y = zab xs (u : Int) → ∀ (j : Nat) (v : Value), ([.string y.f0, .int .i64 y.f1, .int .i64 y.f2, .int .i64 y.f3] : List Value)[j]? = some v → V.cell? ⟨g, (u : Int).toNat * k72.sz + j, none⟩ = some v from fun V xs y hV hy j v hj => by
     have hr := zRr hV
     obtain ⟨ad, cc, ea, _, hK, hc0⟩ := Kd.C_get hr.2.2 z72 (u : Int) d2 (by have := hr.1; omega)
     cases ea
     have := hc0 j v (by rw [zn9 hK]; rw [hy] at hj; exact hj)
     rw [zcw] at this
     exact this)
   clear ho' hc hto
   by_cases hc0 : c < 0
   rotate_left
   · have d4 : decide (c < 0) = false := zdf hc0
     have hoo := HO'.out
     rw [if_neg hc0] at hoo
     have HOO := zA hoo
     clear hoo hc0
     go_wp2_with (first | (go_at_call 96; (with_reducible refine (zgu k n.f0 true _ HT.out).mono ?_); rintro e w5 ⟨rfl, hb5⟩; have hbx := zaf (zfy wr (.cells #[.string n.f0, .int .i64 n.f1, .int .i64 n.f2, .int .i64 n.f3] 72)) hb5; have HBX := zA hbx; have z0 := zac hbx 0; have z1 := zac hbx 1; have z2 := zac hbx 2; have z3 := zac hbx 3; have HB5 := zA (zad (zba HB.out _) hb5); have HV5 := zA (zRb (zRa HV.out _) hb5); clear hb5 hbx) | (go_at_call 97; refine (HKC.out _ HV5.out).mono ?_; rintro e w6 ⟨rfl, hb6⟩; have hbx := zaf HBX.out hb6; have HBX6 := zA hbx; clear z0 z1 z2 z3; have z0 := zac hbx 0; have z1 := zac hbx 1; have z2 := zac hbx 2; have z3 := zac hbx 3; have HB6 := zA (zad HB5.out hb6); have HV6 := zA (zRb HV5.out hb6); clear hb6 hbx))
     go_roundw
     case rel => exact ⟨u + 1, o', by go_num, by omega, HLO', HL', HB6, ⟨by rw [← HOO.out]; exact HV6.out⟩⟩
     case measure => simp [intOf]; omega
   have d4 : decide (c < 0) = true := zdt hc0
   have hoo := HO'.out
   rw [if_pos hc0] at hoo
   have HOO := zA hoo
   have HN2 := zA (show (⟨n.f0, n.f2, n.f2, n.f3⟩ : S72) = zab (out.set ((u : Nat) : Int).toNat (⟨n.f0, n.f2, n.f2, n.f3⟩ : S72)) (u : Int) by
     have := HLO.out
     unfold zab
     rw [List.getD_eq_getElem?_getD, List.getElem?_set_self (by rw [Int.toNat_natCast]; omega)]
     rfl)
   clear hoo hc0
   go_wp2_with (first | (go_at_call 96; (with_reducible refine (zgu k n.f0 true _ HT.out).mono ?_); rintro e w5 ⟨rfl, hb5⟩; have hbx := zaf (zfy wr (.cells #[.string n.f0, .int .i64 n.f1, .int .i64 n.f2, .int .i64 n.f3] 72)) hb5; have HBX := zA hbx; have z0 := zac hbx 0; have z1 := zac hbx 1; have z2 := zac hbx 2; have z3 := zac hbx 3; have HB5 := zA (zad (zba HB.out _) hb5); have HV5 := zA (zRb (zRa HV.out _) hb5); clear hb5 hbx) | (go_at_call 97; refine (HKC.out _ HV5.out).mono ?_; rintro e w6 ⟨rfl, hb6⟩; have hbx := zaf HBX.out hb6; have HBX6 := zA hbx; clear z0 z1 z2 z3; have z0 := zac hbx 0; have z1 := zac hbx 1; have z2 := zac hbx 2; have z3 := zac hbx 3; have HB6 := zA (zad HB5.out hb6); have HV6 := zA (zRb HV5.out hb6); clear hb6 hbx) | ((with_reducible refine zz7 (.store 3 (.tmp 32) (.tmp 30)) rfl ?_); refine Kd.R_store k72 (w0 := w) w.heap.size rfl rfl 3 (.tmp 32) (.tmp 30) rfl 72 (o' := u * 4 + 1) (u : Int) 1 out (⟨n.f0, n.f2, n.f2, n.f3⟩ : S72) (.int .i64 n.f2) [.int .i64 n.f2] [.string n.f0, .int .i64 n.f1, .int .i64 n.f2, .int .i64 n.f3] (fun _ => True) (fun _ => False) rfl (by rw [Int.toNat_natCast]; rfl) rfl rfl rfl zq39 HV6.out d2 d3 rfl (HCC.out _ out _ HV6.out (by exact HNN.out)) (show 1 + 1 ≤ 4 by omega) (ze2 _ _ _ (⟨n.f0, n.f2, n.f2, n.f3⟩ : S72)) (fun _ h => h.elim) HB6.out ?_; intro w7 hv hb hg; have hbx := (hg.block _ (zb9 HBX6.out) (fun e => HGN.out (zsi e).symm)).trans HBX6.out; have HBX7 := zA hbx; clear z0 z1 z2 z3; have z0 := zac hbx 0; have z1 := zac hbx 1; have z2 := zac hbx 2; have z3 := zac hbx 3; have HB7 := zA hb; have HV7 := zA hv; clear hb hv hg hbx) | ((with_reducible refine zz7 (.store 3 (.tmp 38) (.tmp 36)) rfl ?_); refine Kd.R_store k72 (w0 := w) w.heap.size rfl rfl 3 (.tmp 38) (.tmp 36) rfl 72 (o' := u * 4 + 2) (u : Int) 2 (out.set ((u : Nat) : Int).toNat (⟨n.f0, n.f2, n.f2, n.f3⟩ : S72)) (⟨n.f0, n.f2, n.f1, n.f3⟩ : S72) (.int .i64 n.f1) [.int .i64 n.f1] [.string n.f0, .int .i64 n.f2, .int .i64 n.f2, .int .i64 n.f3] (fun _ => True) (fun _ => False) rfl (by rw [Int.toNat_natCast]; rfl) rfl rfl rfl zq39 HV7.out d2 d3 rfl (HCC.out _ (out.set ((u : Nat) : Int).toNat (⟨n.f0, n.f2, n.f2, n.f3⟩ : S72)) _ HV7.out (by exact HN2.out)) (show 2 + 1 ≤ 4 by omega) (ze2 _ _ _ (⟨n.f0, n.f2, n.f1, n.f3⟩ : S72)) (fun _ h => h.elim) HB7.out ?_; intro w8 hv hb hg; have hbx := (hg.block _ (zb9 HBX7.out) (fun e => HGN.out (zsi e).symm)).trans HBX7.out; have HBX8 := zA hbx; clear z0 z1 z2 z3; have z0 := zac hbx 0; have z1 := zac hbx 1; have z2 := zac hbx 2; have z3 := zac hbx 3; have HB8 := zA hb; have HV8 := zA hv; clear hb hv hg hbx))
   go_roundw
   case rel => exact ⟨u + 1, o', by go_num, by omega, HLO', HL', HB8, ⟨by rw [← HOO.out]; have := HV8.out; rw [List.set_set] at this; exact this⟩⟩
   case measure => simp [intOf]; omega
theorem zue (k : Nat) (out : List S72) (i : Int) : LeO (vaSt k out i) (vaSt (k + 1) out i) := by
 unfold vaSt
 exact LeO.bind (zl8 _ _) (fun _ => zbh (LeO.bind (zor _ _ _ _) (fun _ => LeO.refl _)) (LeO.refl _))
theorem zs5 (k : Nat) : ∀ (d u : Nat) (out : List S72), LeO (vaL k d u out) (vaL (k + 1) d u out)
 | 0, _, _ => LeO.refl _
 | d + 1, u, out => LeO.bind (zue k out u) (fun _ => zs5 k d (u + 1) _)
theorem znc : ∀ a0 k, LeO (zcj k a0) (zcj (k + 1) a0) := by
 intro a0 k
 unfold zcj
 exact LeO.bind (zhg _ _) (fun _ => zbh (LeO.bind (zs5 _ _ _ _) (fun _ => zhg _ _)) (LeO.refl _))
def zh7 (a0 : Int) : Option (Bool) := (zaz a0 0 63).bind fun t101 => (some t101)
set_option maxHeartbeats 8000000 in
set_option maxRecDepth 100000 in
theorem znd (a0 : Int) (r : Bool) (w : World) (h : zh7 a0 = some r) :
   Calls Try.prog 140 #[.int .i64 a0] w fun e w' => e = .returned (.bool r) ∧ Drawn0 w w' := by
 have H : ((zaz a0 0 63).bind fun t101 => (some t101)) = some r := h
 clear h
 replace H := zob H
 obtain ⟨t101, A20, H⟩ := H
 replace H : (some t101) = some r := H
 have A2 := zA A20
 clear A20
 obtain rfl := zsi H
 go_enter Try.func140, Try.ntmps140
 go_wp2_with (first | ((with_reducible refine zgc 50 ?_); refine zcl 4 Try.func50 (zbk a0 0 63 t101 _ A2.out) ?_; rintro e w' ⟨rfl, ⟨nd, rfl⟩⟩; refine ⟨_, rfl, ?_⟩))
 go_ret
 exact ⟨zq6, zq7⟩
def zfq (k : Nat) (a0_0 : ByteArray) (a0_1 : Int) (a0_2 : Int) (a0_3 : Int) (a1 : Int) : Option (Bool) := if a0_0.toList = ([105, 110] : List UInt8) then (if a0_1 = 0 then (if a0_2 = 0 then ((zaz a0_3 0 1).bind fun t102 => (some t102)) else (some false)) else (some false)) else (if a0_0.toList = ([99, 111, 110, 115, 116] : List UInt8) then (if a0_1 = 0 then (if a0_2 = 0 then ((zh7 a0_3).bind fun t103 => (some t103)) else (some false)) else (some false)) else ((zgb a0_0).bind fun t104 => (if t104 = true then ((zaz a0_1 0 (wrap64 (a1 - 1))).bind fun t105 => (if t105 = true then (if a0_2 = 0 then (some (a0_3 == 0)) else (some false)) else (some false))) else ((zdl k a0_0).bind fun t106 => (if t106 = true then ((zaz a0_1 0 (wrap64 (a1 - 1))).bind fun t107 => (if t107 = true then ((zaz a0_2 0 (wrap64 (a1 - 1))).bind fun t108 => (if t108 = true then (some (a0_3 == 0)) else (some false))) else (some false))) else (some false))))))
theorem zj9 : ∀ a0 a1 a2 a3 a4 k, LeO (zfq k a0 a1 a2 a3 a4) (zfq (k + 1) a0 a1 a2 a3 a4) := by
 intro a0 a1 a2 a3 a4 k
 unfold zfq
 exact zm1 zko
set_option maxHeartbeats 8000000 in
set_option maxRecDepth 100000 in
theorem zjr (k : Nat) (a0_0 : ByteArray) (a0_1 : Int) (a0_2 : Int) (a0_3 : Int) (a1 : Int) (r : Bool) (w : World) (h : zfq k a0_0 a0_1 a0_2 a0_3 a1 = some r) :
   Calls Try.prog 92 #[.agg #[.string a0_0, .int .i64 a0_1, .int .i64 a0_2, .int .i64 a0_3], .int .i64 a1] w fun e w' => e = .returned (.bool r) ∧ Below w.heap.size w w' := by
 have hu72 := Try.underlying72
 have HB := zA (Below.refl w.heap.size w)
 have H : (if a0_0.toList = ([105, 110] : List UInt8) then (if a0_1 = 0 then (if a0_2 = 0 then ((zaz a0_3 0 1).bind fun t102 => (some t102)) else (some false)) else (some false)) else (if a0_0.toList = ([99, 111, 110, 115, 116] : List UInt8) then (if a0_1 = 0 then (if a0_2 = 0 then ((zh7 a0_3).bind fun t103 => (some t103)) else (some false)) else (some false)) else ((zgb a0_0).bind fun t104 => (if t104 = true then ((zaz a0_1 0 (wrap64 (a1 - 1))).bind fun t105 => (if t105 = true then (if a0_2 = 0 then (some (a0_3 == 0)) else (some false)) else (some false))) else ((zdl k a0_0).bind fun t106 => (if t106 = true then ((zaz a0_1 0 (wrap64 (a1 - 1))).bind fun t107 => (if t107 = true then ((zaz a0_2 0 (wrap64 (a1 - 1))).bind fun t108 => (if t108 = true then (some (a0_3 == 0)) else (some false))) else (some false))) else (some false))))))) = some r := h
 clear h
 by_cases c3 : a0_0.toList = ([105, 110] : List UInt8)
 · rw [if_pos c3] at H
   have c3b0 := beq_iff_eq.mpr c3
   have c3b1 := bne_eq_false_iff_eq.mpr c3
   clear c3
   by_cases c4 : a0_1 = 0
   rotate_left
   · rw [if_neg c4] at H
     have c4b0 := beq_eq_false_iff_ne.mpr c4
     have c4b1 := bne_iff_ne.mpr c4
     obtain rfl := zsi H
     go_enter Try.func92, Try.ntmps92
     go_wp2_with (first | ((with_reducible refine zgd 2 ?_); refine zbx #[.string a0_0, .int .i64 a0_1, .int .i64 a0_2, .int .i64 a0_3] 72 ?_; intro gb101 hg w11 hbox hb; have zs := zpair zq1 hb; replace HB := zA (zs.1); have BK101 := zA (hbox); have GW101 := zA (zge hg zs.2); have GE101 := GW101; clear zs hb hbox hg; obtain ⟨hcz12_0, hcz12_1, hcz12_2, hcz12_3⟩ := zc4 w11 (.string a0_0) (.int .i64 a0_1) (.int .i64 a0_2) (.int .i64 a0_3) BK101.out; obtain ⟨hfz12_0, hfz12_1, hfz12_2, hfz12_3⟩ := zf4 BK101.out))
     go_ret
     exact ⟨zq4, zq2 GE101⟩
   rw [if_pos c4] at H
   have c4b0 := beq_iff_eq.mpr c4
   have c4b1 := bne_eq_false_iff_eq.mpr c4
   clear c4
   by_cases c5 : a0_2 = 0
   rotate_left
   · rw [if_neg c5] at H
     have c5b0 := beq_eq_false_iff_ne.mpr c5
     have c5b1 := bne_iff_ne.mpr c5
     obtain rfl := zsi H
     go_enter Try.func92, Try.ntmps92
     go_wp2_with (first | ((with_reducible refine zgd 2 ?_); refine zbx #[.string a0_0, .int .i64 a0_1, .int .i64 a0_2, .int .i64 a0_3] 72 ?_; intro gb101 hg w9 hbox hb; have zs := zpair zq1 hb; replace HB := zA (zs.1); have BK101 := zA (hbox); have GW101 := zA (zge hg zs.2); have GE101 := GW101; clear zs hb hbox hg; obtain ⟨hcz10_0, hcz10_1, hcz10_2, hcz10_3⟩ := zc4 w9 (.string a0_0) (.int .i64 a0_1) (.int .i64 a0_2) (.int .i64 a0_3) BK101.out; obtain ⟨hfz10_0, hfz10_1, hfz10_2, hfz10_3⟩ := zf4 BK101.out))
     go_ret
     exact ⟨zq4, zq2 GE101⟩
   rw [if_pos c5] at H
   have c5b0 := beq_iff_eq.mpr c5
   have c5b1 := bne_eq_false_iff_eq.mpr c5
   clear c5
   replace H := zob H
   obtain ⟨t102, A60, H⟩ := H
   replace H : (some t102) = some r := H
   have A6 := zA A60
   clear A60
   obtain rfl := zsi H
   go_enter Try.func92, Try.ntmps92
   go_wp2_with (first | ((with_reducible refine zgd 2 ?_); refine zbx #[.string a0_0, .int .i64 a0_1, .int .i64 a0_2, .int .i64 a0_3] 72 ?_; intro gb101 hg w7 hbox hb; have zs := zpair zq1 hb; replace HB := zA (zs.1); have BK101 := zA (hbox); have GW101 := zA (zge hg zs.2); have GE101 := GW101; clear zs hb hbox hg; obtain ⟨hcz8_0, hcz8_1, hcz8_2, hcz8_3⟩ := zc4 w7 (.string a0_0) (.int .i64 a0_1) (.int .i64 a0_2) (.int .i64 a0_3) BK101.out; obtain ⟨hfz8_0, hfz8_1, hfz8_2, hfz8_3⟩ := zf4 BK101.out) | (go_at_call 50; (with_reducible refine (zbk a0_3 0 1 t102 _ A6.out).mono ?_); rintro e w' ⟨rfl, ⟨nd, rfl⟩⟩))
   go_ret
   exact ⟨zq4, zq2 GE101⟩
 rw [if_neg c3] at H
 have c3b0 := beq_eq_false_iff_ne.mpr c3
 have c3b1 := bne_iff_ne.mpr c3
 by_cases c13 : a0_0.toList = ([99, 111, 110, 115, 116] : List UInt8)
 · rw [if_pos c13] at H
   have c13b0 := beq_iff_eq.mpr c13
   have c13b1 := bne_eq_false_iff_eq.mpr c13
   clear c13
   by_cases c14 : a0_1 = 0
   rotate_left
   · rw [if_neg c14] at H
     have c14b0 := beq_eq_false_iff_ne.mpr c14
     have c14b1 := bne_iff_ne.mpr c14
     obtain rfl := zsi H
     go_enter Try.func92, Try.ntmps92
     go_wp2_with (first | ((with_reducible refine zgd 2 ?_); refine zbx #[.string a0_0, .int .i64 a0_1, .int .i64 a0_2, .int .i64 a0_3] 72 ?_; intro gb101 hg w21 hbox hb; have zs := zpair zq1 hb; replace HB := zA (zs.1); have BK101 := zA (hbox); have GW101 := zA (zge hg zs.2); have GE101 := GW101; clear zs hb hbox hg; obtain ⟨hcz22_0, hcz22_1, hcz22_2, hcz22_3⟩ := zc4 w21 (.string a0_0) (.int .i64 a0_1) (.int .i64 a0_2) (.int .i64 a0_3) BK101.out; obtain ⟨hfz22_0, hfz22_1, hfz22_2, hfz22_3⟩ := zf4 BK101.out))
     go_ret
     exact ⟨zq4, zq2 GE101⟩
   rw [if_pos c14] at H
   have c14b0 := beq_iff_eq.mpr c14
   have c14b1 := bne_eq_false_iff_eq.mpr c14
   clear c14
   by_cases c15 : a0_2 = 0
   rotate_left
   · rw [if_neg c15] at H
     have c15b0 := beq_eq_false_iff_ne.mpr c15
     have c15b1 := bne_iff_ne.mpr c15
     obtain rfl := zsi H
     go_enter Try.func92, Try.ntmps92
     go_wp2_with (first | ((with_reducible refine zgd 2 ?_); refine zbx #[.string a0_0, .int .i64 a0_1, .int .i64 a0_2, .int .i64 a0_3] 72 ?_; intro gb101 hg w19 hbox hb; have zs := zpair zq1 hb; replace HB := zA (zs.1); have BK101 := zA (hbox); have GW101 := zA (zge hg zs.2); have GE101 := GW101; clear zs hb hbox hg; obtain ⟨hcz20_0, hcz20_1, hcz20_2, hcz20_3⟩ := zc4 w19 (.string a0_0) (.int .i64 a0_1) (.int .i64 a0_2) (.int .i64 a0_3) BK101.out; obtain ⟨hfz20_0, hfz20_1, hfz20_2, hfz20_3⟩ := zf4 BK101.out))
     go_ret
     exact ⟨zq4, zq2 GE101⟩
   rw [if_pos c15] at H
   have c15b0 := beq_iff_eq.mpr c15
   have c15b1 := bne_eq_false_iff_eq.mpr c15
   clear c15
   replace H := zob H
   obtain ⟨t103, A160, H⟩ := H
   replace H : (some t103) = some r := H
   have A16 := zA A160
   clear A160
   obtain rfl := zsi H
   go_enter Try.func92, Try.ntmps92
   go_wp2_with (first | ((with_reducible refine zgd 2 ?_); refine zbx #[.string a0_0, .int .i64 a0_1, .int .i64 a0_2, .int .i64 a0_3] 72 ?_; intro gb101 hg w17 hbox hb; have zs := zpair zq1 hb; replace HB := zA (zs.1); have BK101 := zA (hbox); have GW101 := zA (zge hg zs.2); have GE101 := GW101; clear zs hb hbox hg; obtain ⟨hcz18_0, hcz18_1, hcz18_2, hcz18_3⟩ := zc4 w17 (.string a0_0) (.int .i64 a0_1) (.int .i64 a0_2) (.int .i64 a0_3) BK101.out; obtain ⟨hfz18_0, hfz18_1, hfz18_2, hfz18_3⟩ := zf4 BK101.out) | (go_at_call 140; (with_reducible refine (znd a0_3 t103 _ A16.out).mono ?_); rintro e w' ⟨rfl, ⟨nd, rfl⟩⟩))
   go_ret
   exact ⟨zq4, zq2 GE101⟩
 rw [if_neg c13] at H
 have c13b0 := beq_eq_false_iff_ne.mpr c13
 have c13b1 := bne_iff_ne.mpr c13
 replace H := zob H
 obtain ⟨t104, A230, H⟩ := H
 replace H : (if t104 = true then ((zaz a0_1 0 (wrap64 (a1 - 1))).bind fun t105 => (if t105 = true then (if a0_2 = 0 then (some (a0_3 == 0)) else (some false)) else (some false))) else ((zdl k a0_0).bind fun t106 => (if t106 = true then ((zaz a0_1 0 (wrap64 (a1 - 1))).bind fun t107 => (if t107 = true then ((zaz a0_2 0 (wrap64 (a1 - 1))).bind fun t108 => (if t108 = true then (some (a0_3 == 0)) else (some false))) else (some false))) else (some false)))) = some r := H
 have A23 := zA A230
 clear A230
 by_cases c24 : t104 = true
 · subst c24
   replace H : ((zaz a0_1 0 (wrap64 (a1 - 1))).bind fun t105 => (if t105 = true then (if a0_2 = 0 then (some (a0_3 == 0)) else (some false)) else (some false))) = some r := by rw [if_pos rfl] at H; exact H
   replace H := zob H
   obtain ⟨t105, A250, H⟩ := H
   replace H : (if t105 = true then (if a0_2 = 0 then (some (a0_3 == 0)) else (some false)) else (some false)) = some r := H
   have A25 := zA A250
   clear A250
   by_cases c26 : t105 = true
   rotate_left
   · replace c26 := zbf c26
     subst c26
     replace H : (some false) = some r := by rw [if_neg (show ¬ (false = true) by decide)] at H; exact H
     obtain rfl := zsi H
     go_enter Try.func92, Try.ntmps92
     go_wp2_with (first | ((with_reducible refine zgd 2 ?_); refine zbx #[.string a0_0, .int .i64 a0_1, .int .i64 a0_2, .int .i64 a0_3] 72 ?_; intro gb101 hg w32 hbox hb; have zs := zpair zq1 hb; replace HB := zA (zs.1); have BK101 := zA (hbox); have GW101 := zA (zge hg zs.2); have GE101 := GW101; clear zs hb hbox hg; obtain ⟨hcz33_0, hcz33_1, hcz33_2, hcz33_3⟩ := zc4 w32 (.string a0_0) (.int .i64 a0_1) (.int .i64 a0_2) (.int .i64 a0_3) BK101.out; obtain ⟨hfz33_0, hfz33_1, hfz33_2, hfz33_3⟩ := zf4 BK101.out) | ((with_reducible refine zgc 141 ?_); refine zcl 42 Try.func141 (zdg a0_0 true _ A23.out) ?_; rintro e w' ⟨rfl, ⟨nd, rfl⟩⟩; refine ⟨_, rfl, ?_⟩) | ((with_reducible refine zgc 50 ?_); refine zcl 47 Try.func50 (zbk a0_1 0 (wrap64 (a1 - 1)) false _ A25.out) ?_; rintro e w' ⟨rfl, ⟨nd, rfl⟩⟩; refine ⟨_, rfl, ?_⟩))
     go_ret
     exact ⟨zq4, zq2 GE101⟩
   subst c26
   replace H : (if a0_2 = 0 then (some (a0_3 == 0)) else (some false)) = some r := by rw [if_pos rfl] at H; exact H
   by_cases c27 : a0_2 = 0
   rotate_left
   · rw [if_neg c27] at H
     have c27b0 := beq_eq_false_iff_ne.mpr c27
     have c27b1 := bne_iff_ne.mpr c27
     obtain rfl := zsi H
     go_enter Try.func92, Try.ntmps92
     go_wp2_with (first | ((with_reducible refine zgd 2 ?_); refine zbx #[.string a0_0, .int .i64 a0_1, .int .i64 a0_2, .int .i64 a0_3] 72 ?_; intro gb101 hg w30 hbox hb; have zs := zpair zq1 hb; replace HB := zA (zs.1); have BK101 := zA (hbox); have GW101 := zA (zge hg zs.2); have GE101 := GW101; clear zs hb hbox hg; obtain ⟨hcz31_0, hcz31_1, hcz31_2, hcz31_3⟩ := zc4 w30 (.string a0_0) (.int .i64 a0_1) (.int .i64 a0_2) (.int .i64 a0_3) BK101.out; obtain ⟨hfz31_0, hfz31_1, hfz31_2, hfz31_3⟩ := zf4 BK101.out) | ((with_reducible refine zgc 141 ?_); refine zcl 42 Try.func141 (zdg a0_0 true _ A23.out) ?_; rintro e w' ⟨rfl, ⟨nd, rfl⟩⟩; refine ⟨_, rfl, ?_⟩) | ((with_reducible refine zgc 50 ?_); refine zcl 47 Try.func50 (zbk a0_1 0 (wrap64 (a1 - 1)) true _ A25.out) ?_; rintro e w' ⟨rfl, ⟨nd, rfl⟩⟩; refine ⟨_, rfl, ?_⟩))
     go_ret
     exact ⟨zq4, zq2 GE101⟩
   rw [if_pos c27] at H
   have c27b0 := beq_iff_eq.mpr c27
   have c27b1 := bne_eq_false_iff_eq.mpr c27
   clear c27
   obtain rfl := zsi H
   go_enter Try.func92, Try.ntmps92
   go_wp2_with (first | ((with_reducible refine zgd 2 ?_); refine zbx #[.string a0_0, .int .i64 a0_1, .int .i64 a0_2, .int .i64 a0_3] 72 ?_; intro gb101 hg w28 hbox hb; have zs := zpair zq1 hb; replace HB := zA (zs.1); have BK101 := zA (hbox); have GW101 := zA (zge hg zs.2); have GE101 := GW101; clear zs hb hbox hg; obtain ⟨hcz29_0, hcz29_1, hcz29_2, hcz29_3⟩ := zc4 w28 (.string a0_0) (.int .i64 a0_1) (.int .i64 a0_2) (.int .i64 a0_3) BK101.out; obtain ⟨hfz29_0, hfz29_1, hfz29_2, hfz29_3⟩ := zf4 BK101.out) | ((with_reducible refine zgc 141 ?_); refine zcl 42 Try.func141 (zdg a0_0 true _ A23.out) ?_; rintro e w' ⟨rfl, ⟨nd, rfl⟩⟩; refine ⟨_, rfl, ?_⟩) | ((with_reducible refine zgc 50 ?_); refine zcl 47 Try.func50 (zbk a0_1 0 (wrap64 (a1 - 1)) true _ A25.out) ?_; rintro e w' ⟨rfl, ⟨nd, rfl⟩⟩; refine ⟨_, rfl, ?_⟩))
   go_ret
   exact ⟨zq4, zq2 GE101⟩
 replace c24 := zbf c24
 subst c24
 replace H : ((zdl k a0_0).bind fun t106 => (if t106 = true then ((zaz a0_1 0 (wrap64 (a1 - 1))).bind fun t107 => (if t107 = true then ((zaz a0_2 0 (wrap64 (a1 - 1))).bind fun t108 => (if t108 = true then (some (a0_3 == 0)) else (some false))) else (some false))) else (some false))) = some r := by rw [if_neg (show ¬ (false = true) by decide)] at H; exact H
 replace H := zob H
 obtain ⟨t106, A340, H⟩ := H
 replace H : (if t106 = true then ((zaz a0_1 0 (wrap64 (a1 - 1))).bind fun t107 => (if t107 = true then ((zaz a0_2 0 (wrap64 (a1 - 1))).bind fun t108 => (if t108 = true then (some (a0_3 == 0)) else (some false))) else (some false))) else (some false)) = some r := H
 have A34 := zA A340
 clear A340
 by_cases c35 : t106 = true
 rotate_left
 · replace c35 := zbf c35
   subst c35
   replace H : (some false) = some r := by rw [if_neg (show ¬ (false = true) by decide)] at H; exact H
   obtain rfl := zsi H
   go_enter Try.func92, Try.ntmps92
   go_wp2_with (first | ((with_reducible refine zgd 2 ?_); refine zbx #[.string a0_0, .int .i64 a0_1, .int .i64 a0_2, .int .i64 a0_3] 72 ?_; intro gb101 hg w52 hbox hb; have zs := zpair zq1 hb; replace HB := zA (zs.1); have BK101 := zA (hbox); have GW101 := zA (zge hg zs.2); have GE101 := GW101; clear zs hb hbox hg; obtain ⟨hcz53_0, hcz53_1, hcz53_2, hcz53_3⟩ := zc4 w52 (.string a0_0) (.int .i64 a0_1) (.int .i64 a0_2) (.int .i64 a0_3) BK101.out; obtain ⟨hfz53_0, hfz53_1, hfz53_2, hfz53_3⟩ := zf4 BK101.out) | ((with_reducible refine zgc 141 ?_); refine zcl 42 Try.func141 (zdg a0_0 false _ A23.out) ?_; rintro e w' ⟨rfl, ⟨nd, rfl⟩⟩; refine ⟨_, rfl, ?_⟩) | ((with_reducible refine zgc 142 ?_); refine zcl 60 Try.func142 (ze3 k a0_0 false _ A34.out) ?_; rintro e w54 ⟨rfl, hb⟩; refine ⟨_, rfl, ?_⟩; replace BK101 := zA (zaf (g := gb101) (o := .cells #[.string a0_0, .int .i64 a0_1, .int .i64 a0_2, .int .i64 a0_3] 72 (0, 0)) (zq5 BK101) hb); replace HB := zA (zad (zq2 GE101) hb); (try clear hb)))
   go_ret
   exact ⟨zq4, zq2 GE101⟩
 subst c35
 replace H : ((zaz a0_1 0 (wrap64 (a1 - 1))).bind fun t107 => (if t107 = true then ((zaz a0_2 0 (wrap64 (a1 - 1))).bind fun t108 => (if t108 = true then (some (a0_3 == 0)) else (some false))) else (some false))) = some r := by rw [if_pos rfl] at H; exact H
 replace H := zob H
 obtain ⟨t107, A360, H⟩ := H
 replace H : (if t107 = true then ((zaz a0_2 0 (wrap64 (a1 - 1))).bind fun t108 => (if t108 = true then (some (a0_3 == 0)) else (some false))) else (some false)) = some r := H
 have A36 := zA A360
 clear A360
 by_cases c37 : t107 = true
 rotate_left
 · replace c37 := zbf c37
   subst c37
   replace H : (some false) = some r := by rw [if_neg (show ¬ (false = true) by decide)] at H; exact H
   obtain rfl := zsi H
   go_enter Try.func92, Try.ntmps92
   go_wp2_with (first | ((with_reducible refine zgd 2 ?_); refine zbx #[.string a0_0, .int .i64 a0_1, .int .i64 a0_2, .int .i64 a0_3] 72 ?_; intro gb101 hg w48 hbox hb; have zs := zpair zq1 hb; replace HB := zA (zs.1); have BK101 := zA (hbox); have GW101 := zA (zge hg zs.2); have GE101 := GW101; clear zs hb hbox hg; obtain ⟨hcz49_0, hcz49_1, hcz49_2, hcz49_3⟩ := zc4 w48 (.string a0_0) (.int .i64 a0_1) (.int .i64 a0_2) (.int .i64 a0_3) BK101.out; obtain ⟨hfz49_0, hfz49_1, hfz49_2, hfz49_3⟩ := zf4 BK101.out) | ((with_reducible refine zgc 141 ?_); refine zcl 42 Try.func141 (zdg a0_0 false _ A23.out) ?_; rintro e w' ⟨rfl, ⟨nd, rfl⟩⟩; refine ⟨_, rfl, ?_⟩) | ((with_reducible refine zgc 142 ?_); refine zcl 60 Try.func142 (ze3 k a0_0 true _ A34.out) ?_; rintro e w50 ⟨rfl, hb⟩; refine ⟨_, rfl, ?_⟩; replace BK101 := zA (zaf (g := gb101) (o := .cells #[.string a0_0, .int .i64 a0_1, .int .i64 a0_2, .int .i64 a0_3] 72 (0, 0)) (zq5 BK101) hb); replace HB := zA (zad (zq2 GE101) hb); (try clear hb); obtain ⟨hcz51_0, hcz51_1, hcz51_2, hcz51_3⟩ := zc4 w50 (.string a0_0) (.int .i64 a0_1) (.int .i64 a0_2) (.int .i64 a0_3) BK101.out; obtain ⟨hfz51_0, hfz51_1, hfz51_2, hfz51_3⟩ := zf4 BK101.out) | (go_at_call 50; (with_reducible refine (zbk a0_1 0 (wrap64 (a1 - 1)) false _ A36.out).mono ?_); rintro e w' ⟨rfl, ⟨nd, rfl⟩⟩))
   go_ret
   exact ⟨zq4, zq2 GE101⟩
 subst c37
 replace H : ((zaz a0_2 0 (wrap64 (a1 - 1))).bind fun t108 => (if t108 = true then (some (a0_3 == 0)) else (some false))) = some r := by rw [if_pos rfl] at H; exact H
 replace H := zob H
 obtain ⟨t108, A380, H⟩ := H
 replace H : (if t108 = true then (some (a0_3 == 0)) else (some false)) = some r := H
 have A38 := zA A380
 clear A380
 by_cases c39 : t108 = true
 · subst c39
   replace H : (some (a0_3 == 0)) = some r := by rw [if_pos rfl] at H; exact H
   obtain rfl := zsi H
   go_enter Try.func92, Try.ntmps92
   go_wp2_with (first | ((with_reducible refine zgd 2 ?_); refine zbx #[.string a0_0, .int .i64 a0_1, .int .i64 a0_2, .int .i64 a0_3] 72 ?_; intro gb101 hg w40 hbox hb; have zs := zpair zq1 hb; replace HB := zA (zs.1); have BK101 := zA (hbox); have GW101 := zA (zge hg zs.2); have GE101 := GW101; clear zs hb hbox hg; obtain ⟨hcz41_0, hcz41_1, hcz41_2, hcz41_3⟩ := zc4 w40 (.string a0_0) (.int .i64 a0_1) (.int .i64 a0_2) (.int .i64 a0_3) BK101.out; obtain ⟨hfz41_0, hfz41_1, hfz41_2, hfz41_3⟩ := zf4 BK101.out) | ((with_reducible refine zgc 141 ?_); refine zcl 42 Try.func141 (zdg a0_0 false _ A23.out) ?_; rintro e w' ⟨rfl, ⟨nd, rfl⟩⟩; refine ⟨_, rfl, ?_⟩) | ((with_reducible refine zgc 142 ?_); refine zcl 60 Try.func142 (ze3 k a0_0 true _ A34.out) ?_; rintro e w42 ⟨rfl, hb⟩; refine ⟨_, rfl, ?_⟩; replace BK101 := zA (zaf (g := gb101) (o := .cells #[.string a0_0, .int .i64 a0_1, .int .i64 a0_2, .int .i64 a0_3] 72 (0, 0)) (zq5 BK101) hb); replace HB := zA (zad (zq2 GE101) hb); (try clear hb); obtain ⟨hcz43_0, hcz43_1, hcz43_2, hcz43_3⟩ := zc4 w42 (.string a0_0) (.int .i64 a0_1) (.int .i64 a0_2) (.int .i64 a0_3) BK101.out; obtain ⟨hfz43_0, hfz43_1, hfz43_2, hfz43_3⟩ := zf4 BK101.out) | (go_at_call 50; (with_reducible refine (zbk a0_1 0 (wrap64 (a1 - 1)) true _ A36.out).mono ?_); rintro e w' ⟨rfl, ⟨nd, rfl⟩⟩) | (go_at_call 50; (with_reducible refine (zbk a0_2 0 (wrap64 (a1 - 1)) true _ A38.out).mono ?_); rintro e w' ⟨rfl, ⟨nd, rfl⟩⟩))
   go_ret
   exact ⟨zq4, zq2 GE101⟩
 replace c39 := zbf c39
 subst c39
 replace H : (some false) = some r := by rw [if_neg (show ¬ (false = true) by decide)] at H; exact H
 obtain rfl := zsi H
 go_enter Try.func92, Try.ntmps92
 go_wp2_with (first | ((with_reducible refine zgd 2 ?_); refine zbx #[.string a0_0, .int .i64 a0_1, .int .i64 a0_2, .int .i64 a0_3] 72 ?_; intro gb101 hg w44 hbox hb; have zs := zpair zq1 hb; replace HB := zA (zs.1); have BK101 := zA (hbox); have GW101 := zA (zge hg zs.2); have GE101 := GW101; clear zs hb hbox hg; obtain ⟨hcz45_0, hcz45_1, hcz45_2, hcz45_3⟩ := zc4 w44 (.string a0_0) (.int .i64 a0_1) (.int .i64 a0_2) (.int .i64 a0_3) BK101.out; obtain ⟨hfz45_0, hfz45_1, hfz45_2, hfz45_3⟩ := zf4 BK101.out) | ((with_reducible refine zgc 141 ?_); refine zcl 42 Try.func141 (zdg a0_0 false _ A23.out) ?_; rintro e w' ⟨rfl, ⟨nd, rfl⟩⟩; refine ⟨_, rfl, ?_⟩) | ((with_reducible refine zgc 142 ?_); refine zcl 60 Try.func142 (ze3 k a0_0 true _ A34.out) ?_; rintro e w46 ⟨rfl, hb⟩; refine ⟨_, rfl, ?_⟩; replace BK101 := zA (zaf (g := gb101) (o := .cells #[.string a0_0, .int .i64 a0_1, .int .i64 a0_2, .int .i64 a0_3] 72 (0, 0)) (zq5 BK101) hb); replace HB := zA (zad (zq2 GE101) hb); (try clear hb); obtain ⟨hcz47_0, hcz47_1, hcz47_2, hcz47_3⟩ := zc4 w46 (.string a0_0) (.int .i64 a0_1) (.int .i64 a0_2) (.int .i64 a0_3) BK101.out; obtain ⟨hfz47_0, hfz47_1, hfz47_2, hfz47_3⟩ := zf4 BK101.out) | (go_at_call 50; (with_reducible refine (zbk a0_1 0 (wrap64 (a1 - 1)) true _ A36.out).mono ?_); rintro e w' ⟨rfl, ⟨nd, rfl⟩⟩) | (go_at_call 50; (with_reducible refine (zbk a0_2 0 (wrap64 (a1 - 1)) false _ A38.out).mono ?_); rintro e w' ⟨rfl, ⟨nd, rfl⟩⟩))
 go_ret
 exact ⟨zq4, zq2 GE101⟩
end Go.Proofs.Ytkfkbmlbpeojaaa.Q
end
section
namespace Go.Proofs.Ytkfkbmlbpeojaaa.Q
open Go.RowKit Go.Proofs.YtkfkbmlbpeojaaaW.PrintWords Go.Proofs.YtkfkbmlbpeojaaaW.PrintLast Go.Proofs.YtkfkbmlbpeojaaaW.PrintMore
attribute [local go_sem] zcs zct zdo zdp zb2 zb3 zcu zcv
set_option linter.unusedVariables false
set_option linter.unusedSimpArgs false
mutual
def zck : Nat → List Int → List (S72) → Int → Int → Option (List Int)
 | 0, _, _, _, _ => none
 | k + 1, x3, x11, x12, x13 => if x13 < x12 then (if 0 ≤ x13 then (if x13 < (x11.length : Int) then ((zcq k ((zab x11 x13).f0) ((zab x11 x13).f1) ((zab x11 x13).f2) ((zab x11 x13).f3)).bind fun t106 => (zc7 k x3 x11 x12 x13 t106 (t106.length : Int) 0)) else (none)) else (none)) else (some x3)
def zc7 : Nat → List Int → List (S72) → Int → Int → List Int → Int → Int → Option (List Int)
 | 0, _, _, _, _, _, _, _ => none
 | k + 1, x3, x11, x12, x13, x18, x19, x20 => if x20 < x19 then (if 0 ≤ x20 then (if x20 < (x18.length : Int) then (if 0 ≤ (rd x18 x20) then (if (rd x18 x20) < (x3.length : Int) then (zc7 k (x3.set ((rd x18 x20) : Int).toNat (wrap64 ((rd x3 (rd x18 x20)) + 1))) x11 x12 x13 x18 x19 (wrap64 (x20 + 1))) else (none)) else (none)) else (none)) else (none)) else (zck k x3 x11 x12 (wrap64 (x13 + 1)))
end
def zfr (k : Nat) (l0 : List (S72)) : Option (List Int) := if 0 ≤ (l0.length : Int) then (if ((l0.length : Int) : Int).toNat ≤ 35184372088832 then (zck k (List.replicate ((l0.length : Int) : Int).toNat 0) l0 (l0.length : Int) 0) else (none)) else (none)
theorem zi4 : ∀ k, (∀ y0 y1 y2 y3, LeO (zck k y0 y1 y2 y3) (zck (k + 1) y0 y1 y2 y3)) ∧ (∀ y0 y1 y2 y3 y4 y5 y6, LeO (zc7 k y0 y1 y2 y3 y4 y5 y6) (zc7 (k + 1) y0 y1 y2 y3 y4 y5 y6))
 | 0 => ⟨fun _ _ _ _ r h => by simp [zck] at h, fun _ _ _ _ _ _ _ r h => by simp [zc7] at h⟩
 | k + 1 => by
   obtain ⟨ih0, ih1⟩ := zi4 k
   refine ⟨?_, ?_⟩
   · intro y0 y1 y2 y3
     unfold zck
     exact zm3 ih0 ih1 zce
   · intro y0 y1 y2 y3 y4 y5 y6
     unfold zc7
     exact zm3 ih0 ih1 zce
theorem zkb : ∀ a0 k, LeO (zfr k a0) (zfr (k + 1) a0) := by
 intro a0 k
 obtain ⟨ih0, ih1⟩ := zi4 k
 unfold zfr
 exact zm3 ih0 ih1 zce
set_option maxHeartbeats 8000000 in
set_option maxRecDepth 100000 in
theorem zne (k : Nat) (A0 : Option Addr) (c0 : Nat) (l0 : List (S72)) (r : List Int) (w : World) (hr0 : Kd.C k72 w A0 l0.length l0) (hc0 : l0.length ≤ c0) (h : zfr k l0 = some r) :
   Calls Try.prog 94 #[.slice A0 l0.length c0] w fun e w' => ∃ v0_ : Value, e = .returned (v0_) ∧ Kd.R (Kd.int .i64) 3 w' w.heap.size (fun _ => True) v0_ r ∧ Below w.heap.size w w' := by
 have hu72 := Try.underlying72
 have HR0 := zA hr0
 have HC0 := zA hc0
 clear hr0 hc0
 have HB := zA (Below.refl w.heap.size w)
 have H : (if 0 ≤ (l0.length : Int) then (if ((l0.length : Int) : Int).toNat ≤ 35184372088832 then (zck k (List.replicate ((l0.length : Int) : Int).toNat 0) l0 (l0.length : Int) 0) else (none)) else (none)) = some r := h
 clear h
 by_cases c2 : 0 ≤ (l0.length : Int)
 rotate_left
 · rw [if_neg c2] at H
   exact absurd H (by simp)
 rw [if_pos c2] at H
 have c2b0 := eq_true c2
 have c2b1 := zdt c2
 clear c2
 by_cases c3 : ((l0.length : Int) : Int).toNat ≤ 35184372088832
 rotate_left
 · rw [if_neg c3] at H
   exact absurd H (by simp)
 rw [if_pos c3] at H
 have c3b0 := eq_true c3
 have c3b1 := zdt c3
 clear c3
 obtain ⟨y101, hy101⟩ : ∃ y_ : List Int, y_ = (List.replicate ((l0.length : Int) : Int).toNat 0) := ⟨_, rfl⟩
 replace H : (zck k y101 l0 (l0.length : Int) 0) = some r := by first | (rw [hy101]; with_reducible exact H) | (have H2_ := (Option.bind_some _ _).symm.trans H; rw [hy101]; with_reducible exact H2_) | (have H2_ := (Option.bind_some _ _).symm.trans H; with_reducible exact H2_) | with_reducible exact H | (rw [hy101]; exact H) | exact H
 have Ny101 := zA hy101
 clear hy101
 have H' := zA H
 clear H
 go_enter Try.func94, Try.ntmps94
 go_wp2_with (first | ((with_reducible refine zgd 10 ?_); refine Kd.R_make (Kd.int .i64) _ 3 rfl (N := 10) rfl 51 _ _ rfl (l0.length : Int) rfl rfl Try.underlying51 (.int .i64 0) 8 zns rfl (by decide) (by omega) 0 (ok := fun _ => True) (okp := fun _ => True) rfl (fun _ hk => hk) trivial (zde zq16) (Nat.le_trans (Nat.mul_le_mul_right _ (zde zq16 : (l0.length : Int).toNat ≤ 35184372088832)) (by omega)) (Below.refl _ _) (zlr _) ?_; intro v102 w4 ho5 hb hg_ hnew_; clear hg_ hnew_; (first | rw [← Ny101.out] at ho5 | (simp only [Int.reduceToNat] at ho5; rw [← Ny101.out] at ho5)); have HO103 := zA (Kd.R_lower ho5 (zar zq1)); replace HB := zA (zad zq1 hb); clear hb ho5))
 go_loopg [13] k (fun kq v13 w' => ∃ (x3_1 : List Int) (x13_1 : Int), v13 = .int .i64 x13_1 ∧ Aside0 (zck kq x3_1 l0 (l0.length : Int) x13_1 = some r) ∧ Aside0 (kq ≤ k) ∧ Aside0 (Kd.R (Kd.int .i64) 3 w' w.heap.size (fun _ => True) v102 x3_1) ∧ Aside0 (Below w.heap.size w w'))
 case atStart => exact ⟨(y101), (0), zq6, H', ⟨zlr _⟩, ⟨zq3 HO103⟩, ⟨zq1⟩⟩
 clear H'
 try clear c2
 try clear c2b0
 try clear c2b1
 try clear p2
 try clear c3
 try clear c3b0
 try clear c3b1
 obtain ⟨x3_1, x13_1, rfl, HA, HK1, HO_3, HB⟩ := hrel
 cases gk with
 | zero => exact absurd HA.out (by simp [zck])
 | succ k1 =>
 have H := HA.out
 clear HA
 simp only [zck] at H
 revert H
 refine zit (fun c6 H => ?_) fun c6 H => ?_
 rotate_left
 · obtain rfl := zsi H
   go_wp2
   go_ret
   exact ⟨_, zq4, zq3 HO_3, zq1⟩
 revert H
 refine zin fun c7 H => ?_
 revert H
 refine zin fun c8 H => ?_
 replace H := zob H
 obtain ⟨t106, A90, H⟩ := H
 replace H : (zc7 k1 x3_1 l0 (l0.length : Int) x13_1 t106 (t106.length : Int) 0) = some r := H
 have A9 := zA A90
 clear A90
 have H' := zA H
 clear H
 have p104 : 0 ≤ (x13_1 : Int) := zde zq16
 have q104 : x13_1 < (l0.length : Int) := zde zq16
 obtain ⟨ad104, e104, hx104_0, hx104_1, hx104_2, hx104_3⟩ := zd0 HR0.out x13_1 p104 q104
 cases e104
 replace hx104_0 := zkep HB.out hx104_0
 replace hx104_1 := zkep HB.out hx104_1
 replace hx104_2 := zkep HB.out hx104_2
 replace hx104_3 := zkep HB.out hx104_3
 replace p104 := eq_true p104
 replace q104 := eq_true q104
 go_wp2_with (first | ((with_reducible refine zgd 5 ?_); refine zbx #[.string (⟨#[]⟩ : ByteArray), .int .i64 0, .int .i64 0, .int .i64 0] 72 ?_; intro gb105 hg w10 hbox hb; have zs := zpair zq1 hb; replace HO_3 := zA (zRb (zq3 HO_3) hb); replace HB := zA (zs.1); have BK105 := zA (hbox); have GW105 := zA (zge hg zs.2); have GE105 := GW105; clear zs hb hbox hg; obtain ⟨hcz11_0, hcz11_1, hcz11_2, hcz11_3⟩ := zc4 w10 (.string (⟨#[]⟩ : ByteArray)) (.int .i64 0) (.int .i64 0) (.int .i64 0) BK105.out; obtain ⟨hfz11_0, hfz11_1, hfz11_2, hfz11_3⟩ := zf4 BK105.out) | ((with_reducible refine zgc 143 ?_); refine zcl 18 Try.func143 (zcr k1 ((zab l0 x13_1).f0) ((zab l0 x13_1).f1) ((zab l0 x13_1).f2) ((zab l0 x13_1).f3) t106 _ A9.out) ?_; rintro e w12 ⟨v107, rfl, ho0, hb⟩; refine ⟨_, rfl, ?_⟩; have HO108 := zA (Kd.R_lower (Kd.R_new' ho0 (Kd.R_lt (zq24 HO_3 BK105))) (zar (zq2 GE105))); replace HO_3 := zA (Kd.R_elder' (zq24 HO_3 BK105) (Kd.R_base ho0) hb); replace BK105 := zA (zaf (g := gb105) (o := .cells #[.string ((zab l0 x13_1).f0), .int .i64 ((zab l0 x13_1).f1), .int .i64 ((zab l0 x13_1).f2), .int .i64 ((zab l0 x13_1).f3)] 72 (0, 0)) (zq29 BK105) hb); replace HB := zA (zad (zq2 GE105) hb); (try clear hb); (try clear hk); (try clear ho0); obtain ⟨Ao13, co13, eo13⟩ := Kd.R_slice HO108.out; subst eo13))
 go_loopg [20] k1 (fun kq v20 w' => ∃ (x3_2 : List Int) (x20_2 : Int), v20 = .int .i64 x20_2 ∧ Aside0 (zc7 kq x3_2 l0 (l0.length : Int) x13_1 t106 (t106.length : Int) x20_2 = some r) ∧ Aside0 (kq ≤ k1) ∧ Aside0 (Kd.R (Kd.int .i64) 3 w' w.heap.size (fun k_ => some k_ ≠ ((.slice Ao13 t106.length co13) : Value).ownBlock) v102 x3_2) ∧ Aside0 (Kd.R (Kd.int .i64) 3 w' w.heap.size (fun k_ => some k_ ≠ (v102 : Value).ownBlock) (.slice Ao13 t106.length co13) t106) ∧ Aside0 (w'.heap[gb105]? = some (.cells #[.string ((zab l0 x13_1).f0), .int .i64 ((zab l0 x13_1).f1), .int .i64 ((zab l0 x13_1).f2), .int .i64 ((zab l0 x13_1).f3)] 72 (0, 0))) ∧ Aside0 (Below w.heap.size w w'))
 case atStart => exact ⟨(x3_1), (0), zq6, H', ⟨zlr _⟩, ⟨zq33 HO_3⟩, ⟨zq33 HO108⟩, ⟨zq5 BK105⟩, ⟨zq2 GE105⟩⟩
 clear H'
 try clear c1
 try clear p1
 try clear q1
 try clear hx1
 try clear c2
 try clear c2b0
 try clear c2b1
 try clear p2
 try clear c3
 try clear c3b0
 try clear c3b1
 try clear c6
 try clear c6b0
 try clear c7
 try clear c7b0
 try clear c8
 try clear c8b0
 try clear c9
 try clear p10
 try clear q10
 try clear hx10
 try clear hcz11_0
 try clear hcz11_1
 try clear hcz11_2
 try clear hcz11_3
 try clear hfz11_0
 try clear hfz11_1
 try clear hfz11_2
 try clear hfz11_3
 try clear hx104_0
 try clear hx104_1
 try clear hx104_2
 try clear hx104_3
 try clear p104
 try clear p2
 try clear q104
 obtain ⟨x3_2, x20_2, rfl, HA, HK2, HO_3, HO_18, BK105, HB⟩ := hrel
 cases gk with
 | zero => exact absurd HA.out (by simp [zc7])
 | succ k2 =>
 have H := HA.out
 clear HA
 simp only [zc7] at H
 revert H
 refine zit (fun c14 H => ?_) fun c14 H => ?_
 rotate_left
 · have H' := zA H
   clear H
   go_wp2
   go_roundg k2
   case measure => have := HK1.out; have := HK2.out; omega
   case rel => exact ⟨(x3_2), (wrap64 (x13_1 + 1)), zq6, H', ⟨zq40 HK1 HK2⟩, ⟨zq27 HO_3⟩, ⟨zq2 GE105⟩⟩
 revert H
 refine zin fun c15 H => ?_
 revert H
 refine zin fun c16 H => ?_
 revert H
 refine zin fun c17 H => ?_
 revert H
 refine zin fun c18 H => ?_
 obtain ⟨y111, hy111⟩ : ∃ y_ : List Int, y_ = (x3_2.set ((rd t106 x20_2) : Int).toNat (wrap64 ((rd x3_2 (rd t106 x20_2)) + 1))) := ⟨_, rfl⟩
 replace H : (zc7 k2 y111 l0 (l0.length : Int) x13_1 t106 (t106.length : Int) (wrap64 (x20_2 + 1))) = some r := by first | (rw [hy111]; with_reducible exact H) | (have H2_ := (Option.bind_some _ _).symm.trans H; rw [hy111]; with_reducible exact H2_) | (have H2_ := (Option.bind_some _ _).symm.trans H; with_reducible exact H2_) | with_reducible exact H | (rw [hy111]; exact H) | exact H
 have Ny111 := zA hy111
 clear hy111
 have H' := zA H
 clear H
 have p109 : 0 ≤ (x20_2 : Int) := zde zq16
 have q109 : x20_2 < (t106.length : Int) := zde zq16
 obtain ⟨ad109, e109, hx109_0⟩ := Kd.at_int (zRr HO_18.out).2.2 x20_2 p109 q109
 cases e109
 replace p109 := eq_true p109
 replace q109 := eq_true q109
 obtain ⟨Ao20, co20, eo20⟩ := Kd.R_slice HO_3.out
 subst eo20
 have p110 : 0 ≤ ((rd t106 x20_2) : Int) := zde zq16
 have q110 : (rd t106 x20_2) < (x3_2.length : Int) := zde zq16
 obtain ⟨ad110, e110, hx110_0⟩ := Kd.at_int (zRr HO_3.out).2.2 (rd t106 x20_2) p110 q110
 cases e110
 replace p110 := eq_true p110
 replace q110 := eq_true q110
 have p19 : 0 ≤ ((rd t106 x20_2) : Int) := zde zq16
 have q19 : ((rd t106 x20_2) : Int) < ((x3_2.length : Int) : Int) := zde zq16
 obtain ⟨go19, co19, eo19, gb19, gl19, cl19, HG19⟩ := Kd.R_form HO_3.out (by omega)
 (first | cases eo19 | (injection eo19 with ea_ en_ ec_; (first | subst ea_ | (injection ea_ with ea_; subst ea_)); subst ec_; clear en_))
 have GB19 := zA gb19
 have GG19 := zA HG19
 clear gb19 gl19 HG19
 (first | simp only [zcw] at hx110_0 | skip)
 obtain ⟨hx19_0, hf19_0⟩ := Kd.R_celln 0 HO_3.out ((rd t106 x20_2) : Int) p19 q19
 replace p19 := eq_true p19
 replace q19 := eq_true q19
 have HP21 := Kd.R_putg HO_3.out ((rd t106 x20_2) : Int) (wrap64 ((rd x3_2 (rd t106 x20_2)) + 1))
 go_wp2_with (first | ((with_reducible refine zgs 3 29 ?_); refine zse (wr.setCell ⟨go19, ((rd t106 x20_2) : Int).toNat, none⟩ (.int .i64 (wrap64 ((rd x3_2 (rd t106 x20_2)) + 1)))) ?_; intro w22 hw; have hg : wr.grownBy w22 (some go19) := (by rw [hw]; exact HP21.2); have hp_ : Kd.R (Kd.int .i64) 3 w22 w.heap.size (fun k_ => some k_ ≠ (.slice (some ad109) t106.length co13 : Value).ownBlock) (.slice (some ⟨go19, 0, none⟩) x3_2.length co20) y111 := (by rw [hw, Ny111.out]; exact HP21.1); clear HP21; replace HO_18 := zA (Kd.R_after (v := (.slice (some ⟨go19, 0, none⟩) x3_2.length co20)) (v1 := (.slice (some ⟨go19, 0, none⟩) x3_2.length co20)) (ok := (fun _ => True)) (by (with_reducible repeat (first | apply zRa | apply zRn | apply zRd)); exact Kd.R_mono HO_18.out (fun _ hk => ⟨trivial, hk⟩)) hg (.inl rfl)); replace BK105 := zA (zed (g := gb105) (o := .cells #[.string ((zab l0 x13_1).f0), .int .i64 ((zab l0 x13_1).f1), .int .i64 ((zab l0 x13_1).f2), .int .i64 ((zab l0 x13_1).f3)] 72 (0, 0)) (zq5 BK105) hg (Kd.R_ne HO_3.out BK105.out (by decide))); replace HO_3 := zA (hp_); replace HB := zA ((zq32 GB19 : Below w.heap.size w w22)); clear hg hw hp_))
 go_roundg k2
 case measure => have := HK1.out; have := HK2.out; omega
 case rel => exact ⟨(y111), (wrap64 (x20_2 + 1)), zq6, H', ⟨zq40 HK1 HK2⟩, ⟨zq3 HO_3⟩, ⟨zq33 HO_18⟩, ⟨zq5 BK105⟩, ⟨zq2 GE105⟩⟩
end Go.Proofs.Ytkfkbmlbpeojaaa.Q
end
section
namespace Go.Proofs.Ytkfkbmlbpeojaaa.Q
open Go.RowKit Go.Proofs.YtkfkbmlbpeojaaaW.PrintWords Go.Proofs.YtkfkbmlbpeojaaaW.PrintLast Go.Proofs.YtkfkbmlbpeojaaaW.PrintMore
attribute [local go_sem] zcs zct zdo zdp zb2 zb3 zcu zcv
set_option linter.unusedVariables false
set_option linter.unusedSimpArgs false
def zdk : Nat → Int → List Int → Int → Int → Option (Bool)
 | 0, _, _, _, _ => none
 | k + 1, x1, x7, x8, x9 => if x9 < x8 then (if 0 ≤ x9 then (if x9 < (x7.length : Int) then (if (rd x7 x9) = x1 then (some true) else (zdk k x1 x7 x8 (wrap64 (x9 + 1)))) else (none)) else (none)) else (some false)
def zeu (k : Nat) (l0 : List Int) (a1 : Int) : Option (Bool) := zdk k a1 l0 (l0.length : Int) 0
theorem zjs : ∀ k, (∀ y0 y1 y2 y3, LeO (zdk k y0 y1 y2 y3) (zdk (k + 1) y0 y1 y2 y3))
 | 0 => fun _ _ _ _ r h => by simp [zdk] at h
 | k + 1 => by
   have ih0 := zjs k
   · intro y0 y1 y2 y3
     unfold zdk
     exact zm1 ih0
theorem zkp : ∀ a0 a1 k, LeO (zeu k a0 a1) (zeu (k + 1) a0 a1) := by
 intro a0 a1 k
 have ih0 := zjs k
 unfold zeu
 exact zm1 ih0
set_option maxHeartbeats 8000000 in
set_option maxRecDepth 100000 in
theorem zn6 (k : Nat) (A0 : Option Addr) (c0 : Nat) (l0 : List Int) (a1 : Int) (r : Bool) (w : World) (hr0 : Kd.C (Kd.int .i64) w A0 l0.length l0) (hc0 : l0.length ≤ c0) (h : zeu k l0 a1 = some r) :
   Calls Try.prog 93 #[.slice A0 l0.length c0, .int .i64 a1] w fun e w' => e = .returned (.bool r) ∧ Drawn0 w w' := by
 have HR0 := zA hr0
 have HC0 := zA hc0
 clear hr0 hc0
 have H : (zdk k a1 l0 (l0.length : Int) 0) = some r := h
 clear h
 have H' := zA H
 clear H
 go_enter Try.func93, Try.ntmps93
 go_wp2
 go_loopg [9] k (fun kq v9 w' => ∃ (x9_1 : Int), v9 = .int .i64 x9_1 ∧ Aside0 (zdk kq a1 l0 (l0.length : Int) x9_1 = some r) ∧ Aside0 (kq ≤ k) ∧ Drawn0 w w')
 case atStart => exact ⟨(0), zq6, H', ⟨zlr _⟩, zq7⟩
 clear H'
 try clear p2
 obtain ⟨x9_1, rfl, HA, HK1, ⟨m1, rfl⟩⟩ := hrel
 cases gk with
 | zero => exact absurd HA.out (by simp [zdk])
 | succ k1 =>
 have H := HA.out
 clear HA
 simp only [zdk] at H
 revert H
 refine zit (fun c3 H => ?_) fun c3 H => ?_
 rotate_left
 · obtain rfl := zsi H
   go_wp2
   go_ret
   exact ⟨zq6, zq7⟩
 revert H
 refine zin fun c4 H => ?_
 revert H
 refine zin fun c5 H => ?_
 by_cases c6 : (rd l0 x9_1) = a1
 · rw [if_pos c6] at H
   have c6b0 := beq_iff_eq.mpr c6
   have c6b1 := bne_eq_false_iff_eq.mpr c6
   clear c6
   obtain rfl := zsi H
   have p101 : 0 ≤ (x9_1 : Int) := zde zq16
   have q101 : x9_1 < (l0.length : Int) := zde zq16
   obtain ⟨ad101, e101, hx101_0⟩ := Kd.at_int HR0.out x9_1 p101 q101
   cases e101
   replace p101 := eq_true p101
   replace q101 := eq_true q101
   go_wp2
   go_ret
   exact ⟨zq6, zq7⟩
 rw [if_neg c6] at H
 have c6b0 := beq_eq_false_iff_ne.mpr c6
 have c6b1 := bne_iff_ne.mpr c6
 have H' := zA H
 clear H
 have p101 : 0 ≤ (x9_1 : Int) := zde zq16
 have q101 : x9_1 < (l0.length : Int) := zde zq16
 obtain ⟨ad101, e101, hx101_0⟩ := Kd.at_int HR0.out x9_1 p101 q101
 cases e101
 replace p101 := eq_true p101
 replace q101 := eq_true q101
 go_wp2
 go_roundg k1
 case measure => have := HK1.out; omega
 case rel => exact ⟨(wrap64 (x9_1 + 1)), zq6, H', ⟨zq38 HK1⟩, zq7⟩
def zb1 : Nat → List (S72) → List (S72) → Int → Int → Option (Bool)
 | 0, _, _, _, _ => none
 | k + 1, x0, x9, x10, x11 => if x11 < x10 then (if 0 ≤ x11 then (if x11 < (x9.length : Int) then ((zfq k ((zab x9 x11).f0) ((zab x9 x11).f1) ((zab x9 x11).f2) ((zab x9 x11).f3) x11).bind fun t104 => (if t104 = true then (zb1 k x0 x9 x10 (wrap64 (x11 + 1))) else (some false))) else (none)) else (none)) else ((zfr k x0).bind fun t105 => (if 0 ≤ (wrap64 ((x0.length : Int) - 1)) then (if (wrap64 ((x0.length : Int) - 1)) ≤ (t105.length : Int) then ((zeu k (t105.take ((wrap64 ((x0.length : Int) - 1)) : Int).toNat) 0).bind fun t112 => (some (!t112))) else (none)) else (none)))
def zd6 (k : Nat) (l0 : List (S72)) : Option (Bool) := (zaz (l0.length : Int) 1 24).bind fun t101 => (if t101 = true then (zb1 k l0 l0 (l0.length : Int) 0) else (some false))
theorem zi5 : ∀ k, (∀ y0 y1 y2 y3, LeO (zb1 k y0 y1 y2 y3) (zb1 (k + 1) y0 y1 y2 y3))
 | 0 => fun _ _ _ _ r h => by simp [zb1] at h
 | k + 1 => by
   have ih0 := zi5 k
   · intro y0 y1 y2 y3
     unfold zb1
     exact zm4 ih0 zj9 zkb zkp
theorem zn7 : ∀ a0 k, LeO (zd6 k a0) (zd6 (k + 1) a0) := by
 intro a0 k
 have ih0 := zi5 k
 unfold zd6
 exact zm4 ih0 zj9 zkb zkp
set_option maxHeartbeats 8000000 in
set_option maxRecDepth 100000 in
theorem znf (k : Nat) (A0 : Option Addr) (c0 : Nat) (l0 : List (S72)) (r : Bool) (w : World) (hr0 : Kd.C k72 w A0 l0.length l0) (hc0 : l0.length ≤ c0) (h : zd6 k l0 = some r) :
   Calls Try.prog 43 #[.slice A0 l0.length c0] w fun e w' => e = .returned (.bool r) ∧ Below w.heap.size w w' := by
 have hu72 := Try.underlying72
 have HR0 := zA hr0
 have HC0 := zA hc0
 clear hr0 hc0
 have HB := zA (Below.refl w.heap.size w)
 have H : ((zaz (l0.length : Int) 1 24).bind fun t101 => (if t101 = true then (zb1 k l0 l0 (l0.length : Int) 0) else (some false))) = some r := h
 clear h
 replace H := zob H
 obtain ⟨t101, A20, H⟩ := H
 replace H : (if t101 = true then (zb1 k l0 l0 (l0.length : Int) 0) else (some false)) = some r := H
 have A2 := zA A20
 clear A20
 by_cases c3 : t101 = true
 rotate_left
 · replace c3 := zbf c3
   subst c3
   replace H : (some false) = some r := by rw [if_neg (show ¬ (false = true) by decide)] at H; exact H
   obtain rfl := zsi H
   go_enter Try.func43, Try.ntmps43
   go_wp2_with (first | ((with_reducible refine zgc 50 ?_); refine zcl 7 Try.func50 (zbk (l0.length : Int) 1 24 false _ A2.out) ?_; rintro e w' ⟨rfl, ⟨nd, rfl⟩⟩; refine ⟨_, rfl, ?_⟩))
   go_ret
   exact ⟨zq4, zq1⟩
 subst c3
 replace H : (zb1 k l0 l0 (l0.length : Int) 0) = some r := by rw [if_pos rfl] at H; exact H
 have H' := zA H
 clear H
 go_enter Try.func43, Try.ntmps43
 go_wp2_with (first | ((with_reducible refine zgc 50 ?_); refine zcl 7 Try.func50 (zbk (l0.length : Int) 1 24 true _ A2.out) ?_; rintro e w' ⟨rfl, ⟨nd, rfl⟩⟩; refine ⟨_, rfl, ?_⟩))
 go_loopg [11] k (fun kq v11 w' => ∃ (x11_1 : Int), v11 = .int .i64 x11_1 ∧ Aside0 (zb1 kq l0 l0 (l0.length : Int) x11_1 = some r) ∧ Aside0 (kq ≤ k) ∧ Aside0 (Below w.heap.size w w'))
 case atStart => exact ⟨(0), zq6, H', ⟨zlr _⟩, ⟨zq1⟩⟩
 clear H'
 try clear p2
 try clear c3
 obtain ⟨x11_1, rfl, HA, HK1, HB⟩ := hrel
 cases gk with
 | zero => exact absurd HA.out (by simp [zb1])
 | succ k1 =>
 have H := HA.out
 clear HA
 simp only [zb1] at H
 revert H
 refine zit (fun c4 H => ?_) fun c4 H => ?_
 rotate_left
 · replace H := zob H
   obtain ⟨t105, A150, H⟩ := H
   replace H : (if 0 ≤ (wrap64 ((l0.length : Int) - 1)) then (if (wrap64 ((l0.length : Int) - 1)) ≤ (t105.length : Int) then ((zeu k1 (t105.take ((wrap64 ((l0.length : Int) - 1)) : Int).toNat) 0).bind fun t112 => (some (!t112))) else (none)) else (none)) = some r := H
   have A15 := zA A150
   clear A150
   obtain ⟨ji16, hji16⟩ : ∃ j_ : Int, (wrap64 ((l0.length : Int) - 1)) = j_ := ⟨_, rfl⟩
   replace H : (if 0 ≤ (ji16) then (if (ji16) ≤ (t105.length : Int) then ((zeu k1 (t105.take ((ji16) : Int).toNat) 0).bind fun t112 => (some (!t112))) else (none)) else (none)) = some r := by first | (rw [hji16] at H; exact H) | (simp only [hji16] at H ⊢; exact H)
   (try rw [hji16] at A15)
   have hji16w : (IntKind.i64.wrap ((l0.length : Int) - 1)) = ji16 := (zfx _).trans hji16
   by_cases c17 : 0 ≤ (ji16)
   rotate_left
   · rw [if_neg c17] at H
     exact absurd H (by simp)
   rw [if_pos c17] at H
   have c17b0 := eq_true c17
   have c17b1 := zdt c17
   clear c17
   by_cases c18 : (ji16) ≤ (t105.length : Int)
   rotate_left
   · rw [if_neg c18] at H
     exact absurd H (by simp)
   rw [if_pos c18] at H
   have c18b0 := eq_true c18
   have c18b1 := zdt c18
   clear c18
   obtain ⟨y108, hy108⟩ : ∃ y_ : List Int, y_ = (t105.take ((ji16) : Int).toNat) := ⟨_, rfl⟩
   replace H : ((zeu k1 y108 0).bind fun t112 => (some (!t112))) = some r := by first | (rw [hy108]; with_reducible exact H) | (have H2_ := (Option.bind_some _ _).symm.trans H; rw [hy108]; with_reducible exact H2_) | (have H2_ := (Option.bind_some _ _).symm.trans H; with_reducible exact H2_) | with_reducible exact H | (rw [hy108]; exact H) | exact H
   have Ny108 := zA hy108
   clear hy108
   replace H := zob H
   obtain ⟨t112, A190, H⟩ := H
   replace H : (some (!t112)) = some r := H
   have A19 := zA A190
   clear A190
   obtain rfl := zsi H
   go_wp2_with (first | ((with_reducible refine zax (f := 94) rfl ?_); refine zdu (some 22) rfl rfl Try.func94 zq23 rfl #[.slice A0 l0.length c0] rfl zq9 ?_; (with_reducible refine (zne k1 _ _ l0 t105 _ ?side1 ?side2 A15.out).mono ?_); (case side1 => repeat (first | exact (zCb HR0.out HB.out) | (with_reducible first | refine zCa ?_ _ | refine zCn ?_ _ | refine zCd ?_))); (case side2 => exact HC0.out); rintro e w20 ⟨v106, rfl, ho0, hb⟩; refine ⟨_, rfl, ?_⟩; have HO107 := zA (Kd.R_lower ho0 (zar zq1)); replace HB := zA (zad zq1 hb); (try clear hb); (try clear ho0); obtain ⟨Ao22, co22, eo22⟩ := Kd.R_slice HO107.out; subst eo22; have q21 : ((ji16) : Int) ≤ ((t105.length : Int) : Int) := zde zq16; obtain ⟨i021, hi021, _, hsz21, _⟩ := info_parts zns; have hroom21 : t105.length ≤ co22 := (zRr HO107.out).2.1; have hC21 : Kd.C (Kd.int .i64) _ Ao22 t105.length t105 := (zRr HO107.out).2.2; have hcut21 := zvv (P := Try.prog) 51 3 .i64 Try.underlying51 hi021 Ao22 t105.length co22 (ji16) (zde zq16) q21 hroom21; have hr21 := Kd.C_take (m := ((ji16) : Int).toNat) hC21 (by omega); have hy21 : y108.length = ((ji16) : Int).toNat := (by rw [Ny108.out, List.length_take]; omega); rw [← Ny108.out] at hr21; rw [← hy21] at hcut21; have HR111 := zA hr21; have HC111 := zA (show y108.length ≤ co22 from by omega); clear hr21 hC21 hroom21 hi021 hsz21; have KY21 := zA hy21; clear hy21; have KL21 := zA (show ((ji16) : Int).toNat ≤ t105.length from by omega); replace q21 := eq_true q21) | ((with_reducible refine zax (f := 93) rfl ?_); refine zdu (some 27) rfl rfl Try.func93 zq23 rfl #[.slice Ao22 y108.length co22, .int .i64 0] rfl zq9 ?_; (with_reducible refine (zn6 k1 _ _ y108 0 t112 _ ?side1 ?side2 A19.out).mono ?_); (case side1 => repeat (first | exact (by repeat (first | (with_reducible exact HR111.out) | (with_reducible first | refine zCa ?_ _ | refine zCn ?_ _ | refine zCd ?_) | exact HR111.out)) | (with_reducible first | refine zCa ?_ _ | refine zCn ?_ _ | refine zCd ?_))); (case side2 => exact HC111.out); rintro e w' ⟨rfl, ⟨nd, rfl⟩⟩; refine ⟨_, rfl, ?_⟩))
   go_ret
   exact ⟨zq45, zq1⟩
 revert H
 refine zin fun c5 H => ?_
 revert H
 refine zin fun c6 H => ?_
 replace H := zob H
 obtain ⟨t104, A70, H⟩ := H
 replace H : (if t104 = true then (zb1 k1 l0 l0 (l0.length : Int) (wrap64 (x11_1 + 1))) else (some false)) = some r := H
 have A7 := zA A70
 clear A70
 by_cases c8 : t104 = true
 rotate_left
 · replace c8 := zbf c8
   subst c8
   replace H : (some false) = some r := by rw [if_neg (show ¬ (false = true) by decide)] at H; exact H
   obtain rfl := zsi H
   have p102 : 0 ≤ (x11_1 : Int) := zde zq16
   have q102 : x11_1 < (l0.length : Int) := zde zq16
   obtain ⟨ad102, e102, hx102_0, hx102_1, hx102_2, hx102_3⟩ := zd0 HR0.out x11_1 p102 q102
   cases e102
   replace hx102_0 := zkep HB.out hx102_0
   replace hx102_1 := zkep HB.out hx102_1
   replace hx102_2 := zkep HB.out hx102_2
   replace hx102_3 := zkep HB.out hx102_3
   replace p102 := eq_true p102
   replace q102 := eq_true q102
   go_wp2_with (first | ((with_reducible refine zgd 4 ?_); refine zbx #[.string (⟨#[]⟩ : ByteArray), .int .i64 0, .int .i64 0, .int .i64 0] 72 ?_; intro gb103 hg w12 hbox hb; have zs := zpair zq1 hb; replace HB := zA (zs.1); have BK103 := zA (hbox); have GW103 := zA (zge hg zs.2); have GE103 := GW103; clear zs hb hbox hg; obtain ⟨hcz13_0, hcz13_1, hcz13_2, hcz13_3⟩ := zc4 w12 (.string (⟨#[]⟩ : ByteArray)) (.int .i64 0) (.int .i64 0) (.int .i64 0) BK103.out; obtain ⟨hfz13_0, hfz13_1, hfz13_2, hfz13_3⟩ := zf4 BK103.out) | ((with_reducible refine zgc 92 ?_); refine zcl 18 Try.func92 (zjr k1 ((zab l0 x11_1).f0) ((zab l0 x11_1).f1) ((zab l0 x11_1).f2) ((zab l0 x11_1).f3) x11_1 false _ A7.out) ?_; rintro e w14 ⟨rfl, hb⟩; refine ⟨_, rfl, ?_⟩; replace BK103 := zA (zaf (g := gb103) (o := .cells #[.string ((zab l0 x11_1).f0), .int .i64 ((zab l0 x11_1).f1), .int .i64 ((zab l0 x11_1).f2), .int .i64 ((zab l0 x11_1).f3)] 72 (0, 0)) (zq18 BK103) hb); replace HB := zA (zad (zq2 GE103) hb); (try clear hb)))
   go_ret
   exact ⟨zq4, zq2 GE103⟩
 subst c8
 replace H : (zb1 k1 l0 l0 (l0.length : Int) (wrap64 (x11_1 + 1))) = some r := by rw [if_pos rfl] at H; exact H
 have H' := zA H
 clear H
 have p102 : 0 ≤ (x11_1 : Int) := zde zq16
 have q102 : x11_1 < (l0.length : Int) := zde zq16
 obtain ⟨ad102, e102, hx102_0, hx102_1, hx102_2, hx102_3⟩ := zd0 HR0.out x11_1 p102 q102
 cases e102
 replace hx102_0 := zkep HB.out hx102_0
 replace hx102_1 := zkep HB.out hx102_1
 replace hx102_2 := zkep HB.out hx102_2
 replace hx102_3 := zkep HB.out hx102_3
 replace p102 := eq_true p102
 replace q102 := eq_true q102
 go_wp2_with (first | ((with_reducible refine zgd 4 ?_); refine zbx #[.string (⟨#[]⟩ : ByteArray), .int .i64 0, .int .i64 0, .int .i64 0] 72 ?_; intro gb103 hg w9 hbox hb; have zs := zpair zq1 hb; replace HB := zA (zs.1); have BK103 := zA (hbox); have GW103 := zA (zge hg zs.2); have GE103 := GW103; clear zs hb hbox hg; obtain ⟨hcz10_0, hcz10_1, hcz10_2, hcz10_3⟩ := zc4 w9 (.string (⟨#[]⟩ : ByteArray)) (.int .i64 0) (.int .i64 0) (.int .i64 0) BK103.out; obtain ⟨hfz10_0, hfz10_1, hfz10_2, hfz10_3⟩ := zf4 BK103.out) | ((with_reducible refine zgc 92 ?_); refine zcl 18 Try.func92 (zjr k1 ((zab l0 x11_1).f0) ((zab l0 x11_1).f1) ((zab l0 x11_1).f2) ((zab l0 x11_1).f3) x11_1 true _ A7.out) ?_; rintro e w11 ⟨rfl, hb⟩; refine ⟨_, rfl, ?_⟩; replace BK103 := zA (zaf (g := gb103) (o := .cells #[.string ((zab l0 x11_1).f0), .int .i64 ((zab l0 x11_1).f1), .int .i64 ((zab l0 x11_1).f2), .int .i64 ((zab l0 x11_1).f3)] 72 (0, 0)) (zq18 BK103) hb); replace HB := zA (zad (zq2 GE103) hb); (try clear hb)))
 go_roundg k1
 case measure => have := HK1.out; omega
 case rel => exact ⟨(wrap64 (x11_1 + 1)), zq6, H', ⟨zq38 HK1⟩, ⟨zq2 GE103⟩⟩
def zbl (l0 : List (S72)) (a1_0 : ByteArray) (a1_1 : Int) (a1_2 : Int) (a1_3 : Int) : Option ((List (S72)) × Int) := if l0.length < 3518437208883 then (some ((l0 ++ [(⟨a1_0, a1_1, a1_2, a1_3⟩ : S72)]), (l0.length : Int))) else (none)
set_option maxHeartbeats 8000000 in
set_option maxRecDepth 100000 in
theorem zdx (P0_ : Nat → Prop) (u9000_ : Value) (l0 : List (S72)) (a1_0 : ByteArray) (a1_1 : Int) (a1_2 : Int) (a1_3 : Int) (r1 : List (S72)) (r2 : Int) (w0 w : World) (hB : Below w0.heap.size w0 w) (ho0 : Kd.R k72 72 w w0.heap.size P0_ u9000_ l0) (h : zbl l0 a1_0 a1_1 a1_2 a1_3 = some (r1, r2)) :
   Calls Try.prog 164 #[u9000_, .agg #[.string a1_0, .int .i64 a1_1, .int .i64 a1_2, .int .i64 a1_3]] w fun e w' => ∃ v0_ : Value, e = .returned (.tuple #[v0_, .int .i64 r2]) ∧ Kd.R k72 72 w' w0.heap.size (fun k_ => (P0_ k_ ∨ w.heap.size ≤ k_)) v0_ r1 ∧ Below w0.heap.size w0 w' ∧ Kept w w' (fun k_ => P0_ k_) := by
 obtain ⟨A9_, c9_, rfl⟩ := Kd.R_slice ho0
 have hu72 := Try.underlying72
 have HO0 := zA (show Kd.R k72 72 w w0.heap.size (fun k_ => (P0_ k_ ∨ w.heap.size ≤ k_)) (.slice A9_ l0.length c9_) l0 from Kd.R_mono ho0 (fun k_ hk => (.inl hk)))
 have HK := zA (Kept.refl w (fun k_ => P0_ k_))
 have HW0 := zA hB.size
 have HB := zA hB
 clear hB
 have H : (if l0.length < 3518437208883 then (some ((l0 ++ [(⟨a1_0, a1_1, a1_2, a1_3⟩ : S72)]), (l0.length : Int))) else (none)) = some (r1, r2) := h
 clear h
 by_cases c3 : l0.length < 3518437208883
 · rw [if_pos c3] at H
   have LMc3 := zA c3
   clear c3
   obtain ⟨y102, hy102⟩ : ∃ y_ : List (S72), y_ = (l0 ++ [(⟨a1_0, a1_1, a1_2, a1_3⟩ : S72)]) := ⟨_, rfl⟩
   replace H : (some (y102, (l0.length : Int))) = some (r1, r2) := by first | (rw [hy102]; with_reducible exact H) | (have H2_ := (Option.bind_some _ _).symm.trans H; rw [hy102]; with_reducible exact H2_) | (have H2_ := (Option.bind_some _ _).symm.trans H; with_reducible exact H2_) | with_reducible exact H | (rw [hy102]; exact H) | exact H
   have Ny102 := zA hy102
   clear hy102
   simp only [Option.some.injEq, Prod.mk.injEq] at H
   obtain ⟨rfl, rfl⟩ := H
   go_enter Try.func164, Try.ntmps164
   go_wp2_with (first | ((with_reducible refine zgd 3 ?_); refine zbx #[.string a1_0, .int .i64 a1_1, .int .i64 a1_2, .int .i64 a1_3] 72 ?_; intro gb101 hg w4 hbox hb; replace HO0 := zA (zRb (Kd.R_elderB (zq3 HO0) gb101 (Nat.le_of_eq hg.symm)) hb); have BK101 := zA (hbox); have GW101 := zA ((by rw [hg]; exact (by first | exact HK.out.1 | exact (show Kept w _ (fun k_ => P0_ k_) from by repeat (first | (with_reducible first | exact HK.out | apply Kept.alloc | apply Kept.drewN | apply Kept.drew) | exact HK.out)).1) : w.heap.size ≤ gb101)); replace HK := zA (Kept.below (S := (fun k_ => P0_ k_)) zq21 hb); have GE101 := zA ((by rw [hg]; exact (zar zq1) : w0.heap.size ≤ gb101)); replace HB := zA (zad zq1 hb); clear hb hbox hg; obtain ⟨hcz5_0, hcz5_1, hcz5_2, hcz5_3⟩ := zc4 w4 (.string a1_0) (.int .i64 a1_1) (.int .i64 a1_2) (.int .i64 a1_3) BK101.out; obtain ⟨hfz5_0, hfz5_1, hfz5_2, hfz5_3⟩ := zf4 BK101.out) | ((with_reducible refine zfb (b := .append) (xs := #[.tmp 6, .tmp 8]) rfl ?_); at_builtin; refine Kd.R_append k72 (w0 := w0) w0.heap.size rfl (.tmp 6) (.tmp 8) 24 72 (.agg #[(.string ⟨#[]⟩), (.int .i64 0), (.int .i64 0), (.int .i64 0)]) 40 rfl Try.underlying24 znq rfl (by decide) (by omega) (.slice A9_ l0.length c9_) l0 (⟨a1_0, a1_1, a1_2, a1_3⟩ : S72) [.string a1_0, .int .i64 a1_1, .int .i64 a1_2, .int .i64 a1_3] (fun k_ => (P0_ k_ ∨ w.heap.size ≤ k_) ∧ k_ ≠ gb101) (fun _ => False) rfl rfl ?aP (fun _ hk => hk.elim) ?aF ?aO ?aB ?aS ?aL ?_; (case aP => exact ze2 _ _ _ (⟨a1_0, a1_1, a1_2, a1_3⟩ : S72)); (case aB => exact (zq2 GE101)); (case aF => exact (fun k_ hk => ⟨(.inr (Nat.le_trans (by first | exact HK.out.1 | exact (show Kept w _ (fun k_ => P0_ k_) from by repeat (first | (with_reducible first | exact HK.out | apply Kept.alloc | apply Kept.drewN | apply Kept.drew | refine Kept.setCell ?_ (.inr GW101.out) _) | exact HK.out)).1) hk)), Kd.freshB (g := gb101) (o := .cells #[.string a1_0, .int .i64 a1_1, .int .i64 a1_2, .int .i64 a1_3] 72 (0, 0)) (zq5 BK101) k_ hk⟩)); (case aO => exact (zq3 HO0)); (case aS => exact (zar (zq2 GE101))); (case aL => have := LMc3.out; omega); intro v103 w6 ho hb hg hat; rw [← Ny102.out] at ho; replace BK101 := zA (zed (g := gb101) (o := .cells #[.string a1_0, .int .i64 a1_1, .int .i64 a1_2, .int .i64 a1_3] 72 (0, 0)) (zq5 BK101) hg (Kd.R_away HO0.out (fun _ hk => hk.2))); replace HB := zA (hb); replace HK := zA (zeh (S := (fun k_ => P0_ k_)) hg (zq51 GW101) (fun k_ e_ => (HO0.out.1 k_ e_).1)); have HO104 := zA (ho); clear HO0; clear ho hb hg hat))
   go_ret2
   exact ⟨_, zq4, by (with_reducible repeat (first | apply zRa | apply zRn | apply zRd)); exact Kd.R_mono HO104.out (fun _ hk => hk.1), zq2 GE101, zq51 GW101⟩
 · rw [if_neg c3] at H
   exact absurd H (by simp)
end Go.Proofs.Ytkfkbmlbpeojaaa.Q
end
