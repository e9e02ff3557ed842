/- Proved here: contracts of functions that the law FnExactAllShortest reaches, and lemmas on what they compute; texts of this session and the printed words of the kit that they lean on, cut down and put together by its program link.py. Conditions: as each states. -/
import Derived.Carry
import Derived.Deep.DeepMust
import Derived.Deep.Slices
import Derived.Laws.EntriesVeiled
import Derived.ProofKit
import Derived.Test.YtnaafcleafbejaaGreatZFnExactAllShortest1
import Derived.Test.YtnaafcleafbejaaGreatZFnExactAllShortest2
import Derived.Test.YtnaafcleafbejaaGreatZFnExactAllShortest3
section
namespace Go.Proofs.YtnaafcleafbejaaGreat.Q
open Go.RowKit Go.Proofs.YtnaafcleafbejaaGreatW.PrintWords Go.Proofs.YtnaafcleafbejaaGreatW.PrintLast Go.Proofs.YtnaafcleafbejaaGreatW.PrintMore
set_option maxHeartbeats 8000000
set_option maxRecDepth 100000
attribute [local go_sem] zbc zbg zb8 zb9 za1 za2 zbi zbj
set_option linter.unusedVariables false
set_option linter.unusedSimpArgs false
def zi6 (a0 : Int) (a1 : Int) : Option (List Int) := if 6 ≤ 35184372088832 then ((some (List.replicate 6 0 : List Int)).bind fun y101 => (if 0 < (y101.length : Int) then (if 1 < (y101.length : Int) then (some ((y101.set (0 : Int).toNat a0).set (1 : Int).toNat a1)) else (none)) else (none))) else (none)
theorem zii (a0 : Int) (a1 : Int) (r : List Int) (w : World) (h : zi6 a0 a1 = some r) :
   Calls Tryz.prog 85 #[.int .i64 a0, .int .i64 a1] w fun e w' => ∃ v0_ : Value, e = .returned (v0_) ∧ Kd.R (Kd.int .i64) 3 w' w.heap.size (fun _ => True) v0_ r ∧ Below w.heap.size w w' := by
 have HB := zA (Below.refl w.heap.size w)
 have H := h
 unfold zi6 at H
 clear h
 by_cases c3 : 6 ≤ 35184372088832
 rotate_left
 · rw [if_neg c3] at H
   exact absurd H (by simp)
 rw [if_pos c3] at H
 have c3b0 := eq_true c3
 have c3b1 := zdt c3
 clear c3
 obtain ⟨y101, hy101⟩ : ∃ y_ : List Int, y_ = (List.replicate 6 0) := ⟨_, rfl⟩
 rw [← hy101] at H; try with_reducible replace H := zbs H
 have Ny101 := zA hy101
 clear hy101
 by_cases c4 : 0 < (y101.length : Int)
 rotate_left
 · rw [if_neg c4] at H
   exact absurd H (by simp)
 rw [if_pos c4] at H
 have c4b0 := zdt c4
 have c4b1 : decide (0 < y101.length) = true := zdt (by omega)
 clear c4
 obtain ⟨y104, hy104⟩ : ∃ y_ : List Int, y_ = (y101.set (0 : Int).toNat a0) := ⟨_, rfl⟩
 rw [← hy104] at H; try with_reducible replace H := zbs H
 have Ny104 := zA hy104
 clear hy104
 by_cases c6 : 1 < (y101.length : Int)
 rotate_left
 · rw [if_neg c6] at H
   exact absurd H (by simp)
 rw [if_pos c6] at H
 have c6b0 := zdt c6
 have c6b1 : decide (1 < y101.length) = true := zdt (by omega)
 clear c6
 obtain ⟨y105, hy105⟩ : ∃ y_ : List Int, y_ = (y104.set (1 : Int).toNat a1) := ⟨_, rfl⟩
 rw [← hy105] at H; try with_reducible replace H := zbs H
 have Ny105 := zA hy105
 clear hy105
 obtain rfl := zsi H
 go_enter Tryz.func85, Tryz.ntmps85
 go_wp2_with (first | ((with_reducible refine zgd 6 ?_); refine Kd.R_make (Kd.int .i64) _ 3 rfl (N := 6) rfl 24 _ _ rfl 6 rfl rfl Tryz.underlying24 (.int .i64 0) 8 zl5 rfl (by decide) (by omega) 0 (ok := fun _ => True) (okp := fun _ => True) rfl (fun _ hk => hk) trivial (by omega) (by omega) (Below.refl _ _) (zlr _) ?_; intro v102 w8 ho9 hb hg_ hnew_; clear hg_ hnew_; (first | rw [← Ny101.out] at ho9 | (simp only [Int.reduceToNat] at ho9; rw [← Ny101.out] at ho9)); have HO103 := zA (Kd.R_lower ho9 (zaf zq2)); replace HB := zA (zaa zq2 hb); clear hb ho9; have p5 : 0 ≤ (0 : Int) := (by omega); have q5 : (0 : Int) < ((y101.length : Int) : Int) := zde zq14; have qi5 : (0 < y101.length) = True := eq_true (by omega); obtain ⟨go5, co5, eo5, gb5, gl5, cl5, HG5⟩ := Kd.R_form HO103.out (by omega); (first | cases eo5 | (injection eo5 with ea_ en_ ec_; (first | subst ea_ | (injection ea_ with ea_; subst ea_)); subst ec_; clear en_)); have GB5 := zA gb5; have GG5 := zA HG5; clear gb5 gl5 HG5; obtain ⟨hx5_0, hf5_0⟩ := Kd.R_celln 0 HO103.out (0 : Int) p5 q5; (try rw [show ((0 : Int)).toNat = 0 from rfl] at hx5_0); (try simp only [Nat.reduceMul, Nat.zero_mul, Nat.zero_add, Nat.reduceAdd] at hx5_0); (try rw [show ((0 : Int)).toNat = 0 from rfl] at hf5_0); (try simp only [Nat.reduceMul, Nat.zero_mul, Nat.zero_add, Nat.reduceAdd] at hf5_0); replace p5 := eq_true p5; replace q5 := eq_true q5; obtain ⟨hy10_, hz10_⟩ := Kd.R_celln 0 HO103.out (0 : Int) (by omega) (zde zq14); (try simp only [Int.reduceToNat, Int.toNat_zero, Int.toNat_ofNat, Nat.reduceMul, Nat.zero_mul, Nat.zero_add] at hy10_ hz10_); (try rw [show ((0 : Int)).toNat = 0 from rfl] at hy10_); (try rw [show ((0 : Int)).toNat = 0 from rfl] at hz10_); have HP10 := Kd.R_putg HO103.out (0 : Int) a0) | ((with_reducible refine zgs 3 9 ?_); refine zse (w8.setCell ⟨go5, (0 : Int).toNat, none⟩ (.int .i64 a0)) ?_; intro w11 hw; have hg : w8.grownBy w11 (some go5) := (by rw [hw]; exact HP10.2); have hp_ : Kd.R (Kd.int .i64) 3 w11 w.heap.size (fun _ => True) (.slice (some ⟨go5, 0, none⟩) y101.length co5) y104 := (by rw [hw, Ny104.out]; exact HP10.1); clear HP10; replace HO103 := zA (hp_); replace HB := zA ((zq32 GB5 : Below w.heap.size w w11)); clear hg hw hp_; have p7 : 0 ≤ (1 : Int) := (by omega); have q7 : (1 : Int) < ((y101.length : Int) : Int) := zde zq14; have qi7 : (1 < y101.length) = True := eq_true (by omega); obtain ⟨hx7_0, hf7_0⟩ := Kd.R_celln 0 HO103.out (1 : Int) p7 q7; (try rw [show ((1 : Int)).toNat = 1 from rfl] at hx7_0); (try simp only [Nat.reduceMul, Nat.zero_mul, Nat.zero_add, Nat.reduceAdd] at hx7_0); (try rw [show ((1 : Int)).toNat = 1 from rfl] at hf7_0); (try simp only [Nat.reduceMul, Nat.zero_mul, Nat.zero_add, Nat.reduceAdd] at hf7_0); replace p7 := eq_true p7; replace q7 := eq_true q7; obtain ⟨hy12_, hz12_⟩ := Kd.R_celln 0 HO103.out (1 : Int) (by omega) (zde zq14); (try simp only [Int.reduceToNat, Int.toNat_zero, Int.toNat_ofNat, Nat.reduceMul, Nat.zero_mul, Nat.zero_add] at hy12_ hz12_); (try rw [show ((1 : Int)).toNat = 1 from rfl] at hy12_); (try rw [show ((1 : Int)).toNat = 1 from rfl] at hz12_); have HP12 := Kd.R_putg HO103.out (1 : Int) a1) | ((with_reducible refine zgs 3 12 ?_); refine zse (w11.setCell ⟨go5, (1 : Int).toNat, none⟩ (.int .i64 a1)) ?_; intro w13 hw; have hg : w11.grownBy w13 (some go5) := (by rw [hw]; exact HP12.2); have hp_ : Kd.R (Kd.int .i64) 3 w13 w.heap.size (fun _ => True) (.slice (some ⟨go5, 0, none⟩) y101.length co5) y105 := (by rw [hw, Ny105.out]; exact HP12.1); clear HP12; replace HO103 := zA (hp_); replace HB := zA ((zq32 GB5 : Below w.heap.size w w13)); clear hg hw hp_))
 go_ret
 exact ⟨_, zq4, zq3 HO103, zq2⟩
def zir (a0 : ByteArray) : Option (Bool) := if a0.toList = ([110, 111, 116] : List UInt8) then (some true) else (some (a0.toList == ([110, 101, 103] : List UInt8)))
theorem zcv (a0 : ByteArray) (r : Bool) (w : World) (h : zir a0 = some r) :
   Calls Tryz.prog 153 #[.string a0] w fun e w' => e = .returned (.bool r) ∧ Drawn0 w w' := by
 have H := h
 unfold zir at H
 clear h
 by_cases c2 : a0.toList = ([110, 111, 116] : List UInt8)
 · rw [if_pos c2] at H
   obtain ⟨c2b0, c2b1⟩ := zbe c2
   clear c2
   obtain rfl := zsi H
   go_enter Tryz.func153, Tryz.ntmps153
   exact zr_1
 · rw [if_neg c2] at H
   obtain ⟨c2b0, c2b1⟩ := zbq c2
   obtain rfl := zsi H
   go_enter Tryz.func153, Tryz.ntmps153
   exact zr_1
end Go.Proofs.YtnaafcleafbejaaGreat.Q
end
section
namespace Go.Proofs.YtnaafcleafbejaaGreat.Q
open Go.RowKit Go.Proofs.YtnaafcleafbejaaGreatW.PrintWords Go.Proofs.YtnaafcleafbejaaGreatW.PrintLast Go.Proofs.YtnaafcleafbejaaGreatW.PrintMore
set_option maxHeartbeats 8000000
set_option maxRecDepth 100000
attribute [local go_sem] zbc zbg zb8 zb9 za1 za2 zbi zbj
set_option linter.unusedVariables false
set_option linter.unusedSimpArgs false
mutual
def zbt : Nat → Int → Int → List Int → List (S62) → Int → Int → Option (List Int)
 | 0, _, _, _, _, _, _ => none
 | k + 1, x1, x2, x7, x10, x11, x12 => if x12 < x11 then (if 0 ≤ x12 then (if x12 < (x10.length : Int) then (if ((zab x10 x12).f0).toList = ([99, 111, 110, 115, 116] : List UInt8) then (if x7.length < 17592186044416 then (zbt k x1 x2 (x7 ++ [(zab x10 x12).f3]) x10 x11 (wrap64 (x12 + 1))) else (none)) else (if ((zab x10 x12).f0).toList = ([105, 110] : List UInt8) then (zcw k x1 x2 x7 x10 x11 x12 (((zab x10 x12).f3) == 0) ((zab x10 x12).f0) ((zab x10 x12).f1) ((zab x10 x12).f2) ((zab x10 x12).f3)) else (zcw k x1 x2 x7 x10 x11 x12 false ((zab x10 x12).f0) ((zab x10 x12).f1) ((zab x10 x12).f2) ((zab x10 x12).f3)))) else (none)) else (none)) else (some x7)
def zcw : Nat → Int → Int → List Int → List (S62) → Int → Int → Bool → ByteArray → Int → Int → Int → Option (List Int)
 | 0, _, _, _, _, _, _, _, _, _, _, _ => none
 | k + 1, x1, x2, x7, x10, x11, x12, x41, x103000, x103001, x103002, x103003 => if x41 = true then (if x7.length < 17592186044416 then (zbt k x1 x2 (x7 ++ [x1]) x10 x11 (wrap64 (x12 + 1))) else (none)) else (if x103000.toList = ([105, 110] : List UInt8) then (if x7.length < 17592186044416 then (zbt k x1 x2 (x7 ++ [x2]) x10 x11 (wrap64 (x12 + 1))) else (none)) else ((zir x103000).bind fun t112 => (if t112 = true then (if 0 ≤ x103001 then (if x103001 < (x7.length : Int) then ((za5 x103000 (rd x7 x103001) 0).bind fun t114 => (if x7.length < 17592186044416 then (zbt k x1 x2 (x7 ++ [t114]) x10 x11 (wrap64 (x12 + 1))) else (none))) else (none)) else (none)) else (if 0 ≤ x103001 then (if x103001 < (x7.length : Int) then (if 0 ≤ x103002 then (if x103002 < (x7.length : Int) then ((za5 x103000 (rd x7 x103001) (rd x7 x103002)).bind fun t120 => (if x7.length < 17592186044416 then (zbt k x1 x2 (x7 ++ [t120]) x10 x11 (wrap64 (x12 + 1))) else (none))) else (none)) else (none)) else (none)) else (none)))))
end
def zfw (k : Nat) (l0 : List (S62)) (a1 : Int) (a2 : Int) : Option (List Int) := zbt k a1 a2 ([] : List Int) l0 (l0.length : Int) 0
theorem zls : ∀ k, (∀ y0 y1 y2 y3 y4 y5, LeO (zbt k y0 y1 y2 y3 y4 y5) (zbt (k + 1) y0 y1 y2 y3 y4 y5)) ∧ (∀ y0 y1 y2 y3 y4 y5 y6 y7 y8 y9 y10, LeO (zcw k y0 y1 y2 y3 y4 y5 y6 y7 y8 y9 y10) (zcw (k + 1) y0 y1 y2 y3 y4 y5 y6 y7 y8 y9 y10))
 | 0 => ⟨fun _ _ _ _ _ _ r h => by simp [zbt] at h, fun _ _ _ _ _ _ _ _ _ _ _ r h => by simp [zcw] at h⟩
 | k + 1 => by
   obtain ⟨ih0, ih1⟩ := zls k
   refine ⟨?_, ?_⟩
   · intro y0 y1 y2 y3 y4 y5
     unfold zbt
     exact zm2 ih0 ih1
   · intro y0 y1 y2 y3 y4 y5 y6 y7 y8 y9 y10
     unfold zcw
     exact zm2 ih0 ih1
theorem zqt : ∀ a0 a1 a2 k, LeO (zfw k a0 a1 a2) (zfw (k + 1) a0 a1 a2) := by
 intro a0 a1 a2 k
 obtain ⟨ih0, ih1⟩ := zls k
 unfold zfw
 exact zm2 ih0 ih1
def spec_exValues.T5 : Bool × List (List Nat × List Nat) := (true, [([], []), ([], []), ([1], [1]), ([], []), ([], []), ([4], [4]), ([3, 5], [3, 5]), ([6], [6]), ([], []), ([], []), ([9], [9]), ([8, 10], [8, 10]), ([11], [11]), ([2, 7, 12], [2, 7, 12]), ([13], [13]), ([0, 14, 13], [0, 14]), ([15, 15, 0, 1, 2, 3, 4, 5, 6, 7, 8, 9, 10, 11, 12, 13, 14, 15], [0, 3, 8, 15])])
def zsw : List Nat := [0, 0, 2, 0, 0, 16, 56, 120, 0, 0, 512, 1792, 3840, 8190, 16382, 32767, 65535]
theorem zqu : rtab .any (zs3 Tryz.f121 5) = spec_exValues.T5 := by kernel_rfl
theorem zp6 : zis spec_exValues.T5.2 zsw = true := by kernel_rfl
def spec_exValues.T13 : Bool × List (List Nat × List Nat) := (true, [([], []), ([], []), ([1], [1]), ([], []), ([], []), ([4], [4]), ([3, 5], [3, 5]), ([6], [6]), ([2, 7], [2, 7]), ([8], [8]), ([0, 9, 8], [0, 9]), ([10, 10, 0, 1, 2, 3, 4, 5, 6, 7, 8, 9, 10], [0, 3, 10])])
def zr2 : List Nat := [0, 0, 2, 0, 0, 16, 56, 120, 254, 510, 1023, 2047]
theorem zp7 : rtab .any (zs3 Tryz.f121 13) = spec_exValues.T13 := by kernel_rfl
theorem zpl : zis spec_exValues.T13.2 zr2 = true := by kernel_rfl
theorem zp8 (k : Nat) (A0 : Option Addr) (c0 : Nat) (l0 : List (S62)) (a1 : Int) (a2 : Int) (r : List Int) (w : World) (hr0 : Kd.C k62 w A0 l0.length l0) (hc0 : l0.length ≤ c0) (h : zfw k l0 a1 a2 = some r) :
   Calls Tryz.prog 121 #[.slice A0 l0.length c0, .int .i64 a1, .int .i64 a2] w fun e w' => ∃ v0_ : Value, e = .returned (v0_) ∧ Kd.R (Kd.int .i64) 3 w' w.heap.size (fun _ => True) v0_ r ∧ Below w.heap.size w w' := by
 have hu62 := Tryz.underlying62
 have HR0 := zA hr0
 have HC0 := zA hc0
 clear hr0 hc0
 have HB := zA (Below.refl w.heap.size w)
 have H := h
 unfold zfw at H
 clear h
 have H' := zA H
 clear H
 go_enter Tryz.func121, Tryz.ntmps121
 go_wp2
 go_loopg [7, 12] k (fun kq v7 v12 w' => ∃ (x7_1 : List Int) (x12_1 : Int), v12 = .int .i64 x12_1 ∧ Aside0 (zbt kq a1 a2 x7_1 l0 (l0.length : Int) x12_1 = some r) ∧ Aside0 (kq ≤ k) ∧ Aside0 (Kd.R (Kd.int .i64) 3 w' w.heap.size (fun _ => True) v7 x7_1) ∧ Aside0 (Below w.heap.size w w'))
 case atStart => exact ⟨(([] : List Int)), (0), zq5, H', ⟨zlr _⟩, ⟨zq43⟩, ⟨zq2⟩⟩
 clear H'
 obtain ⟨x7_1, x12_1, rfl, HA, HK1, HO_7, HB⟩ := hrel
 cases gk with
 | zero => exact absurd HA.out (by simp [zbt])
 | succ k1 =>
 have H := HA.out
 clear HA
 simp only [zbt] at H
 revert H
 refine zit (fun c4 H => ?_) fun c4 H => ?_
 rotate_left
 · obtain rfl := zsi H
   go_wp2
   go_ret
   exact ⟨_, zq4, zq3 HO_7, zq2⟩
 revert H
 refine zin fun c5 H => ?_
 revert H
 refine zin fun c6 H => ?_
 by_cases c7 : ((zab l0 x12_1).f0).toList = ([99, 111, 110, 115, 116] : List UInt8)
 · rw [if_pos c7] at H
   obtain ⟨c7b0, c7b1⟩ := zbe c7
   clear c7
   by_cases c8 : x7_1.length < 17592186044416
   rotate_left
   · rw [if_neg c8] at H
     exact absurd H (by simp)
   rw [if_pos c8] at H
   have LMc8 := zA c8
   clear c8
   obtain ⟨y103, hy103⟩ : ∃ y_ : List Int, y_ = (x7_1 ++ [(zab l0 x12_1).f3]) := ⟨_, rfl⟩
   rw [← hy103] at H; try with_reducible replace H := zbs H
   have Ny103 := zA hy103
   clear hy103
   have H' := zA H
   clear H
   obtain ⟨p101, q101⟩ := zpq x12_1 l0.length
   obtain ⟨ad101, e101, hx101_0, hx101_1, hx101_2, hx101_3⟩ := znn HR0.out x12_1 (zoe p101) (zoe q101)
   cases e101
   replace hx101_0 := zkep HB.out hx101_0
   replace hx101_1 := zkep HB.out hx101_1
   replace hx101_2 := zkep HB.out hx101_2
   replace hx101_3 := zkep HB.out hx101_3
   go_wp2_with (first | ((with_reducible refine zgd 9 ?_); refine zbx #[.string (⟨#[]⟩ : ByteArray), .int .i64 0, .int .i64 0, .int .i64 0] 62 ?_; intro gb102 hg w9 hbox hb; have zs := zpair zq2 hb; replace HO_7 := zA (zRb (zq3 HO_7) hb); replace HB := zA (zs.1); have BK102 := zA (hbox); have GW102 := zA (zge hg zs.2); have GE102 := GW102; clear zs hb hbox hg; obtain ⟨hcz10_0, hcz10_1, hcz10_2, hcz10_3, hfz10_0, hfz10_1, hfz10_2, hfz10_3⟩ := zd4 BK102) | ((with_reducible refine zez (b := .append) (xs := #[.tmp 36, .tmp 39]) rfl ?_); at_builtin; refine Kd.R_append (Kd.int .i64) (w0 := w) w.heap.size rfl (.tmp 36) (.tmp 39) 24 3 (.int .i64 0) 8 rfl Tryz.underlying24 zl5 rfl (by decide) (by omega) u7 x7_1 ((zab l0 x12_1).f3) [.int .i64 ((zab l0 x12_1).f3)] (fun _ => True) (fun _ => False) rfl (by first | (go_simp; done) | (go_simp; rfl)) ?aP (fun _ hk => hk.elim) ?aF ?aO ?aB ?aS ?aL ?_; (case aP => exact rfl); (case aB => exact (zq1 GE102)); (case aF => exact (fun _ _ => trivial)); (case aO => exact (zq25 HO_7 BK102)); (case aS => exact (zaf (zq1 GE102))); (case aL => have := LMc8.out; omega); intro v104 w11 ho hb hg hat; rw [← Ny103.out] at ho; replace BK102 := zA (zgq (g := gb102) (o := .cells #[.string ((zab l0 x12_1).f0), .int .i64 ((zab l0 x12_1).f1), .int .i64 ((zab l0 x12_1).f2), .int .i64 ((zab l0 x12_1).f3)] 62 (0, 0)) (zq17 BK102) hg (Kd.R_ne HO_7.out BK102.out (by decide))); replace HB := zA (hb); have HO105 := zA (ho); clear HO_7; clear ho hb hg hat))
   go_roundg k1
   case measure => have := HK1.out; omega
   case rel => exact ⟨(y103), (wrap64 (x12_1 + 1)), zq5, H', ⟨zq31 HK1⟩, ⟨zq3 HO105⟩, ⟨zq1 GE102⟩⟩
 rw [if_neg c7] at H
 obtain ⟨c7b0, c7b1⟩ := zbq c7
 have HC12 := zA H
 clear H
 obtain ⟨p101, q101⟩ := zpq x12_1 l0.length
 obtain ⟨ad101, e101, hx101_0, hx101_1, hx101_2, hx101_3⟩ := znn HR0.out x12_1 (zoe p101) (zoe q101)
 cases e101
 replace hx101_0 := zkep HB.out hx101_0
 replace hx101_1 := zkep HB.out hx101_1
 replace hx101_2 := zkep HB.out hx101_2
 replace hx101_3 := zkep HB.out hx101_3
 go_upto_region 8 with (first | ((with_reducible refine zgd 9 ?_); refine zbx #[.string (⟨#[]⟩ : ByteArray), .int .i64 0, .int .i64 0, .int .i64 0] 62 ?_; intro gb102 hg w13 hbox hb; have zs := zpair zq2 hb; replace HO_7 := zA (zRb (zq3 HO_7) hb); replace HB := zA (zs.1); have BK102 := zA (hbox); have GW102 := zA (zge hg zs.2); have GE102 := GW102; clear zs hb hbox hg; obtain ⟨hcz14_0, hcz14_1, hcz14_2, hcz14_3, hfz14_0, hfz14_1, hfz14_2, hfz14_3⟩ := zd4 BK102))
 (try simp only [Act.put, List.setIfInBounds_toArray, List.set_cons_zero, List.set_cons_succ])
 go_cut [41] (fun v41 wc => ∃ (kq : Nat) (x41_11 : Bool), v41 = .bool x41_11 ∧ Aside0 (zcw kq a1 a2 x7_1 l0 (l0.length : Int) x12_1 x41_11 ((zab l0 x12_1).f0) ((zab l0 x12_1).f1) ((zab l0 x12_1).f2) ((zab l0 x12_1).f3) = some r) ∧ Aside0 (kq ≤ k1) ∧ Aside0 (Kd.R (Kd.int .i64) 3 wc w.heap.size (fun _ => True) u7 x7_1) ∧ Aside0 (wc.heap[gb102]? = some (.cells #[.string ((zab l0 x12_1).f0), .int .i64 ((zab l0 x12_1).f1), .int .i64 ((zab l0 x12_1).f2), .int .i64 ((zab l0 x12_1).f3)] 62 (0, 0))) ∧ Aside0 (Below w.heap.size w wc))
 case first =>
   have H := HC12.out
   clear HC12
   by_cases c15 : ((zab l0 x12_1).f0).toList = ([105, 110] : List UInt8)
   rotate_left
   · rw [if_neg c15] at H
     obtain ⟨c15b0, c15b1⟩ := zbq c15
     (first | rw [c15b0] | (simp only [zic, zj6]; rw [c15b0]) | skip)
     have H' := zA H
     clear H
     obtain ⟨hcz17_0, hcz17_1, hcz17_2, hcz17_3⟩ := zc4 w13 (.string (⟨#[]⟩ : ByteArray)) (.int .i64 0) (.int .i64 0) (.int .i64 0) BK102.out
     obtain ⟨hfz17_0, hfz17_1, hfz17_2, hfz17_3⟩ := zf4 BK102.out
     go_wp2
     go_meet
     case rel => exact ⟨_, (false), zq5, H', ⟨zq36 HK1⟩, ⟨zq25 HO_7 BK102⟩, ⟨zq17 BK102⟩, ⟨zq1 GE102⟩⟩
   rw [if_pos c15] at H
   obtain ⟨c15b0, c15b1⟩ := zbe c15
   clear c15
   (first | rw [c15b0] | (simp only [zic, zj6]; rw [c15b0]) | skip)
   have H' := zA H
   clear H
   obtain ⟨hcz16_0, hcz16_1, hcz16_2, hcz16_3⟩ := zc4 w13 (.string (⟨#[]⟩ : ByteArray)) (.int .i64 0) (.int .i64 0) (.int .i64 0) BK102.out
   obtain ⟨hfz16_0, hfz16_1, hfz16_2, hfz16_3⟩ := zf4 BK102.out
   go_wp2
   go_meet
   case rel => exact ⟨_, ((((zab l0 x12_1).f3) == 0)), zq5, H', ⟨zq36 HK1⟩, ⟨zq25 HO_7 BK102⟩, ⟨zq17 BK102⟩, ⟨zq1 GE102⟩⟩
 clear HC12
 try clear c4
 try clear c5
 try clear c6
 try clear c7
 try clear c7b0
 try clear c7b1
 try clear c8
 try clear c15
 try clear c15b0
 try clear c15b1
 try clear hcz10_0
 try clear hcz10_1
 try clear hcz10_2
 try clear hcz10_3
 try clear hcz14_0
 try clear hcz14_1
 try clear hcz14_2
 try clear hcz14_3
 try clear hcz16_0
 try clear hcz16_1
 try clear hcz16_2
 try clear hcz16_3
 try clear hcz17_0
 try clear hcz17_1
 try clear hcz17_2
 try clear hcz17_3
 try clear hfz10_0
 try clear hfz10_1
 try clear hfz10_2
 try clear hfz10_3
 try clear hfz14_0
 try clear hfz14_1
 try clear hfz14_2
 try clear hfz14_3
 try clear hfz16_0
 try clear hfz16_1
 try clear hfz16_2
 try clear hfz16_3
 try clear hfz17_0
 try clear hfz17_1
 try clear hfz17_2
 try clear hfz17_3
 try clear hx101_0
 try clear hx101_1
 try clear hx101_2
 try clear hx101_3
 try clear p101
 try clear q101
 obtain ⟨kq, x41_11, rfl, HA, HJ11, HO_7, BK102, HB⟩ := hcut
 cases kq with
 | zero => exact absurd HA.out (by simp [zcw])
 | succ kj11 =>
 have H := HA.out
 clear HA
 simp only [zcw] at H
 by_cases c18 : x41_11 = true
 · subst c18
   replace H := zih H
   by_cases c19 : x7_1.length < 17592186044416
   rotate_left
   · rw [if_neg c19] at H
     exact absurd H (by simp)
   rw [if_pos c19] at H
   have LMc19 := zA c19
   clear c19
   obtain ⟨y106, hy106⟩ : ∃ y_ : List Int, y_ = (x7_1 ++ [a1]) := ⟨_, rfl⟩
   rw [← hy106] at H; try with_reducible replace H := zbs H
   have Ny106 := zA hy106
   clear hy106
   have H' := zA H
   clear H
   go_wp2_with (first | ((with_reducible refine zez (b := .append) (xs := #[.tmp 50, .tmp 52]) rfl ?_); at_builtin; refine Kd.R_append (Kd.int .i64) (w0 := w) w.heap.size rfl (.tmp 50) (.tmp 52) 24 3 (.int .i64 0) 8 rfl Tryz.underlying24 zl5 rfl (by decide) (by omega) u7 x7_1 a1 [.int .i64 a1] (fun _ => True) (fun _ => False) rfl rfl ?aP (fun _ hk => hk.elim) ?aF ?aO ?aB ?aS ?aL ?_; (case aP => exact rfl); (case aB => exact (zq1 GE102)); (case aF => exact (fun _ _ => trivial)); (case aO => exact (zq3 HO_7)); (case aS => exact (zaf (zq1 GE102))); (case aL => have := LMc19.out; omega); intro v107 w20 ho hb hg hat; rw [← Ny106.out] at ho; replace BK102 := zA (zgq (g := gb102) (o := .cells #[.string ((zab l0 x12_1).f0), .int .i64 ((zab l0 x12_1).f1), .int .i64 ((zab l0 x12_1).f2), .int .i64 ((zab l0 x12_1).f3)] 62 (0, 0)) (zq6 BK102) hg (Kd.R_ne HO_7.out BK102.out (by decide))); replace HB := zA (hb); have HO108 := zA (ho); clear HO_7; clear ho hb hg hat))
   go_roundg kj11
   case measure => have := HK1.out; have := HJ11.out; omega
   case rel => exact ⟨(y106), (wrap64 (x12_1 + 1)), zq5, H', ⟨zq39 HK1 HJ11⟩, ⟨zq3 HO108⟩, ⟨zq1 GE102⟩⟩
 replace c18 := zbf c18
 subst c18
 replace H := zif H
 by_cases c21 : ((zab l0 x12_1).f0).toList = ([105, 110] : List UInt8)
 · rw [if_pos c21] at H
   obtain ⟨c21b0, c21b1⟩ := zbe c21
   clear c21
   by_cases c22 : x7_1.length < 17592186044416
   rotate_left
   · rw [if_neg c22] at H
     exact absurd H (by simp)
   rw [if_pos c22] at H
   have LMc22 := zA c22
   clear c22
   obtain ⟨y109, hy109⟩ : ∃ y_ : List Int, y_ = (x7_1 ++ [a2]) := ⟨_, rfl⟩
   rw [← hy109] at H; try with_reducible replace H := zbs H
   have Ny109 := zA hy109
   clear hy109
   have H' := zA H
   clear H
   obtain ⟨hcz23_0, hcz23_1, hcz23_2, hcz23_3⟩ := zc4 wc (.string ((zab l0 x12_1).f0)) (.int .i64 ((zab l0 x12_1).f1)) (.int .i64 ((zab l0 x12_1).f2)) (.int .i64 ((zab l0 x12_1).f3)) BK102.out
   obtain ⟨hfz23_0, hfz23_1, hfz23_2, hfz23_3⟩ := zf4 BK102.out
   go_wp2_with (first | ((with_reducible refine zez (b := .append) (xs := #[.tmp 58, .tmp 60]) rfl ?_); at_builtin; refine Kd.R_append (Kd.int .i64) (w0 := w) w.heap.size rfl (.tmp 58) (.tmp 60) 24 3 (.int .i64 0) 8 rfl Tryz.underlying24 zl5 rfl (by decide) (by omega) u7 x7_1 a2 [.int .i64 a2] (fun _ => True) (fun _ => False) rfl rfl ?aP (fun _ hk => hk.elim) ?aF ?aO ?aB ?aS ?aL ?_; (case aP => exact rfl); (case aB => exact (zq1 GE102)); (case aF => exact (fun _ _ => trivial)); (case aO => exact (zq3 HO_7)); (case aS => exact (zaf (zq1 GE102))); (case aL => have := LMc22.out; omega); intro v110 w24 ho hb hg hat; rw [← Ny109.out] at ho; replace BK102 := zA (zgq (g := gb102) (o := .cells #[.string ((zab l0 x12_1).f0), .int .i64 ((zab l0 x12_1).f1), .int .i64 ((zab l0 x12_1).f2), .int .i64 ((zab l0 x12_1).f3)] 62 (0, 0)) (zq6 BK102) hg (Kd.R_ne HO_7.out BK102.out (by decide))); replace HB := zA (hb); have HO111 := zA (ho); clear HO_7; clear ho hb hg hat))
   go_roundg kj11
   case measure => have := HK1.out; have := HJ11.out; omega
   case rel => exact ⟨(y109), (wrap64 (x12_1 + 1)), zq5, H', ⟨zq39 HK1 HJ11⟩, ⟨zq3 HO111⟩, ⟨zq1 GE102⟩⟩
 rw [if_neg c21] at H
 obtain ⟨c21b0, c21b1⟩ := zbq c21
 replace H := zob H
 obtain ⟨t112, A250, H⟩ := H
 have A25 := zA A250
 clear A250
 by_cases c26 : t112 = true
 · subst c26
   replace H := zih H
   revert H
   refine zin fun c27 H => ?_
   revert H
   refine zin fun c28 H => ?_
   replace H := zob H
   obtain ⟨t114, A290, H⟩ := H
   have A29 := zA A290
   clear A290
   by_cases c30 : x7_1.length < 17592186044416
   rotate_left
   · rw [if_neg c30] at H
     exact absurd H (by simp)
   rw [if_pos c30] at H
   have LMc30 := zA c30
   clear c30
   obtain ⟨y115, hy115⟩ : ∃ y_ : List Int, y_ = (x7_1 ++ [t114]) := ⟨_, rfl⟩
   rw [← hy115] at H; try with_reducible replace H := zbs H
   have Ny115 := zA hy115
   clear hy115
   have H' := zA H
   clear H
   obtain ⟨hcz31_0, hcz31_1, hcz31_2, hcz31_3⟩ := zc4 wc (.string ((zab l0 x12_1).f0)) (.int .i64 ((zab l0 x12_1).f1)) (.int .i64 ((zab l0 x12_1).f2)) (.int .i64 ((zab l0 x12_1).f3)) BK102.out
   obtain ⟨hfz31_0, hfz31_1, hfz31_2, hfz31_3⟩ := zf4 BK102.out
   try go_wp2_with (first | ((with_reducible refine zgc 153 ?_); refine zcl 65 Tryz.func153 (zcv ((zab l0 x12_1).f0) true _ A25.out) ?_; rintro e w' ⟨rfl, ⟨nd, rfl⟩⟩; refine ⟨_, rfl, ?_⟩))
   (try (rw [zuy wc]; generalize hq_ : World.drewN wc _ = wc; have n0_ : Aside0 (Kd.R (Kd.int .i64) 3 wc w.heap.size (fun _ => True) u7 x7_1) := ⟨by rw [← hq_]; exact (zq3 HO_7)⟩; have n1_ : Aside0 (wc.heap[gb102]? = some (.cells #[.string ((zab l0 x12_1).f0), .int .i64 ((zab l0 x12_1).f1), .int .i64 ((zab l0 x12_1).f2), .int .i64 ((zab l0 x12_1).f3)] 62 (0, 0))) := ⟨by rw [← hq_]; exact (zq6 BK102)⟩; have n2_ : Aside0 (Below w.heap.size w wc) := ⟨by rw [← hq_]; exact (zq1 GE102)⟩; clear HO_7 BK102 HB hq_; have HO_7 := n0_; have BK102 := n1_; have HB := n2_; clear n0_ n1_ n2_))
   replace HO_7 := zA (zRd HO_7.out)
   replace BK102 := zA (zkd BK102.out)
   replace HB := zA (zbd HB.out)
   obtain ⟨Ao33, co33, eo33⟩ := Kd.R_slice HO_7.out
   (first | subst eo33 | (injection eo33 with f1_ f2_ f3_; have f4_ := f1_.symm; have f5_ := f3_.symm; clear f1_ f2_ f3_; subst f4_; subst f5_))
   have p113 : 0 ≤ (((zab l0 x12_1).f1) : Int) := zde zq14
   have q113 : ((zab l0 x12_1).f1) < (x7_1.length : Int) := zde zq14
   obtain ⟨ad113, e113, hx113_0⟩ := Kd.at_int (zRr HO_7.out).2.2 ((zab l0 x12_1).f1) p113 q113
   cases e113
   replace p113 := eq_true p113
   replace q113 := eq_true q113
   refine zne (n := 12) (S := fun w' => w'.cell? ⟨gb102, 0, none⟩ = some (.string ((zab l0 x12_1).f0)) ∧ w'.cell? ⟨gb102, 1, none⟩ = some (.int .i64 ((zab l0 x12_1).f1)) ∧ w'.cell? ⟨gb102, 2, none⟩ = some (.int .i64 ((zab l0 x12_1).f2)) ∧ w'.cell? ⟨gb102, 3, none⟩ = some (.int .i64 ((zab l0 x12_1).f3)) ∧ w'.cell? (ad113.add (((zab l0 x12_1).f1)).toNat) = some (.int .i64 (rd x7_1 ((zab l0 x12_1).f1)))) (ds := [9, 10]) #[false, false, false, false, false, false, false, false, false, false, false, false] zq23 rfl rfl ⟨(zae BK102.out 0).trans rfl, (zae BK102.out 1).trans rfl, (zae BK102.out 2).trans rfl, (zae BK102.out 3).trans rfl, hx113_0⟩ (fun hHeld => ?_); refine zhk zp7 zpl (fun HT_ HW_ => ?_)
   generalize wc.drew = w32 at HO_7 BK102 HB hx113_0 hHeld ⊢
   refine zpu 0 66 HT_ ?_
   refine zpu 1 67 HT_ ?_
   refine zpu 3 69 HT_ ?_
   refine zpu 4 70 HT_ ?_
   refine ztu 2 68 HT_ HW_ hHeld ?_
   refine ztu 5 71 HT_ HW_ hHeld ?_
   refine zpu 6 72 HT_ ?_
   refine ztu 7 73 HT_ HW_ hHeld ?_
   refine one_ (i := 8) (N := some 74) #[true, true, true, true, true, true, true, true, true, false, false, false] rfl rfl (zhj HT_.out zq23) (by decide) (fun K hK => ?_)
   refine zgo Tryz.func157 (zal ((zab l0 x12_1).f0) (rd x7_1 ((zab l0 x12_1).f1)) 0 t114 _ A29.out) ?_
   rintro e w' ⟨rfl, ⟨nd, rfl⟩⟩
   refine ⟨_, rfl, ?_⟩
   refine hK.out _ _ ⟨(zae BK102.out 0).trans rfl, (zae BK102.out 1).trans rfl, (zae BK102.out 2).trans rfl, (zae BK102.out 3).trans rfl, hHeld.2.2.2.2⟩ (fun hHeld => ?_)
   clear hK K
   refine znm 74 ?_
   refine zzh (i := 9) (N := some 75) #[true, true, true, true, true, true, true, true, true, true, false, false] rfl rfl (zhj HT_.out zq23) (by decide) (fun K hK => ?_)
   refine zyy (w1 := ?_) (v := ?_) (by rfl) rfl ?_ ?_
   rotate_left 2
   · go_simp
     constructor
     · rfl
     · rfl
   refine hK.out _ _ ?_
   clear hK K
   refine znm 75 ?_
   refine zzh (i := 10) (N := some 76) #[true, true, true, true, true, true, true, true, true, true, true, false] rfl rfl (zhj HT_.out zq23) (by decide) (fun K hK => ?_)
   refine Kd.R_append_step (Kd.int .i64) (w0 := w) w.heap.size (by rfl) (.tmp 66) (.tmp 75) 24 3 (.int .i64 0) 8 rfl Tryz.underlying24 zl5 rfl (by decide) (by omega) (.slice (some ad113) x7_1.length co33) x7_1 t114 [.int .i64 t114] (fun _ => True) (fun _ => False) rfl rfl ?aP (fun _ hk => hk.elim) ?aF ?aO ?aB ?aS ?aL ?_
   (case aP => exact rfl)
   (case aB => exact (zq1 GE102))
   (case aF => exact (fun _ _ => trivial))
   (case aO => exact (zq3 HO_7))
   (case aS => exact (zaf (zq1 GE102)))
   (case aL => have := LMc30.out; omega)
   intro v116 w34 ho hb hg hat
   rw [← Ny115.out] at ho
   replace BK102 := zA (zgq (g := gb102) (o := .cells #[.string ((zab l0 x12_1).f0), .int .i64 ((zab l0 x12_1).f1), .int .i64 ((zab l0 x12_1).f2), .int .i64 ((zab l0 x12_1).f3)] 62 (0, 0)) (zq6 BK102) hg (Kd.R_ne HO_7.out BK102.out (by decide)))
   replace HB := zA (hb)
   have HO117 := zA (ho)
   clear HO_7
   clear ho hb hg hat
   refine hK.out _ _ ?_
   clear hK K
   refine znm 76 ?_
   refine zpu 11 7 HT_ ?_
   refine zrb (zj4 HT_.out zq23) ?_
   try go_wp2
   go_roundg kj11
   case measure => have := HK1.out; have := HJ11.out; omega
   case rel => exact ⟨(y115), (wrap64 (x12_1 + 1)), zq5, H', ⟨zq39 HK1 HJ11⟩, ⟨zq3 HO117⟩, ⟨zq1 GE102⟩⟩
 replace c26 := zbf c26
 subst c26
 replace H := zif H
 revert H
 refine zin fun c35 H => ?_
 revert H
 refine zin fun c36 H => ?_
 revert H
 refine zin fun c37 H => ?_
 revert H
 refine zin fun c38 H => ?_
 replace H := zob H
 obtain ⟨t120, A390, H⟩ := H
 have A39 := zA A390
 clear A390
 by_cases c40 : x7_1.length < 17592186044416
 rotate_left
 · rw [if_neg c40] at H
   exact absurd H (by simp)
 rw [if_pos c40] at H
 have LMc40 := zA c40
 clear c40
 obtain ⟨y121, hy121⟩ : ∃ y_ : List Int, y_ = (x7_1 ++ [t120]) := ⟨_, rfl⟩
 rw [← hy121] at H; try with_reducible replace H := zbs H
 have Ny121 := zA hy121
 clear hy121
 have H' := zA H
 clear H
 obtain ⟨hcz41_0, hcz41_1, hcz41_2, hcz41_3⟩ := zc4 wc (.string ((zab l0 x12_1).f0)) (.int .i64 ((zab l0 x12_1).f1)) (.int .i64 ((zab l0 x12_1).f2)) (.int .i64 ((zab l0 x12_1).f3)) BK102.out
 obtain ⟨hfz41_0, hfz41_1, hfz41_2, hfz41_3⟩ := zf4 BK102.out
 try go_wp2_with (first | ((with_reducible refine zgc 153 ?_); refine zcl 65 Tryz.func153 (zcv ((zab l0 x12_1).f0) false _ A25.out) ?_; rintro e w' ⟨rfl, ⟨nd, rfl⟩⟩; refine ⟨_, rfl, ?_⟩))
 (try (rw [zuy wc]; generalize hq_ : World.drewN wc _ = wc; have n0_ : Aside0 (Kd.R (Kd.int .i64) 3 wc w.heap.size (fun _ => True) u7 x7_1) := ⟨by rw [← hq_]; exact (zq3 HO_7)⟩; have n1_ : Aside0 (wc.heap[gb102]? = some (.cells #[.string ((zab l0 x12_1).f0), .int .i64 ((zab l0 x12_1).f1), .int .i64 ((zab l0 x12_1).f2), .int .i64 ((zab l0 x12_1).f3)] 62 (0, 0))) := ⟨by rw [← hq_]; exact (zq6 BK102)⟩; have n2_ : Aside0 (Below w.heap.size w wc) := ⟨by rw [← hq_]; exact (zq1 GE102)⟩; clear HO_7 BK102 HB hq_; have HO_7 := n0_; have BK102 := n1_; have HB := n2_; clear n0_ n1_ n2_))
 replace HO_7 := zA (zRd HO_7.out)
 replace BK102 := zA (zkd BK102.out)
 replace HB := zA (zbd HB.out)
 obtain ⟨Ao43, co43, eo43⟩ := Kd.R_slice HO_7.out
 (first | subst eo43 | (injection eo43 with f1_ f2_ f3_; have f4_ := f1_.symm; have f5_ := f3_.symm; clear f1_ f2_ f3_; subst f4_; subst f5_))
 have p118 : 0 ≤ (((zab l0 x12_1).f1) : Int) := zde zq14
 have q118 : ((zab l0 x12_1).f1) < (x7_1.length : Int) := zde zq14
 obtain ⟨ad118, e118, hx118_0⟩ := Kd.at_int (zRr HO_7.out).2.2 ((zab l0 x12_1).f1) p118 q118
 cases e118
 replace p118 := eq_true p118
 replace q118 := eq_true q118
 have p119 : 0 ≤ (((zab l0 x12_1).f2) : Int) := zde zq14
 have q119 : ((zab l0 x12_1).f2) < (x7_1.length : Int) := zde zq14
 obtain ⟨ad119, e119, hx119_0⟩ := Kd.at_int (zRr HO_7.out).2.2 ((zab l0 x12_1).f2) p119 q119
 obtain rfl : ad118 = ad119 := (by injection e119)
 replace p119 := eq_true p119
 replace q119 := eq_true q119
 refine zne (n := 17) (S := fun w' => w'.cell? ⟨gb102, 0, none⟩ = some (.string ((zab l0 x12_1).f0)) ∧ w'.cell? ⟨gb102, 1, none⟩ = some (.int .i64 ((zab l0 x12_1).f1)) ∧ w'.cell? ⟨gb102, 2, none⟩ = some (.int .i64 ((zab l0 x12_1).f2)) ∧ w'.cell? ⟨gb102, 3, none⟩ = some (.int .i64 ((zab l0 x12_1).f3)) ∧ w'.cell? (ad118.add (((zab l0 x12_1).f1)).toNat) = some (.int .i64 (rd x7_1 ((zab l0 x12_1).f1))) ∧ w'.cell? (ad118.add (((zab l0 x12_1).f2)).toNat) = some (.int .i64 (rd x7_1 ((zab l0 x12_1).f2)))) (ds := [14, 15]) #[false, false, false, false, false, false, false, false, false, false, false, false, false, false, false, false, false] zq23 rfl rfl ⟨(zae BK102.out 0).trans rfl, (zae BK102.out 1).trans rfl, (zae BK102.out 2).trans rfl, (zae BK102.out 3).trans rfl, hx118_0, hx119_0⟩ (fun hHeld => ?_); refine zhk zqu zp6 (fun HT_ HW_ => ?_)
 generalize wc.drew = w42 at HO_7 BK102 HB hx118_0 hx119_0 hHeld ⊢
 refine zpu 0 16 HT_ ?_
 refine zpu 1 17 HT_ ?_
 refine zpu 3 19 HT_ ?_
 refine zpu 4 20 HT_ ?_
 refine zpu 8 24 HT_ ?_
 refine zpu 9 25 HT_ ?_
 refine ztu 2 18 HT_ HW_ hHeld ?_
 refine ztu 5 21 HT_ HW_ hHeld ?_
 refine zpu 6 22 HT_ ?_
 refine ztu 7 23 HT_ HW_ hHeld ?_
 refine ztu 10 26 HT_ HW_ hHeld ?_
 refine zpu 11 27 HT_ ?_
 refine ztu 12 28 HT_ HW_ hHeld ?_
 refine one_ (i := 13) (N := some 29) #[true, true, true, true, true, true, true, true, true, true, true, true, true, true, false, false, false] rfl rfl (zhj HT_.out zq23) (by decide) (fun K hK => ?_)
 refine zgo Tryz.func157 (zal ((zab l0 x12_1).f0) (rd x7_1 ((zab l0 x12_1).f1)) (rd x7_1 ((zab l0 x12_1).f2)) t120 _ A39.out) ?_
 rintro e w' ⟨rfl, ⟨nd, rfl⟩⟩
 refine ⟨_, rfl, ?_⟩
 refine hK.out _ _ ⟨(zae BK102.out 0).trans rfl, (zae BK102.out 1).trans rfl, (zae BK102.out 2).trans rfl, (zae BK102.out 3).trans rfl, hHeld.2.2.2.2.1, hHeld.2.2.2.2.2⟩ (fun hHeld => ?_)
 clear hK K
 refine znm 29 ?_
 refine zzh (i := 14) (N := some 30) #[true, true, true, true, true, true, true, true, true, true, true, true, true, true, true, false, false] rfl rfl (zhj HT_.out zq23) (by decide) (fun K hK => ?_)
 refine zyy (w1 := ?_) (v := ?_) (by rfl) rfl ?_ ?_
 rotate_left 2
 · go_simp
   constructor
   · rfl
   · rfl
 refine hK.out _ _ ?_
 clear hK K
 refine znm 30 ?_
 refine zzh (i := 15) (N := some 31) #[true, true, true, true, true, true, true, true, true, true, true, true, true, true, true, true, false] rfl rfl (zhj HT_.out zq23) (by decide) (fun K hK => ?_)
 refine Kd.R_append_step (Kd.int .i64) (w0 := w) w.heap.size (by rfl) (.tmp 16) (.tmp 30) 24 3 (.int .i64 0) 8 rfl Tryz.underlying24 zl5 rfl (by decide) (by omega) (.slice (some ad118) x7_1.length co43) x7_1 t120 [.int .i64 t120] (fun _ => True) (fun _ => False) rfl rfl ?aP (fun _ hk => hk.elim) ?aF ?aO ?aB ?aS ?aL ?_
 (case aP => exact rfl)
 (case aB => exact (zq1 GE102))
 (case aF => exact (fun _ _ => trivial))
 (case aO => exact (zq3 HO_7))
 (case aS => exact (zaf (zq1 GE102)))
 (case aL => have := LMc40.out; omega)
 intro v122 w44 ho hb hg hat
 rw [← Ny121.out] at ho
 replace BK102 := zA (zgq (g := gb102) (o := .cells #[.string ((zab l0 x12_1).f0), .int .i64 ((zab l0 x12_1).f1), .int .i64 ((zab l0 x12_1).f2), .int .i64 ((zab l0 x12_1).f3)] 62 (0, 0)) (zq6 BK102) hg (Kd.R_ne HO_7.out BK102.out (by decide)))
 replace HB := zA (hb)
 have HO123 := zA (ho)
 clear HO_7
 clear ho hb hg hat
 refine hK.out _ _ ?_
 clear hK K
 refine znm 31 ?_
 refine zpu 16 7 HT_ ?_
 refine zrb (zj4 HT_.out zq23) ?_
 try go_wp2
 go_roundg kj11
 case measure => have := HK1.out; have := HJ11.out; omega
 case rel => exact ⟨(y121), (wrap64 (x12_1 + 1)), zq5, H', ⟨zq39 HK1 HJ11⟩, ⟨zq3 HO123⟩, ⟨zq1 GE102⟩⟩
end Go.Proofs.YtnaafcleafbejaaGreat.Q
end
section
namespace Go.Proofs.YtnaafcleafbejaaGreat.Q
open Go.RowKit Go.Proofs.YtnaafcleafbejaaGreatW.PrintWords Go.Proofs.YtnaafcleafbejaaGreatW.PrintLast Go.Proofs.YtnaafcleafbejaaGreatW.PrintMore
set_option maxHeartbeats 8000000
set_option maxRecDepth 100000
attribute [local go_sem] zbc zbg zb8 zb9 za1 za2 zbi zbj
set_option linter.unusedVariables false
set_option linter.unusedSimpArgs false
def zhl (k : Nat) (l0 : List (S62)) (a1 : Int) (a2 : Int) : Option (Int) := (zfw k l0 a1 a2).bind fun t101 => (if 0 ≤ (wrap64 ((l0.length : Int) - 1)) then (if (wrap64 ((l0.length : Int) - 1)) < (t101.length : Int) then (some (rd t101 (wrap64 ((l0.length : Int) - 1)))) else (none)) else (none))
theorem zi7 : ∀ a0 a1 a2 k, LeO (zhl k a0 a1 a2) (zhl (k + 1) a0 a1 a2) := by
 intro a0 a1 a2 k
 unfold zhl
 exact zm1 zqt
theorem zjy (k : Nat) (A0 : Option Addr) (c0 : Nat) (l0 : List (S62)) (a1 : Int) (a2 : Int) (r : Int) (w : World) (hr0 : Kd.C k62 w A0 l0.length l0) (hc0 : l0.length ≤ c0) (h : zhl k l0 a1 a2 = some r) :
   Calls Tryz.prog 86 #[.slice A0 l0.length c0, .int .i64 a1, .int .i64 a2] w fun e w' => e = .returned (.int .i64 r) ∧ Below w.heap.size w w' := by
 have HR0 := zA hr0
 have HC0 := zA hc0
 clear hr0 hc0
 have HB := zA (Below.refl w.heap.size w)
 have H := h
 unfold zhl at H
 clear h
 replace H := zob H
 obtain ⟨t101, A40, H⟩ := H
 have A4 := zA A40
 clear A40
 obtain ⟨ji5, hji5⟩ : ∃ j_ : Int, (wrap64 ((l0.length : Int) - 1)) = j_ := ⟨_, rfl⟩
 replace H : (if 0 ≤ (ji5) then (if (ji5) < (t101.length : Int) then (some (rd t101 (ji5))) else (none)) else (none)) = some r := by first | (rw [hji5] at H; exact H) | (simp only [hji5] at H ⊢; exact H)
 (try rw [hji5] at A4)
 have hji5w : (IntKind.i64.wrap ((l0.length : Int) - 1)) = ji5 := (zic _).trans hji5
 revert H
 refine zin fun c6 H => ?_
 revert H
 refine zin fun c7 H => ?_
 obtain rfl := zsi H
 go_enter Tryz.func86, Tryz.ntmps86
 go_wp2_with (first | ((with_reducible refine zgc 121 ?_); refine zca 10 Tryz.func121 #[.slice A0 l0.length c0, .int .i64 a1, .int .i64 a2] (zp8 k _ _ l0 a1 a2 t101 _ (zq37 HR0) HC0.out A4.out) ?_; rintro e w8 ⟨v102, rfl, ho0, hb⟩; refine ⟨_, rfl, ?_⟩; have HO103 := zA (Kd.R_lower ho0 (zaf zq2)); replace HB := zA (zaa zq2 hb); (try clear hb); (try clear ho0); obtain ⟨Ao9, co9, eo9⟩ := Kd.R_slice HO103.out; subst eo9; have p104 : 0 ≤ ((ji5) : Int) := zde zq14; have q104 : (ji5) < (t101.length : Int) := zde zq14; obtain ⟨ad104, e104, hx104_0⟩ := Kd.at_int (zRr HO103.out).2.2 (ji5) p104 q104; cases e104; replace p104 := eq_true p104; replace q104 := eq_true q104))
 go_ret
 exact ⟨zq57, zq2⟩
end Go.Proofs.YtnaafcleafbejaaGreat.Q
end
section
namespace Go.Proofs.YtnaafcleafbejaaGreat.Q
open Go.RowKit Go.Proofs.YtnaafcleafbejaaGreatW.PrintWords Go.Proofs.YtnaafcleafbejaaGreatW.PrintLast Go.Proofs.YtnaafcleafbejaaGreatW.PrintMore
set_option maxHeartbeats 8000000
set_option maxRecDepth 100000
attribute [local go_sem] zbc zbg zb8 zb9 za1 za2 zbi zbj
set_option linter.unusedVariables false
set_option linter.unusedSimpArgs false
mutual
def zbu : Nat → List (S62) → List (S69) → Int → Int → Option (Int × Int × Bool)
 | 0, _, _, _, _ => none
 | k + 1, x0, x1, x2, x9 => if x9 ≤ 63 then (za6 k x0 x1 x2 x9 0) else (some (0, 0, false))
def za6 : Nat → List (S62) → List (S69) → Int → Int → Int → Option (Int × Int × Bool)
 | 0, _, _, _, _, _ => none
 | k + 1, x0, x1, x2, x9, x10 => if x10 ≤ 63 then ((zi6 x9 x10).bind fun t101 => ((zg8 k x1 t101).bind fun t104 => (if 0 ≤ x2 then (if x2 < (t104.length : Int) then ((zhl k x0 x9 x10).bind fun t108 => (if (rd t104 x2) = t108 then (za6 k x0 x1 x2 x9 (wrap64 (x10 + 1))) else (some (x9, x10, true)))) else (none)) else (none)))) else (zbu k x0 x1 x2 (wrap64 (x9 + 1)))
end
def zdu (k : Nat) (l0 : List (S62)) (l1 : List (S69)) (a2 : Int) : Option (Int × Int × Bool) := zbu k l0 l1 a2 0
theorem zjm : ∀ k, (∀ y0 y1 y2 y3, LeO (zbu k y0 y1 y2 y3) (zbu (k + 1) y0 y1 y2 y3)) ∧ (∀ y0 y1 y2 y3 y4, LeO (za6 k y0 y1 y2 y3 y4) (za6 (k + 1) y0 y1 y2 y3 y4))
 | 0 => ⟨fun _ _ _ _ r h => by simp [zbu] at h, fun _ _ _ _ _ r h => by simp [za6] at h⟩
 | k + 1 => by
   obtain ⟨ih0, ih1⟩ := zjm k
   refine ⟨?_, ?_⟩
   · intro y0 y1 y2 y3
     unfold zbu
     exact zm4 ih0 ih1 ziq zi7
   · intro y0 y1 y2 y3 y4
     unfold za6
     exact zm4 ih0 ih1 ziq zi7
theorem zkh : ∀ a0 a1 a2 k, LeO (zdu k a0 a1 a2) (zdu (k + 1) a0 a1 a2) := by
 intro a0 a1 a2 k
 obtain ⟨ih0, ih1⟩ := zjm k
 unfold zdu
 exact zm4 ih0 ih1 ziq zi7
def spec_seDifference.T7 : Bool × List (List Nat × List Nat) := (true, [([], []), ([], []), ([], []), ([1, 2], [1, 2]), ([0, 3, 3], [0, 3]), ([], []), ([4, 5], [4, 5]), ([6], [6]), ([], []), ([], []), ([], []), ([8, 9, 10, 4], [8, 9, 10]), ([7, 11], [7, 11])])
def zpm : List Nat := [0, 0, 0, 6, 15, 0, 63, 127, 0, 0, 0, 1823, 4095]
theorem zki : rtab .any (zs3 Tryz.f87 7) = spec_seDifference.T7 := by kernel_rfl
theorem zjz : zis spec_seDifference.T7.2 zpm = true := by kernel_rfl
theorem zn8 (k : Nat) (A0 : Option Addr) (c0 : Nat) (l0 : List (S62)) (A1 : Option Addr) (c1 : Nat) (l1 : List (S69)) (a2 : Int) (r1 : Int) (r2 : Int) (r3 : Bool) (w : World) (hr0 : Kd.C k62 w A0 l0.length l0) (hc0 : l0.length ≤ c0) (hr1 : Kd.C k69 w A1 l1.length l1) (hc1 : l1.length ≤ c1) (h : zdu k l0 l1 a2 = some (r1, r2, r3)) :
   Calls Tryz.prog 87 #[.slice A0 l0.length c0, .slice A1 l1.length c1, .int .i64 a2] w fun e w' => e = .returned (.tuple #[.int .i64 r1, .int .i64 r2, .bool r3]) ∧ Below w.heap.size w w' := by
 have HR0 := zA hr0
 have HC0 := zA hc0
 clear hr0 hc0
 have HR1 := zA hr1
 have HC1 := zA hc1
 clear hr1 hc1
 have HB := zA (Below.refl w.heap.size w)
 have H := h
 unfold zdu at H
 clear h
 have H' := zA H
 clear H
 go_enter Tryz.func87, Tryz.ntmps87
 go_wp2
 go_loopg [9] k (fun kq v9 w' => ∃ (x9_1 : Int), v9 = .int .i64 x9_1 ∧ Aside0 (zbu kq l0 l1 a2 x9_1 = some (r1, r2, r3)) ∧ Aside0 (kq ≤ k) ∧ Aside0 (Below w.heap.size w w'))
 case atStart => exact ⟨(0), zq5, H', ⟨zlr _⟩, ⟨zq2⟩⟩
 clear H'
 try clear c1
 obtain ⟨x9_1, rfl, HA, HK1, HB⟩ := hrel
 cases gk with
 | zero => exact absurd HA.out (by simp [zbu])
 | succ k1 =>
 have H := HA.out
 clear HA
 simp only [zbu] at H
 revert H
 refine zit (fun c4 H => ?_) fun c4 H => ?_
 rotate_left
 · simp only [Option.some.injEq, Prod.mk.injEq] at H
   obtain ⟨rfl, rfl, rfl⟩ := H
   go_wp2
   go_ret3
   exact ⟨zq4, zq2⟩
 have H' := zA H
 clear H
 go_wp2
 go_loopg [10] k1 (fun kq v10 w' => ∃ (x10_2 : Int), v10 = .int .i64 x10_2 ∧ Aside0 (za6 kq l0 l1 a2 x9_1 x10_2 = some (r1, r2, r3)) ∧ Aside0 (kq ≤ k1) ∧ Aside0 (Below w.heap.size w w'))
 case atStart => exact ⟨(0), zq5, H', ⟨zlr _⟩, ⟨zq2⟩⟩
 clear H'
 try clear c1
 try clear c4
 obtain ⟨x10_2, rfl, HA, HK2, HB⟩ := hrel
 cases gk with
 | zero => exact absurd HA.out (by simp [za6])
 | succ k2 =>
 have H := HA.out
 clear HA
 simp only [za6] at H
 revert H
 refine zit (fun c5 H => ?_) fun c5 H => ?_
 rotate_left
 · have H' := zA H
   clear H
   go_wp2
   go_roundg k2
   case measure => have := HK1.out; have := HK2.out; omega
   case rel => exact ⟨(wrap64 (x9_1 + 1)), zq5, H', ⟨zq39 HK1 HK2⟩, ⟨zq2⟩⟩
 replace H := zob H
 obtain ⟨t101, A60, H⟩ := H
 have A6 := zA A60
 clear A60
 replace H := zob H
 obtain ⟨t104, A70, H⟩ := H
 have A7 := zA A70
 clear A70
 revert H
 refine zin fun c8 H => ?_
 revert H
 refine zin fun c9 H => ?_
 replace H := zob H
 obtain ⟨t108, A100, H⟩ := H
 have A10 := zA A100
 clear A100
 by_cases c11 : (rd t104 a2) = t108
 rotate_left
 · rw [if_neg c11] at H
   obtain ⟨c11b0, c11b1⟩ := zbq c11
   simp only [Option.some.injEq, Prod.mk.injEq] at H
   obtain ⟨rfl, rfl, rfl⟩ := H
   try go_wp2
   replace HB := zA (zbd HB.out)
   refine zne (n := 13) (S := fun w' => True) (ds := []) #[false, false, false, false, false, false, false, false, false, false, false, false, false] zq23 rfl rfl (trivial) (fun hHeld => ?_); refine zhk zki zjz (fun HT_ HW_ => ?_)
   generalize wr.drew = w18 at HB hHeld ⊢
   refine zpu 0 19 HT_ ?_
   refine zpu 1 20 HT_ ?_
   refine zpu 2 21 HT_ ?_
   refine zpu 5 24 HT_ ?_
   refine zpu 8 27 HT_ ?_
   refine zpu 9 28 HT_ ?_
   refine zpu 10 29 HT_ ?_
   refine one_ (i := 3) (N := some 22) #[true, true, true, true, false, true, false, false, true, true, true, false, false] rfl rfl (zhj HT_.out zq23) (by decide) (fun K hK => ?_)
   refine zgo Tryz.func85 (zii x9_1 x10_2 t101 _ A6.out) ?_
   rintro e w19 ⟨v102, rfl, ho0, hb⟩
   refine ⟨_, rfl, ?_⟩
   have HO103 := zA (Kd.R_lower ho0 (zaf zq2))
   replace HB := zA (zaa zq2 hb)
   (try clear hb)
   (try clear hb2)
   (try clear hk)
   (try clear hi)
   (try clear ho0)
   obtain ⟨Ao20, co20, eo20⟩ := Kd.R_slice HO103.out
   (first | subst eo20 | (injection eo20 with f1_ f2_ f3_; have f4_ := f1_.symm; have f5_ := f3_.symm; clear f1_ f2_ f3_; subst f4_; subst f5_))
   refine hK.out _ _ (trivial) (fun hHeld => ?_)
   clear hK K
   refine znm 22 ?_
   refine one_ (i := 4) (N := some 23) #[true, true, true, true, true, true, false, false, true, true, true, false, false] rfl rfl (zhj HT_.out zq23) (by decide) (fun K hK => ?_)
   refine zs2 Tryz.func84 zq23 rfl #[.slice A1 l1.length c1, .slice Ao20 t101.length co20] (by rfl) rfl rfl zq20 ?_
   with_reducible refine (zjb k2 _ _ l1 _ _ t101 t104 _ ?side1 ?side2 ?side3 ?side4 A7.out).mono ?_
   (case side1 => repeat (first | exact (zCb HR1.out HB.out) | (with_reducible first | refine zCa ?_ _ | refine zCn ?_ _ | refine zCd ?_)))
   (case side2 => exact HC1.out)
   (case side3 => repeat (first | exact (zRr HO103.out).2.2 | (with_reducible first | refine zCa ?_ _ | refine zCn ?_ _ | refine zCd ?_)))
   (case side4 => exact (zRr HO103.out).2.1)
   rintro e w21 ⟨v105, rfl, ho0, hb⟩
   refine ⟨_, rfl, ?_⟩
   have HO106 := zA (Kd.R_lower (Kd.R_new' ho0 (Kd.R_lt (zq3 HO103))) (zaf zq2))
   replace HO103 := zA (Kd.R_elder' (zq3 HO103) (Kd.R_base ho0) hb)
   replace HB := zA (zaa zq2 hb)
   (try clear hb)
   (try clear hb2)
   (try clear hk)
   (try clear hi)
   (try clear ho0)
   obtain ⟨Ao22, co22, eo22⟩ := Kd.R_slice HO106.out
   (first | subst eo22 | (injection eo22 with f1_ f2_ f3_; have f4_ := f1_.symm; have f5_ := f3_.symm; clear f1_ f2_ f3_; subst f4_; subst f5_))
   obtain ⟨p107, q107⟩ := zpq a2 t104.length
   obtain ⟨ad107, e107, hx107_0⟩ := Kd.at_int (zRr HO106.out).2.2 a2 (zoe p107) (zoe q107)
   cases e107
   refine hK.out _ _ (trivial) (fun hHeld => ?_)
   clear hK K
   refine znm 23 ?_
   refine ybu (S' := fun w' => w'.cell? (ad107.add (a2).toNat) = some (.int .i64 (rd t104 a2))) (fun _ s => (trivial)) (hx107_0) (fun hHeld => ?_)
   refine zpu 6 25 HT_ ?_
   refine take_ (i := 7) (N := some 26) (v := ?_) (a' := ?_) #[true, true, true, true, true, true, true, true, true, true, true, false, false] rfl rfl (zvx HT_.out HW_.out zq23) (fun _ _ _ h => h) (Or.inl ⟨by rfl, ?_⟩) hHeld ?_ ?_
   rotate_left
   · intro w' s0
     go_simp
     with_reducible rfl
   rotate_left
   · simp only [Act.put, List.setIfInBounds_toArray, List.set_cons_zero, List.set_cons_succ, zic, zj6]
     rfl
   refine one_ (i := 11) (N := some 30) #[true, true, true, true, true, true, true, true, true, true, true, true, false] rfl rfl (zhj HT_.out zq23) (by decide) (fun K hK => ?_)
   refine zs2 Tryz.func86 zq23 rfl #[.slice A0 l0.length c0, .int .i64 x9_1, .int .i64 x10_2] (by rfl) rfl rfl zq20 ?_
   with_reducible refine (zjy k2 _ _ l0 x9_1 x10_2 t108 _ ?side1 ?side2 A10.out).mono ?_
   (case side1 => repeat (first | exact (zCb HR0.out HB.out) | (with_reducible first | refine zCa ?_ _ | refine zCn ?_ _ | refine zCd ?_)))
   (case side2 => exact HC0.out)
   rintro e w23 ⟨rfl, hb⟩
   have HS0_ := (hb.cell (World.block_lt_of_cell? _ _ (hHeld))).trans (hHeld)
   refine ⟨_, rfl, ?_⟩
   replace HO103 := zA (zRb (zq3 HO103) hb)
   replace HO106 := zA (zRb (zq3 HO106) hb)
   replace HB := zA (zaa zq2 hb)
   (try clear hb)
   (try clear hb2)
   (try clear hk)
   (try clear hi)
   refine hK.out _ _ (HS0_) (fun hHeld => ?_)
   clear hK K
   refine znm 30 ?_
   refine zpu 12 31 HT_ ?_
   refine zrb (zj4 HT_.out zq23) ?_
   try go_wp2
   go_ret3
   exact ⟨zq4, zq2⟩
 rw [if_pos c11] at H
 obtain ⟨c11b0, c11b1⟩ := zbe c11
 clear c11
 have H' := zA H
 clear H
 try go_wp2
 replace HB := zA (zbd HB.out)
 refine zne (n := 13) (S := fun w' => True) (ds := []) #[false, false, false, false, false, false, false, false, false, false, false, false, false] zq23 rfl rfl (trivial) (fun hHeld => ?_); refine zhk zki zjz (fun HT_ HW_ => ?_)
 generalize wr.drew = w12 at HB hHeld ⊢
 refine zpu 0 19 HT_ ?_
 refine zpu 1 20 HT_ ?_
 refine zpu 2 21 HT_ ?_
 refine zpu 5 24 HT_ ?_
 refine zpu 8 27 HT_ ?_
 refine zpu 9 28 HT_ ?_
 refine zpu 10 29 HT_ ?_
 refine one_ (i := 3) (N := some 22) #[true, true, true, true, false, true, false, false, true, true, true, false, false] rfl rfl (zhj HT_.out zq23) (by decide) (fun K hK => ?_)
 refine zgo Tryz.func85 (zii x9_1 x10_2 t101 _ A6.out) ?_
 rintro e w13 ⟨v102, rfl, ho0, hb⟩
 refine ⟨_, rfl, ?_⟩
 have HO103 := zA (Kd.R_lower ho0 (zaf zq2))
 replace HB := zA (zaa zq2 hb)
 (try clear hb)
 (try clear hb2)
 (try clear hk)
 (try clear hi)
 (try clear ho0)
 obtain ⟨Ao14, co14, eo14⟩ := Kd.R_slice HO103.out
 (first | subst eo14 | (injection eo14 with f1_ f2_ f3_; have f4_ := f1_.symm; have f5_ := f3_.symm; clear f1_ f2_ f3_; subst f4_; subst f5_))
 refine hK.out _ _ (trivial) (fun hHeld => ?_)
 clear hK K
 refine znm 22 ?_
 refine one_ (i := 4) (N := some 23) #[true, true, true, true, true, true, false, false, true, true, true, false, false] rfl rfl (zhj HT_.out zq23) (by decide) (fun K hK => ?_)
 refine zs2 Tryz.func84 zq23 rfl #[.slice A1 l1.length c1, .slice Ao14 t101.length co14] (by rfl) rfl rfl zq20 ?_
 with_reducible refine (zjb k2 _ _ l1 _ _ t101 t104 _ ?side1 ?side2 ?side3 ?side4 A7.out).mono ?_
 (case side1 => repeat (first | exact (zCb HR1.out HB.out) | (with_reducible first | refine zCa ?_ _ | refine zCn ?_ _ | refine zCd ?_)))
 (case side2 => exact HC1.out)
 (case side3 => repeat (first | exact (zRr HO103.out).2.2 | (with_reducible first | refine zCa ?_ _ | refine zCn ?_ _ | refine zCd ?_)))
 (case side4 => exact (zRr HO103.out).2.1)
 rintro e w15 ⟨v105, rfl, ho0, hb⟩
 refine ⟨_, rfl, ?_⟩
 have HO106 := zA (Kd.R_lower (Kd.R_new' ho0 (Kd.R_lt (zq3 HO103))) (zaf zq2))
 replace HO103 := zA (Kd.R_elder' (zq3 HO103) (Kd.R_base ho0) hb)
 replace HB := zA (zaa zq2 hb)
 (try clear hb)
 (try clear hb2)
 (try clear hk)
 (try clear hi)
 (try clear ho0)
 obtain ⟨Ao16, co16, eo16⟩ := Kd.R_slice HO106.out
 (first | subst eo16 | (injection eo16 with f1_ f2_ f3_; have f4_ := f1_.symm; have f5_ := f3_.symm; clear f1_ f2_ f3_; subst f4_; subst f5_))
 obtain ⟨p107, q107⟩ := zpq a2 t104.length
 obtain ⟨ad107, e107, hx107_0⟩ := Kd.at_int (zRr HO106.out).2.2 a2 (zoe p107) (zoe q107)
 cases e107
 refine hK.out _ _ (trivial) (fun hHeld => ?_)
 clear hK K
 refine znm 23 ?_
 refine ybu (S' := fun w' => w'.cell? (ad107.add (a2).toNat) = some (.int .i64 (rd t104 a2))) (fun _ s => (trivial)) (hx107_0) (fun hHeld => ?_)
 refine zpu 6 25 HT_ ?_
 refine take_ (i := 7) (N := some 26) (v := ?_) (a' := ?_) #[true, true, true, true, true, true, true, true, true, true, true, false, false] rfl rfl (zvx HT_.out HW_.out zq23) (fun _ _ _ h => h) (Or.inl ⟨by rfl, ?_⟩) hHeld ?_ ?_
 rotate_left
 · intro w' s0
   go_simp
   with_reducible rfl
 rotate_left
 · simp only [Act.put, List.setIfInBounds_toArray, List.set_cons_zero, List.set_cons_succ, zic, zj6]
   rfl
 refine one_ (i := 11) (N := some 30) #[true, true, true, true, true, true, true, true, true, true, true, true, false] rfl rfl (zhj HT_.out zq23) (by decide) (fun K hK => ?_)
 refine zs2 Tryz.func86 zq23 rfl #[.slice A0 l0.length c0, .int .i64 x9_1, .int .i64 x10_2] (by rfl) rfl rfl zq20 ?_
 with_reducible refine (zjy k2 _ _ l0 x9_1 x10_2 t108 _ ?side1 ?side2 A10.out).mono ?_
 (case side1 => repeat (first | exact (zCb HR0.out HB.out) | (with_reducible first | refine zCa ?_ _ | refine zCn ?_ _ | refine zCd ?_)))
 (case side2 => exact HC0.out)
 rintro e w17 ⟨rfl, hb⟩
 have HS0_ := (hb.cell (World.block_lt_of_cell? _ _ (hHeld))).trans (hHeld)
 refine ⟨_, rfl, ?_⟩
 replace HO103 := zA (zRb (zq3 HO103) hb)
 replace HO106 := zA (zRb (zq3 HO106) hb)
 replace HB := zA (zaa zq2 hb)
 (try clear hb)
 (try clear hb2)
 (try clear hk)
 (try clear hi)
 refine hK.out _ _ (HS0_) (fun hHeld => ?_)
 clear hK K
 refine znm 30 ?_
 refine zpu 12 31 HT_ ?_
 refine zrb (zj4 HT_.out zq23) ?_
 try go_wp2
 go_roundg k2
 case measure => have := HK1.out; have := HK2.out; omega
 case rel => exact ⟨(wrap64 (x10_2 + 1)), zq5, H', ⟨zq39 HK1 HK2⟩, ⟨zq2⟩⟩
end Go.Proofs.YtnaafcleafbejaaGreat.Q
end
section
namespace Go.Proofs.YtnaafcleafbejaaGreat.Q
open Go.RowKit Go.Proofs.YtnaafcleafbejaaGreatW.PrintWords Go.Proofs.YtnaafcleafbejaaGreatW.PrintLast Go.Proofs.YtnaafcleafbejaaGreatW.PrintMore
set_option maxHeartbeats 8000000
set_option maxRecDepth 100000
attribute [local go_sem] zbc zbg zb8 zb9 za1 za2 zbi zbj
set_option linter.unusedVariables false
set_option linter.unusedSimpArgs false
def zj0 (l0 : List (S69)) : Option (Int) := if (l0.length : Int) = 0 then (some 0) else (some (wrap64 (1 + (l0.length : Int))))
theorem zr3 (A0 : Option Addr) (c0 : Nat) (l0 : List (S69)) (r : Int) (w : World) (hr0 : Kd.C k69 w A0 l0.length l0) (hc0 : l0.length ≤ c0) (h : zj0 l0 = some r) :
   Calls Tryz.prog 83 #[.slice A0 l0.length c0] w fun e w' => e = .returned (.int .i64 r) ∧ Drawn0 w w' := by
 have HR0 := zA hr0
 have HC0 := zA hc0
 clear hr0 hc0
 have H := h
 unfold zj0 at H
 clear h
 by_cases c2 : (l0.length : Int) = 0
 · rw [if_pos c2] at H
   obtain ⟨c2b0, c2b1⟩ := zbe c2
   clear c2
   obtain rfl := zsi H
   go_enter Tryz.func83, Tryz.ntmps83
   exact zr_1
 · rw [if_neg c2] at H
   obtain ⟨c2b0, c2b1⟩ := zbq c2
   have c2b2 : ¬ (l0 = []) := fun h_ => c2 (by rw [h_]; rfl)
   obtain rfl := zsi H
   go_enter Tryz.func83, Tryz.ntmps83
   exact zr_1
def zb3 : Nat → List (S62) → List (S69) → Int → List (List Int) → Int → Int → Option (Bool)
 | 0, _, _, _, _, _, _ => none
 | k + 1, x0, x1, x5, x17, x18, x19 => if x19 < x18 then (if 0 ≤ x19 then (if x19 < (x17.length : Int) then (if 0 < ((ze1 x17 x19).length : Int) then (if 1 < ((ze1 x17 x19).length : Int) then ((zi6 (rd (ze1 x17 x19) 0) (rd (ze1 x17 x19) 1)).bind fun t123 => ((zg8 k x1 t123).bind fun t126 => (if 0 ≤ x5 then (if x5 < (t126.length : Int) then ((zhl k x0 (rd (ze1 x17 x19) 0) (rd (ze1 x17 x19) 1)).bind fun t132 => (if (rd t126 x5) = t132 then (zb3 k x0 x1 x5 x17 x18 (wrap64 (x19 + 1))) else (some false))) else (none)) else (none)))) else (none)) else (none)) else (none)) else (none)) else ((zdu k x0 x1 x5).bind fun bt117 => (some (!bt117.2.2)))
def zff (k : Nat) (l0 : List (S62)) (l1 : List (S69)) : Option (Bool) := (zj0 l1).bind fun t101 => ((some (([(([37, 22] : List Int)), (([5, 63] : List Int)), (([62, 3] : List Int)), (([1, 1] : List Int))] : List (List Int)) : List (List Int))).bind fun y114 => (zb3 k l0 l1 t101 y114 (y114.length : Int) 0))
theorem zk6 : ∀ k, (∀ y0 y1 y2 y3 y4 y5, LeO (zb3 k y0 y1 y2 y3 y4 y5) (zb3 (k + 1) y0 y1 y2 y3 y4 y5))
 | 0 => fun _ _ _ _ _ _ r h => by simp [zb3] at h
 | k + 1 => by
   have ih0 := zk6 k
   · intro y0 y1 y2 y3 y4 y5
     unfold zb3
     exact zm4 ih0 ziq zi7 zkh
theorem zjg : ∀ a0 a1 k, LeO (zff k a0 a1) (zff (k + 1) a0 a1) := by
 intro a0 a1 k
 have ih0 := zk6 k
 unfold zff
 exact zm4 ih0 ziq zi7 zkh
def spec_suReaches.T5 : Bool × List (List Nat × List Nat) := (true, [([], []), ([], []), ([1], [1]), ([2], [2]), ([], []), ([4], [4]), ([5], [5]), ([3, 6], [3, 6]), ([0, 7, 7], [0, 7]), ([], []), ([8, 9], [8, 9]), ([10], [10]), ([], []), ([], []), ([13], [13]), ([14], [14]), ([], []), ([16], [16]), ([17], [17]), ([12, 15, 18, 8], [12, 15, 18]), ([11, 19], [11, 19])])
def zr4 : List Nat := [0, 0, 2, 6, 0, 16, 48, 126, 255, 0, 1023, 2047, 0, 0, 8192, 24576, 0, 65536, 196608, 520703, 1048575]
theorem zmg : rtab .any (zs3 Tryz.f54 5) = spec_suReaches.T5 := by kernel_rfl
theorem zlu : zis spec_suReaches.T5.2 zr4 = true := by kernel_rfl
theorem zlv (k : Nat) (A0 : Option Addr) (c0 : Nat) (l0 : List (S62)) (A1 : Option Addr) (c1 : Nat) (l1 : List (S69)) (r : Bool) (w : World) (hr0 : Kd.C k62 w A0 l0.length l0) (hc0 : l0.length ≤ c0) (hr1 : Kd.C k69 w A1 l1.length l1) (hc1 : l1.length ≤ c1) (h : zff k l0 l1 = some r) :
   Calls Tryz.prog 54 #[.slice A0 l0.length c0, .slice A1 l1.length c1] w fun e w' => e = .returned (.bool r) ∧ Below w.heap.size w w' := by
 have HR0 := zA hr0
 have HC0 := zA hc0
 clear hr0 hc0
 have HR1 := zA hr1
 have HC1 := zA hc1
 clear hr1 hc1
 have HB := zA (Below.refl w.heap.size w)
 have H := h
 unfold zff at H
 clear h
 replace H := zob H
 obtain ⟨t101, A30, H⟩ := H
 have A3 := zA A30
 clear A30
 obtain ⟨y102, hy102⟩ : ∃ y_ : List Int, y_ = (([37, 22] : List Int)) := ⟨_, rfl⟩
 rw [← hy102] at H; try with_reducible replace H := zbs H
 have Ny102 := zA hy102
 clear hy102
 obtain ⟨y105, hy105⟩ : ∃ y_ : List Int, y_ = (([5, 63] : List Int)) := ⟨_, rfl⟩
 rw [← hy105] at H; try with_reducible replace H := zbs H
 have Ny105 := zA hy105
 clear hy105
 obtain ⟨y108, hy108⟩ : ∃ y_ : List Int, y_ = (([62, 3] : List Int)) := ⟨_, rfl⟩
 rw [← hy108] at H; try with_reducible replace H := zbs H
 have Ny108 := zA hy108
 clear hy108
 obtain ⟨y111, hy111⟩ : ∃ y_ : List Int, y_ = (([1, 1] : List Int)) := ⟨_, rfl⟩
 rw [← hy111] at H; try with_reducible replace H := zbs H
 have Ny111 := zA hy111
 clear hy111
 obtain ⟨y114, hy114⟩ : ∃ y_ : List (List Int), y_ = (([y102, y105, y108, y111] : List (List Int))) := ⟨_, rfl⟩
 rw [← hy114] at H; try with_reducible replace H := zbs H
 have Ny114 := zA hy114
 clear hy114
 have H' := zA H
 clear H
 go_enter Tryz.func54, Tryz.ntmps54
 go_wp2_with (first | ((with_reducible refine zgc 83 ?_); refine zca 12 Tryz.func83 #[.slice A1 l1.length c1] (zr3 _ _ l1 t101 _ (zq37 HR1) HC1.out A3.out) ?_; rintro e w' ⟨rfl, ⟨nd, rfl⟩⟩; refine ⟨_, rfl, ?_⟩) | ((with_reducible refine zgd 13 ?_); refine Kd.R_lit (Kd.int .i64) _ 3 ?hg (N := 13) ?hd (xs := ([37, 22] : List Int)) (inner := [.int .i64 37, .int .i64 22]) (ok := fun _ => True) (okp := fun _ => True) ?hr ?hp (fun _ hk => hk) trivial (Below.refl _ _) (zlr _) (by simp) ?_; (case hd => rfl); (case hg => rfl); (case hr => go_simp <;> rfl); (case hp => exact (zaz (show Kd.M (Kd.int .i64) _ _ _ 37 [.int .i64 37] from rfl) (zaz (show Kd.M (Kd.int .i64) _ _ _ 22 [.int .i64 22] from rfl) (Reps.none _ _)))); intro v103 w4 ho5 hb hg_ hnew_; clear hg_ hnew_; (first | rw [← Ny102.out] at ho5 | (simp only [Int.reduceToNat] at ho5; rw [← Ny102.out] at ho5)); have HO104 := zA (Kd.R_lower ho5 (zaf zq2)); replace HB := zA (zaa zq2 hb); clear hb ho5) | ((with_reducible refine zgd 14 ?_); refine Kd.R_lit (Kd.int .i64) _ 3 ?hg (N := 14) ?hd (xs := ([5, 63] : List Int)) (inner := [.int .i64 5, .int .i64 63]) (ok := fun _ => True) (okp := fun _ => True) ?hr ?hp (fun _ hk => hk) trivial (Below.refl _ _) (zlr _) (by simp) ?_; (case hd => rfl); (case hg => rfl); (case hr => go_simp <;> rfl); (case hp => exact (zaz (show Kd.M (Kd.int .i64) _ _ _ 5 [.int .i64 5] from rfl) (zaz (show Kd.M (Kd.int .i64) _ _ _ 63 [.int .i64 63] from rfl) (Reps.none _ _)))); intro v106 w6 ho7 hb hg_ hnew_; clear hg_ hnew_; (first | rw [← Ny105.out] at ho7 | (simp only [Int.reduceToNat] at ho7; rw [← Ny105.out] at ho7)); have HO107 := zA (Kd.R_lower (Kd.R_new' ho7 (Kd.R_lt (zq3 HO104))) (zaf zq2)); replace HO104 := zA (Kd.R_elder' (zq3 HO104) (Kd.R_base ho7) hb); replace HB := zA (zaa zq2 hb); clear hb ho7) | ((with_reducible refine zgd 15 ?_); refine Kd.R_lit (Kd.int .i64) _ 3 ?hg (N := 15) ?hd (xs := ([62, 3] : List Int)) (inner := [.int .i64 62, .int .i64 3]) (ok := fun _ => True) (okp := fun _ => True) ?hr ?hp (fun _ hk => hk) trivial (Below.refl _ _) (zlr _) (by simp) ?_; (case hd => rfl); (case hg => rfl); (case hr => go_simp <;> rfl); (case hp => exact (zaz (show Kd.M (Kd.int .i64) _ _ _ 62 [.int .i64 62] from rfl) (zaz (show Kd.M (Kd.int .i64) _ _ _ 3 [.int .i64 3] from rfl) (Reps.none _ _)))); intro v109 w8 ho9 hb hg_ hnew_; clear hg_ hnew_; (first | rw [← Ny108.out] at ho9 | (simp only [Int.reduceToNat] at ho9; rw [← Ny108.out] at ho9)); have HO110 := zA (Kd.R_lower (Kd.R_new' (Kd.R_new' ho9 (Kd.R_lt (zq3 HO104))) (Kd.R_lt (zq3 HO107))) (zaf zq2)); replace HO104 := zA (Kd.R_elder' (zq3 HO104) (Kd.R_base ho9) hb); replace HO107 := zA (Kd.R_elder' (zq3 HO107) (Kd.R_base ho9) hb); replace HB := zA (zaa zq2 hb); clear hb ho9) | ((with_reducible refine zgd 16 ?_); refine Kd.R_lit (Kd.int .i64) _ 3 ?hg (N := 16) ?hd (xs := ([1, 1] : List Int)) (inner := [.int .i64 1, .int .i64 1]) (ok := fun _ => True) (okp := fun _ => True) ?hr ?hp (fun _ hk => hk) trivial (Below.refl _ _) (zlr _) (by simp) ?_; (case hd => rfl); (case hg => rfl); (case hr => go_simp <;> rfl); (case hp => exact (zaz (show Kd.M (Kd.int .i64) _ _ _ 1 [.int .i64 1] from rfl) (zaz (show Kd.M (Kd.int .i64) _ _ _ 1 [.int .i64 1] from rfl) (Reps.none _ _)))); intro v112 w10 ho11 hb hg_ hnew_; clear hg_ hnew_; (first | rw [← Ny111.out] at ho11 | (simp only [Int.reduceToNat] at ho11; rw [← Ny111.out] at ho11)); have HO113 := zA (Kd.R_lower (Kd.R_new' (Kd.R_new' (Kd.R_new' ho11 (Kd.R_lt (zq3 HO104))) (Kd.R_lt (zq3 HO107))) (Kd.R_lt (zq3 HO110))) (zaf zq2)); replace HO104 := zA (Kd.R_elder' (zq3 HO104) (Kd.R_base ho11) hb); replace HO107 := zA (Kd.R_elder' (zq3 HO107) (Kd.R_base ho11) hb); replace HO110 := zA (Kd.R_elder' (zq3 HO110) (Kd.R_base ho11) hb); replace HB := zA (zaa zq2 hb); clear hb ho11; obtain ⟨Ao12, co12, eo12⟩ := Kd.R_slice HO104.out; subst eo12; obtain ⟨Ao13, co13, eo13⟩ := Kd.R_slice HO107.out; subst eo13; obtain ⟨Ao14, co14, eo14⟩ := Kd.R_slice HO110.out; subst eo14; obtain ⟨Ao15, co15, eo15⟩ := Kd.R_slice HO113.out; subst eo15) | ((with_reducible refine zgd 17 ?_); refine Kd.N_lit (Kd.slice 3 (Kd.int .i64)) _ 24 ?hg (N' := 17) ?hd (xs := ([y102, y105, y108, y111] : List (List Int))) (inner := [.slice Ao12 y102.length co12, .slice Ao13 y105.length co13, .slice Ao14 y108.length co14, .slice Ao15 y111.length co15]) (ok := (fun _ => True)) (okp := (fun _ => True)) ?hr ?hp (fun _ hk => hk) ((show ∀ k_, w10.heap.size ≤ k_ → (fun _ => True) k_ from fun k_ hk => trivial) _ (zlr _)) (Below.refl _ _) (zlr _) (by simp) ?_; (case hd => rfl); (case hg => rfl); (case hr => go_simp <;> rfl); (case hp => exact (zaz (show Kd.FK (Kd.slice 3 (Kd.int .i64)) _ _ y102 [.slice Ao12 y102.length co12] from (Kd.FK_slice_mk (zRr (Kd.R_mono (ok' := (fun _ => True)) (HO104.out) (fun k_ hk => trivial))).2.1 (Kd.R_F (Kd.R_mono (ok' := (fun _ => True)) (HO104.out) (fun k_ hk => trivial))))) (zaz (show Kd.FK (Kd.slice 3 (Kd.int .i64)) _ _ y105 [.slice Ao13 y105.length co13] from (Kd.FK_slice_mk (zRr (Kd.R_mono (ok' := (fun _ => True)) (HO107.out) (fun k_ hk => trivial))).2.1 (Kd.R_F (Kd.R_mono (ok' := (fun _ => True)) (HO107.out) (fun k_ hk => trivial))))) (zaz (show Kd.FK (Kd.slice 3 (Kd.int .i64)) _ _ y108 [.slice Ao14 y108.length co14] from (Kd.FK_slice_mk (zRr (Kd.R_mono (ok' := (fun _ => True)) (HO110.out) (fun k_ hk => trivial))).2.1 (Kd.R_F (Kd.R_mono (ok' := (fun _ => True)) (HO110.out) (fun k_ hk => trivial))))) (zaz (show Kd.FK (Kd.slice 3 (Kd.int .i64)) _ _ y111 [.slice Ao15 y111.length co15] from (Kd.FK_slice_mk (zRr (Kd.R_mono (ok' := (fun _ => True)) (HO113.out) (fun k_ hk => trivial))).2.1 (Kd.R_F (Kd.R_mono (ok' := (fun _ => True)) (HO113.out) (fun k_ hk => trivial))))) (Reps.none _ _)))))); intro v115 w16 ho17 hb hg_ hnew_; clear hg_ hnew_; (first | rw [← Ny114.out] at ho17 | (simp only [Int.reduceToNat] at ho17; rw [← Ny114.out] at ho17)); have HO116 := zA (Kd.N_lower ho17 (zaf zq2)); replace HB := zA (zaa zq2 hb); clear HO104 HO107 HO110 HO113; clear hb ho17; obtain ⟨Ao18, co18, eo18⟩ := Kd.N_slice HO116.out; subst eo18))
 go_loopg [19] k (fun kq v19 w' => ∃ (x19_1 : Int), v19 = .int .i64 x19_1 ∧ Aside0 (zb3 kq l0 l1 t101 y114 (y114.length : Int) x19_1 = some r) ∧ Aside0 (kq ≤ k) ∧ Aside0 (Kd.N (Kd.slice 3 (Kd.int .i64)) 24 w' w.heap.size (fun _ => True) (.slice Ao18 y114.length co18) y114) ∧ Aside0 (Below w.heap.size w w'))
 case atStart => exact ⟨(0), zq5, H', ⟨zlr _⟩, ⟨zq34 HO116⟩, ⟨zq2⟩⟩
 clear H'
 try clear c1
 obtain ⟨x19_1, rfl, HA, HK1, HO_17, HB⟩ := hrel
 cases gk with
 | zero => exact absurd HA.out (by simp [zb3])
 | succ k1 =>
 have H := HA.out
 clear HA
 simp only [zb3] at H
 revert H
 refine zit (fun c19 H => ?_) fun c19 H => ?_
 rotate_left
 · replace H := zob H
   obtain ⟨⟨t117, t118, t119⟩, A420, H⟩ := H
   have A42 := zA A420
   clear A420
   obtain rfl := zsi H
   go_wp2_with (first | ((with_reducible refine zgc 87 ?_); refine zca 49 Tryz.func87 #[.slice A0 l0.length c0, .slice A1 l1.length c1, .int .i64 t101] (zn8 k1 _ _ l0 _ _ l1 t101 t117 t118 t119 _ (zq7 HR0) HC0.out (zq7 HR1) HC1.out A42.out) ?_; rintro e w43 ⟨rfl, hb⟩; refine ⟨_, rfl, ?_⟩; replace HO_17 := zA (Kd.N_below (zq34 HO_17) hb); replace HB := zA (zaa zq2 hb); (try clear hb)))
   exact zr_4
 revert H
 refine zin fun c20 H => ?_
 revert H
 refine zin fun c21 H => ?_
 by_cases c22 : 0 < ((ze1 y114 x19_1).length : Int)
 rotate_left
 · rw [if_neg c22] at H
   exact absurd H (by simp)
 rw [if_pos c22] at H
 have c22b0 := zdt c22
 have c22b1 : decide (0 < (ze1 y114 x19_1).length) = true := zdt (by omega)
 clear c22
 by_cases c23 : 1 < ((ze1 y114 x19_1).length : Int)
 rotate_left
 · rw [if_neg c23] at H
   exact absurd H (by simp)
 rw [if_pos c23] at H
 have c23b0 := zdt c23
 have c23b1 : decide (1 < (ze1 y114 x19_1).length) = true := zdt (by omega)
 clear c23
 replace H := zob H
 obtain ⟨t123, A240, H⟩ := H
 have A24 := zA A240
 clear A240
 replace H := zob H
 obtain ⟨t126, A250, H⟩ := H
 have A25 := zA A250
 clear A250
 revert H
 refine zin fun c26 H => ?_
 revert H
 refine zin fun c27 H => ?_
 replace H := zob H
 obtain ⟨t132, A280, H⟩ := H
 have A28 := zA A280
 clear A280
 by_cases c29 : (rd t126 t101) = t132
 rotate_left
 · rw [if_neg c29] at H
   obtain ⟨c29b0, c29b1⟩ := zbq c29
   obtain rfl := zsi H
   have p120 : 0 ≤ (x19_1 : Int) := zde zq14
   have q120 : x19_1 < (y114.length : Int) := zde zq14
   obtain ⟨ad120, A120_0, c120_0, e120, hx120_0, hl120_0, hi120_0⟩ := yet (Kd.N_reads' HO_17.out).2.2 x19_1 p120 q120
   cases e120
   obtain ⟨ce120, hce120, hMe120, hcc120⟩ := Kd.N_get HO_17.out [] x19_1 p120 (by first | exact q120 | exact zde zq14 | (have e_ := (Kd.N_reads' HO_17.out).1; omega))
   obtain ⟨ua120_0, uc120_0, rfl, ul120_0, ge120_0⟩ := Kd.FK_slice_open hMe120
   have hv120_0 := hcc120 0 _ rfl
   rw [Nat.add_zero, show ((Kd.slice 3 (Kd.int .i64))).sz = 1 from rfl, Nat.mul_one] at hv120_0
   replace hv120_0 := zsi (hv120_0.symm.trans hx120_0)
   injection hv120_0 with hva_ hvn_ hvc_
   rw [hva_] at ge120_0
   rw [hvc_] at ul120_0
   have HL120_0 := zA (show Kd.V (Kd.int .i64) 3 _ w.heap.size _ _ (ze1 y114 x19_1) from Kd.V_mk ul120_0 ge120_0)
   clear hva_ hvn_ hvc_ ge120_0 ul120_0
   clear hcc120 hce120
   have HR120_0 := zA hi120_0
   have HC120_0 := zA hl120_0
   clear hi120_0 hl120_0
   replace p120 := eq_true p120
   replace q120 := eq_true q120
   try go_wp2
   replace HO_17 := zA (Kd.N_drew HO_17.out)
   replace HL120_0 := zA (Kd.V_drew HL120_0.out)
   replace HR120_0 := zA (zCd HR120_0.out)
   replace HB := zA (zbd HB.out)
   have p121 : 0 ≤ (0 : Int) := (by omega)
   have q121 : 0 < ((ze1 y114 x19_1).length : Int) := zde zq14
   obtain ⟨ad121, e121, hx121_0⟩ := Kd.at_int (zq15 HR120_0) 0 p121 q121
   cases e121
   have qi121 : (0 < (ze1 y114 x19_1).length) = True := eq_true (by omega)
   (try rw [show ((0 : Int)).toNat = 0 from rfl] at hx121_0)
   (try rw [Addr.add_zero'] at hx121_0)
   replace p121 := eq_true p121
   replace q121 := eq_true q121
   have p122 : 0 ≤ (1 : Int) := (by omega)
   have q122 : 1 < ((ze1 y114 x19_1).length : Int) := zde zq14
   obtain ⟨ad122, e122, hx122_0⟩ := Kd.at_int (zq15 HR120_0) 1 p122 q122
   obtain rfl : ad121 = ad122 := (by injection e122)
   (try simp only [show (1 : Int).toNat = 1 from rfl, Nat.reduceMul, Nat.reduceEqDiff, Go.Addr.add, ↓reduceIte] at hx122_0)
   have qi122 : (1 < (ze1 y114 x19_1).length) = True := eq_true (by omega)
   (try rw [show ((1 : Int)).toNat = 1 from rfl] at hx122_0)
   replace p122 := eq_true p122
   replace q122 := eq_true q122
   have p130 : 0 ≤ (0 : Int) := (by omega)
   have q130 : 0 < ((ze1 y114 x19_1).length : Int) := zde zq14
   obtain ⟨ad130, e130, hx130_0⟩ := Kd.at_int (zq15 HR120_0) 0 p130 q130
   obtain rfl : ad121 = ad130 := (by injection e130)
   have qi130 : (0 < (ze1 y114 x19_1).length) = True := eq_true (by omega)
   (try rw [show ((0 : Int)).toNat = 0 from rfl] at hx130_0)
   (try rw [Addr.add_zero'] at hx130_0)
   replace p130 := eq_true p130
   replace q130 := eq_true q130
   have p131 : 0 ≤ (1 : Int) := (by omega)
   have q131 : 1 < ((ze1 y114 x19_1).length : Int) := zde zq14
   obtain ⟨ad131, e131, hx131_0⟩ := Kd.at_int (zq15 HR120_0) 1 p131 q131
   obtain rfl : ad121 = ad131 := (by injection e131)
   (try simp only [show (1 : Int).toNat = 1 from rfl, Nat.reduceMul, Nat.reduceEqDiff, Go.Addr.add, ↓reduceIte] at hx131_0)
   have qi131 : (1 < (ze1 y114 x19_1).length) = True := eq_true (by omega)
   (try rw [show ((1 : Int)).toNat = 1 from rfl] at hx131_0)
   replace p131 := eq_true p131
   replace q131 := eq_true q131
   refine zne (n := 21) (S := fun w' => w'.cell? ad121 = some (.int .i64 (rd (ze1 y114 x19_1) 0)) ∧ w'.cell? ⟨ad121.block, ad121.off + 1, none⟩ = some (.int .i64 (rd (ze1 y114 x19_1) 1)) ∧ w'.cell? ad121 = some (.int .i64 (rd (ze1 y114 x19_1) 0)) ∧ w'.cell? ⟨ad121.block, ad121.off + 1, none⟩ = some (.int .i64 (rd (ze1 y114 x19_1) 1)) ∧ True) (ds := []) #[false, false, false, false, false, false, false, false, false, false, false, false, false, false, false, false, false, false, false, false, false] zq23 rfl rfl ⟨hx121_0, hx122_0, hx130_0, hx131_0, trivial⟩ (fun hHeld => ?_); refine zhk zmg zlu (fun HT_ HW_ => ?_)
   generalize wr.drew = w36 at HO_17 HL120_0 HR120_0 HB hx121_0 hx122_0 hx130_0 hx131_0 hHeld ⊢
   refine zpu 0 23 HT_ ?_
   refine zpu 1 24 HT_ ?_
   refine zpu 2 25 HT_ ?_
   refine zpu 4 27 HT_ ?_
   refine zpu 5 28 HT_ ?_
   refine zpu 9 32 HT_ ?_
   refine zpu 12 35 HT_ ?_
   refine zpu 13 36 HT_ ?_
   refine zpu 14 37 HT_ ?_
   refine zpu 16 39 HT_ ?_
   refine zpu 17 40 HT_ ?_
   refine ztu 3 26 HT_ HW_ hHeld ?_
   refine ztu 6 29 HT_ HW_ hHeld ?_
   refine ztu 15 38 HT_ HW_ hHeld ?_
   refine ztu 18 41 HT_ HW_ hHeld ?_
   refine one_ (i := 7) (N := some 30) #[true, true, true, true, true, true, true, true, false, true, false, false, true, true, true, true, true, true, true, false, false] rfl rfl (zhj HT_.out zq23) (by decide) (fun K hK => ?_)
   refine zgo Tryz.func85 (zii (rd (ze1 y114 x19_1) 0) (rd (ze1 y114 x19_1) 1) t123 _ A24.out) ?_
   rintro e w37 ⟨v124, rfl, ho0, hb⟩
   have HS0_ := (hb.cell (World.block_lt_of_cell? _ _ (hHeld.1))).trans (hHeld.1)
   have HS1_ := (hb.cell (World.block_lt_of_cell? _ _ (hHeld.2.1))).trans (hHeld.2.1)
   have HS2_ := (hb.cell (World.block_lt_of_cell? _ _ (hHeld.2.2.1))).trans (hHeld.2.2.1)
   have HS3_ := (hb.cell (World.block_lt_of_cell? _ _ (hHeld.2.2.2.1))).trans (hHeld.2.2.2.1)
   refine ⟨_, rfl, ?_⟩
   replace HO_17 := zA (Kd.N_elder' (zq34 HO_17) (Kd.R_base ho0) hb)
   replace HL120_0 := zA (Kd.V_elder' (zq13 HL120_0) (Kd.R_base ho0) hb)
   have HO125 := zA (Kd.R_lower ho0 (zaf zq2))
   replace HR120_0 := zA (zCb (zq15 HR120_0) hb)
   replace HB := zA (zaa zq2 hb)
   (try clear hb)
   (try clear hb2)
   (try clear hk)
   (try clear hi)
   (try clear ho0)
   obtain ⟨Ao38, co38, eo38⟩ := Kd.R_slice HO125.out
   (first | subst eo38 | (injection eo38 with f1_ f2_ f3_; have f4_ := f1_.symm; have f5_ := f3_.symm; clear f1_ f2_ f3_; subst f4_; subst f5_))
   refine hK.out _ _ ⟨HS0_, HS1_, HS2_, HS3_, trivial⟩ (fun hHeld => ?_)
   clear hK K
   refine znm 30 ?_
   refine one_ (i := 8) (N := some 31) #[true, true, true, true, true, true, true, true, true, true, false, false, true, true, true, true, true, true, true, false, false] rfl rfl (zhj HT_.out zq23) (by decide) (fun K hK => ?_)
   refine zs2 Tryz.func84 zq23 rfl #[.slice A1 l1.length c1, .slice Ao38 t123.length co38] (by rfl) rfl rfl zq20 ?_
   with_reducible refine (zjb k1 _ _ l1 _ _ t123 t126 _ ?side1 ?side2 ?side3 ?side4 A25.out).mono ?_
   (case side1 => repeat (first | exact (zCb HR1.out HB.out) | (with_reducible first | refine zCa ?_ _ | refine zCn ?_ _ | refine zCd ?_)))
   (case side2 => exact HC1.out)
   (case side3 => repeat (first | exact (zRr HO125.out).2.2 | (with_reducible first | refine zCa ?_ _ | refine zCn ?_ _ | refine zCd ?_)))
   (case side4 => exact (zRr HO125.out).2.1)
   rintro e w39 ⟨v127, rfl, ho0, hb⟩
   have HS0_ := (hb.cell (World.block_lt_of_cell? _ _ (hHeld.1))).trans (hHeld.1)
   have HS1_ := (hb.cell (World.block_lt_of_cell? _ _ (hHeld.2.1))).trans (hHeld.2.1)
   have HS2_ := (hb.cell (World.block_lt_of_cell? _ _ (hHeld.2.2.1))).trans (hHeld.2.2.1)
   have HS3_ := (hb.cell (World.block_lt_of_cell? _ _ (hHeld.2.2.2.1))).trans (hHeld.2.2.2.1)
   refine ⟨_, rfl, ?_⟩
   replace HO_17 := zA (Kd.N_elder' (zq34 HO_17) (Kd.R_base ho0) hb)
   replace HL120_0 := zA (Kd.V_elder' (zq13 HL120_0) (Kd.R_base ho0) hb)
   have HO128 := zA (Kd.R_lower (Kd.R_new' ho0 (Kd.R_lt (zq3 HO125))) (zaf zq2))
   replace HO125 := zA (Kd.R_elder' (zq3 HO125) (Kd.R_base ho0) hb)
   replace HR120_0 := zA (zCb (zq15 HR120_0) hb)
   replace HB := zA (zaa zq2 hb)
   (try clear hb)
   (try clear hb2)
   (try clear hk)
   (try clear hi)
   (try clear ho0)
   obtain ⟨Ao40, co40, eo40⟩ := Kd.R_slice HO128.out
   (first | subst eo40 | (injection eo40 with f1_ f2_ f3_; have f4_ := f1_.symm; have f5_ := f3_.symm; clear f1_ f2_ f3_; subst f4_; subst f5_))
   obtain ⟨p129, q129⟩ := zpq t101 t126.length
   obtain ⟨ad129, e129, hx129_0⟩ := Kd.at_int (zRr HO128.out).2.2 t101 (zoe p129) (zoe q129)
   cases e129
   refine hK.out _ _ ⟨HS0_, HS1_, HS2_, HS3_, trivial⟩ (fun hHeld => ?_)
   clear hK K
   refine znm 31 ?_
   refine ybu (S' := fun w' => w'.cell? ad121 = some (.int .i64 (rd (ze1 y114 x19_1) 0)) ∧ w'.cell? ⟨ad121.block, ad121.off + 1, none⟩ = some (.int .i64 (rd (ze1 y114 x19_1) 1)) ∧ w'.cell? ad121 = some (.int .i64 (rd (ze1 y114 x19_1) 0)) ∧ w'.cell? ⟨ad121.block, ad121.off + 1, none⟩ = some (.int .i64 (rd (ze1 y114 x19_1) 1)) ∧ w'.cell? (ad129.add (t101).toNat) = some (.int .i64 (rd t126 t101))) (fun _ s => ⟨s.1, s.2.1, s.2.2.1, s.2.2.2.1, trivial⟩) ⟨hHeld.1, hHeld.2.1, hHeld.2.2.1, hHeld.2.2.2.1, hx129_0⟩ (fun hHeld => ?_)
   refine zpu 10 33 HT_ ?_
   refine ztu 11 34 HT_ HW_ hHeld ?_
   refine one_ (i := 19) (N := some 42) #[true, true, true, true, true, true, true, true, true, true, true, true, true, true, true, true, true, true, true, true, false] rfl rfl (zhj HT_.out zq23) (by decide) (fun K hK => ?_)
   refine zs2 Tryz.func86 zq23 rfl #[.slice A0 l0.length c0, .int .i64 (rd (ze1 y114 x19_1) 0), .int .i64 (rd (ze1 y114 x19_1) 1)] (by rfl) rfl rfl zq20 ?_
   with_reducible refine (zjy k1 _ _ l0 (rd (ze1 y114 x19_1) 0) (rd (ze1 y114 x19_1) 1) t132 _ ?side1 ?side2 A28.out).mono ?_
   (case side1 => repeat (first | exact (zCb HR0.out HB.out) | (with_reducible first | refine zCa ?_ _ | refine zCn ?_ _ | refine zCd ?_)))
   (case side2 => exact HC0.out)
   rintro e w41 ⟨rfl, hb⟩
   have HS0_ := (hb.cell (World.block_lt_of_cell? _ _ (hHeld.1))).trans (hHeld.1)
   have HS1_ := (hb.cell (World.block_lt_of_cell? _ _ (hHeld.2.1))).trans (hHeld.2.1)
   have HS2_ := (hb.cell (World.block_lt_of_cell? _ _ (hHeld.2.2.1))).trans (hHeld.2.2.1)
   have HS3_ := (hb.cell (World.block_lt_of_cell? _ _ (hHeld.2.2.2.1))).trans (hHeld.2.2.2.1)
   have HS4_ := (hb.cell (World.block_lt_of_cell? _ _ (hHeld.2.2.2.2))).trans (hHeld.2.2.2.2)
   refine ⟨_, rfl, ?_⟩
   replace HO_17 := zA (Kd.N_below (zq34 HO_17) hb)
   replace HL120_0 := zA (Kd.V_below (zq13 HL120_0) hb)
   replace HO125 := zA (zRb (zq3 HO125) hb)
   replace HO128 := zA (zRb (zq3 HO128) hb)
   replace HR120_0 := zA (zCb (zq15 HR120_0) hb)
   replace HB := zA (zaa zq2 hb)
   (try clear hb)
   (try clear hb2)
   (try clear hk)
   (try clear hi)
   refine hK.out _ _ ⟨HS0_, HS1_, HS2_, HS3_, HS4_⟩ (fun hHeld => ?_)
   clear hK K
   refine znm 42 ?_
   refine zpu 20 43 HT_ ?_
   refine zrb (zj4 HT_.out zq23) ?_
   try go_wp2
   exact zr_4
 rw [if_pos c29] at H
 obtain ⟨c29b0, c29b1⟩ := zbe c29
 clear c29
 have H' := zA H
 clear H
 have p120 : 0 ≤ (x19_1 : Int) := zde zq14
 have q120 : x19_1 < (y114.length : Int) := zde zq14
 obtain ⟨ad120, A120_0, c120_0, e120, hx120_0, hl120_0, hi120_0⟩ := yet (Kd.N_reads' HO_17.out).2.2 x19_1 p120 q120
 cases e120
 obtain ⟨ce120, hce120, hMe120, hcc120⟩ := Kd.N_get HO_17.out [] x19_1 p120 (by first | exact q120 | exact zde zq14 | (have e_ := (Kd.N_reads' HO_17.out).1; omega))
 obtain ⟨ua120_0, uc120_0, rfl, ul120_0, ge120_0⟩ := Kd.FK_slice_open hMe120
 have hv120_0 := hcc120 0 _ rfl
 rw [Nat.add_zero, show ((Kd.slice 3 (Kd.int .i64))).sz = 1 from rfl, Nat.mul_one] at hv120_0
 replace hv120_0 := zsi (hv120_0.symm.trans hx120_0)
 injection hv120_0 with hva_ hvn_ hvc_
 rw [hva_] at ge120_0
 rw [hvc_] at ul120_0
 have HL120_0 := zA (show Kd.V (Kd.int .i64) 3 _ w.heap.size _ _ (ze1 y114 x19_1) from Kd.V_mk ul120_0 ge120_0)
 clear hva_ hvn_ hvc_ ge120_0 ul120_0
 clear hcc120 hce120
 have HR120_0 := zA hi120_0
 have HC120_0 := zA hl120_0
 clear hi120_0 hl120_0
 replace p120 := eq_true p120
 replace q120 := eq_true q120
 try go_wp2
 replace HO_17 := zA (Kd.N_drew HO_17.out)
 replace HL120_0 := zA (Kd.V_drew HL120_0.out)
 replace HR120_0 := zA (zCd HR120_0.out)
 replace HB := zA (zbd HB.out)
 have p121 : 0 ≤ (0 : Int) := (by omega)
 have q121 : 0 < ((ze1 y114 x19_1).length : Int) := zde zq14
 obtain ⟨ad121, e121, hx121_0⟩ := Kd.at_int (zq15 HR120_0) 0 p121 q121
 cases e121
 have qi121 : (0 < (ze1 y114 x19_1).length) = True := eq_true (by omega)
 (try rw [show ((0 : Int)).toNat = 0 from rfl] at hx121_0)
 (try rw [Addr.add_zero'] at hx121_0)
 replace p121 := eq_true p121
 replace q121 := eq_true q121
 have p122 : 0 ≤ (1 : Int) := (by omega)
 have q122 : 1 < ((ze1 y114 x19_1).length : Int) := zde zq14
 obtain ⟨ad122, e122, hx122_0⟩ := Kd.at_int (zq15 HR120_0) 1 p122 q122
 obtain rfl : ad121 = ad122 := (by injection e122)
 (try simp only [show (1 : Int).toNat = 1 from rfl, Nat.reduceMul, Nat.reduceEqDiff, Go.Addr.add, ↓reduceIte] at hx122_0)
 have qi122 : (1 < (ze1 y114 x19_1).length) = True := eq_true (by omega)
 (try rw [show ((1 : Int)).toNat = 1 from rfl] at hx122_0)
 replace p122 := eq_true p122
 replace q122 := eq_true q122
 have p130 : 0 ≤ (0 : Int) := (by omega)
 have q130 : 0 < ((ze1 y114 x19_1).length : Int) := zde zq14
 obtain ⟨ad130, e130, hx130_0⟩ := Kd.at_int (zq15 HR120_0) 0 p130 q130
 obtain rfl : ad121 = ad130 := (by injection e130)
 have qi130 : (0 < (ze1 y114 x19_1).length) = True := eq_true (by omega)
 (try rw [show ((0 : Int)).toNat = 0 from rfl] at hx130_0)
 (try rw [Addr.add_zero'] at hx130_0)
 replace p130 := eq_true p130
 replace q130 := eq_true q130
 have p131 : 0 ≤ (1 : Int) := (by omega)
 have q131 : 1 < ((ze1 y114 x19_1).length : Int) := zde zq14
 obtain ⟨ad131, e131, hx131_0⟩ := Kd.at_int (zq15 HR120_0) 1 p131 q131
 obtain rfl : ad121 = ad131 := (by injection e131)
 (try simp only [show (1 : Int).toNat = 1 from rfl, Nat.reduceMul, Nat.reduceEqDiff, Go.Addr.add, ↓reduceIte] at hx131_0)
 have qi131 : (1 < (ze1 y114 x19_1).length) = True := eq_true (by omega)
 (try rw [show ((1 : Int)).toNat = 1 from rfl] at hx131_0)
 replace p131 := eq_true p131
 replace q131 := eq_true q131
 refine zne (n := 21) (S := fun w' => w'.cell? ad121 = some (.int .i64 (rd (ze1 y114 x19_1) 0)) ∧ w'.cell? ⟨ad121.block, ad121.off + 1, none⟩ = some (.int .i64 (rd (ze1 y114 x19_1) 1)) ∧ w'.cell? ad121 = some (.int .i64 (rd (ze1 y114 x19_1) 0)) ∧ w'.cell? ⟨ad121.block, ad121.off + 1, none⟩ = some (.int .i64 (rd (ze1 y114 x19_1) 1)) ∧ True) (ds := []) #[false, false, false, false, false, false, false, false, false, false, false, false, false, false, false, false, false, false, false, false, false] zq23 rfl rfl ⟨hx121_0, hx122_0, hx130_0, hx131_0, trivial⟩ (fun hHeld => ?_); refine zhk zmg zlu (fun HT_ HW_ => ?_)
 generalize wr.drew = w30 at HO_17 HL120_0 HR120_0 HB hx121_0 hx122_0 hx130_0 hx131_0 hHeld ⊢
 refine zpu 0 23 HT_ ?_
 refine zpu 1 24 HT_ ?_
 refine zpu 2 25 HT_ ?_
 refine zpu 4 27 HT_ ?_
 refine zpu 5 28 HT_ ?_
 refine zpu 9 32 HT_ ?_
 refine zpu 12 35 HT_ ?_
 refine zpu 13 36 HT_ ?_
 refine zpu 14 37 HT_ ?_
 refine zpu 16 39 HT_ ?_
 refine zpu 17 40 HT_ ?_
 refine ztu 3 26 HT_ HW_ hHeld ?_
 refine ztu 6 29 HT_ HW_ hHeld ?_
 refine ztu 15 38 HT_ HW_ hHeld ?_
 refine ztu 18 41 HT_ HW_ hHeld ?_
 refine one_ (i := 7) (N := some 30) #[true, true, true, true, true, true, true, true, false, true, false, false, true, true, true, true, true, true, true, false, false] rfl rfl (zhj HT_.out zq23) (by decide) (fun K hK => ?_)
 refine zgo Tryz.func85 (zii (rd (ze1 y114 x19_1) 0) (rd (ze1 y114 x19_1) 1) t123 _ A24.out) ?_
 rintro e w31 ⟨v124, rfl, ho0, hb⟩
 have HS0_ := (hb.cell (World.block_lt_of_cell? _ _ (hHeld.1))).trans (hHeld.1)
 have HS1_ := (hb.cell (World.block_lt_of_cell? _ _ (hHeld.2.1))).trans (hHeld.2.1)
 have HS2_ := (hb.cell (World.block_lt_of_cell? _ _ (hHeld.2.2.1))).trans (hHeld.2.2.1)
 have HS3_ := (hb.cell (World.block_lt_of_cell? _ _ (hHeld.2.2.2.1))).trans (hHeld.2.2.2.1)
 refine ⟨_, rfl, ?_⟩
 replace HO_17 := zA (Kd.N_elder' (zq34 HO_17) (Kd.R_base ho0) hb)
 replace HL120_0 := zA (Kd.V_elder' (zq13 HL120_0) (Kd.R_base ho0) hb)
 have HO125 := zA (Kd.R_lower ho0 (zaf zq2))
 replace HR120_0 := zA (zCb (zq15 HR120_0) hb)
 replace HB := zA (zaa zq2 hb)
 (try clear hb)
 (try clear hb2)
 (try clear hk)
 (try clear hi)
 (try clear ho0)
 obtain ⟨Ao32, co32, eo32⟩ := Kd.R_slice HO125.out
 (first | subst eo32 | (injection eo32 with f1_ f2_ f3_; have f4_ := f1_.symm; have f5_ := f3_.symm; clear f1_ f2_ f3_; subst f4_; subst f5_))
 refine hK.out _ _ ⟨HS0_, HS1_, HS2_, HS3_, trivial⟩ (fun hHeld => ?_)
 clear hK K
 refine znm 30 ?_
 refine one_ (i := 8) (N := some 31) #[true, true, true, true, true, true, true, true, true, true, false, false, true, true, true, true, true, true, true, false, false] rfl rfl (zhj HT_.out zq23) (by decide) (fun K hK => ?_)
 refine zs2 Tryz.func84 zq23 rfl #[.slice A1 l1.length c1, .slice Ao32 t123.length co32] (by rfl) rfl rfl zq20 ?_
 with_reducible refine (zjb k1 _ _ l1 _ _ t123 t126 _ ?side1 ?side2 ?side3 ?side4 A25.out).mono ?_
 (case side1 => repeat (first | exact (zCb HR1.out HB.out) | (with_reducible first | refine zCa ?_ _ | refine zCn ?_ _ | refine zCd ?_)))
 (case side2 => exact HC1.out)
 (case side3 => repeat (first | exact (zRr HO125.out).2.2 | (with_reducible first | refine zCa ?_ _ | refine zCn ?_ _ | refine zCd ?_)))
 (case side4 => exact (zRr HO125.out).2.1)
 rintro e w33 ⟨v127, rfl, ho0, hb⟩
 have HS0_ := (hb.cell (World.block_lt_of_cell? _ _ (hHeld.1))).trans (hHeld.1)
 have HS1_ := (hb.cell (World.block_lt_of_cell? _ _ (hHeld.2.1))).trans (hHeld.2.1)
 have HS2_ := (hb.cell (World.block_lt_of_cell? _ _ (hHeld.2.2.1))).trans (hHeld.2.2.1)
 have HS3_ := (hb.cell (World.block_lt_of_cell? _ _ (hHeld.2.2.2.1))).trans (hHeld.2.2.2.1)
 refine ⟨_, rfl, ?_⟩
 replace HO_17 := zA (Kd.N_elder' (zq34 HO_17) (Kd.R_base ho0) hb)
 replace HL120_0 := zA (Kd.V_elder' (zq13 HL120_0) (Kd.R_base ho0) hb)
 have HO128 := zA (Kd.R_lower (Kd.R_new' ho0 (Kd.R_lt (zq3 HO125))) (zaf zq2))
 replace HO125 := zA (Kd.R_elder' (zq3 HO125) (Kd.R_base ho0) hb)
 replace HR120_0 := zA (zCb (zq15 HR120_0) hb)
 replace HB := zA (zaa zq2 hb)
 (try clear hb)
 (try clear hb2)
 (try clear hk)
 (try clear hi)
 (try clear ho0)
 obtain ⟨Ao34, co34, eo34⟩ := Kd.R_slice HO128.out
 (first | subst eo34 | (injection eo34 with f1_ f2_ f3_; have f4_ := f1_.symm; have f5_ := f3_.symm; clear f1_ f2_ f3_; subst f4_; subst f5_))
 obtain ⟨p129, q129⟩ := zpq t101 t126.length
 obtain ⟨ad129, e129, hx129_0⟩ := Kd.at_int (zRr HO128.out).2.2 t101 (zoe p129) (zoe q129)
 cases e129
 refine hK.out _ _ ⟨HS0_, HS1_, HS2_, HS3_, trivial⟩ (fun hHeld => ?_)
 clear hK K
 refine znm 31 ?_
 refine ybu (S' := fun w' => w'.cell? ad121 = some (.int .i64 (rd (ze1 y114 x19_1) 0)) ∧ w'.cell? ⟨ad121.block, ad121.off + 1, none⟩ = some (.int .i64 (rd (ze1 y114 x19_1) 1)) ∧ w'.cell? ad121 = some (.int .i64 (rd (ze1 y114 x19_1) 0)) ∧ w'.cell? ⟨ad121.block, ad121.off + 1, none⟩ = some (.int .i64 (rd (ze1 y114 x19_1) 1)) ∧ w'.cell? (ad129.add (t101).toNat) = some (.int .i64 (rd t126 t101))) (fun _ s => ⟨s.1, s.2.1, s.2.2.1, s.2.2.2.1, trivial⟩) ⟨hHeld.1, hHeld.2.1, hHeld.2.2.1, hHeld.2.2.2.1, hx129_0⟩ (fun hHeld => ?_)
 refine zpu 10 33 HT_ ?_
 refine ztu 11 34 HT_ HW_ hHeld ?_
 refine one_ (i := 19) (N := some 42) #[true, true, true, true, true, true, true, true, true, true, true, true, true, true, true, true, true, true, true, true, false] rfl rfl (zhj HT_.out zq23) (by decide) (fun K hK => ?_)
 refine zs2 Tryz.func86 zq23 rfl #[.slice A0 l0.length c0, .int .i64 (rd (ze1 y114 x19_1) 0), .int .i64 (rd (ze1 y114 x19_1) 1)] (by rfl) rfl rfl zq20 ?_
 with_reducible refine (zjy k1 _ _ l0 (rd (ze1 y114 x19_1) 0) (rd (ze1 y114 x19_1) 1) t132 _ ?side1 ?side2 A28.out).mono ?_
 (case side1 => repeat (first | exact (zCb HR0.out HB.out) | (with_reducible first | refine zCa ?_ _ | refine zCn ?_ _ | refine zCd ?_)))
 (case side2 => exact HC0.out)
 rintro e w35 ⟨rfl, hb⟩
 have HS0_ := (hb.cell (World.block_lt_of_cell? _ _ (hHeld.1))).trans (hHeld.1)
 have HS1_ := (hb.cell (World.block_lt_of_cell? _ _ (hHeld.2.1))).trans (hHeld.2.1)
 have HS2_ := (hb.cell (World.block_lt_of_cell? _ _ (hHeld.2.2.1))).trans (hHeld.2.2.1)
 have HS3_ := (hb.cell (World.block_lt_of_cell? _ _ (hHeld.2.2.2.1))).trans (hHeld.2.2.2.1)
 have HS4_ := (hb.cell (World.block_lt_of_cell? _ _ (hHeld.2.2.2.2))).trans (hHeld.2.2.2.2)
 refine ⟨_, rfl, ?_⟩
 replace HO_17 := zA (Kd.N_below (zq34 HO_17) hb)
 replace HL120_0 := zA (Kd.V_below (zq13 HL120_0) hb)
 replace HO125 := zA (zRb (zq3 HO125) hb)
 replace HO128 := zA (zRb (zq3 HO128) hb)
 replace HR120_0 := zA (zCb (zq15 HR120_0) hb)
 replace HB := zA (zaa zq2 hb)
 (try clear hb)
 (try clear hb2)
 (try clear hk)
 (try clear hi)
 refine hK.out _ _ ⟨HS0_, HS1_, HS2_, HS3_, HS4_⟩ (fun hHeld => ?_)
 clear hK K
 refine znm 42 ?_
 refine zpu 20 43 HT_ ?_
 refine zrb (zj4 HT_.out zq23) ?_
 try go_wp2
 go_roundg k1
 case measure => have := HK1.out; omega
 case rel => exact ⟨(wrap64 (x19_1 + 1)), zq5, H', ⟨zq31 HK1⟩, ⟨by (with_reducible repeat (first | apply Kd.N_alloc | apply Kd.N_drewN | apply Kd.N_drew)); exact Kd.N_mono HO_17.out (fun _ hk => trivial)⟩, ⟨zq2⟩⟩
def zdl : Nat → Int → List (S69) → Int → List ByteArray → List Int → Option ((List (S69)))
 | 0, _, _, _, _, _ => none
 | k + 1, x2, x7, x8, x102000, x102001 => if x8 ≥ 0 then ((zfl k x102000 x102001 x8).bind fun t105 => (if (t105.length : Int) = 0 then (none) else (if 0 ≤ (Int.tmod x2 (t105.length : Int)) then (if (Int.tmod x2 (t105.length : Int)) < (t105.length : Int) then (if 0 ≤ x8 then (if x8 < (x7.length : Int) then (zdl k (wrap64 (Int.tdiv x2 (t105.length : Int))) (x7.set (x8 : Int).toNat (⟨(zag t105 (Int.tmod x2 (t105.length : Int))).f0, (zag t105 (Int.tmod x2 (t105.length : Int))).f1, (zag t105 (Int.tmod x2 (t105.length : Int))).f2, (zag t105 (Int.tmod x2 (t105.length : Int))).f3, (zag t105 (Int.tmod x2 (t105.length : Int))).f4⟩ : S69)) (wrap64 (x8 - 1)) x102000 x102001) else (none)) else (none)) else (none)) else (none)))) else (some x7)
def zg9 (k : Nat) (l0_0 : List ByteArray) (l0_1 : List Int) (a1 : Int) (a2 : Int) : Option ((List (S69))) := if 0 ≤ a1 then (if (a1 : Int).toNat ≤ 5864062014805 then (zdl k a2 (List.replicate (a1 : Int).toNat z69) (wrap64 (a1 - 1)) l0_0 l0_1) else (none)) else (none)
theorem zmz : ∀ k, (∀ y0 y1 y2 y3 y4, LeO (zdl k y0 y1 y2 y3 y4) (zdl (k + 1) y0 y1 y2 y3 y4))
 | 0 => fun _ _ _ _ _ r h => by simp [zdl] at h
 | k + 1 => by
   have ih0 := zmz k
   · intro y0 y1 y2 y3 y4
     unfold zdl
     exact zm2 ih0 ziw
theorem zlc : ∀ a0 a1 a2 a3 k, LeO (zg9 k a0 a1 a2 a3) (zg9 (k + 1) a0 a1 a2 a3) := by
 intro a0 a1 a2 a3 k
 have ih0 := zmz k
 unfold zg9
 exact zm2 ih0 ziw
theorem znw (k : Nat) (A0_0 : Option Addr) (c0_0 : Nat) (l0_0 : List ByteArray) (A0_1 : Option Addr) (c0_1 : Nat) (l0_1 : List Int) (a1 : Int) (a2 : Int) (r : List (S69)) (w : World) (hr0_0 : Kd.C Kd.string w A0_0 l0_0.length l0_0) (hc0_0 : l0_0.length ≤ c0_0) (hr0_1 : Kd.C (Kd.int .i64) w A0_1 l0_1.length l0_1) (hc0_1 : l0_1.length ≤ c0_1) (h : zg9 k l0_0 l0_1 a1 a2 = some r) :
   Calls Tryz.prog 52 #[.agg #[.slice A0_0 l0_0.length c0_0, .slice A0_1 l0_1.length c0_1], .int .i64 a1, .int .i64 a2] w fun e w' => ∃ v0_ : Value, e = .returned (v0_) ∧ Kd.R k69 69 w' w.heap.size (fun _ => True) v0_ r ∧ Below w.heap.size w w' := by
 have hu34 := Tryz.underlying34
 have hu69 := Tryz.underlying69
 have HR0_0 := zA hr0_0
 have HC0_0 := zA hc0_0
 clear hr0_0 hc0_0
 have HR0_1 := zA hr0_1
 have HC0_1 := zA hc0_1
 clear hr0_1 hc0_1
 have HB := zA (Below.refl w.heap.size w)
 have H := h
 unfold zg9 at H
 clear h
 by_cases c4 : 0 ≤ a1
 rotate_left
 · rw [if_neg c4] at H
   exact absurd H (by simp)
 rw [if_pos c4] at H
 have c4b0 := eq_true c4
 have c4b1 := zdt c4
 clear c4
 by_cases c5 : (a1 : Int).toNat ≤ 5864062014805
 rotate_left
 · rw [if_neg c5] at H
   exact absurd H (by simp)
 rw [if_pos c5] at H
 have c5b0 := eq_true c5
 have c5b1 := zdt c5
 clear c5
 obtain ⟨y102, hy102⟩ : ∃ y_ : List (S69), y_ = (List.replicate (a1 : Int).toNat z69) := ⟨_, rfl⟩
 rw [← hy102] at H; try with_reducible replace H := zbs H
 have Ny102 := zA hy102
 clear hy102
 have H' := zA H
 clear H
 go_enter Tryz.func52, Tryz.ntmps52
 go_wp2_with (first | ((with_reducible refine zgd 3 ?_); refine zbx #[.slice A0_0 l0_0.length c0_0, .slice A0_1 l0_1.length c0_1] 34 ?_; intro gb101 hg w6 hbox hb; have zs := zpair zq2 hb; replace HB := zA (zs.1); have BK101 := zA (hbox); have GW101 := zA (zge hg zs.2); have GE101 := GW101; clear zs hb hbox hg) | ((with_reducible refine zgd 11 ?_); refine Kd.R_make k69 _ 69 rfl (N := 11) rfl 29 _ _ rfl a1 rfl rfl Tryz.underlying29 (.agg #[(.string ⟨#[]⟩), (.int .i64 0), (.int .i64 0), (.int .i64 0), (.int .i64 0)]) 48 zxu rfl (by decide) (by omega) z69 (ok := fun _ => True) (okp := fun _ => True) (zn4 _ _ _ z69 ) (fun _ hk => hk) trivial (zde zq14) (Nat.le_trans (Nat.mul_le_mul_right _ (zde zq14 : a1.toNat ≤ 5864062014805)) (by omega)) (Below.refl _ _) (zlr _) ?_; intro v103 w7 ho8 hb hg_ hnew_; clear hg_ hnew_; (first | rw [← Ny102.out] at ho8 | (simp only [Int.reduceToNat] at ho8; rw [← Ny102.out] at ho8)); have HO104 := zA (Kd.R_lower ho8 (zaf (zq1 GE101))); replace BK101 := zbb BK101 hb; replace HB := zA (zaa (zq1 GE101) hb); clear hb ho8))
 go_loopg [2, 8] k (fun kq v2 v8 w' => ∃ (x2_1 : Int) (x7_1 : List (S69)) (x8_1 : Int), v2 = .int .i64 x2_1 ∧ v8 = .int .i64 x8_1 ∧ Aside0 (zdl kq x2_1 x7_1 x8_1 l0_0 l0_1 = some r) ∧ Aside0 (kq ≤ k) ∧ Aside0 (Kd.R k69 69 w' w.heap.size (fun _ => True) v103 x7_1) ∧ Aside0 (w'.heap[gb101]? = some (.cells #[(.slice A0_0 l0_0.length c0_0), (.slice A0_1 l0_1.length c0_1)] 34 (0, 0))) ∧ Aside0 (Below w.heap.size w w'))
 case atStart => exact ⟨(a2), (y102), (wrap64 (a1 - 1)), zq5, zq5, H', ⟨zlr _⟩, ⟨zq3 HO104⟩, ⟨zq6 BK101⟩, ⟨zq1 GE101⟩⟩
 clear H'
 try clear c4
 try clear c4b0
 try clear c4b1
 try clear c5
 try clear c5b0
 try clear c5b1
 obtain ⟨x2_1, x7_1, x8_1, rfl, rfl, HA, HK1, HO_7, BK101, HB⟩ := hrel
 cases gk with
 | zero => exact absurd HA.out (by simp [zdl])
 | succ k1 =>
 have H := HA.out
 clear HA
 simp only [zdl] at H
 by_cases c9 : x8_1 ≥ 0
 rotate_left
 · rw [if_neg c9] at H
   have c9b0 := zdf c9
   clear c9
   obtain rfl := zsi H
   go_wp2
   go_ret
   exact ⟨_, zq4, zq3 HO_7, zq1 GE101⟩
 rw [if_pos c9] at H
 have c9b0 := zdt c9
 clear c9
 replace H := zob H
 obtain ⟨t105, A100, H⟩ := H
 have A10 := zA A100
 clear A100
 by_cases c11 : (t105.length : Int) = 0
 · rw [if_pos c11] at H
   exact absurd H (by simp)
 rw [if_neg c11] at H
 obtain ⟨c11b0, c11b1⟩ := zbq c11
 have c11b2 : ¬ (t105 = []) := fun h_ => c11 (by rw [h_]; rfl)
 obtain ⟨ji12, hji12⟩ : ∃ j_ : Int, (Int.tmod x2_1 (t105.length : Int)) = j_ := ⟨_, rfl⟩
 replace H : (if 0 ≤ (ji12) then (if (ji12) < (t105.length : Int) then (if 0 ≤ x8_1 then (if x8_1 < (x7_1.length : Int) then (zdl k1 (wrap64 (Int.tdiv x2_1 (t105.length : Int))) (x7_1.set (x8_1 : Int).toNat (⟨(zag t105 (ji12)).f0, (zag t105 (ji12)).f1, (zag t105 (ji12)).f2, (zag t105 (ji12)).f3, (zag t105 (ji12)).f4⟩ : S69)) (wrap64 (x8_1 - 1)) l0_0 l0_1) else (none)) else (none)) else (none)) else (none)) = some r := by first | (rw [hji12] at H; exact H) | (simp only [hji12] at H ⊢; exact H)
 (try rw [hji12] at A10)
 revert H
 refine zin fun c13 H => ?_
 revert H
 refine zin fun c14 H => ?_
 revert H
 refine zin fun c15 H => ?_
 revert H
 refine zin fun c16 H => ?_
 obtain ⟨y109, hy109⟩ : ∃ y_ : List (S69), y_ = (x7_1.set (x8_1 : Int).toNat (⟨(zag t105 (ji12)).f0, (zag t105 (ji12)).f1, (zag t105 (ji12)).f2, (zag t105 (ji12)).f3, (zag t105 (ji12)).f4⟩ : S69)) := ⟨_, rfl⟩
 rw [← hy109] at H; try with_reducible replace H := zbs H
 have Ny109 := zA hy109
 clear hy109
 have H' := zA H
 clear H
 obtain ⟨hcz18_0, hcz18_1⟩ := zc2 wr (.slice A0_0 l0_0.length c0_0) (.slice A0_1 l0_1.length c0_1) BK101.out
 obtain ⟨hfz18_0, hfz18_1⟩ := zf2 BK101.out
 go_wp2_with (first | ((with_reducible refine zgc 81 ?_); refine zca 20 Tryz.func81 #[.agg #[.slice A0_0 l0_0.length c0_0, .slice A0_1 l0_1.length c0_1], .int .i64 x8_1] (zmx k1 _ _ l0_0 _ _ l0_1 x8_1 t105 _ (zq7 HR0_0) HC0_0.out (zq7 HR0_1) HC0_1.out A10.out) ?_; rintro e w19 ⟨v106, rfl, ho0, hb⟩; refine ⟨_, rfl, ?_⟩; have HO107 := zA (Kd.R_lower (Kd.R_new' ho0 (Kd.R_lt (zq3 HO_7))) (zaf (zq1 GE101))); replace HO_7 := zA (Kd.R_elder' (zq3 HO_7) (Kd.R_base ho0) hb); replace BK101 := zbb BK101 hb; replace HB := zA (zaa (zq1 GE101) hb); (try clear hb); (try clear ho0); obtain ⟨Ao20, co20, eo20⟩ := Kd.R_slice HO107.out; subst eo20; have p108 : 0 ≤ ((ji12) : Int) := zde zq14; have q108 : (ji12) < (t105.length : Int) := zde zq14; obtain ⟨ad108, e108, hx108_0, hx108_1, hx108_2, hx108_3, hx108_4⟩ := zog (zRr HO107.out).2.2 (ji12) p108 q108; cases e108; replace p108 := eq_true p108; replace q108 := eq_true q108; have p17 : 0 ≤ (x8_1 : Int) := zde zq14; have q17 : (x8_1 : Int) < ((x7_1.length : Int) : Int) := zde zq14; obtain ⟨go17, co17, eo17, gb17, gl17, cl17, HG17⟩ := Kd.R_form HO_7.out (by omega); (first | cases eo17 | (injection eo17 with ea_ en_ ec_; (first | subst ea_ | (injection ea_ with ea_; subst ea_)); subst ec_; clear en_)); have GB17 := zA gb17; have GG17 := zA HG17; clear gb17 gl17 HG17; obtain ⟨ce17, hcl17, hM17, hcc17, hfr17⟩ := Kd.R_elem HO_7.out z69 (x8_1 : Int) p17 q17; obtain rfl := zh4 hM17; have hx17_0 : w19.cell? ⟨go17, (x8_1 : Int).toNat * 5, none⟩ = some (.string ((zag x7_1 x8_1).f0)) := hcc17 0 _ rfl; have hx17_1 : w19.cell? ⟨go17, (x8_1 : Int).toNat * 5 + 1, none⟩ = some (.int .i64 ((zag x7_1 x8_1).f1)) := hcc17 1 _ rfl; have hx17_2 : w19.cell? ⟨go17, (x8_1 : Int).toNat * 5 + 2, none⟩ = some (.int .i64 ((zag x7_1 x8_1).f2)) := hcc17 2 _ rfl; have hx17_3 : w19.cell? ⟨go17, (x8_1 : Int).toNat * 5 + 3, none⟩ = some (.int .i64 ((zag x7_1 x8_1).f3)) := hcc17 3 _ rfl; have hx17_4 : w19.cell? ⟨go17, (x8_1 : Int).toNat * 5 + 4, none⟩ = some (.int .i64 ((zag x7_1 x8_1).f4)) := hcc17 4 _ rfl; have hf17_0 : w19.frozen? ⟨go17, (x8_1 : Int).toNat * 5, none⟩ = false := hfr17 0; have hf17_1 : w19.frozen? ⟨go17, (x8_1 : Int).toNat * 5 + 1, none⟩ = false := hfr17 1; have hf17_2 : w19.frozen? ⟨go17, (x8_1 : Int).toNat * 5 + 2, none⟩ = false := hfr17 2; have hf17_3 : w19.frozen? ⟨go17, (x8_1 : Int).toNat * 5 + 3, none⟩ = false := hfr17 3; have hf17_4 : w19.frozen? ⟨go17, (x8_1 : Int).toNat * 5 + 4, none⟩ = false := hfr17 4; clear hcl17 hcc17 hfr17 hM17; replace p17 := eq_true p17; replace q17 := eq_true q17; have n_ := zA (Kd.R_mono (ok' := (fun k_ => some k_ ≠ (.slice (some ad108) t105.length co20 : Value).ownBlock)) HO_7.out (fun k_ hk => hk.2)); clear HO_7; have HO_7 := n_; clear n_; have HX21 := zA (show Kd.R k69 69 w19 w.heap.size (fun k_ => some k_ ≠ (.slice (some ad108) t105.length co20 : Value).ownBlock) (.slice (some ⟨go17, 0, none⟩) x7_1.length co17) x7_1 from (zq3 HO_7)); obtain ⟨ce21, hcl21, hM21, hcc21, hfr21⟩ := Kd.R_elem HX21.out z69 (x8_1 : Int) (zde zq14) (by have h_ : (x8_1 : Int) < ((x7_1.length : Int) : Int) := zde zq14; first | exact h_ | (have e_ := (zRr HO_7.out).1; omega) | simpa using h_); obtain rfl := zh4 hM21; have HP21 := Kd.R_seg HX21.out (x8_1 : Int) (zde zq14) (by have h_ : (x8_1 : Int) < ((x7_1.length : Int) : Int) := zde zq14; first | exact h_ | (have e_ := (zRr HO_7.out).1; omega) | simpa using h_) (seg := [.string ((zag t105 (ji12)).f0), .int .i64 ((zag t105 (ji12)).f1), .int .i64 ((zag t105 (ji12)).f2), .int .i64 ((zag t105 (ji12)).f3), .int .i64 ((zag t105 (ji12)).f4)]) (j := 0) hcl21 hcc21 (show 5 ≤ 5 from by decide) (x' := (⟨(zag t105 (ji12)).f0, (zag t105 (ji12)).f1, (zag t105 (ji12)).f2, (zag t105 (ji12)).f3, (zag t105 (ji12)).f4⟩ : S69)) (zn4 _ _ _ (⟨(zag t105 (ji12)).f0, (zag t105 (ji12)).f1, (zag t105 (ji12)).f2, (zag t105 (ji12)).f3, (zag t105 (ji12)).f4⟩ : S69) ) (fun _ hk => hk); have hx21_0 := hcc21 0 _ rfl; (try simp only [show (k69).sz = 5 from rfl, Nat.mul_one, Nat.add_zero] at hx21_0); have hf21_0 := hfr21 0; (try simp only [show (k69).sz = 5 from rfl, Nat.mul_one, Nat.add_zero] at hf21_0); have hx21_1 := hcc21 1 _ rfl; (try simp only [show (k69).sz = 5 from rfl, Nat.mul_one, Nat.add_zero] at hx21_1); have hf21_1 := hfr21 1; (try simp only [show (k69).sz = 5 from rfl, Nat.mul_one, Nat.add_zero] at hf21_1); have hx21_2 := hcc21 2 _ rfl; (try simp only [show (k69).sz = 5 from rfl, Nat.mul_one, Nat.add_zero] at hx21_2); have hf21_2 := hfr21 2; (try simp only [show (k69).sz = 5 from rfl, Nat.mul_one, Nat.add_zero] at hf21_2); have hx21_3 := hcc21 3 _ rfl; (try simp only [show (k69).sz = 5 from rfl, Nat.mul_one, Nat.add_zero] at hx21_3); have hf21_3 := hfr21 3; (try simp only [show (k69).sz = 5 from rfl, Nat.mul_one, Nat.add_zero] at hf21_3); have hx21_4 := hcc21 4 _ rfl; (try simp only [show (k69).sz = 5 from rfl, Nat.mul_one, Nat.add_zero] at hx21_4); have hf21_4 := hfr21 4; (try simp only [show (k69).sz = 5 from rfl, Nat.mul_one, Nat.add_zero] at hf21_4); clear hcl21 hcc21 hfr21 hM21) | ((with_reducible refine zgs 69 30 ?_); refine zse (((((w19.setCell ⟨go17, (x8_1 : Int).toNat * 5, none⟩ (.string ((zag t105 (ji12)).f0))).setCell ⟨go17, (x8_1 : Int).toNat * 5 + 1, none⟩ (.int .i64 ((zag t105 (ji12)).f1))).setCell ⟨go17, (x8_1 : Int).toNat * 5 + 2, none⟩ (.int .i64 ((zag t105 (ji12)).f2))).setCell ⟨go17, (x8_1 : Int).toNat * 5 + 3, none⟩ (.int .i64 ((zag t105 (ji12)).f3))).setCell ⟨go17, (x8_1 : Int).toNat * 5 + 4, none⟩ (.int .i64 ((zag t105 (ji12)).f4))) ?_; intro w22 hw; have hg : w19.grownBy w22 (some go17) := (by rw [hw]; exact HP21.2); have hp_ : Kd.R k69 69 w22 w.heap.size (fun k_ => some k_ ≠ (.slice (some ad108) t105.length co20 : Value).ownBlock) (.slice (some ⟨go17, 0, none⟩) x7_1.length co17) y109 := (by rw [hw, Ny109.out]; exact HP21.1); clear HP21; replace BK101 := zA (zgq (g := gb101) (o := .cells #[.slice A0_0 l0_0.length c0_0, .slice A0_1 l0_1.length c0_1] 34 (0, 0)) (zq6 BK101) hg (Kd.R_ne HO_7.out BK101.out (by decide))); replace HO_7 := zA (hp_); replace HO107 := zA (Kd.R_after (v := (.slice (some ⟨go17, 0, none⟩) x7_1.length co17)) (v1 := (.slice (some ⟨go17, 0, none⟩) x7_1.length co17)) (ok := (fun _ => True)) (zq3 HO107) hg (.inl rfl)); replace HB := zA ((by rw [hw]; exact zac (zac (zac (zac (zac (HB.out) GB17.out) GB17.out) GB17.out) GB17.out) GB17.out : Below w.heap.size w w22)); clear hg hw hp_))
 go_roundg k1
 case measure => have := HK1.out; omega
 case rel => exact ⟨(wrap64 (Int.tdiv x2_1 (t105.length : Int))), (y109), (wrap64 (x8_1 - 1)), zq5, zq5, H', ⟨zq31 HK1⟩, ⟨zq35 HO_7⟩, ⟨zq6 BK101⟩, ⟨zq1 GE101⟩⟩
end Go.Proofs.YtnaafcleafbejaaGreat.Q
end
section
namespace Go.Proofs.YtnaafcleafbejaaGreat.Q
open Go.RowKit Go.Proofs.YtnaafcleafbejaaGreatW.PrintWords Go.Proofs.YtnaafcleafbejaaGreatW.PrintLast Go.Proofs.YtnaafcleafbejaaGreatW.PrintMore
set_option maxHeartbeats 8000000
set_option maxRecDepth 100000
attribute [local go_sem] zbc zbg zb8 zb9 za1 za2 zbi zbj
set_option linter.unusedVariables false
set_option linter.unusedSimpArgs false
mutual
def zd7 : Nat → List (S62) → Int → Int → List (List (S69)) → Int → List ByteArray → List Int → Option ((List (List (S69))))
 | 0, _, _, _, _, _, _, _ => none
 | k + 1, x0, x2, x3, x9, x10, x102000, x102001 => (zgg k x102000 x102001 x2).bind fun t102 => (if x10 < t102 then (ze5 k x0 x2 x3 x9 x10 (decide ((x9.length : Int) < x3)) x102000 x102001) else (ze5 k x0 x2 x3 x9 x10 false x102000 x102001))
def ze5 : Nat → List (S62) → Int → Int → List (List (S69)) → Int → Bool → List ByteArray → List Int → Option ((List (List (S69))))
 | 0, _, _, _, _, _, _, _, _ => none
 | k + 1, x0, x2, x3, x9, x10, x22, x102000, x102001 => if x22 = true then ((zg9 k x102000 x102001 x2 x10).bind fun t103 => ((zff k x0 t103).bind fun t106 => (if t106 = true then (if x9.length < 5864062014805 then (zd7 k x0 x2 x3 (x9 ++ [t103]) (wrap64 (x10 + 1)) x102000 x102001) else (none)) else (zd7 k x0 x2 x3 x9 (wrap64 (x10 + 1)) x102000 x102001)))) else (some x9)
end
def zha (k : Nat) (l0 : List (S62)) (l1_0 : List ByteArray) (l1_1 : List Int) (a2 : Int) (a3 : Int) : Option ((List (List (S69)))) := zd7 k l0 a2 a3 ([] : List (List (S69))) 0 l1_0 l1_1
theorem znx : ∀ k, (∀ y0 y1 y2 y3 y4 y5 y6, LeO (zd7 k y0 y1 y2 y3 y4 y5 y6) (zd7 (k + 1) y0 y1 y2 y3 y4 y5 y6)) ∧ (∀ y0 y1 y2 y3 y4 y5 y6 y7, LeO (ze5 k y0 y1 y2 y3 y4 y5 y6 y7) (ze5 (k + 1) y0 y1 y2 y3 y4 y5 y6 y7))
 | 0 => ⟨fun _ _ _ _ _ _ _ r h => by simp [zd7] at h, fun _ _ _ _ _ _ _ _ r h => by simp [ze5] at h⟩
 | k + 1 => by
   obtain ⟨ih0, ih1⟩ := znx k
   refine ⟨?_, ?_⟩
   · intro y0 y1 y2 y3 y4 y5 y6
     unfold zd7
     exact zm5 ih0 ih1 zkr zjg zlc
   · intro y0 y1 y2 y3 y4 y5 y6 y7
     unfold ze5
     exact zm5 ih0 ih1 zkr zjg zlc
theorem zmh : ∀ a0 a1 a2 a3 a4 k, LeO (zha k a0 a1 a2 a3 a4) (zha (k + 1) a0 a1 a2 a3 a4) := by
 intro a0 a1 a2 a3 a4 k
 obtain ⟨ih0, ih1⟩ := znx k
 unfold zha
 exact zm5 ih0 ih1 zkr zjg zlc
theorem zjc (k : Nat) (A0 : Option Addr) (c0 : Nat) (l0 : List (S62)) (A1_0 : Option Addr) (c1_0 : Nat) (l1_0 : List ByteArray) (A1_1 : Option Addr) (c1_1 : Nat) (l1_1 : List Int) (a2 : Int) (a3 : Int) (r : List (List (S69))) (w : World) (hr0 : Kd.C k62 w A0 l0.length l0) (hc0 : l0.length ≤ c0) (hr1_0 : Kd.C Kd.string w A1_0 l1_0.length l1_0) (hc1_0 : l1_0.length ≤ c1_0) (hr1_1 : Kd.C (Kd.int .i64) w A1_1 l1_1.length l1_1) (hc1_1 : l1_1.length ≤ c1_1) (h : zha k l0 l1_0 l1_1 a2 a3 = some r) :
   Calls Tryz.prog 65 #[.slice A0 l0.length c0, .agg #[.slice A1_0 l1_0.length c1_0, .slice A1_1 l1_1.length c1_1], .int .i64 a2, .int .i64 a3] w fun e w' => ∃ v0_ : Value, e = .returned (v0_) ∧ Kd.S (Kd.slice 69 k69) 29 w' w.heap.size (fun _ => True) v0_ r ∧ Below w.heap.size w w' := by
 have hu34 := Tryz.underlying34
 have HR0 := zA hr0
 have HC0 := zA hc0
 clear hr0 hc0
 have HR1_0 := zA hr1_0
 have HC1_0 := zA hc1_0
 clear hr1_0 hc1_0
 have HR1_1 := zA hr1_1
 have HC1_1 := zA hc1_1
 clear hr1_1 hc1_1
 have HB := zA (Below.refl w.heap.size w)
 have H := h
 unfold zha at H
 clear h
 have H' := zA H
 clear H
 go_enter Tryz.func65, Tryz.ntmps65
 go_wp2_with (first | ((with_reducible refine zgd 5 ?_); (try (refine zl4 (by rfl) ?_; dsimp only)); refine zh9 ?hg (N := 5) ?hd (cs := #[.slice A1_0 l1_0.length c1_0, .slice A1_1 l1_1.length c1_1]) (t := 34) ?hr ?_; (case hd => rfl); (case hg => rfl); (case hr => go_simp <;> rfl); intro gb101 hg w5 hbox hb; have zs := zpair zq2 hb; replace HB := zA (zs.1); have BK101 := zA (hbox); have GW101 := zA (zge hg zs.2); have GE101 := GW101; clear zs hb hbox hg))
 go_loopg [9, 10] k (fun kq v9 v10 w' => ∃ (x9_1 : List (List (S69))) (x10_1 : Int), v10 = .int .i64 x10_1 ∧ Aside0 (zd7 kq l0 a2 a3 x9_1 x10_1 l1_0 l1_1 = some r) ∧ Aside0 (kq ≤ k) ∧ Aside0 (Kd.S (Kd.slice 69 k69) 29 w' w.heap.size (fun _ => True) v9 x9_1) ∧ Aside0 (w'.heap[gb101]? = some (.cells #[(.slice A1_0 l1_0.length c1_0), (.slice A1_1 l1_1.length c1_1)] 34 (0, 0))) ∧ Aside0 (Below w.heap.size w w'))
 case atStart => exact ⟨(([] : List (List (S69)))), (0), zq5, H', ⟨zlr _⟩, ⟨zq44⟩, ⟨zq6 BK101⟩, ⟨zq1 GE101⟩⟩
 clear H'
 obtain ⟨x9_1, x10_1, rfl, HA, HK1, HO_9, BK101, HB⟩ := hrel
 cases gk with
 | zero => exact absurd HA.out (by simp [zd7])
 | succ k1 =>
 have H := HA.out
 clear HA
 simp only [zd7] at H
 have HC6 := zA H
 clear H
 go_upto_region 3 with (fail)
 go_cut [22] (fun v22 wc => ∃ (kq : Nat) (x22_5 : Bool), v22 = .bool x22_5 ∧ Aside0 (ze5 kq l0 a2 a3 x9_1 x10_1 x22_5 l1_0 l1_1 = some r) ∧ Aside0 (kq ≤ k1) ∧ Aside0 (Kd.S (Kd.slice 69 k69) 29 wc w.heap.size (fun _ => True) u9 x9_1) ∧ Aside0 (wc.heap[gb101]? = some (.cells #[(.slice A1_0 l1_0.length c1_0), (.slice A1_1 l1_1.length c1_1)] 34 (0, 0))) ∧ Aside0 (Below w.heap.size w wc))
 case first =>
   have H := HC6.out
   clear HC6
   replace H := zob H
   obtain ⟨t102, A70, H⟩ := H
   have A7 := zA A70
   clear A70
   revert H
   refine zit (fun c8 H => ?_) fun c8 H => ?_
   rotate_left
   · (first | rw [c8b0] | (simp only [zic, zj6]; rw [c8b0]) | skip)
     have H' := zA H
     clear H
     obtain ⟨hcz12_0, hcz12_1⟩ := zc2 wr (.slice A1_0 l1_0.length c1_0) (.slice A1_1 l1_1.length c1_1) BK101.out
     obtain ⟨hfz12_0, hfz12_1⟩ := zf2 BK101.out
     go_wp2_with (first | ((with_reducible refine zgc 51 ?_); refine zca 15 Tryz.func51 #[.agg #[.slice A1_0 l1_0.length c1_0, .slice A1_1 l1_1.length c1_1], .int .i64 a2] (zmy k1 _ _ l1_0 _ _ l1_1 a2 t102 _ (zq7 HR1_0) HC1_0.out (zq7 HR1_1) HC1_1.out A7.out) ?_; rintro e w13 ⟨rfl, hb⟩; refine ⟨_, rfl, ?_⟩; replace HO_9 := zA (Kd.S_below (zq33 HO_9) hb); replace BK101 := zbb BK101 hb; replace HB := zA (zaa (zq1 GE101) hb); (try clear hb)))
     go_meet
     case rel => exact ⟨_, (false), zq5, H', ⟨zq36 HK1⟩, ⟨zq33 HO_9⟩, ⟨zq6 BK101⟩, ⟨zq1 GE101⟩⟩
   (first | rw [c8b0] | (simp only [zic, zj6]; rw [c8b0]) | skip)
   have H' := zA H
   clear H
   obtain ⟨hcz9_0, hcz9_1⟩ := zc2 wr (.slice A1_0 l1_0.length c1_0) (.slice A1_1 l1_1.length c1_1) BK101.out
   obtain ⟨hfz9_0, hfz9_1⟩ := zf2 BK101.out
   go_wp2_with (first | ((with_reducible refine zgc 51 ?_); refine zca 15 Tryz.func51 #[.agg #[.slice A1_0 l1_0.length c1_0, .slice A1_1 l1_1.length c1_1], .int .i64 a2] (zmy k1 _ _ l1_0 _ _ l1_1 a2 t102 _ (zq7 HR1_0) HC1_0.out (zq7 HR1_1) HC1_1.out A7.out) ?_; rintro e w10 ⟨rfl, hb⟩; refine ⟨_, rfl, ?_⟩; replace HO_9 := zA (Kd.S_below (zq33 HO_9) hb); replace BK101 := zbb BK101 hb; replace HB := zA (zaa (zq1 GE101) hb); (try clear hb); obtain ⟨Ao11, co11, eo11⟩ := Kd.S_slice HO_9.out; subst eo11))
   go_meet
   case rel => exact ⟨_, (decide ((x9_1.length : Int) < a3)), zq5, H', ⟨zq36 HK1⟩, ⟨zq33 HO_9⟩, ⟨zq6 BK101⟩, ⟨zq1 GE101⟩⟩
 clear HC6
 try clear c8
 try clear c8b0
 try clear hcz12_0
 try clear hcz12_1
 try clear hcz9_0
 try clear hcz9_1
 try clear hfz12_0
 try clear hfz12_1
 try clear hfz9_0
 try clear hfz9_1
 obtain ⟨kq, x22_5, rfl, HA, HJ5, HO_9, BK101, HB⟩ := hcut
 cases kq with
 | zero => exact absurd HA.out (by simp [ze5])
 | succ kj5 =>
 have H := HA.out
 clear HA
 simp only [ze5] at H
 by_cases c14 : x22_5 = true
 rotate_left
 · replace c14 := zbf c14
   subst c14
   replace H := zif H
   obtain rfl := zsi H
   go_wp2
   go_ret
   exact ⟨_, zq4, zq33 HO_9, zq1 GE101⟩
 subst c14
 replace H := zih H
 replace H := zob H
 obtain ⟨t103, A150, H⟩ := H
 have A15 := zA A150
 clear A150
 replace H := zob H
 obtain ⟨t106, A160, H⟩ := H
 have A16 := zA A160
 clear A160
 by_cases c17 : t106 = true
 rotate_left
 · replace c17 := zbf c17
   subst c17
   replace H := zif H
   have H' := zA H
   clear H
   obtain ⟨hcz24_0, hcz24_1⟩ := zc2 wc (.slice A1_0 l1_0.length c1_0) (.slice A1_1 l1_1.length c1_1) BK101.out
   obtain ⟨hfz24_0, hfz24_1⟩ := zf2 BK101.out
   go_wp2_with (first | ((with_reducible refine zgc 52 ?_); refine zca 28 Tryz.func52 #[.agg #[.slice A1_0 l1_0.length c1_0, .slice A1_1 l1_1.length c1_1], .int .i64 a2, .int .i64 x10_1] (znw kj5 _ _ l1_0 _ _ l1_1 a2 x10_1 t103 _ (zq7 HR1_0) HC1_0.out (zq7 HR1_1) HC1_1.out A15.out) ?_; rintro e w25 ⟨v104, rfl, ho0, hb⟩; refine ⟨_, rfl, ?_⟩; replace HO_9 := zA (Kd.S_elder' (zq33 HO_9) (Kd.R_base ho0) hb); have HO105 := zA (Kd.R_lower ho0 (zaf (zq1 GE101))); replace BK101 := zbb BK101 hb; replace HB := zA (zaa (zq1 GE101) hb); (try clear hb); (try clear ho0); obtain ⟨Ao26, co26, eo26⟩ := Kd.R_slice HO105.out; subst eo26) | ((with_reducible refine zgc 54 ?_); refine zca 31 Tryz.func54 #[.slice A0 l0.length c0, .slice Ao26 t103.length co26] (zlv kj5 _ _ l0 _ _ t103 false _ (zq7 HR0) HC0.out (zq28 HO105) (by exact (zRr HO105.out).2.1) A16.out) ?_; rintro e w27 ⟨rfl, hb⟩; refine ⟨_, rfl, ?_⟩; replace HO_9 := zA (Kd.S_below (zq33 HO_9) hb); replace HO105 := zA (zRb (zq3 HO105) hb); replace BK101 := zbb BK101 hb; replace HB := zA (zaa (zq1 GE101) hb); (try clear hb)))
   go_roundg kj5
   case measure => have := HK1.out; have := HJ5.out; omega
   case rel => exact ⟨(x9_1), (wrap64 (x10_1 + 1)), zq5, H', ⟨zq39 HK1 HJ5⟩, ⟨by (with_reducible repeat (first | apply zSa | apply zSn | apply zSd)); exact Kd.S_mono HO_9.out (fun _ hk => trivial)⟩, ⟨zq6 BK101⟩, ⟨zq1 GE101⟩⟩
 subst c17
 replace H := zih H
 by_cases c18 : x9_1.length < 5864062014805
 rotate_left
 · rw [if_neg c18] at H
   exact absurd H (by simp)
 rw [if_pos c18] at H
 have LMc18 := zA c18
 clear c18
 obtain ⟨y107, hy107⟩ : ∃ y_ : List (List (S69)), y_ = (x9_1 ++ [t103]) := ⟨_, rfl⟩
 rw [← hy107] at H; try with_reducible replace H := zbs H
 have Ny107 := zA hy107
 clear hy107
 have H' := zA H
 clear H
 obtain ⟨hcz19_0, hcz19_1⟩ := zc2 wc (.slice A1_0 l1_0.length c1_0) (.slice A1_1 l1_1.length c1_1) BK101.out
 obtain ⟨hfz19_0, hfz19_1⟩ := zf2 BK101.out
 go_wp2_with (first | ((with_reducible refine zgc 52 ?_); refine zca 28 Tryz.func52 #[.agg #[.slice A1_0 l1_0.length c1_0, .slice A1_1 l1_1.length c1_1], .int .i64 a2, .int .i64 x10_1] (znw kj5 _ _ l1_0 _ _ l1_1 a2 x10_1 t103 _ (zq7 HR1_0) HC1_0.out (zq7 HR1_1) HC1_1.out A15.out) ?_; rintro e w20 ⟨v104, rfl, ho0, hb⟩; refine ⟨_, rfl, ?_⟩; replace HO_9 := zA (Kd.S_elder' (zq33 HO_9) (Kd.R_base ho0) hb); have HO105 := zA (Kd.R_lower ho0 (zaf (zq1 GE101))); replace BK101 := zbb BK101 hb; replace HB := zA (zaa (zq1 GE101) hb); (try clear hb); (try clear ho0); obtain ⟨Ao21, co21, eo21⟩ := Kd.R_slice HO105.out; subst eo21) | ((with_reducible refine zgc 54 ?_); refine zca 31 Tryz.func54 #[.slice A0 l0.length c0, .slice Ao21 t103.length co21] (zlv kj5 _ _ l0 _ _ t103 true _ (zq7 HR0) HC0.out (zq28 HO105) (by exact (zRr HO105.out).2.1) A16.out) ?_; rintro e w22 ⟨rfl, hb⟩; refine ⟨_, rfl, ?_⟩; replace HO_9 := zA (Kd.S_below (zq33 HO_9) hb); replace HO105 := zA (zRb (zq3 HO105) hb); replace BK101 := zbb BK101 hb; replace HB := zA (zaa (zq1 GE101) hb); (try clear hb)) | ((with_reducible refine zez (b := .append) (xs := #[.tmp 32, .tmp 34]) rfl ?_); (try (refine zl4 (by rfl) ?_; dsimp only)); at_builtin; refine Kd.S_append (Kd.slice 69 k69) (w0 := w) w.heap.size rfl (.tmp 32) (.tmp 34) 43 29 (.slice none 0 0) 24 rfl Tryz.underlying43 yeq rfl (by decide) (by omega) u9 x9_1 t103 [.slice Ao21 t103.length co21] (fun _ => True) (fun k_ => some k_ = (.slice Ao21 t103.length co21 : Value).ownBlock) rfl rfl ?aP (fun k_ hk_ => ((Kd.R_mono (ok' := fun k_ => ((fun _ => True)) k_ ∧ some k_ ≠ (u9 : Value).ownBlock) (Kd.R_apart' (HO105.out) (Kd.S_typed HO_9.out) (by decide)) (fun k_ hk => ⟨trivial, hk.2⟩))).1 k_ hk_.symm) ?aF ?aO ?aB ?aS ?aL ?_; (case aP => exact Kd.M_row (Kd.R_mono (Kd.R_tight rfl (Kd.R_mono (ok' := fun k_ => ((fun _ => True)) k_ ∧ some k_ ≠ (u9 : Value).ownBlock) (Kd.R_apart' (HO105.out) (Kd.S_typed HO_9.out) (by decide)) (fun k_ hk => ⟨trivial, hk.2⟩))) (fun _ h_ => h_))); (case aB => exact (zq1 GE101)); (case aF => exact (fun _ _ => trivial)); (case aO => exact (by (with_reducible repeat (first | apply zSa | apply zSn | apply zSd)); exact Kd.S_mono HO_9.out (fun k_ hk => ⟨trivial, fun e_ => hk.2 e_⟩))); (case aS => exact (zaf (zq1 GE101))); (case aL => have := LMc18.out; omega); intro v108 w23 ho hb hg hat; rw [← Ny107.out] at ho; replace BK101 := zA (zgq (g := gb101) (o := .cells #[.slice A1_0 l1_0.length c1_0, .slice A1_1 l1_1.length c1_1] 34 (0, 0)) (zq6 BK101) hg (Kd.S_ne HO_9.out BK101.out (by decide))); replace HB := zA (hb); have HO109 := zA (ho); clear HO_9 HO105; clear ho hb hg hat))
 go_roundg kj5
 case measure => have := HK1.out; have := HJ5.out; omega
 case rel => exact ⟨(y107), (wrap64 (x10_1 + 1)), zq5, H', ⟨zq39 HK1 HJ5⟩, ⟨zq33 HO109⟩, ⟨zq6 BK101⟩, ⟨zq1 GE101⟩⟩
end Go.Proofs.YtnaafcleafbejaaGreat.Q
end
section
namespace Go.Proofs.YtnaafcleafbejaaGreat.Q
open Go.RowKit Go.Proofs.YtnaafcleafbejaaGreatW.PrintWords Go.Proofs.YtnaafcleafbejaaGreatW.PrintLast Go.Proofs.YtnaafcleafbejaaGreatW.PrintMore
set_option maxHeartbeats 8000000
set_option maxRecDepth 100000
attribute [local go_sem] zbc zbg zb8 zb9 za1 za2 zbi zbj
set_option linter.unusedVariables false
set_option linter.unusedSimpArgs false
def zdj : Nat → List (S62) → Int → Int → List ByteArray → List Int → Option ((List (S69)) × Bool)
 | 0, _, _, _, _, _ => none
 | k + 1, x0, x2, x8, x102000, x102001 => if x8 ≤ x2 then ((zha k x0 x102000 x102001 x8 1).bind fun t102 => (if (t102.length : Int) > 0 then (if 0 < (t102.length : Int) then (some (zji t102 0, true)) else (none)) else (zdj k x0 x2 (wrap64 (x8 + 1)) x102000 x102001))) else (some (([] : List (S69)), false))
def zgi (k : Nat) (l0 : List (S62)) (l1_0 : List ByteArray) (l1_1 : List Int) (a2 : Int) : Option ((List (S69)) × Bool) := zdj k l0 a2 0 l1_0 l1_1
theorem zmi : ∀ k, (∀ y0 y1 y2 y3 y4, LeO (zdj k y0 y1 y2 y3 y4) (zdj (k + 1) y0 y1 y2 y3 y4))
 | 0 => fun _ _ _ _ _ r h => by simp [zdj] at h
 | k + 1 => by
   have ih0 := zmi k
   · intro y0 y1 y2 y3 y4
     unfold zdj
     exact zm2 ih0 zmh
theorem zr5 : ∀ a0 a1 a2 a3 k, LeO (zgi k a0 a1 a2 a3) (zgi (k + 1) a0 a1 a2 a3) := by
 intro a0 a1 a2 a3 k
 have ih0 := zmi k
 unfold zgi
 exact zm2 ih0 zmh
theorem zj1 (k : Nat) (A0 : Option Addr) (c0 : Nat) (l0 : List (S62)) (A1_0 : Option Addr) (c1_0 : Nat) (l1_0 : List ByteArray) (A1_1 : Option Addr) (c1_1 : Nat) (l1_1 : List Int) (a2 : Int) (r1 : List (S69)) (r2 : Bool) (w : World) (hr0 : Kd.C k62 w A0 l0.length l0) (hc0 : l0.length ≤ c0) (hr1_0 : Kd.C Kd.string w A1_0 l1_0.length l1_0) (hc1_0 : l1_0.length ≤ c1_0) (hr1_1 : Kd.C (Kd.int .i64) w A1_1 l1_1.length l1_1) (hc1_1 : l1_1.length ≤ c1_1) (h : zgi k l0 l1_0 l1_1 a2 = some (r1, r2)) :
   Calls Tryz.prog 40 #[.slice A0 l0.length c0, .agg #[.slice A1_0 l1_0.length c1_0, .slice A1_1 l1_1.length c1_1], .int .i64 a2] w fun e w' => ∃ v0_ : Value, e = .returned (.tuple #[v0_, .bool r2]) ∧ Kd.R k69 69 w' w.heap.size (fun _ => True) v0_ r1 ∧ Below w.heap.size w w' := by
 have hu34 := Tryz.underlying34
 have HR0 := zA hr0
 have HC0 := zA hc0
 clear hr0 hc0
 have HR1_0 := zA hr1_0
 have HC1_0 := zA hc1_0
 clear hr1_0 hc1_0
 have HR1_1 := zA hr1_1
 have HC1_1 := zA hc1_1
 clear hr1_1 hc1_1
 have HB := zA (Below.refl w.heap.size w)
 have H := h
 unfold zgi at H
 clear h
 have H' := zA H
 clear H
 go_enter Tryz.func40, Tryz.ntmps40
 go_wp2_with (first | ((with_reducible refine zgd 4 ?_); refine zbx #[.slice A1_0 l1_0.length c1_0, .slice A1_1 l1_1.length c1_1] 34 ?_; intro gb101 hg w4 hbox hb; have zs := zpair zq2 hb; replace HB := zA (zs.1); have BK101 := zA (hbox); have GW101 := zA (zge hg zs.2); have GE101 := GW101; clear zs hb hbox hg))
 go_loopg [8] k (fun kq v8 w' => ∃ (x8_1 : Int), v8 = .int .i64 x8_1 ∧ Aside0 (zdj kq l0 a2 x8_1 l1_0 l1_1 = some (r1, r2)) ∧ Aside0 (kq ≤ k) ∧ Aside0 (w'.heap[gb101]? = some (.cells #[(.slice A1_0 l1_0.length c1_0), (.slice A1_1 l1_1.length c1_1)] 34 (0, 0))) ∧ Aside0 (Below w.heap.size w w'))
 case atStart => exact ⟨(0), zq5, H', ⟨zlr _⟩, ⟨zq6 BK101⟩, ⟨zq1 GE101⟩⟩
 clear H'
 obtain ⟨x8_1, rfl, HA, HK1, BK101, HB⟩ := hrel
 cases gk with
 | zero => exact absurd HA.out (by simp [zdj])
 | succ k1 =>
 have H := HA.out
 clear HA
 simp only [zdj] at H
 revert H
 refine zit (fun c5 H => ?_) fun c5 H => ?_
 rotate_left
 · simp only [Option.some.injEq, Prod.mk.injEq] at H
   obtain ⟨rfl, rfl⟩ := H
   go_wp2
   go_ret2
   exact ⟨_, zq4, zq43, zq1 GE101⟩
 replace H := zob H
 obtain ⟨t102, A60, H⟩ := H
 have A6 := zA A60
 clear A60
 by_cases c7 : (t102.length : Int) > 0
 rotate_left
 · rw [if_neg c7] at H
   have c7b0 := zdf c7
   have c7b1 : decide (0 < t102.length) = false := zdf (by omega)
   clear c7
   have H' := zA H
   clear H
   obtain ⟨hcz12_0, hcz12_1⟩ := zc2 wr (.slice A1_0 l1_0.length c1_0) (.slice A1_1 l1_1.length c1_1) BK101.out
   obtain ⟨hfz12_0, hfz12_1⟩ := zf2 BK101.out
   go_wp2_with (first | ((with_reducible refine zgc 65 ?_); refine zca 18 Tryz.func65 #[.slice A0 l0.length c0, .agg #[.slice A1_0 l1_0.length c1_0, .slice A1_1 l1_1.length c1_1], .int .i64 x8_1, .int .i64 1] (zjc k1 _ _ l0 _ _ l1_0 _ _ l1_1 x8_1 1 t102 _ (zq7 HR0) HC0.out (zq7 HR1_0) HC1_0.out (zq7 HR1_1) HC1_1.out A6.out) ?_; rintro e w13 ⟨v103, rfl, ho0, hb⟩; refine ⟨_, rfl, ?_⟩; have HO104 := zA (Kd.S_lower ho0 (zaf (zq1 GE101))); replace BK101 := zbb BK101 hb; replace HB := zA (zaa (zq1 GE101) hb); (try clear hb); (try clear ho0); obtain ⟨Ao14, co14, eo14⟩ := Kd.S_slice HO104.out; subst eo14))
   go_roundg k1
   case measure => have := HK1.out; omega
   case rel => exact ⟨(wrap64 (x8_1 + 1)), zq5, H', ⟨zq31 HK1⟩, ⟨zq6 BK101⟩, ⟨zq1 GE101⟩⟩
 rw [if_pos c7] at H
 have c7b0 := zdt c7
 have c7b1 : decide (0 < t102.length) = true := zdt (by omega)
 clear c7
 by_cases c8 : 0 < (t102.length : Int)
 rotate_left
 · rw [if_neg c8] at H
   exact absurd H (by simp)
 rw [if_pos c8] at H
 have c8b0 := zdt c8
 have c8b1 : decide (0 < t102.length) = true := zdt (by omega)
 clear c8
 simp only [Option.some.injEq, Prod.mk.injEq] at H
 obtain ⟨rfl, rfl⟩ := H
 obtain ⟨hcz9_0, hcz9_1⟩ := zc2 wr (.slice A1_0 l1_0.length c1_0) (.slice A1_1 l1_1.length c1_1) BK101.out
 obtain ⟨hfz9_0, hfz9_1⟩ := zf2 BK101.out
 go_wp2_with (first | ((with_reducible refine zgc 65 ?_); refine zca 18 Tryz.func65 #[.slice A0 l0.length c0, .agg #[.slice A1_0 l1_0.length c1_0, .slice A1_1 l1_1.length c1_1], .int .i64 x8_1, .int .i64 1] (zjc k1 _ _ l0 _ _ l1_0 _ _ l1_1 x8_1 1 t102 _ (zq7 HR0) HC0.out (zq7 HR1_0) HC1_0.out (zq7 HR1_1) HC1_1.out A6.out) ?_; rintro e w10 ⟨v103, rfl, ho0, hb⟩; refine ⟨_, rfl, ?_⟩; have HO104 := zA (Kd.S_lower ho0 (zaf (zq1 GE101))); replace BK101 := zbb BK101 hb; replace HB := zA (zaa (zq1 GE101) hb); (try clear hb); (try clear ho0); obtain ⟨Ao11, co11, eo11⟩ := Kd.S_slice HO104.out; subst eo11; have p105 : 0 ≤ (0 : Int) := (by omega); have q105 : 0 < (t102.length : Int) := zde zq14; obtain ⟨ad105, A105_0, c105_0, e105, hx105_0, hl105_0, hi105_0⟩ := zxv (zSr HO104.out).2.2 0 p105 q105; cases e105; obtain ⟨ce105, hce105, hMe105, hcc105⟩ := Kd.S_get HO104.out [] 0 p105 (by first | exact q105 | exact zde zq14 | (have e_ := (zSr HO104.out).1; omega)); obtain ⟨ve105_0, rfl, ge105_0⟩ := hMe105; have hv105_0 := hcc105 0 _ rfl; rw [Nat.add_zero, show ((Kd.slice 69 k69)).sz = 1 from rfl, Nat.mul_one] at hv105_0; replace hv105_0 := zsi (hv105_0.symm.trans hx105_0); rw [hv105_0] at ge105_0; have HL105_0 := zA (show Kd.R k69 69 _ _ _ _ (zji t102 0) from ge105_0); clear hv105_0 ge105_0; clear hcc105 hce105; have qi105 : (0 < t102.length) = True := eq_true (by omega); (try rw [show ((0 : Int)).toNat = 0 from rfl] at hx105_0); (try rw [Addr.add_zero'] at hx105_0); have HR105_0 := zA hi105_0; have HC105_0 := zA hl105_0; clear hi105_0 hl105_0; replace p105 := eq_true p105; replace q105 := eq_true q105))
 go_ret2
 exact ⟨_, zq4, zq35 HL105_0, zq1 GE101⟩
def zm0  : Option (List ByteArray) := some (([(⟨#[97, 100, 100]⟩ : ByteArray), (⟨#[115, 117, 98]⟩ : ByteArray), (⟨#[109, 117, 108]⟩ : ByteArray), (⟨#[97, 110, 100]⟩ : ByteArray), (⟨#[111, 114]⟩ : ByteArray), (⟨#[120, 111, 114]⟩ : ByteArray), (⟨#[115, 104, 108]⟩ : ByteArray), (⟨#[115, 104, 114]⟩ : ByteArray), (⟨#[108, 101, 115, 115]⟩ : ByteArray), (⟨#[101, 113]⟩ : ByteArray)] : List ByteArray))
theorem zsx  (r : List ByteArray) (w : World) (h : zm0  = some r) :
   Calls Tryz.prog 184 #[] w fun e w' => ∃ v0_ : Value, e = .returned (v0_) ∧ Kd.R Kd.string 9 w' w.heap.size (fun _ => True) v0_ r ∧ Below w.heap.size w w' := by
 have HB := zA (Below.refl w.heap.size w)
 have H := h
 unfold zm0 at H
 clear h
 obtain ⟨y101, hy101⟩ : ∃ y_ : List ByteArray, y_ = (([(⟨#[97, 100, 100]⟩ : ByteArray), (⟨#[115, 117, 98]⟩ : ByteArray), (⟨#[109, 117, 108]⟩ : ByteArray), (⟨#[97, 110, 100]⟩ : ByteArray), (⟨#[111, 114]⟩ : ByteArray), (⟨#[120, 111, 114]⟩ : ByteArray), (⟨#[115, 104, 108]⟩ : ByteArray), (⟨#[115, 104, 114]⟩ : ByteArray), (⟨#[108, 101, 115, 115]⟩ : ByteArray), (⟨#[101, 113]⟩ : ByteArray)] : List ByteArray)) := ⟨_, rfl⟩
 rw [← hy101] at H; try with_reducible replace H := zbs H
 have Ny101 := zA hy101
 clear hy101
 obtain rfl := zsi H
 go_enter Tryz.func184, Tryz.ntmps184
 go_wp2_with (first | ((with_reducible refine zgd 1 ?_); refine Kd.R_lit Kd.string _ 9 ?hg (N := 1) ?hd (xs := ([(⟨#[97, 100, 100]⟩ : ByteArray), (⟨#[115, 117, 98]⟩ : ByteArray), (⟨#[109, 117, 108]⟩ : ByteArray), (⟨#[97, 110, 100]⟩ : ByteArray), (⟨#[111, 114]⟩ : ByteArray), (⟨#[120, 111, 114]⟩ : ByteArray), (⟨#[115, 104, 108]⟩ : ByteArray), (⟨#[115, 104, 114]⟩ : ByteArray), (⟨#[108, 101, 115, 115]⟩ : ByteArray), (⟨#[101, 113]⟩ : ByteArray)] : List ByteArray)) (inner := [.string (⟨#[97, 100, 100]⟩ : ByteArray), .string (⟨#[115, 117, 98]⟩ : ByteArray), .string (⟨#[109, 117, 108]⟩ : ByteArray), .string (⟨#[97, 110, 100]⟩ : ByteArray), .string (⟨#[111, 114]⟩ : ByteArray), .string (⟨#[120, 111, 114]⟩ : ByteArray), .string (⟨#[115, 104, 108]⟩ : ByteArray), .string (⟨#[115, 104, 114]⟩ : ByteArray), .string (⟨#[108, 101, 115, 115]⟩ : ByteArray), .string (⟨#[101, 113]⟩ : ByteArray)]) (ok := fun _ => True) (okp := fun _ => True) ?hr ?hp (fun _ hk => hk) trivial (Below.refl _ _) (zlr _) (by simp) ?_; (case hd => rfl); (case hg => rfl); (case hr => go_simp <;> rfl); (case hp => exact (zaz (show Kd.M Kd.string _ _ _ (⟨#[97, 100, 100]⟩ : ByteArray) [.string (⟨#[97, 100, 100]⟩ : ByteArray)] from rfl) (zaz (show Kd.M Kd.string _ _ _ (⟨#[115, 117, 98]⟩ : ByteArray) [.string (⟨#[115, 117, 98]⟩ : ByteArray)] from rfl) (zaz (show Kd.M Kd.string _ _ _ (⟨#[109, 117, 108]⟩ : ByteArray) [.string (⟨#[109, 117, 108]⟩ : ByteArray)] from rfl) (zaz (show Kd.M Kd.string _ _ _ (⟨#[97, 110, 100]⟩ : ByteArray) [.string (⟨#[97, 110, 100]⟩ : ByteArray)] from rfl) (zaz (show Kd.M Kd.string _ _ _ (⟨#[111, 114]⟩ : ByteArray) [.string (⟨#[111, 114]⟩ : ByteArray)] from rfl) (zaz (show Kd.M Kd.string _ _ _ (⟨#[120, 111, 114]⟩ : ByteArray) [.string (⟨#[120, 111, 114]⟩ : ByteArray)] from rfl) (zaz (show Kd.M Kd.string _ _ _ (⟨#[115, 104, 108]⟩ : ByteArray) [.string (⟨#[115, 104, 108]⟩ : ByteArray)] from rfl) (zaz (show Kd.M Kd.string _ _ _ (⟨#[115, 104, 114]⟩ : ByteArray) [.string (⟨#[115, 104, 114]⟩ : ByteArray)] from rfl) (zaz (show Kd.M Kd.string _ _ _ (⟨#[108, 101, 115, 115]⟩ : ByteArray) [.string (⟨#[108, 101, 115, 115]⟩ : ByteArray)] from rfl) (zaz (show Kd.M Kd.string _ _ _ (⟨#[101, 113]⟩ : ByteArray) [.string (⟨#[101, 113]⟩ : ByteArray)] from rfl) (Reps.none _ _)))))))))))); intro v102 w1 ho2 hb hg_ hnew_; clear hg_ hnew_; (first | rw [← Ny101.out] at ho2 | (simp only [Int.reduceToNat] at ho2; rw [← Ny101.out] at ho2)); have HO103 := zA (Kd.R_lower ho2 (zaf zq2)); replace HB := zA (zaa zq2 hb); clear hb ho2))
 go_ret
 exact ⟨_, zq4, zq3 HO103, zq2⟩
def zhb (k : Nat) (a0 : ByteArray) : Option (Bool) := (zm0).bind fun t101 => ((zfk k t101 a0).bind fun t104 => (some t104))
theorem zo3 : ∀ a0 k, LeO (zhb k a0) (zhb (k + 1) a0) := by
 intro a0 k
 unfold zhb
 exact zm1 zgv
theorem zgw (k : Nat) (a0 : ByteArray) (r : Bool) (w : World) (h : zhb k a0 = some r) :
   Calls Tryz.prog 154 #[.string a0] w fun e w' => e = .returned (.bool r) ∧ Below w.heap.size w w' := by
 have HB := zA (Below.refl w.heap.size w)
 have H := h
 unfold zhb at H
 clear h
 replace H := zob H
 obtain ⟨t101, A20, H⟩ := H
 have A2 := zA A20
 clear A20
 replace H := zob H
 obtain ⟨t104, A30, H⟩ := H
 have A3 := zA A30
 clear A30
 obtain rfl := zsi H
 go_enter Tryz.func154, Tryz.ntmps154
 go_wp2_with (first | ((with_reducible refine zgc 184 ?_); refine zcl 3 Tryz.func184 (zsx  t101 _ A2.out) ?_; rintro e w4 ⟨v102, rfl, ho0, hb⟩; refine ⟨_, rfl, ?_⟩; have HO103 := zA (Kd.R_lower ho0 (zaf zq2)); replace HB := zA (zaa zq2 hb); (try clear hb); (try clear ho0); obtain ⟨Ao5, co5, eo5⟩ := Kd.R_slice HO103.out; subst eo5) | ((with_reducible refine zgc 99 ?_); refine zca 5 Tryz.func99 #[.slice Ao5 t101.length co5, .string a0] (zgn k _ _ t101 a0 t104 _ (zq28 HO103) (by exact (zRr HO103.out).2.1) A3.out) ?_; rintro e w' ⟨rfl, ⟨nd, rfl⟩⟩; refine ⟨_, rfl, ?_⟩))
 exact zr_4
def zet (a0 : Int) (a1 : Int) (a2 : Int) : Option (Bool) := if a0 ≥ a1 then (some (decide (a0 ≤ a2))) else (some false)
theorem zbm (a0 : Int) (a1 : Int) (a2 : Int) (r : Bool) (w : World) (h : zet a0 a1 a2 = some r) :
   Calls Tryz.prog 79 #[.int .i64 a0, .int .i64 a1, .int .i64 a2] w fun e w' => e = .returned (.bool r) ∧ Drawn0 w w' := by
 have H := h
 unfold zet at H
 clear h
 revert H
 refine zit (fun c4b0 H => ?_) fun c4b0 H => ?_
 · obtain rfl := zsi H
   go_enter Tryz.func79, Tryz.ntmps79
   exact zr_1
 · obtain rfl := zsi H
   go_enter Tryz.func79, Tryz.ntmps79
   exact zr_1
def zl2 (a0 : Int) : Option (Bool) := (zet a0 0 63).bind fun t101 => (some t101)
theorem zr6 (a0 : Int) (r : Bool) (w : World) (h : zl2 a0 = some r) :
   Calls Tryz.prog 152 #[.int .i64 a0] w fun e w' => e = .returned (.bool r) ∧ Drawn0 w w' := by
 have H := h
 unfold zl2 at H
 clear h
 replace H := zob H
 obtain ⟨t101, A20, H⟩ := H
 have A2 := zA A20
 clear A20
 obtain rfl := zsi H
 go_enter Tryz.func152, Tryz.ntmps152
 go_wp2_with (first | ((with_reducible refine zgc 79 ?_); refine zcl 4 Tryz.func79 (zbm a0 0 63 t101 _ A2.out) ?_; rintro e w' ⟨rfl, ⟨nd, rfl⟩⟩; refine ⟨_, rfl, ?_⟩))
 exact zr_5
def zhc (k : Nat) (a0_0 : ByteArray) (a0_1 : Int) (a0_2 : Int) (a0_3 : Int) (a1 : Int) : Option (Bool) := if a0_0.toList = ([105, 110] : List UInt8) then (if a0_1 = 0 then (if a0_2 = 0 then ((zet a0_3 0 1).bind fun t102 => (some t102)) else (some false)) else (some false)) else (if a0_0.toList = ([99, 111, 110, 115, 116] : List UInt8) then (if a0_1 = 0 then (if a0_2 = 0 then ((zl2 a0_3).bind fun t103 => (some t103)) else (some false)) else (some false)) else ((zir a0_0).bind fun t104 => (if t104 = true then ((zet a0_1 0 (wrap64 (a1 - 1))).bind fun t105 => (if t105 = true then (if a0_2 = 0 then (some (a0_3 == 0)) else (some false)) else (some false))) else ((zhb k a0_0).bind fun t106 => (if t106 = true then ((zet a0_1 0 (wrap64 (a1 - 1))).bind fun t107 => (if t107 = true then ((zet a0_2 0 (wrap64 (a1 - 1))).bind fun t108 => (if t108 = true then (some (a0_3 == 0)) else (some false))) else (some false))) else (some false))))))
theorem zol : ∀ a0 a1 a2 a3 a4 k, LeO (zhc k a0 a1 a2 a3 a4) (zhc (k + 1) a0 a1 a2 a3 a4) := by
 intro a0 a1 a2 a3 a4 k
 unfold zhc
 exact zm1 zo3
theorem zny (k : Nat) (a0_0 : ByteArray) (a0_1 : Int) (a0_2 : Int) (a0_3 : Int) (a1 : Int) (r : Bool) (w : World) (h : zhc k a0_0 a0_1 a0_2 a0_3 a1 = some r) :
   Calls Tryz.prog 111 #[.agg #[.string a0_0, .int .i64 a0_1, .int .i64 a0_2, .int .i64 a0_3], .int .i64 a1] w fun e w' => e = .returned (.bool r) ∧ Below w.heap.size w w' := by
 have hu62 := Tryz.underlying62
 have HB := zA (Below.refl w.heap.size w)
 have H := h
 unfold zhc at H
 clear h
 by_cases c3 : a0_0.toList = ([105, 110] : List UInt8)
 · rw [if_pos c3] at H
   obtain ⟨c3b0, c3b1⟩ := zbe c3
   clear c3
   by_cases c4 : a0_1 = 0
   rotate_left
   · rw [if_neg c4] at H
     obtain ⟨c4b0, c4b1⟩ := zbq c4
     obtain rfl := zsi H
     go_enter Tryz.func111, Tryz.ntmps111
     go_wp2_with (first | ((with_reducible refine zgd 2 ?_); refine zbh zq2 #[.string a0_0, .int .i64 a0_1, .int .i64 a0_2, .int .i64 a0_3] 62 ?_; clear HB; intro gb101 w11 HB BK101 GW101; have GE101 := GW101; obtain ⟨hcz12_0, hcz12_1, hcz12_2, hcz12_3, hfz12_0, hfz12_1, hfz12_2, hfz12_3⟩ := zd4 BK101))
     go_ret
     exact ⟨zq4, zq1 GE101⟩
   rw [if_pos c4] at H
   obtain ⟨c4b0, c4b1⟩ := zbe c4
   clear c4
   by_cases c5 : a0_2 = 0
   rotate_left
   · rw [if_neg c5] at H
     obtain ⟨c5b0, c5b1⟩ := zbq c5
     obtain rfl := zsi H
     go_enter Tryz.func111, Tryz.ntmps111
     go_wp2_with (first | ((with_reducible refine zgd 2 ?_); refine zbh zq2 #[.string a0_0, .int .i64 a0_1, .int .i64 a0_2, .int .i64 a0_3] 62 ?_; clear HB; intro gb101 w9 HB BK101 GW101; have GE101 := GW101; obtain ⟨hcz10_0, hcz10_1, hcz10_2, hcz10_3, hfz10_0, hfz10_1, hfz10_2, hfz10_3⟩ := zd4 BK101))
     go_ret
     exact ⟨zq4, zq1 GE101⟩
   rw [if_pos c5] at H
   obtain ⟨c5b0, c5b1⟩ := zbe c5
   clear c5
   replace H := zob H
   obtain ⟨t102, A60, H⟩ := H
   have A6 := zA A60
   clear A60
   obtain rfl := zsi H
   go_enter Tryz.func111, Tryz.ntmps111
   go_wp2_with (first | ((with_reducible refine zgd 2 ?_); refine zbh zq2 #[.string a0_0, .int .i64 a0_1, .int .i64 a0_2, .int .i64 a0_3] 62 ?_; clear HB; intro gb101 w7 HB BK101 GW101; have GE101 := GW101; obtain ⟨hcz8_0, hcz8_1, hcz8_2, hcz8_3, hfz8_0, hfz8_1, hfz8_2, hfz8_3⟩ := zd4 BK101) | (go_at_call 79; (with_reducible refine (zbm a0_3 0 1 t102 _ A6.out).mono ?_); rintro e w' ⟨rfl, ⟨nd, rfl⟩⟩))
   go_ret
   exact ⟨zq4, zq1 GE101⟩
 rw [if_neg c3] at H
 obtain ⟨c3b0, c3b1⟩ := zbq c3
 by_cases c13 : a0_0.toList = ([99, 111, 110, 115, 116] : List UInt8)
 · rw [if_pos c13] at H
   obtain ⟨c13b0, c13b1⟩ := zbe c13
   clear c13
   by_cases c14 : a0_1 = 0
   rotate_left
   · rw [if_neg c14] at H
     obtain ⟨c14b0, c14b1⟩ := zbq c14
     obtain rfl := zsi H
     go_enter Tryz.func111, Tryz.ntmps111
     go_wp2_with (first | ((with_reducible refine zgd 2 ?_); refine zbh zq2 #[.string a0_0, .int .i64 a0_1, .int .i64 a0_2, .int .i64 a0_3] 62 ?_; clear HB; intro gb101 w21 HB BK101 GW101; have GE101 := GW101; obtain ⟨hcz22_0, hcz22_1, hcz22_2, hcz22_3, hfz22_0, hfz22_1, hfz22_2, hfz22_3⟩ := zd4 BK101))
     go_ret
     exact ⟨zq4, zq1 GE101⟩
   rw [if_pos c14] at H
   obtain ⟨c14b0, c14b1⟩ := zbe c14
   clear c14
   by_cases c15 : a0_2 = 0
   rotate_left
   · rw [if_neg c15] at H
     obtain ⟨c15b0, c15b1⟩ := zbq c15
     obtain rfl := zsi H
     go_enter Tryz.func111, Tryz.ntmps111
     go_wp2_with (first | ((with_reducible refine zgd 2 ?_); refine zbh zq2 #[.string a0_0, .int .i64 a0_1, .int .i64 a0_2, .int .i64 a0_3] 62 ?_; clear HB; intro gb101 w19 HB BK101 GW101; have GE101 := GW101; obtain ⟨hcz20_0, hcz20_1, hcz20_2, hcz20_3, hfz20_0, hfz20_1, hfz20_2, hfz20_3⟩ := zd4 BK101))
     go_ret
     exact ⟨zq4, zq1 GE101⟩
   rw [if_pos c15] at H
   obtain ⟨c15b0, c15b1⟩ := zbe c15
   clear c15
   replace H := zob H
   obtain ⟨t103, A160, H⟩ := H
   have A16 := zA A160
   clear A160
   obtain rfl := zsi H
   go_enter Tryz.func111, Tryz.ntmps111
   go_wp2_with (first | ((with_reducible refine zgd 2 ?_); refine zbh zq2 #[.string a0_0, .int .i64 a0_1, .int .i64 a0_2, .int .i64 a0_3] 62 ?_; clear HB; intro gb101 w17 HB BK101 GW101; have GE101 := GW101; obtain ⟨hcz18_0, hcz18_1, hcz18_2, hcz18_3, hfz18_0, hfz18_1, hfz18_2, hfz18_3⟩ := zd4 BK101) | (go_at_call 152; (with_reducible refine (zr6 a0_3 t103 _ A16.out).mono ?_); rintro e w' ⟨rfl, ⟨nd, rfl⟩⟩))
   go_ret
   exact ⟨zq4, zq1 GE101⟩
 rw [if_neg c13] at H
 obtain ⟨c13b0, c13b1⟩ := zbq c13
 replace H := zob H
 obtain ⟨t104, A230, H⟩ := H
 have A23 := zA A230
 clear A230
 by_cases c24 : t104 = true
 · subst c24
   replace H := zih H
   replace H := zob H
   obtain ⟨t105, A250, H⟩ := H
   have A25 := zA A250
   clear A250
   by_cases c26 : t105 = true
   rotate_left
   · replace c26 := zbf c26
     subst c26
     replace H := zif H
     obtain rfl := zsi H
     go_enter Tryz.func111, Tryz.ntmps111
     go_wp2_with (first | ((with_reducible refine zgd 2 ?_); refine zbh zq2 #[.string a0_0, .int .i64 a0_1, .int .i64 a0_2, .int .i64 a0_3] 62 ?_; clear HB; intro gb101 w32 HB BK101 GW101; have GE101 := GW101; obtain ⟨hcz33_0, hcz33_1, hcz33_2, hcz33_3, hfz33_0, hfz33_1, hfz33_2, hfz33_3⟩ := zd4 BK101) | ((with_reducible refine zgc 153 ?_); refine zcl 42 Tryz.func153 (zcv a0_0 true _ A23.out) ?_; rintro e w' ⟨rfl, ⟨nd, rfl⟩⟩; refine ⟨_, rfl, ?_⟩) | ((with_reducible refine zgc 79 ?_); refine zcl 47 Tryz.func79 (zbm a0_1 0 (wrap64 (a1 - 1)) false _ A25.out) ?_; rintro e w' ⟨rfl, ⟨nd, rfl⟩⟩; refine ⟨_, rfl, ?_⟩))
     go_ret
     exact ⟨zq4, zq1 GE101⟩
   subst c26
   replace H := zih H
   by_cases c27 : a0_2 = 0
   rotate_left
   · rw [if_neg c27] at H
     obtain ⟨c27b0, c27b1⟩ := zbq c27
     obtain rfl := zsi H
     go_enter Tryz.func111, Tryz.ntmps111
     go_wp2_with (first | ((with_reducible refine zgd 2 ?_); refine zbh zq2 #[.string a0_0, .int .i64 a0_1, .int .i64 a0_2, .int .i64 a0_3] 62 ?_; clear HB; intro gb101 w30 HB BK101 GW101; have GE101 := GW101; obtain ⟨hcz31_0, hcz31_1, hcz31_2, hcz31_3, hfz31_0, hfz31_1, hfz31_2, hfz31_3⟩ := zd4 BK101) | ((with_reducible refine zgc 153 ?_); refine zcl 42 Tryz.func153 (zcv a0_0 true _ A23.out) ?_; rintro e w' ⟨rfl, ⟨nd, rfl⟩⟩; refine ⟨_, rfl, ?_⟩) | ((with_reducible refine zgc 79 ?_); refine zcl 47 Tryz.func79 (zbm a0_1 0 (wrap64 (a1 - 1)) true _ A25.out) ?_; rintro e w' ⟨rfl, ⟨nd, rfl⟩⟩; refine ⟨_, rfl, ?_⟩))
     go_ret
     exact ⟨zq4, zq1 GE101⟩
   rw [if_pos c27] at H
   obtain ⟨c27b0, c27b1⟩ := zbe c27
   clear c27
   obtain rfl := zsi H
   go_enter Tryz.func111, Tryz.ntmps111
   go_wp2_with (first | ((with_reducible refine zgd 2 ?_); refine zbh zq2 #[.string a0_0, .int .i64 a0_1, .int .i64 a0_2, .int .i64 a0_3] 62 ?_; clear HB; intro gb101 w28 HB BK101 GW101; have GE101 := GW101; obtain ⟨hcz29_0, hcz29_1, hcz29_2, hcz29_3, hfz29_0, hfz29_1, hfz29_2, hfz29_3⟩ := zd4 BK101) | ((with_reducible refine zgc 153 ?_); refine zcl 42 Tryz.func153 (zcv a0_0 true _ A23.out) ?_; rintro e w' ⟨rfl, ⟨nd, rfl⟩⟩; refine ⟨_, rfl, ?_⟩) | ((with_reducible refine zgc 79 ?_); refine zcl 47 Tryz.func79 (zbm a0_1 0 (wrap64 (a1 - 1)) true _ A25.out) ?_; rintro e w' ⟨rfl, ⟨nd, rfl⟩⟩; refine ⟨_, rfl, ?_⟩))
   go_ret
   exact ⟨zq4, zq1 GE101⟩
 replace c24 := zbf c24
 subst c24
 replace H := zif H
 replace H := zob H
 obtain ⟨t106, A340, H⟩ := H
 have A34 := zA A340
 clear A340
 by_cases c35 : t106 = true
 rotate_left
 · replace c35 := zbf c35
   subst c35
   replace H := zif H
   obtain rfl := zsi H
   go_enter Tryz.func111, Tryz.ntmps111
   go_wp2_with (first | ((with_reducible refine zgd 2 ?_); refine zbh zq2 #[.string a0_0, .int .i64 a0_1, .int .i64 a0_2, .int .i64 a0_3] 62 ?_; clear HB; intro gb101 w52 HB BK101 GW101; have GE101 := GW101; obtain ⟨hcz53_0, hcz53_1, hcz53_2, hcz53_3, hfz53_0, hfz53_1, hfz53_2, hfz53_3⟩ := zd4 BK101) | ((with_reducible refine zgc 153 ?_); refine zcl 42 Tryz.func153 (zcv a0_0 false _ A23.out) ?_; rintro e w' ⟨rfl, ⟨nd, rfl⟩⟩; refine ⟨_, rfl, ?_⟩) | ((with_reducible refine zgc 154 ?_); refine zcl 60 Tryz.func154 (zgw k a0_0 false _ A34.out) ?_; rintro e w54 ⟨rfl, hb⟩; refine ⟨_, rfl, ?_⟩; replace BK101 := zbb BK101 hb; replace HB := zA (zaa (zq1 GE101) hb); (try clear hb)))
   go_ret
   exact ⟨zq4, zq1 GE101⟩
 subst c35
 replace H := zih H
 replace H := zob H
 obtain ⟨t107, A360, H⟩ := H
 have A36 := zA A360
 clear A360
 by_cases c37 : t107 = true
 rotate_left
 · replace c37 := zbf c37
   subst c37
   replace H := zif H
   obtain rfl := zsi H
   go_enter Tryz.func111, Tryz.ntmps111
   go_wp2_with (first | ((with_reducible refine zgd 2 ?_); refine zbh zq2 #[.string a0_0, .int .i64 a0_1, .int .i64 a0_2, .int .i64 a0_3] 62 ?_; clear HB; intro gb101 w48 HB BK101 GW101; have GE101 := GW101; obtain ⟨hcz49_0, hcz49_1, hcz49_2, hcz49_3, hfz49_0, hfz49_1, hfz49_2, hfz49_3⟩ := zd4 BK101) | ((with_reducible refine zgc 153 ?_); refine zcl 42 Tryz.func153 (zcv a0_0 false _ A23.out) ?_; rintro e w' ⟨rfl, ⟨nd, rfl⟩⟩; refine ⟨_, rfl, ?_⟩) | ((with_reducible refine zgc 154 ?_); refine zcl 60 Tryz.func154 (zgw k a0_0 true _ A34.out) ?_; rintro e w50 ⟨rfl, hb⟩; refine ⟨_, rfl, ?_⟩; replace BK101 := zbb BK101 hb; replace HB := zA (zaa (zq1 GE101) hb); (try clear hb); obtain ⟨hcz51_0, hcz51_1, hcz51_2, hcz51_3⟩ := zc4 w50 (.string a0_0) (.int .i64 a0_1) (.int .i64 a0_2) (.int .i64 a0_3) BK101.out; obtain ⟨hfz51_0, hfz51_1, hfz51_2, hfz51_3⟩ := zf4 BK101.out) | (go_at_call 79; (with_reducible refine (zbm a0_1 0 (wrap64 (a1 - 1)) false _ A36.out).mono ?_); rintro e w' ⟨rfl, ⟨nd, rfl⟩⟩))
   go_ret
   exact ⟨zq4, zq1 GE101⟩
 subst c37
 replace H := zih H
 replace H := zob H
 obtain ⟨t108, A380, H⟩ := H
 have A38 := zA A380
 clear A380
 by_cases c39 : t108 = true
 · subst c39
   replace H := zih H
   obtain rfl := zsi H
   go_enter Tryz.func111, Tryz.ntmps111
   go_wp2_with (first | ((with_reducible refine zgd 2 ?_); refine zbh zq2 #[.string a0_0, .int .i64 a0_1, .int .i64 a0_2, .int .i64 a0_3] 62 ?_; clear HB; intro gb101 w40 HB BK101 GW101; have GE101 := GW101; obtain ⟨hcz41_0, hcz41_1, hcz41_2, hcz41_3, hfz41_0, hfz41_1, hfz41_2, hfz41_3⟩ := zd4 BK101) | ((with_reducible refine zgc 153 ?_); refine zcl 42 Tryz.func153 (zcv a0_0 false _ A23.out) ?_; rintro e w' ⟨rfl, ⟨nd, rfl⟩⟩; refine ⟨_, rfl, ?_⟩) | ((with_reducible refine zgc 154 ?_); refine zcl 60 Tryz.func154 (zgw k a0_0 true _ A34.out) ?_; rintro e w42 ⟨rfl, hb⟩; refine ⟨_, rfl, ?_⟩; replace BK101 := zbb BK101 hb; replace HB := zA (zaa (zq1 GE101) hb); (try clear hb); obtain ⟨hcz43_0, hcz43_1, hcz43_2, hcz43_3⟩ := zc4 w42 (.string a0_0) (.int .i64 a0_1) (.int .i64 a0_2) (.int .i64 a0_3) BK101.out; obtain ⟨hfz43_0, hfz43_1, hfz43_2, hfz43_3⟩ := zf4 BK101.out) | (go_at_call 79; (with_reducible refine (zbm a0_1 0 (wrap64 (a1 - 1)) true _ A36.out).mono ?_); rintro e w' ⟨rfl, ⟨nd, rfl⟩⟩) | (go_at_call 79; (with_reducible refine (zbm a0_2 0 (wrap64 (a1 - 1)) true _ A38.out).mono ?_); rintro e w' ⟨rfl, ⟨nd, rfl⟩⟩))
   go_ret
   exact ⟨zq4, zq1 GE101⟩
 replace c39 := zbf c39
 subst c39
 replace H := zif H
 obtain rfl := zsi H
 go_enter Tryz.func111, Tryz.ntmps111
 go_wp2_with (first | ((with_reducible refine zgd 2 ?_); refine zbh zq2 #[.string a0_0, .int .i64 a0_1, .int .i64 a0_2, .int .i64 a0_3] 62 ?_; clear HB; intro gb101 w44 HB BK101 GW101; have GE101 := GW101; obtain ⟨hcz45_0, hcz45_1, hcz45_2, hcz45_3, hfz45_0, hfz45_1, hfz45_2, hfz45_3⟩ := zd4 BK101) | ((with_reducible refine zgc 153 ?_); refine zcl 42 Tryz.func153 (zcv a0_0 false _ A23.out) ?_; rintro e w' ⟨rfl, ⟨nd, rfl⟩⟩; refine ⟨_, rfl, ?_⟩) | ((with_reducible refine zgc 154 ?_); refine zcl 60 Tryz.func154 (zgw k a0_0 true _ A34.out) ?_; rintro e w46 ⟨rfl, hb⟩; refine ⟨_, rfl, ?_⟩; replace BK101 := zbb BK101 hb; replace HB := zA (zaa (zq1 GE101) hb); (try clear hb); obtain ⟨hcz47_0, hcz47_1, hcz47_2, hcz47_3⟩ := zc4 w46 (.string a0_0) (.int .i64 a0_1) (.int .i64 a0_2) (.int .i64 a0_3) BK101.out; obtain ⟨hfz47_0, hfz47_1, hfz47_2, hfz47_3⟩ := zf4 BK101.out) | (go_at_call 79; (with_reducible refine (zbm a0_1 0 (wrap64 (a1 - 1)) true _ A36.out).mono ?_); rintro e w' ⟨rfl, ⟨nd, rfl⟩⟩) | (go_at_call 79; (with_reducible refine (zbm a0_2 0 (wrap64 (a1 - 1)) false _ A38.out).mono ?_); rintro e w' ⟨rfl, ⟨nd, rfl⟩⟩))
 go_ret
 exact ⟨zq4, zq1 GE101⟩
def zgj (k : Nat) (a0_0 : ByteArray) (a0_1 : Int) (a0_2 : Int) (a0_3 : Int) : Option (List Int) := (zir a0_0).bind fun t102 => (if t102 = true then (some (([a0_1] : List Int))) else ((zhb k a0_0).bind fun t106 => (if t106 = true then (some (([a0_1, a0_2] : List Int))) else (some ([] : List Int)))))
theorem zks : ∀ a0 a1 a2 a3 k, LeO (zgj k a0 a1 a2 a3) (zgj (k + 1) a0 a1 a2 a3) := by
 intro a0 a1 a2 a3 k
 unfold zgj
 exact zm1 zo3
theorem zqv (k : Nat) (a0_0 : ByteArray) (a0_1 : Int) (a0_2 : Int) (a0_3 : Int) (r : List Int) (w : World) (h : zgj k a0_0 a0_1 a0_2 a0_3 = some r) :
   Calls Tryz.prog 155 #[.agg #[.string a0_0, .int .i64 a0_1, .int .i64 a0_2, .int .i64 a0_3]] w fun e w' => ∃ v0_ : Value, e = .returned (v0_) ∧ Kd.R (Kd.int .i64) 3 w' w.heap.size (fun _ => True) v0_ r ∧ Below w.heap.size w w' := by
 have hu62 := Tryz.underlying62
 have HB := zA (Below.refl w.heap.size w)
 have H := h
 unfold zgj at H
 clear h
 replace H := zob H
 obtain ⟨t102, A20, H⟩ := H
 have A2 := zA A20
 clear A20
 by_cases c3 : t102 = true
 · subst c3
   replace H := zih H
   obtain ⟨y103, hy103⟩ : ∃ y_ : List Int, y_ = (([a0_1] : List Int)) := ⟨_, rfl⟩
   rw [← hy103] at H; try with_reducible replace H := zbs H
   have Ny103 := zA hy103
   clear hy103
   obtain rfl := zsi H
   go_enter Tryz.func155, Tryz.ntmps155
   go_wp2_with (first | ((with_reducible refine zgd 1 ?_); refine zbh zq2 #[.string a0_0, .int .i64 a0_1, .int .i64 a0_2, .int .i64 a0_3] 62 ?_; clear HB; intro gb101 w4 HB BK101 GW101; have GE101 := GW101; obtain ⟨hcz5_0, hcz5_1, hcz5_2, hcz5_3, hfz5_0, hfz5_1, hfz5_2, hfz5_3⟩ := zd4 BK101) | ((with_reducible refine zgc 153 ?_); refine zcl 6 Tryz.func153 (zcv a0_0 true _ A2.out) ?_; rintro e w' ⟨rfl, ⟨nd, rfl⟩⟩; refine ⟨_, rfl, ?_⟩) | ((with_reducible refine zgd 9 ?_); refine Kd.R_lit (Kd.int .i64) _ 3 ?hg (N := 9) ?hd (xs := ([a0_1] : List Int)) (inner := [.int .i64 a0_1]) (ok := fun _ => True) (okp := fun _ => True) ?hr ?hp (fun _ hk => hk) trivial (Below.refl _ _) (zlr _) (by simp) ?_; (case hd => rfl); (case hg => rfl); (case hr => go_simp <;> rfl); (case hp => exact (zaz (show Kd.M (Kd.int .i64) _ _ _ a0_1 [.int .i64 a0_1] from rfl) (Reps.none _ _))); intro v104 w6 ho7 hb hg_ hnew_; clear hg_ hnew_; (first | rw [← Ny103.out] at ho7 | (simp only [Int.reduceToNat] at ho7; rw [← Ny103.out] at ho7)); have HO105 := zA (Kd.R_lower ho7 (zaf (zq1 GE101))); replace BK101 := zbb BK101 hb; replace HB := zA (zaa (zq1 GE101) hb); clear hb ho7))
   go_ret
   exact ⟨_, zq4, zq3 HO105, zq1 GE101⟩
 replace c3 := zbf c3
 subst c3
 replace H := zif H
 replace H := zob H
 obtain ⟨t106, A80, H⟩ := H
 have A8 := zA A80
 clear A80
 by_cases c9 : t106 = true
 rotate_left
 · replace c9 := zbf c9
   subst c9
   replace H := zif H
   obtain rfl := zsi H
   go_enter Tryz.func155, Tryz.ntmps155
   go_wp2_with (first | ((with_reducible refine zgd 1 ?_); refine zbh zq2 #[.string a0_0, .int .i64 a0_1, .int .i64 a0_2, .int .i64 a0_3] 62 ?_; clear HB; intro gb101 w16 HB BK101 GW101; have GE101 := GW101; obtain ⟨hcz17_0, hcz17_1, hcz17_2, hcz17_3, hfz17_0, hfz17_1, hfz17_2, hfz17_3⟩ := zd4 BK101) | ((with_reducible refine zgc 153 ?_); refine zcl 6 Tryz.func153 (zcv a0_0 false _ A2.out) ?_; rintro e w' ⟨rfl, ⟨nd, rfl⟩⟩; refine ⟨_, rfl, ?_⟩) | ((with_reducible refine zgc 154 ?_); refine zcl 13 Tryz.func154 (zgw k a0_0 false _ A8.out) ?_; rintro e w18 ⟨rfl, hb⟩; refine ⟨_, rfl, ?_⟩; replace BK101 := zbb BK101 hb; replace HB := zA (zaa (zq1 GE101) hb); (try clear hb)))
   go_ret
   exact ⟨_, zq4, zq43, zq1 GE101⟩
 subst c9
 replace H := zih H
 obtain ⟨y107, hy107⟩ : ∃ y_ : List Int, y_ = (([a0_1, a0_2] : List Int)) := ⟨_, rfl⟩
 rw [← hy107] at H; try with_reducible replace H := zbs H
 have Ny107 := zA hy107
 clear hy107
 obtain rfl := zsi H
 go_enter Tryz.func155, Tryz.ntmps155
 go_wp2_with (first | ((with_reducible refine zgd 1 ?_); refine zbh zq2 #[.string a0_0, .int .i64 a0_1, .int .i64 a0_2, .int .i64 a0_3] 62 ?_; clear HB; intro gb101 w10 HB BK101 GW101; have GE101 := GW101; obtain ⟨hcz11_0, hcz11_1, hcz11_2, hcz11_3, hfz11_0, hfz11_1, hfz11_2, hfz11_3⟩ := zd4 BK101) | ((with_reducible refine zgc 153 ?_); refine zcl 6 Tryz.func153 (zcv a0_0 false _ A2.out) ?_; rintro e w' ⟨rfl, ⟨nd, rfl⟩⟩; refine ⟨_, rfl, ?_⟩) | ((with_reducible refine zgc 154 ?_); refine zcl 13 Tryz.func154 (zgw k a0_0 true _ A8.out) ?_; rintro e w12 ⟨rfl, hb⟩; refine ⟨_, rfl, ?_⟩; replace BK101 := zbb BK101 hb; replace HB := zA (zaa (zq1 GE101) hb); (try clear hb); obtain ⟨hcz13_0, hcz13_1, hcz13_2, hcz13_3⟩ := zc4 w12 (.string a0_0) (.int .i64 a0_1) (.int .i64 a0_2) (.int .i64 a0_3) BK101.out; obtain ⟨hfz13_0, hfz13_1, hfz13_2, hfz13_3⟩ := zf4 BK101.out) | ((with_reducible refine zgd 18 ?_); refine Kd.R_lit (Kd.int .i64) _ 3 ?hg (N := 18) ?hd (xs := ([a0_1, a0_2] : List Int)) (inner := [.int .i64 a0_1, .int .i64 a0_2]) (ok := fun _ => True) (okp := fun _ => True) ?hr ?hp (fun _ hk => hk) trivial (Below.refl _ _) (zlr _) (by simp) ?_; (case hd => rfl); (case hg => rfl); (case hr => go_simp <;> rfl); (case hp => exact (zaz (show Kd.M (Kd.int .i64) _ _ _ a0_1 [.int .i64 a0_1] from rfl) (zaz (show Kd.M (Kd.int .i64) _ _ _ a0_2 [.int .i64 a0_2] from rfl) (Reps.none _ _)))); intro v108 w14 ho15 hb hg_ hnew_; clear hg_ hnew_; (first | rw [← Ny107.out] at ho15 | (simp only [Int.reduceToNat] at ho15; rw [← Ny107.out] at ho15)); have HO109 := zA (Kd.R_lower ho15 (zaf (zq1 GE101))); replace BK101 := zbb BK101 hb; replace HB := zA (zaa (zq1 GE101) hb); clear hb ho15))
 go_ret
 exact ⟨_, zq4, zq3 HO109, zq1 GE101⟩
end Go.Proofs.YtnaafcleafbejaaGreat.Q
end
section
namespace Go.Proofs.YtnaafcleafbejaaGreat.Q
open Go.RowKit Go.Proofs.YtnaafcleafbejaaGreatW.PrintWords Go.Proofs.YtnaafcleafbejaaGreatW.PrintLast Go.Proofs.YtnaafcleafbejaaGreatW.PrintMore
set_option maxHeartbeats 8000000
set_option maxRecDepth 100000
attribute [local go_sem] zbc zbg zb8 zb9 za1 za2 zbi zbj
set_option linter.unusedVariables false
set_option linter.unusedSimpArgs false
mutual
def zdm : Nat → List Int → List (S62) → Int → Int → Option (List Int)
 | 0, _, _, _, _ => none
 | k + 1, x3, x11, x12, x13 => if x13 < x12 then (if 0 ≤ x13 then (if x13 < (x11.length : Int) then ((zgj k ((zab x11 x13).f0) ((zab x11 x13).f1) ((zab x11 x13).f2) ((zab x11 x13).f3)).bind fun t106 => (zej k x3 x11 x12 x13 t106 (t106.length : Int) 0)) else (none)) else (none)) else (some x3)
def zej : Nat → List Int → List (S62) → Int → Int → List Int → Int → Int → Option (List Int)
 | 0, _, _, _, _, _, _, _ => none
 | k + 1, x3, x11, x12, x13, x18, x19, x20 => if x20 < x19 then (if 0 ≤ x20 then (if x20 < (x18.length : Int) then (if 0 ≤ (rd x18 x20) then (if (rd x18 x20) < (x3.length : Int) then (zej k (x3.set ((rd x18 x20) : Int).toNat (wrap64 ((rd x3 (rd x18 x20)) + 1))) x11 x12 x13 x18 x19 (wrap64 (x20 + 1))) else (none)) else (none)) else (none)) else (none)) else (zdm k x3 x11 x12 (wrap64 (x13 + 1)))
end
def zhd (k : Nat) (l0 : List (S62)) : Option (List Int) := if 0 ≤ (l0.length : Int) then (if ((l0.length : Int) : Int).toNat ≤ 35184372088832 then (zdm k (List.replicate ((l0.length : Int) : Int).toNat 0) l0 (l0.length : Int) 0) else (none)) else (none)
theorem zm9 : ∀ k, (∀ y0 y1 y2 y3, LeO (zdm k y0 y1 y2 y3) (zdm (k + 1) y0 y1 y2 y3)) ∧ (∀ y0 y1 y2 y3 y4 y5 y6, LeO (zej k y0 y1 y2 y3 y4 y5 y6) (zej (k + 1) y0 y1 y2 y3 y4 y5 y6))
 | 0 => ⟨fun _ _ _ _ r h => by simp [zdm] at h, fun _ _ _ _ _ _ _ r h => by simp [zej] at h⟩
 | k + 1 => by
   obtain ⟨ih0, ih1⟩ := zm9 k
   refine ⟨?_, ?_⟩
   · intro y0 y1 y2 y3
     unfold zdm
     exact zm3 ih0 ih1 zks
   · intro y0 y1 y2 y3 y4 y5 y6
     unfold zej
     exact zm3 ih0 ih1 zks
theorem zom : ∀ a0 k, LeO (zhd k a0) (zhd (k + 1) a0) := by
 intro a0 k
 obtain ⟨ih0, ih1⟩ := zm9 k
 unfold zhd
 exact zm3 ih0 ih1 zks
theorem zr7 (k : Nat) (A0 : Option Addr) (c0 : Nat) (l0 : List (S62)) (r : List Int) (w : World) (hr0 : Kd.C k62 w A0 l0.length l0) (hc0 : l0.length ≤ c0) (h : zhd k l0 = some r) :
   Calls Tryz.prog 113 #[.slice A0 l0.length c0] w fun e w' => ∃ v0_ : Value, e = .returned (v0_) ∧ Kd.R (Kd.int .i64) 3 w' w.heap.size (fun _ => True) v0_ r ∧ Below w.heap.size w w' := by
 have hu62 := Tryz.underlying62
 have HR0 := zA hr0
 have HC0 := zA hc0
 clear hr0 hc0
 have HB := zA (Below.refl w.heap.size w)
 have H := h
 unfold zhd at H
 clear h
 by_cases c2 : 0 ≤ (l0.length : Int)
 rotate_left
 · rw [if_neg c2] at H
   exact absurd H (by simp)
 rw [if_pos c2] at H
 have c2b0 := eq_true c2
 have c2b1 := zdt c2
 clear c2
 by_cases c3 : ((l0.length : Int) : Int).toNat ≤ 35184372088832
 rotate_left
 · rw [if_neg c3] at H
   exact absurd H (by simp)
 rw [if_pos c3] at H
 have c3b0 := eq_true c3
 have c3b1 := zdt c3
 clear c3
 obtain ⟨y101, hy101⟩ : ∃ y_ : List Int, y_ = (List.replicate ((l0.length : Int) : Int).toNat 0) := ⟨_, rfl⟩
 rw [← hy101] at H; try with_reducible replace H := zbs H
 have Ny101 := zA hy101
 clear hy101
 have H' := zA H
 clear H
 go_enter Tryz.func113, Tryz.ntmps113
 go_wp2_with (first | ((with_reducible refine zgd 10 ?_); refine Kd.R_make (Kd.int .i64) _ 3 rfl (N := 10) rfl 24 _ _ rfl (l0.length : Int) rfl rfl Tryz.underlying24 (.int .i64 0) 8 zl5 rfl (by decide) (by omega) 0 (ok := fun _ => True) (okp := fun _ => True) rfl (fun _ hk => hk) trivial (zde zq14) (Nat.le_trans (Nat.mul_le_mul_right _ (zde zq14 : (l0.length : Int).toNat ≤ 35184372088832)) (by omega)) (Below.refl _ _) (zlr _) ?_; intro v102 w4 ho5 hb hg_ hnew_; clear hg_ hnew_; (first | rw [← Ny101.out] at ho5 | (simp only [Int.reduceToNat] at ho5; rw [← Ny101.out] at ho5)); have HO103 := zA (Kd.R_lower ho5 (zaf zq2)); replace HB := zA (zaa zq2 hb); clear hb ho5))
 go_loopg [13] k (fun kq v13 w' => ∃ (x3_1 : List Int) (x13_1 : Int), v13 = .int .i64 x13_1 ∧ Aside0 (zdm kq x3_1 l0 (l0.length : Int) x13_1 = some r) ∧ Aside0 (kq ≤ k) ∧ Aside0 (Kd.R (Kd.int .i64) 3 w' w.heap.size (fun _ => True) v102 x3_1) ∧ Aside0 (Below w.heap.size w w'))
 case atStart => exact ⟨(y101), (0), zq5, H', ⟨zlr _⟩, ⟨zq3 HO103⟩, ⟨zq2⟩⟩
 clear H'
 try clear c2
 try clear c2b0
 try clear c2b1
 try clear c3
 try clear c3b0
 try clear c3b1
 obtain ⟨x3_1, x13_1, rfl, HA, HK1, HO_3, HB⟩ := hrel
 cases gk with
 | zero => exact absurd HA.out (by simp [zdm])
 | succ k1 =>
 have H := HA.out
 clear HA
 simp only [zdm] at H
 revert H
 refine zit (fun c6 H => ?_) fun c6 H => ?_
 rotate_left
 · obtain rfl := zsi H
   go_wp2
   go_ret
   exact ⟨_, zq4, zq3 HO_3, zq2⟩
 revert H
 refine zin fun c7 H => ?_
 revert H
 refine zin fun c8 H => ?_
 replace H := zob H
 obtain ⟨t106, A90, H⟩ := H
 have A9 := zA A90
 clear A90
 have H' := zA H
 clear H
 obtain ⟨p104, q104⟩ := zpq x13_1 l0.length
 obtain ⟨ad104, e104, hx104_0, hx104_1, hx104_2, hx104_3⟩ := znn HR0.out x13_1 (zoe p104) (zoe q104)
 cases e104
 replace hx104_0 := zkep HB.out hx104_0
 replace hx104_1 := zkep HB.out hx104_1
 replace hx104_2 := zkep HB.out hx104_2
 replace hx104_3 := zkep HB.out hx104_3
 go_wp2_with (first | ((with_reducible refine zgd 5 ?_); refine zbx #[.string (⟨#[]⟩ : ByteArray), .int .i64 0, .int .i64 0, .int .i64 0] 62 ?_; intro gb105 hg w10 hbox hb; have zs := zpair zq2 hb; replace HO_3 := zA (zRb (zq3 HO_3) hb); replace HB := zA (zs.1); have BK105 := zA (hbox); have GW105 := zA (zge hg zs.2); have GE105 := GW105; clear zs hb hbox hg; obtain ⟨hcz11_0, hcz11_1, hcz11_2, hcz11_3, hfz11_0, hfz11_1, hfz11_2, hfz11_3⟩ := zd4 BK105) | ((with_reducible refine zgc 155 ?_); refine zcl 18 Tryz.func155 (zqv k1 ((zab l0 x13_1).f0) ((zab l0 x13_1).f1) ((zab l0 x13_1).f2) ((zab l0 x13_1).f3) t106 _ A9.out) ?_; rintro e w12 ⟨v107, rfl, ho0, hb⟩; refine ⟨_, rfl, ?_⟩; have HO108 := zA (Kd.R_lower (Kd.R_new' ho0 (Kd.R_lt (zq18 HO_3 BK105))) (zaf (zq1 GE105))); replace HO_3 := zA (Kd.R_elder' (zq18 HO_3 BK105) (Kd.R_base ho0) hb); replace BK105 := zA (zai (g := gb105) (o := .cells #[.string ((zab l0 x13_1).f0), .int .i64 ((zab l0 x13_1).f1), .int .i64 ((zab l0 x13_1).f2), .int .i64 ((zab l0 x13_1).f3)] 62 (0, 0)) (zq27 BK105) hb); replace HB := zA (zaa (zq1 GE105) hb); (try clear hb); (try clear hk); (try clear ho0); obtain ⟨Ao13, co13, eo13⟩ := Kd.R_slice HO108.out; subst eo13))
 go_loopg [20] k1 (fun kq v20 w' => ∃ (x3_2 : List Int) (x20_2 : Int), v20 = .int .i64 x20_2 ∧ Aside0 (zej kq x3_2 l0 (l0.length : Int) x13_1 t106 (t106.length : Int) x20_2 = some r) ∧ Aside0 (kq ≤ k1) ∧ Aside0 (Kd.R (Kd.int .i64) 3 w' w.heap.size (fun k_ => some k_ ≠ ((.slice Ao13 t106.length co13) : Value).ownBlock) v102 x3_2) ∧ Aside0 (Kd.R (Kd.int .i64) 3 w' w.heap.size (fun k_ => some k_ ≠ (v102 : Value).ownBlock) (.slice Ao13 t106.length co13) t106) ∧ Aside0 (w'.heap[gb105]? = some (.cells #[.string ((zab l0 x13_1).f0), .int .i64 ((zab l0 x13_1).f1), .int .i64 ((zab l0 x13_1).f2), .int .i64 ((zab l0 x13_1).f3)] 62 (0, 0))) ∧ Aside0 (Below w.heap.size w w'))
 case atStart => exact ⟨(x3_1), (0), zq5, H', ⟨zlr _⟩, ⟨zq29 HO_3⟩, ⟨zq29 HO108⟩, ⟨zq6 BK105⟩, ⟨zq1 GE105⟩⟩
 clear H'
 try clear c2
 try clear c2b0
 try clear c2b1
 try clear c3
 try clear c3b0
 try clear c3b1
 try clear c6
 try clear c7
 try clear c8
 try clear hcz11_0
 try clear hcz11_1
 try clear hcz11_2
 try clear hcz11_3
 try clear hfz11_0
 try clear hfz11_1
 try clear hfz11_2
 try clear hfz11_3
 try clear hx104_0
 try clear hx104_1
 try clear hx104_2
 try clear hx104_3
 try clear p104
 try clear q104
 obtain ⟨x3_2, x20_2, rfl, HA, HK2, HO_3, HO_18, BK105, HB⟩ := hrel
 cases gk with
 | zero => exact absurd HA.out (by simp [zej])
 | succ k2 =>
 have H := HA.out
 clear HA
 simp only [zej] at H
 revert H
 refine zit (fun c14 H => ?_) fun c14 H => ?_
 rotate_left
 · have H' := zA H
   clear H
   go_wp2
   go_roundg k2
   case measure => have := HK1.out; have := HK2.out; omega
   case rel => exact ⟨(x3_2), (wrap64 (x13_1 + 1)), zq5, H', ⟨zq39 HK1 HK2⟩, ⟨zq35 HO_3⟩, ⟨zq1 GE105⟩⟩
 revert H
 refine zin fun c15 H => ?_
 revert H
 refine zin fun c16 H => ?_
 revert H
 refine zin fun c17 H => ?_
 revert H
 refine zin fun c18 H => ?_
 obtain ⟨y111, hy111⟩ : ∃ y_ : List Int, y_ = (x3_2.set ((rd t106 x20_2) : Int).toNat (wrap64 ((rd x3_2 (rd t106 x20_2)) + 1))) := ⟨_, rfl⟩
 rw [← hy111] at H; try with_reducible replace H := zbs H
 have Ny111 := zA hy111
 clear hy111
 have H' := zA H
 clear H
 obtain ⟨p109, q109⟩ := zpq x20_2 t106.length
 obtain ⟨ad109, e109, hx109_0⟩ := Kd.at_int (zRr HO_18.out).2.2 x20_2 (zoe p109) (zoe q109)
 cases e109
 obtain ⟨Ao20, co20, eo20⟩ := Kd.R_slice HO_3.out
 subst eo20
 have p110 : 0 ≤ ((rd t106 x20_2) : Int) := zde zq14
 have q110 : (rd t106 x20_2) < (x3_2.length : Int) := zde zq14
 obtain ⟨ad110, e110, hx110_0⟩ := Kd.at_int (zRr HO_3.out).2.2 (rd t106 x20_2) p110 q110
 cases e110
 replace p110 := eq_true p110
 replace q110 := eq_true q110
 have p19 : 0 ≤ ((rd t106 x20_2) : Int) := zde zq14
 have q19 : ((rd t106 x20_2) : Int) < ((x3_2.length : Int) : Int) := zde zq14
 obtain ⟨go19, co19, eo19, gb19, gl19, cl19, HG19⟩ := Kd.R_form HO_3.out (by omega)
 (first | cases eo19 | (injection eo19 with ea_ en_ ec_; (first | subst ea_ | (injection ea_ with ea_; subst ea_)); subst ec_; clear en_))
 have GB19 := zA gb19
 have GG19 := zA HG19
 clear gb19 gl19 HG19
 (first | simp only [zml] at hx110_0 | skip)
 obtain ⟨hx19_0, hf19_0⟩ := Kd.R_celln 0 HO_3.out ((rd t106 x20_2) : Int) p19 q19
 replace p19 := eq_true p19
 replace q19 := eq_true q19
 have HP21 := Kd.R_putg HO_3.out ((rd t106 x20_2) : Int) (wrap64 ((rd x3_2 (rd t106 x20_2)) + 1))
 go_wp2_with (first | ((with_reducible refine zgs 3 29 ?_); refine zse (wr.setCell ⟨go19, ((rd t106 x20_2) : Int).toNat, none⟩ (.int .i64 (wrap64 ((rd x3_2 (rd t106 x20_2)) + 1)))) ?_; intro w22 hw; have hg : wr.grownBy w22 (some go19) := (by rw [hw]; exact HP21.2); have hp_ : Kd.R (Kd.int .i64) 3 w22 w.heap.size (fun k_ => some k_ ≠ (.slice (some ad109) t106.length co13 : Value).ownBlock) (.slice (some ⟨go19, 0, none⟩) x3_2.length co20) y111 := (by rw [hw, Ny111.out]; exact HP21.1); clear HP21; replace HO_18 := zA (Kd.R_after (v := (.slice (some ⟨go19, 0, none⟩) x3_2.length co20)) (v1 := (.slice (some ⟨go19, 0, none⟩) x3_2.length co20)) (ok := (fun _ => True)) (by (with_reducible repeat (first | apply zRa | apply zRn | apply zRd)); exact Kd.R_mono HO_18.out (fun _ hk => ⟨trivial, hk⟩)) hg (.inl rfl)); replace BK105 := zA (zgq (g := gb105) (o := .cells #[.string ((zab l0 x13_1).f0), .int .i64 ((zab l0 x13_1).f1), .int .i64 ((zab l0 x13_1).f2), .int .i64 ((zab l0 x13_1).f3)] 62 (0, 0)) (zq6 BK105) hg (Kd.R_ne HO_3.out BK105.out (by decide))); replace HO_3 := zA (hp_); replace HB := zA ((zq32 GB19 : Below w.heap.size w w22)); clear hg hw hp_))
 go_roundg k2
 case measure => have := HK1.out; have := HK2.out; omega
 case rel => exact ⟨(y111), (wrap64 (x20_2 + 1)), zq5, H', ⟨zq39 HK1 HK2⟩, ⟨zq3 HO_3⟩, ⟨zq29 HO_18⟩, ⟨zq6 BK105⟩, ⟨zq1 GE105⟩⟩
end Go.Proofs.YtnaafcleafbejaaGreat.Q
end
section
namespace Go.Proofs.YtnaafcleafbejaaGreat.Q
open Go.RowKit Go.Proofs.YtnaafcleafbejaaGreatW.PrintWords Go.Proofs.YtnaafcleafbejaaGreatW.PrintLast Go.Proofs.YtnaafcleafbejaaGreatW.PrintMore
set_option maxHeartbeats 8000000
set_option maxRecDepth 100000
attribute [local go_sem] zbc zbg zb8 zb9 za1 za2 zbi zbj
set_option linter.unusedVariables false
set_option linter.unusedSimpArgs false
def zes : Nat → Int → List Int → Int → Int → Option (Bool)
 | 0, _, _, _, _ => none
 | k + 1, x1, x7, x8, x9 => if x9 < x8 then (if 0 ≤ x9 then (if x9 < (x7.length : Int) then (if (rd x7 x9) = x1 then (some true) else (zes k x1 x7 x8 (wrap64 (x9 + 1)))) else (none)) else (none)) else (some false)
def zgk (k : Nat) (l0 : List Int) (a1 : Int) : Option (Bool) := zes k a1 l0 (l0.length : Int) 0
theorem znz : ∀ k, (∀ y0 y1 y2 y3, LeO (zes k y0 y1 y2 y3) (zes (k + 1) y0 y1 y2 y3))
 | 0 => fun _ _ _ _ r h => by simp [zes] at h
 | k + 1 => by
   have ih0 := znz k
   · intro y0 y1 y2 y3
     unfold zes
     exact zm1 ih0
theorem zhp : ∀ a0 a1 k, LeO (zgk k a0 a1) (zgk (k + 1) a0 a1) := by
 intro a0 a1 k
 have ih0 := znz k
 unfold zgk
 exact zm1 ih0
theorem zld (k : Nat) (A0 : Option Addr) (c0 : Nat) (l0 : List Int) (a1 : Int) (r : Bool) (w : World) (hr0 : Kd.C (Kd.int .i64) w A0 l0.length l0) (hc0 : l0.length ≤ c0) (h : zgk k l0 a1 = some r) :
   Calls Tryz.prog 112 #[.slice A0 l0.length c0, .int .i64 a1] w fun e w' => e = .returned (.bool r) ∧ Drawn0 w w' := by
 have HR0 := zA hr0
 have HC0 := zA hc0
 clear hr0 hc0
 have H := h
 unfold zgk at H
 clear h
 have H' := zA H
 clear H
 go_enter Tryz.func112, Tryz.ntmps112
 go_wp2
 go_loopg [9] k (fun kq v9 w' => ∃ (x9_1 : Int), v9 = .int .i64 x9_1 ∧ Aside0 (zes kq a1 l0 (l0.length : Int) x9_1 = some r) ∧ Aside0 (kq ≤ k) ∧ Drawn0 w w')
 case atStart => exact ⟨(0), zq5, H', ⟨zlr _⟩, zq8⟩
 clear H'
 obtain ⟨x9_1, rfl, HA, HK1, ⟨m1, rfl⟩⟩ := hrel
 cases gk with
 | zero => exact absurd HA.out (by simp [zes])
 | succ k1 =>
 have H := HA.out
 clear HA
 simp only [zes] at H
 revert H
 refine zit (fun c3 H => ?_) fun c3 H => ?_
 rotate_left
 · obtain rfl := zsi H
   exact zr_1
 revert H
 refine zin fun c4 H => ?_
 revert H
 refine zin fun c5 H => ?_
 by_cases c6 : (rd l0 x9_1) = a1
 · rw [if_pos c6] at H
   obtain ⟨c6b0, c6b1⟩ := zbe c6
   clear c6
   obtain rfl := zsi H
   obtain ⟨p101, q101⟩ := zpq x9_1 l0.length
   obtain ⟨ad101, e101, hx101_0⟩ := Kd.at_int HR0.out x9_1 (zoe p101) (zoe q101)
   cases e101
   exact zr_1
 rw [if_neg c6] at H
 obtain ⟨c6b0, c6b1⟩ := zbq c6
 have H' := zA H
 clear H
 obtain ⟨p101, q101⟩ := zpq x9_1 l0.length
 obtain ⟨ad101, e101, hx101_0⟩ := Kd.at_int HR0.out x9_1 (zoe p101) (zoe q101)
 cases e101
 go_wp2
 go_roundg k1
 case measure => have := HK1.out; omega
 case rel => exact ⟨(wrap64 (x9_1 + 1)), zq5, H', ⟨zq31 HK1⟩, zq8⟩
def zd0 : Nat → List (S62) → List (S62) → Int → Int → Option (Bool)
 | 0, _, _, _, _ => none
 | k + 1, x0, x9, x10, x11 => if x11 < x10 then (if 0 ≤ x11 then (if x11 < (x9.length : Int) then ((zhc k ((zab x9 x11).f0) ((zab x9 x11).f1) ((zab x9 x11).f2) ((zab x9 x11).f3) x11).bind fun t104 => (if t104 = true then (zd0 k x0 x9 x10 (wrap64 (x11 + 1))) else (some false))) else (none)) else (none)) else ((zhd k x0).bind fun t105 => (if 0 ≤ (wrap64 ((x0.length : Int) - 1)) then (if (wrap64 ((x0.length : Int) - 1)) ≤ (t105.length : Int) then ((zgk k (t105.take ((wrap64 ((x0.length : Int) - 1)) : Int).toNat) 0).bind fun t112 => (some (!t112))) else (none)) else (none)))
def zhe (k : Nat) (l0 : List (S62)) : Option (Bool) := (zet (l0.length : Int) 1 24).bind fun t101 => (if t101 = true then (zd0 k l0 l0 (l0.length : Int) 0) else (some false))
theorem zna : ∀ k, (∀ y0 y1 y2 y3, LeO (zd0 k y0 y1 y2 y3) (zd0 (k + 1) y0 y1 y2 y3))
 | 0 => fun _ _ _ _ r h => by simp [zd0] at h
 | k + 1 => by
   have ih0 := zna k
   · intro y0 y1 y2 y3
     unfold zd0
     exact zm4 ih0 zol zom zhp
theorem zsy : ∀ a0 k, LeO (zhe k a0) (zhe (k + 1) a0) := by
 intro a0 k
 have ih0 := zna k
 unfold zhe
 exact zm4 ih0 zol zom zhp
theorem zkt (k : Nat) (A0 : Option Addr) (c0 : Nat) (l0 : List (S62)) (r : Bool) (w : World) (hr0 : Kd.C k62 w A0 l0.length l0) (hc0 : l0.length ≤ c0) (h : zhe k l0 = some r) :
   Calls Tryz.prog 77 #[.slice A0 l0.length c0] w fun e w' => e = .returned (.bool r) ∧ Below w.heap.size w w' := by
 have hu62 := Tryz.underlying62
 have HR0 := zA hr0
 have HC0 := zA hc0
 clear hr0 hc0
 have HB := zA (Below.refl w.heap.size w)
 have H := h
 unfold zhe at H
 clear h
 replace H := zob H
 obtain ⟨t101, A20, H⟩ := H
 have A2 := zA A20
 clear A20
 by_cases c3 : t101 = true
 rotate_left
 · replace c3 := zbf c3
   subst c3
   replace H := zif H
   obtain rfl := zsi H
   go_enter Tryz.func77, Tryz.ntmps77
   go_wp2_with (first | ((with_reducible refine zgc 79 ?_); refine zcl 7 Tryz.func79 (zbm (l0.length : Int) 1 24 false _ A2.out) ?_; rintro e w' ⟨rfl, ⟨nd, rfl⟩⟩; refine ⟨_, rfl, ?_⟩))
   exact zr_4
 subst c3
 replace H := zih H
 have H' := zA H
 clear H
 go_enter Tryz.func77, Tryz.ntmps77
 go_wp2_with (first | ((with_reducible refine zgc 79 ?_); refine zcl 7 Tryz.func79 (zbm (l0.length : Int) 1 24 true _ A2.out) ?_; rintro e w' ⟨rfl, ⟨nd, rfl⟩⟩; refine ⟨_, rfl, ?_⟩))
 go_loopg [11] k (fun kq v11 w' => ∃ (x11_1 : Int), v11 = .int .i64 x11_1 ∧ Aside0 (zd0 kq l0 l0 (l0.length : Int) x11_1 = some r) ∧ Aside0 (kq ≤ k) ∧ Aside0 (Below w.heap.size w w'))
 case atStart => exact ⟨(0), zq5, H', ⟨zlr _⟩, ⟨zq2⟩⟩
 clear H'
 try clear c3
 obtain ⟨x11_1, rfl, HA, HK1, HB⟩ := hrel
 cases gk with
 | zero => exact absurd HA.out (by simp [zd0])
 | succ k1 =>
 have H := HA.out
 clear HA
 simp only [zd0] at H
 revert H
 refine zit (fun c4 H => ?_) fun c4 H => ?_
 rotate_left
 · replace H := zob H
   obtain ⟨t105, A150, H⟩ := H
   have A15 := zA A150
   clear A150
   obtain ⟨ji16, hji16⟩ : ∃ j_ : Int, (wrap64 ((l0.length : Int) - 1)) = j_ := ⟨_, rfl⟩
   replace H : (if 0 ≤ (ji16) then (if (ji16) ≤ (t105.length : Int) then ((zgk k1 (t105.take ((ji16) : Int).toNat) 0).bind fun t112 => (some (!t112))) else (none)) else (none)) = some r := by first | (rw [hji16] at H; exact H) | (simp only [hji16] at H ⊢; exact H)
   (try rw [hji16] at A15)
   have hji16w : (IntKind.i64.wrap ((l0.length : Int) - 1)) = ji16 := (zic _).trans hji16
   by_cases c17 : 0 ≤ (ji16)
   rotate_left
   · rw [if_neg c17] at H
     exact absurd H (by simp)
   rw [if_pos c17] at H
   have c17b0 := eq_true c17
   have c17b1 := zdt c17
   clear c17
   by_cases c18 : (ji16) ≤ (t105.length : Int)
   rotate_left
   · rw [if_neg c18] at H
     exact absurd H (by simp)
   rw [if_pos c18] at H
   have c18b0 := eq_true c18
   have c18b1 := zdt c18
   clear c18
   obtain ⟨y108, hy108⟩ : ∃ y_ : List Int, y_ = (t105.take ((ji16) : Int).toNat) := ⟨_, rfl⟩
   rw [← hy108] at H; try with_reducible replace H := zbs H
   have Ny108 := zA hy108
   clear hy108
   replace H := zob H
   obtain ⟨t112, A190, H⟩ := H
   have A19 := zA A190
   clear A190
   obtain rfl := zsi H
   go_wp2_with (first | ((with_reducible refine zgc 113 ?_); refine zca 22 Tryz.func113 #[.slice A0 l0.length c0] (zr7 k1 _ _ l0 t105 _ (zq7 HR0) HC0.out A15.out) ?_; rintro e w20 ⟨v106, rfl, ho0, hb⟩; refine ⟨_, rfl, ?_⟩; have HO107 := zA (Kd.R_lower ho0 (zaf zq2)); replace HB := zA (zaa zq2 hb); (try clear hb); (try clear ho0); obtain ⟨Ao22, co22, eo22⟩ := Kd.R_slice HO107.out; subst eo22; have q21 : ((ji16) : Int) ≤ ((t105.length : Int) : Int) := zde zq14; obtain ⟨i021, hi021, _, hsz21, _⟩ := info_parts zl5; have hroom21 : t105.length ≤ co22 := (zRr HO107.out).2.1; have hC21 : Kd.C (Kd.int .i64) _ Ao22 t105.length t105 := (zRr HO107.out).2.2; have hcut21 := ybp (P := Tryz.prog) 24 3 .i64 Tryz.underlying24 hi021 Ao22 t105.length co22 (ji16) (zde zq14) q21 hroom21; have hr21 := Kd.C_take (m := ((ji16) : Int).toNat) hC21 (by omega); have hy21 : y108.length = ((ji16) : Int).toNat := (by rw [Ny108.out, List.length_take]; omega); rw [← Ny108.out] at hr21; rw [← hy21] at hcut21; have HR111 := zA hr21; have HC111 := zA (show y108.length ≤ co22 from by omega); clear hr21 hC21 hroom21 hi021 hsz21; have KY21 := zA hy21; clear hy21; have KL21 := zA (show ((ji16) : Int).toNat ≤ t105.length from by omega); replace q21 := eq_true q21) | ((with_reducible refine zgc 112 ?_); refine zca 27 Tryz.func112 #[.slice Ao22 y108.length co22, .int .i64 0] (zld k1 _ _ y108 0 t112 _ (by repeat (first | exact (zq15 HR111) | (with_reducible first | refine zCa ?_ _ | refine zCn ?_ _ | refine zCd ?_))) HC111.out A19.out) ?_; rintro e w' ⟨rfl, ⟨nd, rfl⟩⟩; refine ⟨_, rfl, ?_⟩))
   go_ret
   exact ⟨zq56, zq2⟩
 revert H
 refine zin fun c5 H => ?_
 revert H
 refine zin fun c6 H => ?_
 replace H := zob H
 obtain ⟨t104, A70, H⟩ := H
 have A7 := zA A70
 clear A70
 by_cases c8 : t104 = true
 rotate_left
 · replace c8 := zbf c8
   subst c8
   replace H := zif H
   obtain rfl := zsi H
   obtain ⟨p102, q102⟩ := zpq x11_1 l0.length
   obtain ⟨ad102, e102, hx102_0, hx102_1, hx102_2, hx102_3⟩ := znn HR0.out x11_1 (zoe p102) (zoe q102)
   cases e102
   replace hx102_0 := zkep HB.out hx102_0
   replace hx102_1 := zkep HB.out hx102_1
   replace hx102_2 := zkep HB.out hx102_2
   replace hx102_3 := zkep HB.out hx102_3
   go_wp2_with (first | ((with_reducible refine zgd 4 ?_); refine zbh zq2 #[.string (⟨#[]⟩ : ByteArray), .int .i64 0, .int .i64 0, .int .i64 0] 62 ?_; clear HB; intro gb103 w12 HB BK103 GW103; have GE103 := GW103; obtain ⟨hcz13_0, hcz13_1, hcz13_2, hcz13_3, hfz13_0, hfz13_1, hfz13_2, hfz13_3⟩ := zd4 BK103) | ((with_reducible refine zgc 111 ?_); refine zcl 18 Tryz.func111 (zny k1 ((zab l0 x11_1).f0) ((zab l0 x11_1).f1) ((zab l0 x11_1).f2) ((zab l0 x11_1).f3) x11_1 false _ A7.out) ?_; rintro e w14 ⟨rfl, hb⟩; refine ⟨_, rfl, ?_⟩; replace BK103 := zA (zai (g := gb103) (o := .cells #[.string ((zab l0 x11_1).f0), .int .i64 ((zab l0 x11_1).f1), .int .i64 ((zab l0 x11_1).f2), .int .i64 ((zab l0 x11_1).f3)] 62 (0, 0)) (zq11 BK103) hb); replace HB := zA (zaa (zq1 GE103) hb); (try clear hb)))
   go_ret
   exact ⟨zq4, zq1 GE103⟩
 subst c8
 replace H := zih H
 have H' := zA H
 clear H
 obtain ⟨p102, q102⟩ := zpq x11_1 l0.length
 obtain ⟨ad102, e102, hx102_0, hx102_1, hx102_2, hx102_3⟩ := znn HR0.out x11_1 (zoe p102) (zoe q102)
 cases e102
 replace hx102_0 := zkep HB.out hx102_0
 replace hx102_1 := zkep HB.out hx102_1
 replace hx102_2 := zkep HB.out hx102_2
 replace hx102_3 := zkep HB.out hx102_3
 go_wp2_with (first | ((with_reducible refine zgd 4 ?_); refine zbh zq2 #[.string (⟨#[]⟩ : ByteArray), .int .i64 0, .int .i64 0, .int .i64 0] 62 ?_; clear HB; intro gb103 w9 HB BK103 GW103; have GE103 := GW103; obtain ⟨hcz10_0, hcz10_1, hcz10_2, hcz10_3, hfz10_0, hfz10_1, hfz10_2, hfz10_3⟩ := zd4 BK103) | ((with_reducible refine zgc 111 ?_); refine zcl 18 Tryz.func111 (zny k1 ((zab l0 x11_1).f0) ((zab l0 x11_1).f1) ((zab l0 x11_1).f2) ((zab l0 x11_1).f3) x11_1 true _ A7.out) ?_; rintro e w11 ⟨rfl, hb⟩; refine ⟨_, rfl, ?_⟩; replace BK103 := zA (zai (g := gb103) (o := .cells #[.string ((zab l0 x11_1).f0), .int .i64 ((zab l0 x11_1).f1), .int .i64 ((zab l0 x11_1).f2), .int .i64 ((zab l0 x11_1).f3)] 62 (0, 0)) (zq11 BK103) hb); replace HB := zA (zaa (zq1 GE103) hb); (try clear hb)))
 go_roundg k1
 case measure => have := HK1.out; omega
 case rel => exact ⟨(wrap64 (x11_1 + 1)), zq5, H', ⟨zq31 HK1⟩, ⟨zq1 GE103⟩⟩
def zd8 : Nat → Int → Int → List Int → Int → Int → Option (Bool)
 | 0, _, _, _, _, _ => none
 | k + 1, x1, x2, x9, x10, x11 => if x11 < x10 then (if 0 ≤ x11 then (if x11 < (x9.length : Int) then ((zet (rd x9 x11) x1 x2).bind fun t102 => (if t102 = true then (zd8 k x1 x2 x9 x10 (wrap64 (x11 + 1))) else (some false))) else (none)) else (none)) else (some true)
def zhf (k : Nat) (l0 : List Int) (a1 : Int) (a2 : Int) : Option (Bool) := zd8 k a1 a2 l0 (l0.length : Int) 0
theorem zn0 : ∀ k, (∀ y0 y1 y2 y3 y4, LeO (zd8 k y0 y1 y2 y3 y4) (zd8 (k + 1) y0 y1 y2 y3 y4))
 | 0 => fun _ _ _ _ _ r h => by simp [zd8] at h
 | k + 1 => by
   have ih0 := zn0 k
   · intro y0 y1 y2 y3 y4
     unfold zd8
     exact zm1 ih0
theorem zj2 : ∀ a0 a1 a2 k, LeO (zhf k a0 a1 a2) (zhf (k + 1) a0 a1 a2) := by
 intro a0 a1 a2 k
 have ih0 := zn0 k
 unfold zhf
 exact zm1 ih0
theorem zle (k : Nat) (A0 : Option Addr) (c0 : Nat) (l0 : List Int) (a1 : Int) (a2 : Int) (r : Bool) (w : World) (hr0 : Kd.C (Kd.int .i64) w A0 l0.length l0) (hc0 : l0.length ≤ c0) (h : zhf k l0 a1 a2 = some r) :
   Calls Tryz.prog 114 #[.slice A0 l0.length c0, .int .i64 a1, .int .i64 a2] w fun e w' => e = .returned (.bool r) ∧ Drawn0 w w' := by
 have HR0 := zA hr0
 have HC0 := zA hc0
 clear hr0 hc0
 have H := h
 unfold zhf at H
 clear h
 have H' := zA H
 clear H
 go_enter Tryz.func114, Tryz.ntmps114
 go_wp2
 go_loopg [11] k (fun kq v11 w' => ∃ (x11_1 : Int), v11 = .int .i64 x11_1 ∧ Aside0 (zd8 kq a1 a2 l0 (l0.length : Int) x11_1 = some r) ∧ Aside0 (kq ≤ k) ∧ Drawn0 w w')
 case atStart => exact ⟨(0), zq5, H', ⟨zlr _⟩, zq8⟩
 clear H'
 obtain ⟨x11_1, rfl, HA, HK1, ⟨m1, rfl⟩⟩ := hrel
 cases gk with
 | zero => exact absurd HA.out (by simp [zd8])
 | succ k1 =>
 have H := HA.out
 clear HA
 simp only [zd8] at H
 revert H
 refine zit (fun c4 H => ?_) fun c4 H => ?_
 rotate_left
 · obtain rfl := zsi H
   exact zr_1
 revert H
 refine zin fun c5 H => ?_
 revert H
 refine zin fun c6 H => ?_
 replace H := zob H
 obtain ⟨t102, A70, H⟩ := H
 have A7 := zA A70
 clear A70
 by_cases c8 : t102 = true
 rotate_left
 · replace c8 := zbf c8
   subst c8
   replace H := zif H
   obtain rfl := zsi H
   obtain ⟨p101, q101⟩ := zpq x11_1 l0.length
   obtain ⟨ad101, e101, hx101_0⟩ := Kd.at_int HR0.out x11_1 (zoe p101) (zoe q101)
   cases e101
   go_wp2_with (first | ((with_reducible refine zgc 79 ?_); refine zcl 18 Tryz.func79 (zbm (rd l0 x11_1) a1 a2 false _ A7.out) ?_; rintro e w' ⟨rfl, ⟨nd, rfl⟩⟩; refine ⟨_, rfl, ?_⟩))
   exact zr_5
 subst c8
 replace H := zih H
 have H' := zA H
 clear H
 obtain ⟨p101, q101⟩ := zpq x11_1 l0.length
 obtain ⟨ad101, e101, hx101_0⟩ := Kd.at_int HR0.out x11_1 (zoe p101) (zoe q101)
 cases e101
 go_wp2_with (first | ((with_reducible refine zgc 79 ?_); refine zcl 18 Tryz.func79 (zbm (rd l0 x11_1) a1 a2 true _ A7.out) ?_; rintro e w' ⟨rfl, ⟨nd, rfl⟩⟩; refine ⟨_, rfl, ?_⟩))
 go_roundg k1
 case measure => have := HK1.out; omega
 case rel => exact ⟨(wrap64 (x11_1 + 1)), zq5, H', ⟨zq31 HK1⟩, zq8⟩
end Go.Proofs.YtnaafcleafbejaaGreat.Q
end
section
namespace Go.Proofs.YtnaafcleafbejaaGreat.Q
open Go.RowKit Go.Proofs.YtnaafcleafbejaaGreatW.PrintWords Go.Proofs.YtnaafcleafbejaaGreatW.PrintLast Go.Proofs.YtnaafcleafbejaaGreatW.PrintMore
set_option maxHeartbeats 8000000
set_option maxRecDepth 100000
attribute [local go_sem] zbc zbg zb8 zb9 za1 za2 zbi zbj
set_option linter.unusedVariables false
set_option linter.unusedSimpArgs false
mutual
def zc3 : Nat → Bool → List ByteArray → List Int → Option (Bool)
 | 0, _, _, _ => none
 | k + 1, x28, x102000, x102001 => if x28 = true then (some false) else (zc7 k x102000 (x102000.length : Int) 0 x102000 x102001)
def zc7 : Nat → List ByteArray → Int → Int → List ByteArray → List Int → Option (Bool)
 | 0, _, _, _, _, _ => none
 | k + 1, x30, x31, x32, x102000, x102001 => if x32 < x31 then (if 0 ≤ x32 then (if x32 < (x30.length : Int) then ((zei k (rdOf ByteArray.empty x30 x32)).bind fun bt105 => (if bt105.1 = true then (if x32 ≤ (x102000.length : Int) then ((zfk k (x102000.take (x32 : Int).toNat) (rdOf ByteArray.empty x30 x32)).bind fun t111 => (if t111 = true then (some false) else ((zg6 k (rdOf ByteArray.empty x30 x32)).bind fun t112 => (if t112 = true then ((zhf k x102001 bt105.2.2.2.1 bt105.2.2.2.2).bind fun t113 => (if t113 = true then (zc7 k x30 x31 (wrap64 (x32 + 1)) x102000 x102001) else (some false))) else (zc7 k x30 x31 (wrap64 (x32 + 1)) x102000 x102001))))) else (none)) else (some false))) else (none)) else (none)) else (zc8 k x102001 (x102001.length : Int) 0 x102000 x102001)
def zc8 : Nat → List Int → Int → Int → List ByteArray → List Int → Option (Bool)
 | 0, _, _, _, _, _ => none
 | k + 1, x69, x70, x71, x102000, x102001 => if x71 < x70 then (if 0 ≤ x71 then (if x71 < (x69.length : Int) then (if x71 ≤ (x102001.length : Int) then ((zgk k (x102001.take (x71 : Int).toNat) (rd x69 x71)).bind fun t116 => (if t116 = true then (some false) else (zc8 k x69 x70 (wrap64 (x71 + 1)) x102000 x102001))) else (none)) else (none)) else (none)) else (some true)
end
def zhg (k : Nat) (l0_0 : List ByteArray) (l0_1 : List Int) : Option (Bool) := (zet (l0_0.length : Int) 1 4).bind fun t102 => (if t102 = true then (if (l0_1.length : Int) > 2 then (zc3 k true l0_0 l0_1) else ((zhf k l0_1 0 63).bind fun t103 => (zc3 k (!t103) l0_0 l0_1))) else (zc3 k true l0_0 l0_1))
theorem znb : ∀ k, (∀ y0 y1 y2, LeO (zc3 k y0 y1 y2) (zc3 (k + 1) y0 y1 y2)) ∧ (∀ y0 y1 y2 y3 y4, LeO (zc7 k y0 y1 y2 y3 y4) (zc7 (k + 1) y0 y1 y2 y3 y4)) ∧ (∀ y0 y1 y2 y3 y4, LeO (zc8 k y0 y1 y2 y3 y4) (zc8 (k + 1) y0 y1 y2 y3 y4))
 | 0 => ⟨fun _ _ _ r h => by simp [zc3] at h, fun _ _ _ _ _ r h => by simp [zc7] at h, fun _ _ _ _ _ r h => by simp [zc8] at h⟩
 | k + 1 => by
   obtain ⟨ih0, ih1, ih2⟩ := znb k
   refine ⟨?_, ?_, ?_⟩
   · intro y0 y1 y2
     unfold zc3
     exact zm8 ih0 ih1 ih2 zip zcy zj2 zhp zgv
   · intro y0 y1 y2 y3 y4
     unfold zc7
     exact zm8 ih0 ih1 ih2 zip zcy zj2 zhp zgv
   · intro y0 y1 y2 y3 y4
     unfold zc8
     exact zm8 ih0 ih1 ih2 zip zcy zj2 zhp zgv
theorem zsz : ∀ a0 a1 k, LeO (zhg k a0 a1) (zhg (k + 1) a0 a1) := by
 intro a0 a1 k
 obtain ⟨ih0, ih1, ih2⟩ := znb k
 unfold zhg
 exact zm8 ih0 ih1 ih2 zip zcy zj2 zhp zgv
theorem zn1 (k : Nat) (A0_0 : Option Addr) (c0_0 : Nat) (l0_0 : List ByteArray) (A0_1 : Option Addr) (c0_1 : Nat) (l0_1 : List Int) (r : Bool) (w : World) (hr0_0 : Kd.C Kd.string w A0_0 l0_0.length l0_0) (hc0_0 : l0_0.length ≤ c0_0) (hr0_1 : Kd.C (Kd.int .i64) w A0_1 l0_1.length l0_1) (hc0_1 : l0_1.length ≤ c0_1) (h : zhg k l0_0 l0_1 = some r) :
   Calls Tryz.prog 78 #[.agg #[.slice A0_0 l0_0.length c0_0, .slice A0_1 l0_1.length c0_1]] w fun e w' => e = .returned (.bool r) ∧ Below w.heap.size w w' := by
 have hu34 := Tryz.underlying34
 have HR0_0 := zA hr0_0
 have HC0_0 := zA hc0_0
 clear hr0_0 hc0_0
 have HR0_1 := zA hr0_1
 have HC0_1 := zA hc0_1
 clear hr0_1 hc0_1
 have HB := zA (Below.refl w.heap.size w)
 have H := h
 unfold zhg at H
 clear h
 have HC2 := zA H
 clear H
 go_enter Tryz.func78, Tryz.ntmps78
 go_upto_region 1 with (first | ((with_reducible refine zgd 1 ?_); (try (refine zl4 (by rfl) ?_; dsimp only)); refine zh9 ?hg (N := 1) ?hd (cs := #[.slice A0_0 l0_0.length c0_0, .slice A0_1 l0_1.length c0_1]) (t := 34) ?hr ?_; (case hd => rfl); (case hg => rfl); (case hr => go_simp <;> rfl); intro gb101 hg w3 hbox hb; have zs := zpair zq2 hb; replace HB := zA (zs.1); have BK101 := zA (hbox); have GW101 := zA (zge hg zs.2); have GE101 := GW101; clear zs hb hbox hg))
 (try simp only [Act.put, List.setIfInBounds_toArray, List.set_cons_zero, List.set_cons_succ])
 go_cut [28] (fun v28 wc => ∃ (kq : Nat) (x28_1 : Bool), v28 = .bool x28_1 ∧ Aside0 (zc3 kq x28_1 l0_0 l0_1 = some r) ∧ Aside0 (kq ≤ k) ∧ Aside0 (wc.heap[gb101]? = some (.cells #[(.slice A0_0 l0_0.length c0_0), (.slice A0_1 l0_1.length c0_1)] 34 (0, 0))) ∧ Aside0 (Below w.heap.size w wc))
 case first =>
   have H := HC2.out
   clear HC2
   replace H := zob H
   obtain ⟨t102, A40, H⟩ := H
   have A4 := zA A40
   clear A40
   by_cases c5 : t102 = true
   rotate_left
   · replace c5 := zbf c5
     subst c5
     replace H := zif H
     have H' := zA H
     clear H
     obtain ⟨hcz10_0, hcz10_1⟩ := zc2 w3 (.slice A0_0 l0_0.length c0_0) (.slice A0_1 l0_1.length c0_1) BK101.out
     obtain ⟨hfz10_0, hfz10_1⟩ := zf2 BK101.out
     go_wp2_with (first | ((with_reducible refine zgc 79 ?_); refine zcl 15 Tryz.func79 (zbm (l0_0.length : Int) 1 4 false _ A4.out) ?_; rintro e w' ⟨rfl, ⟨nd, rfl⟩⟩; refine ⟨_, rfl, ?_⟩))
     go_meet
     case rel => exact ⟨_, (true), zq5, H', ⟨zq41⟩, ⟨zq6 BK101⟩, ⟨zq1 GE101⟩⟩
   subst c5
   replace H := zih H
   by_cases c6 : (l0_1.length : Int) > 2
   · rw [if_pos c6] at H
     have c6b0 := zdt c6
     have c6b1 : decide (2 < l0_1.length) = true := zdt (by omega)
     clear c6
     (first | rw [c6b0] | (simp only [zic, zj6]; rw [c6b0]) | skip)
     have H' := zA H
     clear H
     obtain ⟨hcz7_0, hcz7_1⟩ := zc2 w3 (.slice A0_0 l0_0.length c0_0) (.slice A0_1 l0_1.length c0_1) BK101.out
     obtain ⟨hfz7_0, hfz7_1⟩ := zf2 BK101.out
     go_wp2_with (first | ((with_reducible refine zgc 79 ?_); refine zcl 15 Tryz.func79 (zbm (l0_0.length : Int) 1 4 true _ A4.out) ?_; rintro e w' ⟨rfl, ⟨nd, rfl⟩⟩; refine ⟨_, rfl, ?_⟩))
     go_meet
     case rel => exact ⟨_, (true), zq5, H', ⟨zq41⟩, ⟨zq6 BK101⟩, ⟨zq1 GE101⟩⟩
   rw [if_neg c6] at H
   have c6b0 := zdf c6
   have c6b1 : decide (2 < l0_1.length) = false := zdf (by omega)
   clear c6
   (first | rw [c6b0] | (simp only [zic, zj6]; rw [c6b0]) | skip)
   replace H := zob H
   obtain ⟨t103, A80, H⟩ := H
   have A8 := zA A80
   clear A80
   have H' := zA H
   clear H
   obtain ⟨hcz9_0, hcz9_1⟩ := zc2 w3 (.slice A0_0 l0_0.length c0_0) (.slice A0_1 l0_1.length c0_1) BK101.out
   obtain ⟨hfz9_0, hfz9_1⟩ := zf2 BK101.out
   go_wp2_with (first | ((with_reducible refine zgc 79 ?_); refine zcl 15 Tryz.func79 (zbm (l0_0.length : Int) 1 4 true _ A4.out) ?_; rintro e w' ⟨rfl, ⟨nd, rfl⟩⟩; refine ⟨_, rfl, ?_⟩) | (go_at_call 114; (with_reducible refine (zle k _ _ l0_1 0 63 t103 _ ?side1 ?side2 A8.out).mono ?_); (case side1 => repeat (first | exact (zCb HR0_1.out (zq1 GE101)) | (with_reducible first | refine zCa ?_ _ | refine zCn ?_ _ | refine zCd ?_))); (case side2 => exact HC0_1.out); rintro e w' ⟨rfl, ⟨nd, rfl⟩⟩))
   go_meet
   case rel => exact ⟨_, (!t103), zq5, H', ⟨zq41⟩, ⟨zq6 BK101⟩, ⟨zq1 GE101⟩⟩
 clear HC2
 try clear c5
 try clear c6
 try clear c6b0
 try clear c6b1
 try clear hcz10_0
 try clear hcz10_1
 try clear hcz7_0
 try clear hcz7_1
 try clear hcz9_0
 try clear hcz9_1
 try clear hfz10_0
 try clear hfz10_1
 try clear hfz7_0
 try clear hfz7_1
 try clear hfz9_0
 try clear hfz9_1
 obtain ⟨kq, x28_1, rfl, HA, HJ1, BK101, HB⟩ := hcut
 cases kq with
 | zero => exact absurd HA.out (by simp [zc3])
 | succ kj1 =>
 have H := HA.out
 clear HA
 simp only [zc3] at H
 by_cases c11 : x28_1 = true
 · subst c11
   replace H := zih H
   obtain rfl := zsi H
   go_wp2
   go_ret
   exact ⟨zq4, zq1 GE101⟩
 replace c11 := zbf c11
 subst c11
 replace H := zif H
 have H' := zA H
 clear H
 obtain ⟨hcz12_0, hcz12_1⟩ := zc2 wc (.slice A0_0 l0_0.length c0_0) (.slice A0_1 l0_1.length c0_1) BK101.out
 obtain ⟨hfz12_0, hfz12_1⟩ := zf2 BK101.out
 go_wp2
 go_loopg [32] kj1 (fun kq v32 w' => ∃ (x32_2 : Int), v32 = .int .i64 x32_2 ∧ Aside0 (zc7 kq l0_0 (l0_0.length : Int) x32_2 l0_0 l0_1 = some r) ∧ Aside0 (kq ≤ kj1) ∧ Aside0 (w'.heap[gb101]? = some (.cells #[(.slice A0_0 l0_0.length c0_0), (.slice A0_1 l0_1.length c0_1)] 34 (0, 0))) ∧ Aside0 (Below w.heap.size w w'))
 case atStart => exact ⟨(0), zq5, H', ⟨zlr _⟩, ⟨zq6 BK101⟩, ⟨zq1 GE101⟩⟩
 clear H'
 try clear c5
 try clear c6
 try clear c6b0
 try clear c6b1
 try clear c11
 try clear hcz10_0
 try clear hcz10_1
 try clear hcz12_0
 try clear hcz12_1
 try clear hcz7_0
 try clear hcz7_1
 try clear hcz9_0
 try clear hcz9_1
 try clear hfz10_0
 try clear hfz10_1
 try clear hfz12_0
 try clear hfz12_1
 try clear hfz7_0
 try clear hfz7_1
 try clear hfz9_0
 try clear hfz9_1
 obtain ⟨x32_2, rfl, HA, HK2, BK101, HB⟩ := hrel
 cases gk with
 | zero => exact absurd HA.out (by simp [zc7])
 | succ k2 =>
 have H := HA.out
 clear HA
 simp only [zc7] at H
 revert H
 refine zit (fun c13 H => ?_) fun c13 H => ?_
 rotate_left
 · have H' := zA H
   clear H
   obtain ⟨hcz39_0, hcz39_1⟩ := zc2 wr (.slice A0_0 l0_0.length c0_0) (.slice A0_1 l0_1.length c0_1) BK101.out
   obtain ⟨hfz39_0, hfz39_1⟩ := zf2 BK101.out
   go_wp2
   go_loopg [71] k2 (fun kq v71 w' => ∃ (x71_3 : Int), v71 = .int .i64 x71_3 ∧ Aside0 (zc8 kq l0_1 (l0_1.length : Int) x71_3 l0_0 l0_1 = some r) ∧ Aside0 (kq ≤ k2) ∧ Aside0 (w'.heap[gb101]? = some (.cells #[(.slice A0_0 l0_0.length c0_0), (.slice A0_1 l0_1.length c0_1)] 34 (0, 0))) ∧ Aside0 (Below w.heap.size w w'))
   case atStart => exact ⟨(0), zq5, H', ⟨zlr _⟩, ⟨zq6 BK101⟩, ⟨zq1 GE101⟩⟩
   clear H'
   try clear c5
   try clear c6
   try clear c6b0
   try clear c6b1
   try clear c11
   try clear c13
   try clear hcz10_0
   try clear hcz10_1
   try clear hcz12_0
   try clear hcz12_1
   try clear hcz39_0
   try clear hcz39_1
   try clear hcz7_0
   try clear hcz7_1
   try clear hcz9_0
   try clear hcz9_1
   try clear hfz10_0
   try clear hfz10_1
   try clear hfz12_0
   try clear hfz12_1
   try clear hfz39_0
   try clear hfz39_1
   try clear hfz7_0
   try clear hfz7_1
   try clear hfz9_0
   try clear hfz9_1
   obtain ⟨x71_3, rfl, HA, HK3, BK101, HB⟩ := hrel
   cases gk with
   | zero => exact absurd HA.out (by simp [zc8])
   | succ k3 =>
   have H := HA.out
   clear HA
   simp only [zc8] at H
   revert H
   refine zit (fun c40 H => ?_) fun c40 H => ?_
   rotate_left
   · obtain rfl := zsi H
     go_wp2
     go_ret
     exact ⟨zq4, zq1 GE101⟩
   revert H
   refine zin fun c41 H => ?_
   revert H
   refine zin fun c42 H => ?_
   have c43b0 := eq_true (zde zq14 : 0 ≤ x71_3)
   by_cases c44 : x71_3 ≤ (l0_1.length : Int)
   rotate_left
   · rw [if_neg c44] at H
     exact absurd H (by simp)
   rw [if_pos c44] at H
   have c44b0 := eq_true c44
   have c44b1 := zdt c44
   clear c44
   replace H := zob H
   obtain ⟨t116, A450, H⟩ := H
   have A45 := zA A450
   clear A450
   by_cases c46 : t116 = true
   · subst c46
     replace H := zih H
     obtain rfl := zsi H
     obtain ⟨p114, q114⟩ := zpq x71_3 l0_1.length
     obtain ⟨ad114, e114, hx114_0⟩ := Kd.at_int HR0_1.out x71_3 (zoe p114) (zoe q114)
     cases e114
     replace hx114_0 := zkep HB.out hx114_0
     obtain ⟨hcz47_0, hcz47_1⟩ := zc2 wr (.slice A0_0 l0_0.length c0_0) (.slice (some ad114) l0_1.length c0_1) BK101.out
     obtain ⟨hfz47_0, hfz47_1⟩ := zf2 BK101.out
     obtain ⟨i048, hi048, _, hsz48, _⟩ := info_parts zl5
     obtain ⟨hcut48, hA48, hC48⟩ := zfm (P := Tryz.prog) (Value.int .i64) 0 24 3 .i64 Tryz.underlying24 hi048 hsz48 (some ad114) c0_1 l0_1 x71_3 (zde zq14) (zde zq14) HC0_1.out
     have HR115 := zA (Kd.C_of_reads (h1 := fun _ => rfl) (hA48 _ (Kd.reads_of_C HR0_1.out)))
     have HC115 := zA hC48
     clear hA48 hC48 hi048 hsz48
     go_wp2_with (first | ((with_reducible refine zkv (f := 112) rfl ?_); refine zsh (some 81) rfl rfl Tryz.func112 zq23 rfl #[.slice (some ad114) (l0_1.take (x71_3 : Int).toNat).length c0_1, .int .i64 (rd l0_1 x71_3)] rfl zq49 ?_; (with_reducible refine (zld k3 _ _ (l0_1.take (x71_3 : Int).toNat) (rd l0_1 x71_3) true _ ?side1 ?side2 A45.out).mono ?_); (case side1 => repeat (first | exact (zCb HR115.out HB.out) | (with_reducible first | refine zCa ?_ _ | refine zCn ?_ _ | refine zCd ?_))); (case side2 => exact HC115.out); rintro e w' ⟨rfl, ⟨nd, rfl⟩⟩; refine ⟨_, rfl, ?_⟩))
     go_ret
     exact ⟨zq4, zq1 GE101⟩
   replace c46 := zbf c46
   subst c46
   replace H := zif H
   have H' := zA H
   clear H
   obtain ⟨p114, q114⟩ := zpq x71_3 l0_1.length
   obtain ⟨ad114, e114, hx114_0⟩ := Kd.at_int HR0_1.out x71_3 (zoe p114) (zoe q114)
   cases e114
   replace hx114_0 := zkep HB.out hx114_0
   obtain ⟨hcz49_0, hcz49_1⟩ := zc2 wr (.slice A0_0 l0_0.length c0_0) (.slice (some ad114) l0_1.length c0_1) BK101.out
   obtain ⟨hfz49_0, hfz49_1⟩ := zf2 BK101.out
   obtain ⟨i050, hi050, _, hsz50, _⟩ := info_parts zl5
   obtain ⟨hcut50, hA50, hC50⟩ := zfm (P := Tryz.prog) (Value.int .i64) 0 24 3 .i64 Tryz.underlying24 hi050 hsz50 (some ad114) c0_1 l0_1 x71_3 (zde zq14) (zde zq14) HC0_1.out
   have HR115 := zA (Kd.C_of_reads (h1 := fun _ => rfl) (hA50 _ (Kd.reads_of_C HR0_1.out)))
   have HC115 := zA hC50
   clear hA50 hC50 hi050 hsz50
   go_wp2_with (first | ((with_reducible refine zkv (f := 112) rfl ?_); refine zsh (some 81) rfl rfl Tryz.func112 zq23 rfl #[.slice (some ad114) (l0_1.take (x71_3 : Int).toNat).length c0_1, .int .i64 (rd l0_1 x71_3)] rfl zq49 ?_; (with_reducible refine (zld k3 _ _ (l0_1.take (x71_3 : Int).toNat) (rd l0_1 x71_3) false _ ?side1 ?side2 A45.out).mono ?_); (case side1 => repeat (first | exact (zCb HR115.out HB.out) | (with_reducible first | refine zCa ?_ _ | refine zCn ?_ _ | refine zCd ?_))); (case side2 => exact HC115.out); rintro e w' ⟨rfl, ⟨nd, rfl⟩⟩; refine ⟨_, rfl, ?_⟩))
   go_roundg k3
   case measure => have := HJ1.out; have := HK2.out; have := HK3.out; omega
   case rel => exact ⟨(wrap64 (x71_3 + 1)), zq5, H', ⟨by have := HJ1.out; have := HK2.out; have := HK3.out; omega⟩, ⟨zq6 BK101⟩, ⟨zq1 GE101⟩⟩
 revert H
 refine zin fun c14 H => ?_
 revert H
 refine zin fun c15 H => ?_
 replace H := zob H
 obtain ⟨⟨t105, t106, t107, t108, t109⟩, A160, H⟩ := H
 have A16 := zA A160
 clear A160
 by_cases c17 : t105 = true
 rotate_left
 · replace c17 := zbf c17
   subst c17
   replace H := zif H
   obtain rfl := zsi H
   obtain ⟨p104, q104⟩ := zpq x32_2 l0_0.length
   obtain ⟨ad104, e104, hx104_0⟩ := Kd.at_string HR0_0.out x32_2 (zoe p104) (zoe q104)
   cases e104
   replace hx104_0 := zkep HB.out hx104_0
   go_wp2_with (first | ((with_reducible refine zgc 115 ?_); refine zcl 39 Tryz.func115 (zfz k2 (rdOf ByteArray.empty l0_0 x32_2) false t106 t107 t108 t109 _ A16.out) ?_; rintro e w' ⟨rfl, ⟨nd, rfl⟩⟩; refine ⟨_, rfl, ?_⟩))
   go_ret
   exact ⟨zq4, zq1 GE101⟩
 subst c17
 replace H := zih H
 have c18b0 := eq_true (zde zq14 : 0 ≤ x32_2)
 by_cases c19 : x32_2 ≤ (l0_0.length : Int)
 rotate_left
 · rw [if_neg c19] at H
   exact absurd H (by simp)
 rw [if_pos c19] at H
 have c19b0 := eq_true c19
 have c19b1 := zdt c19
 clear c19
 replace H := zob H
 obtain ⟨t111, A200, H⟩ := H
 have A20 := zA A200
 clear A200
 by_cases c21 : t111 = true
 · subst c21
   replace H := zih H
   obtain rfl := zsi H
   obtain ⟨p104, q104⟩ := zpq x32_2 l0_0.length
   obtain ⟨ad104, e104, hx104_0⟩ := Kd.at_string HR0_0.out x32_2 (zoe p104) (zoe q104)
   cases e104
   replace hx104_0 := zkep HB.out hx104_0
   go_wp2_with (first | ((with_reducible refine zgc 115 ?_); refine zcl 39 Tryz.func115 (zfz k2 (rdOf ByteArray.empty l0_0 x32_2) true t106 t107 t108 t109 _ A16.out) ?_; rintro e w' ⟨rfl, ⟨nd, rfl⟩⟩; refine ⟨_, rfl, ?_⟩; obtain ⟨hcz22_0, hcz22_1⟩ := zc2 wr (.slice (some ad104) l0_0.length c0_0) (.slice A0_1 l0_1.length c0_1) BK101.out; obtain ⟨hfz22_0, hfz22_1⟩ := zf2 BK101.out; obtain ⟨i023, hi023, _, hsz23, _⟩ := info_parts zw0; obtain ⟨hcut23, hA23, hC23⟩ := zfm (P := Tryz.prog) Value.string (⟨#[]⟩ : ByteArray) 23 9 .i64 Tryz.underlying23 hi023 hsz23 (some ad104) c0_0 l0_0 x32_2 (zde zq14) (zde zq14) HC0_0.out; have HR110 := zA (Kd.C_of_reads (h1 := fun _ => rfl) (hA23 _ (Kd.reads_of_C HR0_0.out))); have HC110 := zA hC23; clear hA23 hC23 hi023 hsz23) | (go_at_call 99; refine ziz (args' := #[.slice (some ad104) (l0_0.take (x32_2 : Int).toNat).length c0_0, .string (rdOf ByteArray.empty l0_0 x32_2)]) zq38 ?_; (with_reducible refine (zgn k2 _ _ (l0_0.take (x32_2 : Int).toNat) (rdOf ByteArray.empty l0_0 x32_2) true _ ?side1 ?side2 A20.out).mono ?_); (case side1 => repeat (first | exact (zCb HR110.out (zq1 GE101)) | (with_reducible first | refine zCa ?_ _ | refine zCn ?_ _ | refine zCd ?_))); (case side2 => exact HC110.out); rintro e w' ⟨rfl, ⟨nd, rfl⟩⟩))
   go_ret
   exact ⟨zq4, zq1 GE101⟩
 replace c21 := zbf c21
 subst c21
 replace H := zif H
 replace H := zob H
 obtain ⟨t112, A240, H⟩ := H
 have A24 := zA A240
 clear A240
 by_cases c25 : t112 = true
 rotate_left
 · replace c25 := zbf c25
   subst c25
   replace H := zif H
   have H' := zA H
   clear H
   obtain ⟨p104, q104⟩ := zpq x32_2 l0_0.length
   obtain ⟨ad104, e104, hx104_0⟩ := Kd.at_string HR0_0.out x32_2 (zoe p104) (zoe q104)
   cases e104
   replace hx104_0 := zkep HB.out hx104_0
   go_wp2_with (first | ((with_reducible refine zgc 115 ?_); refine zcl 39 Tryz.func115 (zfz k2 (rdOf ByteArray.empty l0_0 x32_2) true t106 t107 t108 t109 _ A16.out) ?_; rintro e w' ⟨rfl, ⟨nd, rfl⟩⟩; refine ⟨_, rfl, ?_⟩; obtain ⟨hcz36_0, hcz36_1⟩ := zc2 wr (.slice (some ad104) l0_0.length c0_0) (.slice A0_1 l0_1.length c0_1) BK101.out; obtain ⟨hfz36_0, hfz36_1⟩ := zf2 BK101.out; obtain ⟨i037, hi037, _, hsz37, _⟩ := info_parts zw0; obtain ⟨hcut37, hA37, hC37⟩ := zfm (P := Tryz.prog) Value.string (⟨#[]⟩ : ByteArray) 23 9 .i64 Tryz.underlying23 hi037 hsz37 (some ad104) c0_0 l0_0 x32_2 (zde zq14) (zde zq14) HC0_0.out; have HR110 := zA (Kd.C_of_reads (h1 := fun _ => rfl) (hA37 _ (Kd.reads_of_C HR0_0.out))); have HC110 := zA hC37; clear hA37 hC37 hi037 hsz37) | (go_at_call 99; refine ziz (args' := #[.slice (some ad104) (l0_0.take (x32_2 : Int).toNat).length c0_0, .string (rdOf ByteArray.empty l0_0 x32_2)]) zq38 ?_; (with_reducible refine (zgn k2 _ _ (l0_0.take (x32_2 : Int).toNat) (rdOf ByteArray.empty l0_0 x32_2) false _ ?side1 ?side2 A20.out).mono ?_); (case side1 => repeat (first | exact (zCb HR110.out (zq1 GE101)) | (with_reducible first | refine zCa ?_ _ | refine zCn ?_ _ | refine zCd ?_))); (case side2 => exact HC110.out); rintro e w' ⟨rfl, ⟨nd, rfl⟩⟩) | (go_at_call 116; (with_reducible refine (zh5 k2 (rdOf ByteArray.empty l0_0 x32_2) false _ A24.out).mono ?_); rintro e w38 ⟨rfl, hb⟩; replace BK101 := zbb BK101 hb; replace HB := zA (zaa (zq1 GE101) hb); (try clear hb)))
   go_roundg k2
   case measure => have := HJ1.out; have := HK2.out; omega
   case rel => exact ⟨(wrap64 (x32_2 + 1)), zq5, H', ⟨zq39 HJ1 HK2⟩, ⟨zq6 BK101⟩, ⟨zq1 GE101⟩⟩
 subst c25
 replace H := zih H
 replace H := zob H
 obtain ⟨t113, A260, H⟩ := H
 have A26 := zA A260
 clear A260
 by_cases c27 : t113 = true
 rotate_left
 · replace c27 := zbf c27
   subst c27
   replace H := zif H
   obtain rfl := zsi H
   obtain ⟨p104, q104⟩ := zpq x32_2 l0_0.length
   obtain ⟨ad104, e104, hx104_0⟩ := Kd.at_string HR0_0.out x32_2 (zoe p104) (zoe q104)
   cases e104
   replace hx104_0 := zkep HB.out hx104_0
   go_wp2_with (first | ((with_reducible refine zgc 115 ?_); refine zcl 39 Tryz.func115 (zfz k2 (rdOf ByteArray.empty l0_0 x32_2) true t106 t107 t108 t109 _ A16.out) ?_; rintro e w' ⟨rfl, ⟨nd, rfl⟩⟩; refine ⟨_, rfl, ?_⟩; obtain ⟨hcz32_0, hcz32_1⟩ := zc2 wr (.slice (some ad104) l0_0.length c0_0) (.slice A0_1 l0_1.length c0_1) BK101.out; obtain ⟨hfz32_0, hfz32_1⟩ := zf2 BK101.out; obtain ⟨i033, hi033, _, hsz33, _⟩ := info_parts zw0; obtain ⟨hcut33, hA33, hC33⟩ := zfm (P := Tryz.prog) Value.string (⟨#[]⟩ : ByteArray) 23 9 .i64 Tryz.underlying23 hi033 hsz33 (some ad104) c0_0 l0_0 x32_2 (zde zq14) (zde zq14) HC0_0.out; have HR110 := zA (Kd.C_of_reads (h1 := fun _ => rfl) (hA33 _ (Kd.reads_of_C HR0_0.out))); have HC110 := zA hC33; clear hA33 hC33 hi033 hsz33) | (go_at_call 99; refine ziz (args' := #[.slice (some ad104) (l0_0.take (x32_2 : Int).toNat).length c0_0, .string (rdOf ByteArray.empty l0_0 x32_2)]) zq38 ?_; (with_reducible refine (zgn k2 _ _ (l0_0.take (x32_2 : Int).toNat) (rdOf ByteArray.empty l0_0 x32_2) false _ ?side1 ?side2 A20.out).mono ?_); (case side1 => repeat (first | exact (zCb HR110.out (zq1 GE101)) | (with_reducible first | refine zCa ?_ _ | refine zCn ?_ _ | refine zCd ?_))); (case side2 => exact HC110.out); rintro e w' ⟨rfl, ⟨nd, rfl⟩⟩) | (go_at_call 116; (with_reducible refine (zh5 k2 (rdOf ByteArray.empty l0_0 x32_2) true _ A24.out).mono ?_); rintro e w34 ⟨rfl, hb⟩; replace BK101 := zbb BK101 hb; replace HB := zA (zaa (zq1 GE101) hb); (try clear hb); obtain ⟨hcz35_0, hcz35_1⟩ := zc2 w34 (.slice (some ad104) l0_0.length c0_0) (.slice A0_1 l0_1.length c0_1) BK101.out; obtain ⟨hfz35_0, hfz35_1⟩ := zf2 BK101.out) | (go_at_call 114; (with_reducible refine (zle k2 _ _ l0_1 t108 t109 false _ ?side1 ?side2 A26.out).mono ?_); (case side1 => repeat (first | exact (zCb HR0_1.out HB.out) | (with_reducible first | refine zCa ?_ _ | refine zCn ?_ _ | refine zCd ?_))); (case side2 => exact HC0_1.out); rintro e w' ⟨rfl, ⟨nd, rfl⟩⟩))
   go_ret
   exact ⟨zq4, zq1 GE101⟩
 subst c27
 replace H := zih H
 have H' := zA H
 clear H
 obtain ⟨p104, q104⟩ := zpq x32_2 l0_0.length
 obtain ⟨ad104, e104, hx104_0⟩ := Kd.at_string HR0_0.out x32_2 (zoe p104) (zoe q104)
 cases e104
 replace hx104_0 := zkep HB.out hx104_0
 go_wp2_with (first | ((with_reducible refine zgc 115 ?_); refine zcl 39 Tryz.func115 (zfz k2 (rdOf ByteArray.empty l0_0 x32_2) true t106 t107 t108 t109 _ A16.out) ?_; rintro e w' ⟨rfl, ⟨nd, rfl⟩⟩; refine ⟨_, rfl, ?_⟩; obtain ⟨hcz28_0, hcz28_1⟩ := zc2 wr (.slice (some ad104) l0_0.length c0_0) (.slice A0_1 l0_1.length c0_1) BK101.out; obtain ⟨hfz28_0, hfz28_1⟩ := zf2 BK101.out; obtain ⟨i029, hi029, _, hsz29, _⟩ := info_parts zw0; obtain ⟨hcut29, hA29, hC29⟩ := zfm (P := Tryz.prog) Value.string (⟨#[]⟩ : ByteArray) 23 9 .i64 Tryz.underlying23 hi029 hsz29 (some ad104) c0_0 l0_0 x32_2 (zde zq14) (zde zq14) HC0_0.out; have HR110 := zA (Kd.C_of_reads (h1 := fun _ => rfl) (hA29 _ (Kd.reads_of_C HR0_0.out))); have HC110 := zA hC29; clear hA29 hC29 hi029 hsz29) | (go_at_call 99; refine ziz (args' := #[.slice (some ad104) (l0_0.take (x32_2 : Int).toNat).length c0_0, .string (rdOf ByteArray.empty l0_0 x32_2)]) zq38 ?_; (with_reducible refine (zgn k2 _ _ (l0_0.take (x32_2 : Int).toNat) (rdOf ByteArray.empty l0_0 x32_2) false _ ?side1 ?side2 A20.out).mono ?_); (case side1 => repeat (first | exact (zCb HR110.out (zq1 GE101)) | (with_reducible first | refine zCa ?_ _ | refine zCn ?_ _ | refine zCd ?_))); (case side2 => exact HC110.out); rintro e w' ⟨rfl, ⟨nd, rfl⟩⟩) | (go_at_call 116; (with_reducible refine (zh5 k2 (rdOf ByteArray.empty l0_0 x32_2) true _ A24.out).mono ?_); rintro e w30 ⟨rfl, hb⟩; replace BK101 := zbb BK101 hb; replace HB := zA (zaa (zq1 GE101) hb); (try clear hb); obtain ⟨hcz31_0, hcz31_1⟩ := zc2 w30 (.slice (some ad104) l0_0.length c0_0) (.slice A0_1 l0_1.length c0_1) BK101.out; obtain ⟨hfz31_0, hfz31_1⟩ := zf2 BK101.out) | (go_at_call 114; (with_reducible refine (zle k2 _ _ l0_1 t108 t109 true _ ?side1 ?side2 A26.out).mono ?_); (case side1 => repeat (first | exact (zCb HR0_1.out HB.out) | (with_reducible first | refine zCa ?_ _ | refine zCn ?_ _ | refine zCd ?_))); (case side2 => exact HC0_1.out); rintro e w' ⟨rfl, ⟨nd, rfl⟩⟩))
 go_roundg k2
 case measure => have := HJ1.out; have := HK2.out; omega
 case rel => exact ⟨(wrap64 (x32_2 + 1)), zq5, H', ⟨zq39 HJ1 HK2⟩, ⟨zq6 BK101⟩, ⟨zq1 GE101⟩⟩
end Go.Proofs.YtnaafcleafbejaaGreat.Q
end
section
namespace Go.Proofs.YtnaafcleafbejaaGreat.Q
open Go.RowKit Go.Proofs.YtnaafcleafbejaaGreatW.PrintWords Go.Proofs.YtnaafcleafbejaaGreatW.PrintLast Go.Proofs.YtnaafcleafbejaaGreatW.PrintMore
set_option maxHeartbeats 8000000
set_option maxRecDepth 100000
attribute [local go_sem] zbc zbg zb8 zb9 za1 za2 zbi zbj
set_option linter.unusedVariables false
set_option linter.unusedSimpArgs false
def zhh (k : Nat) (l0 : List (S62)) (l1_0 : List ByteArray) (l1_1 : List Int) (a2 : Int) : Option (Bool) := (zhe k l0).bind fun t102 => (if t102 = true then ((zhg k l1_0 l1_1).bind fun t103 => (if t103 = true then ((zet a2 0 3).bind fun t104 => (some t104)) else (some false))) else (some false))
theorem zs0 : ∀ a0 a1 a2 a3 k, LeO (zhh k a0 a1 a2 a3) (zhh (k + 1) a0 a1 a2 a3) := by
 intro a0 a1 a2 a3 k
 unfold zhh
 exact zm2 zsy zsz
theorem zix (k : Nat) (A0 : Option Addr) (c0 : Nat) (l0 : List (S62)) (A1_0 : Option Addr) (c1_0 : Nat) (l1_0 : List ByteArray) (A1_1 : Option Addr) (c1_1 : Nat) (l1_1 : List Int) (a2 : Int) (r : Bool) (w : World) (hr0 : Kd.C k62 w A0 l0.length l0) (hc0 : l0.length ≤ c0) (hr1_0 : Kd.C Kd.string w A1_0 l1_0.length l1_0) (hc1_0 : l1_0.length ≤ c1_0) (hr1_1 : Kd.C (Kd.int .i64) w A1_1 l1_1.length l1_1) (hc1_1 : l1_1.length ≤ c1_1) (h : zhh k l0 l1_0 l1_1 a2 = some r) :
   Calls Tryz.prog 39 #[.slice A0 l0.length c0, .agg #[.slice A1_0 l1_0.length c1_0, .slice A1_1 l1_1.length c1_1], .int .i64 a2] w fun e w' => e = .returned (.bool r) ∧ Below w.heap.size w w' := by
 have hu34 := Tryz.underlying34
 have HR0 := zA hr0
 have HC0 := zA hc0
 clear hr0 hc0
 have HR1_0 := zA hr1_0
 have HC1_0 := zA hc1_0
 clear hr1_0 hc1_0
 have HR1_1 := zA hr1_1
 have HC1_1 := zA hc1_1
 clear hr1_1 hc1_1
 have HB := zA (Below.refl w.heap.size w)
 have H := h
 unfold zhh at H
 clear h
 replace H := zob H
 obtain ⟨t102, A40, H⟩ := H
 have A4 := zA A40
 clear A40
 by_cases c5 : t102 = true
 rotate_left
 · replace c5 := zbf c5
   subst c5
   replace H := zif H
   obtain rfl := zsi H
   go_enter Tryz.func39, Tryz.ntmps39
   go_wp2_with (first | ((with_reducible refine zgd 4 ?_); refine zbx #[.slice A1_0 l1_0.length c1_0, .slice A1_1 l1_1.length c1_1] 34 ?_; intro gb101 hg w17 hbox hb; have zs := zpair zq2 hb; replace HB := zA (zs.1); have BK101 := zA (hbox); have GW101 := zA (zge hg zs.2); have GE101 := GW101; clear zs hb hbox hg) | ((with_reducible refine zgc 77 ?_); refine zca 8 Tryz.func77 #[.slice A0 l0.length c0] (zkt k _ _ l0 false _ (zq7 HR0) HC0.out A4.out) ?_; rintro e w18 ⟨rfl, hb⟩; refine ⟨_, rfl, ?_⟩; replace BK101 := zbb BK101 hb; replace HB := zA (zaa (zq1 GE101) hb); (try clear hb)))
   go_ret
   exact ⟨zq4, zq1 GE101⟩
 subst c5
 replace H := zih H
 replace H := zob H
 obtain ⟨t103, A60, H⟩ := H
 have A6 := zA A60
 clear A60
 by_cases c7 : t103 = true
 rotate_left
 · replace c7 := zbf c7
   subst c7
   replace H := zif H
   obtain rfl := zsi H
   go_enter Tryz.func39, Tryz.ntmps39
   go_wp2_with (first | ((with_reducible refine zgd 4 ?_); refine zbx #[.slice A1_0 l1_0.length c1_0, .slice A1_1 l1_1.length c1_1] 34 ?_; intro gb101 hg w13 hbox hb; have zs := zpair zq2 hb; replace HB := zA (zs.1); have BK101 := zA (hbox); have GW101 := zA (zge hg zs.2); have GE101 := GW101; clear zs hb hbox hg) | ((with_reducible refine zgc 77 ?_); refine zca 8 Tryz.func77 #[.slice A0 l0.length c0] (zkt k _ _ l0 true _ (zq7 HR0) HC0.out A4.out) ?_; rintro e w14 ⟨rfl, hb⟩; refine ⟨_, rfl, ?_⟩; replace BK101 := zbb BK101 hb; replace HB := zA (zaa (zq1 GE101) hb); (try clear hb); obtain ⟨hcz15_0, hcz15_1⟩ := zc2 w14 (.slice A1_0 l1_0.length c1_0) (.slice A1_1 l1_1.length c1_1) BK101.out; obtain ⟨hfz15_0, hfz15_1⟩ := zf2 BK101.out) | (go_at_call 78; (with_reducible refine (zn1 k _ _ l1_0 _ _ l1_1 false _ ?side1 ?side2 ?side3 ?side4 A6.out).mono ?_); (case side1 => repeat (first | exact (zCb HR1_0.out HB.out) | (with_reducible first | refine zCa ?_ _ | refine zCn ?_ _ | refine zCd ?_))); (case side2 => exact HC1_0.out); (case side3 => repeat (first | exact (zCb HR1_1.out HB.out) | (with_reducible first | refine zCa ?_ _ | refine zCn ?_ _ | refine zCd ?_))); (case side4 => exact HC1_1.out); rintro e w16 ⟨rfl, hb⟩; replace BK101 := zbb BK101 hb; replace HB := zA (zaa (zq1 GE101) hb); (try clear hb)))
   go_ret
   exact ⟨zq4, zq1 GE101⟩
 subst c7
 replace H := zih H
 replace H := zob H
 obtain ⟨t104, A80, H⟩ := H
 have A8 := zA A80
 clear A80
 obtain rfl := zsi H
 go_enter Tryz.func39, Tryz.ntmps39
 go_wp2_with (first | ((with_reducible refine zgd 4 ?_); refine zbx #[.slice A1_0 l1_0.length c1_0, .slice A1_1 l1_1.length c1_1] 34 ?_; intro gb101 hg w9 hbox hb; have zs := zpair zq2 hb; replace HB := zA (zs.1); have BK101 := zA (hbox); have GW101 := zA (zge hg zs.2); have GE101 := GW101; clear zs hb hbox hg) | ((with_reducible refine zgc 77 ?_); refine zca 8 Tryz.func77 #[.slice A0 l0.length c0] (zkt k _ _ l0 true _ (zq7 HR0) HC0.out A4.out) ?_; rintro e w10 ⟨rfl, hb⟩; refine ⟨_, rfl, ?_⟩; replace BK101 := zbb BK101 hb; replace HB := zA (zaa (zq1 GE101) hb); (try clear hb); obtain ⟨hcz11_0, hcz11_1⟩ := zc2 w10 (.slice A1_0 l1_0.length c1_0) (.slice A1_1 l1_1.length c1_1) BK101.out; obtain ⟨hfz11_0, hfz11_1⟩ := zf2 BK101.out) | (go_at_call 78; (with_reducible refine (zn1 k _ _ l1_0 _ _ l1_1 true _ ?side1 ?side2 ?side3 ?side4 A6.out).mono ?_); (case side1 => repeat (first | exact (zCb HR1_0.out HB.out) | (with_reducible first | refine zCa ?_ _ | refine zCn ?_ _ | refine zCd ?_))); (case side2 => exact HC1_0.out); (case side3 => repeat (first | exact (zCb HR1_1.out HB.out) | (with_reducible first | refine zCa ?_ _ | refine zCn ?_ _ | refine zCd ?_))); (case side4 => exact HC1_1.out); rintro e w12 ⟨rfl, hb⟩; replace BK101 := zbb BK101 hb; replace HB := zA (zaa (zq1 GE101) hb); (try clear hb)) | (go_at_call 79; (with_reducible refine (zbm a2 0 3 t104 _ A8.out).mono ?_); rintro e w' ⟨rfl, ⟨nd, rfl⟩⟩))
 go_ret
 exact ⟨zq4, zq1 GE101⟩
def zeg (k : Nat) (l0 : List (S62)) (l1_0 : List ByteArray) (l1_1 : List Int) (a2 : Int) : Option ((List (List (S69))) × Bool) := (zhh k l0 l1_0 l1_1 a2).bind fun t102 => (if t102 = true then ((zgi k l0 l1_0 l1_1 a2).bind fun bt103 => (if bt103.2 = true then ((zha k l0 l1_0 l1_1 (bt103.1.length : Int) 51).bind fun t107 => (if (t107.length : Int) > 50 then (some (([] : List (List (S69))), false)) else (some (t107, true)))) else (some (([] : List (List (S69))), false)))) else (some (([] : List (List (S69))), false)))
theorem zv3 : ∀ a0 a1 a2 a3 k, LeO (zeg k a0 a1 a2 a3) (zeg (k + 1) a0 a1 a2 a3) := by
 intro a0 a1 a2 a3 k
 unfold zeg
 exact zm3 zmh zr5 zs0
theorem zor (k : Nat) (A0 : Option Addr) (c0 : Nat) (l0 : List (S62)) (A1_0 : Option Addr) (c1_0 : Nat) (l1_0 : List ByteArray) (A1_1 : Option Addr) (c1_1 : Nat) (l1_1 : List Int) (a2 : Int) (r1 : List (List (S69))) (r2 : Bool) (w : World) (hr0 : Kd.C k62 w A0 l0.length l0) (hc0 : l0.length ≤ c0) (hr1_0 : Kd.C Kd.string w A1_0 l1_0.length l1_0) (hc1_0 : l1_0.length ≤ c1_0) (hr1_1 : Kd.C (Kd.int .i64) w A1_1 l1_1.length l1_1) (hc1_1 : l1_1.length ≤ c1_1) (h : zeg k l0 l1_0 l1_1 a2 = some (r1, r2)) :
   Calls Tryz.prog 25 #[.slice A0 l0.length c0, .agg #[.slice A1_0 l1_0.length c1_0, .slice A1_1 l1_1.length c1_1], .int .i64 a2] w fun e w' => ∃ v0_ : Value, e = .returned (.tuple #[v0_, .bool r2]) ∧ Kd.S (Kd.slice 69 k69) 29 w' w.heap.size (fun _ => True) v0_ r1 ∧ Below w.heap.size w w' := by
 have hu34 := Tryz.underlying34
 have HR0 := zA hr0
 have HC0 := zA hc0
 clear hr0 hc0
 have HR1_0 := zA hr1_0
 have HC1_0 := zA hc1_0
 clear hr1_0 hc1_0
 have HR1_1 := zA hr1_1
 have HC1_1 := zA hc1_1
 clear hr1_1 hc1_1
 have HB := zA (Below.refl w.heap.size w)
 have H := h
 unfold zeg at H
 clear h
 replace H := zob H
 obtain ⟨t102, A40, H⟩ := H
 have A4 := zA A40
 clear A40
 by_cases c5 : t102 = true
 rotate_left
 · replace c5 := zbf c5
   subst c5
   replace H := zif H
   simp only [Option.some.injEq, Prod.mk.injEq] at H
   obtain ⟨rfl, rfl⟩ := H
   go_enter Tryz.func25, Tryz.ntmps25
   go_wp2_with (first | ((with_reducible refine zgd 4 ?_); refine zbh zq2 #[.slice A1_0 l1_0.length c1_0, .slice A1_1 l1_1.length c1_1] 34 ?_; clear HB; intro gb101 w33 HB BK101 GW101; have GE101 := GW101; obtain ⟨hcz34_0, hcz34_1, hfz34_0, hfz34_1⟩ := zd2 BK101) | ((with_reducible refine zgc 39 ?_); refine zca 14 Tryz.func39 #[.slice A0 l0.length c0, .agg #[.slice A1_0 l1_0.length c1_0, .slice A1_1 l1_1.length c1_1], .int .i64 a2] (zix k _ _ l0 _ _ l1_0 _ _ l1_1 a2 false _ (zq7 HR0) HC0.out (zq7 HR1_0) HC1_0.out (zq7 HR1_1) HC1_1.out A4.out) ?_; rintro e w35 ⟨rfl, hb⟩; refine ⟨_, rfl, ?_⟩; replace BK101 := zbb BK101 hb; replace HB := zA (zaa (zq1 GE101) hb); (try clear hb)))
   go_ret2
   exact ⟨_, zq4, zq44, zq1 GE101⟩
 subst c5
 replace H := zih H
 replace H := zob H
 obtain ⟨⟨t103, t106⟩, A60, H⟩ := H
 have A6 := zA A60
 clear A60
 by_cases c7 : t106 = true
 rotate_left
 · replace c7 := zbf c7
   subst c7
   replace H := zif H
   simp only [Option.some.injEq, Prod.mk.injEq] at H
   obtain ⟨rfl, rfl⟩ := H
   go_enter Tryz.func25, Tryz.ntmps25
   go_wp2_with (first | ((with_reducible refine zgd 4 ?_); refine zbh zq2 #[.slice A1_0 l1_0.length c1_0, .slice A1_1 l1_1.length c1_1] 34 ?_; clear HB; intro gb101 w28 HB BK101 GW101; have GE101 := GW101; obtain ⟨hcz29_0, hcz29_1, hfz29_0, hfz29_1⟩ := zd2 BK101) | ((with_reducible refine zgc 39 ?_); refine zca 14 Tryz.func39 #[.slice A0 l0.length c0, .agg #[.slice A1_0 l1_0.length c1_0, .slice A1_1 l1_1.length c1_1], .int .i64 a2] (zix k _ _ l0 _ _ l1_0 _ _ l1_1 a2 true _ (zq7 HR0) HC0.out (zq7 HR1_0) HC1_0.out (zq7 HR1_1) HC1_1.out A4.out) ?_; rintro e w30 ⟨rfl, hb⟩; refine ⟨_, rfl, ?_⟩; replace BK101 := zbb BK101 hb; replace HB := zA (zaa (zq1 GE101) hb); (try clear hb); obtain ⟨hcz31_0, hcz31_1⟩ := zc2 w30 (.slice A1_0 l1_0.length c1_0) (.slice A1_1 l1_1.length c1_1) BK101.out; obtain ⟨hfz31_0, hfz31_1⟩ := zf2 BK101.out) | ((with_reducible refine zgc 40 ?_); refine zca 20 Tryz.func40 #[.slice A0 l0.length c0, .agg #[.slice A1_0 l1_0.length c1_0, .slice A1_1 l1_1.length c1_1], .int .i64 a2] (zj1 k _ _ l0 _ _ l1_0 _ _ l1_1 a2 t103 false _ (zq7 HR0) HC0.out (zq7 HR1_0) HC1_0.out (zq7 HR1_1) HC1_1.out A6.out) ?_; rintro e w32 ⟨v104, rfl, ho0, hb⟩; refine ⟨_, rfl, ?_⟩; have HO105 := zA (Kd.R_lower ho0 (zaf (zq1 GE101))); replace BK101 := zbb BK101 hb; replace HB := zA (zaa (zq1 GE101) hb); (try clear hb); (try clear ho0)))
   go_ret2
   exact ⟨_, zq4, zq44, zq1 GE101⟩
 subst c7
 replace H := zih H
 replace H := zob H
 obtain ⟨t107, A80, H⟩ := H
 have A8 := zA A80
 clear A80
 by_cases c9 : (t107.length : Int) > 50
 · rw [if_pos c9] at H
   have c9b0 := zdt c9
   have c9b1 : decide (50 < t107.length) = true := zdt (by omega)
   clear c9
   simp only [Option.some.injEq, Prod.mk.injEq] at H
   obtain ⟨rfl, rfl⟩ := H
   go_enter Tryz.func25, Tryz.ntmps25
   go_wp2_with (first | ((with_reducible refine zgd 4 ?_); refine zbh zq2 #[.slice A1_0 l1_0.length c1_0, .slice A1_1 l1_1.length c1_1] 34 ?_; clear HB; intro gb101 w10 HB BK101 GW101; have GE101 := GW101; obtain ⟨hcz11_0, hcz11_1, hfz11_0, hfz11_1⟩ := zd2 BK101) | ((with_reducible refine zgc 39 ?_); refine zca 14 Tryz.func39 #[.slice A0 l0.length c0, .agg #[.slice A1_0 l1_0.length c1_0, .slice A1_1 l1_1.length c1_1], .int .i64 a2] (zix k _ _ l0 _ _ l1_0 _ _ l1_1 a2 true _ (zq7 HR0) HC0.out (zq7 HR1_0) HC1_0.out (zq7 HR1_1) HC1_1.out A4.out) ?_; rintro e w12 ⟨rfl, hb⟩; refine ⟨_, rfl, ?_⟩; replace BK101 := zbb BK101 hb; replace HB := zA (zaa (zq1 GE101) hb); (try clear hb); obtain ⟨hcz13_0, hcz13_1⟩ := zc2 w12 (.slice A1_0 l1_0.length c1_0) (.slice A1_1 l1_1.length c1_1) BK101.out; obtain ⟨hfz13_0, hfz13_1⟩ := zf2 BK101.out) | ((with_reducible refine zgc 40 ?_); refine zca 20 Tryz.func40 #[.slice A0 l0.length c0, .agg #[.slice A1_0 l1_0.length c1_0, .slice A1_1 l1_1.length c1_1], .int .i64 a2] (zj1 k _ _ l0 _ _ l1_0 _ _ l1_1 a2 t103 true _ (zq7 HR0) HC0.out (zq7 HR1_0) HC1_0.out (zq7 HR1_1) HC1_1.out A6.out) ?_; rintro e w14 ⟨v104, rfl, ho0, hb⟩; refine ⟨_, rfl, ?_⟩; have HO105 := zA (Kd.R_lower ho0 (zaf (zq1 GE101))); replace BK101 := zbb BK101 hb; replace HB := zA (zaa (zq1 GE101) hb); (try clear hb); (try clear ho0); obtain ⟨hcz15_0, hcz15_1⟩ := zc2 w14 (.slice A1_0 l1_0.length c1_0) (.slice A1_1 l1_1.length c1_1) BK101.out; obtain ⟨hfz15_0, hfz15_1⟩ := zf2 BK101.out; obtain ⟨Ao16, co16, eo16⟩ := Kd.R_slice HO105.out; subst eo16) | ((with_reducible refine zgc 65 ?_); refine zca 29 Tryz.func65 #[.slice A0 l0.length c0, .agg #[.slice A1_0 l1_0.length c1_0, .slice A1_1 l1_1.length c1_1], .int .i64 (t103.length : Int), .int .i64 51] (zjc k _ _ l0 _ _ l1_0 _ _ l1_1 (t103.length : Int) 51 t107 _ (zq7 HR0) HC0.out (zq7 HR1_0) HC1_0.out (zq7 HR1_1) HC1_1.out A8.out) ?_; rintro e w17 ⟨v108, rfl, ho0, hb⟩; refine ⟨_, rfl, ?_⟩; have HO109 := zA (Kd.S_lower (Kd.S_new' ho0 (Kd.R_lt (zq3 HO105))) (zaf (zq1 GE101))); replace HO105 := zA (zRb (zq3 HO105) hb); replace BK101 := zbb BK101 hb; replace HB := zA (zaa (zq1 GE101) hb); (try clear hb); (try clear ho0); obtain ⟨Ao18, co18, eo18⟩ := Kd.S_slice HO109.out; subst eo18))
   go_ret2
   exact ⟨_, zq4, zq44, zq1 GE101⟩
 rw [if_neg c9] at H
 have c9b0 := zdf c9
 have c9b1 : decide (50 < t107.length) = false := zdf (by omega)
 clear c9
 simp only [Option.some.injEq, Prod.mk.injEq] at H
 obtain ⟨rfl, rfl⟩ := H
 go_enter Tryz.func25, Tryz.ntmps25
 go_wp2_with (first | ((with_reducible refine zgd 4 ?_); refine zbh zq2 #[.slice A1_0 l1_0.length c1_0, .slice A1_1 l1_1.length c1_1] 34 ?_; clear HB; intro gb101 w19 HB BK101 GW101; have GE101 := GW101; obtain ⟨hcz20_0, hcz20_1, hfz20_0, hfz20_1⟩ := zd2 BK101) | ((with_reducible refine zgc 39 ?_); refine zca 14 Tryz.func39 #[.slice A0 l0.length c0, .agg #[.slice A1_0 l1_0.length c1_0, .slice A1_1 l1_1.length c1_1], .int .i64 a2] (zix k _ _ l0 _ _ l1_0 _ _ l1_1 a2 true _ (zq7 HR0) HC0.out (zq7 HR1_0) HC1_0.out (zq7 HR1_1) HC1_1.out A4.out) ?_; rintro e w21 ⟨rfl, hb⟩; refine ⟨_, rfl, ?_⟩; replace BK101 := zbb BK101 hb; replace HB := zA (zaa (zq1 GE101) hb); (try clear hb); obtain ⟨hcz22_0, hcz22_1⟩ := zc2 w21 (.slice A1_0 l1_0.length c1_0) (.slice A1_1 l1_1.length c1_1) BK101.out; obtain ⟨hfz22_0, hfz22_1⟩ := zf2 BK101.out) | ((with_reducible refine zgc 40 ?_); refine zca 20 Tryz.func40 #[.slice A0 l0.length c0, .agg #[.slice A1_0 l1_0.length c1_0, .slice A1_1 l1_1.length c1_1], .int .i64 a2] (zj1 k _ _ l0 _ _ l1_0 _ _ l1_1 a2 t103 true _ (zq7 HR0) HC0.out (zq7 HR1_0) HC1_0.out (zq7 HR1_1) HC1_1.out A6.out) ?_; rintro e w23 ⟨v104, rfl, ho0, hb⟩; refine ⟨_, rfl, ?_⟩; have HO105 := zA (Kd.R_lower ho0 (zaf (zq1 GE101))); replace BK101 := zbb BK101 hb; replace HB := zA (zaa (zq1 GE101) hb); (try clear hb); (try clear ho0); obtain ⟨hcz24_0, hcz24_1⟩ := zc2 w23 (.slice A1_0 l1_0.length c1_0) (.slice A1_1 l1_1.length c1_1) BK101.out; obtain ⟨hfz24_0, hfz24_1⟩ := zf2 BK101.out; obtain ⟨Ao25, co25, eo25⟩ := Kd.R_slice HO105.out; subst eo25) | ((with_reducible refine zgc 65 ?_); refine zca 29 Tryz.func65 #[.slice A0 l0.length c0, .agg #[.slice A1_0 l1_0.length c1_0, .slice A1_1 l1_1.length c1_1], .int .i64 (t103.length : Int), .int .i64 51] (zjc k _ _ l0 _ _ l1_0 _ _ l1_1 (t103.length : Int) 51 t107 _ (zq7 HR0) HC0.out (zq7 HR1_0) HC1_0.out (zq7 HR1_1) HC1_1.out A8.out) ?_; rintro e w26 ⟨v108, rfl, ho0, hb⟩; refine ⟨_, rfl, ?_⟩; have HO109 := zA (Kd.S_lower (Kd.S_new' ho0 (Kd.R_lt (zq3 HO105))) (zaf (zq1 GE101))); replace HO105 := zA (zRb (zq3 HO105) hb); replace BK101 := zbb BK101 hb; replace HB := zA (zaa (zq1 GE101) hb); (try clear hb); (try clear ho0); obtain ⟨Ao27, co27, eo27⟩ := Kd.S_slice HO109.out; subst eo27))
 go_ret2
 exact ⟨_, zq4, by (with_reducible repeat (first | apply zSa | apply zSn | apply zSd)); exact Kd.S_mono HO109.out (fun _ hk => trivial), zq1 GE101⟩
end Go.Proofs.YtnaafcleafbejaaGreat.Q
end
section
namespace Go.Proofs.YtnaafcleafbejaaGreat.Q
open Go.RowKit Go.Proofs.YtnaafcleafbejaaGreatW.PrintWords Go.Proofs.YtnaafcleafbejaaGreatW.PrintLast Go.Proofs.YtnaafcleafbejaaGreatW.PrintMore
set_option maxHeartbeats 8000000
set_option maxRecDepth 100000
attribute [local go_sem] zbc zbg zb8 zb9 za1 za2 zbi zbj
set_option linter.unusedVariables false
set_option linter.unusedSimpArgs false
set_option linter.unusedVariables false
def zdn (k : Nat) (l0 : List (S58)) (l1_0 : List ByteArray) (l1_1 : List Int) (a2 : Int) : Option Bool :=
 (zfj k l0 1048576).bind fun t => if t < 0 then some true else (zfu k l1_0 l1_1 t).bind fun t2 => if t2 < 0 then some true else
 (zgf k l0).bind fun ns => (zfv k l1_0 l1_1).bind fun ch => (zeg k ns ch.1 ch.2 a2).bind fun s => (zfy k ns ch.1 ch.2 a2).bind fun g =>
 (zfc k g.1 s.1).bind fun e1 => (zgb k ns ns).bind fun e2 => (zfr k ch.1 ch.2 ch.1 ch.2).bind fun e3 => (zfd k ns 1).bind fun m => (zex k ch.1 ch.2 m.1).bind fun m1 =>
 (zef k g.1 1).bind fun m2 => (zee k m2.2 1).bind fun q =>
 if e1 = true ∧ g.2 = s.2 ∧ e2 = true ∧ e3 = true ∧ 0 ≤ m1.1 ∧ q = m2.1 ∧ 0 ≤ q then some true else none
theorem zlf (k : Nat) (A0 : Option Addr) (c0 : Nat) (l0 : List (S58)) (A1_0 : Option Addr) (c1_0 : Nat) (l1_0 : List ByteArray) (A1_1 : Option Addr) (c1_1 : Nat) (l1_1 : List Int) (a2 : Int) (r : Bool) (w : World) (hr0 : Kd.C k58 w A0 l0.length l0) (hc0 : l0.length ≤ c0) (hr1_0 : Kd.C Kd.string w A1_0 l1_0.length l1_0) (hc1_0 : l1_0.length ≤ c1_0) (hr1_1 : Kd.C (Kd.int .i64) w A1_1 l1_1.length l1_1) (hc1_1 : l1_1.length ≤ c1_1) (h : zdn k l0 l1_0 l1_1 a2 = some r) :
   Calls Tryz.prog 6 #[.slice A0 l0.length c0, .agg #[.slice A1_0 l1_0.length c1_0, .slice A1_1 l1_1.length c1_1], .int .i64 a2] w fun e w' => e = .returned (.bool r) ∧ Below w.heap.size w w' := by
 unfold zdn at h
 obtain ⟨t, ht, h⟩ := Option.bind_eq_some_iff.1 h
 have Ht := zA ht
 clear ht
 obtain ⟨W0, hW0⟩ : ∃ W0, w.alloc (.cells #[.slice A1_0 l1_0.length c1_0, .slice A1_1 l1_1.length c1_1] 26) = W0 := ⟨_, rfl⟩
 have HB0 := zA (show Below w.heap.size w W0 from hW0 ▸ zba (Below.refl _ _) _)
 have B1 := zA (show W0.heap[w.heap.size]? = some (.cells #[.slice A1_0 l1_0.length c1_0, .slice A1_1 l1_1.length c1_1] 26 (0, 0)) from hW0 ▸ zi4 w _)
 have HR0 := zA (zCb hr0 HB0.out)
 have HC0 := zA hc0
 have HR1 := zA (zCb hr1_0 HB0.out)
 have HC1 := zA hc1_0
 have HR2 := zA (zCb hr1_1 HB0.out)
 have HC2 := zA hc1_1
 clear hr0 hc0 hr1_0 hc1_0 hr1_1 hc1_1
 go_enter Tryz.func6, Tryz.ntmps6
 go_upto_region 1 with fail
 try rw [hW0]
 clear hW0
 go_wp2_with fail
 (with_reducible refine (zqr k _ _ l0 1048576 t _ HR0.out HC0.out Ht.out).mono ?_)
 rintro e w1 ⟨rfl, hb⟩
 have HB := zA hb
 clear hb
 have q1 := zae (zai B1.out HB.out) 0
 have q2 := zae (zai B1.out HB.out) 1
 by_cases hneg : t < 0
 · rw [if_pos hneg] at h
   obtain rfl := zsi h
   clear h
   have hd : decide (t < 0) = true := zdt hneg
   go_wp2_with fail
   go_ret
   exact ⟨rfl, HB0.out.trans (HB.out.mono HB0.out.size)⟩
 rw [if_neg hneg] at h
 have hd : decide (t < 0) = false := zdf hneg
 obtain ⟨t2, ht2, h⟩ := Option.bind_eq_some_iff.1 h
 have Ht2 := zA ht2
 clear ht2
 go_wp2_with fail
 (with_reducible refine (zp4 k _ _ l1_0 _ _ l1_1 t t2 _ (zCb HR1.out HB.out) HC1.out (zCb HR2.out HB.out) HC2.out Ht2.out).mono ?_)
 rintro e WR ⟨rfl, hb⟩
 have n := zA (zaa HB.out hb)
 clear HB hb q1 q2 hd hneg
 have HB := n
 clear n
 by_cases hneg : t2 < 0
 · rw [if_pos hneg] at h
   obtain rfl := zsi h
   clear h
   have hd : decide (t2 < 0) = true := zdt hneg
   go_wp2_with fail
   go_ret
   exact ⟨rfl, HB0.out.trans (HB.out.mono HB0.out.size)⟩
 rw [if_neg hneg] at h
 have hd : decide (t2 < 0) = false := zdf hneg
 obtain ⟨ns, hns, h⟩ := Option.bind_eq_some_iff.1 h
 obtain ⟨⟨os, js⟩, hch, h⟩ := Option.bind_eq_some_iff.1 h
 obtain ⟨⟨s1, s2⟩, hs, h⟩ := Option.bind_eq_some_iff.1 h
 obtain ⟨⟨g1, g2⟩, hg, h⟩ := Option.bind_eq_some_iff.1 h
 obtain ⟨e1, he1, h⟩ := Option.bind_eq_some_iff.1 h
 obtain ⟨e2, he2, h⟩ := Option.bind_eq_some_iff.1 h
 obtain ⟨e3, he3, h⟩ := Option.bind_eq_some_iff.1 h
 obtain ⟨⟨m0, mn⟩, hm, h⟩ := Option.bind_eq_some_iff.1 h
 obtain ⟨⟨m1, mo, mj⟩, hm1, h⟩ := Option.bind_eq_some_iff.1 h
 obtain ⟨⟨m2, qc⟩, hm2, h⟩ := Option.bind_eq_some_iff.1 h
 obtain ⟨q, hq, h⟩ := Option.bind_eq_some_iff.1 h
 by_cases hall : e1 = true ∧ g2 = s2 ∧ e2 = true ∧ e3 = true ∧ 0 ≤ m1 ∧ q = m2 ∧ 0 ≤ q
 case neg =>
   rw [if_neg hall] at h
   cases h
 rw [if_pos hall] at h
 obtain rfl := zsi h
 obtain ⟨rfl, rfl, rfl, rfl, hm0, rfl, hq0⟩ := hall
 clear h
 have dm : decide (m1 < 0) = false := zdf (by omega)
 have dq : decide (q < 0) = false := zdf (by omega)
 have H1 := zA hns
 have H2 := zA hch
 have H3 := zA hs
 have H4 := zA hg
 have H5 := zA he1
 have H6 := zA he2
 have H7 := zA he3
 have H8 := zA hm
 have H9 := zA hm1
 have H10 := zA hm2
 have H11 := zA hq
 clear hns hch hs hg he1 he2 he3 hm hm1 hm2 hq hneg hm0 hq0
 go_wp2_with fail
 refine zot [[], [0], [], [0, 1, 2], [], [0, 1, 2, 3, 4], [0, 1, 2, 3, 4, 5], [0, 1, 2, 3, 4, 5, 6], [0, 1, 2, 3, 4, 5, 6], [0, 1, 2, 3, 4, 5, 6, 7], [0, 1, 2, 3, 4, 5, 6, 7, 8, 9]] [[1, 3, 5, 6, 7, 8, 9, 10], [3, 5, 6, 7, 8, 9, 10], [3, 5, 6, 7, 8, 9, 10], [5, 6, 7, 8, 9, 10], [5, 6, 7, 8, 9, 10], [6, 7, 8, 9, 10], [7, 8, 9, 10], [9, 10], [10], [10], []] (zgr [1, 3, 5, 6, 7, 9])
   (zjd [.slice A0 l0.length c0, undef, .agg #[.slice A1_0 l1_0.length c1_0, .slice A1_1 l1_1.length c1_1], undef, .int .i64 a2, undef, undef, undef, .bool g2, undef, .bool g2])
   (fun L s V => (L 5 = false → Below WR.heap.size WR V) ∧ (L 1 = true → L 5 = false → ∃ A c, s 1 = .slice A ns.length c ∧ ns.length ≤ c ∧ Kd.C k62 V A ns.length ns) ∧ (L 3 = true → L 5 = false → ∃ A c A' c', s 3 = .agg #[.slice A os.length c, .slice A' js.length c'] ∧ os.length ≤ c ∧ Kd.C Kd.string V A os.length os ∧ js.length ≤ c' ∧ Kd.C (Kd.int .i64) V A' js.length js) ∧ (L 5 = true → ∃ A c, s 5 = .tuple #[.slice A s1.length c, .bool g2] ∧ Kd.S (Kd.slice 69 k69) 29 V WR.heap.size (fun _ => True) (.slice A s1.length c) s1 ∧ Below WR.heap.size WR V ∧ (L 6 = true → s 6 = s 5) ∧ (L 7 = true → s 7 = .slice A s1.length c) ∧ (L 9 = true → s 9 = .slice A s1.length c)))
   rfl (fun _ _ _ _ _ h => h) zq23 ⟨fun _ => ze8 (Below.refl _ _), fun h => Bool.noConfusion h, fun h => Bool.noConfusion h, fun h => Bool.noConfusion h⟩ ⟨?_, ?_, ?_, ?_, ?_, ?_, ?_, ?_, ?_, ?_, ?_, trivial⟩ ?_
 · exact fun L s V hu hd hn hJ => rm_v ⟨fun _ => rfl, hJ⟩
 · rintro L s V hu hd hn ⟨hB, j1, j3, j5⟩
   have hb0 := hB (zaj _ hn 5 (by decide))
   refine zil Tryz.func11 zq23 rfl #[.slice A0 l0.length c0] (by rfl) rfl zq52 ((zig k A0 c0 l0 ns V (zCb HR0.out (zaa HB.out hb0)) HC0.out H1.out).mono ?_)
   rintro e U ⟨v0, rfl, hR, hb⟩
   obtain ⟨A, c, rfl⟩ := Kd.R_slice hR
   exact ⟨_, rfl, fun h => absurd h (by decide), fun _ => zaa hb0 hb, fun _ _ => ⟨A, c, rfl, (zRr hR).2⟩, fun h => absurd (h.symm.trans (zaj _ hn 3 (by decide))) (by simp), fun h => absurd (h.symm.trans (zaj _ hn 5 (by decide))) (by simp)⟩
 · intro L s V hu hd hn hJ
   have hbk := zaa HB.out (hJ.1 (zaj _ hn 5 (by decide)))
   have z0 := zae (zai B1.out hbk) 0
   have z1 := zae (zai B1.out hbk) 1
   exact rm_v ⟨fun _ => rfl, hJ⟩
 · rintro L s V hu hd hn ⟨hB, j1, j3, j5⟩
   have hb0 := hB (zaj _ hn 5 (by decide))
   obtain ⟨A, c, e1, hle, hC⟩ := j1 (zaj _ hd 1 (by decide)) (zaj _ hn 5 (by decide))
   refine zil Tryz.func12 zq23 rfl #[.agg #[.slice A1_0 l1_0.length c1_0, .slice A1_1 l1_1.length c1_1]] (by rfl) rfl zq52 ((zh2 k A1_0 c1_0 l1_0 A1_1 c1_1 l1_1 os js V (zCb HR1.out (zaa HB.out hb0)) HC1.out (zCb HR2.out (zaa HB.out hb0)) HC2.out H2.out).mono ?_)
   rintro e U ⟨v0, v1, rfl, hR, hR2, hb⟩
   obtain ⟨A3, c3, rfl⟩ := Kd.R_slice hR
   obtain ⟨A4, c4, rfl⟩ := Kd.R_slice hR2
   exact ⟨_, rfl, fun h => absurd h (by decide), fun _ => zaa hb0 hb, fun _ _ => ⟨A, c, e1, hle, zCb hC hb⟩, fun _ _ => ⟨A3, c3, A4, c4, rfl, (zRr hR).2.1, (zRr hR).2.2, (zRr hR2).2.1, (zRr hR2).2.2⟩, fun h => absurd (h.symm.trans (zaj _ hn 5 (by decide))) (by simp)⟩
 · exact fun L s V hu hd hn hJ => rm_v ⟨fun _ => rfl, hJ⟩
 · rintro L s V hu hd hn ⟨hB, j1, j3, j5⟩
   have hb0 := hB hu
   obtain ⟨A, c, e1, hle, hC⟩ := j1 (zaj _ hd 1 (by decide)) hu
   obtain ⟨A3, c3, A4, c4, e3, hl3, hC3, hl4, hC4⟩ := j3 (zaj _ hd 3 (by decide)) hu
   refine zil Tryz.func25 zq23 rfl #[.slice A ns.length c, .agg #[.slice A3 os.length c3, .slice A4 js.length c4], .int .i64 a2] (by rfl) rfl (by simp only [List.map_toArray, List.map_cons, List.map_nil]; rw [show Act.eval _ (.tmp 31) = s 1 from rfl, show Act.eval _ (.tmp 33) = s 3 from rfl, e1, e3]; rfl) ((zor k A c ns A3 c3 os A4 c4 js a2 s1 g2 V hC hle hC3 hl3 hC4 hl4 H3.out).mono ?_)
   rintro e U ⟨v0, rfl, hR, hb⟩
   obtain ⟨A5, c5, rfl⟩ := Kd.S_slice hR
   exact ⟨_, rfl, fun h => absurd h (by decide), fun h => Bool.noConfusion h, fun _ h => Bool.noConfusion h, fun _ h => Bool.noConfusion h, fun _ => ⟨A5, c5, rfl, Kd.S_lower hR hb0.size, zaa hb0 hb, fun h => absurd (h.symm.trans (zaj _ hn 6 (by decide))) (by simp), fun h => absurd (h.symm.trans (zaj _ hn 7 (by decide))) (by simp), fun h => absurd (h.symm.trans (zaj _ hn 9 (by decide))) (by simp)⟩⟩
 · rintro L s V hu hd hn ⟨hB, j1, j3, j5⟩
   have h5 := zaj _ hd 5 (by decide)
   obtain ⟨A, c, e5, hS, hb, h6, h7, h9⟩ := j5 h5
   refine zj7 (v := s 5) (by rfl) ⟨fun h => absurd h (by decide), fun h => absurd (h.symm.trans h5) (by simp), fun _ h => absurd (h.symm.trans h5) (by simp), fun _ h => absurd (h.symm.trans h5) (by simp), fun _ => ⟨A, c, e5, hS, hb, fun _ => rfl, h7, h9⟩⟩ ?_
   refine zsm ?_
   exact zg0
 · rintro L s V hu hd hn ⟨hB, j1, j3, j5⟩
   have h5 := zaj _ hd 5 (by decide)
   obtain ⟨A, c, e5, hS, hb, h6, h7, h9⟩ := j5 h5
   have e6 := (h6 (zaj _ hd 6 (by decide))).trans e5
   refine zj7 (v := .slice A s1.length c) (by rfl) ⟨fun h => absurd h (by decide), fun h => absurd (h.symm.trans h5) (by simp), fun _ h => absurd (h.symm.trans h5) (by simp), fun _ h => absurd (h.symm.trans h5) (by simp), fun _ => ⟨A, c, e5, hS, hb, h6, fun _ => rfl, h9⟩⟩ ?_
   refine zsm ?_
   rw [e6]
   exact zg0
 · rintro L s V hu hd hn ⟨hB, j1, j3, j5⟩
   have h5 := zaj _ hd 5 (by decide)
   obtain ⟨A, c, e5, hS, hb, h6, h7, h9⟩ := j5 h5
   have e6 := (h6 (zaj _ hd 6 (by decide))).trans e5
   refine zj7 (by rfl) ⟨fun _ => rfl, hB, j1, j3, j5⟩ ?_
   refine zsm ?_
   rw [e6]
   exact zg0
 · rintro L s V hu hd hn ⟨hB, j1, j3, j5⟩
   have h5 := zaj _ hd 5 (by decide)
   obtain ⟨A, c, e5, hS, hb, h6, h7, h9⟩ := j5 h5
   have e7 := h7 (zaj _ hd 7 (by decide))
   refine zj7 (v := .slice A s1.length c) (by rfl) ⟨fun h => absurd h (by decide), fun h => absurd (h.symm.trans h5) (by simp), fun _ h => absurd (h.symm.trans h5) (by simp), fun _ h => absurd (h.symm.trans h5) (by simp), fun _ => ⟨A, c, e5, hS, hb, h6, h7, fun _ => rfl⟩⟩ ?_
   refine zsm ?_
   rw [e7]
   exact zg0
 · exact fun L s V hu hd hn hJ => rm_v ⟨fun _ => rfl, hJ⟩
 · rintro L s V hL ⟨hB, j1, j3, j5⟩
   obtain ⟨AQ, cQ, e5, hS, hb, h6, h7, h9⟩ := j5 (hL 5 (by rfl))
   have e9 := h9 (hL 9 (by rfl))
   have HSQ := zA hS
   have HBQ := zA hb
   clear hB j1 j3 j5 e5 hS hb h6 h7 h9 hL
   refine zsm ?_
   rw [e9]
   clear e9
   have HBA := zA (zaa HB.out HBQ.out)
   have HC8 := zA (zSr HSQ.out).2.2
   have HL8 := zA (zSr HSQ.out).2.1
   obtain ⟨wA, hwA⟩ : ∃ wA, wA = V := ⟨_, rfl⟩
   rw [← hwA] at HBA HC8 HSQ HBQ ⊢
   clear hwA HB HSQ HBQ
   go_wp2_with fail
   (with_reducible refine (zig k _ _ l0 ns _ (zCb HR0.out HBA.out) HC0.out H1.out).mono ?_)
   rintro e w4 ⟨v, rfl, ho, hb⟩
   obtain ⟨A3, c3, rfl⟩ := Kd.R_slice ho
   have HX := zA (Kd.R_bound ho)
   have HA := zA hb
   have HW4A := zA hb.size
   clear ho hb
   have q1 := zae (zai B1.out (zaa HBA.out HA.out)) 0
   have q2 := zae (zai B1.out (zaa HBA.out HA.out)) 1
   go_wp2_with fail
   (with_reducible refine (zh2 k _ _ l1_0 _ _ l1_1 os js _ (zCb HR1.out (zaa HBA.out HA.out)) HC1.out (zCb HR2.out (zaa HBA.out HA.out)) HC2.out H2.out).mono ?_)
   rintro e w5 ⟨v0, v1, rfl, ho, ho2, hb⟩
   obtain ⟨A4, c4, rfl⟩ := Kd.R_slice ho
   obtain ⟨A5, c5, rfl⟩ := Kd.R_slice ho2
   have HY := zA (Kd.R_bound ho)
   have HZ := zA (Kd.R_bound ho2)
   have n := zA (zRb HX.out hb)
   have n2 := zA (zaa HA.out hb)
   have HW4 := zA hb.size
   clear HX HA ho ho2 hb q1 q2
   have HX := n
   have HA := n2
   clear n n2
   go_wp2_with (first
     | ((with_reducible refine zkx (N := 11) rfl ?_); go_must (refine zh9 ?hg (N := 11) ?hd (cs := #[.slice none 0 0, .slice none 0 0]) (t := 34) ?hr ?_; (case hd => rfl); (case hg => rfl); (case hr => go_simp <;> rfl); intro gx hg w6 hbox hb; have GX := zA (Nat.le_of_eq hg.symm); have BX := zA hbox; have HBX := zA hb; clear hg hbox hb))
     | ((with_reducible refine zi1 (t := 34) (p := 11) rfl ?_); go_must (refine ziv rfl (t := 34) (p := 11) rfl rfl (g := gx) (u := .agg #[.slice A4 os.length c4, .slice A5 js.length c5]) (seg := [.slice A4 os.length c4, .slice A5 js.length c5]) rfl rfl BX.out rfl rfl rfl (by simp [Value.oneCell']) ?_; intro w7 hbb hbw hfar; have hb := HBX.out.trans (hbw _ GX.out); have n := zA (zRb HX.out hb); have n2 := zA (zRb HY.out hb); have n3 := zA (zRb HZ.out hb); have n4 := zA (zaa HA.out hb); have HW5 := zA hb.size; have HW7A := zA (zaa HA.out hb).size; clear HX HY HZ HA HBX BX; have HX := n; have HY := n2; have HZ := n3; have HA := n4; have BX := zA hbb; have q1 := zae hbb 0; have q2 := zae hbb 1; clear hbb hbw hfar hb n n2 n3 n4)))
   (with_reducible refine (zkc k _ _ ns _ _ os _ _ js a2 g1 g2 _ (zRr HX.out).2.2 (zRr HX.out).2.1 (zRr HY.out).2.2 (zRr HY.out).2.1 (zRr HZ.out).2.2 (zRr HZ.out).2.1 H4.out).mono ?_)
   rintro e w8 ⟨v, rfl, ho, hb⟩
   obtain ⟨A6, c6, rfl⟩ := Kd.S_slice ho
   have HG := zA (Kd.S_bound ho)
   have HW8 := zA hb.size
   have n0 := zA (zRb HX.out hb)
   have n1 := zA (zRb HY.out hb)
   have n2 := zA (zRb HZ.out hb)
   have n3 := zA (zaa HA.out hb)
   have n4 := zA (zai BX.out hb)
   clear HX HY HZ HA BX ho hb q1 q2
   have HX := n0
   have HY := n1
   have HZ := n2
   have HA := n3
   have BX := n4
   clear n0 n1 n2 n3 n4
   go_wp2_with fail
   (with_reducible refine (zi2 k _ _ g1 _ _ s1 true _ (zSr HG.out).2.2 (zSr HG.out).2.1 (zCb HC8.out HA.out) HL8.out H5.out).mono ?_)
   rintro e w_ ⟨rfl, hb⟩
   have n0 := zA (zRb HX.out hb)
   have n1 := zA (zRb HY.out hb)
   have n2 := zA (zRb HZ.out hb)
   have n3 := zA (Kd.S_below HG.out hb)
   have n4 := zA (zaa HA.out hb)
   have n5 := zA (zai BX.out hb)
   clear HX HY HZ HG HA BX hb
   have HX := n0
   have HY := n1
   have HZ := n2
   have HG := n3
   have HA := n4
   have BX := n5
   clear n0 n1 n2 n3 n4 n5
   go_wp2_with fail
   (with_reducible refine (zig k _ _ l0 ns _ (zCb HR0.out (zk9 HBA.out HBA.out.size HA.out)) HC0.out H1.out).mono ?_)
   rintro e w9 ⟨v, rfl, ho, hb⟩
   obtain ⟨A7, c7, rfl, hl7, hC7⟩ := Kd.R_reads ho
   have HC7 := zA hC7
   have HL7 := zA hl7
   have n0 := zA (zRb HX.out hb)
   have n1 := zA (zRb HY.out hb)
   have n2 := zA (zRb HZ.out hb)
   have n3 := zA (Kd.S_below HG.out hb)
   have n4 := zA (zaa HA.out hb)
   have n5 := zA (zai BX.out hb)
   clear HX HY HZ HG HA BX ho hb hC7 hl7
   have HX := n0
   have HY := n1
   have HZ := n2
   have HG := n3
   have HA := n4
   have BX := n5
   clear n0 n1 n2 n3 n4 n5
   go_wp2_with fail
   (with_reducible refine (zqo k _ _ ns _ _ ns true _ (zRr HX.out).2.2 (zRr HX.out).2.1 HC7.out HL7.out H6.out).mono ?_)
   rintro e wB ⟨rfl, hb⟩
   have n0 := zA (zRb HX.out hb)
   have n1 := zA (zRb HY.out hb)
   have n2 := zA (zRb HZ.out hb)
   have n3 := zA (Kd.S_below HG.out hb)
   have n4 := zA (zaa HA.out hb)
   have n5 := zA (zai BX.out hb)
   clear HX HY HZ HG HA BX hb HC7 HL7
   have HX := n0
   have HY := n1
   have HZ := n2
   have HG := n3
   have HA := n4
   have BX := n5
   clear n0 n1 n2 n3 n4 n5
   go_wp2_with fail
   refine zot [[], [], [1], [0, 1, 2], [0, 1, 2, 3]] [[3, 4], [2, 3, 4], [3, 4], [4], []] (zgr [2])
     (zjd [.agg #[.slice A4 os.length c4, .slice A5 js.length c5], .agg #[.slice A1_0 l1_0.length c1_0, .slice A1_1 l1_1.length c1_1], undef, .bool true, .bool false])
     (fun L s V => Below wB.heap.size wB V ∧ (L 2 = true → ∃ A c A' c', s 2 = .agg #[.slice A os.length c, .slice A' js.length c'] ∧ os.length ≤ c ∧ Kd.C Kd.string V A os.length os ∧ js.length ≤ c' ∧ Kd.C (Kd.int .i64) V A' js.length js))
     rfl (fun _ _ _ _ _ h => h) zq23 ⟨ze8 (Below.refl _ _), fun h => Bool.noConfusion h⟩ ⟨?_, ?_, ?_, ?_, ?_, trivial⟩ ?_
   · intro L s V hu hd hn hJ
     have z0 := zae (zai BX.out hJ.1) 0
     have z1 := zae (zai BX.out hJ.1) 1
     exact rm_v ⟨fun _ => rfl, hJ⟩
   · intro L s V hu hd hn hJ
     have hbk := zaa (zk9 HBA.out HBA.out.size HA.out) hJ.1
     have z0 := zae (zai B1.out hbk) 0
     have z1 := zae (zai B1.out hbk) 1
     exact rm_v ⟨fun _ => rfl, hJ⟩
   · rintro L s V hu hd hn ⟨hB, g2⟩
     have hbk := zaa (zk9 HBA.out HBA.out.size HA.out) hB
     refine zil Tryz.func12 zq23 rfl #[.agg #[.slice A1_0 l1_0.length c1_0, .slice A1_1 l1_1.length c1_1]] (by rfl) rfl zq52 ((zh2 k A1_0 c1_0 l1_0 A1_1 c1_1 l1_1 os js V (zCb HR1.out hbk) HC1.out (zCb HR2.out hbk) HC2.out H2.out).mono ?_)
     rintro e U ⟨v0, v1, rfl, hR, hR2, hb⟩
     obtain ⟨A7, c7, rfl⟩ := Kd.R_slice hR
     obtain ⟨A8, c8, rfl⟩ := Kd.R_slice hR2
     exact ⟨_, rfl, fun h => absurd h (by decide), zaa hB hb, fun _ => ⟨A7, c7, A8, c8, rfl, (zRr hR).2.1, (zRr hR).2.2, (zRr hR2).2.1, (zRr hR2).2.2⟩⟩
   · rintro L s V hu hd hn ⟨hB, g2⟩
     obtain ⟨A7, c7, A8, c8, e2, hl7, hC7, hl8, hC8⟩ := g2 (zaj _ hd 2 (by decide))
     refine zil Tryz.func16 zq23 rfl #[.agg #[.slice A4 os.length c4, .slice A5 js.length c5], .agg #[.slice A7 os.length c7, .slice A8 js.length c8]] (by rfl) rfl (by simp only [List.map_toArray, List.map_cons, List.map_nil]; rw [show Act.eval _ (.tmp 65) = s 2 from rfl, e2]; rfl) ((zpy k A4 c4 os A5 c5 js A7 c7 os A8 c8 js true V (zCb (zRr HY.out).2.2 hB) (zRr HY.out).2.1 (zCb (zRr HZ.out).2.2 hB) (zRr HZ.out).2.1 hC7 hl7 hC8 hl8 H7.out).mono ?_)
     rintro e U ⟨rfl, hb⟩
     exact ⟨_, rfl, fun _ => rfl, zaa hB hb, fun _ => ⟨A7, c7, A8, c8, e2, hl7, zCb hC7 hb, hl8, zCb hC8 hb⟩⟩
   · exact fun L s V hu hd hn hJ => rm_v ⟨fun _ => rfl, hJ⟩
   · rintro L s wC hL ⟨hb, _⟩
     have n0 := zA (zRb HX.out hb)
     have n1 := zA (zRb HY.out hb)
     have n2 := zA (zRb HZ.out hb)
     have n3 := zA (Kd.S_below HG.out hb)
     have n4 := zA (zaa HA.out hb)
     have n5 := zA (zai BX.out hb)
     clear HX HY HZ HG HA BX hb hL
     have HX := n0
     have HY := n1
     have HZ := n2
     have HG := n3
     have HA := n4
     have BX := n5
     clear n0 n1 n2 n3 n4 n5
     refine zsm ?_
     go_wp2_with fail
     (with_reducible refine (zpj k (fun k_ => k_ < w4.heap.size) _ ns 1 m0 mn wA _ HA.out ?side1 H8.out).mono ?_)
     case side1 => exact Kd.R_mono (Kd.R_lower HX.out (zlr _)) (fun k_ hk => hk.2.2.1)
     rintro e wD ⟨rfl, _, hA9, hk9⟩
     have n1 := zA (Kd.S_kept HG.out hk9 (fun k_ hk h_ => by have := hk.2.1; have := HW4.out; have := HW5.out; omega))
     have n2 := zA (Kd.R_step HY.out (fun k_ hk hlt => hk9.2 k_ hlt (fun h_ => by have := hk.2.1; omega)))
     have n3 := zA (Kd.R_step HZ.out (fun k_ hk hlt => hk9.2 k_ hlt (fun h_ => by have := hk.2.1; omega)))
     have n4 := zA (zs8 BX.out hk9 (fun h_ => by have := GX.out; have := HW4.out; omega))
     clear HA HG HX HY HZ BX
     have HG := n1
     have HY := n2
     have HZ := n3
     have BX := n4
     have HA := zA hA9
     clear n1 n2 n3 n4 hA9 hk9
     have q1 := zae BX.out 0
     have q2 := zae BX.out 1
     go_wp2_with fail
     (with_reducible refine (zo1 k (fun k_ => k_ < w5.heap.size) _ os (fun k_ => k_ < w5.heap.size) _ js m0 m1 mo mj wA _ HA.out ?side2 ?side3 H9.out).mono ?_)
     case side2 => exact Kd.R_mono (Kd.R_lower HY.out HW4A.out) (fun k_ hk => hk.2.2.1)
     case side3 => exact Kd.R_mono (Kd.R_lower HZ.out HW4A.out) (fun k_ hk => hk.2.2.1)
     rintro e wE ⟨rfl, _, _, hA9, hk9⟩
     have n1 := zA (Kd.S_kept HG.out hk9 (fun k_ hk h_ => by have := hk.2.1; have := HW5.out; rcases h_ with h_ | h_ <;> omega))
     clear HA HG HY HZ BX q1 q2
     have HG := n1
     have HA := zA hA9
     clear n1 hA9 hk9
     go_wp2_with fail
     (with_reducible refine (zi2 k _ _ g1 _ _ s1 true _ (zSr HG.out).2.2 (zSr HG.out).2.1 (zCb HC8.out HA.out) HL8.out H5.out).mono ?_)
     rintro e w_ ⟨rfl, hb⟩
     have n0 := zA (Kd.S_below HG.out hb)
     have n1 := zA (zaa HA.out hb)
     clear HG HA hb
     have HG := n0
     have HA := n1
     clear n0 n1
     go_wp2_with fail
     (with_reducible refine (zoq k (fun _ => True) _ g1 1 q qc wA _ HA.out ?side4 H10.out).mono ?_)
     case side4 => exact Kd.S_mono (Kd.S_lower HG.out HW7A.out) (fun _ _ => trivial)
     rintro e wF ⟨rfl, hG, hA9, _⟩
     clear HA HG
     have HG := zA hG
     have HE := zA (zSr hG).1
     have HE2 := zA (show qc.length ≤ c6 from (zSr hG).1 ▸ (zSr hG).2.1)
     have HA := zA hA9
     clear hA9 hG
     go_wp2_with fail
     refine ziz (args' := #[.slice A6 qc.length c6, .int .i64 1]) (by rw [HE.out]) ?_
     (with_reducible refine (zkf k _ _ qc 1 q _ (zSr HG.out).2.2 HE2.out H11.out).mono ?_)
     rintro e WR2 ⟨rfl, hb⟩
     have n0 := zA (Kd.S_below HG.out hb)
     have n1 := zA (zaa HA.out hb)
     clear HG HA hb
     have HG := n0
     have HA := n1
     clear n0 n1
     have HBK := zA (zk9 HBA.out HBA.out.size HA.out)
     go_wp2_with fail
     refine zot [[], [0], [], [0, 1, 2], [], [0, 1, 2, 3, 4], [0, 1, 2, 3, 4, 5], [0, 1, 2, 3, 4, 5, 6], [0, 1, 2, 3, 4, 5, 6], [0, 1, 2, 3, 4, 5, 6, 7], [0, 1, 2, 3, 4, 5, 6, 7, 8, 9]] [[1, 3, 5, 6, 7, 8, 9, 10], [3, 5, 6, 7, 8, 9, 10], [3, 5, 6, 7, 8, 9, 10], [5, 6, 7, 8, 9, 10], [5, 6, 7, 8, 9, 10], [6, 7, 8, 9, 10], [7, 8, 9, 10], [9, 10], [10], [10], []] (zgr [1, 3, 5, 6, 7, 9])
       (zjd [.slice A0 l0.length c0, undef, .agg #[.slice A1_0 l1_0.length c1_0, .slice A1_1 l1_1.length c1_1], undef, .int .i64 a2, undef, undef, undef, .bool g2, undef, .bool g2])
       (fun L s V => (L 5 = false → Below WR2.heap.size WR2 V) ∧ (L 1 = true → L 5 = false → ∃ A c, s 1 = .slice A ns.length c ∧ ns.length ≤ c ∧ Kd.C k62 V A ns.length ns) ∧ (L 3 = true → L 5 = false → ∃ A c A' c', s 3 = .agg #[.slice A os.length c, .slice A' js.length c'] ∧ os.length ≤ c ∧ Kd.C Kd.string V A os.length os ∧ js.length ≤ c' ∧ Kd.C (Kd.int .i64) V A' js.length js) ∧ (L 5 = true → ∃ A c, s 5 = .tuple #[.slice A g1.length c, .bool g2] ∧ Kd.S (Kd.slice 69 k69) 29 V WR2.heap.size (fun _ => True) (.slice A g1.length c) g1 ∧ Below WR2.heap.size WR2 V ∧ (L 6 = true → s 6 = s 5) ∧ (L 7 = true → s 7 = .slice A g1.length c) ∧ (L 9 = true → s 9 = .slice A g1.length c)))
       rfl (fun _ _ _ _ _ h => h) zq23 ⟨fun _ => ze8 (Below.refl _ _), fun h => Bool.noConfusion h, fun h => Bool.noConfusion h, fun h => Bool.noConfusion h⟩ ⟨?_, ?_, ?_, ?_, ?_, ?_, ?_, ?_, ?_, ?_, ?_, trivial⟩ ?_
     · exact fun L s V hu hd hn hJ => rm_v ⟨fun _ => rfl, hJ⟩
     · rintro L s V hu hd hn ⟨hB, j1, j3, j5⟩
       have hb0 := hB (zaj _ hn 5 (by decide))
       refine zil Tryz.func11 zq23 rfl #[.slice A0 l0.length c0] (by rfl) rfl zq52 ((zig k A0 c0 l0 ns V (zCb HR0.out (zaa HBK.out hb0)) HC0.out H1.out).mono ?_)
       rintro e U ⟨v0, rfl, hR, hb⟩
       obtain ⟨A, c, rfl⟩ := Kd.R_slice hR
       exact ⟨_, rfl, fun h => absurd h (by decide), fun _ => zaa hb0 hb, fun _ _ => ⟨A, c, rfl, (zRr hR).2⟩, fun h => absurd (h.symm.trans (zaj _ hn 3 (by decide))) (by simp), fun h => absurd (h.symm.trans (zaj _ hn 5 (by decide))) (by simp)⟩
     · intro L s V hu hd hn hJ
       have hbk := zaa HBK.out (hJ.1 (zaj _ hn 5 (by decide)))
       have z0 := zae (zai B1.out hbk) 0
       have z1 := zae (zai B1.out hbk) 1
       exact rm_v ⟨fun _ => rfl, hJ⟩
     · rintro L s V hu hd hn ⟨hB, j1, j3, j5⟩
       have hb0 := hB (zaj _ hn 5 (by decide))
       obtain ⟨A, c, e1, hle, hC⟩ := j1 (zaj _ hd 1 (by decide)) (zaj _ hn 5 (by decide))
       refine zil Tryz.func12 zq23 rfl #[.agg #[.slice A1_0 l1_0.length c1_0, .slice A1_1 l1_1.length c1_1]] (by rfl) rfl zq52 ((zh2 k A1_0 c1_0 l1_0 A1_1 c1_1 l1_1 os js V (zCb HR1.out (zaa HBK.out hb0)) HC1.out (zCb HR2.out (zaa HBK.out hb0)) HC2.out H2.out).mono ?_)
       rintro e U ⟨v0, v1, rfl, hR, hR2, hb⟩
       obtain ⟨A3, c3, rfl⟩ := Kd.R_slice hR
       obtain ⟨A4, c4, rfl⟩ := Kd.R_slice hR2
       exact ⟨_, rfl, fun h => absurd h (by decide), fun _ => zaa hb0 hb, fun _ _ => ⟨A, c, e1, hle, zCb hC hb⟩, fun _ _ => ⟨A3, c3, A4, c4, rfl, (zRr hR).2.1, (zRr hR).2.2, (zRr hR2).2.1, (zRr hR2).2.2⟩, fun h => absurd (h.symm.trans (zaj _ hn 5 (by decide))) (by simp)⟩
     · exact fun L s V hu hd hn hJ => rm_v ⟨fun _ => rfl, hJ⟩
     · rintro L s V hu hd hn ⟨hB, j1, j3, j5⟩
       have hb0 := hB hu
       obtain ⟨A, c, e1, hle, hC⟩ := j1 (zaj _ hd 1 (by decide)) hu
       obtain ⟨A3, c3, A4, c4, e3, hl3, hC3, hl4, hC4⟩ := j3 (zaj _ hd 3 (by decide)) hu
       refine zil Tryz.func26 zq23 rfl #[.slice A ns.length c, .agg #[.slice A3 os.length c3, .slice A4 js.length c4], .int .i64 a2] (by rfl) rfl (by simp only [List.map_toArray, List.map_cons, List.map_nil]; rw [show Act.eval _ (.tmp 100) = s 1 from rfl, show Act.eval _ (.tmp 102) = s 3 from rfl, e1, e3]; rfl) ((zkc k A c ns A3 c3 os A4 c4 js a2 g1 g2 V hC hle hC3 hl3 hC4 hl4 H4.out).mono ?_)
       rintro e U ⟨v0, rfl, hR, hb⟩
       obtain ⟨A5, c5, rfl⟩ := Kd.S_slice hR
       exact ⟨_, rfl, fun h => absurd h (by decide), fun h => Bool.noConfusion h, fun _ h => Bool.noConfusion h, fun _ h => Bool.noConfusion h, fun _ => ⟨A5, c5, rfl, Kd.S_lower hR hb0.size, zaa hb0 hb, fun h => absurd (h.symm.trans (zaj _ hn 6 (by decide))) (by simp), fun h => absurd (h.symm.trans (zaj _ hn 7 (by decide))) (by simp), fun h => absurd (h.symm.trans (zaj _ hn 9 (by decide))) (by simp)⟩⟩
     · rintro L s V hu hd hn ⟨hB, j1, j3, j5⟩
       have h5 := zaj _ hd 5 (by decide)
       obtain ⟨A, c, e5, hS, hb, h6, h7, h9⟩ := j5 h5
       refine zj7 (v := s 5) (by rfl) ⟨fun h => absurd h (by decide), fun h => absurd (h.symm.trans h5) (by simp), fun _ h => absurd (h.symm.trans h5) (by simp), fun _ h => absurd (h.symm.trans h5) (by simp), fun _ => ⟨A, c, e5, hS, hb, fun _ => rfl, h7, h9⟩⟩ ?_
       refine zsm ?_
       exact zg0
     · rintro L s V hu hd hn ⟨hB, j1, j3, j5⟩
       have h5 := zaj _ hd 5 (by decide)
       obtain ⟨A, c, e5, hS, hb, h6, h7, h9⟩ := j5 h5
       have e6 := (h6 (zaj _ hd 6 (by decide))).trans e5
       refine zj7 (v := .slice A g1.length c) (by rfl) ⟨fun h => absurd h (by decide), fun h => absurd (h.symm.trans h5) (by simp), fun _ h => absurd (h.symm.trans h5) (by simp), fun _ h => absurd (h.symm.trans h5) (by simp), fun _ => ⟨A, c, e5, hS, hb, h6, fun _ => rfl, h9⟩⟩ ?_
       refine zsm ?_
       rw [e6]
       exact zg0
     · rintro L s V hu hd hn ⟨hB, j1, j3, j5⟩
       have h5 := zaj _ hd 5 (by decide)
       obtain ⟨A, c, e5, hS, hb, h6, h7, h9⟩ := j5 h5
       have e6 := (h6 (zaj _ hd 6 (by decide))).trans e5
       refine zj7 (by rfl) ⟨fun _ => rfl, hB, j1, j3, j5⟩ ?_
       refine zsm ?_
       rw [e6]
       exact zg0
     · rintro L s V hu hd hn ⟨hB, j1, j3, j5⟩
       have h5 := zaj _ hd 5 (by decide)
       obtain ⟨A, c, e5, hS, hb, h6, h7, h9⟩ := j5 h5
       have e7 := h7 (zaj _ hd 7 (by decide))
       refine zj7 (v := .slice A g1.length c) (by rfl) ⟨fun h => absurd h (by decide), fun h => absurd (h.symm.trans h5) (by simp), fun _ h => absurd (h.symm.trans h5) (by simp), fun _ h => absurd (h.symm.trans h5) (by simp), fun _ => ⟨A, c, e5, hS, hb, h6, h7, fun _ => rfl⟩⟩ ?_
       refine zsm ?_
       rw [e7]
       exact zg0
     · exact fun L s V hu hd hn hJ => rm_v ⟨fun _ => rfl, hJ⟩
     · rintro L s V hL ⟨hB, j1, j3, j5⟩
       obtain ⟨AR, cR, e5, hS, hb, h6, h7, h9⟩ := j5 (hL 5 (by rfl))
       have e9 := h9 (hL 9 (by rfl))
       have HSQ := zA hS
       have HBQ := zA hb
       clear hB j1 j3 j5 e5 hS hb h6 h7 h9 hL
       refine zsm ?_
       rw [e9]
       clear e9
       have hb := HBQ.out
       have n0 := zA (Kd.S_below HG.out hb)
       have n1 := zA (zaa HA.out hb)
       clear HG HA hb HBK HBQ
       have HG := n0
       have HA := n1
       clear n0 n1
       go_wp2_with fail
       (with_reducible refine (zi2 k _ _ g1 _ _ s1 true _ (zSr HSQ.out).2.2 (zSr HSQ.out).2.1 (zCb HC8.out HA.out) HL8.out H5.out).mono ?_)
       rintro e wH ⟨rfl, hb⟩
       have n0 := zA (Kd.S_below HG.out hb)
       have n1 := zA (zaa HA.out hb)
       clear HG HA hb HSQ
       have HG := n0
       have HA := n1
       clear n0 n1
       go_wp2_with fail
       refine ziz (args' := #[.slice A6 qc.length c6, .int .i64 1]) (by rw [HE.out]) ?_
       (with_reducible refine (zkf k _ _ qc 1 q _ (zSr HG.out).2.2 HE2.out H11.out).mono ?_)
       rintro e wI ⟨rfl, hb⟩
       have HB := zA (zaa (zk9 HBA.out HBA.out.size HA.out) hb)
       clear hb
       go_wp2_with fail
       go_ret
       exact ⟨rfl, HB0.out.trans (HB.out.mono HB0.out.size)⟩
end Go.Proofs.YtnaafcleafbejaaGreat.Q
end
section
namespace Go.Proofs.YtnaafcleafbejaaGreat.Rd
open Go Go.RowKit Go.Proofs.YtnaafcleafbejaaGreatW.PrintWords Go.Proofs.YtnaafcleafbejaaGreatW.PrintLast Go.ChangeShapes Go.WideShapes Go.Deep
set_option linter.unusedSimpArgs false
set_option linter.unusedVariables false
structure RdK {α : Type} (d : Kd α) (P : Program) (t : TypeId) (Good : α → Prop) : Prop where
  size : P.cellsOf t = d.sz
  get : ∀ {H : Type} {enc : TypeId × Value → H} {w : World} {n : Nat} {cs : List Value} {x : DataW H × List MemPlace}, DataW.trod enc P w 0 (fun _ => true) true n t cs = some x → ∃ a, d.K w a cs ∧ Good a
def okInt (k : IntKind) (n : Int) : Prop := (Lit.int k n).wf = true
def okStr (s : ByteArray) : Prop := s.size ≤ maxLen
def okSl {α : Type} (G : α → Prop) (xs : List α) : Prop := xs.length ≤ maxLen ∧ ∀ x ∈ xs, G x
theorem rk_int {P : Program} {t : TypeId} {k : IntKind} (ht : P.underlying t = some (.int k)) (hs : P.cellsOf t = 1) : RdK (Kd.int k) P t (okInt k) :=
  ⟨hs, fun h => by obtain ⟨n, rfl, _, hw⟩ := DataW.trod_int ht h; exact ⟨n, rfl, hw⟩⟩
theorem rk_string {P : Program} {t : TypeId} (ht : P.underlying t = some .string) (hs : P.cellsOf t = 1) : RdK Kd.string P t okStr :=
  ⟨hs, fun h => by obtain ⟨n, rfl, _, hw⟩ := DataW.trod_string ht h; exact ⟨n, rfl, hw⟩⟩
theorem rk_slice {α : Type} {d : Kd α} {P : Program} {t e : TypeId} {G : α → Prop} (hd : RdK d P e G) (ht : P.underlying t = some (.slice e)) (hs : P.cellsOf t = 1) : RdK (Kd.slice e d) P t (okSl G) := by
  refine ⟨hs, fun {H enc w n cs x} h => ?_⟩
  rcases open_slice ht h with ⟨rfl, _⟩ | ⟨a, len, cap, m, n', D, Pl, rfl, _, hl, hm, hmm, _, hx⟩
  · exact ⟨[], ⟨none, 0, rfl, Nat.le_refl _, rfl, Nat.zero_le _, fun h => absurd h (Nat.lt_irrefl 0)⟩, Nat.zero_le _, fun _ h => by cases h⟩
  · have hc : m = cap := by simpa using hmm
    subst hc
    have key : ∀ i : Fin len, ∃ a' : α, ∃ cs', d.K w a' cs' ∧ G a' ∧ w.cells? 0 (a.add (i * P.cellsOf e)) (P.cellsOf e) = some cs' := fun i => by
      obtain ⟨cs', h1, h2⟩ := hx i (by omega)
      obtain ⟨a', h3, h4⟩ := hd.get h2
      exact ⟨a', cs', h3, h4, h1⟩
    have hlen : (List.ofFn fun i => Classical.choose (key i)).length = len := List.length_ofFn
    refine ⟨List.ofFn fun i => Classical.choose (key i), ⟨some a, m, by rw [hlen], by omega, hlen.trans hlen.symm, ?_, fun _ => ⟨a, rfl, fun j p hj => ?_⟩⟩, by rw [hlen]; omega, fun y hy => ?_⟩
    · rw [hlen]; unfold maxLen at hm; omega
    · have hjl : j < len := by
        have := (List.getElem?_eq_some_iff.1 hj).1
        rwa [hlen] at this
      rw [List.getElem?_ofFn, dif_pos hjl, Option.some.injEq] at hj
      obtain ⟨cs', h1, h2, h3⟩ := Classical.choose_spec (key ⟨j, hjl⟩)
      rw [hj] at h1 h2
      obtain ⟨_, h5, h6⟩ := World.cells?_some h3
      refine ⟨cs', d.K_len h1, h1, fun i u hi => ?_⟩
      have hil : i < P.cellsOf e := by
        have := (List.getElem?_eq_some_iff.1 hi).1
        omega
      have := h6 i hil
      rw [Go.Deep.add_add] at this
      rw [← hd.size]
      exact this.trans hi
    · obtain ⟨i, rfl⟩ := List.mem_ofFn.1 hy
      obtain ⟨cs', h1, h2, h3⟩ := Classical.choose_spec (key i)
      exact h2
structure RdF {α : Type} (d : Kd α) (P : Program) (fs : List Field) (off : Nat) (Good : α → Prop) : Prop where
  get : ∀ {H : Type} {enc : TypeId × Value → H} {w : World} {n : Nat} {cs : List Value}, cs.length = off + d.sz →
    (∀ f ∈ fs, ∃ y, DataW.trod enc P w 0 (fun _ => true) true n f.type ((cs.drop f.offset).take (P.cellsOf f.type)) = some y) → ∃ a, d.K w a (cs.drop off) ∧ Good a
theorem rf_one {α : Type} {d : Kd α} {P : Program} {f : Field} {G : α → Prop} (hd : RdK d P f.type G) : RdF d P [f] f.offset G := by
  refine ⟨fun {H enc w n cs} hl h => ?_⟩
  obtain ⟨y, hy⟩ := h f (List.mem_singleton.2 rfl)
  rw [hd.size, List.take_of_length_le (by rw [List.length_drop]; omega)] at hy
  exact hd.get hy
theorem rf_cons {α β : Type} {d : Kd α} {d' : Kd β} {P : Program} {f : Field} {fs : List Field} {G : α → Prop} {G' : β → Prop} {off' : Nat} (hd : RdK d P f.type G) (ho : off' = f.offset + d.sz) (hf : RdF d' P fs off' G') :
    RdF (Kd.pair d d') P (f :: fs) f.offset (fun x => G x.1 ∧ G' x.2) := by
  refine ⟨fun {H enc w n cs} hl h => ?_⟩
  have hl' : cs.length = f.offset + (d.sz + d'.sz) := hl
  obtain ⟨y, hy⟩ := h f List.mem_cons_self
  rw [hd.size] at hy
  obtain ⟨a, h1, h2⟩ := hd.get hy
  obtain ⟨b, h3, h4⟩ := hf.get (cs := cs) (by omega) (fun g hg => h g (List.mem_cons_of_mem _ hg))
  refine ⟨(a, b), ⟨_, _, ?_, h1, h3⟩, h2, h4⟩
  rw [ho, ← List.drop_drop, List.take_append_drop]
theorem rk_struct {α : Type} {d : Kd α} {P : Program} {t : TypeId} {fs : Array Field} {G : α → Prop} (ht : P.underlying t = some (.struct fs)) (hs : P.cellsOf t = d.sz) (hf : RdF d P fs.toList 0 G) : RdK d P t G := by
  refine ⟨hs, fun {H enc w n cs x} h => ?_⟩
  obtain ⟨xs, n', _, _, hl, hlen, hg⟩ := DataW.trod_struct ht h
  have := hf.get (cs := cs) (enc := enc) (w := w) (n := n') (by omega) (fun f hf' => by
    obtain ⟨i, hi, he⟩ := List.getElem_of_mem hf'
    have h1 : fs[i]? = some f := by rw [← Array.getElem?_toList, List.getElem?_eq_getElem hi, he]
    have h2 := hg i f h1
    rw [List.getElem?_eq_getElem (by rw [hlen]; simpa using hi)] at h2
    exact ⟨_, h2⟩)
  simpa using this
theorem rk_iso {α β : Type} {d : Kd α} {P : Program} {t : TypeId} {G : α → Prop} (hd : RdK d P t G) (f : β → α) (g : α → β) (hfg : ∀ a, f (g a) = a) : RdK (Kd.iso d f) P t (fun b => G (f b)) := by
  refine ⟨hd.size, fun {H enc w n cs x} h => ?_⟩
  obtain ⟨a, h1, h2⟩ := hd.get h
  exact ⟨g a, by show d.K w (f (g a)) cs; rw [hfg]; exact h1, by rw [hfg]; exact h2⟩
theorem arg_slice {α : Type} {d : Kd α} {P : Program} {t e : TypeId} {G : α → Prop} (hd : RdK (Kd.slice e d) P t (okSl G)) {H : Type} {enc : TypeId × Value → H} {w : World} {a : Option Addr} {len cap : Nat} {x : DataW H} {ps : List MemPlace}
    (h : DataW.Trod enc P w 0 (fun _ => true) true t (.slice a len cap) x ps) : ∃ xs : List α, len = xs.length ∧ xs.length ≤ cap ∧ Kd.C d w a xs.length xs ∧ okSl G xs := by
  obtain ⟨n, hn⟩ := h
  obtain ⟨xs, ⟨A, c, he, hl, hc⟩, hg⟩ := hd.get hn
  simp [Value.cells] at he
  obtain ⟨rfl, rfl, rfl⟩ := he
  exact ⟨xs, rfl, hl, hc, hg⟩
theorem arg_struct {α : Type} {d : Kd α} {P : Program} {t : TypeId} {G : α → Prop} (hd : RdK d P t G) {H : Type} {enc : TypeId × Value → H} {w : World} {cs : Array Value} {x : DataW H} {ps : List MemPlace}
    (h : DataW.Trod enc P w 0 (fun _ => true) true t (.agg cs) x ps) : ∃ a : α, d.K w a cs.toList ∧ G a := by
  obtain ⟨n, hn⟩ := h
  exact hd.get hn
end Go.Proofs.YtnaafcleafbejaaGreat.Rd
end
section
namespace Go.Proofs.YtnaafcleafbejaaGreat.Q
open Go.RowKit Go.Proofs.YtnaafcleafbejaaGreatW.PrintWords Go.Proofs.YtnaafcleafbejaaGreatW.PrintLast Go.Proofs.YtnaafcleafbejaaGreatW.PrintMore
attribute [local go_sem] zbc zbg zb8 zb9 za1 za2 zbi zbj
set_option linter.unusedVariables false
set_option linter.unusedSimpArgs false
def zzy (x : S58) : Prop := Rd.okStr x.f0 ∧ (Rd.okInt .i64) x.f1 ∧ (Rd.okInt .i64) x.f2 ∧ (Rd.okInt .i64) x.f3
theorem rd58 : Rd.RdK k58 Tryz.prog 58 zzy :=
  Rd.rk_iso (Rd.rk_struct Tryz.underlying58 (by kernel_rfl) (Rd.rf_cons (Rd.rk_string Tryz.underlying9 (by kernel_rfl)) rfl (Rd.rf_cons (Rd.rk_int Tryz.underlying3 (by kernel_rfl)) rfl (Rd.rf_cons (Rd.rk_int Tryz.underlying3 (by kernel_rfl)) rfl (Rd.rf_one (Rd.rk_int Tryz.underlying3 (by kernel_rfl))))))) (fun x : S58 => (x.f0, x.f1, x.f2, x.f3)) (fun p => ⟨p.1, p.2.1, p.2.2.1, p.2.2.2⟩) (fun _ => rfl)
def ycu (x : S26) : Prop := (Rd.okSl Rd.okStr) x.f0 ∧ (Rd.okSl (Rd.okInt .i64)) x.f1
theorem rd26 : Rd.RdK k26 Tryz.prog 26 ycu :=
  Rd.rk_iso (Rd.rk_struct Tryz.underlying26 (by kernel_rfl) (Rd.rf_cons (Rd.rk_slice (Rd.rk_string Tryz.underlying9 (by kernel_rfl)) Tryz.underlying23 (by kernel_rfl)) rfl (Rd.rf_one (Rd.rk_slice (Rd.rk_int Tryz.underlying3 (by kernel_rfl)) Tryz.underlying24 (by kernel_rfl))))) (fun x : S26 => (x.f0, x.f1)) (fun p => ⟨p.1, p.2⟩) (fun _ => rfl)
def laws_FnExactAllShortest.Pure : Prop := ∀ (a0 : List (S58)) (a1 : S26) (a2 : Int), (Rd.okSl zzy) a0 → ycu a1 → (Rd.okInt .i64) a2 → ∃ k, zdn k a0 a1.f0 a1.f1 a2 = some true
end Go.Proofs.YtnaafcleafbejaaGreat.Q
end
section
namespace Go.Proofs.YtnaafcleafbejaaGreat.PL
open Go Go.RowKit Go.Proofs.YtnaafcleafbejaaGreatW.PrintWords Go.Proofs.YtnaafcleafbejaaGreatW.PrintLast Go.Proofs.YtnaafcleafbejaaGreatW.PrintMore Go.Proofs.YtnaafcleafbejaaGreat.Q
set_option linter.unusedSimpArgs false
set_option linter.unusedVariables false
theorem w64 {x : Int} (h1 : -9223372036854775808 ≤ x) (h2 : x < 9223372036854775808) : wrap64 x = x := by unfold wrap64; omega
theorem w64n (i : Nat) (h : i < 4611686018427387904) : wrap64 ((i : Int) + 1) = ((i + 1 : Nat) : Int) := by unfold wrap64; omega
theorem Ev.some {α : Type} {a r : α} (h : a = r) : Ev (fun _ => some a) r := h ▸ Ev.now a
theorem ziy {α : Type} {g : Option α} {r : α} (h : g = Option.some r) : Ev (fun _ => g) r := by rw [h]; exact Ev.now r
theorem zku {α : Type} {g : Nat → Option α} {r s : α} (h : Ev g r) (e : r = s) : Ev g s := e ▸ h
theorem zad {α : Type} {c : Prop} [Decidable c] {g g' : Nat → Option α} {r : α} (h : c) (H : Ev g r) : Ev (fun k => if c then g k else g' k) r := zri (fun _ => if_pos h) H
theorem zao {α : Type} {c : Prop} [Decidable c] {g g' : Nat → Option α} {r : α} (h : ¬ c) (H : Ev g' r) : Ev (fun k => if c then g k else g' k) r := zri (fun _ => if_neg h) H
theorem Ev.call {α β : Type} {g : Option α} {f : Nat → α → Option β} {a : α} {r : β} (h : g = Option.some a) (k : Ev (fun n => f n a) r) : Ev (fun n => g.bind (f n)) r := by
  rw [h]; exact k
theorem zzz {σ ρ : Type} (n : Nat) (L : Nat → σ → Int → Option ρ) (M : Nat → σ → ρ) (hend : ∀ s, Ev (fun k => L k s n) (M n s))
    (hstep : ∀ (i : Nat) s, i < n → (∀ s', Ev (fun k => L k s' ((i + 1 : Nat) : Int)) (M (i + 1) s')) → Ev (fun k => L k s i) (M i s)) :
    ∀ (d i : Nat) s, i + d = n → Ev (fun k => L k s i) (M i s)
  | 0, i, s, h => by
    have e : i = n := by omega
    rw [e]
    exact hend s
  | d + 1, i, s, h => hstep i s (by omega) (fun s' => zzz n L M hend hstep d (i + 1) s' (by omega))
theorem zk7 {α σ ρ : Type} (xs : List α) (L : Nat → σ → Int → Option ρ) (m : List α → σ → ρ) (hend : ∀ s, Ev (fun k => L k s (xs.length : Nat)) (m [] s))
    (hstep : ∀ (i : Nat) s x rest, i < xs.length → (∀ d, xs.getD i d = x) → (∀ s', Ev (fun k => L k s' ((i + 1 : Nat) : Int)) (m rest s')) → Ev (fun k => L k s i) (m (x :: rest) s)) (s : σ) :
    Ev (fun k => L k s 0) (m xs s) := by
  have := zzz xs.length L (fun i s => m (xs.drop i) s) (fun s => by simpa using hend s) (fun i s hi ih => by
    have e : xs.drop i = xs[i] :: xs.drop (i + 1) := List.drop_eq_getElem_cons hi
    show Ev (fun k => L k s i) (m (xs.drop i) s)
    rw [e]
    exact hstep i s xs[i] _ hi (fun d => by simp [List.getD, List.getElem?_eq_getElem hi]) ih) xs.length 0 s (by omega)
  simpa using this
def idx {α : Type} (p : α → Bool) : List α → Int
  | [] => -1
  | x :: xs => if p x = true then 0 else if idx p xs < 0 then -1 else idx p xs + 1
theorem zuh {α : Type} (p : α → Bool) (xs : List α) : 0 ≤ idx p xs ↔ ∃ x ∈ xs, p x = true := by
  induction xs with
  | nil => simp [idx]
  | cons x xs ih =>
    unfold idx
    by_cases h : p x = true
    · simp [h]
    · by_cases h2 : idx p xs < 0
      · rw [if_neg h, if_pos h2]
        have : ¬ ∃ x ∈ xs, p x = true := fun e => by have := ih.2 e; omega
        simp [h]
        simpa using this
      · rw [if_neg h, if_neg h2]
        have := ih.1 (by omega)
        simp [h]
        exact ⟨fun _ => this, fun _ => by omega⟩
theorem yfh {α : Type} (p : α → Bool) (xs : List α) : -1 ≤ idx p xs := by
  induction xs with
  | nil => unfold idx; simp
  | cons x xs ih => unfold idx; split; · decide
                    · split <;> omega
theorem zv4 {α : Type} (xs : List α) (p : α → Bool) (L : Nat → Int → Option Int) (hend : Ev (fun k => L k (xs.length : Nat)) (-1))
    (hyes : ∀ (i : Nat) x, i < xs.length → (∀ d, xs.getD i d = x) → p x = true → Ev (fun k => L k i) (i : Int))
    (hno : ∀ (i : Nat) x r, i < xs.length → (∀ d, xs.getD i d = x) → p x = false → Ev (fun k => L k ((i + 1 : Nat) : Int)) r → Ev (fun k => L k i) r) : Ev (fun k => L k 0) (idx p xs) := by
  have key : ∀ (d i : Nat), i + d = xs.length → Ev (fun k => L k i) (if idx p (xs.drop i) < 0 then -1 else idx p (xs.drop i) + i) := by
    intro d
    induction d with
    | zero =>
      intro i hi
      rw [List.drop_of_length_le (by omega), if_pos (show idx p [] < 0 by unfold idx; decide)]
      have e : i = xs.length := by omega
      rw [e]; exact hend
    | succ d ih =>
      intro i hi
      have hlt : i < xs.length := by omega
      have e : xs.drop i = xs[i] :: xs.drop (i + 1) := List.drop_eq_getElem_cons hlt
      have hg : ∀ d, xs.getD i d = xs[i] := fun d => by simp [List.getD, List.getElem?_eq_getElem hlt]
      rw [e]
      unfold idx
      by_cases h : p xs[i] = true
      · rw [if_pos h, if_neg (by decide)]
        simpa using hyes i _ hlt hg h
      · refine hno i _ _ hlt hg (by simpa using h) (zku (ih (i + 1) (by omega)) ?_)
        rw [if_neg h]
        by_cases h2 : idx p (xs.drop (i + 1)) < 0
        · rw [if_pos h2, if_pos h2, if_pos (by decide)]
        · rw [if_neg h2, if_neg h2, if_neg (by omega)]
          omega
  have := key xs.length 0 (by omega)
  simp only [List.drop_zero, Int.natCast_zero, Int.add_zero] at this
  refine zku this ?_
  have := yfh p xs
  split <;> omega
theorem yfi {α : Type} (xs : List α) (p : α → Bool) (L : Nat → Int → Option Bool) (hend : Ev (fun k => L k (xs.length : Nat)) true)
    (hno : ∀ (i : Nat) x, i < xs.length → (∀ d, xs.getD i d = x) → p x = false → Ev (fun k => L k i) false)
    (hyes : ∀ (i : Nat) x r, i < xs.length → (∀ d, xs.getD i d = x) → p x = true → Ev (fun k => L k ((i + 1 : Nat) : Int)) r → Ev (fun k => L k i) r) : Ev (fun k => L k 0) (xs.all p) := by
  refine zk7 (σ := Unit) xs (fun k _ i => L k i) (fun l _ => l.all p) (fun _ => hend) (fun i _ x rest hi hx ih => ?_) ()
  by_cases h : p x = true
  · exact hyes i x _ hi hx h (zku (ih ()) (by simp [h]))
  · have h' : p x = false := by simpa using h
    exact zku (hno i x hi hx h') (by simp [h'])
theorem zlg {xs : List Int} {i : Nat} {x : Int} (h : ∀ d, xs.getD i d = x) : rd xs i = x := by unfold rd; rw [Int.toNat_natCast]; exact h 0
theorem zlh {α : Type} {d0 : α} {xs : List α} {i : Nat} {x : α} (h : ∀ d, xs.getD i d = x) : rdOf d0 xs i = x := by unfold rdOf; rw [Int.toNat_natCast]; exact h d0
theorem ycv {xs : List S69} {i : Nat} {x : S69} (h : ∀ d, xs.getD i d = x) : zag xs i = x := by unfold zag; rw [Int.toNat_natCast]; exact h _
theorem zcj {α : Type} (xs : List α) (i : Nat) (h : i < xs.length) : ∀ d, xs.getD i d = xs[i] := fun d => by simp [List.getD, List.getElem?_eq_getElem h]
theorem zpb {α : Type} (xs ys : List α) (z : α) (v : α) : (xs ++ List.replicate (ys.length + 1) z).set xs.length v = (xs ++ [v]) ++ List.replicate ys.length z := by
  rw [List.set_append_right _ _ (Nat.le_refl _)]
  simp [List.replicate_succ]
end Go.Proofs.YtnaafcleafbejaaGreat.PL
end
