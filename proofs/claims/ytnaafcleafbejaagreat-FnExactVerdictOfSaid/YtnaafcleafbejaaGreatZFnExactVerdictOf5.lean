/- Proved here: contracts of functions that the law FnExactVerdictOf reaches, and lemmas on what they compute; texts of this session and the printed words of the kit that they lean on, cut down and put together by its program link.py. Conditions: as each states. -/
import Derived.Carry
import Derived.Deep.Slices
import Derived.ProofKit
import Derived.Test.YtnaafcleafbejaaGreatZFnExactVerdictOf1
import Derived.Test.YtnaafcleafbejaaGreatZFnExactVerdictOf2
import Derived.Test.YtnaafcleafbejaaGreatZFnExactVerdictOf3
import Derived.Test.YtnaafcleafbejaaGreatZFnExactVerdictOf4
section
namespace Go.Proofs.YtnaafcleafbejaaGreat.Q
open Go.RowKit Go.Proofs.YtnaafcleafbejaaGreatW.PrintWords Go.Proofs.YtnaafcleafbejaaGreatW.PrintLast Go.Proofs.YtnaafcleafbejaaGreatW.PrintMore
set_option maxHeartbeats 8000000
set_option maxRecDepth 100000
attribute [local go_sem] zf1 zf2 zhf zhg zeu zev zf3 zf6
set_option linter.unusedVariables false
set_option linter.unusedSimpArgs false
def zd3 : Nat → List Int → List (S69) → Int → Int → Option (List Int)
 | 0, _, _, _, _ => none
 | k + 1, x5, x10, x11, x12 => if x12 < x11 then (if 0 ≤ x12 then (if x12 < (x10.length : Int) then ((ziy ((zaa x10 x12).f0) ((zaa x10 x12).f1) ((zaa x10 x12).f2) ((zaa x10 x12).f3) ((zaa x10 x12).f4) x5).bind fun t106 => (zd3 k t106 x10 x11 (wrap64 (x12 + 1)))) else (none)) else (none)) else (some x5)
def zg6 (k : Nat) (l0 : List (S69)) (l1 : List Int) : Option (List Int) := (zim l1).bind fun t101 => (zd3 k t101 l0 (l0.length : Int) 0)
theorem zmb : ∀ k, (∀ y0 y1 y2 y3, LeO (zd3 k y0 y1 y2 y3) (zd3 (k + 1) y0 y1 y2 y3))
 | 0 => fun _ _ _ _ r h => by simp [zd3] at h
 | k + 1 => by
   have ih0 := zmb k
   · intro y0 y1 y2 y3
     unfold zd3
     exact zm1 ih0
theorem zkp : ∀ a0 a1 k, LeO (zg6 k a0 a1) (zg6 (k + 1) a0 a1) := by
 intro a0 a1 k
 have ih0 := zmb k
 unfold zg6
 exact zm1 ih0
theorem zrn (k : Nat) (A0 : Option Addr) (c0 : Nat) (l0 : List (S69)) (A1 : Option Addr) (c1 : Nat) (l1 : List Int) (r : List Int) (w : World) (hr0 : Kd.C k69 w A0 l0.length l0) (hc0 : l0.length ≤ c0) (hr1 : Kd.C (Kd.int .i64) w A1 l1.length l1) (hc1 : l1.length ≤ c1) (h : zg6 k l0 l1 = some r) :
   Calls Tryz.prog 84 #[.slice A0 l0.length c0, .slice A1 l1.length c1] w fun e w' => ∃ v0_ : Value, e = .returned (v0_) ∧ Kd.R (Kd.int .i64) 3 w' w.heap.size (fun _ => True) v0_ r ∧ Below w.heap.size w w' := by
 have hu69 := Tryz.underlying69
 have HR0 := zA hr0
 have HC0 := zA hc0
 clear hr0 hc0
 have HR1 := zA hr1
 have HC1 := zA hc1
 clear hr1 hc1
 have HB := zA (Below.refl w.heap.size w)
 have H := h
 unfold zg6 at H
 clear h
 replace H := zob H
 obtain ⟨t101, A30, H⟩ := H
 have A3 := zA A30
 clear A30
 have H' := zA H
 clear H
 go_enter Tryz.func84, Tryz.ntmps84
 go_wp2_with (first | ((with_reducible refine zgc 119 ?_); refine zca 9 Tryz.func119 #[.slice A1 l1.length c1] (zmy _ _ l1 t101 _ (zq10 HR1) HC1.out A3.out) ?_; rintro e w4 ⟨v102, rfl, ho0, hb⟩; refine ⟨_, rfl, ?_⟩; have HO103 := zA (Kd.R_lower ho0 (zag zq1)); replace HB := zA (zab zq1 hb); (try clear hb); (try clear ho0)))
 go_loopg [5, 12] k (fun kq v5 v12 w' => ∃ (x5_1 : List Int) (x12_1 : Int), v12 = .int .i64 x12_1 ∧ Aside0 (zd3 kq x5_1 l0 (l0.length : Int) x12_1 = some r) ∧ Aside0 (kq ≤ k) ∧ Aside0 (Kd.R (Kd.int .i64) 3 w' w.heap.size (fun _ => True) v5 x5_1) ∧ Aside0 (Below w.heap.size w w'))
 case atStart => exact ⟨(t101), (0), zq5, H', ⟨zlr _⟩, ⟨zq2 HO103⟩, ⟨zq1⟩⟩
 clear H'
 obtain ⟨x5_1, x12_1, rfl, HA, HK1, HO_5, HB⟩ := hrel
 cases gk with
 | zero => exact absurd HA.out (by simp [zd3])
 | succ k1 =>
 have H := HA.out
 clear HA
 simp only [zd3] at H
 revert H
 refine zit (fun c5 H => ?_) fun c5 H => ?_
 rotate_left
 · obtain rfl := zsi H
   go_wp2
   go_ret
   exact ⟨_, zq4, zq2 HO_5, zq1⟩
 revert H
 refine zin fun c6 H => ?_
 revert H
 refine zin fun c7 H => ?_
 replace H := zob H
 obtain ⟨t106, A80, H⟩ := H
 have A8 := zA A80
 clear A80
 have H' := zA H
 clear H
 obtain ⟨p104, q104⟩ := zpq x12_1 l0.length
 obtain ⟨ad104, e104, hx104_0, hx104_1, hx104_2, hx104_3, hx104_4⟩ := zmn HR0.out x12_1 (zoe p104) (zoe q104)
 cases e104
 replace hx104_0 := zkep HB.out hx104_0
 replace hx104_1 := zkep HB.out hx104_1
 replace hx104_2 := zkep HB.out hx104_2
 replace hx104_3 := zkep HB.out hx104_3
 replace hx104_4 := zkep HB.out hx104_4
 go_wp2_with (first | ((with_reducible refine zgd 7 ?_); refine zbx #[.string (⟨#[]⟩ : ByteArray), .int .i64 0, .int .i64 0, .int .i64 0, .int .i64 0] 69 ?_; intro gb105 hg w9 hbox hb; have zs := zpair zq1 hb; replace HO_5 := zA (zRb (zq2 HO_5) hb); replace HB := zA (zs.1); have BK105 := zA (hbox); have GW105 := zA (zge hg zs.2); have GE105 := GW105; clear zs hb hbox hg; obtain ⟨hcz10_0, hcz10_1, hcz10_2, hcz10_3, hcz10_4, hfz10_0, hfz10_1, hfz10_2, hfz10_3, hfz10_4⟩ := zd5 BK105; obtain ⟨Ao11, co11, eo11⟩ := Kd.R_slice HO_5.out; subst eo11) | ((with_reducible refine zgc 120 ?_); refine zca 18 Tryz.func120 #[.agg #[.string ((zaa l0 x12_1).f0), .int .i64 ((zaa l0 x12_1).f1), .int .i64 ((zaa l0 x12_1).f2), .int .i64 ((zaa l0 x12_1).f3), .int .i64 ((zaa l0 x12_1).f4)], .slice Ao11 x5_1.length co11] (zqs ((zaa l0 x12_1).f0) ((zaa l0 x12_1).f1) ((zaa l0 x12_1).f2) ((zaa l0 x12_1).f3) ((zaa l0 x12_1).f4) _ _ x5_1 t106 _ (by refine (zRr (e := 3) (base := w.heap.size) (ok := fun k_ => True) (n := x5_1.length) (c := co11) ?_).2.2; exact (zq26 HO_5 BK105)) (zq47 HO_5) A8.out) ?_; rintro e w12 ⟨v107, rfl, ho0, hb⟩; refine ⟨_, rfl, ?_⟩; have HO108 := zA (Kd.R_lower (Kd.R_new' ho0 (Kd.R_lt (zq26 HO_5 BK105))) (zag (zq3 GE105))); replace HO_5 := zA (Kd.R_elder' (zq26 HO_5 BK105) (Kd.R_base ho0) hb); replace BK105 := zA (zah (g := gb105) (o := .cells #[.string ((zaa l0 x12_1).f0), .int .i64 ((zaa l0 x12_1).f1), .int .i64 ((zaa l0 x12_1).f2), .int .i64 ((zaa l0 x12_1).f3), .int .i64 ((zaa l0 x12_1).f4)] 69 (0, 0)) (by (with_reducible repeat (first | refine zkn ?_ _ | refine zkd ?_ | refine zka ?_ _)); refine za7 (cs := #[.string ((zaa l0 x12_1).f0), .int .i64 ((zaa l0 x12_1).f1), .int .i64 ((zaa l0 x12_1).f2), .int .i64 ((zaa l0 x12_1).f3), .int .i64 0]) ?_ 4 _ rfl; (with_reducible repeat (first | refine zkn ?_ _ | refine zkd ?_ | refine zka ?_ _)); refine za7 (cs := #[.string ((zaa l0 x12_1).f0), .int .i64 ((zaa l0 x12_1).f1), .int .i64 ((zaa l0 x12_1).f2), .int .i64 0, .int .i64 0]) ?_ 3 _ rfl; (with_reducible repeat (first | refine zkn ?_ _ | refine zkd ?_ | refine zka ?_ _)); refine za7 (cs := #[.string ((zaa l0 x12_1).f0), .int .i64 ((zaa l0 x12_1).f1), .int .i64 0, .int .i64 0, .int .i64 0]) ?_ 2 _ rfl; (with_reducible repeat (first | refine zkn ?_ _ | refine zkd ?_ | refine zka ?_ _)); refine za7 (cs := #[.string ((zaa l0 x12_1).f0), .int .i64 0, .int .i64 0, .int .i64 0, .int .i64 0]) ?_ 1 _ rfl; (with_reducible repeat (first | refine zkn ?_ _ | refine zkd ?_ | refine zka ?_ _)); refine za7 (cs := #[.string (⟨#[]⟩ : ByteArray), .int .i64 0, .int .i64 0, .int .i64 0, .int .i64 0]) ?_ 0 _ rfl; (with_reducible repeat (first | refine zkn ?_ _ | refine zkd ?_ | refine zka ?_ _)); exact BK105.out) hb); replace HB := zA (zab (zq3 GE105) hb); (try clear hb); (try clear hk); (try clear ho0)))
 go_roundg k1
 case measure => have := HK1.out; omega
 case rel => exact ⟨(t106), (wrap64 (x12_1 + 1)), zq5, H', ⟨zq41 HK1⟩, ⟨zq24 HO108⟩, ⟨zq3 GE105⟩⟩
def zjf (a0 : Int) (a1 : Int) : Option (List Int) := if 6 ≤ 35184372088832 then ((some (List.replicate 6 0 : List Int)).bind fun y101 => (if 0 < (y101.length : Int) then (if 1 < (y101.length : Int) then (some ((y101.set (0 : Int).toNat a0).set (1 : Int).toNat a1)) else (none)) else (none))) else (none)
theorem zpo (a0 : Int) (a1 : Int) (r : List Int) (w : World) (h : zjf a0 a1 = some r) :
   Calls Tryz.prog 85 #[.int .i64 a0, .int .i64 a1] w fun e w' => ∃ v0_ : Value, e = .returned (v0_) ∧ Kd.R (Kd.int .i64) 3 w' w.heap.size (fun _ => True) v0_ r ∧ Below w.heap.size w w' := by
 have HB := zA (Below.refl w.heap.size w)
 have H := h
 unfold zjf at H
 clear h
 by_cases c3 : 6 ≤ 35184372088832
 rotate_left
 · rw [if_neg c3] at H
   exact absurd H (by simp)
 rw [if_pos c3] at H
 have c3b0 := eq_true c3
 have c3b1 := zdt c3
 clear c3
 obtain ⟨y101, hy101⟩ : ∃ y_ : List Int, y_ = (List.replicate 6 0) := ⟨_, rfl⟩
 rw [← hy101] at H; try with_reducible replace H := zbs H
 have Ny101 := zA hy101
 clear hy101
 by_cases c4 : 0 < (y101.length : Int)
 rotate_left
 · rw [if_neg c4] at H
   exact absurd H (by simp)
 rw [if_pos c4] at H
 have c4b0 := zdt c4
 have c4b1 : decide (0 < y101.length) = true := zdt (by omega)
 clear c4
 obtain ⟨y104, hy104⟩ : ∃ y_ : List Int, y_ = (y101.set (0 : Int).toNat a0) := ⟨_, rfl⟩
 rw [← hy104] at H; try with_reducible replace H := zbs H
 have Ny104 := zA hy104
 clear hy104
 by_cases c6 : 1 < (y101.length : Int)
 rotate_left
 · rw [if_neg c6] at H
   exact absurd H (by simp)
 rw [if_pos c6] at H
 have c6b0 := zdt c6
 have c6b1 : decide (1 < y101.length) = true := zdt (by omega)
 clear c6
 obtain ⟨y105, hy105⟩ : ∃ y_ : List Int, y_ = (y104.set (1 : Int).toNat a1) := ⟨_, rfl⟩
 rw [← hy105] at H; try with_reducible replace H := zbs H
 have Ny105 := zA hy105
 clear hy105
 obtain rfl := zsi H
 go_enter Tryz.func85, Tryz.ntmps85
 go_wp2_with (first | ((with_reducible refine zgd 6 ?_); refine Kd.R_make (Kd.int .i64) _ 3 rfl (N := 6) rfl 24 _ _ rfl 6 rfl rfl Tryz.underlying24 (.int .i64 0) 8 zn1 rfl (by decide) (by omega) 0 (ok := fun _ => True) (okp := fun _ => True) rfl (fun _ hk => hk) trivial (by omega) (by omega) (Below.refl _ _) (zlr _) ?_; intro v102 w8 ho9 hb hg_ hnew_; clear hg_ hnew_; (first | rw [← Ny101.out] at ho9 | (simp only [Int.reduceToNat] at ho9; rw [← Ny101.out] at ho9)); have HO103 := zA (Kd.R_lower ho9 (zag zq1)); replace HB := zA (zab zq1 hb); clear hb ho9; have p5 : 0 ≤ (0 : Int) := (by omega); have q5 : (0 : Int) < ((y101.length : Int) : Int) := zde zq21; have qi5 : (0 < y101.length) = True := eq_true (by omega); obtain ⟨go5, co5, eo5, gb5, gl5, cl5, HG5⟩ := Kd.R_form HO103.out (by omega); (first | cases eo5 | (injection eo5 with ea_ en_ ec_; (first | subst ea_ | (injection ea_ with ea_; subst ea_)); subst ec_; clear en_)); have GB5 := zA gb5; have GG5 := zA HG5; clear gb5 gl5 HG5; obtain ⟨hx5_0, hf5_0⟩ := Kd.R_celln 0 HO103.out (0 : Int) p5 q5; (try rw [show ((0 : Int)).toNat = 0 from rfl] at hx5_0); (try simp only [Nat.reduceMul, Nat.zero_mul, Nat.zero_add, Nat.reduceAdd] at hx5_0); (try rw [show ((0 : Int)).toNat = 0 from rfl] at hf5_0); (try simp only [Nat.reduceMul, Nat.zero_mul, Nat.zero_add, Nat.reduceAdd] at hf5_0); replace p5 := eq_true p5; replace q5 := eq_true q5; obtain ⟨hy10_, hz10_⟩ := Kd.R_celln 0 HO103.out (0 : Int) (by omega) (zde zq21); (try simp only [Int.reduceToNat, Int.toNat_zero, Int.toNat_ofNat, Nat.reduceMul, Nat.zero_mul, Nat.zero_add] at hy10_ hz10_); (try rw [show ((0 : Int)).toNat = 0 from rfl] at hy10_); (try rw [show ((0 : Int)).toNat = 0 from rfl] at hz10_); have HP10 := Kd.R_putg HO103.out (0 : Int) a0) | ((with_reducible refine zgs 3 9 ?_); refine zse (w8.setCell ⟨go5, (0 : Int).toNat, none⟩ (.int .i64 a0)) ?_; intro w11 hw; have hg : w8.grownBy w11 (some go5) := (by rw [hw]; exact HP10.2); have hp_ : Kd.R (Kd.int .i64) 3 w11 w.heap.size (fun _ => True) (.slice (some ⟨go5, 0, none⟩) y101.length co5) y104 := (by rw [hw, Ny104.out]; exact HP10.1); clear HP10; replace HO103 := zA (hp_); replace HB := zA ((zq39 GB5 : Below w.heap.size w w11)); clear hg hw hp_; have p7 : 0 ≤ (1 : Int) := (by omega); have q7 : (1 : Int) < ((y101.length : Int) : Int) := zde zq21; have qi7 : (1 < y101.length) = True := eq_true (by omega); obtain ⟨hx7_0, hf7_0⟩ := Kd.R_celln 0 HO103.out (1 : Int) p7 q7; (try rw [show ((1 : Int)).toNat = 1 from rfl] at hx7_0); (try simp only [Nat.reduceMul, Nat.zero_mul, Nat.zero_add, Nat.reduceAdd] at hx7_0); (try rw [show ((1 : Int)).toNat = 1 from rfl] at hf7_0); (try simp only [Nat.reduceMul, Nat.zero_mul, Nat.zero_add, Nat.reduceAdd] at hf7_0); replace p7 := eq_true p7; replace q7 := eq_true q7; obtain ⟨hy12_, hz12_⟩ := Kd.R_celln 0 HO103.out (1 : Int) (by omega) (zde zq21); (try simp only [Int.reduceToNat, Int.toNat_zero, Int.toNat_ofNat, Nat.reduceMul, Nat.zero_mul, Nat.zero_add] at hy12_ hz12_); (try rw [show ((1 : Int)).toNat = 1 from rfl] at hy12_); (try rw [show ((1 : Int)).toNat = 1 from rfl] at hz12_); have HP12 := Kd.R_putg HO103.out (1 : Int) a1) | ((with_reducible refine zgs 3 12 ?_); refine zse (w11.setCell ⟨go5, (1 : Int).toNat, none⟩ (.int .i64 a1)) ?_; intro w13 hw; have hg : w11.grownBy w13 (some go5) := (by rw [hw]; exact HP12.2); have hp_ : Kd.R (Kd.int .i64) 3 w13 w.heap.size (fun _ => True) (.slice (some ⟨go5, 0, none⟩) y101.length co5) y105 := (by rw [hw, Ny105.out]; exact HP12.1); clear HP12; replace HO103 := zA (hp_); replace HB := zA ((zq39 GB5 : Below w.heap.size w w13)); clear hg hw hp_))
 go_ret
 exact ⟨_, zq4, zq2 HO103, zq1⟩
mutual
def zc3 : Nat → List (S69) → List (List Int) → Int → Option ((List (List Int)))
 | 0, _, _, _ => none
 | k + 1, x0, x3, x4 => if x4 ≤ 63 then (zdp k x0 x3 x4 0) else (some x3)
def zdp : Nat → List (S69) → List (List Int) → Int → Int → Option ((List (List Int)))
 | 0, _, _, _, _ => none
 | k + 1, x0, x3, x4, x5 => if x5 ≤ 63 then ((zjf x4 x5).bind fun t101 => ((zg6 k x0 t101).bind fun t104 => (if x3.length < 5864062014805 then (zdp k x0 (x3 ++ [t104]) x4 (wrap64 (x5 + 1))) else (none)))) else (zc3 k x0 x3 (wrap64 (x4 + 1)))
end
def zfo (k : Nat) (l0 : List (S69)) : Option ((List (List Int))) := zc3 k l0 ([] : List (List Int)) 0
theorem zlj : ∀ k, (∀ y0 y1 y2, LeO (zc3 k y0 y1 y2) (zc3 (k + 1) y0 y1 y2)) ∧ (∀ y0 y1 y2 y3, LeO (zdp k y0 y1 y2 y3) (zdp (k + 1) y0 y1 y2 y3))
 | 0 => ⟨fun _ _ _ r h => by simp [zc3] at h, fun _ _ _ _ r h => by simp [zdp] at h⟩
 | k + 1 => by
   obtain ⟨ih0, ih1⟩ := zlj k
   refine ⟨?_, ?_⟩
   · intro y0 y1 y2
     unfold zc3
     exact zm3 ih0 ih1 zkp
   · intro y0 y1 y2 y3
     unfold zdp
     exact zm3 ih0 ih1 zkp
theorem zmz : ∀ a0 k, LeO (zfo k a0) (zfo (k + 1) a0) := by
 intro a0 k
 obtain ⟨ih0, ih1⟩ := zlj k
 unfold zfo
 exact zm3 ih0 ih1 zkp
theorem zh0 (k : Nat) (A0 : Option Addr) (c0 : Nat) (l0 : List (S69)) (r : List (List Int)) (w : World) (hr0 : Kd.C k69 w A0 l0.length l0) (hc0 : l0.length ≤ c0) (h : zfo k l0 = some r) :
   Calls Tryz.prog 72 #[.slice A0 l0.length c0] w fun e w' => ∃ v0_ : Value, e = .returned (v0_) ∧ Kd.S (Kd.slice 3 (Kd.int .i64)) 24 w' w.heap.size (fun _ => True) v0_ r ∧ Below w.heap.size w w' := by
 have HR0 := zA hr0
 have HC0 := zA hc0
 clear hr0 hc0
 have HB := zA (Below.refl w.heap.size w)
 have H := h
 unfold zfo at H
 clear h
 have H' := zA H
 clear H
 go_enter Tryz.func72, Tryz.ntmps72
 go_wp2
 go_loopg [3, 4] k (fun kq v3 v4 w' => ∃ (x3_1 : List (List Int)) (x4_1 : Int), v4 = .int .i64 x4_1 ∧ Aside0 (zc3 kq l0 x3_1 x4_1 = some r) ∧ Aside0 (kq ≤ k) ∧ Aside0 (Kd.S (Kd.slice 3 (Kd.int .i64)) 24 w' w.heap.size (fun _ => True) v3 x3_1) ∧ Aside0 (Below w.heap.size w w'))
 case atStart => exact ⟨(([] : List (List Int))), (0), zq5, H', ⟨zlr _⟩, ⟨by first | exact Kd.S_nil _ _ _ _ _ | exact Kd.N_nil _ _ _ _ _ | exact Kd.V_nil _ _ _ _ _ | exact Kd.Q_nil _ _ _ _ _ | exact Kd.R_nil _ _ _ _ _⟩, ⟨zq1⟩⟩
 clear H'
 obtain ⟨x3_1, x4_1, rfl, HA, HK1, HO_3, HB⟩ := hrel
 cases gk with
 | zero => exact absurd HA.out (by simp [zc3])
 | succ k1 =>
 have H := HA.out
 clear HA
 simp only [zc3] at H
 revert H
 refine zit (fun c2 H => ?_) fun c2 H => ?_
 rotate_left
 · obtain rfl := zsi H
   go_wp2
   go_ret
   exact ⟨_, zq4, zq30 HO_3, zq1⟩
 have H' := zA H
 clear H
 go_wp2
 go_loopg [3, 5] k1 (fun kq v3 v5 w' => ∃ (x3_2 : List (List Int)) (x5_2 : Int), v5 = .int .i64 x5_2 ∧ Aside0 (zdp kq l0 x3_2 x4_1 x5_2 = some r) ∧ Aside0 (kq ≤ k1) ∧ Aside0 (Kd.S (Kd.slice 3 (Kd.int .i64)) 24 w' w.heap.size (fun _ => True) v3 x3_2) ∧ Aside0 (Below w.heap.size w w'))
 case atStart => exact ⟨(x3_1), (0), zq5, H', ⟨zlr _⟩, ⟨zq30 HO_3⟩, ⟨zq1⟩⟩
 clear H'
 obtain ⟨x3_2, x5_2, rfl, HA, HK2, HO_3, HB⟩ := hrel
 cases gk with
 | zero => exact absurd HA.out (by simp [zdp])
 | succ k2 =>
 have H := HA.out
 clear HA
 simp only [zdp] at H
 revert H
 refine zit (fun c3 H => ?_) fun c3 H => ?_
 rotate_left
 · have H' := zA H
   clear H
   go_wp2
   go_roundg k2
   case measure => have := HK1.out; have := HK2.out; omega
   case rel => exact ⟨(x3_2), (wrap64 (x4_1 + 1)), zq5, H', ⟨zq42 HK1 HK2⟩, ⟨zq30 HO_3⟩, ⟨zq1⟩⟩
 replace H := zob H
 obtain ⟨t101, A40, H⟩ := H
 have A4 := zA A40
 clear A40
 replace H := zob H
 obtain ⟨t104, A50, H⟩ := H
 have A5 := zA A50
 clear A50
 by_cases c6 : x3_2.length < 5864062014805
 rotate_left
 · rw [if_neg c6] at H
   exact absurd H (by simp)
 rw [if_pos c6] at H
 have LMc6 := zA c6
 clear c6
 obtain ⟨y107, hy107⟩ : ∃ y_ : List (List Int), y_ = (x3_2 ++ [t104]) := ⟨_, rfl⟩
 rw [← hy107] at H; try with_reducible replace H := zbs H
 have Ny107 := zA hy107
 clear hy107
 have H' := zA H
 clear H
 go_wp2_with (first | ((with_reducible refine zgc 85 ?_); refine zcl 18 Tryz.func85 (zpo x4_1 x5_2 t101 _ A4.out) ?_; rintro e w7 ⟨v102, rfl, ho0, hb⟩; refine ⟨_, rfl, ?_⟩; replace HO_3 := zA (Kd.S_elder' (zq30 HO_3) (Kd.R_base ho0) hb); have HO103 := zA (Kd.R_lower ho0 (zag zq1)); replace HB := zA (zab zq1 hb); (try clear hb); (try clear ho0); obtain ⟨Ao8, co8, eo8⟩ := Kd.R_slice HO103.out; subst eo8) | ((with_reducible refine zgc 84 ?_); refine zca 19 Tryz.func84 #[.slice A0 l0.length c0, .slice Ao8 t101.length co8] (zrn k2 _ _ l0 _ _ t101 t104 _ (zq7 HR0) HC0.out (zq19 HO103) (zq47 HO103) A5.out) ?_; rintro e w9 ⟨v105, rfl, ho0, hb⟩; refine ⟨_, rfl, ?_⟩; replace HO_3 := zA (Kd.S_elder' (zq30 HO_3) (Kd.R_base ho0) hb); have HO106 := zA (Kd.R_lower (Kd.R_new' ho0 (Kd.R_lt (zq2 HO103))) (zag zq1)); replace HO103 := zA (Kd.R_elder' (zq2 HO103) (Kd.R_base ho0) hb); replace HB := zA (zab zq1 hb); (try clear hb); (try clear ho0); obtain ⟨Ao11, co11, eo11⟩ := Kd.R_slice HO106.out; subst eo11) | ((with_reducible refine zfe (b := .append) (xs := #[.tmp 14, .tmp 20]) rfl ?_); at_builtin; refine Kd.S_append (Kd.slice 3 (Kd.int .i64)) (w0 := w) w.heap.size rfl (.tmp 14) (.tmp 20) 94 24 (.slice none 0 0) 24 rfl Tryz.underlying94 ycr rfl (by decide) (by omega) u3 x3_2 t104 [.slice Ao11 t104.length co11] (fun k_ => some k_ ≠ (.slice Ao8 t101.length co8 : Value).ownBlock) (fun k_ => some k_ = (.slice Ao11 t104.length co11 : Value).ownBlock) rfl rfl ?aP (fun k_ hk_ => ((Kd.R_mono (ok' := fun k_ => ((fun k_ => some k_ ≠ (.slice Ao8 t101.length co8 : Value).ownBlock)) k_ ∧ some k_ ≠ (u3 : Value).ownBlock) (Kd.R_apart' (HO106.out) (Kd.S_typed HO_3.out) (by decide)) (fun k_ hk => ⟨hk.1.2, hk.2⟩))).1 k_ hk_.symm) ?aF ?aO ?aB ?aS ?aL ?_; (case aP => exact Kd.M_row (Kd.R_mono (Kd.R_tight rfl (Kd.R_mono (ok' := fun k_ => ((fun k_ => some k_ ≠ (.slice Ao8 t101.length co8 : Value).ownBlock)) k_ ∧ some k_ ≠ (u3 : Value).ownBlock) (Kd.R_apart' (HO106.out) (Kd.S_typed HO_3.out) (by decide)) (fun k_ hk => ⟨hk.1.2, hk.2⟩))) (fun _ h_ => h_))); (case aB => exact zq1); (case aF => exact (fun k_ hk => Kd.fresh' (Kd.R_lt (zq2 HO103)) k_ hk)); (case aO => exact (by (with_reducible repeat (first | apply zSa | apply zSn | apply zSd)); exact Kd.S_mono HO_3.out (fun k_ hk => ⟨hk.1.2, fun e_ => hk.2 e_⟩))); (case aS => exact (zag zq1)); (case aL => have := LMc6.out; omega); intro v108 w10 ho hb hg hat; rw [← Ny107.out] at ho; replace HO103 := zA (Kd.R_over' (zq2 HO103) (Kd.S_typed (zq30 HO_3)) (by decide) hg); replace HB := zA (hb); have HO109 := zA (ho); clear HO_3 HO106; clear ho hb hg hat))
 go_roundg k2
 case measure => have := HK1.out; have := HK2.out; omega
 case rel => exact ⟨(y107), (wrap64 (x5_2 + 1)), zq5, H', ⟨zq42 HK1 HK2⟩, ⟨by (with_reducible repeat (first | apply zSa | apply zSn | apply zSd)); exact Kd.S_mono HO109.out (fun _ hk => trivial)⟩, ⟨zq1⟩⟩
def zb0 : Nat → List Int → Int → Int → List Int → Int → Int → Option (Bool)
 | 0, _, _, _, _, _, _ => none
 | k + 1, x0, x1, x2, x9, x10, x11 => if x11 < x10 then (if 0 ≤ x11 then (if x11 < (x9.length : Int) then ((zez (rd x9 x11) x1 x2).bind fun t102 => (if t102 = true then (if x11 > 0 then (if 0 ≤ (wrap64 (x11 - 1)) then (if (wrap64 (x11 - 1)) < (x0.length : Int) then (if (rd x0 (wrap64 (x11 - 1))) ≥ (rd x9 x11) then (some false) else (zb0 k x0 x1 x2 x9 x10 (wrap64 (x11 + 1)))) else (none)) else (none)) else (zb0 k x0 x1 x2 x9 x10 (wrap64 (x11 + 1)))) else (some false))) else (none)) else (none)) else (some true)
def zfc (k : Nat) (l0 : List Int) (a1 : Int) (a2 : Int) : Option (Bool) := zb0 k l0 a1 a2 l0 (l0.length : Int) 0
theorem zj7 : ∀ k, (∀ y0 y1 y2 y3 y4 y5, LeO (zb0 k y0 y1 y2 y3 y4 y5) (zb0 (k + 1) y0 y1 y2 y3 y4 y5))
 | 0 => fun _ _ _ _ _ _ r h => by simp [zb0] at h
 | k + 1 => by
   have ih0 := zj7 k
   · intro y0 y1 y2 y3 y4 y5
     unfold zb0
     exact zm1 ih0
theorem zpp : ∀ a0 a1 a2 k, LeO (zfc k a0 a1 a2) (zfc (k + 1) a0 a1 a2) := by
 intro a0 a1 a2 k
 have ih0 := zj7 k
 unfold zfc
 exact zm1 ih0
theorem zov (k : Nat) (A0 : Option Addr) (c0 : Nat) (l0 : List Int) (a1 : Int) (a2 : Int) (r : Bool) (w : World) (hr0 : Kd.C (Kd.int .i64) w A0 l0.length l0) (hc0 : l0.length ≤ c0) (h : zfc k l0 a1 a2 = some r) :
   Calls Tryz.prog 138 #[.slice A0 l0.length c0, .int .i64 a1, .int .i64 a2] w fun e w' => e = .returned (.bool r) ∧ Drawn0 w w' := by
 have HR0 := zA hr0
 have HC0 := zA hc0
 clear hr0 hc0
 have H := h
 unfold zfc at H
 clear h
 have H' := zA H
 clear H
 go_enter Tryz.func138, Tryz.ntmps138
 go_wp2
 go_loopg [11] k (fun kq v11 w' => ∃ (x11_1 : Int), v11 = .int .i64 x11_1 ∧ Aside0 (zb0 kq l0 a1 a2 l0 (l0.length : Int) x11_1 = some r) ∧ Aside0 (kq ≤ k) ∧ Drawn0 w w')
 case atStart => exact ⟨(0), zq5, H', ⟨zlr _⟩, zq6⟩
 clear H'
 obtain ⟨x11_1, rfl, HA, HK1, ⟨m1, rfl⟩⟩ := hrel
 cases gk with
 | zero => exact absurd HA.out (by simp [zb0])
 | succ k1 =>
 have H := HA.out
 clear HA
 simp only [zb0] at H
 revert H
 refine zit (fun c4 H => ?_) fun c4 H => ?_
 rotate_left
 · obtain rfl := zsi H
   exact zr_6
 revert H
 refine zin fun c5 H => ?_
 revert H
 refine zin fun c6 H => ?_
 replace H := zob H
 obtain ⟨t102, A70, H⟩ := H
 have A7 := zA A70
 clear A70
 by_cases c8 : t102 = true
 rotate_left
 · replace c8 := zbf c8
   subst c8
   replace H := zif H
   obtain rfl := zsi H
   obtain ⟨p101, q101⟩ := zpq x11_1 l0.length
   obtain ⟨ad101, e101, hx101_0⟩ := Kd.at_int HR0.out x11_1 (zoe p101) (zoe q101)
   cases e101
   go_wp2_with (first | ((with_reducible refine zgc 79 ?_); refine zcl 19 Tryz.func79 (za3 (rd l0 x11_1) a1 a2 false _ A7.out) ?_; rintro e w' ⟨rfl, ⟨nd, rfl⟩⟩; refine ⟨_, rfl, ?_⟩))
   exact zr_1
 subst c8
 replace H := zih H
 by_cases c9 : x11_1 > 0
 rotate_left
 · rw [if_neg c9] at H
   have c9b0 := zdf c9
   clear c9
   have H' := zA H
   clear H
   obtain ⟨p101, q101⟩ := zpq x11_1 l0.length
   obtain ⟨ad101, e101, hx101_0⟩ := Kd.at_int HR0.out x11_1 (zoe p101) (zoe q101)
   cases e101
   go_wp2_with (first | ((with_reducible refine zgc 79 ?_); refine zcl 19 Tryz.func79 (za3 (rd l0 x11_1) a1 a2 true _ A7.out) ?_; rintro e w' ⟨rfl, ⟨nd, rfl⟩⟩; refine ⟨_, rfl, ?_⟩))
   go_roundg k1
   case measure => have := HK1.out; omega
   case rel => exact ⟨(wrap64 (x11_1 + 1)), zq5, H', ⟨zq41 HK1⟩, zq6⟩
 rw [if_pos c9] at H
 have c9b0 := zdt c9
 clear c9
 obtain ⟨ji10, hji10⟩ : ∃ j_ : Int, (wrap64 (x11_1 - 1)) = j_ := ⟨_, rfl⟩
 replace H : (if 0 ≤ (ji10) then (if (ji10) < (l0.length : Int) then (if (rd l0 (ji10)) ≥ (rd l0 x11_1) then (some false) else (zb0 k1 l0 a1 a2 l0 (l0.length : Int) (wrap64 (x11_1 + 1)))) else (none)) else (none)) = some r := by first | (rw [hji10] at H; exact H) | (simp only [hji10] at H ⊢; exact H)
 (try rw [hji10] at A7)
 have hji10w : (IntKind.i64.wrap (x11_1 - 1)) = ji10 := (zgy _).trans hji10
 revert H
 refine zin fun c11 H => ?_
 revert H
 refine zin fun c12 H => ?_
 revert H
 refine zit (fun c13b0 H => ?_) fun c13b0 H => ?_
 · obtain rfl := zsi H
   obtain ⟨p101, q101⟩ := zpq x11_1 l0.length
   obtain ⟨ad101, e101, hx101_0⟩ := Kd.at_int HR0.out x11_1 (zoe p101) (zoe q101)
   cases e101
   go_wp2_with (first | ((with_reducible refine zgc 79 ?_); refine zcl 19 Tryz.func79 (za3 (rd l0 x11_1) a1 a2 true _ A7.out) ?_; rintro e w' ⟨rfl, ⟨nd, rfl⟩⟩; refine ⟨_, rfl, ?_⟩; have p103 : 0 ≤ ((ji10) : Int) := zde zq21; have q103 : (ji10) < (l0.length : Int) := zde zq21; obtain ⟨ad103, e103, hx103_0⟩ := Kd.at_int HR0.out (ji10) p103 q103; obtain rfl : ad101 = ad103 := zq63; replace p103 := eq_true p103; replace q103 := eq_true q103))
   go_ret
   exact ⟨by first | rfl | (simp; done) | (simp only [← hji10] <;> (first | rfl | simp)) | (simp [*]; done), zq6⟩
 have H' := zA H
 clear H
 obtain ⟨p101, q101⟩ := zpq x11_1 l0.length
 obtain ⟨ad101, e101, hx101_0⟩ := Kd.at_int HR0.out x11_1 (zoe p101) (zoe q101)
 cases e101
 go_wp2_with (first | ((with_reducible refine zgc 79 ?_); refine zcl 19 Tryz.func79 (za3 (rd l0 x11_1) a1 a2 true _ A7.out) ?_; rintro e w' ⟨rfl, ⟨nd, rfl⟩⟩; refine ⟨_, rfl, ?_⟩; have p103 : 0 ≤ ((ji10) : Int) := zde zq21; have q103 : (ji10) < (l0.length : Int) := zde zq21; obtain ⟨ad103, e103, hx103_0⟩ := Kd.at_int HR0.out (ji10) p103 q103; obtain rfl : ad101 = ad103 := zq63; replace p103 := eq_true p103; replace q103 := eq_true q103))
 go_roundg k1
 case measure => have := HK1.out; omega
 case rel => exact ⟨(wrap64 (x11_1 + 1)), zq5, H', ⟨zq41 HK1⟩, zq6⟩
def zfd (k : Nat) (l0 : List Int) : Option (Bool) := (zfc k l0 0 5).bind fun t101 => (some t101)
theorem zpr : ∀ a0 k, LeO (zfd k a0) (zfd (k + 1) a0) := by
 intro a0 k
 unfold zfd
 exact zm1 zpp
theorem zow (k : Nat) (A0 : Option Addr) (c0 : Nat) (l0 : List Int) (r : Bool) (w : World) (hr0 : Kd.C (Kd.int .i64) w A0 l0.length l0) (hc0 : l0.length ≤ c0) (h : zfd k l0 = some r) :
   Calls Tryz.prog 103 #[.slice A0 l0.length c0] w fun e w' => e = .returned (.bool r) ∧ Drawn0 w w' := by
 have HR0 := zA hr0
 have HC0 := zA hc0
 clear hr0 hc0
 have H := h
 unfold zfd at H
 clear h
 replace H := zob H
 obtain ⟨t101, A20, H⟩ := H
 have A2 := zA A20
 clear A20
 obtain rfl := zsi H
 go_enter Tryz.func103, Tryz.ntmps103
 go_wp2_with (first | ((with_reducible refine zgc 138 ?_); refine zca 4 Tryz.func138 #[.slice A0 l0.length c0, .int .i64 0, .int .i64 5] (zov k _ _ l0 0 5 t101 _ (zq10 HR0) HC0.out A2.out) ?_; rintro e w' ⟨rfl, ⟨nd, rfl⟩⟩; refine ⟨_, rfl, ?_⟩))
 exact zr_1
def zhu (a0 : Int) : Option (Bool) := (zez a0 0 5).bind fun t101 => (some t101)
theorem zay (a0 : Int) (r : Bool) (w : World) (h : zhu a0 = some r) :
   Calls Tryz.prog 187 #[.int .i64 a0] w fun e w' => e = .returned (.bool r) ∧ Drawn0 w w' := by
 have H := h
 unfold zhu at H
 clear h
 replace H := zob H
 obtain ⟨t101, A20, H⟩ := H
 have A2 := zA A20
 clear A20
 obtain rfl := zsi H
 go_enter Tryz.func187, Tryz.ntmps187
 go_wp2_with (first | ((with_reducible refine zgc 79 ?_); refine zcl 4 Tryz.func79 (za3 a0 0 5 t101 _ A2.out) ?_; rintro e w' ⟨rfl, ⟨nd, rfl⟩⟩; refine ⟨_, rfl, ?_⟩))
 exact zr_1
mutual
def zdg : Nat → ByteArray → Bool → Option (Bool × Bool × Bool × Int × Int)
 | 0, _, _ => none
 | k + 1, x7, x10 => if x10 = true then (some (true, true, false, 0, 0)) else (if x7.toList = ([97, 100, 100] : List UInt8) then (zbl k x7 (x7.toList == ([97, 100, 100] : List UInt8))) else (if x7.toList = ([115, 117, 98] : List UInt8) then (zbl k x7 (x7.toList == ([115, 117, 98] : List UInt8))) else (if x7.toList = ([97, 110, 100] : List UInt8) then (zbl k x7 (x7.toList == ([97, 110, 100] : List UInt8))) else (if x7.toList = ([111, 114] : List UInt8) then (zbl k x7 (x7.toList == ([111, 114] : List UInt8))) else (if x7.toList = ([120, 111, 114] : List UInt8) then (zbl k x7 (x7.toList == ([120, 111, 114] : List UInt8))) else (if x7.toList = ([115, 104, 108] : List UInt8) then (zbl k x7 (x7.toList == ([115, 104, 108] : List UInt8))) else (if x7.toList = ([115, 104, 114] : List UInt8) then (zbl k x7 (x7.toList == ([115, 104, 114] : List UInt8))) else (if x7.toList = ([108, 101, 115, 115] : List UInt8) then (zbl k x7 (x7.toList == ([108, 101, 115, 115] : List UInt8))) else (if x7.toList = ([101, 113] : List UInt8) then (zbl k x7 (x7.toList == ([101, 113] : List UInt8))) else (zbl k x7 (x7.toList == ([109, 117, 108] : List UInt8))))))))))))
def zbl : Nat → ByteArray → Bool → Option (Bool × Bool × Bool × Int × Int)
 | 0, _, _ => none
 | k + 1, x7, x14 => if x14 = true then (some (true, true, true, 0, 0)) else (if x7.toList = ([97, 100, 100, 105] : List UInt8) then (zdh k x7 (x7.toList == ([97, 100, 100, 105] : List UInt8))) else (if x7.toList = ([97, 110, 100, 105] : List UInt8) then (zdh k x7 (x7.toList == ([97, 110, 100, 105] : List UInt8))) else (zdh k x7 (x7.toList == ([120, 111, 114, 105] : List UInt8)))))
def zdh : Nat → ByteArray → Bool → Option (Bool × Bool × Bool × Int × Int)
 | 0, _, _ => none
 | k + 1, x7, x25 => if x25 = true then (some (true, true, false, 0, 63)) else (if x7.toList = ([115, 104, 108, 105] : List UInt8) then (zdz k x7 (x7.toList == ([115, 104, 108, 105] : List UInt8))) else (zdz k x7 (x7.toList == ([115, 104, 114, 105] : List UInt8))))
def zdz : Nat → ByteArray → Bool → Option (Bool × Bool × Bool × Int × Int)
 | 0, _, _ => none
 | k + 1, x7, x29 => if x29 = true then (some (true, true, false, 1, 5)) else (if x7.toList = ([108, 101, 97] : List UInt8) then (some (true, true, true, 1, 3)) else (some (false, false, false, 0, 0)))
end
def zeh (k : Nat) (a0 : ByteArray) : Option (Bool × Bool × Bool × Int × Int) := if a0.toList = ([115, 101, 116] : List UInt8) then (some (true, false, false, 0, 63)) else (if a0.toList = ([109, 111, 118] : List UInt8) then (zdg k a0 (a0.toList == ([109, 111, 118] : List UInt8))) else (if a0.toList = ([110, 111, 116] : List UInt8) then (zdg k a0 (a0.toList == ([110, 111, 116] : List UInt8))) else (zdg k a0 (a0.toList == ([110, 101, 103] : List UInt8)))))
theorem zkq : ∀ k, (∀ y0 y1, LeO (zdg k y0 y1) (zdg (k + 1) y0 y1)) ∧ (∀ y0 y1, LeO (zbl k y0 y1) (zbl (k + 1) y0 y1)) ∧ (∀ y0 y1, LeO (zdh k y0 y1) (zdh (k + 1) y0 y1)) ∧ (∀ y0 y1, LeO (zdz k y0 y1) (zdz (k + 1) y0 y1))
 | 0 => ⟨fun _ _ r h => by simp [zdg] at h, fun _ _ r h => by simp [zbl] at h, fun _ _ r h => by simp [zdh] at h, fun _ _ r h => by simp [zdz] at h⟩
 | k + 1 => by
   obtain ⟨ih0, ih1, ih2, ih3⟩ := zkq k
   refine ⟨?_, ?_, ?_, ?_⟩
   · intro y0 y1
     unfold zdg
     exact zm4 ih0 ih1 ih2 ih3
   · intro y0 y1
     unfold zbl
     exact zm4 ih0 ih1 ih2 ih3
   · intro y0 y1
     unfold zdh
     exact zm4 ih0 ih1 ih2 ih3
   · intro y0 y1
     unfold zdz
     exact zm4 ih0 ih1 ih2 ih3
theorem zi8 : ∀ a0 k, LeO (zeh k a0) (zeh (k + 1) a0) := by
 intro a0 k
 obtain ⟨ih0, ih1, ih2, ih3⟩ := zkq k
 unfold zeh
 exact zm4 ih0 ih1 ih2 ih3
theorem zcv (k : Nat) (a0 : ByteArray) (r1 : Bool) (r2 : Bool) (r3 : Bool) (r4 : Int) (r5 : Int) (w : World) (h : zeh k a0 = some (r1, r2, r3, r4, r5)) :
   Calls Tryz.prog 115 #[.string a0] w fun e w' => e = .returned (.tuple #[.bool r1, .bool r2, .bool r3, .int .i64 r4, .int .i64 r5]) ∧ Drawn0 w w' := by
 have H := h
 unfold zeh at H
 clear h
 by_cases c2 : a0.toList = ([115, 101, 116] : List UInt8)
 · rw [if_pos c2] at H
   obtain ⟨c2b0, c2b1⟩ := zbe c2
   clear c2
   simp only [Option.some.injEq, Prod.mk.injEq] at H
   obtain ⟨rfl, rfl, rfl, rfl, rfl⟩ := H
   go_enter Tryz.func115, Tryz.ntmps115
   go_wp2
   refine bodyPost_ret (zhw (rs := [.tmp 2, .tmp 3, .tmp 4, .tmp 5, .tmp 6]) rfl (by simp) (.tmp (.tmp (.tmp (.tmp (.tmp .nil)))))) rfl ?_
   exact ⟨zq5, zq6⟩
 rw [if_neg c2] at H
 obtain ⟨c2b0, c2b1⟩ := zbq c2
 have HC3 := zA H
 clear H
 go_enter Tryz.func115, Tryz.ntmps115
 go_upto_if 10 with (fail)
 go_cut [10] (fun v10 wc => ∃ (kq : Nat) (x10_2 : Bool), v10 = .bool x10_2 ∧ Aside0 (zdg kq a0 x10_2 = some (r1, r2, r3, r4, r5)) ∧ Aside0 (kq ≤ k) ∧ Drawn0 w wc)
 case first =>
   have H := HC3.out
   clear HC3
   by_cases c4 : a0.toList = ([109, 111, 118] : List UInt8)
   · rw [if_pos c4] at H
     obtain ⟨c4b0, c4b1⟩ := zbe c4
     clear c4
     (first | rw [c4b0] | (simp only [zgy, zjw]; rw [c4b0]) | skip)
     have H' := zA H
     clear H
     go_wp2
     go_meet
     case rel => exact ⟨_, ((a0.toList == ([109, 111, 118] : List UInt8))), zq5, H', ⟨zq50⟩, zq6⟩
   rw [if_neg c4] at H
   obtain ⟨c4b0, c4b1⟩ := zbq c4
   (first | rw [c4b0] | (simp only [zgy, zjw]; rw [c4b0]) | skip)
   by_cases c5 : a0.toList = ([110, 111, 116] : List UInt8)
   rotate_left
   · rw [if_neg c5] at H
     obtain ⟨c5b0, c5b1⟩ := zbq c5
     have H' := zA H
     clear H
     go_wp2
     go_meet
     case rel => exact ⟨_, ((a0.toList == ([110, 101, 103] : List UInt8))), zq5, H', ⟨zq50⟩, zq6⟩
   rw [if_pos c5] at H
   obtain ⟨c5b0, c5b1⟩ := zbe c5
   clear c5
   have H' := zA H
   clear H
   go_wp2
   go_meet
   case rel => exact ⟨_, ((a0.toList == ([110, 111, 116] : List UInt8))), zq5, H', ⟨zq50⟩, zq6⟩
 clear HC3
 obtain ⟨kq, x10_2, rfl, HA, HJ2, ⟨mc2, rfl⟩⟩ := hcut
 cases kq with
 | zero => exact absurd HA.out (by simp [zdg])
 | succ kj2 =>
 have H := HA.out
 clear HA
 simp only [zdg] at H
 by_cases c6 : x10_2 = true
 · subst c6
   replace H := zih H
   simp only [Option.some.injEq, Prod.mk.injEq] at H
   obtain ⟨rfl, rfl, rfl, rfl, rfl⟩ := H
   go_wp2
   refine bodyPost_ret (zhw (rs := [.tmp 2, .tmp 3, .tmp 4, .tmp 5, .tmp 6]) rfl (by simp) (.tmp (.tmp (.tmp (.tmp (.tmp .nil)))))) rfl ?_
   exact ⟨zq5, zq6⟩
 replace c6 := zbf c6
 subst c6
 replace H := zif H
 have HC7 := zA H
 clear H
 go_upto_if 14 with (fail)
 go_cut [14] (fun v14 wc => ∃ (kq : Nat) (x14_6 : Bool), v14 = .bool x14_6 ∧ Aside0 (zbl kq a0 x14_6 = some (r1, r2, r3, r4, r5)) ∧ Aside0 (kq ≤ kj2) ∧ Drawn0 w wc)
 case first =>
   have H := HC7.out
   clear HC7
   by_cases c8 : a0.toList = ([97, 100, 100] : List UInt8)
   · rw [if_pos c8] at H
     obtain ⟨c8b0, c8b1⟩ := zbe c8
     clear c8
     (first | rw [c8b0] | (simp only [zgy, zjw]; rw [c8b0]) | skip)
     have H' := zA H
     clear H
     go_wp2
     go_meet
     case rel => exact ⟨_, ((a0.toList == ([97, 100, 100] : List UInt8))), zq5, H', ⟨zq40 HJ2⟩, zq6⟩
   rw [if_neg c8] at H
   obtain ⟨c8b0, c8b1⟩ := zbq c8
   (first | rw [c8b0] | (simp only [zgy, zjw]; rw [c8b0]) | skip)
   by_cases c9 : a0.toList = ([115, 117, 98] : List UInt8)
   · rw [if_pos c9] at H
     obtain ⟨c9b0, c9b1⟩ := zbe c9
     clear c9
     have H' := zA H
     clear H
     go_wp2
     go_meet
     case rel => exact ⟨_, ((a0.toList == ([115, 117, 98] : List UInt8))), zq5, H', ⟨zq40 HJ2⟩, zq6⟩
   rw [if_neg c9] at H
   obtain ⟨c9b0, c9b1⟩ := zbq c9
   by_cases c10 : a0.toList = ([97, 110, 100] : List UInt8)
   · rw [if_pos c10] at H
     obtain ⟨c10b0, c10b1⟩ := zbe c10
     clear c10
     have H' := zA H
     clear H
     go_wp2
     go_meet
     case rel => exact ⟨_, ((a0.toList == ([97, 110, 100] : List UInt8))), zq5, H', ⟨zq40 HJ2⟩, zq6⟩
   rw [if_neg c10] at H
   obtain ⟨c10b0, c10b1⟩ := zbq c10
   by_cases c11 : a0.toList = ([111, 114] : List UInt8)
   · rw [if_pos c11] at H
     obtain ⟨c11b0, c11b1⟩ := zbe c11
     clear c11
     have H' := zA H
     clear H
     go_wp2
     go_meet
     case rel => exact ⟨_, ((a0.toList == ([111, 114] : List UInt8))), zq5, H', ⟨zq40 HJ2⟩, zq6⟩
   rw [if_neg c11] at H
   obtain ⟨c11b0, c11b1⟩ := zbq c11
   by_cases c12 : a0.toList = ([120, 111, 114] : List UInt8)
   · rw [if_pos c12] at H
     obtain ⟨c12b0, c12b1⟩ := zbe c12
     clear c12
     have H' := zA H
     clear H
     go_wp2
     go_meet
     case rel => exact ⟨_, ((a0.toList == ([120, 111, 114] : List UInt8))), zq5, H', ⟨zq40 HJ2⟩, zq6⟩
   rw [if_neg c12] at H
   obtain ⟨c12b0, c12b1⟩ := zbq c12
   by_cases c13 : a0.toList = ([115, 104, 108] : List UInt8)
   · rw [if_pos c13] at H
     obtain ⟨c13b0, c13b1⟩ := zbe c13
     clear c13
     have H' := zA H
     clear H
     go_wp2
     go_meet
     case rel => exact ⟨_, ((a0.toList == ([115, 104, 108] : List UInt8))), zq5, H', ⟨zq40 HJ2⟩, zq6⟩
   rw [if_neg c13] at H
   obtain ⟨c13b0, c13b1⟩ := zbq c13
   by_cases c14 : a0.toList = ([115, 104, 114] : List UInt8)
   · rw [if_pos c14] at H
     obtain ⟨c14b0, c14b1⟩ := zbe c14
     clear c14
     have H' := zA H
     clear H
     go_wp2
     go_meet
     case rel => exact ⟨_, ((a0.toList == ([115, 104, 114] : List UInt8))), zq5, H', ⟨zq40 HJ2⟩, zq6⟩
   rw [if_neg c14] at H
   obtain ⟨c14b0, c14b1⟩ := zbq c14
   by_cases c15 : a0.toList = ([108, 101, 115, 115] : List UInt8)
   · rw [if_pos c15] at H
     obtain ⟨c15b0, c15b1⟩ := zbe c15
     clear c15
     have H' := zA H
     clear H
     go_wp2
     go_meet
     case rel => exact ⟨_, ((a0.toList == ([108, 101, 115, 115] : List UInt8))), zq5, H', ⟨zq40 HJ2⟩, zq6⟩
   rw [if_neg c15] at H
   obtain ⟨c15b0, c15b1⟩ := zbq c15
   by_cases c16 : a0.toList = ([101, 113] : List UInt8)
   rotate_left
   · rw [if_neg c16] at H
     obtain ⟨c16b0, c16b1⟩ := zbq c16
     have H' := zA H
     clear H
     go_wp2
     go_meet
     case rel => exact ⟨_, ((a0.toList == ([109, 117, 108] : List UInt8))), zq5, H', ⟨zq40 HJ2⟩, zq6⟩
   rw [if_pos c16] at H
   obtain ⟨c16b0, c16b1⟩ := zbe c16
   clear c16
   have H' := zA H
   clear H
   go_wp2
   go_meet
   case rel => exact ⟨_, ((a0.toList == ([101, 113] : List UInt8))), zq5, H', ⟨zq40 HJ2⟩, zq6⟩
 clear HC7
 obtain ⟨kq, x14_6, rfl, HA, HJ6, ⟨mc6, rfl⟩⟩ := hcut
 cases kq with
 | zero => exact absurd HA.out (by simp [zbl])
 | succ kj6 =>
 have H := HA.out
 clear HA
 simp only [zbl] at H
 by_cases c17 : x14_6 = true
 · subst c17
   replace H := zih H
   simp only [Option.some.injEq, Prod.mk.injEq] at H
   obtain ⟨rfl, rfl, rfl, rfl, rfl⟩ := H
   go_wp2
   refine bodyPost_ret (zhw (rs := [.tmp 2, .tmp 3, .tmp 4, .tmp 5, .tmp 6]) rfl (by simp) (.tmp (.tmp (.tmp (.tmp (.tmp .nil)))))) rfl ?_
   exact ⟨zq5, zq6⟩
 replace c17 := zbf c17
 subst c17
 replace H := zif H
 have HC18 := zA H
 clear H
 go_upto_if 25 with (fail)
 go_cut [25] (fun v25 wc => ∃ (kq : Nat) (x25_17 : Bool), v25 = .bool x25_17 ∧ Aside0 (zdh kq a0 x25_17 = some (r1, r2, r3, r4, r5)) ∧ Aside0 (kq ≤ kj6) ∧ Drawn0 w wc)
 case first =>
   have H := HC18.out
   clear HC18
   by_cases c19 : a0.toList = ([97, 100, 100, 105] : List UInt8)
   · rw [if_pos c19] at H
     obtain ⟨c19b0, c19b1⟩ := zbe c19
     clear c19
     (first | rw [c19b0] | (simp only [zgy, zjw]; rw [c19b0]) | skip)
     have H' := zA H
     clear H
     go_wp2
     go_meet
     case rel => exact ⟨_, ((a0.toList == ([97, 100, 100, 105] : List UInt8))), zq5, H', ⟨zq65 HJ2 HJ6⟩, zq6⟩
   rw [if_neg c19] at H
   obtain ⟨c19b0, c19b1⟩ := zbq c19
   (first | rw [c19b0] | (simp only [zgy, zjw]; rw [c19b0]) | skip)
   by_cases c20 : a0.toList = ([97, 110, 100, 105] : List UInt8)
   rotate_left
   · rw [if_neg c20] at H
     obtain ⟨c20b0, c20b1⟩ := zbq c20
     have H' := zA H
     clear H
     go_wp2
     go_meet
     case rel => exact ⟨_, ((a0.toList == ([120, 111, 114, 105] : List UInt8))), zq5, H', ⟨zq65 HJ2 HJ6⟩, zq6⟩
   rw [if_pos c20] at H
   obtain ⟨c20b0, c20b1⟩ := zbe c20
   clear c20
   have H' := zA H
   clear H
   go_wp2
   go_meet
   case rel => exact ⟨_, ((a0.toList == ([97, 110, 100, 105] : List UInt8))), zq5, H', ⟨zq65 HJ2 HJ6⟩, zq6⟩
 clear HC18
 obtain ⟨kq, x25_17, rfl, HA, HJ17, ⟨mc17, rfl⟩⟩ := hcut
 cases kq with
 | zero => exact absurd HA.out (by simp [zdh])
 | succ kj17 =>
 have H := HA.out
 clear HA
 simp only [zdh] at H
 by_cases c21 : x25_17 = true
 · subst c21
   replace H := zih H
   simp only [Option.some.injEq, Prod.mk.injEq] at H
   obtain ⟨rfl, rfl, rfl, rfl, rfl⟩ := H
   go_wp2
   refine bodyPost_ret (zhw (rs := [.tmp 2, .tmp 3, .tmp 4, .tmp 5, .tmp 6]) rfl (by simp) (.tmp (.tmp (.tmp (.tmp (.tmp .nil)))))) rfl ?_
   exact ⟨zq5, zq6⟩
 replace c21 := zbf c21
 subst c21
 replace H := zif H
 have HC22 := zA H
 clear H
 go_upto_if 29 with (fail)
 go_cut [29] (fun v29 wc => ∃ (kq : Nat) (x29_21 : Bool), v29 = .bool x29_21 ∧ Aside0 (zdz kq a0 x29_21 = some (r1, r2, r3, r4, r5)) ∧ Aside0 (kq ≤ kj17) ∧ Drawn0 w wc)
 case first =>
   have H := HC22.out
   clear HC22
   by_cases c23 : a0.toList = ([115, 104, 108, 105] : List UInt8)
   rotate_left
   · rw [if_neg c23] at H
     obtain ⟨c23b0, c23b1⟩ := zbq c23
     (first | rw [c23b0] | (simp only [zgy, zjw]; rw [c23b0]) | skip)
     have H' := zA H
     clear H
     go_wp2
     go_meet
     case rel => exact ⟨_, ((a0.toList == ([115, 104, 114, 105] : List UInt8))), zq5, H', ⟨by have := HJ2.out; have := HJ6.out; have := HJ17.out; first | omega | exact zlr _⟩, zq6⟩
   rw [if_pos c23] at H
   obtain ⟨c23b0, c23b1⟩ := zbe c23
   clear c23
   (first | rw [c23b0] | (simp only [zgy, zjw]; rw [c23b0]) | skip)
   have H' := zA H
   clear H
   go_wp2
   go_meet
   case rel => exact ⟨_, ((a0.toList == ([115, 104, 108, 105] : List UInt8))), zq5, H', ⟨by have := HJ2.out; have := HJ6.out; have := HJ17.out; first | omega | exact zlr _⟩, zq6⟩
 clear HC22
 obtain ⟨kq, x29_21, rfl, HA, HJ21, ⟨mc21, rfl⟩⟩ := hcut
 cases kq with
 | zero => exact absurd HA.out (by simp [zdz])
 | succ kj21 =>
 have H := HA.out
 clear HA
 simp only [zdz] at H
 by_cases c24 : x29_21 = true
 · subst c24
   replace H := zih H
   simp only [Option.some.injEq, Prod.mk.injEq] at H
   obtain ⟨rfl, rfl, rfl, rfl, rfl⟩ := H
   go_wp2
   refine bodyPost_ret (zhw (rs := [.tmp 2, .tmp 3, .tmp 4, .tmp 5, .tmp 6]) rfl (by simp) (.tmp (.tmp (.tmp (.tmp (.tmp .nil)))))) rfl ?_
   exact ⟨zq5, zq6⟩
 replace c24 := zbf c24
 subst c24
 replace H := zif H
 by_cases c25 : a0.toList = ([108, 101, 97] : List UInt8)
 rotate_left
 · rw [if_neg c25] at H
   obtain ⟨c25b0, c25b1⟩ := zbq c25
   simp only [Option.some.injEq, Prod.mk.injEq] at H
   obtain ⟨rfl, rfl, rfl, rfl, rfl⟩ := H
   go_wp2
   refine bodyPost_ret (zhw (rs := [.tmp 2, .tmp 3, .tmp 4, .tmp 5, .tmp 6]) rfl (by simp) (.tmp (.tmp (.tmp (.tmp (.tmp .nil)))))) rfl ?_
   exact ⟨zq5, zq6⟩
 rw [if_pos c25] at H
 obtain ⟨c25b0, c25b1⟩ := zbe c25
 clear c25
 simp only [Option.some.injEq, Prod.mk.injEq] at H
 obtain ⟨rfl, rfl, rfl, rfl, rfl⟩ := H
 go_wp2
 refine bodyPost_ret (zhw (rs := [.tmp 2, .tmp 3, .tmp 4, .tmp 5, .tmp 6]) rfl (by simp) (.tmp (.tmp (.tmp (.tmp (.tmp .nil)))))) rfl ?_
 exact ⟨zq5, zq6⟩
def zgt (k : Nat) (a0_0 : ByteArray) (a0_1 : Int) (a0_2 : Int) (a0_3 : Int) (a0_4 : Int) : Option (Bool) := (zeh k a0_0).bind fun bt102 => (if bt102.1 = true then ((zhu a0_1).bind fun t107 => (if t107 = true then ((zhu a0_2).bind fun t108 => (if t108 = true then ((zhu a0_3).bind fun t109 => (if t109 = true then ((zez a0_4 bt102.2.2.2.1 bt102.2.2.2.2).bind fun t110 => (if t110 = true then (if bt102.2.1 = true then (if bt102.2.2.1 = true then (some true) else (some (a0_3 == 0))) else (if a0_2 = 0 then (if bt102.2.2.1 = true then (some true) else (some (a0_3 == 0))) else (some false))) else (some false))) else (some false))) else (some false))) else (some false))) else (some false))
theorem zm0 : ∀ a0 a1 a2 a3 a4 k, LeO (zgt k a0 a1 a2 a3 a4) (zgt (k + 1) a0 a1 a2 a3 a4) := by
 intro a0 a1 a2 a3 a4 k
 unfold zgt
 exact zm1 zi8
theorem zmc (k : Nat) (a0_0 : ByteArray) (a0_1 : Int) (a0_2 : Int) (a0_3 : Int) (a0_4 : Int) (r : Bool) (w : World) (h : zgt k a0_0 a0_1 a0_2 a0_3 a0_4 = some r) :
   Calls Tryz.prog 168 #[.agg #[.string a0_0, .int .i64 a0_1, .int .i64 a0_2, .int .i64 a0_3, .int .i64 a0_4]] w fun e w' => e = .returned (.bool r) ∧ Below w.heap.size w w' := by
 have hu69 := Tryz.underlying69
 have HB := zA (Below.refl w.heap.size w)
 have H := h
 unfold zgt at H
 clear h
 replace H := zob H
 obtain ⟨⟨t102, t103, t104, t105, t106⟩, A20, H⟩ := H
 have A2 := zA A20
 clear A20
 by_cases c3 : t102 = true
 rotate_left
 · replace c3 := zbf c3
   subst c3
   replace H := zif H
   obtain rfl := zsi H
   go_enter Tryz.func168, Tryz.ntmps168
   go_wp2_with (first | ((with_reducible refine zgd 1 ?_); refine zbh zq1 #[.string a0_0, .int .i64 a0_1, .int .i64 a0_2, .int .i64 a0_3, .int .i64 a0_4] 69 ?_; clear HB; intro gb101 w34 HB BK101 GW101; have GE101 := GW101; obtain ⟨hcz35_0, hcz35_1, hcz35_2, hcz35_3, hcz35_4, hfz35_0, hfz35_1, hfz35_2, hfz35_3, hfz35_4⟩ := zd5 BK101) | ((with_reducible refine zgc 115 ?_); refine zcl 11 Tryz.func115 (zcv k a0_0 false t103 t104 t105 t106 _ A2.out) ?_; rintro e w' ⟨rfl, ⟨nd, rfl⟩⟩; refine ⟨_, rfl, ?_⟩))
   go_ret
   exact ⟨zq4, zq3 GE101⟩
 subst c3
 replace H := zih H
 replace H := zob H
 obtain ⟨t107, A40, H⟩ := H
 have A4 := zA A40
 clear A40
 by_cases c5 : t107 = true
 rotate_left
 · replace c5 := zbf c5
   subst c5
   replace H := zif H
   obtain rfl := zsi H
   go_enter Tryz.func168, Tryz.ntmps168
   go_wp2_with (first | ((with_reducible refine zgd 1 ?_); refine zbh zq1 #[.string a0_0, .int .i64 a0_1, .int .i64 a0_2, .int .i64 a0_3, .int .i64 a0_4] 69 ?_; clear HB; intro gb101 w32 HB BK101 GW101; have GE101 := GW101; obtain ⟨hcz33_0, hcz33_1, hcz33_2, hcz33_3, hcz33_4, hfz33_0, hfz33_1, hfz33_2, hfz33_3, hfz33_4⟩ := zd5 BK101) | ((with_reducible refine zgc 115 ?_); refine zcl 11 Tryz.func115 (zcv k a0_0 true t103 t104 t105 t106 _ A2.out) ?_; rintro e w' ⟨rfl, ⟨nd, rfl⟩⟩; refine ⟨_, rfl, ?_⟩) | (go_at_call 187; (with_reducible refine (zay a0_1 false _ A4.out).mono ?_); rintro e w' ⟨rfl, ⟨nd, rfl⟩⟩))
   go_ret
   exact ⟨zq4, zq3 GE101⟩
 subst c5
 replace H := zih H
 replace H := zob H
 obtain ⟨t108, A60, H⟩ := H
 have A6 := zA A60
 clear A60
 by_cases c7 : t108 = true
 rotate_left
 · replace c7 := zbf c7
   subst c7
   replace H := zif H
   obtain rfl := zsi H
   go_enter Tryz.func168, Tryz.ntmps168
   go_wp2_with (first | ((with_reducible refine zgd 1 ?_); refine zbh zq1 #[.string a0_0, .int .i64 a0_1, .int .i64 a0_2, .int .i64 a0_3, .int .i64 a0_4] 69 ?_; clear HB; intro gb101 w30 HB BK101 GW101; have GE101 := GW101; obtain ⟨hcz31_0, hcz31_1, hcz31_2, hcz31_3, hcz31_4, hfz31_0, hfz31_1, hfz31_2, hfz31_3, hfz31_4⟩ := zd5 BK101) | ((with_reducible refine zgc 115 ?_); refine zcl 11 Tryz.func115 (zcv k a0_0 true t103 t104 t105 t106 _ A2.out) ?_; rintro e w' ⟨rfl, ⟨nd, rfl⟩⟩; refine ⟨_, rfl, ?_⟩) | (go_at_call 187; (with_reducible refine (zay a0_1 true _ A4.out).mono ?_); rintro e w' ⟨rfl, ⟨nd, rfl⟩⟩) | (go_at_call 187; (with_reducible refine (zay a0_2 false _ A6.out).mono ?_); rintro e w' ⟨rfl, ⟨nd, rfl⟩⟩))
   go_ret
   exact ⟨zq4, zq3 GE101⟩
 subst c7
 replace H := zih H
 replace H := zob H
 obtain ⟨t109, A80, H⟩ := H
 have A8 := zA A80
 clear A80
 by_cases c9 : t109 = true
 rotate_left
 · replace c9 := zbf c9
   subst c9
   replace H := zif H
   obtain rfl := zsi H
   go_enter Tryz.func168, Tryz.ntmps168
   go_wp2_with (first | ((with_reducible refine zgd 1 ?_); refine zbh zq1 #[.string a0_0, .int .i64 a0_1, .int .i64 a0_2, .int .i64 a0_3, .int .i64 a0_4] 69 ?_; clear HB; intro gb101 w28 HB BK101 GW101; have GE101 := GW101; obtain ⟨hcz29_0, hcz29_1, hcz29_2, hcz29_3, hcz29_4, hfz29_0, hfz29_1, hfz29_2, hfz29_3, hfz29_4⟩ := zd5 BK101) | ((with_reducible refine zgc 115 ?_); refine zcl 11 Tryz.func115 (zcv k a0_0 true t103 t104 t105 t106 _ A2.out) ?_; rintro e w' ⟨rfl, ⟨nd, rfl⟩⟩; refine ⟨_, rfl, ?_⟩) | (go_at_call 187; (with_reducible refine (zay a0_1 true _ A4.out).mono ?_); rintro e w' ⟨rfl, ⟨nd, rfl⟩⟩) | (go_at_call 187; (with_reducible refine (zay a0_2 true _ A6.out).mono ?_); rintro e w' ⟨rfl, ⟨nd, rfl⟩⟩) | (go_at_call 187; (with_reducible refine (zay a0_3 false _ A8.out).mono ?_); rintro e w' ⟨rfl, ⟨nd, rfl⟩⟩))
   go_ret
   exact ⟨zq4, zq3 GE101⟩
 subst c9
 replace H := zih H
 replace H := zob H
 obtain ⟨t110, A100, H⟩ := H
 have A10 := zA A100
 clear A100
 by_cases c11 : t110 = true
 rotate_left
 · replace c11 := zbf c11
   subst c11
   replace H := zif H
   obtain rfl := zsi H
   go_enter Tryz.func168, Tryz.ntmps168
   go_wp2_with (first | ((with_reducible refine zgd 1 ?_); refine zbh zq1 #[.string a0_0, .int .i64 a0_1, .int .i64 a0_2, .int .i64 a0_3, .int .i64 a0_4] 69 ?_; clear HB; intro gb101 w26 HB BK101 GW101; have GE101 := GW101; obtain ⟨hcz27_0, hcz27_1, hcz27_2, hcz27_3, hcz27_4, hfz27_0, hfz27_1, hfz27_2, hfz27_3, hfz27_4⟩ := zd5 BK101) | ((with_reducible refine zgc 115 ?_); refine zcl 11 Tryz.func115 (zcv k a0_0 true t103 t104 t105 t106 _ A2.out) ?_; rintro e w' ⟨rfl, ⟨nd, rfl⟩⟩; refine ⟨_, rfl, ?_⟩) | (go_at_call 187; (with_reducible refine (zay a0_1 true _ A4.out).mono ?_); rintro e w' ⟨rfl, ⟨nd, rfl⟩⟩) | (go_at_call 187; (with_reducible refine (zay a0_2 true _ A6.out).mono ?_); rintro e w' ⟨rfl, ⟨nd, rfl⟩⟩) | (go_at_call 187; (with_reducible refine (zay a0_3 true _ A8.out).mono ?_); rintro e w' ⟨rfl, ⟨nd, rfl⟩⟩) | (go_at_call 79; (with_reducible refine (za3 a0_4 t105 t106 false _ A10.out).mono ?_); rintro e w' ⟨rfl, ⟨nd, rfl⟩⟩))
   go_ret
   exact ⟨zq4, zq3 GE101⟩
 subst c11
 replace H := zih H
 by_cases c12 : t103 = true
 · subst c12
   replace H := zih H
   by_cases c13 : t104 = true
   · subst c13
     replace H := zih H
     obtain rfl := zsi H
     go_enter Tryz.func168, Tryz.ntmps168
     go_wp2_with (first | ((with_reducible refine zgd 1 ?_); refine zbh zq1 #[.string a0_0, .int .i64 a0_1, .int .i64 a0_2, .int .i64 a0_3, .int .i64 a0_4] 69 ?_; clear HB; intro gb101 w14 HB BK101 GW101; have GE101 := GW101; obtain ⟨hcz15_0, hcz15_1, hcz15_2, hcz15_3, hcz15_4, hfz15_0, hfz15_1, hfz15_2, hfz15_3, hfz15_4⟩ := zd5 BK101) | ((with_reducible refine zgc 115 ?_); refine zcl 11 Tryz.func115 (zcv k a0_0 true true true t105 t106 _ A2.out) ?_; rintro e w' ⟨rfl, ⟨nd, rfl⟩⟩; refine ⟨_, rfl, ?_⟩) | (go_at_call 187; (with_reducible refine (zay a0_1 true _ A4.out).mono ?_); rintro e w' ⟨rfl, ⟨nd, rfl⟩⟩) | (go_at_call 187; (with_reducible refine (zay a0_2 true _ A6.out).mono ?_); rintro e w' ⟨rfl, ⟨nd, rfl⟩⟩) | (go_at_call 187; (with_reducible refine (zay a0_3 true _ A8.out).mono ?_); rintro e w' ⟨rfl, ⟨nd, rfl⟩⟩) | (go_at_call 79; (with_reducible refine (za3 a0_4 t105 t106 true _ A10.out).mono ?_); rintro e w' ⟨rfl, ⟨nd, rfl⟩⟩))
     go_ret
     exact ⟨zq4, zq3 GE101⟩
   replace c13 := zbf c13
   subst c13
   replace H := zif H
   obtain rfl := zsi H
   go_enter Tryz.func168, Tryz.ntmps168
   go_wp2_with (first | ((with_reducible refine zgd 1 ?_); refine zbh zq1 #[.string a0_0, .int .i64 a0_1, .int .i64 a0_2, .int .i64 a0_3, .int .i64 a0_4] 69 ?_; clear HB; intro gb101 w16 HB BK101 GW101; have GE101 := GW101; obtain ⟨hcz17_0, hcz17_1, hcz17_2, hcz17_3, hcz17_4, hfz17_0, hfz17_1, hfz17_2, hfz17_3, hfz17_4⟩ := zd5 BK101) | ((with_reducible refine zgc 115 ?_); refine zcl 11 Tryz.func115 (zcv k a0_0 true true false t105 t106 _ A2.out) ?_; rintro e w' ⟨rfl, ⟨nd, rfl⟩⟩; refine ⟨_, rfl, ?_⟩) | (go_at_call 187; (with_reducible refine (zay a0_1 true _ A4.out).mono ?_); rintro e w' ⟨rfl, ⟨nd, rfl⟩⟩) | (go_at_call 187; (with_reducible refine (zay a0_2 true _ A6.out).mono ?_); rintro e w' ⟨rfl, ⟨nd, rfl⟩⟩) | (go_at_call 187; (with_reducible refine (zay a0_3 true _ A8.out).mono ?_); rintro e w' ⟨rfl, ⟨nd, rfl⟩⟩) | (go_at_call 79; (with_reducible refine (za3 a0_4 t105 t106 true _ A10.out).mono ?_); rintro e w' ⟨rfl, ⟨nd, rfl⟩⟩))
   go_ret
   exact ⟨zq4, zq3 GE101⟩
 replace c12 := zbf c12
 subst c12
 replace H := zif H
 by_cases c18 : a0_2 = 0
 rotate_left
 · rw [if_neg c18] at H
   obtain ⟨c18b0, c18b1⟩ := zbq c18
   obtain rfl := zsi H
   go_enter Tryz.func168, Tryz.ntmps168
   go_wp2_with (first | ((with_reducible refine zgd 1 ?_); refine zbh zq1 #[.string a0_0, .int .i64 a0_1, .int .i64 a0_2, .int .i64 a0_3, .int .i64 a0_4] 69 ?_; clear HB; intro gb101 w24 HB BK101 GW101; have GE101 := GW101; obtain ⟨hcz25_0, hcz25_1, hcz25_2, hcz25_3, hcz25_4, hfz25_0, hfz25_1, hfz25_2, hfz25_3, hfz25_4⟩ := zd5 BK101) | ((with_reducible refine zgc 115 ?_); refine zcl 11 Tryz.func115 (zcv k a0_0 true false t104 t105 t106 _ A2.out) ?_; rintro e w' ⟨rfl, ⟨nd, rfl⟩⟩; refine ⟨_, rfl, ?_⟩) | (go_at_call 187; (with_reducible refine (zay a0_1 true _ A4.out).mono ?_); rintro e w' ⟨rfl, ⟨nd, rfl⟩⟩) | (go_at_call 187; (with_reducible refine (zay a0_2 true _ A6.out).mono ?_); rintro e w' ⟨rfl, ⟨nd, rfl⟩⟩) | (go_at_call 187; (with_reducible refine (zay a0_3 true _ A8.out).mono ?_); rintro e w' ⟨rfl, ⟨nd, rfl⟩⟩) | (go_at_call 79; (with_reducible refine (za3 a0_4 t105 t106 true _ A10.out).mono ?_); rintro e w' ⟨rfl, ⟨nd, rfl⟩⟩))
   go_ret
   exact ⟨zq4, zq3 GE101⟩
 rw [if_pos c18] at H
 obtain ⟨c18b0, c18b1⟩ := zbe c18
 clear c18
 by_cases c19 : t104 = true
 · subst c19
   replace H := zih H
   obtain rfl := zsi H
   go_enter Tryz.func168, Tryz.ntmps168
   go_wp2_with (first | ((with_reducible refine zgd 1 ?_); refine zbh zq1 #[.string a0_0, .int .i64 a0_1, .int .i64 a0_2, .int .i64 a0_3, .int .i64 a0_4] 69 ?_; clear HB; intro gb101 w20 HB BK101 GW101; have GE101 := GW101; obtain ⟨hcz21_0, hcz21_1, hcz21_2, hcz21_3, hcz21_4, hfz21_0, hfz21_1, hfz21_2, hfz21_3, hfz21_4⟩ := zd5 BK101) | ((with_reducible refine zgc 115 ?_); refine zcl 11 Tryz.func115 (zcv k a0_0 true false true t105 t106 _ A2.out) ?_; rintro e w' ⟨rfl, ⟨nd, rfl⟩⟩; refine ⟨_, rfl, ?_⟩) | (go_at_call 187; (with_reducible refine (zay a0_1 true _ A4.out).mono ?_); rintro e w' ⟨rfl, ⟨nd, rfl⟩⟩) | (go_at_call 187; (with_reducible refine (zay a0_2 true _ A6.out).mono ?_); rintro e w' ⟨rfl, ⟨nd, rfl⟩⟩) | (go_at_call 187; (with_reducible refine (zay a0_3 true _ A8.out).mono ?_); rintro e w' ⟨rfl, ⟨nd, rfl⟩⟩) | (go_at_call 79; (with_reducible refine (za3 a0_4 t105 t106 true _ A10.out).mono ?_); rintro e w' ⟨rfl, ⟨nd, rfl⟩⟩))
   go_ret
   exact ⟨zq4, zq3 GE101⟩
 replace c19 := zbf c19
 subst c19
 replace H := zif H
 obtain rfl := zsi H
 go_enter Tryz.func168, Tryz.ntmps168
 go_wp2_with (first | ((with_reducible refine zgd 1 ?_); refine zbh zq1 #[.string a0_0, .int .i64 a0_1, .int .i64 a0_2, .int .i64 a0_3, .int .i64 a0_4] 69 ?_; clear HB; intro gb101 w22 HB BK101 GW101; have GE101 := GW101; obtain ⟨hcz23_0, hcz23_1, hcz23_2, hcz23_3, hcz23_4, hfz23_0, hfz23_1, hfz23_2, hfz23_3, hfz23_4⟩ := zd5 BK101) | ((with_reducible refine zgc 115 ?_); refine zcl 11 Tryz.func115 (zcv k a0_0 true false false t105 t106 _ A2.out) ?_; rintro e w' ⟨rfl, ⟨nd, rfl⟩⟩; refine ⟨_, rfl, ?_⟩) | (go_at_call 187; (with_reducible refine (zay a0_1 true _ A4.out).mono ?_); rintro e w' ⟨rfl, ⟨nd, rfl⟩⟩) | (go_at_call 187; (with_reducible refine (zay a0_2 true _ A6.out).mono ?_); rintro e w' ⟨rfl, ⟨nd, rfl⟩⟩) | (go_at_call 187; (with_reducible refine (zay a0_3 true _ A8.out).mono ?_); rintro e w' ⟨rfl, ⟨nd, rfl⟩⟩) | (go_at_call 79; (with_reducible refine (za3 a0_4 t105 t106 true _ A10.out).mono ?_); rintro e w' ⟨rfl, ⟨nd, rfl⟩⟩))
 go_ret
 exact ⟨zq4, zq3 GE101⟩
def zc6 : Nat → List (S69) → Int → Int → Option (Bool)
 | 0, _, _, _ => none
 | k + 1, x8, x9, x10 => if x10 < x9 then (if 0 ≤ x10 then (if x10 < (x8.length : Int) then ((zgt k ((zaa x8 x10).f0) ((zaa x8 x10).f1) ((zaa x8 x10).f2) ((zaa x8 x10).f3) ((zaa x8 x10).f4)).bind fun t103 => (if t103 = true then (zc6 k x8 x9 (wrap64 (x10 + 1))) else (some false))) else (none)) else (none)) else (some true)
def zgu (k : Nat) (l0 : List (S69)) : Option (Bool) := if (l0.length : Int) > 40 then (some false) else (zc6 k l0 (l0.length : Int) 0)
theorem zlk : ∀ k, (∀ y0 y1 y2, LeO (zc6 k y0 y1 y2) (zc6 (k + 1) y0 y1 y2))
 | 0 => fun _ _ _ r h => by simp [zc6] at h
 | k + 1 => by
   have ih0 := zlk k
   · intro y0 y1 y2
     unfold zc6
     exact zm2 ih0 zm0
theorem zro : ∀ a0 k, LeO (zgu k a0) (zgu (k + 1) a0) := by
 intro a0 k
 have ih0 := zlk k
 unfold zgu
 exact zm2 ih0 zm0
theorem zqt (k : Nat) (A0 : Option Addr) (c0 : Nat) (l0 : List (S69)) (r : Bool) (w : World) (hr0 : Kd.C k69 w A0 l0.length l0) (hc0 : l0.length ≤ c0) (h : zgu k l0 = some r) :
   Calls Tryz.prog 137 #[.slice A0 l0.length c0] w fun e w' => e = .returned (.bool r) ∧ Below w.heap.size w w' := by
 have hu69 := Tryz.underlying69
 have HR0 := zA hr0
 have HC0 := zA hc0
 clear hr0 hc0
 have HB := zA (Below.refl w.heap.size w)
 have H := h
 unfold zgu at H
 clear h
 by_cases c2 : (l0.length : Int) > 40
 · rw [if_pos c2] at H
   have c2b0 := zdt c2
   have c2b1 : decide (40 < l0.length) = true := zdt (by omega)
   clear c2
   obtain rfl := zsi H
   go_enter Tryz.func137, Tryz.ntmps137
   go_wp2
   exact zr_3
 rw [if_neg c2] at H
 have c2b0 := zdf c2
 have c2b1 : decide (40 < l0.length) = false := zdf (by omega)
 clear c2
 have H' := zA H
 clear H
 go_enter Tryz.func137, Tryz.ntmps137
 go_wp2
 go_loopg [10] k (fun kq v10 w' => ∃ (x10_1 : Int), v10 = .int .i64 x10_1 ∧ Aside0 (zc6 kq l0 (l0.length : Int) x10_1 = some r) ∧ Aside0 (kq ≤ k) ∧ Aside0 (Below w.heap.size w w'))
 case atStart => exact ⟨(0), zq5, H', ⟨zlr _⟩, ⟨zq1⟩⟩
 clear H'
 obtain ⟨x10_1, rfl, HA, HK1, HB⟩ := hrel
 cases gk with
 | zero => exact absurd HA.out (by simp [zc6])
 | succ k1 =>
 have H := HA.out
 clear HA
 simp only [zc6] at H
 revert H
 refine zit (fun c3 H => ?_) fun c3 H => ?_
 rotate_left
 · obtain rfl := zsi H
   go_wp2
   exact zr_3
 revert H
 refine zin fun c4 H => ?_
 revert H
 refine zin fun c5 H => ?_
 replace H := zob H
 obtain ⟨t103, A60, H⟩ := H
 have A6 := zA A60
 clear A60
 by_cases c7 : t103 = true
 rotate_left
 · replace c7 := zbf c7
   subst c7
   replace H := zif H
   obtain rfl := zsi H
   obtain ⟨p101, q101⟩ := zpq x10_1 l0.length
   obtain ⟨ad101, e101, hx101_0, hx101_1, hx101_2, hx101_3, hx101_4⟩ := zmn HR0.out x10_1 (zoe p101) (zoe q101)
   cases e101
   replace hx101_0 := zkep HB.out hx101_0
   replace hx101_1 := zkep HB.out hx101_1
   replace hx101_2 := zkep HB.out hx101_2
   replace hx101_3 := zkep HB.out hx101_3
   replace hx101_4 := zkep HB.out hx101_4
   go_wp2_with (first | ((with_reducible refine zgd 4 ?_); refine zbh zq1 #[.string (⟨#[]⟩ : ByteArray), .int .i64 0, .int .i64 0, .int .i64 0, .int .i64 0] 69 ?_; clear HB; intro gb102 w11 HB BK102 GW102; have GE102 := GW102; obtain ⟨hcz12_0, hcz12_1, hcz12_2, hcz12_3, hcz12_4, hfz12_0, hfz12_1, hfz12_2, hfz12_3, hfz12_4⟩ := zd5 BK102) | ((with_reducible refine zgc 168 ?_); refine zcl 15 Tryz.func168 (zmc k1 ((zaa l0 x10_1).f0) ((zaa l0 x10_1).f1) ((zaa l0 x10_1).f2) ((zaa l0 x10_1).f3) ((zaa l0 x10_1).f4) false _ A6.out) ?_; rintro e w13 ⟨rfl, hb⟩; refine ⟨_, rfl, ?_⟩; replace BK102 := zA (zah (g := gb102) (o := .cells #[.string ((zaa l0 x10_1).f0), .int .i64 ((zaa l0 x10_1).f1), .int .i64 ((zaa l0 x10_1).f2), .int .i64 ((zaa l0 x10_1).f3), .int .i64 ((zaa l0 x10_1).f4)] 69 (0, 0)) (zq25 BK102) hb); replace HB := zA (zab (zq3 GE102) hb); (try clear hb)))
   go_ret
   exact ⟨zq4, zq3 GE102⟩
 subst c7
 replace H := zih H
 have H' := zA H
 clear H
 obtain ⟨p101, q101⟩ := zpq x10_1 l0.length
 obtain ⟨ad101, e101, hx101_0, hx101_1, hx101_2, hx101_3, hx101_4⟩ := zmn HR0.out x10_1 (zoe p101) (zoe q101)
 cases e101
 replace hx101_0 := zkep HB.out hx101_0
 replace hx101_1 := zkep HB.out hx101_1
 replace hx101_2 := zkep HB.out hx101_2
 replace hx101_3 := zkep HB.out hx101_3
 replace hx101_4 := zkep HB.out hx101_4
 go_wp2_with (first | ((with_reducible refine zgd 4 ?_); refine zbh zq1 #[.string (⟨#[]⟩ : ByteArray), .int .i64 0, .int .i64 0, .int .i64 0, .int .i64 0] 69 ?_; clear HB; intro gb102 w8 HB BK102 GW102; have GE102 := GW102; obtain ⟨hcz9_0, hcz9_1, hcz9_2, hcz9_3, hcz9_4, hfz9_0, hfz9_1, hfz9_2, hfz9_3, hfz9_4⟩ := zd5 BK102) | ((with_reducible refine zgc 168 ?_); refine zcl 15 Tryz.func168 (zmc k1 ((zaa l0 x10_1).f0) ((zaa l0 x10_1).f1) ((zaa l0 x10_1).f2) ((zaa l0 x10_1).f3) ((zaa l0 x10_1).f4) true _ A6.out) ?_; rintro e w10 ⟨rfl, hb⟩; refine ⟨_, rfl, ?_⟩; replace BK102 := zA (zah (g := gb102) (o := .cells #[.string ((zaa l0 x10_1).f0), .int .i64 ((zaa l0 x10_1).f1), .int .i64 ((zaa l0 x10_1).f2), .int .i64 ((zaa l0 x10_1).f3), .int .i64 ((zaa l0 x10_1).f4)] 69 (0, 0)) (zq25 BK102) hb); replace HB := zA (zab (zq3 GE102) hb); (try clear hb)))
 go_roundg k1
 case measure => have := HK1.out; omega
 case rel => exact ⟨(wrap64 (x10_1 + 1)), zq5, H', ⟨zq41 HK1⟩, ⟨zq3 GE102⟩⟩
def zfp (k : Nat) (l0 : List (S69)) : Option (Bool) := if (l0.length : Int) ≤ 20 then ((zgu k l0).bind fun t101 => (some t101)) else (some false)
theorem zrp : ∀ a0 k, LeO (zfp k a0) (zfp (k + 1) a0) := by
 intro a0 k
 unfold zfp
 exact zm1 zro
theorem zg3 (k : Nat) (A0 : Option Addr) (c0 : Nat) (l0 : List (S69)) (r : Bool) (w : World) (hr0 : Kd.C k69 w A0 l0.length l0) (hc0 : l0.length ≤ c0) (h : zfp k l0 = some r) :
   Calls Tryz.prog 102 #[.slice A0 l0.length c0] w fun e w' => e = .returned (.bool r) ∧ Below w.heap.size w w' := by
 have HR0 := zA hr0
 have HC0 := zA hc0
 clear hr0 hc0
 have HB := zA (Below.refl w.heap.size w)
 have H := h
 unfold zfp at H
 clear h
 by_cases c2 : (l0.length : Int) ≤ 20
 · rw [if_pos c2] at H
   have c2b0 := zdt c2
   have c2b1 : decide (l0.length ≤ 20) = true := zdt (by omega)
   clear c2
   replace H := zob H
   obtain ⟨t101, A30, H⟩ := H
   have A3 := zA A30
   clear A30
   obtain rfl := zsi H
   go_enter Tryz.func102, Tryz.ntmps102
   go_wp2_with (first | (go_at_call 137; (with_reducible refine (zqt k _ _ l0 t101 _ ?side1 ?side2 A3.out).mono ?_); (case side1 => repeat (first | exact HR0.out | (with_reducible first | refine zCa ?_ _ | refine zCn ?_ _ | refine zCd ?_))); (case side2 => exact HC0.out); rintro e w4 ⟨rfl, hb⟩; replace HB := zA (zab zq1 hb); (try clear hb)))
   exact zr_3
 · rw [if_neg c2] at H
   have c2b0 := zdf c2
   have c2b1 : decide (l0.length ≤ 20) = false := zdf (by omega)
   clear c2
   obtain rfl := zsi H
   go_enter Tryz.func102, Tryz.ntmps102
   go_wp2
   exact zr_3
def zgv (k : Nat) (l0 : List (S69)) (l1 : List (S69)) (l2 : List Int) : Option (Bool) := (zfp k l0).bind fun t101 => (if t101 = true then ((zfp k l1).bind fun t102 => (if t102 = true then ((zfd k l2).bind fun t103 => (some t103)) else (some false))) else (some false))
theorem zm6 : ∀ a0 a1 a2 k, LeO (zgv k a0 a1 a2) (zgv (k + 1) a0 a1 a2) := by
 intro a0 a1 a2 k
 unfold zgv
 exact zm2 zpr zrp
theorem zmd (k : Nat) (A0 : Option Addr) (c0 : Nat) (l0 : List (S69)) (A1 : Option Addr) (c1 : Nat) (l1 : List (S69)) (A2 : Option Addr) (c2 : Nat) (l2 : List Int) (r : Bool) (w : World) (hr0 : Kd.C k69 w A0 l0.length l0) (hc0 : l0.length ≤ c0) (hr1 : Kd.C k69 w A1 l1.length l1) (hc1 : l1.length ≤ c1) (hr2 : Kd.C (Kd.int .i64) w A2 l2.length l2) (hc2 : l2.length ≤ c2) (h : zgv k l0 l1 l2 = some r) :
   Calls Tryz.prog 69 #[.slice A0 l0.length c0, .slice A1 l1.length c1, .slice A2 l2.length c2] w fun e w' => e = .returned (.bool r) ∧ Below w.heap.size w w' := by
 have HR0 := zA hr0
 have HC0 := zA hc0
 clear hr0 hc0
 have HR1 := zA hr1
 have HC1 := zA hc1
 clear hr1 hc1
 have HR2 := zA hr2
 have HC2 := zA hc2
 clear hr2 hc2
 have HB := zA (Below.refl w.heap.size w)
 have H := h
 unfold zgv at H
 clear h
 replace H := zob H
 obtain ⟨t101, A40, H⟩ := H
 have A4 := zA A40
 clear A40
 by_cases c5 : t101 = true
 rotate_left
 · replace c5 := zbf c5
   subst c5
   replace H := zif H
   obtain rfl := zsi H
   go_enter Tryz.func69, Tryz.ntmps69
   go_wp2_with (first | ((with_reducible refine zgc 102 ?_); refine zca 8 Tryz.func102 #[.slice A0 l0.length c0] (zg3 k _ _ l0 false _ (zq10 HR0) HC0.out A4.out) ?_; rintro e w13 ⟨rfl, hb⟩; refine ⟨_, rfl, ?_⟩; replace HB := zA (zab zq1 hb); (try clear hb)))
   exact zr_3
 subst c5
 replace H := zih H
 replace H := zob H
 obtain ⟨t102, A60, H⟩ := H
 have A6 := zA A60
 clear A60
 by_cases c7 : t102 = true
 rotate_left
 · replace c7 := zbf c7
   subst c7
   replace H := zif H
   obtain rfl := zsi H
   go_enter Tryz.func69, Tryz.ntmps69
   go_wp2_with (first | ((with_reducible refine zgc 102 ?_); refine zca 8 Tryz.func102 #[.slice A0 l0.length c0] (zg3 k _ _ l0 true _ (zq10 HR0) HC0.out A4.out) ?_; rintro e w11 ⟨rfl, hb⟩; refine ⟨_, rfl, ?_⟩; replace HB := zA (zab zq1 hb); (try clear hb)) | (go_at_call 102; (with_reducible refine (zg3 k _ _ l1 false _ ?side1 ?side2 A6.out).mono ?_); (case side1 => repeat (first | exact (zCb HR1.out HB.out) | (with_reducible first | refine zCa ?_ _ | refine zCn ?_ _ | refine zCd ?_))); (case side2 => exact HC1.out); rintro e w12 ⟨rfl, hb⟩; replace HB := zA (zab zq1 hb); (try clear hb)))
   exact zr_3
 subst c7
 replace H := zih H
 replace H := zob H
 obtain ⟨t103, A80, H⟩ := H
 have A8 := zA A80
 clear A80
 obtain rfl := zsi H
 go_enter Tryz.func69, Tryz.ntmps69
 go_wp2_with (first | ((with_reducible refine zgc 102 ?_); refine zca 8 Tryz.func102 #[.slice A0 l0.length c0] (zg3 k _ _ l0 true _ (zq10 HR0) HC0.out A4.out) ?_; rintro e w9 ⟨rfl, hb⟩; refine ⟨_, rfl, ?_⟩; replace HB := zA (zab zq1 hb); (try clear hb)) | (go_at_call 102; (with_reducible refine (zg3 k _ _ l1 true _ ?side1 ?side2 A6.out).mono ?_); (case side1 => repeat (first | exact (zCb HR1.out HB.out) | (with_reducible first | refine zCa ?_ _ | refine zCn ?_ _ | refine zCd ?_))); (case side2 => exact HC1.out); rintro e w10 ⟨rfl, hb⟩; replace HB := zA (zab zq1 hb); (try clear hb)) | (go_at_call 103; (with_reducible refine (zow k _ _ l2 t103 _ ?side1 ?side2 A8.out).mono ?_); (case side1 => repeat (first | exact (zCb HR2.out HB.out) | (with_reducible first | refine zCa ?_ _ | refine zCn ?_ _ | refine zCd ?_))); (case side2 => exact HC2.out); rintro e w' ⟨rfl, ⟨nd, rfl⟩⟩))
 exact zr_3
mutual
def zb9 : Nat → List (List Int) → List Int → List (List Int) → Int → Int → Option (List Int × Bool)
 | 0, _, _, _, _, _ => none
 | k + 1, x1, x2, x12, x13, x14 => if x14 < x13 then (if 0 ≤ x14 then (if x14 < (x12.length : Int) then (zcb k x1 x2 x14 (znc x12 x14) x12 x13 x14 x2 (x2.length : Int) 0) else (none)) else (none)) else (some (([] : List Int), false))
def zcb : Nat → List (List Int) → List Int → Int → List Int → List (List Int) → Int → Int → List Int → Int → Int → Option (List Int × Bool)
 | 0, _, _, _, _, _, _, _, _, _, _ => none
 | k + 1, x1, x2, x8, x9, x12, x13, x14, x19, x20, x21 => if x21 < x20 then (if 0 ≤ x21 then (if x21 < (x19.length : Int) then (if 0 ≤ (rd x19 x21) then (if (rd x19 x21) < (x9.length : Int) then (if 0 ≤ x8 then (if x8 < (x1.length : Int) then (if (rd x19 x21) < ((znc x1 x8).length : Int) then (if (rd x9 (rd x19 x21)) = (rd (znc x1 x8) (rd x19 x21)) then (zcb k x1 x2 x8 x9 x12 x13 x14 x19 x20 (wrap64 (x21 + 1))) else (some ((([wrap64 (Int.tdiv x8 64), Int.tmod x8 64, rd x19 x21] : List Int)), true))) else (none)) else (none)) else (none)) else (none)) else (none)) else (none)) else (none)) else (zb9 k x1 x2 x12 x13 (wrap64 (x14 + 1)))
end
def zeq (k : Nat) (l0 : List (List Int)) (l1 : List (List Int)) (l2 : List Int) : Option (List Int × Bool) := zb9 k l1 l2 l0 (l0.length : Int) 0
theorem zjn : ∀ k, (∀ y0 y1 y2 y3 y4, LeO (zb9 k y0 y1 y2 y3 y4) (zb9 (k + 1) y0 y1 y2 y3 y4)) ∧ (∀ y0 y1 y2 y3 y4 y5 y6 y7 y8 y9, LeO (zcb k y0 y1 y2 y3 y4 y5 y6 y7 y8 y9) (zcb (k + 1) y0 y1 y2 y3 y4 y5 y6 y7 y8 y9))
 | 0 => ⟨fun _ _ _ _ _ r h => by simp [zb9] at h, fun _ _ _ _ _ _ _ _ _ _ r h => by simp [zcb] at h⟩
 | k + 1 => by
   obtain ⟨ih0, ih1⟩ := zjn k
   refine ⟨?_, ?_⟩
   · intro y0 y1 y2 y3 y4
     unfold zb9
     exact zm2 ih0 ih1
   · intro y0 y1 y2 y3 y4 y5 y6 y7 y8 y9
     unfold zcb
     exact zm2 ih0 ih1
theorem zkr : ∀ a0 a1 a2 k, LeO (zeq k a0 a1 a2) (zeq (k + 1) a0 a1 a2) := by
 intro a0 a1 a2 k
 obtain ⟨ih0, ih1⟩ := zjn k
 unfold zeq
 exact zm2 ih0 ih1
theorem zj8 (k : Nat) (A0 : Option Addr) (c0 : Nat) (l0 : List (List Int)) (A1 : Option Addr) (c1 : Nat) (l1 : List (List Int)) (A2 : Option Addr) (c2 : Nat) (l2 : List Int) (r1 : List Int) (r2 : Bool) (w : World) (hr0 : Kd.C (Kd.slice 3 (Kd.int .i64)) w A0 l0.length l0) (hc0 : l0.length ≤ c0) (hr1 : Kd.C (Kd.slice 3 (Kd.int .i64)) w A1 l1.length l1) (hc1 : l1.length ≤ c1) (hr2 : Kd.C (Kd.int .i64) w A2 l2.length l2) (hc2 : l2.length ≤ c2) (h : zeq k l0 l1 l2 = some (r1, r2)) :
   Calls Tryz.prog 71 #[.slice A0 l0.length c0, .slice A1 l1.length c1, .slice A2 l2.length c2] w fun e w' => ∃ v0_ : Value, e = .returned (.tuple #[v0_, .bool r2]) ∧ Kd.R (Kd.int .i64) 3 w' w.heap.size (fun _ => True) v0_ r1 ∧ Below w.heap.size w w' := by
 have HR0 := zA hr0
 have HC0 := zA hc0
 clear hr0 hc0
 have HR1 := zA hr1
 have HC1 := zA hc1
 clear hr1 hc1
 have HR2 := zA hr2
 have HC2 := zA hc2
 clear hr2 hc2
 have HB := zA (Below.refl w.heap.size w)
 have H := h
 unfold zeq at H
 clear h
 have H' := zA H
 clear H
 go_enter Tryz.func71, Tryz.ntmps71
 go_wp2
 repeat (go_quiet (fail); try go_wp2)
 go_loopg [14] k (fun kq v14 w' => ∃ (x14_1 : Int), v14 = .int .i64 x14_1 ∧ Aside0 (zb9 kq l1 l2 l0 (l0.length : Int) x14_1 = some (r1, r2)) ∧ Aside0 (kq ≤ k) ∧ Aside0 (Below w.heap.size w w'))
 case atStart => exact ⟨(0), zq5, H', ⟨zlr _⟩, ⟨zq1⟩⟩
 clear H'
 obtain ⟨x14_1, rfl, HA, HK1, HB⟩ := hrel
 cases gk with
 | zero => exact absurd HA.out (by simp [zb9])
 | succ k1 =>
 have H := HA.out
 clear HA
 simp only [zb9] at H
 revert H
 refine zit (fun c4 H => ?_) fun c4 H => ?_
 rotate_left
 · simp only [Option.some.injEq, Prod.mk.injEq] at H
   obtain ⟨rfl, rfl⟩ := H
   go_wp2
   repeat (go_quiet (fail); try go_wp2)
   go_ret2
   exact ⟨_, zq4, zq38, zq1⟩
 revert H
 refine zin fun c5 H => ?_
 revert H
 refine zin fun c6 H => ?_
 have H' := zA H
 clear H
 obtain ⟨p101, q101⟩ := zpq x14_1 l0.length
 obtain ⟨ad101, A101_0, c101_0, e101, hx101_0, hl101_0, hi101_0⟩ := ybj HR0.out x14_1 (zoe p101) (zoe q101)
 cases e101
 replace hx101_0 := zkep HB.out hx101_0
 have HR101_0 := zA hi101_0
 have HC101_0 := zA hl101_0
 clear hi101_0 hl101_0
 go_wp2
 repeat (go_quiet (fail); try go_wp2)
 go_loopg [21] k1 (fun kq v21 w' => ∃ (x21_2 : Int), v21 = .int .i64 x21_2 ∧ Aside0 (zcb kq l1 l2 x14_1 (znc l0 x14_1) l0 (l0.length : Int) x14_1 l2 (l2.length : Int) x21_2 = some (r1, r2)) ∧ Aside0 (kq ≤ k1) ∧ Aside0 (Below w.heap.size w w'))
 case atStart => exact ⟨(0), zq5, H', ⟨zlr _⟩, ⟨zq1⟩⟩
 clear H'
 obtain ⟨x21_2, rfl, HA, HK2, HB⟩ := hrel
 cases gk with
 | zero => exact absurd HA.out (by simp [zcb])
 | succ k2 =>
 have H := HA.out
 clear HA
 simp only [zcb] at H
 revert H
 refine zit (fun c7 H => ?_) fun c7 H => ?_
 rotate_left
 · have H' := zA H
   clear H
   go_wp2
   repeat (go_quiet (fail); try go_wp2)
   go_roundg k2
   case measure => have := HK1.out; have := HK2.out; omega
   case rel => exact ⟨(wrap64 (x14_1 + 1)), zq5, H', ⟨zq42 HK1 HK2⟩, ⟨zq1⟩⟩
 revert H
 refine zin fun c8 H => ?_
 revert H
 refine zin fun c9 H => ?_
 revert H
 refine zin fun c10 H => ?_
 revert H
 refine zin fun c11 H => ?_
 revert H
 refine zin fun c12 H => ?_
 revert H
 refine zin fun c13 H => ?_
 revert H
 refine zin fun c14 H => ?_
 by_cases c15 : (rd (znc l0 x14_1) (rd l2 x21_2)) = (rd (znc l1 x14_1) (rd l2 x21_2))
 · rw [if_pos c15] at H
   obtain ⟨c15b0, c15b1⟩ := zbe c15
   clear c15
   have H' := zA H
   clear H
   obtain ⟨p102, q102⟩ := zpq x21_2 l2.length
   obtain ⟨ad102, e102, hx102_0⟩ := Kd.at_int HR2.out x21_2 (zoe p102) (zoe q102)
   cases e102
   replace hx102_0 := zkep HB.out hx102_0
   have p103 : 0 ≤ ((rd l2 x21_2) : Int) := zde zq21
   have q103 : (rd l2 x21_2) < ((znc l0 x14_1).length : Int) := zde zq21
   obtain ⟨ad103, e103, hx103_0⟩ := Kd.at_int HR101_0.out (rd l2 x21_2) p103 q103
   cases e103
   replace hx103_0 := zkep HB.out hx103_0
   replace p103 := eq_true p103
   replace q103 := eq_true q103
   obtain ⟨p104, q104⟩ := zpq x14_1 l1.length
   obtain ⟨ad104, A104_0, c104_0, e104, hx104_0, hl104_0, hi104_0⟩ := ybj HR1.out x14_1 (zoe p104) (zoe q104)
   cases e104
   replace hx104_0 := zkep HB.out hx104_0
   have HR104_0 := zA hi104_0
   have HC104_0 := zA hl104_0
   clear hi104_0 hl104_0
   have p105 : 0 ≤ ((rd l2 x21_2) : Int) := zde zq21
   have q105 : (rd l2 x21_2) < ((znc l1 x14_1).length : Int) := zde zq21
   obtain ⟨ad105, e105, hx105_0⟩ := Kd.at_int HR104_0.out (rd l2 x21_2) p105 q105
   cases e105
   replace hx105_0 := zkep HB.out hx105_0
   replace p105 := eq_true p105
   replace q105 := eq_true q105
   go_wp2
   repeat (go_quiet (fail); try go_wp2)
   go_roundg k2
   case measure => have := HK1.out; have := HK2.out; omega
   case rel => exact ⟨(wrap64 (x21_2 + 1)), zq5, H', ⟨zq42 HK1 HK2⟩, ⟨zq1⟩⟩
 rw [if_neg c15] at H
 obtain ⟨c15b0, c15b1⟩ := zbq c15
 obtain ⟨y106, hy106⟩ : ∃ y_ : List Int, y_ = (([wrap64 (Int.tdiv x14_1 64), Int.tmod x14_1 64, rd l2 x21_2] : List Int)) := ⟨_, rfl⟩
 rw [← hy106] at H; try with_reducible replace H := zbs H
 have Ny106 := zA hy106
 clear hy106
 simp only [Option.some.injEq, Prod.mk.injEq] at H
 obtain ⟨rfl, rfl⟩ := H
 obtain ⟨p102, q102⟩ := zpq x21_2 l2.length
 obtain ⟨ad102, e102, hx102_0⟩ := Kd.at_int HR2.out x21_2 (zoe p102) (zoe q102)
 cases e102
 replace hx102_0 := zkep HB.out hx102_0
 have p103 : 0 ≤ ((rd l2 x21_2) : Int) := zde zq21
 have q103 : (rd l2 x21_2) < ((znc l0 x14_1).length : Int) := zde zq21
 obtain ⟨ad103, e103, hx103_0⟩ := Kd.at_int HR101_0.out (rd l2 x21_2) p103 q103
 cases e103
 replace hx103_0 := zkep HB.out hx103_0
 replace p103 := eq_true p103
 replace q103 := eq_true q103
 obtain ⟨p104, q104⟩ := zpq x14_1 l1.length
 obtain ⟨ad104, A104_0, c104_0, e104, hx104_0, hl104_0, hi104_0⟩ := ybj HR1.out x14_1 (zoe p104) (zoe q104)
 cases e104
 replace hx104_0 := zkep HB.out hx104_0
 have HR104_0 := zA hi104_0
 have HC104_0 := zA hl104_0
 clear hi104_0 hl104_0
 have p105 : 0 ≤ ((rd l2 x21_2) : Int) := zde zq21
 have q105 : (rd l2 x21_2) < ((znc l1 x14_1).length : Int) := zde zq21
 obtain ⟨ad105, e105, hx105_0⟩ := Kd.at_int HR104_0.out (rd l2 x21_2) p105 q105
 cases e105
 replace hx105_0 := zkep HB.out hx105_0
 replace p105 := eq_true p105
 replace q105 := eq_true q105
 go_wp2_with (first | ((with_reducible refine zgd 42 ?_); refine Kd.R_lit (Kd.int .i64) _ 3 ?hg (N := 42) ?hd (xs := ([wrap64 (Int.tdiv x14_1 64), Int.tmod x14_1 64, rd l2 x21_2] : List Int)) (inner := [.int .i64 (wrap64 (Int.tdiv x14_1 64)), .int .i64 (Int.tmod x14_1 64), .int .i64 (rd l2 x21_2)]) (ok := fun _ => True) (okp := fun _ => True) ?hr ?hp (fun _ hk => hk) trivial (Below.refl _ _) (zlr _) (by simp) ?_; (case hd => rfl); (case hg => rfl); (case hr => go_simp <;> rfl); (case hp => exact (zan (show Kd.M (Kd.int .i64) _ _ _ (wrap64 (Int.tdiv x14_1 64)) [.int .i64 (wrap64 (Int.tdiv x14_1 64))] from rfl) (zan (show Kd.M (Kd.int .i64) _ _ _ (Int.tmod x14_1 64) [.int .i64 (Int.tmod x14_1 64)] from rfl) (zan (show Kd.M (Kd.int .i64) _ _ _ (rd l2 x21_2) [.int .i64 (rd l2 x21_2)] from rfl) (Reps.none _ _))))); intro v107 w16 ho17 hb hg_ hnew_; clear hg_ hnew_; (first | rw [← Ny106.out] at ho17 | (simp only [Int.reduceToNat] at ho17; rw [← Ny106.out] at ho17)); have HO108 := zA (Kd.R_lower ho17 (zag zq1)); replace HB := zA (zab zq1 hb); clear hb ho17))
 repeat (go_quiet (first | ((with_reducible refine zee (N := 42) rfl ?_); refine Kd.R_lit (Kd.int .i64) _ 3 ?hg (N := 42) ?hd (xs := ([wrap64 (Int.tdiv x14_1 64), Int.tmod x14_1 64, rd l2 x21_2] : List Int)) (inner := [.int .i64 (wrap64 (Int.tdiv x14_1 64)), .int .i64 (Int.tmod x14_1 64), .int .i64 (rd l2 x21_2)]) (ok := fun _ => True) (okp := fun _ => True) ?hr ?hp (fun _ hk => hk) trivial (Below.refl _ _) (zlr _) (by simp) ?_; (case hd => rfl); (case hg => rfl); (case hr => go_simp <;> rfl); (case hp => exact (zan (show Kd.M (Kd.int .i64) _ _ _ (wrap64 (Int.tdiv x14_1 64)) [.int .i64 (wrap64 (Int.tdiv x14_1 64))] from rfl) (zan (show Kd.M (Kd.int .i64) _ _ _ (Int.tmod x14_1 64) [.int .i64 (Int.tmod x14_1 64)] from rfl) (zan (show Kd.M (Kd.int .i64) _ _ _ (rd l2 x21_2) [.int .i64 (rd l2 x21_2)] from rfl) (Reps.none _ _))))); intro v107 w16 ho17 hb hg_ hnew_; clear hg_ hnew_; (first | rw [← Ny106.out] at ho17 | (simp only [Int.reduceToNat] at ho17; rw [← Ny106.out] at ho17)); have n0_ := zA (Kd.R_lower ho17 (zag zq1)); have n1_ := zA (zab zq1 hb); clear HB; have HO108 := n0_; have HB := n1_; clear n0_ n1_; clear hb ho17)); try go_wp2_with (first | ((with_reducible refine zee (N := 42) rfl ?_); refine Kd.R_lit (Kd.int .i64) _ 3 ?hg (N := 42) ?hd (xs := ([wrap64 (Int.tdiv x14_1 64), Int.tmod x14_1 64, rd l2 x21_2] : List Int)) (inner := [.int .i64 (wrap64 (Int.tdiv x14_1 64)), .int .i64 (Int.tmod x14_1 64), .int .i64 (rd l2 x21_2)]) (ok := fun _ => True) (okp := fun _ => True) ?hr ?hp (fun _ hk => hk) trivial (Below.refl _ _) (zlr _) (by simp) ?_; (case hd => rfl); (case hg => rfl); (case hr => go_simp <;> rfl); (case hp => exact (zan (show Kd.M (Kd.int .i64) _ _ _ (wrap64 (Int.tdiv x14_1 64)) [.int .i64 (wrap64 (Int.tdiv x14_1 64))] from rfl) (zan (show Kd.M (Kd.int .i64) _ _ _ (Int.tmod x14_1 64) [.int .i64 (Int.tmod x14_1 64)] from rfl) (zan (show Kd.M (Kd.int .i64) _ _ _ (rd l2 x21_2) [.int .i64 (rd l2 x21_2)] from rfl) (Reps.none _ _))))); intro v107 w16 ho17 hb hg_ hnew_; clear hg_ hnew_; (first | rw [← Ny106.out] at ho17 | (simp only [Int.reduceToNat] at ho17; rw [← Ny106.out] at ho17)); have n0_ := zA (Kd.R_lower ho17 (zag zq1)); have n1_ := zA (zab zq1 hb); clear HB; have HO108 := n0_; have HB := n1_; clear n0_ n1_; clear hb ho17)))
 go_ret2
 exact ⟨_, zq4, zq2 HO108, zq1⟩
def zcr : Nat → List (S69) → List (S69) → List Int → Bool → Option (ByteArray × Bool)
 | 0, _, _, _, _ => none
 | k + 1, x0, x1, x2, x27 => if x27 = true then (some ((⟨#[97, 108, 105, 107, 101]⟩ : ByteArray), true)) else ((zfo k x0).bind fun t104 => ((zfo k x1).bind fun t107 => ((zeq k t104 t107 x2).bind fun bt110 => (if bt110.2 = true then (some ((⟨#[111, 116, 104, 101, 114]⟩ : ByteArray), true)) else (some ((⟨#[115, 97, 109, 101]⟩ : ByteArray), true))))))
def zer (k : Nat) (l0 : List (S69)) (l1 : List (S69)) (l2 : List Int) : Option (ByteArray × Bool) := (zgv k l0 l1 l2).bind fun t101 => (if t101 = true then ((zfs k l0 l1 l2).bind fun bt102 => (if bt102.2 = true then (zcr k l0 l1 l2 bt102.1) else (zcr k l0 l1 l2 false))) else (some ((⟨#[]⟩ : ByteArray), false)))
theorem zjo : ∀ k, (∀ y0 y1 y2 y3, LeO (zcr k y0 y1 y2 y3) (zcr (k + 1) y0 y1 y2 y3))
 | 0 => fun _ _ _ _ r h => by simp [zcr] at h
 | k + 1 => by
   have ih0 := zjo k
   · intro y0 y1 y2 y3
     unfold zcr
     exact zm5 ih0 zma zmz zm6 zkr
theorem zks : ∀ a0 a1 a2 k, LeO (zer k a0 a1 a2) (zer (k + 1) a0 a1 a2) := by
 intro a0 a1 a2 k
 have ih0 := zjo k
 unfold zer
 exact zm5 ih0 zma zmz zm6 zkr
theorem zn9 (k : Nat) (A0 : Option Addr) (c0 : Nat) (l0 : List (S69)) (A1 : Option Addr) (c1 : Nat) (l1 : List (S69)) (A2 : Option Addr) (c2 : Nat) (l2 : List Int) (r1 : ByteArray) (r2 : Bool) (w : World) (hr0 : Kd.C k69 w A0 l0.length l0) (hc0 : l0.length ≤ c0) (hr1 : Kd.C k69 w A1 l1.length l1) (hc1 : l1.length ≤ c1) (hr2 : Kd.C (Kd.int .i64) w A2 l2.length l2) (hc2 : l2.length ≤ c2) (h : zer k l0 l1 l2 = some (r1, r2)) :
   Calls Tryz.prog 31 #[.slice A0 l0.length c0, .slice A1 l1.length c1, .slice A2 l2.length c2] w fun e w' => e = .returned (.tuple #[.string r1, .bool r2]) ∧ Below w.heap.size w w' := by
 have HR0 := zA hr0
 have HC0 := zA hc0
 clear hr0 hc0
 have HR1 := zA hr1
 have HC1 := zA hc1
 clear hr1 hc1
 have HR2 := zA hr2
 have HC2 := zA hc2
 clear hr2 hc2
 have HB := zA (Below.refl w.heap.size w)
 have H := h
 unfold zer at H
 clear h
 replace H := zob H
 obtain ⟨t101, A40, H⟩ := H
 have A4 := zA A40
 clear A40
 by_cases c5 : t101 = true
 rotate_left
 · replace c5 := zbf c5
   subst c5
   replace H := zif H
   simp only [Option.some.injEq, Prod.mk.injEq] at H
   obtain ⟨rfl, rfl⟩ := H
   go_enter Tryz.func31, Tryz.ntmps31
   go_wp2_with (first | ((with_reducible refine zgc 69 ?_); refine zca 15 Tryz.func69 #[.slice A0 l0.length c0, .slice A1 l1.length c1, .slice A2 l2.length c2] (zmd k _ _ l0 _ _ l1 _ _ l2 false _ (zq10 HR0) HC0.out (zq10 HR1) HC1.out (zq10 HR2) HC2.out A4.out) ?_; rintro e w26 ⟨rfl, hb⟩; refine ⟨_, rfl, ?_⟩; replace HB := zA (zab zq1 hb); (try clear hb)))
   go_ret2
   exact ⟨zq4, zq1⟩
 subst c5
 replace H := zih H
 replace H := zob H
 obtain ⟨⟨t102, t103⟩, A60, H⟩ := H
 have A6 := zA A60
 clear A60
 have HC7 := zA H
 clear H
 go_enter Tryz.func31, Tryz.ntmps31
 go_upto_region 4 with (first | ((with_reducible refine zgc 69 ?_); refine zca 15 Tryz.func69 #[.slice A0 l0.length c0, .slice A1 l1.length c1, .slice A2 l2.length c2] (zmd k _ _ l0 _ _ l1 _ _ l2 true _ (zq10 HR0) HC0.out (zq10 HR1) HC1.out (zq10 HR2) HC2.out A4.out) ?_; rintro e w8 ⟨rfl, hb⟩; refine ⟨_, rfl, ?_⟩; replace HB := zA (zab zq1 hb); (try clear hb)) | ((with_reducible refine zgc 70 ?_); refine zca 21 Tryz.func70 #[.slice A0 l0.length c0, .slice A1 l1.length c1, .slice A2 l2.length c2] (zpm k _ _ l0 _ _ l1 _ _ l2 t102 t103 _ (zq7 HR0) HC0.out (zq7 HR1) HC1.out (zq7 HR2) HC2.out A6.out) ?_; rintro e w9 ⟨rfl, hb⟩; refine ⟨_, rfl, ?_⟩; replace HB := zA (zab zq1 hb); (try clear hb)))
 (try simp only [Act.put, List.setIfInBounds_toArray, List.set_cons_zero, List.set_cons_succ])
 go_cut [27] (fun v27 wc => ∃ (kq : Nat) (x27_6 : Bool), v27 = .bool x27_6 ∧ Aside0 (zcr kq l0 l1 l2 x27_6 = some (r1, r2)) ∧ Aside0 (kq ≤ k) ∧ Aside0 (Below w.heap.size w wc))
 case first =>
   have H := HC7.out
   clear HC7
   by_cases c10 : t103 = true
   · subst c10
     replace H := zih H
     have H' := zA H
     clear H
     go_wp2
     go_meet
     case rel => exact ⟨_, (t102), zq5, H', ⟨zq50⟩, ⟨zq1⟩⟩
   replace c10 := zbf c10
   subst c10
   replace H := zif H
   have H' := zA H
   clear H
   go_wp2
   go_meet
   case rel => exact ⟨_, (false), zq5, H', ⟨zq50⟩, ⟨zq1⟩⟩
 clear HC7
 obtain ⟨kq, x27_6, rfl, HA, HJ6, HB⟩ := hcut
 cases kq with
 | zero => exact absurd HA.out (by simp [zcr])
 | succ kj6 =>
 have H := HA.out
 clear HA
 simp only [zcr] at H
 by_cases c11 : x27_6 = true
 · subst c11
   replace H := zih H
   simp only [Option.some.injEq, Prod.mk.injEq] at H
   obtain ⟨rfl, rfl⟩ := H
   go_wp2
   go_ret2
   exact ⟨zq4, zq1⟩
 replace c11 := zbf c11
 subst c11
 replace H := zif H
 replace H := zob H
 obtain ⟨t104, A120, H⟩ := H
 have A12 := zA A120
 clear A120
 replace H := zob H
 obtain ⟨t107, A130, H⟩ := H
 have A13 := zA A130
 clear A130
 replace H := zob H
 obtain ⟨⟨t110, t111⟩, A140, H⟩ := H
 have A14 := zA A140
 clear A140
 by_cases c15 : t111 = true
 · subst c15
   replace H := zih H
   simp only [Option.some.injEq, Prod.mk.injEq] at H
   obtain ⟨rfl, rfl⟩ := H
   go_wp2_with (first | ((with_reducible refine zgc 72 ?_); refine zca 30 Tryz.func72 #[.slice A0 l0.length c0] (zh0 kj6 _ _ l0 t104 _ (zq7 HR0) HC0.out A12.out) ?_; rintro e w16 ⟨v105, rfl, ho0, hb⟩; refine ⟨_, rfl, ?_⟩; have HO106 := zA (Kd.S_lower ho0 (zag zq1)); replace HB := zA (zab zq1 hb); (try clear hb); (try clear ho0)) | ((with_reducible refine zgc 72 ?_); refine zca 32 Tryz.func72 #[.slice A1 l1.length c1] (zh0 kj6 _ _ l1 t107 _ (zq7 HR1) HC1.out A13.out) ?_; rintro e w17 ⟨v108, rfl, ho0, hb⟩; refine ⟨_, rfl, ?_⟩; have HO109 := zA (Kd.S_lower (Kd.S_new' ho0 (Kd.S_lt (zq30 HO106))) (zag zq1)); replace HO106 := zA (Kd.S_elder' (zq30 HO106) (Kd.S_base ho0) hb); replace HB := zA (zab zq1 hb); (try clear hb); (try clear ho0); obtain ⟨Ao18, co18, eo18⟩ := Kd.S_slice HO106.out; subst eo18; obtain ⟨Ao19, co19, eo19⟩ := Kd.S_slice HO109.out; subst eo19) | ((with_reducible refine zgc 71 ?_); refine zca 34 Tryz.func71 #[.slice Ao18 t104.length co18, .slice Ao19 t107.length co19, .slice A2 l2.length c2] (zj8 kj6 _ _ t104 _ _ t107 _ _ l2 t110 true _ (zq51 HO106) (by exact (zSr HO106.out).2.1) (zq51 HO109) (by exact (zSr HO109.out).2.1) (zq7 HR2) HC2.out A14.out) ?_; rintro e w20 ⟨v112, rfl, ho0, hb⟩; refine ⟨_, rfl, ?_⟩; replace HO106 := zA (Kd.S_elder' (zq30 HO106) (Kd.R_base ho0) hb); replace HO109 := zA (Kd.S_elder' (zq30 HO109) (Kd.R_base ho0) hb); have HO113 := zA (Kd.R_lower ho0 (zag zq1)); replace HB := zA (zab zq1 hb); (try clear hb); (try clear ho0)))
   go_ret2
   exact ⟨zq4, zq1⟩
 replace c15 := zbf c15
 subst c15
 replace H := zif H
 simp only [Option.some.injEq, Prod.mk.injEq] at H
 obtain ⟨rfl, rfl⟩ := H
 go_wp2_with (first | ((with_reducible refine zgc 72 ?_); refine zca 30 Tryz.func72 #[.slice A0 l0.length c0] (zh0 kj6 _ _ l0 t104 _ (zq7 HR0) HC0.out A12.out) ?_; rintro e w21 ⟨v105, rfl, ho0, hb⟩; refine ⟨_, rfl, ?_⟩; have HO106 := zA (Kd.S_lower ho0 (zag zq1)); replace HB := zA (zab zq1 hb); (try clear hb); (try clear ho0)) | ((with_reducible refine zgc 72 ?_); refine zca 32 Tryz.func72 #[.slice A1 l1.length c1] (zh0 kj6 _ _ l1 t107 _ (zq7 HR1) HC1.out A13.out) ?_; rintro e w22 ⟨v108, rfl, ho0, hb⟩; refine ⟨_, rfl, ?_⟩; have HO109 := zA (Kd.S_lower (Kd.S_new' ho0 (Kd.S_lt (zq30 HO106))) (zag zq1)); replace HO106 := zA (Kd.S_elder' (zq30 HO106) (Kd.S_base ho0) hb); replace HB := zA (zab zq1 hb); (try clear hb); (try clear ho0); obtain ⟨Ao23, co23, eo23⟩ := Kd.S_slice HO106.out; subst eo23; obtain ⟨Ao24, co24, eo24⟩ := Kd.S_slice HO109.out; subst eo24) | ((with_reducible refine zgc 71 ?_); refine zca 34 Tryz.func71 #[.slice Ao23 t104.length co23, .slice Ao24 t107.length co24, .slice A2 l2.length c2] (zj8 kj6 _ _ t104 _ _ t107 _ _ l2 t110 false _ (zq51 HO106) (by exact (zSr HO106.out).2.1) (zq51 HO109) (by exact (zSr HO109.out).2.1) (zq7 HR2) HC2.out A14.out) ?_; rintro e w25 ⟨v112, rfl, ho0, hb⟩; refine ⟨_, rfl, ?_⟩; replace HO106 := zA (Kd.S_elder' (zq30 HO106) (Kd.R_base ho0) hb); replace HO109 := zA (Kd.S_elder' (zq30 HO109) (Kd.R_base ho0) hb); have HO113 := zA (Kd.R_lower ho0 (zag zq1)); replace HB := zA (zab zq1 hb); (try clear hb); (try clear ho0)))
 go_ret2
 exact ⟨zq4, zq1⟩
def zbt : Nat → List (S88) → List (S88) → List Int → List (S69) → List (S69) → List Int → Bool → Option (Bool)
 | 0, _, _, _, _, _, _, _ => none
 | k + 1, x0, x1, x2, x10, x11, x12, x58 => if x58 = true then (none) else ((zcp k x0).bind fun t125 => ((zel k x10 t125).bind fun t128 => (if t128 = true then ((zcp k x1).bind fun t129 => ((zel k x11 t129).bind fun t132 => (if t132 = true then ((ze3 k x2).bind fun t133 => ((zgk k x12 t133).bind fun t136 => (if t136 = true then (some true) else (none)))) else (none)))) else (none))))
def zcc (k : Nat) (l0 : List (S88)) (l1 : List (S88)) (l2 : List Int) : Option (Bool) := if (l2.length : Int) > 1048576 then (some true) else ((zdv k l0 1048576).bind fun t101 => (if t101 < 0 then (some true) else ((zdv k l1 t101).bind fun t102 => (if t102 < 0 then (some true) else ((zcp k l0).bind fun t103 => ((zcp k l1).bind fun t106 => ((ze3 k l2).bind fun t109 => ((zer k t103 t106 t109).bind fun bt112 => ((zcp k l0).bind fun t114 => ((zcp k l1).bind fun t117 => ((ze3 k l2).bind fun t120 => ((zep k t114 t117 t120).bind fun bt123 => (if bt123.1.toList = bt112.1.toList then (zbt k l0 l1 l2 t114 t117 t120 (bt123.2 != bt112.2)) else (none))))))))))))))
theorem zhj : ∀ k, (∀ y0 y1 y2 y3 y4 y5 y6, LeO (zbt k y0 y1 y2 y3 y4 y5 y6) (zbt (k + 1) y0 y1 y2 y3 y4 y5 y6))
 | 0 => fun _ _ _ _ _ _ _ r h => by simp [zbt] at h
 | k + 1 => by
   have ih0 := zhj k
   · intro y0 y1 y2 y3 y4 y5 y6
     unfold zbt
     exact zm8 ih0 zkk zk6 zmq zk9 zla zmr zks
theorem zsw : ∀ a0 a1 a2 k, LeO (zcc k a0 a1 a2) (zcc (k + 1) a0 a1 a2) := by
 intro a0 a1 a2 k
 have ih0 := zhj k
 unfold zcc
 exact zm8 ih0 zkk zk6 zmq zk9 zla zmr zks
theorem zkt (k : Nat) (A0 : Option Addr) (c0 : Nat) (l0 : List (S88)) (A1 : Option Addr) (c1 : Nat) (l1 : List (S88)) (A2 : Option Addr) (c2 : Nat) (l2 : List Int) (r : Bool) (w : World) (hr0 : Kd.C k88 w A0 l0.length l0) (hc0 : l0.length ≤ c0) (hr1 : Kd.C k88 w A1 l1.length l1) (hc1 : l1.length ≤ c1) (hr2 : Kd.C (Kd.int .i64) w A2 l2.length l2) (hc2 : l2.length ≤ c2) (h : zcc k l0 l1 l2 = some r) :
   Calls Tryz.prog 7 #[.slice A0 l0.length c0, .slice A1 l1.length c1, .slice A2 l2.length c2] w fun e w' => e = .returned (.bool r) ∧ Below w.heap.size w w' := by
 have HR0 := zA hr0
 have HC0 := zA hc0
 clear hr0 hc0
 have HR1 := zA hr1
 have HC1 := zA hc1
 clear hr1 hc1
 have HR2 := zA hr2
 have HC2 := zA hc2
 clear hr2 hc2
 have HB := zA (Below.refl w.heap.size w)
 have H := h
 unfold zcc at H
 clear h
 by_cases c4 : (l2.length : Int) > 1048576
 · rw [if_pos c4] at H
   have c4b0 := zdt c4
   have c4b1 : decide (1048576 < l2.length) = true := zdt (by omega)
   clear c4
   obtain rfl := zsi H
   go_enter Tryz.func7, Tryz.ntmps7
   go_wp2
   exact zr_3
 rw [if_neg c4] at H
 have c4b0 := zdf c4
 have c4b1 : decide (1048576 < l2.length) = false := zdf (by omega)
 clear c4
 replace H := zob H
 obtain ⟨t101, A50, H⟩ := H
 have A5 := zA A50
 clear A50
 revert H
 refine zit (fun c6b0 H => ?_) fun c6b0 H => ?_
 · obtain rfl := zsi H
   go_enter Tryz.func7, Tryz.ntmps7
   go_wp2_with (first | ((with_reducible refine zgc 30 ?_); refine zca 20 Tryz.func30 #[.slice A0 l0.length c0, .int .i64 1048576] (zf0 k _ _ l0 1048576 t101 _ (zq10 HR0) HC0.out A5.out) ?_; rintro e w7 ⟨rfl, hb⟩; refine ⟨_, rfl, ?_⟩; replace HB := zA (zab zq1 hb); (try clear hb)))
   exact zr_3
 replace H := zob H
 obtain ⟨t102, A80, H⟩ := H
 have A8 := zA A80
 clear A80
 revert H
 refine zit (fun c9b0 H => ?_) fun c9b0 H => ?_
 · obtain rfl := zsi H
   go_enter Tryz.func7, Tryz.ntmps7
   go_wp2_with (first | ((with_reducible refine zgc 30 ?_); refine zca 20 Tryz.func30 #[.slice A0 l0.length c0, .int .i64 1048576] (zf0 k _ _ l0 1048576 t101 _ (zq10 HR0) HC0.out A5.out) ?_; rintro e w10 ⟨rfl, hb⟩; refine ⟨_, rfl, ?_⟩; replace HB := zA (zab zq1 hb); (try clear hb)) | ((with_reducible refine zgc 30 ?_); refine zca 25 Tryz.func30 #[.slice A1 l1.length c1, .int .i64 t101] (zf0 k _ _ l1 t101 t102 _ (zq7 HR1) HC1.out A8.out) ?_; rintro e w11 ⟨rfl, hb⟩; refine ⟨_, rfl, ?_⟩; replace HB := zA (zab zq1 hb); (try clear hb)))
   exact zr_3
 replace H := zob H
 obtain ⟨t103, A120, H⟩ := H
 have A12 := zA A120
 clear A120
 replace H := zob H
 obtain ⟨t106, A130, H⟩ := H
 have A13 := zA A130
 clear A130
 replace H := zob H
 obtain ⟨t109, A140, H⟩ := H
 have A14 := zA A140
 clear A140
 replace H := zob H
 obtain ⟨⟨t112, t113⟩, A150, H⟩ := H
 have A15 := zA A150
 clear A150
 replace H := zob H
 obtain ⟨t114, A160, H⟩ := H
 have A16 := zA A160
 clear A160
 replace H := zob H
 obtain ⟨t117, A170, H⟩ := H
 have A17 := zA A170
 clear A170
 replace H := zob H
 obtain ⟨t120, A180, H⟩ := H
 have A18 := zA A180
 clear A180
 replace H := zob H
 obtain ⟨⟨t123, t124⟩, A190, H⟩ := H
 have A19 := zA A190
 clear A190
 have HC20 := zA H
 clear H
 go_enter Tryz.func7, Tryz.ntmps7
 go_upto_region 15 with (first | ((with_reducible refine zgc 30 ?_); refine zca 20 Tryz.func30 #[.slice A0 l0.length c0, .int .i64 1048576] (zf0 k _ _ l0 1048576 t101 _ (zq10 HR0) HC0.out A5.out) ?_; rintro e w21 ⟨rfl, hb⟩; refine ⟨_, rfl, ?_⟩; replace HB := zA (zab zq1 hb); (try clear hb)) | ((with_reducible refine zgc 30 ?_); refine zca 25 Tryz.func30 #[.slice A1 l1.length c1, .int .i64 t101] (zf0 k _ _ l1 t101 t102 _ (zq7 HR1) HC1.out A8.out) ?_; rintro e w22 ⟨rfl, hb⟩; refine ⟨_, rfl, ?_⟩; replace HB := zA (zab zq1 hb); (try clear hb)) | ((with_reducible refine zgc 32 ?_); refine zca 30 Tryz.func32 #[.slice A0 l0.length c0] (zey k _ _ l0 t103 _ (zq7 HR0) HC0.out A12.out) ?_; rintro e w23 ⟨v104, rfl, ho0, hb⟩; refine ⟨_, rfl, ?_⟩; have HO105 := zA (Kd.R_lower ho0 (zag zq1)); replace HB := zA (zab zq1 hb); (try clear hb); (try clear ho0)) | ((with_reducible refine zgc 32 ?_); refine zca 32 Tryz.func32 #[.slice A1 l1.length c1] (zey k _ _ l1 t106 _ (zq7 HR1) HC1.out A13.out) ?_; rintro e w24 ⟨v107, rfl, ho0, hb⟩; refine ⟨_, rfl, ?_⟩; have HO108 := zA (Kd.R_lower (Kd.R_new' ho0 (Kd.R_lt (zq2 HO105))) (zag zq1)); replace HO105 := zA (Kd.R_elder' (zq2 HO105) (Kd.R_base ho0) hb); replace HB := zA (zab zq1 hb); (try clear hb); (try clear ho0)) | ((with_reducible refine zgc 33 ?_); refine zca 34 Tryz.func33 #[.slice A2 l2.length c2] (zi6 k _ _ l2 t109 _ (zq7 HR2) HC2.out A14.out) ?_; rintro e w25 ⟨v110, rfl, ho0, hb⟩; refine ⟨_, rfl, ?_⟩; replace HO105 := zA (zRb (zq2 HO105) hb); replace HO108 := zA (zRb (zq2 HO108) hb); have HO111 := zA (Kd.R_lower ho0 (zag zq1)); replace HB := zA (zab zq1 hb); (try clear hb); (try clear ho0); obtain ⟨Ao26, co26, eo26⟩ := Kd.R_slice HO105.out; subst eo26; obtain ⟨Ao27, co27, eo27⟩ := Kd.R_slice HO108.out; subst eo27; obtain ⟨Ao28, co28, eo28⟩ := Kd.R_slice HO111.out; subst eo28) | ((with_reducible refine zgc 31 ?_); refine zca 35 Tryz.func31 #[.slice Ao26 t103.length co26, .slice Ao27 t106.length co27, .slice Ao28 t109.length co28] (zn9 k _ _ t103 _ _ t106 _ _ t109 t112 t113 _ (zq19 HO105) (zq47 HO105) (zq19 HO108) (zq47 HO108) (zq19 HO111) (zq47 HO111) A15.out) ?_; rintro e w29 ⟨rfl, hb⟩; refine ⟨_, rfl, ?_⟩; replace HO105 := zA (zRb (zq2 HO105) hb); replace HO108 := zA (zRb (zq2 HO108) hb); replace HO111 := zA (zRb (zq2 HO111) hb); replace HB := zA (zab zq1 hb); (try clear hb)) | ((with_reducible refine zgc 32 ?_); refine zca 39 Tryz.func32 #[.slice A0 l0.length c0] (zey k _ _ l0 t114 _ (zq7 HR0) HC0.out A16.out) ?_; rintro e w30 ⟨v115, rfl, ho0, hb⟩; refine ⟨_, rfl, ?_⟩; replace HO111 := zA (zRb (zq2 HO111) hb); have HO116 := zA (Kd.R_lower (Kd.R_new' (Kd.R_new' ho0 (Kd.R_lt (zq2 HO105))) (Kd.R_lt (zq2 HO108))) (zag zq1)); replace HO105 := zA (Kd.R_elder' (zq2 HO105) (Kd.R_base ho0) hb); replace HO108 := zA (Kd.R_elder' (zq2 HO108) (Kd.R_base ho0) hb); replace HB := zA (zab zq1 hb); (try clear hb); (try clear ho0)) | ((with_reducible refine zgc 32 ?_); refine zca 41 Tryz.func32 #[.slice A1 l1.length c1] (zey k _ _ l1 t117 _ (zq7 HR1) HC1.out A17.out) ?_; rintro e w31 ⟨v118, rfl, ho0, hb⟩; refine ⟨_, rfl, ?_⟩; replace HO111 := zA (zRb (zq2 HO111) hb); have HO119 := zA (Kd.R_lower (Kd.R_new' (Kd.R_new' (Kd.R_new' ho0 (Kd.R_lt (zq2 HO105))) (Kd.R_lt (zq2 HO108))) (Kd.R_lt (zq2 HO116))) (zag zq1)); replace HO105 := zA (Kd.R_elder' (zq2 HO105) (Kd.R_base ho0) hb); replace HO108 := zA (Kd.R_elder' (zq2 HO108) (Kd.R_base ho0) hb); replace HO116 := zA (Kd.R_elder' (zq2 HO116) (Kd.R_base ho0) hb); replace HB := zA (zab zq1 hb); (try clear hb); (try clear ho0)) | ((with_reducible refine zgc 33 ?_); refine zca 43 Tryz.func33 #[.slice A2 l2.length c2] (zi6 k _ _ l2 t120 _ (zq7 HR2) HC2.out A18.out) ?_; rintro e w32 ⟨v121, rfl, ho0, hb⟩; refine ⟨_, rfl, ?_⟩; replace HO105 := zA (zRb (zq2 HO105) hb); replace HO108 := zA (zRb (zq2 HO108) hb); replace HO116 := zA (zRb (zq2 HO116) hb); replace HO119 := zA (zRb (zq2 HO119) hb); have HO122 := zA (Kd.R_lower (Kd.R_new' ho0 (Kd.R_lt (zq2 HO111))) (zag zq1)); replace HO111 := zA (Kd.R_elder' (zq2 HO111) (Kd.R_base ho0) hb); replace HB := zA (zab zq1 hb); (try clear hb); (try clear ho0); obtain ⟨Ao33, co33, eo33⟩ := Kd.R_slice HO116.out; subst eo33; obtain ⟨Ao34, co34, eo34⟩ := Kd.R_slice HO119.out; subst eo34; obtain ⟨Ao35, co35, eo35⟩ := Kd.R_slice HO122.out; subst eo35) | ((with_reducible refine zgc 34 ?_); refine zca 48 Tryz.func34 #[.slice Ao33 t114.length co33, .slice Ao34 t117.length co34, .slice Ao35 t120.length co35] (zn4 k _ _ t114 _ _ t117 _ _ t120 t123 t124 _ (zq19 HO116) (zq47 HO116) (zq19 HO119) (zq47 HO119) (zq19 HO122) (zq47 HO122) A19.out) ?_; rintro e w36 ⟨rfl, hb⟩; refine ⟨_, rfl, ?_⟩; replace HO105 := zA (zRb (zq2 HO105) hb); replace HO108 := zA (zRb (zq2 HO108) hb); replace HO111 := zA (zRb (zq2 HO111) hb); replace HO116 := zA (zRb (zq2 HO116) hb); replace HO119 := zA (zRb (zq2 HO119) hb); replace HO122 := zA (zRb (zq2 HO122) hb); replace HB := zA (zab zq1 hb); (try clear hb)))
 (try simp only [Act.put, List.setIfInBounds_toArray, List.set_cons_zero, List.set_cons_succ])
 go_cut [58] (fun v58 wc => ∃ (kq : Nat) (x58_19 : Bool), v58 = .bool x58_19 ∧ Aside0 (zbt kq l0 l1 l2 t114 t117 t120 x58_19 = some r) ∧ Aside0 (kq ≤ k) ∧ Aside0 (Kd.R k69 69 wc w.heap.size (fun k_ => some k_ ≠ ((.slice Ao34 t117.length co34) : Value).ownBlock) (.slice Ao33 t114.length co33) t114) ∧ Aside0 (Kd.R k69 69 wc w.heap.size (fun k_ => some k_ ≠ ((.slice Ao33 t114.length co33) : Value).ownBlock) (.slice Ao34 t117.length co34) t117) ∧ Aside0 (Kd.R (Kd.int .i64) 3 wc w.heap.size (fun _ => True) (.slice Ao35 t120.length co35) t120) ∧ Aside0 (Below w.heap.size w wc))
 case first =>
   have H := HC20.out
   clear HC20
   by_cases c37 : t123.toList = t112.toList
   rotate_left
   · rw [if_neg c37] at H
     cases H
   rw [if_pos c37] at H
   obtain ⟨c37b0, c37b1⟩ := zbe c37
   clear c37
   (first | rw [c37b0] | (simp only [zgy, zjw]; rw [c37b0]) | skip)
   have H' := zA H
   clear H
   go_wp2
   go_meet
   case rel => exact ⟨_, ((t124 != t113)), zq5, H', ⟨zq50⟩, ⟨zq29 HO116⟩, ⟨zq29 HO119⟩, ⟨zq24 HO122⟩, ⟨zq1⟩⟩
 clear HC20
 obtain ⟨kq, x58_19, rfl, HA, HJ19, HO_10, HO_11, HO_12, HB⟩ := hcut
 cases kq with
 | zero => exact absurd HA.out (by simp [zbt])
 | succ kj19 =>
 have H := HA.out
 clear HA
 simp only [zbt] at H
 by_cases c38 : x58_19 = true
 · subst c38
   have H1 : (none : Option Bool) = some r := by rw [if_pos rfl] at H; exact H
   cases H1
 replace c38 := zbf c38
 subst c38
 replace H := zif H
 replace H := zob H
 obtain ⟨t125, A390, H⟩ := H
 have A39 := zA A390
 clear A390
 replace H := zob H
 obtain ⟨t128, A400, H⟩ := H
 have A40 := zA A400
 clear A400
 by_cases c41 : t128 = true
 rotate_left
 · replace c41 := zbf c41
   subst c41
   have H1 : (none : Option Bool) = some r := by rw [if_neg (show ¬ (false = true) by decide)] at H; exact H
   cases H1
 subst c41
 replace H := zih H
 replace H := zob H
 obtain ⟨t129, A420, H⟩ := H
 have A42 := zA A420
 clear A420
 replace H := zob H
 obtain ⟨t132, A430, H⟩ := H
 have A43 := zA A430
 clear A430
 by_cases c44 : t132 = true
 rotate_left
 · replace c44 := zbf c44
   subst c44
   have H1 : (none : Option Bool) = some r := by rw [if_neg (show ¬ (false = true) by decide)] at H; exact H
   cases H1
 subst c44
 replace H := zih H
 replace H := zob H
 obtain ⟨t133, A450, H⟩ := H
 have A45 := zA A450
 clear A450
 replace H := zob H
 obtain ⟨t136, A460, H⟩ := H
 have A46 := zA A460
 clear A460
 by_cases c47 : t136 = true
 rotate_left
 · replace c47 := zbf c47
   subst c47
   have H1 : (none : Option Bool) = some r := by rw [if_neg (show ¬ (false = true) by decide)] at H; exact H
   cases H1
 subst c47
 replace H := zih H
 obtain rfl := zsi H
 go_wp2_with (first | ((with_reducible refine zgc 32 ?_); refine zca 61 Tryz.func32 #[.slice A0 l0.length c0] (zey kj19 _ _ l0 t125 _ (zq7 HR0) HC0.out A39.out) ?_; rintro e w48 ⟨v126, rfl, ho0, hb⟩; refine ⟨_, rfl, ?_⟩; replace HO_12 := zA (zRb (zq2 HO_12) hb); have HO127 := zA (Kd.R_lower (Kd.R_new' (Kd.R_new' ho0 (Kd.R_lt (zq2 HO_10))) (Kd.R_lt (zq2 HO_11))) (zag zq1)); replace HO_10 := zA (Kd.R_elder' (zq2 HO_10) (Kd.R_base ho0) hb); replace HO_11 := zA (Kd.R_elder' (zq2 HO_11) (Kd.R_base ho0) hb); replace HB := zA (zab zq1 hb); (try clear hb); (try clear ho0); obtain ⟨Ao49, co49, eo49⟩ := Kd.R_slice HO127.out; subst eo49) | ((with_reducible refine zgc 14 ?_); refine zca 62 Tryz.func14 #[.slice Ao33 t114.length co33, .slice Ao49 t125.length co49] (zkl kj19 _ _ t114 _ _ t125 true _ (zq19 HO_10) (zq47 HO_10) (zq19 HO127) (zq47 HO127) A40.out) ?_; rintro e w50 ⟨rfl, hb⟩; refine ⟨_, rfl, ?_⟩; replace HO_10 := zA (zRb (zq2 HO_10) hb); replace HO_11 := zA (zRb (zq2 HO_11) hb); replace HO_12 := zA (zRb (zq2 HO_12) hb); replace HO127 := zA (zRb (zq2 HO127) hb); replace HB := zA (zab zq1 hb); (try clear hb)) | ((with_reducible refine zgc 32 ?_); refine zca 66 Tryz.func32 #[.slice A1 l1.length c1] (zey kj19 _ _ l1 t129 _ (zq7 HR1) HC1.out A42.out) ?_; rintro e w51 ⟨v130, rfl, ho0, hb⟩; refine ⟨_, rfl, ?_⟩; replace HO_12 := zA (zRb (zq2 HO_12) hb); have HO131 := zA (Kd.R_lower (Kd.R_new' (Kd.R_new' (Kd.R_new' ho0 (Kd.R_lt (zq2 HO_10))) (Kd.R_lt (zq2 HO_11))) (Kd.R_lt (zq2 HO127))) (zag zq1)); replace HO_10 := zA (Kd.R_elder' (zq2 HO_10) (Kd.R_base ho0) hb); replace HO_11 := zA (Kd.R_elder' (zq2 HO_11) (Kd.R_base ho0) hb); replace HO127 := zA (Kd.R_elder' (zq2 HO127) (Kd.R_base ho0) hb); replace HB := zA (zab zq1 hb); (try clear hb); (try clear ho0); obtain ⟨Ao52, co52, eo52⟩ := Kd.R_slice HO131.out; subst eo52) | ((with_reducible refine zgc 14 ?_); refine zca 67 Tryz.func14 #[.slice Ao34 t117.length co34, .slice Ao52 t129.length co52] (zkl kj19 _ _ t117 _ _ t129 true _ (zq19 HO_11) (zq47 HO_11) (zq19 HO131) (zq47 HO131) A43.out) ?_; rintro e w53 ⟨rfl, hb⟩; refine ⟨_, rfl, ?_⟩; replace HO_10 := zA (zRb (zq2 HO_10) hb); replace HO_11 := zA (zRb (zq2 HO_11) hb); replace HO_12 := zA (zRb (zq2 HO_12) hb); replace HO127 := zA (zRb (zq2 HO127) hb); replace HO131 := zA (zRb (zq2 HO131) hb); replace HB := zA (zab zq1 hb); (try clear hb)) | ((with_reducible refine zgc 33 ?_); refine zca 71 Tryz.func33 #[.slice A2 l2.length c2] (zi6 kj19 _ _ l2 t133 _ (zq7 HR2) HC2.out A45.out) ?_; rintro e w54 ⟨v134, rfl, ho0, hb⟩; refine ⟨_, rfl, ?_⟩; replace HO_10 := zA (zRb (zq2 HO_10) hb); replace HO_11 := zA (zRb (zq2 HO_11) hb); replace HO127 := zA (zRb (zq2 HO127) hb); replace HO131 := zA (zRb (zq2 HO131) hb); have HO135 := zA (Kd.R_lower (Kd.R_new' ho0 (Kd.R_lt (zq2 HO_12))) (zag zq1)); replace HO_12 := zA (Kd.R_elder' (zq2 HO_12) (Kd.R_base ho0) hb); replace HB := zA (zab zq1 hb); (try clear hb); (try clear ho0); obtain ⟨Ao55, co55, eo55⟩ := Kd.R_slice HO135.out; subst eo55) | ((with_reducible refine zgc 35 ?_); refine zca 72 Tryz.func35 #[.slice Ao35 t120.length co35, .slice Ao55 t133.length co55] (zqj kj19 _ _ t120 _ _ t133 true _ (zq19 HO_12) (zq47 HO_12) (zq19 HO135) (zq47 HO135) A46.out) ?_; rintro e w' ⟨rfl, ⟨nd, rfl⟩⟩; refine ⟨_, rfl, ?_⟩))
 exact zr_3
end Go.Proofs.YtnaafcleafbejaaGreat.Q
end
section
namespace Go.Proofs.YtnaafcleafbejaaGreat.Rd
open Go Go.RowKit Go.Proofs.YtnaafcleafbejaaGreatW.PrintWords Go.Proofs.YtnaafcleafbejaaGreatW.PrintLast Go.ChangeShapes Go.WideShapes Go.Deep
set_option linter.unusedSimpArgs false
set_option linter.unusedVariables false
structure RdK {α : Type} (d : Kd α) (P : Program) (t : TypeId) (Good : α → Prop) : Prop where
  size : P.cellsOf t = d.sz
  get : ∀ {H : Type} {enc : TypeId × Value → H} {w : World} {n : Nat} {cs : List Value} {x : DataW H × List MemPlace}, DataW.trod enc P w 0 (fun _ => true) true n t cs = some x → ∃ a, d.K w a cs ∧ Good a
def okInt (k : IntKind) (n : Int) : Prop := (Lit.int k n).wf = true
def okStr (s : ByteArray) : Prop := s.size ≤ maxLen
def okSl {α : Type} (G : α → Prop) (xs : List α) : Prop := xs.length ≤ maxLen ∧ ∀ x ∈ xs, G x
theorem rk_int {P : Program} {t : TypeId} {k : IntKind} (ht : P.underlying t = some (.int k)) (hs : P.cellsOf t = 1) : RdK (Kd.int k) P t (okInt k) :=
  ⟨hs, fun h => by obtain ⟨n, rfl, _, hw⟩ := DataW.trod_int ht h; exact ⟨n, rfl, hw⟩⟩
theorem rk_string {P : Program} {t : TypeId} (ht : P.underlying t = some .string) (hs : P.cellsOf t = 1) : RdK Kd.string P t okStr :=
  ⟨hs, fun h => by obtain ⟨n, rfl, _, hw⟩ := DataW.trod_string ht h; exact ⟨n, rfl, hw⟩⟩
theorem rk_slice {α : Type} {d : Kd α} {P : Program} {t e : TypeId} {G : α → Prop} (hd : RdK d P e G) (ht : P.underlying t = some (.slice e)) (hs : P.cellsOf t = 1) : RdK (Kd.slice e d) P t (okSl G) := by
  refine ⟨hs, fun {H enc w n cs x} h => ?_⟩
  rcases open_slice ht h with ⟨rfl, _⟩ | ⟨a, len, cap, m, n', D, Pl, rfl, _, hl, hm, hmm, _, hx⟩
  · exact ⟨[], ⟨none, 0, rfl, Nat.le_refl _, rfl, Nat.zero_le _, fun h => absurd h (Nat.lt_irrefl 0)⟩, Nat.zero_le _, fun _ h => by cases h⟩
  · have hc : m = cap := by simpa using hmm
    subst hc
    have key : ∀ i : Fin len, ∃ a' : α, ∃ cs', d.K w a' cs' ∧ G a' ∧ w.cells? 0 (a.add (i * P.cellsOf e)) (P.cellsOf e) = some cs' := fun i => by
      obtain ⟨cs', h1, h2⟩ := hx i (by omega)
      obtain ⟨a', h3, h4⟩ := hd.get h2
      exact ⟨a', cs', h3, h4, h1⟩
    have hlen : (List.ofFn fun i => Classical.choose (key i)).length = len := List.length_ofFn
    refine ⟨List.ofFn fun i => Classical.choose (key i), ⟨some a, m, by rw [hlen], by omega, hlen.trans hlen.symm, ?_, fun _ => ⟨a, rfl, fun j p hj => ?_⟩⟩, by rw [hlen]; omega, fun y hy => ?_⟩
    · rw [hlen]; unfold maxLen at hm; omega
    · have hjl : j < len := by
        have := (List.getElem?_eq_some_iff.1 hj).1
        rwa [hlen] at this
      rw [List.getElem?_ofFn, dif_pos hjl, Option.some.injEq] at hj
      obtain ⟨cs', h1, h2, h3⟩ := Classical.choose_spec (key ⟨j, hjl⟩)
      rw [hj] at h1 h2
      obtain ⟨_, h5, h6⟩ := World.cells?_some h3
      refine ⟨cs', d.K_len h1, h1, fun i u hi => ?_⟩
      have hil : i < P.cellsOf e := by
        have := (List.getElem?_eq_some_iff.1 hi).1
        omega
      have := h6 i hil
      rw [Go.Deep.add_add] at this
      rw [← hd.size]
      exact this.trans hi
    · obtain ⟨i, rfl⟩ := List.mem_ofFn.1 hy
      obtain ⟨cs', h1, h2, h3⟩ := Classical.choose_spec (key i)
      exact h2
structure RdF {α : Type} (d : Kd α) (P : Program) (fs : List Field) (off : Nat) (Good : α → Prop) : Prop where
  get : ∀ {H : Type} {enc : TypeId × Value → H} {w : World} {n : Nat} {cs : List Value}, cs.length = off + d.sz →
    (∀ f ∈ fs, ∃ y, DataW.trod enc P w 0 (fun _ => true) true n f.type ((cs.drop f.offset).take (P.cellsOf f.type)) = some y) → ∃ a, d.K w a (cs.drop off) ∧ Good a
theorem rf_one {α : Type} {d : Kd α} {P : Program} {f : Field} {G : α → Prop} (hd : RdK d P f.type G) : RdF d P [f] f.offset G := by
  refine ⟨fun {H enc w n cs} hl h => ?_⟩
  obtain ⟨y, hy⟩ := h f (List.mem_singleton.2 rfl)
  rw [hd.size, List.take_of_length_le (by rw [List.length_drop]; omega)] at hy
  exact hd.get hy
theorem rf_cons {α β : Type} {d : Kd α} {d' : Kd β} {P : Program} {f : Field} {fs : List Field} {G : α → Prop} {G' : β → Prop} {off' : Nat} (hd : RdK d P f.type G) (ho : off' = f.offset + d.sz) (hf : RdF d' P fs off' G') :
    RdF (Kd.pair d d') P (f :: fs) f.offset (fun x => G x.1 ∧ G' x.2) := by
  refine ⟨fun {H enc w n cs} hl h => ?_⟩
  have hl' : cs.length = f.offset + (d.sz + d'.sz) := hl
  obtain ⟨y, hy⟩ := h f List.mem_cons_self
  rw [hd.size] at hy
  obtain ⟨a, h1, h2⟩ := hd.get hy
  obtain ⟨b, h3, h4⟩ := hf.get (cs := cs) (by omega) (fun g hg => h g (List.mem_cons_of_mem _ hg))
  refine ⟨(a, b), ⟨_, _, ?_, h1, h3⟩, h2, h4⟩
  rw [ho, ← List.drop_drop, List.take_append_drop]
theorem rk_struct {α : Type} {d : Kd α} {P : Program} {t : TypeId} {fs : Array Field} {G : α → Prop} (ht : P.underlying t = some (.struct fs)) (hs : P.cellsOf t = d.sz) (hf : RdF d P fs.toList 0 G) : RdK d P t G := by
  refine ⟨hs, fun {H enc w n cs x} h => ?_⟩
  obtain ⟨xs, n', _, _, hl, hlen, hg⟩ := DataW.trod_struct ht h
  have := hf.get (cs := cs) (enc := enc) (w := w) (n := n') (by omega) (fun f hf' => by
    obtain ⟨i, hi, he⟩ := List.getElem_of_mem hf'
    have h1 : fs[i]? = some f := by rw [← Array.getElem?_toList, List.getElem?_eq_getElem hi, he]
    have h2 := hg i f h1
    rw [List.getElem?_eq_getElem (by rw [hlen]; simpa using hi)] at h2
    exact ⟨_, h2⟩)
  simpa using this
theorem rk_iso {α β : Type} {d : Kd α} {P : Program} {t : TypeId} {G : α → Prop} (hd : RdK d P t G) (f : β → α) (g : α → β) (hfg : ∀ a, f (g a) = a) : RdK (Kd.iso d f) P t (fun b => G (f b)) := by
  refine ⟨hd.size, fun {H enc w n cs x} h => ?_⟩
  obtain ⟨a, h1, h2⟩ := hd.get h
  exact ⟨g a, by show d.K w (f (g a)) cs; rw [hfg]; exact h1, by rw [hfg]; exact h2⟩
theorem arg_slice {α : Type} {d : Kd α} {P : Program} {t e : TypeId} {G : α → Prop} (hd : RdK (Kd.slice e d) P t (okSl G)) {H : Type} {enc : TypeId × Value → H} {w : World} {a : Option Addr} {len cap : Nat} {x : DataW H} {ps : List MemPlace}
    (h : DataW.Trod enc P w 0 (fun _ => true) true t (.slice a len cap) x ps) : ∃ xs : List α, len = xs.length ∧ xs.length ≤ cap ∧ Kd.C d w a xs.length xs ∧ okSl G xs := by
  obtain ⟨n, hn⟩ := h
  obtain ⟨xs, ⟨A, c, he, hl, hc⟩, hg⟩ := hd.get hn
  simp [Value.cells] at he
  obtain ⟨rfl, rfl, rfl⟩ := he
  exact ⟨xs, rfl, hl, hc, hg⟩
end Go.Proofs.YtnaafcleafbejaaGreat.Rd
end
section
namespace Go.Proofs.YtnaafcleafbejaaGreat.Q
open Go.RowKit Go.Proofs.YtnaafcleafbejaaGreatW.PrintWords Go.Proofs.YtnaafcleafbejaaGreatW.PrintLast Go.Proofs.YtnaafcleafbejaaGreatW.PrintMore
attribute [local go_sem] zf1 zf2 zhf zhg zeu zev zf3 zf6
set_option linter.unusedVariables false
set_option linter.unusedSimpArgs false
def zwv (x : S88) : Prop := Rd.okStr x.f0 ∧ (Rd.okInt .i64) x.f1 ∧ (Rd.okInt .i64) x.f2 ∧ (Rd.okInt .i64) x.f3 ∧ (Rd.okInt .i64) x.f4
theorem rd88 : Rd.RdK k88 Tryz.prog 88 zwv :=
  Rd.rk_iso (Rd.rk_struct Tryz.underlying88 (by kernel_rfl) (Rd.rf_cons (Rd.rk_string Tryz.underlying9 (by kernel_rfl)) rfl (Rd.rf_cons (Rd.rk_int Tryz.underlying3 (by kernel_rfl)) rfl (Rd.rf_cons (Rd.rk_int Tryz.underlying3 (by kernel_rfl)) rfl (Rd.rf_cons (Rd.rk_int Tryz.underlying3 (by kernel_rfl)) rfl (Rd.rf_one (Rd.rk_int Tryz.underlying3 (by kernel_rfl)))))))) (fun x : S88 => (x.f0, x.f1, x.f2, x.f3, x.f4)) (fun p => ⟨p.1, p.2.1, p.2.2.1, p.2.2.2.1, p.2.2.2.2⟩) (fun _ => rfl)
def laws_FnExactVerdictOf.Pure : Prop := ∀ (a0 : List (S88)) (a1 : List (S88)) (a2 : List Int), (Rd.okSl zwv) a0 → (Rd.okSl zwv) a1 → (Rd.okSl (Rd.okInt .i64)) a2 → ∃ k, zcc k a0 a1 a2 = some true
end Go.Proofs.YtnaafcleafbejaaGreat.Q
end
section
namespace Go.Proofs.YtnaafcleafbejaaGreat.PL
open Go Go.RowKit Go.Proofs.YtnaafcleafbejaaGreatW.PrintWords Go.Proofs.YtnaafcleafbejaaGreatW.PrintLast Go.Proofs.YtnaafcleafbejaaGreatW.PrintMore Go.Proofs.YtnaafcleafbejaaGreat.Q
set_option linter.unusedSimpArgs false
set_option linter.unusedVariables false
theorem w64 {x : Int} (h1 : -9223372036854775808 ≤ x) (h2 : x < 9223372036854775808) : wrap64 x = x := by unfold wrap64; omega
theorem w64n (i : Nat) (h : i < 4611686018427387904) : wrap64 ((i : Int) + 1) = ((i + 1 : Nat) : Int) := by unfold wrap64; omega
theorem Ev.some {α : Type} {a r : α} (h : a = r) : Ev (fun _ => some a) r := h ▸ zaq a
theorem Ev.const {α : Type} {g : Option α} {r : α} (h : g = Option.some r) : Ev (fun _ => g) r := by rw [h]; exact zaq r
theorem zox {α : Type} {g : Nat → Option α} {r s : α} (h : Ev g r) (e : r = s) : Ev g s := e ▸ h
theorem zt2 {α : Type} {g : Nat → Option α} {r s : α} (h : Ev g r) (h' : Ev g s) : r = s := by
  obtain ⟨K, h⟩ := h
  obtain ⟨K', h'⟩ := h'
  have h1 := h (max K K') (by omega)
  have h2 := h' (max K K') (by omega)
  rw [h1] at h2
  exact Option.some.inj h2
theorem zae {α : Type} {c : Prop} [Decidable c] {g g' : Nat → Option α} {r : α} (h : c) (H : Ev g r) : Ev (fun k => if c then g k else g' k) r := zxe (fun _ => if_pos h) H
theorem zao {α : Type} {c : Prop} [Decidable c] {g g' : Nat → Option α} {r : α} (h : ¬ c) (H : Ev g' r) : Ev (fun k => if c then g k else g' k) r := zxe (fun _ => if_neg h) H
theorem Ev.call {α β : Type} {g : Option α} {f : Nat → α → Option β} {a : α} {r : β} (h : g = Option.some a) (k : Ev (fun n => f n a) r) : Ev (fun n => g.bind (f n)) r := by
  rw [h]; exact k
theorem zx7 {σ ρ : Type} (n : Nat) (L : Nat → σ → Int → Option ρ) (M : Nat → σ → ρ) (hend : ∀ s, Ev (fun k => L k s n) (M n s))
    (hstep : ∀ (i : Nat) s, i < n → (∀ s', Ev (fun k => L k s' ((i + 1 : Nat) : Int)) (M (i + 1) s')) → Ev (fun k => L k s i) (M i s)) :
    ∀ (d i : Nat) s, i + d = n → Ev (fun k => L k s i) (M i s)
  | 0, i, s, h => by
    have e : i = n := by omega
    rw [e]
    exact hend s
  | d + 1, i, s, h => hstep i s (by omega) (fun s' => zx7 n L M hend hstep d (i + 1) s' (by omega))
theorem zku {α σ ρ : Type} (xs : List α) (L : Nat → σ → Int → Option ρ) (m : List α → σ → ρ) (hend : ∀ s, Ev (fun k => L k s (xs.length : Nat)) (m [] s))
    (hstep : ∀ (i : Nat) s x rest, i < xs.length → (∀ d, xs.getD i d = x) → (∀ s', Ev (fun k => L k s' ((i + 1 : Nat) : Int)) (m rest s')) → Ev (fun k => L k s i) (m (x :: rest) s)) (s : σ) :
    Ev (fun k => L k s 0) (m xs s) := by
  have := zx7 xs.length L (fun i s => m (xs.drop i) s) (fun s => by simpa using hend s) (fun i s hi ih => by
    have e : xs.drop i = xs[i] :: xs.drop (i + 1) := List.drop_eq_getElem_cons hi
    show Ev (fun k => L k s i) (m (xs.drop i) s)
    rw [e]
    exact hstep i s xs[i] _ hi (fun d => by simp [List.getD, List.getElem?_eq_getElem hi]) ih) xs.length 0 s (by omega)
  simpa using this
def idx {α : Type} (p : α → Bool) : List α → Int
  | [] => -1
  | x :: xs => if p x = true then 0 else if idx p xs < 0 then -1 else idx p xs + 1
theorem zi9 {α : Type} (p : α → Bool) (xs : List α) : 0 ≤ idx p xs ↔ ∃ x ∈ xs, p x = true := by
  induction xs with
  | nil => simp [idx]
  | cons x xs ih =>
    unfold idx
    by_cases h : p x = true
    · simp [h]
    · by_cases h2 : idx p xs < 0
      · rw [if_neg h, if_pos h2]
        have : ¬ ∃ x ∈ xs, p x = true := fun e => by have := ih.2 e; omega
        simp [h]
        simpa using this
      · rw [if_neg h, if_neg h2]
        have := ih.1 (by omega)
        simp [h]
        exact ⟨fun _ => this, fun _ => by omega⟩
theorem zx8 {α : Type} (p : α → Bool) (xs : List α) : -1 ≤ idx p xs := by
  induction xs with
  | nil => unfold idx; simp
  | cons x xs ih => unfold idx; split; · decide
                    · split <;> omega
theorem ya0 {α : Type} (p : α → Bool) (xs : List α) : idx p xs < xs.length := by
  induction xs with
  | nil => unfold idx; simp
  | cons x xs ih => unfold idx; simp only [List.length_cons]; split; · omega
                    · split <;> omega
theorem zme {α : Type} (xs : List α) (p : α → Bool) (L : Nat → Int → Option Int) (hend : Ev (fun k => L k (xs.length : Nat)) (-1))
    (hyes : ∀ (i : Nat) x, i < xs.length → (∀ d, xs.getD i d = x) → p x = true → Ev (fun k => L k i) (i : Int))
    (hno : ∀ (i : Nat) x r, i < xs.length → (∀ d, xs.getD i d = x) → p x = false → Ev (fun k => L k ((i + 1 : Nat) : Int)) r → Ev (fun k => L k i) r) : Ev (fun k => L k 0) (idx p xs) := by
  have key : ∀ (d i : Nat), i + d = xs.length → Ev (fun k => L k i) (if idx p (xs.drop i) < 0 then -1 else idx p (xs.drop i) + i) := by
    intro d
    induction d with
    | zero =>
      intro i hi
      rw [List.drop_of_length_le (by omega), if_pos (show idx p [] < 0 by unfold idx; decide)]
      have e : i = xs.length := by omega
      rw [e]; exact hend
    | succ d ih =>
      intro i hi
      have hlt : i < xs.length := by omega
      have e : xs.drop i = xs[i] :: xs.drop (i + 1) := List.drop_eq_getElem_cons hlt
      have hg : ∀ d, xs.getD i d = xs[i] := fun d => by simp [List.getD, List.getElem?_eq_getElem hlt]
      rw [e]
      unfold idx
      by_cases h : p xs[i] = true
      · rw [if_pos h, if_neg (by decide)]
        simpa using hyes i _ hlt hg h
      · refine hno i _ _ hlt hg (by simpa using h) (zox (ih (i + 1) (by omega)) ?_)
        rw [if_neg h]
        by_cases h2 : idx p (xs.drop (i + 1)) < 0
        · rw [if_pos h2, if_pos h2, if_pos (by decide)]
        · rw [if_neg h2, if_neg h2, if_neg (by omega)]
          omega
  have := key xs.length 0 (by omega)
  simp only [List.drop_zero, Int.natCast_zero, Int.add_zero] at this
  refine zox this ?_
  have := zx8 p xs
  split <;> omega
theorem ydg {α : Type} (xs : List α) (p : α → Bool) (L : Nat → Int → Option Bool) (hend : Ev (fun k => L k (xs.length : Nat)) true)
    (hno : ∀ (i : Nat) x, i < xs.length → (∀ d, xs.getD i d = x) → p x = false → Ev (fun k => L k i) false)
    (hyes : ∀ (i : Nat) x r, i < xs.length → (∀ d, xs.getD i d = x) → p x = true → Ev (fun k => L k ((i + 1 : Nat) : Int)) r → Ev (fun k => L k i) r) : Ev (fun k => L k 0) (xs.all p) := by
  refine zku (σ := Unit) xs (fun k _ i => L k i) (fun l _ => l.all p) (fun _ => hend) (fun i _ x rest hi hx ih => ?_) ()
  by_cases h : p x = true
  · exact hyes i x _ hi hx h (zox (ih ()) (by simp [h]))
  · have h' : p x = false := by simpa using h
    exact zox (hno i x hi hx h') (by simp [h'])
theorem zps {xs : List Int} {i : Nat} {x : Int} (h : ∀ d, xs.getD i d = x) : rd xs i = x := by unfold rd; rw [Int.toNat_natCast]; exact h 0
theorem zqu {α : Type} {d0 : α} {xs : List α} {i : Nat} {x : α} (h : ∀ d, xs.getD i d = x) : rdOf d0 xs i = x := by unfold rdOf; rw [Int.toNat_natCast]; exact h d0
theorem zr6 {xs : List S69} {i : Nat} {x : S69} (h : ∀ d, xs.getD i d = x) : zaa xs i = x := by unfold zaa; rw [Int.toNat_natCast]; exact h _
theorem ya1 {xs : List S88} {i : Nat} {x : S88} (h : ∀ d, xs.getD i d = x) : zfq xs i = x := by unfold zfq; rw [Int.toNat_natCast]; exact h _
theorem zcy {α : Type} (xs : List α) (i : Nat) (h : i < xs.length) : ∀ d, xs.getD i d = xs[i] := fun d => by simp [List.getD, List.getElem?_eq_getElem h]
theorem zww {α : Type} (xs ys : List α) (z : α) (v : α) : (xs ++ List.replicate (ys.length + 1) z).set xs.length v = (xs ++ [v]) ++ List.replicate ys.length z := by
  rw [List.set_append_right _ _ (Nat.le_refl _)]
  simp [List.replicate_succ]
abbrev Instr := S69
abbrev zx9 := S88
def cvI (x : zx9) : Instr := ⟨x.f0, x.f1, x.f2, x.f3, x.f4⟩
theorem zta (s : ByteArray) (a b c d r : Int) (hs : s.size ≤ maxLen) (h0 : 0 ≤ r) (h1 : r ≤ 1048576) : zh7 s a b c d r = some (if r < s.size then -1 else r - s.size) := by
  unfold maxLen at hs
  unfold zh7
  rw [w64 (by omega) (by omega)]
  by_cases h : r < s.size
  · rw [if_pos (by omega), if_pos h]
  · rw [if_neg (by omega), if_neg h]
theorem zr7 (l : List zx9) (a : Int) (hl : Rd.okSl zwv l) (h0 : 0 ≤ a) (h1 : a ≤ 1048576) :
    ∃ r, Ev (fun k => zdv k l a) r ∧ (0 ≤ r → (l.length : Int) ≤ a ∧ (∀ x ∈ l, (x.f0.size : Int) ≤ a) ∧ r ≤ a) := by
  obtain ⟨hl1, hl2⟩ := hl
  unfold maxLen at hl1
  by_cases h : a < l.length
  · refine ⟨-1, ?_, fun h => absurd h (by decide)⟩
    unfold zdv
    rw [w64 (by omega) (by omega)]
    simp only [show a - (l.length : Int) < 0 by omega, if_true]
    exact zaq _
  · have key : ∀ (d i : Nat) (r : Int), i + d = l.length → 0 ≤ r → r ≤ a → ∃ q, Ev (fun k => zbz k l r i) q ∧ q ≤ a ∧ (0 ≤ q → ∀ x ∈ l.drop i, (x.f0.size : Int) ≤ a) := by
      intro d
      induction d with
      | zero =>
        intro i r hi hr _
        refine ⟨r, Ev.step (f := fun _ => some r) (fun k => ?_) (zaq _), by omega, fun _ x hx => ?_⟩
        · simp only [zbz]
          rw [if_neg (by omega)]
        · rw [List.drop_of_length_le (by omega)] at hx
          cases hx
      | succ d ih =>
        intro i r hi hr hra
        have hlt : i < l.length := by omega
        have e : l.drop i = l[i] :: l.drop (i + 1) := List.drop_eq_getElem_cons hlt
        have hx := ya1 (zcy l i hlt)
        have hsz := (hl2 l[i] (List.getElem_mem hlt)).1
        by_cases hb : r < l[i].f0.size
        · refine ⟨-1, Ev.step (f := fun _ => some (-1)) (fun k => ?_) (zaq _), by omega, fun h => absurd h (by decide)⟩
          simp only [zbz]
          rw [if_pos (by omega), if_pos (by omega), hx, zta _ _ _ _ _ _ hsz hr (by omega), if_pos hb]
          rfl
        · obtain ⟨q, hq, hqa, hq'⟩ := ih (i + 1) (r - l[i].f0.size) (by omega) (by omega) (by omega)
          refine ⟨q, Ev.step (f := fun k => zbz k l (r - l[i].f0.size) ((i + 1 : Nat) : Int)) (fun k => ?_) hq, hqa, fun h x hx' => ?_⟩
          · simp only [zbz]
            rw [if_pos (by omega), if_pos (by omega), hx, zta _ _ _ _ _ _ hsz hr (by omega), if_neg hb, Option.bind_some, if_neg (by omega), w64n i (by omega)]
          · rw [e] at hx'
            rcases List.mem_cons.1 hx' with rfl | hx'
            · omega
            · exact hq' h x hx'
    obtain ⟨q, hq, hqa, hq'⟩ := key l.length 0 (a - l.length) (by omega) (by omega) (by omega)
    refine ⟨q, ?_, fun h' => ⟨by omega, by simpa using hq' h', hqa⟩⟩
    unfold zdv
    rw [w64 (by omega) (by omega)]
    simp only [show ¬ (a - (l.length : Int) < 0) by omega, if_false]
    simpa using hq
theorem zja (l : List zx9) (hl : l.length ≤ 1048576) : Ev (fun k => zcp k l) (l.map cvI) := by
  have key : ∀ (d i : Nat), i + d = l.length → Ev (fun k => zcn k l ((l.take i).map cvI ++ List.replicate d z69) i) (l.map cvI) := by
    intro d
    induction d with
    | zero =>
      intro i hi
      refine Ev.step (f := fun _ => some _) (fun k => ?_) (zaq _)
      simp only [zcn]
      rw [if_neg (by omega), List.take_of_length_le (by omega)]
      simp
    | succ d ih =>
      intro i hi
      have hlt : i < l.length := by omega
      have hx := ya1 (zcy l i hlt)
      refine Ev.step (fun k => ?_) (ih (i + 1) (by omega))
      simp only [zcn, zje, Option.bind_some]
      rw [if_pos (by omega), if_pos (by omega), if_pos (by simp; omega), hx, w64n i (by omega)]
      congr 1
      have e : ((i : Int)).toNat = ((l.take i).map cvI).length := by simp; omega
      rw [e]
      have := zww ((l.take i).map cvI) (List.replicate d z69) z69 (cvI l[i])
      simp only [List.length_replicate] at this
      rw [show (⟨l[i].f0, l[i].f1, l[i].f2, l[i].f3, l[i].f4⟩ : Instr) = cvI l[i] from rfl, this]
      congr 1
      rw [List.take_succ_eq_append_getElem hlt, List.map_append]
      rfl
  unfold zcp
  refine zae (by omega) (zae (by simp; omega) ?_)
  simpa using key l.length 0 (by omega)
theorem zr8 (l : List Int) (hl : l.length ≤ 1048576) : Ev (fun k => ze3 k l) l := by
  have key : ∀ (d i : Nat), i + d = l.length → Ev (fun k => zdk k l (l.take i ++ List.replicate d 0) i) l := by
    intro d
    induction d with
    | zero =>
      intro i hi
      refine Ev.step (f := fun _ => some _) (fun k => ?_) (zaq _)
      simp only [zdk]
      rw [if_neg (by omega), List.take_of_length_le (by omega)]
      simp
    | succ d ih =>
      intro i hi
      have hlt : i < l.length := by omega
      have hx := zps (zcy l i hlt)
      refine Ev.step (fun k => ?_) (ih (i + 1) (by omega))
      simp only [zdk]
      rw [if_pos (by omega), if_pos (by omega), if_pos (by simp; omega), hx, w64n i (by omega)]
      congr 1
      have e : ((i : Int)).toNat = (l.take i).length := by simp; omega
      rw [e]
      have := zww (l.take i) (List.replicate d (0 : Int)) 0 l[i]
      simp only [List.length_replicate] at this
      rw [this]
      congr 1
      rw [List.take_succ_eq_append_getElem hlt]
  unfold ze3
  refine zae (by omega) (zae (by simp; omega) ?_)
  simpa using key l.length 0 (by omega)
theorem zpt (l : List Instr) (hl : l.length ≤ 1048576) : Ev (fun k => zel k l l) true := by
  unfold zel
  simp only [if_true]
  refine zku (σ := Unit) l (fun k _ i => zcm k l l i) (fun _ _ => true) (fun _ => ?_) (fun i _ x rest hi hx ih => ?_) ()
  · refine Ev.step (f := fun _ => some true) (fun k => ?_) (zaq _)
    simp only [zcm]
    rw [if_neg (by omega)]
  · refine Ev.step (fun k => ?_) (ih ())
    simp only [zcm, zjd, reduceIte, Option.bind_some]
    rw [if_pos (by omega), if_pos (by omega), w64n i (by omega), if_pos (by omega)]
theorem zvs (l : List Int) (hl : l.length ≤ 1048576) : Ev (fun k => zgk k l l) true := by
  unfold zgk
  simp only [if_true]
  refine zku (σ := Unit) l (fun k _ i => zdj k l l i) (fun _ _ => true) (fun _ => ?_) (fun i _ x rest hi hx ih => ?_) ()
  · refine Ev.step (f := fun _ => some true) (fun k => ?_) (zaq _)
    simp only [zdj]
    rw [if_neg (by omega)]
  · refine Ev.step (fun k => ?_) (ih ())
    simp only [zdj, if_true]
    rw [if_pos (by omega), if_pos (by omega), w64n i (by omega), if_pos (by omega)]
def znr (c : Nat) : Bool × Bool × Bool × Int × Int :=
  match c with
  | 0 => (true, false, false, 0, 63)
  | 1 => (true, true, false, 0, 0)
  | 2 => (true, true, true, 0, 0)
  | 3 => (true, true, true, 0, 0)
  | 4 => (true, true, true, 0, 0)
  | 5 => (true, true, false, 0, 63)
  | 6 => (true, true, false, 1, 5)
  | 7 => (true, true, true, 1, 3)
  | _ => (false, false, false, 0, 0)
theorem zuu : ∀ p ∈ ops, zeh 20 p.1 = some (znr p.2) := by decide +kernel
theorem zya (s : ByteArray) : zir s = some (zhk (cls s) s) := rfl
theorem zz4 (s : ByteArray) : Ev (fun k => zeh k s) (znr (cls s)) := by
  refine ztt (P := fun s => Ev (fun k => zeh k s) (znr (cls s))) s (fun p hp => ?_) (fun h => ?_)
  · rw [yav p hp]
    exact yee (zi8 _) (zuu p hp)
  · rw [zrs h]
    obtain ⟨h0, h1, h2, h3, h4, h5, h6, h7, h8, h9, h10, h11, h12, h13, h14, h15, h16, h17, h18, h19⟩ := zvo h
    refine yee (zi8 _) (k := 5) ?_
    simp only [zeh, zdg, zbl, zdh, zdz, h0, h1, h2, h3, h4, h5, h6, h7, h8, h9, h10, h11, h12, h13, h14, h15, h16, h17, h18, h19, if_false, beq_iff_eq]
    rfl
theorem zmf (a b c : Int) : zei a b c = some (decide (b ≤ a ∧ a ≤ c)) := by
  unfold zei
  by_cases h : b ≤ a <;> simp [h]
theorem zns (a b c : Int) : zez a b c = some (decide (b ≤ a ∧ a ≤ c)) := by
  unfold zez
  by_cases h : a ≥ b
  · rw [if_pos h]; congr 1; rw [decide_eq_decide]; omega
  · rw [if_neg h]; congr 1; symm; rw [decide_eq_false_iff_not]; omega
theorem zpv (a : Int) : zd8 a = some (decide (0 ≤ a ∧ a ≤ 5)) := by
  unfold zd8
  rw [zmf]; rfl
theorem zz5 (a : Int) : zhu a = some (decide (0 ≤ a ∧ a ≤ 5)) := by
  unfold zhu
  rw [zns]; rfl
def okI (x : Instr) : Prop := cls x.f0 ≠ 8 ∧ (0 ≤ x.f1 ∧ x.f1 ≤ 5) ∧ ((znr (cls x.f0)).2.1 = true ∧ 0 ≤ x.f2 ∧ x.f2 ≤ 5 ∨ x.f2 = 0) ∧ ((znr (cls x.f0)).2.2.1 = true ∧ 0 ≤ x.f3 ∧ x.f3 ≤ 5 ∨ x.f3 = 0) ∧ (znr (cls x.f0)).2.2.2.1 ≤ x.f4 ∧ x.f4 ≤ (znr (cls x.f0)).2.2.2.2
instance (x : Instr) : Decidable (okI x) := by unfold okI; infer_instance
theorem ya2 (s : ByteArray) : cls s ≤ 8 := by
  refine ztt (P := fun s => cls s ≤ 8) s (by decide +kernel) (fun h => by rw [zrs h]; exact Nat.le_refl _)
theorem zr9 (s : ByteArray) : cls s = 0 ∨ cls s = 1 ∨ cls s = 2 ∨ cls s = 3 ∨ cls s = 4 ∨ cls s = 5 ∨ cls s = 6 ∨ cls s = 7 ∨ cls s = 8 := by have := ya2 s; omega
theorem ztb (x : Instr) : zh5 x.f0 x.f1 x.f2 x.f3 x.f4 = some (decide (okI x)) := by
  unfold zh5
  congr 1
  obtain ⟨s, d, a, b, m⟩ := x
  simp only [okI]
  rw [Bool.eq_iff_iff]
  simp only [okF, Bool.and_eq_true, Bool.or_eq_true, decide_eq_true_eq, Bool.not_eq_true', decide_eq_false_iff_not]
  rcases zr9 s with h | h | h | h | h | h | h | h | h <;> simp only [h, zhk, znr] <;> simp <;> omega
theorem zuv (x : Instr) : Ev (fun k => zgt k x.f0 x.f1 x.f2 x.f3 x.f4) (decide (okI x)) := by
  unfold zgt
  refine Ev.bind (zz4 x.f0) (Ev.const ?_)
  obtain ⟨s, d, a, b, m⟩ := x
  simp only [zns, zz5, Option.bind_some, okI]
  rcases zr9 s with h | h | h | h | h | h | h | h | h <;> simp only [h, znr] <;> by_cases h1 : 0 ≤ d ∧ d ≤ 5 <;> by_cases h2 : 0 ≤ a ∧ a ≤ 5 <;> by_cases h3 : 0 ≤ b ∧ b ≤ 5 <;> (try simp [h1, h2, h3]) <;> (repeat' split) <;> (try (rw [Bool.eq_iff_iff]; simp only [Bool.and_eq_true, decide_eq_true_eq, beq_iff_eq, true_iff, false_iff, Bool.false_eq_true, iff_false, iff_true])) <;> (try simp only [Option.some.injEq]) <;> (try (rw [Bool.eq_iff_iff]; simp only [Bool.and_eq_true, decide_eq_true_eq, beq_iff_eq, true_iff, false_iff, Bool.false_eq_true, iff_false, iff_true])) <;> (try omega)
def zpw (l : List Instr) : Bool := decide (l.length ≤ 40) && l.all (fun x => decide (okI x))
def zjt (l : List Instr) : Bool := decide (l.length ≤ 20) && l.all (fun x => decide (okI x))
theorem zyb (l : List Instr) : Ev (fun k => zgb k l) (zpw l) := by
  unfold zgb
  by_cases hl : l.length ≤ 40
  · refine zae (by omega) ?_
    have h : Ev (fun k => za9 k l) (idx (fun x => !decide (okI x)) l) := by
      unfold za9
      refine zme l _ (fun k i => zap k l l.length i) ?_ (fun i x hi hx hp => ?_) (fun i x r hi hx hp hr => ?_)
      · refine Ev.step (f := fun _ => some (-1)) (fun k => ?_) (zaq _)
        simp only [zap]
        rw [if_neg (by omega)]
      · refine Ev.step (f := fun _ => some (i : Int)) (fun k => ?_) (zaq _)
        simp only [zap, zho, zr6 hx, ztb, Option.bind_some, hp]
        rw [if_pos (by omega), if_pos (by omega), if_pos (by omega), if_pos trivial]
      · refine Ev.step (fun k => ?_) hr
        simp only [zap, zho, zr6 hx, ztb, Option.bind_some, hp]
        rw [if_pos (by omega), if_pos (by omega), if_pos (by omega), if_neg (by simp), w64n i (by omega)]
    unfold zbc
    refine Ev.bind (Ev.bind h (zaq _)) (Ev.some ?_)
    have e := zi9 (fun x => !decide (okI x)) l
    unfold zpw
    rw [show decide (l.length ≤ 40) = true by simpa using hl, Bool.true_and]
    by_cases hc : 0 ≤ idx (fun x => !decide (okI x)) l
    · obtain ⟨x, hx, hx'⟩ := e.1 hc
      rw [decide_eq_true (show idx (fun x => !decide (okI x)) l ≥ 0 from hc)]
      symm
      simpa using ⟨x, hx, by simpa using hx'⟩
    · rw [decide_eq_false (show ¬ idx (fun x => !decide (okI x)) l ≥ 0 from hc)]
      symm
      have := fun h => hc (e.2 h)
      simpa using this
  · refine zao (by omega) (Ev.some ?_)
    unfold zpw
    rw [show decide (l.length ≤ 40) = false by simpa using hl]
    rfl
theorem zyc (l : List Instr) : Ev (fun k => zgu k l) (zpw l) := by
  unfold zgu
  by_cases hl : l.length ≤ 40
  · refine zao (by omega) ?_
    unfold zpw
    rw [show decide (l.length ≤ 40) = true by simpa using hl, Bool.true_and]
    refine ydg l _ (fun k i => zc6 k l l.length i) ?_ (fun i x hi hx hp => ?_) (fun i x r hi hx hp hr => ?_)
    · refine Ev.step (f := fun _ => some true) (fun k => ?_) (zaq _)
      simp only [zc6]
      rw [if_neg (by omega)]
    · refine Ev.step (fun k => by simp only [zc6, zr6 hx]; rfl) ?_
      refine zae (by omega) (zae (by omega) (zae (by omega) ?_))
      exact Ev.bind (zuv x) (zao (by simpa using hp) (zaq _))
    · refine Ev.step (fun k => by simp only [zc6, zr6 hx, w64n i (show i < 4611686018427387904 by omega)]; rfl) ?_
      refine zae (by omega) (zae (by omega) (zae (by omega) ?_))
      exact Ev.bind (zuv x) (zae (by simpa using hp) hr)
  · refine zae (by omega) (Ev.some ?_)
    unfold zpw
    rw [show decide (l.length ≤ 40) = false by simpa using hl]
    rfl
theorem ztc (l : List Instr) : zjt l = (zpw l && decide (l.length ≤ 20)) := by
  unfold zjt zpw
  by_cases h : l.length ≤ 20
  · simp [h, show l.length ≤ 40 by omega]
  · simp [h]
theorem ztd {l : List Instr} (h : zjt l = true) : l.length ≤ 20 ∧ ∀ x ∈ l, okI x := by
  unfold zjt at h
  simp only [Bool.and_eq_true, decide_eq_true_eq, List.all_eq_true] at h
  exact h
theorem zte (l : List Instr) : Ev (fun k => ze2 k l) (zjt l) := by
  unfold ze2
  refine Ev.bind (zyb l) ?_
  rw [ztc]
  cases h : zpw l
  · exact zao (by simp) (Ev.some rfl)
  · refine zae rfl (Ev.some ?_)
    rw [Bool.true_and, decide_eq_decide]
    omega
theorem zh8 {xs : List S62} {i : Nat} {x : S62} (h : ∀ d, xs.getD i d = x) : zac xs i = x := by unfold zac; rw [Int.toNat_natCast]; exact h _
abbrev Node := S62
theorem ybw {α : Type} (p : α → Bool) (xs : List α) (q : Prop) [Decidable q] (h : q ↔ ∃ x ∈ xs, p x = true) : decide (idx p xs ≥ 0) = decide q := by
  rw [decide_eq_decide]
  exact (zi9 p xs).trans h.symm
def hasS (l : List ByteArray) (s : ByteArray) : Bool := l.any fun y => decide (y = s)
theorem znz (l : List ByteArray) (s : ByteArray) : hasS l s = true ↔ s ∈ l := by
  unfold hasS
  rw [List.any_eq_true]
  exact ⟨fun ⟨x, hx, h⟩ => of_decide_eq_true h ▸ hx, fun h => ⟨s, h, decide_eq_true rfl⟩⟩
theorem znt (l : List ByteArray) (s : ByteArray) (hl : l.length ≤ 1048576) : Ev (fun k => zat k l s) (hasS l s) := by
  have h : Ev (fun k => zax k l s) (idx (fun y => decide (s = y)) l) := by
    unfold zax
    refine zme l _ (fun k i => zak k l s l.length i) ?_ (fun i x hi hx hp => ?_) (fun i x r hi hx hp hr => ?_)
    · refine Ev.step (f := fun _ => some (-1)) (fun k => ?_) (zaq _)
      simp only [zak]
      rw [if_neg (by omega)]
    · refine Ev.step (f := fun _ => some (i : Int)) (fun k => ?_) (zaq _)
      simp only [zak, zqu hx, zo4]
      rw [if_pos (by omega), if_pos (by omega), if_pos (by omega), if_pos (of_decide_eq_true hp)]
    · refine Ev.step (fun k => ?_) hr
      simp only [zak, zqu hx, zo4]
      rw [if_pos (by omega), if_pos (by omega), if_pos (by omega), if_neg (of_decide_eq_false hp), w64n i (by omega)]
  unfold zat
  refine Ev.bind h (Ev.some ?_)
  rw [Bool.eq_iff_iff, decide_eq_true_eq, znz]
  refine (zi9 _ l).trans ⟨?_, fun h => ⟨s, h, decide_eq_true rfl⟩⟩
  rintro ⟨x, hx, h⟩
  rw [of_decide_eq_true h]
  exact hx
theorem zuw (l : List ByteArray) (s : ByteArray) (hl : l.length ≤ 1048576) : Ev (fun k => zfk k l s) (hasS l s) := by
  unfold zfk
  refine zku (σ := Unit) l (fun k _ i => zdn k s l l.length i) (fun r _ => hasS r s) (fun _ => ?_) (fun i _ x rest hi hx ih => ?_) ()
  · refine Ev.step (f := fun _ => some false) (fun k => ?_) (zaq _)
    simp only [zdn]
    rw [if_neg (by omega)]
  · refine Ev.step (fun k => by simp only [zdn, zqu hx, zo4]; rfl) (zae (by omega) (zae (by omega) (zae (by omega) ?_)))
    by_cases q : x = s
    · exact zae q (Ev.some (by simp [hasS, q]))
    · refine zao q ?_
      rw [w64n i (by omega)]
      refine zox (ih ()) ?_
      simp [hasS, q]
theorem zux (l : List Int) (s : Int) (hl : l.length ≤ 1048576) : Ev (fun k => zbp k l s) (decide (s ∈ l)) := by
  have h : Ev (fun k => zch k l s) (idx (fun y => decide (s = y)) l) := by
    unfold zch
    refine zme l _ (fun k i => za5 k l s l.length i) ?_ (fun i x hi hx hp => ?_) (fun i x r hi hx hp hr => ?_)
    · refine Ev.step (f := fun _ => some (-1)) (fun k => ?_) (zaq _)
      simp only [za5]
      rw [if_neg (by omega)]
    · refine Ev.step (f := fun _ => some (i : Int)) (fun k => ?_) (zaq _)
      simp only [za5, zps hx]
      rw [if_pos (by omega), if_pos (by omega), if_pos (by omega), if_pos (of_decide_eq_true hp)]
    · refine Ev.step (fun k => ?_) hr
      simp only [za5, zps hx]
      rw [if_pos (by omega), if_pos (by omega), if_pos (by omega), if_neg (of_decide_eq_false hp), w64n i (by omega)]
  unfold zbp
  refine Ev.bind h (Ev.some (ybw _ _ _ ?_))
  constructor
  · exact fun h => ⟨s, h, decide_eq_true rfl⟩
  · rintro ⟨x, hx, h⟩
    rw [of_decide_eq_true h]
    exact hx
theorem zz6 (l : List Int) (s : Int) (hl : l.length ≤ 1048576) : Ev (fun k => zgq k l s) (decide (s ∈ l)) := by
  unfold zgq
  refine zku (σ := Unit) l (fun k _ i => zd2 k s l l.length i) (fun r _ => decide (s ∈ r)) (fun _ => ?_) (fun i _ x rest hi hx ih => ?_) ()
  · refine Ev.step (f := fun _ => some false) (fun k => ?_) (Ev.some (by simp))
    simp only [zd2]
    rw [if_neg (by omega)]
  · refine Ev.step (fun k => by simp only [zd2, zps hx]; rfl) (zae (by omega) (zae (by omega) (zae (by omega) ?_)))
    by_cases q : x = s
    · exact zae q (Ev.some (by simp [q]))
    · refine zao q ?_
      rw [w64n i (by omega)]
      refine zox (ih ()) ?_
      rw [decide_eq_decide, List.mem_cons]
      exact ⟨Or.inr, fun h => h.resolve_left fun e => q e.symm⟩
def bops : List ByteArray := [⟨#[97, 100, 100]⟩, ⟨#[115, 117, 98]⟩, ⟨#[109, 117, 108]⟩, ⟨#[97, 110, 100]⟩, ⟨#[111, 114]⟩, ⟨#[120, 111, 114]⟩, ⟨#[115, 104, 108]⟩, ⟨#[115, 104, 114]⟩, ⟨#[108, 101, 115, 115]⟩, ⟨#[101, 113]⟩]
theorem zuy : ziq = some bops := rfl
theorem zz7 : zld = some bops := rfl
def isIn (s : ByteArray) : Prop := s.toList = ([105, 110] : List UInt8)
def zh4 (s : ByteArray) : Prop := s.toList = ([99, 111, 110, 115, 116] : List UInt8)
def zrq (s : ByteArray) : Prop := s.toList = ([110, 111, 116] : List UInt8)
def zsa (s : ByteArray) : Prop := s.toList = ([110, 101, 103] : List UInt8)
instance (s : ByteArray) : Decidable (isIn s) := by unfold isIn; infer_instance
instance (s : ByteArray) : Decidable (zh4 s) := by unfold zh4; infer_instance
instance (s : ByteArray) : Decidable (zrq s) := by unfold zrq; infer_instance
instance (s : ByteArray) : Decidable (zsa s) := by unfold zsa; infer_instance
def kN (s : ByteArray) : Nat := if isIn s then 0 else if zh4 s then 1 else if zrq s ∨ zsa s then 2 else if hasS bops s = true then 3 else 4
def zju (c : Nat) : Int := match c with | 0 => 0 | 1 => 0 | 2 => 1 | 3 => 2 | _ => -1
theorem zna (s : ByteArray) : kN s = 0 ∨ kN s = 1 ∨ kN s = 2 ∨ kN s = 3 ∨ kN s = 4 := by
  unfold kN
  split
  · simp
  split
  · simp
  split
  · simp
  split <;> simp
theorem zkv (s : ByteArray) : Ev (fun k => zda k s) (zju (kN s)) := by
  unfold zda kN
  by_cases h1 : isIn s
  · rw [if_pos h1]
    refine zae h1 (Ev.step (fun k => by simp only [zcj]; rfl) (zae (show true = true from rfl) (zaq _)))
  rw [if_neg h1]
  refine zao h1 ?_
  by_cases h2 : zh4 s
  · rw [if_pos h2]
    exact Ev.step (fun k => by simp only [zcj]; rfl) (zae (beq_iff_eq.2 h2) (zaq _))
  rw [if_neg h2]
  refine Ev.step (fun k => by simp only [zcj]; rfl) (zao (fun e => h2 (beq_iff_eq.1 e)) ?_)
  by_cases h3 : zrq s
  · rw [if_pos (Or.inl h3)]
    exact zae h3 (Ev.step (fun k => by simp only [zck]; rfl) (zae (show true = true from rfl) (zaq _)))
  refine zao h3 ?_
  by_cases h4 : zsa s
  · rw [if_pos (Or.inr h4)]
    exact Ev.step (fun k => by simp only [zck]; rfl) (zae (beq_iff_eq.2 h4) (zaq _))
  rw [if_neg (fun e => e.elim h3 h4)]
  refine Ev.step (fun k => by simp only [zck]; rfl) (zao (fun e => h4 (beq_iff_eq.1 e)) ?_)
  refine Ev.call zuy (Ev.bind (znt bops s (by decide)) ?_)
  by_cases h5 : hasS bops s = true
  · simp only [if_pos h5]
    exact zaq _
  · simp only [if_neg h5]
    exact zaq _
theorem zwx (s : ByteArray) : zil s = some (decide (zrq s ∨ zsa s)) := by
  unfold zil
  by_cases h3 : zrq s
  · rw [if_pos (show s.toList = _ from h3), decide_eq_true (Or.inl h3)]
  · rw [if_neg (show ¬ s.toList = _ from h3)]
    congr 1
    rw [Bool.eq_iff_iff, beq_iff_eq, decide_eq_true_eq]
    exact ⟨Or.inr, fun h => h.resolve_left h3⟩
theorem zrt (s : ByteArray) : Ev (fun k => zgm k s) (hasS bops s) := by
  unfold zgm
  exact Ev.call zz7 (Ev.bind (zuw bops s (by decide)) (zaq _))
def zed (c : Nat) (a b : Int) : List Int := match c with | 2 => [a] | 3 => [a, b] | _ => []
theorem zvt (x : Node) : Ev (fun k => zc1 k x.f0 x.f1 x.f2 x.f3) (zed (kN x.f0) x.f1 x.f2) := by
  unfold zc1
  refine Ev.call rfl (Ev.bind (zkv x.f0) (Ev.const ?_))
  rcases zna x.f0 with h | h | h | h | h <;> rw [h] <;> rfl
theorem zio (x : Node) : Ev (fun k => zce k x.f0 x.f1 x.f2 x.f3) (zed (kN x.f0) x.f1 x.f2) := by
  unfold zce
  refine Ev.call (zwx _) ?_
  have d1 : ∀ s, isIn s → ¬ (zrq s ∨ zsa s) := fun s h e => by unfold isIn at h; unfold zrq zsa at e; rw [h] at e; revert e; decide
  have d2 : ∀ s, zh4 s → ¬ (zrq s ∨ zsa s) := fun s h e => by unfold zh4 at h; unfold zrq zsa at e; rw [h] at e; revert e; decide
  have d3 : ∀ s, isIn s → ¬ hasS bops s = true := fun s h => by rw [str_lit.1 h]; decide +kernel
  have d4 : ∀ s, zh4 s → ¬ hasS bops s = true := fun s h => by rw [str_lit.1 h]; decide +kernel
  unfold kN
  by_cases h1 : isIn x.f0
  · rw [if_pos h1]
    exact zao (by simpa using d1 _ h1) (Ev.bind (zrt _) (zao (d3 _ h1) (zaq _)))
  rw [if_neg h1]
  by_cases h2 : zh4 x.f0
  · rw [if_pos h2]
    exact zao (by simpa using d2 _ h2) (Ev.bind (zrt _) (zao (d4 _ h2) (zaq _)))
  rw [if_neg h2]
  by_cases h3 : zrq x.f0 ∨ zsa x.f0
  · rw [if_pos h3]
    exact zae (by simpa using h3) (zaq _)
  rw [if_neg h3]
  refine zao (by simpa using h3) (Ev.bind (zrt _) ?_)
  by_cases h5 : hasS bops x.f0 = true
  · simp only [if_pos h5]
    exact zaq _
  · simp only [if_neg h5]
    exact zaq _
def okNd (c : Nat) (a b m i : Int) : Bool := match c with
  | 0 => decide (a = 0 ∧ b = 0 ∧ 0 ≤ m ∧ m ≤ 1)
  | 1 => decide (a = 0 ∧ b = 0 ∧ 0 ≤ m ∧ m ≤ 63)
  | 2 => decide ((0 ≤ a ∧ a ≤ i - 1) ∧ b = 0 ∧ m = 0)
  | 3 => decide ((0 ≤ a ∧ a ≤ i - 1) ∧ (0 ≤ b ∧ b ≤ i - 1) ∧ m = 0)
  | _ => false
def okNx (x : Node) (i : Int) : Bool := okNd (kN x.f0) x.f1 x.f2 x.f3 i
theorem zyd (x : Node) (i : Nat) (hi : i ≤ 1048576) : Ev (fun k => zgn k x.f0 x.f1 x.f2 x.f3 i) (okNx x i) := by
  obtain ⟨s, a, b, m⟩ := x
  simp only [okNx]
  unfold zgn kN
  have e1 : wrap64 ((i : Int) - 1) = (i : Int) - 1 := w64 (by omega) (by omega)
  by_cases h1 : isIn s
  · rw [if_pos h1]
    refine zae h1 (Ev.const ?_)
    simp only [zns, Option.bind_some, okNd]
    by_cases q1 : a = 0 <;> by_cases q2 : b = 0 <;> simp [q1, q2]
  rw [if_neg h1]
  refine zao h1 ?_
  by_cases h2 : zh4 s
  · rw [if_pos h2]
    refine zae h2 (Ev.const ?_)
    simp only [zkc, zns, Option.bind_some, okNd]
    by_cases q1 : a = 0 <;> by_cases q2 : b = 0 <;> simp [q1, q2]
  rw [if_neg h2]
  refine zao h2 (Ev.call (zwx _) ?_)
  rw [e1]
  by_cases h3 : zrq s ∨ zsa s
  · rw [if_pos h3]
    refine zae (by simpa using h3) (Ev.const ?_)
    simp only [zns, Option.bind_some, okNd]
    by_cases q1 : 0 ≤ a ∧ a ≤ (i : Int) - 1 <;> by_cases q2 : b = 0 <;> by_cases q3 : m = 0 <;> simp [q1, q2, q3]
  rw [if_neg h3]
  refine zao (by simpa using h3) (Ev.bind (zrt _) ?_)
  by_cases h5 : hasS bops s = true
  · simp only [if_pos h5]
    refine Ev.const ?_
    simp only [zns, Option.bind_some, okNd]
    by_cases q1 : 0 ≤ a ∧ a ≤ (i : Int) - 1 <;> by_cases q2 : 0 ≤ b ∧ b ≤ (i : Int) - 1 <;> by_cases q3 : m = 0 <;> simp [q1, q2, q3]
  · simp only [if_neg h5]
    exact zaq _
theorem zye (x : Node) (i : Nat) (hi : i ≤ 1048576) : Ev (fun k => zdr k x.f0 x.f1 x.f2 x.f3 i) (okNx x i) := by
  obtain ⟨s, a, b, m⟩ := x
  simp only [okNx]
  unfold zdr
  refine Ev.bind (zkv s) (Ev.call rfl ?_)
  have e1 : wrap64 ((i : Int) - 1) = (i : Int) - 1 := w64 (by omega) (by omega)
  have r0 : rd [a, b] 0 = a := rfl
  have r1 : rd [a, b] 1 = b := rfl
  have fin : ∀ r : Bool, (isIn s → decide (0 ≤ m ∧ m ≤ 1) = r) → (zh4 s → decide (0 ≤ m ∧ m ≤ 63) = r) → (¬ isIn s → ¬ zh4 s → (if zju (kN s) > 0 then (m == 0) else false) = r) → Ev (fun k => zau k i (zju (kN s)) [a, b] 2 2 s a b m) r := by
    intro r f1 f2 f3
    refine Ev.step (fun k => by simp only [zau]; rfl) (zao (by decide) ?_)
    by_cases h1 : isIn s
    · refine zae h1 (Ev.const ?_)
      rw [zmf, f1 h1]
      rfl
    refine zao h1 ?_
    by_cases h2 : zh4 s
    · refine zae h2 (Ev.const ?_)
      simp only [zkb, zmf, Option.bind_some]
      rw [f2 h2]
    refine zao h2 (Ev.const ?_)
    rw [← f3 h1 h2]
    split <;> rfl
  have one : ∀ r : Bool, ((if 1 < zju (kN s) then decide (0 ≤ b ∧ b ≤ (i : Int) - 1) else decide (b = 0)) = false → r = false) → ((if 1 < zju (kN s) then decide (0 ≤ b ∧ b ≤ (i : Int) - 1) else decide (b = 0)) = true → Ev (fun k => zau k i (zju (kN s)) [a, b] 2 2 s a b m) r) → Ev (fun k => zau k i (zju (kN s)) [a, b] 2 1 s a b m) r := by
    intro r f1 f2
    refine Ev.step (fun k => by simp only [zau, r1, e1, zmf, Option.bind_some, show wrap64 (1 + 1) = 2 from w64 (by decide) (by decide)]; rfl) (zae (by decide) (zae (by decide) (zae (by simp) ?_)))
    by_cases h : 1 < zju (kN s)
    · rw [if_pos h] at f1 f2
      refine zae h ?_
      by_cases q : 0 ≤ b ∧ b ≤ (i : Int) - 1
      · exact zae (by simpa using q) (zao (by omega) (f2 (by simpa using q)))
      · exact zao (by simpa using q) (Ev.some (f1 (by simpa using q)).symm)
    · rw [if_neg h] at f1 f2
      refine zao h (zae (by omega) ?_)
      by_cases q : b = 0
      · exact zae q (f2 (by simpa using q))
      · exact zao q (Ev.some (f1 (by simpa using q)).symm)
  have zero : ∀ r : Bool, ((if 0 < zju (kN s) then decide (0 ≤ a ∧ a ≤ (i : Int) - 1) else decide (a = 0)) = false → r = false) → ((if 0 < zju (kN s) then decide (0 ≤ a ∧ a ≤ (i : Int) - 1) else decide (a = 0)) = true → Ev (fun k => zau k i (zju (kN s)) [a, b] 2 1 s a b m) r) → Ev (fun k => zau k i (zju (kN s)) [a, b] 2 0 s a b m) r := by
    intro r f1 f2
    refine Ev.step (fun k => by simp only [zau, r0, e1, zmf, Option.bind_some, show wrap64 (0 + 1) = 1 from w64 (by decide) (by decide)]; rfl) (zae (by decide) (zae (by decide) (zae (by simp) ?_)))
    by_cases h : 0 < zju (kN s)
    · rw [if_pos h] at f1 f2
      refine zae h ?_
      by_cases q : 0 ≤ a ∧ a ≤ (i : Int) - 1
      · exact zae (by simpa using q) (zao (by omega) (f2 (by simpa using q)))
      · exact zao (by simpa using q) (Ev.some (f1 (by simpa using q)).symm)
    · rw [if_neg h] at f1 f2
      refine zao h (zae (by omega) ?_)
      by_cases q : a = 0
      · exact zae q (f2 (by simpa using q))
      · exact zao q (Ev.some (f1 (by simpa using q)).symm)
  show Ev (fun k => zau k i (zju (kN s)) [a, b] 2 0 s a b m) _
  have hin : isIn s ↔ kN s = 0 := by
    unfold kN
    by_cases h : isIn s
    · simp [h]
    · simp only [h, if_false, false_iff]
      repeat' split
      all_goals decide
  have hco : ¬ isIn s → (zh4 s ↔ kN s = 1) := fun h0 => by
    unfold kN
    by_cases h : zh4 s
    · simp [h, h0]
    · simp only [h, h0, if_false, false_iff]
      repeat' split
      all_goals decide
  have hdis : zh4 s → ¬ isIn s := fun h e => by unfold zh4 at h; unfold isIn at e; rw [h] at e; revert e; decide
  refine zero _ (fun q => ?_) (fun q0 => one _ (fun q => ?_) (fun q1 => fin _ (fun h => ?_) (fun h => ?_) (fun h h' => ?_)))
  · rcases zna s with c | c | c | c | c <;> rw [c] at q ⊢ <;> simp [zju, okNd] at q ⊢ <;> omega
  · rcases zna s with c | c | c | c | c <;> rw [c] at q ⊢ <;> simp [zju, okNd] at q ⊢ <;> omega
  · have c := hin.1 h
    rw [c] at q0 q1 ⊢
    simp [zju] at q0 q1
    simp [okNd, q0, q1]
  · have c := (hco (hdis h)).1 h
    rw [c] at q0 q1 ⊢
    simp [zju] at q0 q1
    simp [okNd, q0, q1]
  · rcases zna s with c | c | c | c | c
    · exact absurd (hin.2 c) h
    · exact absurd ((hco h).2 c) h'
    · rw [c] at q0 q1 ⊢
      simp [zju] at q0 q1
      simp [okNd, zju, q0, q1]
      rw [Bool.eq_iff_iff]
      simp
    · rw [c] at q0 q1 ⊢
      simp [zju] at q0 q1
      simp [okNd, zju, q0, q1]
      rw [Bool.eq_iff_iff]
      simp
    · rw [c]
      simp [okNd, zju]
def okNs : Nat → List Node → Bool
  | _, [] => true
  | i, x :: xs => okNx x i && okNs (i + 1) xs
theorem zes : ∀ (xs : List Node) (i j : Nat) (h : j < xs.length), okNs i xs = true → okNx xs[j] ((i + j : Nat) : Int) = true
  | [], _, _, h, _ => absurd h (by simp)
  | x :: xs, i, 0, _, ho => by
    simp only [okNs, Bool.and_eq_true] at ho
    exact ho.1
  | x :: xs, i, j + 1, h, ho => by
    simp only [okNs, Bool.and_eq_true] at ho
    have := zes xs (i + 1) j (by simpa using h) ho.2
    rw [show i + 1 + j = i + (j + 1) by omega] at this
    exact this
def incr (u : List Int) (p : Int) : List Int := u.set p.toNat (wrap64 (rd u p + 1))
def zyf (u : List Int) (x : Node) : List Int := (zed (kN x.f0) x.f1 x.f2).foldl incr u
def zt3 (l : List Node) : List Int := l.foldl zyf (List.replicate l.length 0)
theorem zwy (u : List Int) (p : Int) : (incr u p).length = u.length := List.length_set
theorem zlw (ps : List Int) : ∀ u, (ps.foldl incr u).length = u.length := by
  induction ps with
  | nil => exact fun u => rfl
  | cons p ps ih => exact fun u => (ih _).trans (zwy u p)
theorem zyg (u : List Int) (x : Node) : (zyf u x).length = u.length := zlw _ u
theorem zsb (l : List Node) : ∀ u, (l.foldl zyf u).length = u.length := by
  induction l with
  | nil => exact fun u => rfl
  | cons x l ih => exact fun u => (ih _).trans (zyg u x)
theorem zpx (l : List Node) : (zt3 l).length = l.length := by
  unfold zt3
  rw [zsb, List.length_replicate]
theorem zgz {x : Node} {i : Int} (h : okNx x i = true) : (zed (kN x.f0) x.f1 x.f2).length ≤ 2 ∧ ∀ p ∈ zed (kN x.f0) x.f1 x.f2, 0 ≤ p ∧ p ≤ i - 1 := by
  unfold okNx at h
  rcases zna x.f0 with c | c | c | c | c <;> rw [c] at h ⊢ <;> simp [okNd] at h <;> simp [zed] <;> omega
theorem zuz (L0 : Nat → List Int → Int → Option (List Int)) (L1 : Nat → List Int → Int → List Int → Int → Int → Option (List Int)) (i : Nat) (n : Nat) (r : List Int)
    (h0 : ∀ k u ps j, L1 (k + 1) u i ps (ps.length : Nat) (j : Nat) = if (j : Int) < (ps.length : Nat) then (if (0 : Int) ≤ (j : Nat) then (if ((j : Nat) : Int) < (ps.length : Nat) then (if 0 ≤ rd ps (j : Nat) then (if rd ps (j : Nat) < (u.length : Int) then L1 k (u.set (rd ps (j : Nat) : Int).toNat (wrap64 (rd u (rd ps (j : Nat)) + 1))) i ps (ps.length : Nat) (wrap64 ((j : Nat) + 1)) else none) else none) else none) else none) else L0 k u (wrap64 ((i : Nat) + 1)))
    (ps : List Int) (hps : ps.length ≤ 2) (hp : ∀ p ∈ ps, 0 ≤ p ∧ p < n) (u : List Int) (hu : u.length = n) (hi : i ≤ 1048576) (H : Ev (fun k => L0 k (ps.foldl incr u) ((i + 1 : Nat) : Int)) r) : Ev (fun k => L1 k u i ps ps.length 0) r := by
  have key : ∀ (d j : Nat) (u : List Int), u.length = n → j + d = ps.length → Ev (fun k => L0 k ((ps.drop j).foldl incr u) ((i + 1 : Nat) : Int)) r → Ev (fun k => L1 k u i ps ps.length (j : Nat)) r := by
    intro d
    induction d with
    | zero =>
      intro j u hu hj H
      refine Ev.step (fun k => h0 k u ps j) (zao (by omega) ?_)
      rw [w64n i (by omega)]
      rw [List.drop_of_length_le (by omega)] at H
      exact H
    | succ d ih =>
      intro j u hu hj H
      have hlt : j < ps.length := by omega
      have e : ps.drop j = ps[j] :: ps.drop (j + 1) := List.drop_eq_getElem_cons hlt
      have hx := zps (zcy ps j hlt)
      have hb := hp ps[j] (List.getElem_mem hlt)
      refine Ev.step (fun k => h0 k u ps j) (zae (by omega) (zae (by omega) (zae (by omega) (zae (by rw [hx]; exact hb.1) (zae (by rw [hx]; omega) ?_)))))
      rw [hx, w64n j (by omega)]
      rw [e] at H
      exact ih (j + 1) (incr u ps[j]) (by rw [zwy]; exact hu) (by omega) H
  exact key ps.length 0 u hu (by omega) H
theorem ybx (l : List Node) (h : okNs 0 l = true) (hl : l.length ≤ 1000) : Ev (fun k => zhr k l) (zt3 l) := by
  unfold zhr
  refine zae (by omega) (zae (by simp; omega) ?_)
  have key : ∀ (d i : Nat) (u : List Int), u.length = l.length → i + d = l.length → Ev (fun k => zea k u l l.length i) ((l.drop i).foldl zyf u) := by
    intro d
    induction d with
    | zero =>
      intro i u hu hi
      refine Ev.step (f := fun _ => some u) (fun k => ?_) (Ev.some ?_)
      · simp only [zea]
        rw [if_neg (by omega)]
      · rw [List.drop_of_length_le (by omega)]
        rfl
    | succ d ih =>
      intro i u hu hi
      have hlt : i < l.length := by omega
      have e : l.drop i = l[i] :: l.drop (i + 1) := List.drop_eq_getElem_cons hlt
      have hx := zh8 (zcy l i hlt)
      have ok := zes l 0 i hlt h
      rw [Nat.zero_add] at ok
      obtain ⟨p1, p2⟩ := zgz ok
      rw [e]
      refine Ev.step (fun k => by simp only [zea, hx]; rfl) (zae (by omega) (zae (by omega) (zae (by omega) (Ev.bind (zvt l[i]) ?_))))
      exact zuz (fun k u j => zea k u l l.length j) (fun k u i ps n j => ze9 k u l l.length i ps n j) i l.length _ (fun k u ps j => by simp only [ze9]) _ p1 (fun p hp => by have := p2 p hp; omega) u hu (by omega) (ih (i + 1) _ (by rw [zlw]; exact hu) (by omega))
  simpa [zt3] using key l.length 0 (List.replicate l.length 0) (by simp) (by omega)
theorem zyh (l : List Node) (h : okNs 0 l = true) (hl : l.length ≤ 1000) : Ev (fun k => zgp k l) (zt3 l) := by
  unfold zgp
  refine zae (by omega) (zae (by simp; omega) ?_)
  have key : ∀ (d i : Nat) (u : List Int), u.length = l.length → i + d = l.length → Ev (fun k => zc2 k u l l.length i) ((l.drop i).foldl zyf u) := by
    intro d
    induction d with
    | zero =>
      intro i u hu hi
      refine Ev.step (f := fun _ => some u) (fun k => ?_) (Ev.some ?_)
      · simp only [zc2]
        rw [if_neg (by omega)]
      · rw [List.drop_of_length_le (by omega)]
        rfl
    | succ d ih =>
      intro i u hu hi
      have hlt : i < l.length := by omega
      have e : l.drop i = l[i] :: l.drop (i + 1) := List.drop_eq_getElem_cons hlt
      have hx := zh8 (zcy l i hlt)
      have ok := zes l 0 i hlt h
      rw [Nat.zero_add] at ok
      obtain ⟨p1, p2⟩ := zgz ok
      rw [e]
      refine Ev.step (fun k => by simp only [zc2, hx]; rfl) (zae (by omega) (zae (by omega) (zae (by omega) (Ev.bind (zio l[i]) ?_))))
      exact zuz (fun k u j => zc2 k u l l.length j) (fun k u i ps n j => zdy k u l l.length i ps n j) i l.length _ (fun k u ps j => by simp only [zdy]) _ p1 (fun p hp => by have := p2 p hp; omega) u hu (by omega) (ih (i + 1) _ (by rw [zlw]; exact hu) (by omega))
  simpa [zt3] using key l.length 0 (List.replicate l.length 0) (by simp) (by omega)
def zoh (l : List Node) : Bool := decide (1 ≤ l.length ∧ l.length ≤ 24) && (okNs 0 l && !decide ((0 : Int) ∈ (zt3 l).take (l.length - 1)))
theorem zyi (l : List Node) : Ev (fun k => zgi k l) (zoh l) := by
  unfold zgi zoh
  refine Ev.call (zmf _ _ _) ?_
  by_cases hl : 1 ≤ l.length ∧ l.length ≤ 24
  · rw [decide_eq_true hl, Bool.true_and]
    refine zae (by simp; omega) ?_
    have key : ∀ (d i : Nat), i + d = l.length → (okNs 0 l = true → okNs i (l.drop i) = true) → (okNs 0 l = false → okNs i (l.drop i) = false) → Ev (fun k => zdi k l l l.length i) (okNs 0 l && !decide ((0 : Int) ∈ (zt3 l).take (l.length - 1))) := by
      intro d
      induction d with
      | zero =>
        intro i hi _ hf
        have ok : okNs 0 l = true := by
          cases h : okNs 0 l
          · have := hf h
            rw [List.drop_of_length_le (by omega)] at this
            cases this
          · rfl
        rw [ok, Bool.true_and]
        refine Ev.step (fun k => by simp only [zdi]; rfl) (zao (by omega) (Ev.bind (ybx l ok (by omega)) ?_))
        have e1 : wrap64 ((l.length : Int) - 1) = ((l.length - 1 : Nat) : Int) := by rw [w64 (by omega) (by omega)]; omega
        rw [e1]
        refine zae (by omega) (zae (by rw [zpx]; omega) ?_)
        rw [Int.toNat_natCast]
        exact Ev.bind (zux _ 0 (by rw [List.length_take, zpx]; omega)) (zaq _)
      | succ d ih =>
        intro i hi ht hf
        have hlt : i < l.length := by omega
        have e : l.drop i = l[i] :: l.drop (i + 1) := List.drop_eq_getElem_cons hlt
        have hx := zh8 (zcy l i hlt)
        rw [e] at ht hf
        simp only [okNs] at ht hf
        refine Ev.step (fun k => by simp only [zdi, hx]; rfl) (zae (by omega) (zae (by omega) (zae (by omega) (Ev.bind (zye l[i] i (by omega)) ?_))))
        cases h : okNx l[i] i
        · refine zao (by decide) (Ev.some ?_)
          rw [h] at ht
          cases h0 : okNs 0 l
          · rfl
          · exact absurd (ht h0) (by simp)
        · rw [h] at ht hf
          refine zae rfl ?_
          rw [w64n i (by omega)]
          exact ih (i + 1) (by omega) (by simpa using ht) (by simpa using hf)
    simpa using key l.length 0 (by omega) (fun h => h) (fun h => h)
  · rw [decide_eq_false hl, Bool.false_and]
    exact zao (by simp; omega) (zaq _)
theorem zyj (l : List Node) : Ev (fun k => zgr k l) (zoh l) := by
  unfold zgr zoh
  refine Ev.call (zns _ _ _) ?_
  by_cases hl : 1 ≤ l.length ∧ l.length ≤ 24
  · rw [decide_eq_true hl, Bool.true_and]
    refine zae (by simp; omega) ?_
    have key : ∀ (d i : Nat), i + d = l.length → (okNs 0 l = true → okNs i (l.drop i) = true) → (okNs 0 l = false → okNs i (l.drop i) = false) → Ev (fun k => zdo k l l l.length i) (okNs 0 l && !decide ((0 : Int) ∈ (zt3 l).take (l.length - 1))) := by
      intro d
      induction d with
      | zero =>
        intro i hi _ hf
        have ok : okNs 0 l = true := by
          cases h : okNs 0 l
          · have := hf h
            rw [List.drop_of_length_le (by omega)] at this
            cases this
          · rfl
        rw [ok, Bool.true_and]
        refine Ev.step (fun k => by simp only [zdo]; rfl) (zao (by omega) (Ev.bind (zyh l ok (by omega)) ?_))
        have e1 : wrap64 ((l.length : Int) - 1) = ((l.length - 1 : Nat) : Int) := by rw [w64 (by omega) (by omega)]; omega
        rw [e1]
        refine zae (by omega) (zae (by rw [zpx]; omega) ?_)
        rw [Int.toNat_natCast]
        exact Ev.bind (zz6 _ 0 (by rw [List.length_take, zpx]; omega)) (zaq _)
      | succ d ih =>
        intro i hi ht hf
        have hlt : i < l.length := by omega
        have e : l.drop i = l[i] :: l.drop (i + 1) := List.drop_eq_getElem_cons hlt
        have hx := zh8 (zcy l i hlt)
        rw [e] at ht hf
        simp only [okNs] at ht hf
        refine Ev.step (fun k => by simp only [zdo, hx]; rfl) (zae (by omega) (zae (by omega) (zae (by omega) (Ev.bind (zyd l[i] i (by omega)) ?_))))
        cases h : okNx l[i] i
        · refine zao (by decide) (Ev.some ?_)
          rw [h] at ht
          cases h0 : okNs 0 l
          · rfl
          · exact absurd (ht h0) (by simp)
        · rw [h] at ht hf
          refine zae rfl ?_
          rw [w64n i (by omega)]
          exact ih (i + 1) (by omega) (by simpa using ht) (by simpa using hf)
    simpa using key l.length 0 (by omega) (fun h => h) (fun h => h)
  · rw [decide_eq_false hl, Bool.false_and]
    exact zao (by simp; omega) (zaq _)
theorem zyk {l : List Node} (h : zoh l = true) : (1 ≤ l.length ∧ l.length ≤ 24) ∧ okNs 0 l = true := by
  unfold zoh at h
  simp only [Bool.and_eq_true, decide_eq_true_eq] at h
  exact ⟨h.1, h.2.1⟩
abbrev ShSt := List Node × List Int
theorem zyl (g g' : Int → ShSt → Option ShSt) (h : ∀ x s, LeO (g x s) (g' x s)) : ∀ ks s, LeO (shL g ks s) (shL g' ks s)
  | [], _ => LeO.refl _
  | x :: xs, s => LeO.bind (h x s) (fun s1 => zyl g g' h xs s1)
theorem zwz (k : Nat) (e : List Node) : ∀ (d : Nat) (i : Int) (s : ShSt), LeO (shW k e d i s) (shW k e (d + 1) i s)
  | 0, _, _ => LeO.none _
  | d + 1, i, s => by
    unfold shW
    exact zbi (zbi (LeO.refl _) (LeO.bind (LeO.refl _) (fun ks => zbi (LeO.bind (zyl _ _ (zwz k e d) _ _) (fun s1 => LeO.refl _)) (LeO.refl _)))) (LeO.refl _)
theorem zt4 (k : Nat) (e : List Node) : ∀ (d : Nat) (i : Int) (s : ShSt), LeO (exW k e d i s) (exW k e (d + 1) i s)
  | 0, _, _ => LeO.none _
  | d + 1, i, s => by
    unfold exW
    exact zbi (zbi (LeO.refl _) (LeO.bind (LeO.refl _) (fun ps => zbi (LeO.bind (zbi (zt4 k e d _ _) (LeO.refl _)) (fun r1 => LeO.bind (zbi (zt4 k e d _ _) (LeO.refl _)) (fun r2 => LeO.refl _))) (LeO.refl _)))) (LeO.refl _)
theorem ztf (k : Nat) (e : List Node) (d : Nat) (i : Int) (s R : ShSt) (h : shW k e d i s = some R) : ∀ m, shW k e (d + m) i s = some R
  | 0 => h
  | m + 1 => zwz k e (d + m) i s R (ztf k e d i s R h m)
theorem ztg (k : Nat) (e : List Node) (d : Nat) (i : Int) (s : ShSt) (R : ShSt × Int) (h : exW k e d i s = some R) : ∀ m, exW k e (d + m) i s = some R
  | 0 => h
  | m + 1 => zt4 k e (d + m) i s R (ztg k e d i s R h m)
theorem ydh (e : List Node) (d : Nat) (i : Int) (s R : ShSt) (h : Ev (fun k => shW k e d i s) R) : Ev (fun k => shW k e k i s) R := by
  obtain ⟨K, hK⟩ := h
  exact ⟨max K d, fun k hk => by have := ztf k e d i s R (hK k (by omega)) (k - d); rwa [show d + (k - d) = k by omega] at this⟩
theorem ydi (e : List Node) (d : Nat) (i : Int) (s : ShSt) (R : ShSt × Int) (h : Ev (fun k => exW k e d i s) R) : Ev (fun k => exW k e k i s) R := by
  obtain ⟨K, hK⟩ := h
  exact ⟨max K d, fun k hk => by have := ztg k e d i s R (hK k (by omega)) (k - d); rwa [show d + (k - d) = k by omega] at this⟩
def ziz (x : Node) (s : ShSt) : Node := match kN x.f0 with
  | 2 => ⟨x.f0, rd s.2 x.f1, x.f2, x.f3⟩
  | 3 => ⟨x.f0, rd s.2 x.f1, rd s.2 x.f2, x.f3⟩
  | _ => x
def putP (n : Node) (i : Int) (s : ShSt) : ShSt := ((zef n s.1).1, s.2.set i.toNat (zef n s.1).2)
def shD (l : List Node) : Nat → Int → ShSt → ShSt
  | 0, _, s => s
  | d + 1, i, s => if 0 ≤ rd s.2 i then s else
    putP (ziz (l.getD i.toNat ⟨⟨#[]⟩, 0, 0, 0⟩) ((zed (kN (l.getD i.toNat ⟨⟨#[]⟩, 0, 0, 0⟩).f0) (l.getD i.toNat ⟨⟨#[]⟩, 0, 0, 0⟩).f1 (l.getD i.toNat ⟨⟨#[]⟩, 0, 0, 0⟩).f2).foldl (fun s p => shD l d p s) s)) i
      ((zed (kN (l.getD i.toNat ⟨⟨#[]⟩, 0, 0, 0⟩).f0) (l.getD i.toNat ⟨⟨#[]⟩, 0, 0, 0⟩).f1 (l.getD i.toNat ⟨⟨#[]⟩, 0, 0, 0⟩).f2).foldl (fun s p => shD l d p s) s)
def nmd (ns : List Int) : Nat := ns.countP fun x => decide (0 ≤ x)
theorem zpy (n : Node) (out : List Node) : 0 ≤ (zef n out).2 := by
  unfold zef
  split
  · exact Int.natCast_nonneg _
  · rename_i h
    show 0 ≤ exIx n out 0
    omega
theorem zym (n : Node) (out : List Node) : (zef n out).1.length ≤ out.length + 1 := by
  unfold zef
  split
  · simp
  · exact Nat.le_succ _
theorem yby (ns : List Int) (i : Nat) (x : Int) (hi : i < ns.length) (h : ns.getD i 0 < 0) (hx : 0 ≤ x) : nmd (ns.set i x) = nmd ns + 1 := by
  induction ns generalizing i with
  | nil => simp at hi
  | cons y ys ih =>
    unfold nmd at ih ⊢
    cases i with
    | zero =>
      have hy : ¬ 0 ≤ y := by simpa using h
      simp [List.countP_cons, hx, hy]
    | succ i =>
      have := ih i (by simpa using hi) (by simpa using h)
      simp only [List.set_cons_succ, List.countP_cons]
      omega
theorem zyn (ns : List Int) : nmd ns ≤ ns.length := List.countP_le_length
structure Kp (n i : Nat) (s s' : ShSt) : Prop where
  len : s'.2.length = n
  cnt : s'.1.length ≤ nmd s'.2
  keep : ∀ j : Nat, 0 ≤ rd s.2 (j : Int) → rd s'.2 (j : Int) = rd s.2 (j : Int)
  far : ∀ j : Nat, i ≤ j → rd s'.2 (j : Int) = rd s.2 (j : Int)
theorem Kp.trans {n i : Nat} {s s1 s2 : ShSt} (h : Kp n i s s1) (h' : Kp n i s1 s2) : Kp n i s s2 :=
  ⟨h'.len, h'.cnt, fun j hj => by rw [h'.keep j (by rw [h.keep j hj]; exact hj), h.keep j hj], fun j hj => by rw [h'.far j hj, h.far j hj]⟩
theorem Kp.wide {n i m : Nat} {s s' : ShSt} (h : Kp n i s s') (hm : i ≤ m) : Kp n m s s' := ⟨h.len, h.cnt, h.keep, fun j hj => h.far j (by omega)⟩
theorem zvu (n i : Nat) (g : ShSt → Int → ShSt) (hg : ∀ (p : Nat) s, p < i → s.2.length = n → s.1.length ≤ nmd s.2 → Kp n i s (g s p) ∧ 0 ≤ rd (g s p).2 (p : Int)) : ∀ (ps : List Int) (s : ShSt), (∀ p ∈ ps, 0 ≤ p ∧ p < (i : Int)) → s.2.length = n → s.1.length ≤ nmd s.2 → Kp n i s (ps.foldl g s) ∧ ∀ p ∈ ps, 0 ≤ rd (ps.foldl g s).2 p
  | [], s, _, h1, h2 => ⟨⟨h1, h2, fun _ _ => rfl, fun _ _ => rfl⟩, fun p hp => absurd hp (by simp)⟩
  | q :: ps, s, hps, h1, h2 => by
    obtain ⟨q0, q1⟩ := hps q (by simp)
    obtain ⟨p, rfl⟩ := Int.eq_ofNat_of_zero_le q0
    obtain ⟨a, b⟩ := hg p s (by omega) h1 h2
    obtain ⟨c, e⟩ := zvu n i g hg ps (g s p) (fun x hx => hps x (by simp [hx])) a.len a.cnt
    refine ⟨a.trans c, fun x hx => ?_⟩
    rcases List.mem_cons.1 hx with rfl | hx
    · show 0 ≤ rd (ps.foldl g (g s p)).2 (p : Int)
      rw [c.keep p b]
      exact b
    · exact e x hx
theorem zpz (ns : List Int) (i j : Nat) (x : Int) (hi : i < ns.length) : rd (ns.set i x) (j : Int) = if i = j then x else rd ns (j : Int) := by
  unfold rd
  rw [Int.toNat_natCast, List.getD_eq_getElem?_getD, List.getD_eq_getElem?_getD, List.getElem?_set]
  split
  · rename_i h
    subst h
    simp [hi]
  · rfl
theorem ydj (n i : Nat) (x : Node) (s : ShSt) (hi : i < n) (h1 : s.2.length = n) (h2 : s.1.length ≤ nmd s.2) (h3 : rd s.2 (i : Int) < 0) : Kp n (i + 1) s (putP x i s) ∧ 0 ≤ rd (putP x i s).2 (i : Int) := by
  have e1 := zpy x s.1
  have e2 := zym x s.1
  have e3 : nmd (s.2.set i (zef x s.1).2) = nmd s.2 + 1 := yby s.2 i _ (by omega) (by unfold rd at h3; rwa [Int.toNat_natCast] at h3) e1
  unfold putP
  rw [Int.toNat_natCast]
  refine ⟨⟨by simp [h1], by simp only; omega, fun j hj => ?_, fun j hj => ?_⟩, ?_⟩
  · simp only
    rw [zpz _ _ _ _ (by omega), if_neg (by rintro rfl; omega)]
  · simp only
    rw [zpz _ _ _ _ (by omega), if_neg (by omega)]
  · simp only
    rw [zpz _ _ _ _ (by omega), if_pos rfl]
    exact e1
theorem zoi (l : List Node) (ok : okNs 0 l = true) : ∀ (d i : Nat) (s : ShSt), i < d → i < l.length → s.2.length = l.length → s.1.length ≤ nmd s.2 → Kp l.length (i + 1) s (shD l d i s) ∧ 0 ≤ rd (shD l d i s).2 (i : Int)
  | 0, _, _, h, _, _, _ => absurd h (by omega)
  | d + 1, i, s, hd, hi, h1, h2 => by
    unfold shD
    by_cases q : 0 ≤ rd s.2 (i : Int)
    · rw [if_pos q]
      exact ⟨⟨h1, h2, fun _ _ => rfl, fun _ _ => rfl⟩, q⟩
    · rw [if_neg q, Int.toNat_natCast]
      have hx : l.getD i ⟨⟨#[]⟩, 0, 0, 0⟩ = l[i] := by rw [List.getD_eq_getElem?_getD, List.getElem?_eq_getElem hi]; rfl
      rw [hx]
      have hok := zes l 0 i hi ok
      rw [Nat.zero_add] at hok
      have hp := (zgz hok).2
      obtain ⟨a, _⟩ := zvu l.length i (fun s p => shD l d p s) (fun p s hp h1 h2 => by
        obtain ⟨b, c⟩ := zoi l ok d p s (by omega) (by omega) h1 h2
        exact ⟨b.wide (by omega), c⟩) (zed (kN l[i].f0) l[i].f1 l[i].f2) s (fun p hq => by have := hp p hq; omega) h1 h2
      obtain ⟨b, c⟩ := ydj l.length i (ziz l[i] ((zed (kN l[i].f0) l[i].f1 l[i].f2).foldl (fun s p => shD l d p s) s)) _ hi a.len a.cnt (by rw [a.far i (Nat.le_refl _)]; omega)
      exact ⟨(a.wide (by omega)).trans b, c⟩
theorem zlx {l : List Node} {i : Nat} (hi : i < l.length) : l.getD (i : Int).toNat ⟨⟨#[]⟩, 0, 0, 0⟩ = l[i] := by rw [Int.toNat_natCast, List.getD_eq_getElem?_getD, List.getElem?_eq_getElem hi]; rfl
theorem zt5 {x : Node} {i : Int} (h : okNx x i = true) (c : kN x.f0 = 0 ∨ kN x.f0 = 1) : x.f1 = 0 ∧ x.f2 = 0 := by
  unfold okNx at h
  rcases c with c | c <;> rw [c] at h <;> simp [okNd] at h <;> exact ⟨h.1, h.2.1⟩
theorem zu0 {x : Node} {i : Int} (h : okNx x i = true) (c : kN x.f0 = 2) : x.f2 = 0 ∧ 0 ≤ x.f1 ∧ x.f1 ≤ i - 1 := by
  unfold okNx at h
  rw [c] at h
  simp [okNd] at h
  omega
theorem zth {x : Node} {i : Int} (h : okNx x i = true) (c : kN x.f0 = 3) : (0 ≤ x.f1 ∧ x.f1 ≤ i - 1) ∧ 0 ≤ x.f2 ∧ x.f2 ≤ i - 1 := by
  unfold okNx at h
  rw [c] at h
  simp [okNd] at h
  omega
theorem zll {x : Node} {i : Int} (h : okNx x i = true) (c : kN x.f0 = 4) : False := by
  unfold okNx at h
  rw [c] at h
  simp [okNd] at h
theorem ybz {x : Node} {i : Int} (h : okNx x i = true) (c : kN x.f0 = 0 ∨ kN x.f0 = 1) : x = ⟨x.f0, 0, 0, x.f3⟩ := by
  obtain ⟨e1, e2⟩ := zt5 h c
  obtain ⟨a, b, c, d⟩ := x
  simp only at e1 e2
  rw [e1, e2]
theorem zhc {x : Node} (s : ShSt) (c : kN x.f0 = 0 ∨ kN x.f0 = 1) : ziz x s = x := by
  unfold ziz
  rcases c with c | c <;> rw [c] <;> rfl
theorem zp0 {x : Node} (s : ShSt) (c : kN x.f0 = 2) : ziz x s = ⟨x.f0, rd s.2 x.f1, x.f2, x.f3⟩ := by
  unfold ziz
  rw [c]
  rfl
theorem zp1 {x : Node} (s : ShSt) (c : kN x.f0 = 3) : ziz x s = ⟨x.f0, rd s.2 x.f1, rd s.2 x.f2, x.f3⟩ := by
  unfold ziz
  rw [c]
  rfl
theorem zjb {c : Nat} (h : c = 0 ∨ c = 1) (a b : Int) : zed c a b = [] := by rcases h with rfl | rfl <;> rfl
theorem zt6 (l : List Node) (hl : l.length ≤ 1000) (ok : okNs 0 l = true) : ∀ (d i : Nat) (s : ShSt), i < d → i < l.length → s.2.length = l.length → s.1.length ≤ nmd s.2 → Ev (fun k => exW k l d i s) (shD l d i s, rd (shD l d i s).2 (i : Int))
  | 0, _, _, h, _, _, _ => absurd h (by omega)
  | d + 1, i, s, hd, hi, h1, h2 => by
    have hr : zac l (i : Int) = l[i] := zh8 (zcy l i hi)
    have hok := zes l 0 i hi ok
    rw [Nat.zero_add] at hok
    have fin : ∀ (n : Node) (S : ShSt), S.2.length = l.length → S.1.length ≤ nmd S.2 → Ev (fun _ : Nat => if S.1.length < 1048576 then some (((zef n S.1).1, S.2.set (i : Int).toNat (zef n S.1).2), (zef n S.1).2) else none) (putP n i S, rd (putP n i S).2 (i : Int)) := fun n S a b => by
      have := zyn S.2
      refine zae (by omega) (Ev.some ?_)
      unfold putP
      simp only
      rw [Int.toNat_natCast, zpz _ _ _ _ (by omega), if_pos rfl]
    simp only [exW, shD]
    rw [hr, zlx hi]
    refine zae ⟨by omega, by omega⟩ ?_
    by_cases q : 0 ≤ rd s.2 (i : Int)
    · rw [if_pos q]
      exact zae q (Ev.some rfl)
    rw [if_neg q]
    refine zao q (Ev.bind (zio l[i]) (zae (by have := (zgz hok).1; omega) ?_))
    generalize l[i] = x at hok ⊢
    rcases zna x.f0 with c | c | c | c | c
    · rw [zjb (.inl c), List.foldl_nil, zhc s (.inl c)]
      refine Ev.bind (zao (by simp) (zaq _)) (Ev.bind (zao (by simp) (zaq _)) (zox (fin ⟨x.f0, 0, 0, x.f3⟩ s h1 h2) (congrArg (fun n => (putP n i s, rd (putP n i s).2 (i : Int))) (ybz hok (.inl c)).symm)))
    · rw [zjb (.inr c), List.foldl_nil, zhc s (.inr c)]
      refine Ev.bind (zao (by simp) (zaq _)) (Ev.bind (zao (by simp) (zaq _)) (zox (fin ⟨x.f0, 0, 0, x.f3⟩ s h1 h2) (congrArg (fun n => (putP n i s, rd (putP n i s).2 (i : Int))) (ybz hok (.inr c)).symm)))
    · obtain ⟨e0, e1, e2⟩ := zu0 hok c
      rw [show zed (kN x.f0) x.f1 x.f2 = [x.f1] by rw [c]; rfl, List.foldl_cons, List.foldl_nil, zp0 _ c, e0]
      obtain ⟨p, hp⟩ := Int.eq_ofNat_of_zero_le e1
      rw [hp] at e2 ⊢
      obtain ⟨m1, m2⟩ := zoi l ok d p s (by omega) (by omega) h1 h2
      refine Ev.bind (zae (by simp) (zt6 l hl ok d p s (by omega) (by omega) h1 h2)) (Ev.bind (zao (by simp) (zaq _)) ?_)
      exact fin ⟨x.f0, rd (shD l d p s).2 (p : Int), 0, x.f3⟩ (shD l d p s) m1.len m1.cnt
    · obtain ⟨⟨e1, e2⟩, e4, e5⟩ := zth hok c
      rw [show zed (kN x.f0) x.f1 x.f2 = [x.f1, x.f2] by rw [c]; rfl, List.foldl_cons, List.foldl_cons, List.foldl_nil, zp1 _ c]
      obtain ⟨p, hp⟩ := Int.eq_ofNat_of_zero_le e1
      obtain ⟨p', hp'⟩ := Int.eq_ofNat_of_zero_le e4
      rw [hp] at e2 ⊢
      rw [hp'] at e5 ⊢
      obtain ⟨m1, m2⟩ := zoi l ok d p s (by omega) (by omega) h1 h2
      obtain ⟨n1, n2⟩ := zoi l ok d p' (shD l d p s) (by omega) (by omega) m1.len m1.cnt
      refine Ev.bind (zae (by simp) (zt6 l hl ok d p s (by omega) (by omega) h1 h2)) (Ev.bind (zae (by simp) (zt6 l hl ok d p' _ (by omega) (by omega) m1.len m1.cnt)) ?_)
      rw [n1.keep p m2]
      exact fin ⟨x.f0, rd (shD l d p s).2 (p : Int), rd (shD l d p' (shD l d p s)).2 (p' : Int), x.f3⟩ (shD l d p' (shD l d p s)) n1.len n1.cnt
    · exact (zll hok c).elim
def shP (l : List Node) : List Node := (shD l l.length ((l.length - 1 : Nat) : Int) ([], List.replicate l.length (-1))).1
theorem zqv (l : List Node) (h0 : 0 < l.length) (hl : l.length ≤ 1000) (ok : okNs 0 l = true) : Ev (fun k => zeg k l) (shP l) := by
  unfold zeg
  refine zae (by omega) ?_
  have := ydi l l.length ((l.length - 1 : Nat) : Int) ([], List.replicate l.length (-1)) _ (zt6 l hl ok l.length (l.length - 1) _ (by omega) (by omega) (by simp) (by simp))
  rw [show ((l.length - 1 : Nat) : Int) = (l.length : Int) - 1 by omega] at this
  refine Ev.bind this (Ev.some ?_)
  unfold shP
  rw [show ((l.length - 1 : Nat) : Int) = (l.length : Int) - 1 by omega]
theorem zw0 (x y : Node) : exEq x y = true ↔ x = y := by
  obtain ⟨a, b, c, d⟩ := x
  obtain ⟨a', b', c', d'⟩ := y
  unfold exEq
  simp only [Bool.and_eq_true, beq_iff_eq, zo4, S62.mk.injEq]
theorem zu1 (x y : Node) : exEq x y = exEq y x := by
  rw [Bool.eq_iff_iff, zw0, zw0]
  exact eq_comm
theorem zw1 (n : Node) : ∀ (xs : List Node) (i : Int), 0 ≤ i → exIx n xs i = if idx (exEq n) xs < 0 then -1 else i + idx (exEq n) xs
  | [], i, _ => by simp [exIx, idx]
  | x :: xs, i, h => by
    unfold exIx idx
    by_cases q : exEq n x = true
    · rw [if_pos (by rw [zu1]; exact q), if_pos q, if_neg (by decide)]
      omega
    · rw [if_neg (by rw [zu1]; exact q), if_neg q, zw1 n xs (i + 1) (by omega)]
      by_cases r : idx (exEq n) xs < 0
      · rw [if_pos r, if_pos r, if_pos (by decide)]
      · rw [if_neg r, if_neg r, if_neg (by omega)]
        omega
theorem zw2 (n : Node) (xs : List Node) : exIx n xs 0 = idx (exEq n) xs := by
  rw [zw1 n xs 0 (by omega)]
  have := zx8 (exEq n) xs
  split <;> omega
theorem zxg (l : List Node) (n : Node) (hl : l.length ≤ 1048576) : Ev (fun k => ze8 k l n.f0 n.f1 n.f2 n.f3) (idx (exEq n) l) := by
  unfold ze8
  refine zme l _ (fun k i => zb6 k l l.length i n.f0 n.f1 n.f2 n.f3) ?_ (fun i x hi hx hp => ?_) (fun i x r hi hx hp hr => ?_)
  · refine Ev.step (f := fun _ => some (-1)) (fun k => ?_) (zaq _)
    simp only [zb6]
    rw [if_neg (by omega)]
  · refine Ev.step (f := fun _ => some (i : Int)) (fun k => ?_) (zaq _)
    unfold exEq at hp
    simp only [zb6, zh8 hx]
    rw [if_pos (by omega), if_pos (by omega), if_pos (by omega), if_pos hp]
  · refine Ev.step (fun k => ?_) hr
    unfold exEq at hp
    simp only [zb6, zh8 hx]
    rw [if_pos (by omega), if_pos (by omega), if_pos (by omega), if_neg (by rw [hp]; decide), w64n i (by omega)]
theorem ya3 (x : Node) (i : Int) (h : okNx x i = true) (s : ShSt) (hi : i ≤ s.2.length) : Ev (fun k => zb1 k x.f0 x.f1 x.f2 x.f3 s.2) ((ziz x s).f0, (ziz x s).f1, (ziz x s).f2, (ziz x s).f3) := by
  unfold zb1
  refine Ev.bind (zkv x.f0) ?_
  rcases zna x.f0 with c | c | c | c | c
  · rw [zhc s (.inl c), c]
    exact zao (by decide) (zao (by decide) (zaq _))
  · rw [zhc s (.inr c), c]
    exact zao (by decide) (zao (by decide) (zaq _))
  · obtain ⟨e0, e1, e2⟩ := zu0 h c
    rw [zp0 s c, c]
    exact zae (by decide) (zae e1 (zae (by omega) (zao (by decide) (zaq _))))
  · obtain ⟨⟨e1, e2⟩, e4, e5⟩ := zth h c
    rw [zp1 s c, c]
    exact zae (by decide) (zae e1 (zae (by omega) (zae (by decide) (zae e4 (zae (by omega) (zaq _))))))
  · exact (zll h c).elim
theorem zz8 (n : Node) (i : Int) (s : ShSt) (hs : s.1.length ≤ 1000) : Ev (fun k => zut k i n s) (putP n i s) := by
  unfold zut putP zef
  refine zae (by omega) (Ev.bind (zxg s.1 n (by omega)) (Ev.some ?_))
  rw [zw2]
  split <;> rfl
theorem zt7 (l : List Node) (hl : l.length ≤ 1000) (ok : okNs 0 l = true) : ∀ (d i : Nat) (s : ShSt), i < d → i < l.length → s.2.length = l.length → s.1.length ≤ nmd s.2 → Ev (fun k => shW k l d i s) (shD l d i s)
  | 0, _, _, h, _, _, _ => absurd h (by omega)
  | d + 1, i, s, hd, hi, h1, h2 => by
    have hr : zac l (i : Int) = l[i] := zh8 (zcy l i hi)
    have hok := zes l 0 i hi ok
    rw [Nat.zero_add] at hok
    simp only [shW, shD]
    rw [hr, zlx hi]
    refine zae ⟨by omega, by omega⟩ ?_
    by_cases q : 0 ≤ rd s.2 (i : Int)
    · rw [if_pos q]
      exact zae q (Ev.some rfl)
    rw [if_neg q]
    refine zao q (Ev.bind (zvt l[i]) (zae (by have := (zgz hok).1; omega) ?_))
    generalize l[i] = x at hok ⊢
    have fin : ∀ S : ShSt, S.2.length = l.length → S.1.length ≤ nmd S.2 → Ev (fun k => (zb1 k x.f0 x.f1 x.f2 x.f3 S.2).bind fun n => zut k i ⟨n.1, n.2.1, n.2.2.1, n.2.2.2⟩ S) (putP (ziz x S) i S) := fun S a b => by
      have := zyn S.2
      exact Ev.bind (ya3 x i hok S (by omega)) (zz8 (ziz x S) i S (by omega))
    rcases zna x.f0 with c | c | c | c | c
    · rw [zjb (.inl c), List.foldl_nil]
      exact Ev.bind (zaq s) (fin s h1 h2)
    · rw [zjb (.inr c), List.foldl_nil]
      exact Ev.bind (zaq s) (fin s h1 h2)
    · obtain ⟨e0, e1, e2⟩ := zu0 hok c
      rw [show zed (kN x.f0) x.f1 x.f2 = [x.f1] by rw [c]; rfl, List.foldl_cons, List.foldl_nil]
      obtain ⟨p, hp⟩ := Int.eq_ofNat_of_zero_le e1
      rw [hp] at e2 ⊢
      obtain ⟨m1, m2⟩ := zoi l ok d p s (by omega) (by omega) h1 h2
      refine Ev.bind (Ev.bind (zt7 l hl ok d p s (by omega) (by omega) h1 h2) (zaq _)) ?_
      rw [← hp]
      exact fin _ (by rw [hp]; exact m1.len) (by rw [hp]; exact m1.cnt)
    · obtain ⟨⟨e1, e2⟩, e4, e5⟩ := zth hok c
      rw [show zed (kN x.f0) x.f1 x.f2 = [x.f1, x.f2] by rw [c]; rfl, List.foldl_cons, List.foldl_cons, List.foldl_nil]
      obtain ⟨p, hp⟩ := Int.eq_ofNat_of_zero_le e1
      obtain ⟨p', hp'⟩ := Int.eq_ofNat_of_zero_le e4
      rw [hp] at e2 ⊢
      rw [hp'] at e5 ⊢
      obtain ⟨m1, m2⟩ := zoi l ok d p s (by omega) (by omega) h1 h2
      obtain ⟨n1, n2⟩ := zoi l ok d p' (shD l d p s) (by omega) (by omega) m1.len m1.cnt
      refine Ev.bind (Ev.bind (zt7 l hl ok d p s (by omega) (by omega) h1 h2) (Ev.bind (zt7 l hl ok d p' _ (by omega) (by omega) m1.len m1.cnt) (zaq _))) ?_
      rw [← hp, ← hp']
      exact fin _ (by rw [hp, hp']; exact n1.len) (by rw [hp, hp']; exact n1.cnt)
    · exact (zll hok c).elim
theorem zmk (l : List Node) (h0 : 0 < l.length) (hl : l.length ≤ 1000) (ok : okNs 0 l = true) : Ev (fun k => zfr k l) (shP l) := by
  unfold zfr
  refine zae (by omega) (Ev.call (a := List.replicate l.length (-1)) ?_ ?_)
  · unfold zfi
    rw [if_pos ⟨rfl, by omega, by omega⟩, Int.toNat_natCast]
    rfl
  have := ydh l l.length ((l.length - 1 : Nat) : Int) ([], List.replicate l.length (-1)) _ (zt7 l hl ok l.length (l.length - 1) _ (by omega) (by omega) (by simp) (by simp))
  rw [show ((l.length - 1 : Nat) : Int) = (l.length : Int) - 1 by omega] at this
  refine zae (by simp) (Ev.bind this (Ev.some ?_))
  unfold shP
  rw [show ((l.length - 1 : Nat) : Int) = (l.length : Int) - 1 by omega]
theorem zp2 (x : Node) : ∀ (xs : List Node) (i : Nat), okNs i (xs ++ [x]) = (okNs i xs && okNx x ((i + xs.length : Nat) : Int))
  | [], i => by simp [okNs]
  | y :: ys, i => by
    simp only [List.cons_append, okNs, zp2 x ys (i + 1), List.length_cons, Bool.and_assoc]
    rw [show i + 1 + ys.length = i + (ys.length + 1) by omega]
theorem zw3 {x : Node} {i m : Int} (h : okNx x i = true) {s : ShSt} (hp : ∀ p ∈ zed (kN x.f0) x.f1 x.f2, 0 ≤ rd s.2 p ∧ rd s.2 p < m) : okNx (ziz x s) m = true := by
  rcases zna x.f0 with c | c | c | c | c
  · rw [zhc s (.inl c)]
    unfold okNx at h ⊢
    rw [c] at h ⊢
    exact h
  · rw [zhc s (.inr c)]
    unfold okNx at h ⊢
    rw [c] at h ⊢
    exact h
  · rw [zp0 s c]
    rw [c] at hp
    have := hp x.f1 (by simp [zed])
    unfold okNx at h ⊢
    simp only
    rw [c] at h ⊢
    simp [okNd] at h ⊢
    omega
  · rw [zp1 s c]
    rw [c] at hp
    have := hp x.f1 (by simp [zed])
    have := hp x.f2 (by simp [zed])
    unfold okNx at h ⊢
    simp only
    rw [c] at h ⊢
    simp [okNd] at h ⊢
    omega
  · exact (zll h c).elim
inductive Tr where
  | lf (op : ByteArray) (v : Int) : Tr
  | un (op : ByteArray) (v : Int) (t : Tr) : Tr
  | bi (op : ByteArray) (v : Int) (t u : Tr) : Tr
def trN (x : Node) (g : Int → Tr) : Tr := match kN x.f0 with
  | 2 => .un x.f0 x.f3 (g x.f1)
  | 3 => .bi x.f0 x.f3 (g x.f1) (g x.f2)
  | _ => .lf x.f0 x.f3
def trOf (l : List Node) : Nat → Int → Tr
  | 0, _ => .lf ⟨#[]⟩ 0
  | d + 1, i => trN (l.getD i.toNat ⟨⟨#[]⟩, 0, 0, 0⟩) (trOf l d)
theorem zlm {x : Node} (g : Int → Tr) (c : kN x.f0 = 0 ∨ kN x.f0 = 1) : trN x g = .lf x.f0 x.f3 := by
  unfold trN
  rcases c with c | c <;> rw [c] <;> rfl
theorem zw4 {x : Node} (g : Int → Tr) (c : kN x.f0 = 2) : trN x g = .un x.f0 x.f3 (g x.f1) := by
  unfold trN
  rw [c]
  rfl
theorem zsc {x : Node} (g : Int → Tr) (c : kN x.f0 = 3) : trN x g = .bi x.f0 x.f3 (g x.f1) (g x.f2) := by
  unfold trN
  rw [c]
  rfl
theorem zp3 {x : Node} {i : Int} (h : okNx x i = true) {g g' : Int → Tr} (hg : ∀ p, 0 ≤ p → p ≤ i - 1 → g p = g' p) : trN x g = trN x g' := by
  obtain ⟨_, hp⟩ := zgz h
  unfold trN
  rcases zna x.f0 with c | c | c | c | c <;> rw [c] at hp ⊢ <;> simp only [zed] at hp ⊢
  · rw [hg _ (hp _ (by simp)).1 (hp _ (by simp)).2]
  · rw [hg _ (hp _ (by simp)).1 (hp _ (by simp)).2, hg x.f2 (hp _ (by simp)).1 (hp _ (by simp)).2]
theorem zkw {l : List Node} (ok : okNs 0 l = true) : ∀ (d d' i : Nat), i < d → i < d' → i < l.length → trOf l d i = trOf l d' i
  | 0, _, _, h, _, _ => absurd h (by omega)
  | _ + 1, 0, _, _, h, _ => absurd h (by omega)
  | d + 1, d' + 1, i, h, h', hi => by
    unfold trOf
    rw [zlx hi]
    have hok := zes l 0 i hi ok
    rw [Nat.zero_add] at hok
    refine zp3 hok (fun p p0 p1 => ?_)
    obtain ⟨p, rfl⟩ := Int.eq_ofNat_of_zero_le p0
    exact zkw ok d d' p (by omega) (by omega) (by omega)
def wT : Tr → List Node → List Node × Int
  | .lf op v, out => zef ⟨op, 0, 0, v⟩ out
  | .un op v t, out => zef ⟨op, (wT t out).2, 0, v⟩ (wT t out).1
  | .bi op v t u, out => zef ⟨op, (wT t out).2, (wT u (wT t out).1).2, v⟩ (wT u (wT t out).1).1
theorem zyo (x : Node) : exEq x x = true := by unfold exEq; simp
theorem zt8 {x n : Node} (q : exEq x n = true) (xs : List Node) (i : Int) : exIx n (x :: xs) i = i := by rw [exIx, if_pos q]
theorem zw5 {x n : Node} (q : ¬ exEq x n = true) (xs : List Node) (i : Int) : exIx n (x :: xs) i = exIx n xs (i + 1) := by rw [exIx, if_neg q]
theorem zt9 (n : Node) (ys : List Node) : ∀ (xs : List Node) (i : Int), 0 ≤ i → exIx n (xs ++ ys) i = if exIx n xs i < 0 then exIx n ys (i + xs.length) else exIx n xs i
  | [], i, h => by simp [exIx]
  | x :: xs, i, h => by
    rw [List.cons_append]
    by_cases q : exEq x n = true
    · rw [zt8 q, zt8 q, if_neg (by omega)]
    · rw [zw5 q, zw5 q, zt9 n ys xs (i + 1) (by omega)]
      simp only [List.length_cons]
      rw [show i + 1 + (xs.length : Int) = i + ((xs.length + 1 : Nat) : Int) by omega]
theorem znu (n : Node) (out : List Node) : ∃ ys, (zef n out).1 = out ++ ys := by
  unfold zef
  split
  · exact ⟨[n], rfl⟩
  · exact ⟨[], by simp⟩
theorem zqw (n : Node) (out ys : List Node) : zef n ((zef n out).1 ++ ys) = ((zef n out).1 ++ ys, (zef n out).2) := by
  by_cases q : exIx n out 0 < 0
  · have e : zef n out = (out ++ [n], (out.length : Int)) := by unfold zef; rw [if_pos q]
    rw [e]
    have e2 : exIx n (out ++ [n] ++ ys) 0 = out.length := by
      rw [List.append_assoc, zt9 n _ out 0 (by omega), if_pos q]
      rw [List.cons_append, zt8 (zyo n)]
      omega
    unfold zef
    rw [e2, if_neg (by omega)]
  · have e : zef n out = (out, exIx n out 0) := by unfold zef; rw [if_neg q]
    rw [e]
    have e2 : exIx n (out ++ ys) 0 = exIx n out 0 := by rw [zt9 n _ out 0 (by omega), if_neg q]
    unfold zef
    rw [e2, if_neg q]
theorem zu2 : ∀ (t : Tr) (out : List Node), ∃ ys, (wT t out).1 = out ++ ys
  | .lf op v, out => znu _ _
  | .un op v t, out => by
    obtain ⟨ys, h⟩ := zu2 t out
    obtain ⟨zs, h'⟩ := znu ⟨op, (wT t out).2, 0, v⟩ (wT t out).1
    exact ⟨ys ++ zs, by unfold wT; rw [h', h, List.append_assoc]⟩
  | .bi op v t u, out => by
    obtain ⟨ys, h⟩ := zu2 t out
    obtain ⟨ys', h2⟩ := zu2 u (wT t out).1
    obtain ⟨zs, h'⟩ := znu ⟨op, (wT t out).2, (wT u (wT t out).1).2, v⟩ (wT u (wT t out).1).1
    exact ⟨ys ++ (ys' ++ zs), by unfold wT; rw [h', h2, h]; simp only [List.append_assoc]⟩
theorem yb0 : ∀ (t : Tr) (out : List Node), 0 ≤ (wT t out).2
  | .lf op v, out => zpy _ _
  | .un op v t, out => zpy _ _
  | .bi op v t u, out => zpy _ _
theorem zsd : ∀ (t : Tr) (out ys : List Node), wT t ((wT t out).1 ++ ys) = ((wT t out).1 ++ ys, (wT t out).2)
  | .lf op v, out, ys => zqw _ _ _
  | .un op v t, out, ys => by
    obtain ⟨zs, h'⟩ := znu ⟨op, (wT t out).2, 0, v⟩ (wT t out).1
    have e : (wT (.un op v t) out).1 ++ ys = (wT t out).1 ++ (zs ++ ys) := by
      show (zef ⟨op, (wT t out).2, 0, v⟩ (wT t out).1).1 ++ ys = _
      rw [h', List.append_assoc]
    have e2 := zsd t out (zs ++ ys)
    rw [e]
    show zef ⟨op, (wT t ((wT t out).1 ++ (zs ++ ys))).2, 0, v⟩ (wT t ((wT t out).1 ++ (zs ++ ys))).1 = _
    rw [e2, ← e]
    exact zqw _ _ _
  | .bi op v t u, out, ys => by
    obtain ⟨ws, h⟩ := zu2 u (wT t out).1
    obtain ⟨zs, h'⟩ := znu ⟨op, (wT t out).2, (wT u (wT t out).1).2, v⟩ (wT u (wT t out).1).1
    have e1 : (wT (.bi op v t u) out).1 ++ ys = (wT u (wT t out).1).1 ++ (zs ++ ys) := by
      show (zef ⟨op, (wT t out).2, (wT u (wT t out).1).2, v⟩ (wT u (wT t out).1).1).1 ++ ys = _
      rw [h', List.append_assoc]
    have e : (wT (.bi op v t u) out).1 ++ ys = (wT t out).1 ++ (ws ++ (zs ++ ys)) := by rw [e1, h, List.append_assoc]
    have e2 := zsd t out (ws ++ (zs ++ ys))
    rw [← e] at e2
    have e3 := zsd u (wT t out).1 (zs ++ ys)
    rw [← e1] at e3
    show zef ⟨op, (wT t ((wT (.bi op v t u) out).1 ++ ys)).2, (wT u (wT t ((wT (.bi op v t u) out).1 ++ ys)).1).2, v⟩ (wT u (wT t ((wT (.bi op v t u) out).1 ++ ys)).1).1 = _
    rw [e2]
    simp only
    rw [e3]
    exact zqw _ _ _
theorem yb1 {t : Tr} {out : List Node} {r : Int} (h : wT t out = (out, r)) (ys : List Node) : wT t (out ++ ys) = (out ++ ys, r) := by
  have := zsd t out ys
  rwa [h] at this
structure Mem (l : List Node) (s : ShSt) : Prop where
  len : s.2.length = l.length
  mem : ∀ j : Nat, j < l.length → 0 ≤ rd s.2 (j : Int) → wT (trOf l (j + 1) j) s.1 = (s.1, rd s.2 (j : Int))
theorem zua {l : List Node} {i : Nat} {n : Node} {s : ShSt} (hi : i < l.length) (h : Mem l s) (hn : zef n s.1 = wT (trOf l (i + 1) i) s.1) : Mem l (putP n i s) ∧ (putP n i s).1 = (wT (trOf l (i + 1) i) s.1).1 ∧ rd (putP n i s).2 (i : Int) = (wT (trOf l (i + 1) i) s.1).2 := by
  have hl : i < s.2.length := by rw [h.len]; exact hi
  have e1 : (putP n i s).1 = (wT (trOf l (i + 1) i) s.1).1 := by unfold putP; rw [hn]
  have e2 : ∀ j : Nat, rd (putP n i s).2 (j : Int) = if i = j then (wT (trOf l (i + 1) i) s.1).2 else rd s.2 (j : Int) := fun j => by
    unfold putP
    simp only
    rw [Int.toNat_natCast, zpz _ _ _ _ hl, hn]
  refine ⟨⟨by unfold putP; simp [h.len], fun j hj h0 => ?_⟩, e1, by rw [e2, if_pos rfl]⟩
  rw [e1, e2]
  rw [e2] at h0
  by_cases q : i = j
  · subst q
    rw [if_pos rfl]
    have := zsd (trOf l (i + 1) i) s.1 []
    rwa [List.append_nil] at this
  · rw [if_neg q] at h0 ⊢
    obtain ⟨ys, hy⟩ := zu2 (trOf l (i + 1) i) s.1
    rw [hy]
    exact yb1 (h.mem j hj h0) ys
theorem zw6 {l : List Node} (ok : okNs 0 l = true) : ∀ (d i : Nat) (s : ShSt), i < d → i < l.length → Mem l s → Mem l (shD l d i s) ∧ (shD l d i s).1 = (wT (trOf l (i + 1) i) s.1).1 ∧ rd (shD l d i s).2 (i : Int) = (wT (trOf l (i + 1) i) s.1).2 ∧ ∀ j : Nat, 0 ≤ rd s.2 (j : Int) ∨ i < j → rd (shD l d i s).2 (j : Int) = rd s.2 (j : Int)
  | 0, _, _, h, _, _ => absurd h (by omega)
  | d + 1, i, s, hd, hi, hm => by
    have hok := zes l 0 i hi ok
    rw [Nat.zero_add] at hok
    have hq : ∀ (s1 : ShSt) (n : Node), s1.2.length = l.length → ∀ j : Nat, i ≠ j → rd (putP n i s1).2 (j : Int) = rd s1.2 (j : Int) := fun s1 n h1 j h3 => by
      unfold putP
      simp only
      rw [Int.toNat_natCast, zpz _ _ _ _ (by omega), if_neg h3]
    unfold shD
    by_cases q : 0 ≤ rd s.2 (i : Int)
    · rw [if_pos q]
      have := hm.mem i hi q
      exact ⟨hm, by rw [this], by rw [this], fun _ _ => rfl⟩
    have hne : ∀ j : Nat, 0 ≤ rd s.2 (j : Int) ∨ i < j → i ≠ j := fun j h e => by subst e; omega
    rw [if_neg q, zlx hi]
    have ht : trOf l (i + 1) i = trN l[i] (trOf l i) := by
      show trN (l.getD (i : Int).toNat ⟨⟨#[]⟩, 0, 0, 0⟩) (trOf l i) = _
      rw [zlx hi]
    have hx : l[i] = ⟨l[i].f0, l[i].f1, l[i].f2, l[i].f3⟩ := rfl
    generalize l[i] = x at hok ht hx ⊢
    have leaf : kN x.f0 = 0 ∨ kN x.f0 = 1 → trOf l (i + 1) i = .lf x.f0 x.f3 ∧ x = ⟨x.f0, 0, 0, x.f3⟩ := fun c => ⟨by rw [ht, zlm _ c], ybz hok c⟩
    rcases zna x.f0 with c | c | c | c | c
    · obtain ⟨t, e⟩ := leaf (.inl c)
      simp only [c, zed, List.foldl_nil, ziz]
      obtain ⟨h1, h2, h3⟩ := zua (n := x) hi hm (by rw [t]; exact congrArg (fun y => zef y s.1) e)
      exact ⟨h1, h2, h3, fun j h0 => hq s x hm.len j (hne j h0)⟩
    · obtain ⟨t, e⟩ := leaf (.inr c)
      simp only [c, zed, List.foldl_nil, ziz]
      obtain ⟨h1, h2, h3⟩ := zua (n := x) hi hm (by rw [t]; exact congrArg (fun y => zef y s.1) e)
      exact ⟨h1, h2, h3, fun j h0 => hq s x hm.len j (hne j h0)⟩
    · obtain ⟨e0, e1, e2⟩ := zu0 hok c
      simp only [c, zed, List.foldl_nil, List.foldl_cons, ziz]
      have e3 : trOf l (i + 1) i = .un x.f0 x.f3 (trOf l i x.f1) := by rw [ht, zw4 _ c]
      rw [e0]
      obtain ⟨p, hp⟩ := Int.eq_ofNat_of_zero_le e1
      rw [hp] at e2 e3 ⊢
      rw [zkw ok i (p + 1) p (by omega) (by omega) (by omega)] at e3
      obtain ⟨m1, m2, m3, m4⟩ := zw6 ok d p s (by omega) (by omega) hm
      have m5 : 0 ≤ rd (shD l d p s).2 (p : Int) := by rw [m3]; exact yb0 _ _
      have m6 := m1.mem p (by omega) m5
      have w1 : wT (trOf l (i + 1) i) (shD l d p s).1 = zef ⟨x.f0, rd (shD l d p s).2 (p : Int), 0, x.f3⟩ (shD l d p s).1 := by
        rw [e3]
        simp only [wT]
        rw [m6]
      have w0 : wT (trOf l (i + 1) i) s.1 = zef ⟨x.f0, rd (shD l d p s).2 (p : Int), 0, x.f3⟩ (shD l d p s).1 := by
        rw [e3]
        simp only [wT]
        rw [m2, m3]
      obtain ⟨h1, h2, h3⟩ := zua hi m1 w1.symm
      rw [w1] at h2 h3
      rw [w0]
      exact ⟨h1, h2, h3, fun j h0 => by rw [hq _ _ m1.len j (hne j h0), m4 j (h0.imp id (fun _ => by omega))]⟩
    · obtain ⟨⟨e1, e2⟩, e4, e5⟩ := zth hok c
      simp only [c, zed, List.foldl_nil, List.foldl_cons, ziz]
      have e3 : trOf l (i + 1) i = .bi x.f0 x.f3 (trOf l i x.f1) (trOf l i x.f2) := by rw [ht, zsc _ c]
      obtain ⟨p, hp⟩ := Int.eq_ofNat_of_zero_le e1
      obtain ⟨p', hp'⟩ := Int.eq_ofNat_of_zero_le e4
      rw [hp] at e2 e3 ⊢
      rw [hp'] at e5 e3 ⊢
      rw [zkw ok i (p + 1) p (by omega) (by omega) (by omega), zkw ok i (p' + 1) p' (by omega) (by omega) (by omega)] at e3
      obtain ⟨m1, m2, m3, m4⟩ := zw6 ok d p s (by omega) (by omega) hm
      generalize shD l d p s = s1 at *
      have m5 : 0 ≤ rd s1.2 (p : Int) := by rw [m3]; exact yb0 _ _
      obtain ⟨n1, n2, n3, n4⟩ := zw6 ok d p' s1 (by omega) (by omega) m1
      generalize shD l d p' s1 = s2 at *
      have n5 : 0 ≤ rd s2.2 (p' : Int) := by rw [n3]; exact yb0 _ _
      have n6 := n4 p (.inl m5)
      have n7 := n1.mem p (by omega) (by omega)
      have n8 := n1.mem p' (by omega) n5
      have w1 : wT (trOf l (i + 1) i) s2.1 = zef ⟨x.f0, rd s2.2 (p : Int), rd s2.2 (p' : Int), x.f3⟩ s2.1 := by
        rw [e3]
        simp only [wT]
        rw [n7]
        simp only
        rw [n8]
      have w0 : wT (trOf l (i + 1) i) s.1 = zef ⟨x.f0, rd s2.2 (p : Int), rd s2.2 (p' : Int), x.f3⟩ s2.1 := by
        rw [e3]
        simp only [wT]
        rw [← m2, ← m3, ← n2, ← n3, n6]
      obtain ⟨h1, h2, h3⟩ := zua hi n1 w1.symm
      rw [w1] at h2 h3
      rw [w0]
      exact ⟨h1, h2, h3, fun j h0 => by rw [hq _ _ n1.len j (hne j h0), n4 j (by rcases h0 with h0 | h0; · exact .inl (by rw [m4 j (.inl h0)]; exact h0)
                                                                                 · exact .inr (by omega)), m4 j (h0.imp id (fun _ => by omega))]⟩
    · exact (zll hok c).elim
theorem ya4 {l : List Node} (ok : okNs 0 l = true) (h : 0 < l.length) : shP l = (wT (trOf l l.length ((l.length - 1 : Nat) : Int)) []).1 := by
  have hm : Mem l ([], List.replicate l.length (-1)) := ⟨by simp, fun j hj h0 => by
    exfalso
    unfold rd at h0
    rw [Int.toNat_natCast, zcy _ j (by simpa using hj)] at h0
    simp at h0⟩
  have := (zw6 ok l.length (l.length - 1) _ (by omega) (by omega) hm).2.1
  unfold shP
  rw [this, show l.length - 1 + 1 = l.length by omega]
def TRN (ns : List Node) (i : Int) : Tr := trOf ns ns.length i
theorem zu3 : ∀ (xs ys : List Node) (i : Nat), okNs i (xs ++ ys) = true → okNs i xs = true
  | [], _, _, _ => rfl
  | x :: xs, ys, i, h => by
    simp only [List.cons_append, okNs, Bool.and_eq_true] at h ⊢
    exact ⟨h.1, zu3 xs ys (i + 1) h.2⟩
theorem zub {ns ys : List Node} (ok : okNs 0 (ns ++ ys) = true) : ∀ (d i : Nat), i < d → i < ns.length → trOf (ns ++ ys) d i = trOf ns d i
  | 0, _, h, _ => absurd h (by omega)
  | d + 1, i, h, hi => by
    unfold trOf
    rw [zlx hi, zlx (show i < (ns ++ ys).length by simp; omega), List.getElem_append_left hi]
    have hok := zes ns 0 i hi (zu3 ns ys 0 ok)
    rw [Nat.zero_add] at hok
    refine zp3 hok (fun p p0 p1 => ?_)
    obtain ⟨p, rfl⟩ := Int.eq_ofNat_of_zero_le p0
    exact zub ok d p (by omega) (by omega)
theorem zyp {ns : List Node} {n : Node} (ok : okNs 0 (ns ++ [n]) = true) (i : Nat) (hi : i < ns.length) : TRN (ns ++ [n]) (i : Int) = TRN ns (i : Int) := by
  unfold TRN
  rw [zkw ok _ ns.length i (by simp; omega) hi (by simp; omega), zub ok _ i hi hi]
theorem zyq {ns : List Node} {n : Node} (ok : okNs 0 (ns ++ [n]) = true) : TRN (ns ++ [n]) (ns.length : Int) = trN n (TRN ns) := by
  have hn : okNx n (ns.length : Int) = true := by
    have := zp2 n ns 0
    rw [ok, Nat.zero_add] at this
    exact (Bool.and_eq_true _ _ ▸ this.symm : (okNs 0 ns && okNx n (ns.length : Int)) = true) |> fun h => (Bool.and_eq_true _ _ ▸ h : okNs 0 ns = true ∧ okNx n (ns.length : Int) = true).2
  unfold TRN
  rw [show (ns ++ [n]).length = ns.length + 1 by simp]
  show trN ((ns ++ [n]).getD (ns.length : Int).toNat ⟨⟨#[]⟩, 0, 0, 0⟩) (trOf (ns ++ [n]) ns.length) = trN n (trOf ns ns.length)
  rw [zlx (show ns.length < (ns ++ [n]).length by simp), List.getElem_concat_length rfl]
  refine zp3 hn (fun p p0 p1 => ?_)
  obtain ⟨p, rfl⟩ := Int.eq_ofNat_of_zero_le p0
  exact zub ok ns.length p (by omega) (by omega)
theorem zz9 (x : Node) (s : ShSt) (g : Int → Tr) : trN (ziz x s) g = trN x (fun p => g (rd s.2 p)) := by
  rcases zna x.f0 with c | c | c | c | c
  · rw [zhc s (.inl c), zlm _ (.inl c), zlm _ (.inl c)]
  · rw [zhc s (.inr c), zlm _ (.inr c), zlm _ (.inr c)]
  · rw [zp0 s c, zw4 (x := x) _ c, zw4 _ (by exact c)]
  · rw [zp1 s c, zsc (x := x) _ c, zsc _ (by exact c)]
  · have e : ziz x s = x := by unfold ziz; rw [c]; rfl
    rw [e]
    unfold trN
    rw [c]
    rfl
def prt (x : Node) : List Int := zed (kN x.f0) x.f1 x.f2
theorem rdB (u : List Bool) (j : Nat) : rdOf false u (j : Int) = u.getD j false := by unfold rdOf; rw [Int.toNat_natCast]
def mk1 (k : Int) (u : List Bool) (p : Int) : List Bool := if rdOf false u p = true then u.set p.toNat true else u.set p.toNat (rdOf false u k)
theorem zvv (k : Int) (u : List Bool) (p : Int) : (mk1 k u p).length = u.length := by unfold mk1; split <;> simp
theorem yb2 (k : Int) (u : List Bool) (p j : Nat) (hp : p < u.length) : (mk1 k u p).getD j false = if p = j then (u.getD p false || rdOf false u k) else u.getD j false := by
  unfold mk1
  rw [rdB, Int.toNat_natCast]
  by_cases h : u.getD p false = true
  · rw [if_pos h, List.getD_eq_getElem?_getD, List.getElem?_set]
    split
    · rw [h]; rfl
    · rw [← List.getD_eq_getElem?_getD]
  · rw [if_neg h, List.getD_eq_getElem?_getD, List.getElem?_set]
    split
    · rw [show u.getD p false = false by simpa using h]; rfl
    · rw [← List.getD_eq_getElem?_getD]
theorem mkF (k m : Nat) : ∀ (ps : List Int) (u : List Bool), (∀ p ∈ ps, 0 ≤ p ∧ p ≤ (k : Int) - 1) → u.length = m → k < m →
    (ps.foldl (mk1 k) u).length = m ∧ (∀ j : Nat, k ≤ j → (ps.foldl (mk1 k) u).getD j false = u.getD j false) ∧ (∀ j : Nat, u.getD j false = true → (ps.foldl (mk1 k) u).getD j false = true) ∧ (u.getD k false = true → ∀ p ∈ ps, (ps.foldl (mk1 k) u).getD p.toNat false = true)
  | [], u, _, h, _ => ⟨h, fun _ _ => rfl, fun _ h => h, fun _ p hp => absurd hp (by simp)⟩
  | q :: ps, u, hps, h, hk => by
    obtain ⟨q0, q1⟩ := hps q (by simp)
    obtain ⟨p, rfl⟩ := Int.eq_ofNat_of_zero_le q0
    have g := fun j => yb2 (k : Int) u p j (by omega)
    obtain ⟨a, b, c, d⟩ := mkF k m ps (mk1 k u p) (fun x hx => hps x (by simp [hx])) (by rw [zvv, h]) hk
    refine ⟨a, fun j hj => ?_, fun j hj => ?_, fun hu x hx => ?_⟩
    · show (ps.foldl (mk1 k) (mk1 k u p)).getD j false = _
      rw [b j hj, g, if_neg (by omega)]
    · refine c j ?_
      rw [g]
      split
      · rename_i e
        subst e
        rw [hj]
        rfl
      · exact hj
    · show (ps.foldl (mk1 k) (mk1 k u p)).getD x.toNat false = true
      rcases List.mem_cons.1 hx with rfl | hx
      · refine c _ ?_
        rw [Int.toNat_natCast, g, if_pos rfl, rdB, hu]
        simp
      · refine d ?_ x hx
        rw [g, if_neg (by omega)]
        exact hu
structure Nd (ns : List Node) (i0 m : Nat) (k : Int) (u : List Bool) : Prop where
  len : u.length = m
  top : u.getD i0 false = true
  hi : ∀ j : Nat, i0 < j → u.getD j false = false
  cl : ∀ (j : Nat) (hj : j < ns.length), k < (j : Int) → u.getD j false = true → ∀ p ∈ prt ns[j], u.getD p.toNat false = true
theorem Nd.step {ns : List Node} {i0 m k : Nat} {u : List Bool} (h : Nd ns i0 m (k : Int) u) (ok : okNs 0 ns = true) (hk : k < ns.length) (hi : k ≤ i0) (hm : i0 < m) : Nd ns i0 m ((k : Int) - 1) ((prt ns[k]).foldl (mk1 k) u) := by
  have hok := zes ns 0 k hk ok
  rw [Nat.zero_add] at hok
  obtain ⟨a, b, c, d⟩ := mkF k m (prt ns[k]) u (zgz hok).2 h.len (by omega)
  refine ⟨a, c i0 h.top, fun j hj => by rw [b j (by omega), h.hi j hj], fun j hj hkj hu p hp => ?_⟩
  have hu' : u.getD j false = true := by rw [← b j (by omega)]; exact hu
  by_cases e : j = k
  · subst e
    exact d hu' p hp
  · exact c _ (h.cl j hj (by omega) hu' p hp)
structure Kq (ns : List Node) (i0 m : Nat) (u : List Bool) (j : Nat) (out : List Node) (names : List Int) : Prop where
  ok : okNs 0 out = true
  le : out.length ≤ j
  nl : names.length = m
  mp : ∀ q : Nat, q < j → u.getD q false = true → 0 ≤ rd names (q : Int) ∧ rd names (q : Int) < out.length ∧ TRN out (rd names (q : Int)) = TRN ns (q : Int)
  last : i0 < j → rd names (i0 : Int) = (out.length : Int) - 1
theorem Kq.skip {ns : List Node} {i0 m : Nat} {u : List Bool} {j : Nat} {out : List Node} {names : List Int} (h : Kq ns i0 m u j out names) (hu : u.getD j false = false) (ht : u.getD i0 false = true) : Kq ns i0 m u (j + 1) out names := by
  have ne : ∀ q : Nat, u.getD q false = true → q ≠ j := fun q hq e => by rw [e, hu] at hq; cases hq
  refine ⟨h.ok, by have := h.le; omega, h.nl, fun q hq hq' => h.mp q (by have := ne q hq'; omega) hq', fun hi => h.last (by have := ne i0 ht; omega)⟩
theorem ydk {ns : List Node} (ok : okNs 0 ns = true) (j : Nat) (hj : j < ns.length) : TRN ns (j : Int) = trN ns[j] (TRN ns) := by
  have hok := zes ns 0 j hj ok
  rw [Nat.zero_add] at hok
  unfold TRN
  rw [zkw ok ns.length (j + 1) j hj (by omega) hj]
  show trN (ns.getD (j : Int).toNat ⟨⟨#[]⟩, 0, 0, 0⟩) (trOf ns j) = _
  rw [zlx hj]
  refine zp3 hok (fun p p0 p1 => ?_)
  obtain ⟨p, rfl⟩ := Int.eq_ofNat_of_zero_le p0
  exact zkw ok j ns.length p (by omega) (by omega) (by omega)
theorem Kq.put {ns : List Node} {i0 m : Nat} {u : List Bool} {j : Nat} {out : List Node} {names : List Int} (h : Kq ns i0 m u j out names) (ok : okNs 0 ns = true) (hN : Nd ns i0 m (-1) u) (hj : j < ns.length) (hjm : j < m) (hu : u.getD j false = true) :
    Kq ns i0 m u (j + 1) (out ++ [ziz ns[j] (out, names.set j (out.length : Int))]) (names.set j (out.length : Int)) := by
  have hok := zes ns 0 j hj ok
  rw [Nat.zero_add] at hok
  have hnl : j < names.length := by rw [h.nl]; exact hjm
  have hr : ∀ q : Nat, rd (names.set j (out.length : Int)) (q : Int) = if j = q then (out.length : Int) else rd names (q : Int) := fun q => zpz _ _ _ _ hnl
  have hi0 : j ≤ i0 := by
    rcases Nat.lt_or_ge i0 j with a | a
    · rw [hN.hi j a] at hu
      cases hu
    · exact a
  have hp : ∀ p ∈ prt ns[j], 0 ≤ rd (names.set j (out.length : Int)) p ∧ rd (names.set j (out.length : Int)) p < out.length ∧ TRN out (rd (names.set j (out.length : Int)) p) = TRN ns p := fun p hp => by
    obtain ⟨a, b⟩ := (zgz hok).2 p hp
    obtain ⟨p', rfl⟩ := Int.eq_ofNat_of_zero_le a
    have := hN.cl j hj (by omega) hu _ hp
    rw [Int.toNat_natCast] at this
    rw [hr, if_neg (by omega)]
    exact h.mp p' (by omega) this
  have hn : okNx (ziz ns[j] (out, names.set j (out.length : Int))) (out.length : Int) = true := zw3 hok (fun p hq => ⟨(hp p hq).1, (hp p hq).2.1⟩)
  have ok' : okNs 0 (out ++ [ziz ns[j] (out, names.set j (out.length : Int))]) = true := by rw [zp2, h.ok, Nat.zero_add, hn]; rfl
  refine ⟨ok', by have := h.le; simp only [List.length_append, List.length_cons, List.length_nil]; omega, by simp [h.nl], fun q hq hq' => ?_, fun hi => ?_⟩
  · rw [hr]
    by_cases e : j = q
    · subst e
      rw [if_pos rfl]
      refine ⟨by omega, by simp; omega, ?_⟩
      rw [zyq ok', zz9, ydk ok j hj]
      unfold trN
      have hh := hp
      unfold prt at hh
      rcases zna ns[j].f0 with c | c | c | c | c <;> rw [c] at hh ⊢ <;> simp only [zed] at hh ⊢
      · rw [(hh _ (by simp)).2.2]
      · rw [(hh _ (by simp)).2.2, (hh ns[j].f2 (by simp)).2.2]
    · rw [if_neg e]
      obtain ⟨a, b, c⟩ := h.mp q (by omega) hq'
      obtain ⟨z, hz⟩ := Int.eq_ofNat_of_zero_le a
      rw [hz] at b c ⊢
      exact ⟨by omega, by simp; omega, by rw [zyp ok' z (by omega), c]⟩
  · have : i0 = j := by omega
    subst this
    rw [hr, if_pos rfl]
    simp
def zuc (ns : List Node) (i : Nat) (e : List Node) : Prop := okNs 0 e = true ∧ 0 < e.length ∧ e.length ≤ ns.length ∧ TRN e ((e.length : Int) - 1) = TRN ns (i : Int)
theorem Kq.kept {ns : List Node} {i0 m : Nat} {u : List Bool} {j : Nat} {out : List Node} {names : List Int} (h : Kq ns i0 m u j out names) (hN : Nd ns i0 m (-1) u) (hj : i0 < j) (hl : j ≤ ns.length) : zuc ns i0 out := by
  obtain ⟨a, b, c⟩ := h.mp i0 hj hN.top
  have d := h.last hj
  have := h.le
  exact ⟨h.ok, by omega, by omega, by rw [← d]; exact c⟩
theorem zvw (ns : List Node) (ok : okNs 0 ns = true) (hl : ns.length ≤ 1000) (i0 : Nat) (hi : i0 < ns.length) (u : List Bool) (hN : Nd ns i0 ns.length (-1) u) : ∀ (d j : Nat) (out : List Node) (names : List Int), j + d = ns.length → Kq ns i0 ns.length u j out names → ∃ e, Ev (fun k => zc8 k u out names ns ns.length j) e ∧ zuc ns i0 e
  | 0, j, out, names, h, hK => ⟨out, Ev.step (fun k => by simp only [zc8]; rfl) (zao (by omega) (zaq _)), hK.kept hN (by omega) (by omega)⟩
  | d + 1, j, out, names, h, hK => by
    have hj : j < ns.length := by omega
    have hx : zac ns (j : Int) = ns[j] := zh8 (zcy ns j hj)
    have hok := zes ns 0 j hj ok
    rw [Nat.zero_add] at hok
    have hul := hN.len
    have hnl := hK.nl
    have hle := hK.le
    by_cases q : u.getD j false = true
    · obtain ⟨e, a, b⟩ := zvw ns ok hl i0 hi u hN d (j + 1) _ _ (by omega) (hK.put ok hN hj hj q)
      rw [← w64n j (by omega)] at a
      have hrn := ya3 ns[j] (j : Int) hok (out, names.set j (out.length : Int)) (by simp; omega)
      refine ⟨e, Ev.step (fun k => by simp only [zc8, rdB, hx, Int.toNat_natCast, Option.bind_some]; rfl) (zae (by omega) (zae (by omega) (zae (by omega) (zae (by omega) (zae q (zae (by omega) (Ev.bind hrn ?_))))))), b⟩
      exact zae (by omega) a
    · obtain ⟨e, a, b⟩ := zvw ns ok hl i0 hi u hN d (j + 1) _ _ (by omega) (hK.skip (by simpa using q) hN.top)
      rw [← w64n j (by omega)] at a
      exact ⟨e, Ev.step (fun k => by simp only [zc8, rdB, hx, Int.toNat_natCast]; rfl) (zae (by omega) (zae (by omega) (zae (by omega) (zae (by omega) (zao q a))))), b⟩
theorem zyr (ns : List Node) (i j : Nat) (ps : List Int) (hps : ∀ p ∈ ps, 0 ≤ p ∧ p ≤ (j : Int) - 1) (hpl : ps.length ≤ 2) (m : Nat) (hjm : j < m) (e : List Node) : ∀ (d t : Nat) (u : List Bool), t + d = ps.length → u.length = m →
    Ev (fun k => zd9 k ns ((ps.drop t).foldl (mk1 j) u) (wrap64 ((j : Int) - 1))) e → Ev (fun k => zdc k ns u j ps ps.length t) e
  | 0, t, u, h, hu, H => by
    rw [List.drop_of_length_le (by omega)] at H
    exact Ev.step (fun k => by simp only [zdc]; rfl) (zao (by omega) H)
  | d + 1, t, u, h, hu, H => by
    have ht : t < ps.length := by omega
    rw [List.drop_eq_getElem_cons ht, List.foldl_cons] at H
    obtain ⟨p0, p1⟩ := hps _ (List.getElem_mem ht)
    have hr : rd ps (t : Int) = ps[t] := zps (zcy ps t ht)
    have ih := zyr ns i j ps hps hpl m hjm e d (t + 1) (mk1 j u ps[t]) (by omega) (by rw [zvv, hu]) H
    rw [← w64n t (by omega)] at ih
    refine Ev.step (fun k => by simp only [zdc, hr]; rfl) (zae (by omega) (zae (by omega) (zae (by omega) (zae p0 (zae (by omega) ?_)))))
    unfold mk1 at ih
    by_cases q : rdOf false u ps[t] = true
    · rw [if_pos q] at ih
      exact zae q ih
    · rw [if_neg q] at ih
      exact zao q (zae (by omega) (zae (by omega) ih))
theorem zys (ns : List Node) (ok : okNs 0 ns = true) (hl : ns.length ≤ 1000) (i0 : Nat) (hi : i0 < ns.length) : ∀ (j : Nat) (u : List Bool), j ≤ i0 + 1 → Nd ns i0 ns.length ((j : Int) - 1) u → ∃ e, Ev (fun k => zd9 k ns u ((j : Int) - 1)) e ∧ zuc ns i0 e
  | 0, u, _, hN => by
    obtain ⟨e, a, b⟩ := zvw ns ok hl i0 hi u hN ns.length 0 [] (List.replicate ns.length 0) (by omega) ⟨rfl, Nat.le_refl _, by simp, fun q hq => absurd hq (by omega), fun hq => absurd hq (by omega)⟩
    refine ⟨e, Ev.step (fun k => by simp only [zd9]; rfl) (zao (by omega) (zae (by omega) (zae (by omega) ?_))), b⟩
    simpa using a
  | j + 1, u, hj, hN => by
    have e1 : (((j + 1 : Nat) : Int) - 1) = (j : Int) := by omega
    rw [e1] at hN ⊢
    have hjl : j < ns.length := by omega
    have hx : zac ns (j : Int) = ns[j] := zh8 (zcy ns j hjl)
    have hok := zes ns 0 j hjl ok
    rw [Nat.zero_add] at hok
    obtain ⟨e, a, b⟩ := zys ns ok hl i0 hi j _ (by omega) (hN.step ok hjl (by omega) hi)
    rw [← w64 (x := (j : Int) - 1) (by omega) (by omega)] at a
    exact ⟨e, Ev.step (fun k => by simp only [zd9, hx]; rfl) (zae (by omega) (zae (by omega) (zae (by omega) (Ev.bind (zvt ns[j]) (zyr ns i0 j (prt ns[j]) (zgz hok).2 (zgz hok).1 ns.length hjl e (prt ns[j]).length 0 u (by omega) hN.len (by rw [List.drop_zero]; exact a)))))), b⟩
theorem ya5 (ns : List Node) (i0 m : Nat) (h : i0 < m) : Nd ns i0 m (i0 : Int) ((List.replicate m false).set i0 true) := by
  have g : ∀ j : Nat, ((List.replicate m false).set i0 true).getD j false = if i0 = j then true else false := fun j => by
    rw [List.getD_eq_getElem?_getD, List.getElem?_set]
    split
    · simp [h]
    · rw [List.getElem?_replicate]
      split <;> rfl
  refine ⟨by simp, by rw [g, if_pos rfl], fun j hj => by rw [g, if_neg (by omega)], fun j hj hk hu => ?_⟩
  rw [g, if_neg (by omega)] at hu
  cases hu
theorem zyt (ns : List Node) (ok : okNs 0 ns = true) (hl : ns.length ≤ 1000) (i0 : Nat) (hi : i0 < ns.length) : ∃ e, Ev (fun k => zg7 k ns i0) e ∧ zuc ns i0 e := by
  have hN := ya5 ns i0 ns.length hi
  rw [show (i0 : Int) = ((i0 + 1 : Nat) : Int) - 1 by omega] at hN
  obtain ⟨e, a, b⟩ := zys ns ok hl i0 hi (i0 + 1) _ (Nat.le_refl _) hN
  rw [show ((i0 + 1 : Nat) : Int) - 1 = (i0 : Int) by omega] at a
  refine ⟨e, ?_, b⟩
  unfold zg7
  refine zae (by omega) (zae (by omega) ?_)
  rw [Int.toNat_natCast]
  exact Ev.call rfl (zae (by omega) (zae (by simp; omega) (by rw [Int.toNat_natCast]; exact a)))
theorem yaa (x : Node) (i : Int) (h : okNx x i = true) (s : ShSt) (hi : i ≤ s.2.length) : Ev (fun k => ze4 k x.f0 x.f1 x.f2 x.f3 s.2) ((ziz x s).f0, (ziz x s).f1, (ziz x s).f2, (ziz x s).f3) := by
  unfold ze4
  refine Ev.bind (zio x) ?_
  rcases zna x.f0 with c | c | c | c | c
  · obtain ⟨e1, e2⟩ := zt5 h (.inl c)
    rw [zhc s (.inl c), zjb (.inl c)]
    refine zae ⟨by simp, by simp⟩ (Ev.some ?_)
    rw [e1, e2]
    rfl
  · obtain ⟨e1, e2⟩ := zt5 h (.inr c)
    rw [zhc s (.inr c), zjb (.inr c)]
    refine zae ⟨by simp, by simp⟩ (Ev.some ?_)
    rw [e1, e2]
    rfl
  · obtain ⟨e0, e1, e2⟩ := zu0 h c
    rw [zp0 s c, show zed (kN x.f0) x.f1 x.f2 = [x.f1] by rw [c]; rfl]
    refine zae ⟨fun _ => ⟨e1, by omega⟩, by simp⟩ (Ev.some ?_)
    rw [e0]
    rfl
  · obtain ⟨⟨e1, e2⟩, e4, e5⟩ := zth h c
    rw [zp1 s c, show zed (kN x.f0) x.f1 x.f2 = [x.f1, x.f2] by rw [c]; rfl]
    exact zae ⟨fun _ => ⟨e1, by omega⟩, fun _ => ⟨e4, by omega⟩⟩ (zaq _)
  · exact (zll h c).elim
theorem zvx (ns : List Node) (ok : okNs 0 ns = true) (hl : ns.length ≤ 1000) (i0 : Nat) (hi : i0 < ns.length) (u : List Bool) (hN : Nd ns i0 (i0 + 1) (-1) u) : ∀ (d j : Nat) (out : List Node) (names : List Int), j + d = i0 + 1 → Kq ns i0 (i0 + 1) u j out names → ∃ e, Ev (fun k => zbv k ns i0 u names out j) e ∧ zuc ns i0 e
  | 0, j, out, names, h, hK => ⟨out, Ev.step (fun k => by simp only [zbv]; rfl) (zao (by omega) (zaq _)), hK.kept hN (by omega) (by omega)⟩
  | d + 1, j, out, names, h, hK => by
    have hj : j < ns.length := by omega
    have hx : zac ns (j : Int) = ns[j] := zh8 (zcy ns j hj)
    have hok := zes ns 0 j hj ok
    rw [Nat.zero_add] at hok
    have hul := hN.len
    have hnl := hK.nl
    have hle := hK.le
    by_cases q : u.getD j false = true
    · obtain ⟨e, a, b⟩ := zvx ns ok hl i0 hi u hN d (j + 1) _ _ (by omega) (hK.put ok hN hj (by omega) q)
      rw [← w64n j (by omega)] at a
      have hrn := yaa ns[j] (j : Int) hok (out, names.set j (out.length : Int)) (by simp; omega)
      refine ⟨e, Ev.step (fun k => by simp only [zbv, rdB, hx, Int.toNat_natCast, Option.bind_some]; rfl) (zae (by omega) (zae (by omega) (zae (by omega) (zae q (zae (by omega) (zae (by omega) (Ev.bind hrn ?_))))))), b⟩
      exact zae (by omega) a
    · obtain ⟨e, a, b⟩ := zvx ns ok hl i0 hi u hN d (j + 1) _ _ (by omega) (hK.skip (by simpa using q) hN.top)
      rw [← w64n j (by omega)] at a
      exact ⟨e, Ev.step (fun k => by simp only [zbv, rdB, hx, Int.toNat_natCast]; rfl) (zae (by omega) (zae (by omega) (zae (by omega) (zao q a)))), b⟩
theorem zyu (ns : List Node) (i0 j : Nat) (ps : List Int) (hps : ∀ p ∈ ps, 0 ≤ p ∧ p ≤ (j : Int) - 1) (hpl : ps.length ≤ 2) (m : Nat) (hjm : j < m) (e : List Node) : ∀ (d t : Nat) (u : List Bool), t + d = ps.length → u.length = m →
    Ev (fun k => zcu k ns i0 ((ps.drop t).foldl (mk1 j) u) (wrap64 ((j : Int) - 1))) e → Ev (fun k => zcf k ns i0 u j ps ps.length t) e
  | 0, t, u, h, hu, H => by
    rw [List.drop_of_length_le (by omega)] at H
    exact Ev.step (fun k => by simp only [zcf]; rfl) (zao (by omega) H)
  | d + 1, t, u, h, hu, H => by
    have ht : t < ps.length := by omega
    rw [List.drop_eq_getElem_cons ht, List.foldl_cons] at H
    obtain ⟨p0, p1⟩ := hps _ (List.getElem_mem ht)
    have hr : rd ps (t : Int) = ps[t] := zps (zcy ps t ht)
    have ih := zyu ns i0 j ps hps hpl m hjm e d (t + 1) (mk1 j u ps[t]) (by omega) (by rw [zvv, hu]) H
    rw [← w64n t (by omega)] at ih
    refine Ev.step (fun k => by simp only [zcf, hr]; rfl) (zae (by omega) (zae (by omega) (zae (by omega) (zae p0 (zae (by omega) ?_)))))
    unfold mk1 at ih
    by_cases q : rdOf false u ps[t] = true
    · rw [if_pos q] at ih
      exact zae q ih
    · rw [if_neg q] at ih
      exact zao q (zae (by omega) (zae (by omega) ih))
theorem zyv (ns : List Node) (ok : okNs 0 ns = true) (hl : ns.length ≤ 1000) (i0 : Nat) (hi : i0 < ns.length) : ∀ (j : Nat) (u : List Bool), j ≤ i0 + 1 → Nd ns i0 (i0 + 1) ((j : Int) - 1) u → ∃ e, Ev (fun k => zcu k ns i0 u ((j : Int) - 1)) e ∧ zuc ns i0 e
  | 0, u, _, hN => by
    obtain ⟨e, a, b⟩ := zvx ns ok hl i0 hi u hN (i0 + 1) 0 [] (List.replicate (i0 + 1) 0) (by omega) ⟨rfl, Nat.le_refl _, by simp, fun q hq => absurd hq (by omega), fun hq => absurd hq (by omega)⟩
    have ew : wrap64 ((i0 : Int) + 1) = ((i0 + 1 : Nat) : Int) := w64n i0 (by omega)
    refine ⟨e, Ev.step (fun k => by simp only [zcu, ew]; rfl) (zao (by omega) (zae (by omega) (zae (by omega) ?_))), b⟩
    simpa using a
  | j + 1, u, hj, hN => by
    have e1 : (((j + 1 : Nat) : Int) - 1) = (j : Int) := by omega
    rw [e1] at hN ⊢
    have hjl : j < ns.length := by omega
    have hx : zac ns (j : Int) = ns[j] := zh8 (zcy ns j hjl)
    have hok := zes ns 0 j hjl ok
    rw [Nat.zero_add] at hok
    obtain ⟨e, a, b⟩ := zyv ns ok hl i0 hi j _ (by omega) (hN.step ok hjl (by omega) (by omega))
    rw [← w64 (x := (j : Int) - 1) (by omega) (by omega)] at a
    exact ⟨e, Ev.step (fun k => by simp only [zcu, hx]; rfl) (zae (by omega) (zae (by omega) (zae (by omega) (Ev.bind (zio ns[j]) (zyu ns i0 j (prt ns[j]) (zgz hok).2 (zgz hok).1 (i0 + 1) (by omega) e (prt ns[j]).length 0 u (by omega) hN.len (by rw [List.drop_zero]; exact a)))))), b⟩
theorem zyw (ns : List Node) (ok : okNs 0 ns = true) (hl : ns.length ≤ 1000) (i0 : Nat) (hi : i0 < ns.length) : ∃ e, Ev (fun k => zfl k ns i0) e ∧ zuc ns i0 e := by
  have hN := ya5 ns i0 (i0 + 1) (by omega)
  rw [show (i0 : Int) = ((i0 + 1 : Nat) : Int) - 1 by omega] at hN
  obtain ⟨e, a, b⟩ := zyv ns ok hl i0 hi (i0 + 1) _ (Nat.le_refl _) hN
  rw [show ((i0 + 1 : Nat) : Int) - 1 = (i0 : Int) by omega] at a
  refine ⟨e, ?_, b⟩
  unfold zfl
  rw [w64n i0 (by omega), Int.toNat_natCast]
  refine zae (by omega) (zae (by omega) ?_)
  exact Ev.call rfl (zae (by omega) (zae (by simp; omega) (by rw [Int.toNat_natCast]; exact a)))
theorem zti {ns ms : List Node} {i j : Nat} {e e' : List Node} (h : zuc ns i e) (h' : zuc ms j e') (ht : TRN ns (i : Int) = TRN ms (j : Int)) : shP e = shP e' := by
  obtain ⟨a, b, c, d⟩ := h
  obtain ⟨a', b', c', d'⟩ := h'
  rw [ya4 a b, ya4 a' b']
  unfold TRN at d d' ht
  rw [show ((e.length - 1 : Nat) : Int) = (e.length : Int) - 1 by omega, show ((e'.length - 1 : Nat) : Int) = (e'.length : Int) - 1 by omega, d, d', ht]
def nC : ByteArray := ⟨#[99, 111, 110, 115, 116]⟩
def nAdd : ByteArray := ⟨#[97, 100, 100]⟩
def nShl : ByteArray := ⟨#[115, 104, 108]⟩
def opK (s : ByteArray) : Nat := match cls s with
  | 0 => 0
  | 1 => if s.toList = ([109, 111, 118] : List UInt8) then 1 else 2
  | 2 => 3
  | 3 => 3
  | 4 => 3
  | 5 => 4
  | 6 => 4
  | 7 => 5
  | _ => 6
def ydl (s : ByteArray) : Bool :=
  decide (opK s ≤ 5) && decide (s.toList = ([115, 101, 116] : List UInt8) ↔ opK s = 0) && decide (s.toList = ([109, 111, 118] : List UInt8) ↔ opK s = 1) && decide (s.toList = ([108, 101, 97] : List UInt8) ↔ opK s = 5) &&
  decide (opK s = 2 → kN s = 2) && decide (opK s = 3 → kN s = 3) && decide (opK s = 4 → kN (s.extract 0 3) = 3 ∧ s.size = 4) &&
  decide ((zhk (cls s) s).2.2.1 ≤ (zhk (cls s) s).2.2.2.1 ↔ opK s = 0 ∨ opK s = 4 ∨ opK s = 5) && decide (opK s = 2 → (zhk (cls s) s).2.1 = false ∧ (zhk (cls s) s).2.2.2.2.2.1 = s) && decide (opK s = 3 → (zhk (cls s) s).2.1 = true ∧ (zhk (cls s) s).2.2.2.2.2.1 = s) && decide (opK s = 4 → (zhk (cls s) s).2.2.2.2.2.1 = s.extract 0 3) &&
  decide (opK s = 4 ↔ s.toList = ([97, 100, 100, 105] : List UInt8) ∨ s.toList = ([97, 110, 100, 105] : List UInt8) ∨ s.toList = ([120, 111, 114, 105] : List UInt8) ∨ s.toList = ([115, 104, 108, 105] : List UInt8) ∨ s.toList = ([115, 104, 114, 105] : List UInt8)) &&
  decide (opK s = 2 ↔ s.toList = ([110, 111, 116] : List UInt8) ∨ s.toList = ([110, 101, 103] : List UInt8))
theorem yb3 : (ops.all fun p => ydl p.1) = true := by decide +kernel
theorem ydm {x : Instr} (h : okI x) : ∃ p ∈ ops, x.f0 = p.1 := Classical.byContradiction fun e => h.1 (zrs fun p hp he => e ⟨p, hp, he⟩)
structure OpT (s : ByteArray) : Prop where
  le : opK s ≤ 5
  set : s.toList = ([115, 101, 116] : List UInt8) ↔ opK s = 0
  mov : s.toList = ([109, 111, 118] : List UInt8) ↔ opK s = 1
  lea : s.toList = ([108, 101, 97] : List UInt8) ↔ opK s = 5
  k2 : opK s = 2 → kN s = 2
  k3 : opK s = 3 → kN s = 3
  k4 : opK s = 4 → kN (s.extract 0 3) = 3 ∧ s.size = 4
  imm : (zhk (cls s) s).2.2.1 ≤ (zhk (cls s) s).2.2.2.1 ↔ opK s = 0 ∨ opK s = 4 ∨ opK s = 5
  f2 : opK s = 2 → (zhk (cls s) s).2.1 = false ∧ (zhk (cls s) s).2.2.2.2.2.1 = s
  f3 : opK s = 3 → (zhk (cls s) s).2.1 = true ∧ (zhk (cls s) s).2.2.2.2.2.1 = s
  f4 : opK s = 4 → (zhk (cls s) s).2.2.2.2.2.1 = s.extract 0 3
  s4 : opK s = 4 ↔ s.toList = ([97, 100, 100, 105] : List UInt8) ∨ s.toList = ([97, 110, 100, 105] : List UInt8) ∨ s.toList = ([120, 111, 114, 105] : List UInt8) ∨ s.toList = ([115, 104, 108, 105] : List UInt8) ∨ s.toList = ([115, 104, 114, 105] : List UInt8)
  s2 : opK s = 2 ↔ s.toList = ([110, 111, 116] : List UInt8) ∨ s.toList = ([110, 101, 103] : List UInt8)
theorem zoy {x : Instr} (h : okI x) : OpT x.f0 := by
  obtain ⟨p, hp, e⟩ := ydm h
  have := List.all_eq_true.1 yb3 p hp
  unfold ydl at this
  simp only [Bool.and_eq_true, decide_eq_true_eq] at this
  rw [e]
  obtain ⟨⟨⟨⟨⟨⟨⟨⟨⟨⟨⟨⟨a, b⟩, c⟩, d⟩, e⟩, f⟩, g⟩, h⟩, i⟩, j⟩, k⟩, l⟩, m⟩ := this
  exact ⟨a, b, c, d, e, f, g, h, i, j, k, l, m⟩
def cN (x : Instr) : Node := ⟨nC, 0, 0, x.f4⟩
def stp (x : Instr) (s : ShSt) : ShSt := match opK x.f0 with
  | 0 => (s.1 ++ [cN x], s.2.set x.f1.toNat s.1.length)
  | 1 => (s.1, s.2.set x.f1.toNat (rd s.2 x.f2))
  | 2 => (s.1 ++ [⟨x.f0, rd s.2 x.f2, 0, 0⟩], s.2.set x.f1.toNat s.1.length)
  | 3 => (s.1 ++ [⟨x.f0, rd s.2 x.f2, rd s.2 x.f3, 0⟩], s.2.set x.f1.toNat s.1.length)
  | 4 => (s.1 ++ [cN x] ++ [⟨x.f0.extract 0 3, rd s.2 x.f2, s.1.length, 0⟩], s.2.set x.f1.toNat ((s.1 ++ [cN x]).length : Int))
  | _ => (s.1 ++ [cN x] ++ [⟨nShl, rd s.2 x.f3, s.1.length, 0⟩] ++ [⟨nAdd, rd s.2 x.f2, ((s.1 ++ [cN x]).length : Int), 0⟩], s.2.set x.f1.toNat ((s.1 ++ [cN x] ++ [(⟨nShl, rd s.2 x.f3, s.1.length, 0⟩ : Node)]).length : Int))
theorem yb4 {x : Instr} (h : okI x) (s : ShSt) : syDo x (zhk (cls x.f0) x.f0) s = stp x s := by
  have t := zoy h
  unfold syDo stp
  have hle := t.le
  simp only
  rcases Nat.lt_or_ge (opK x.f0) 1 with c | c
  · have c0 : opK x.f0 = 0 := by omega
    rw [if_pos (t.set.2 c0), c0, if_pos (t.imm.2 (.inl c0)), if_pos (t.imm.2 (.inl c0))]
    rfl
  rw [if_neg (fun e => by have := t.set.1 e; omega)]
  by_cases c1 : opK x.f0 = 1
  · rw [if_pos (t.mov.2 c1), c1, if_neg (fun e => by have := t.imm.1 e; omega)]
    rfl
  rw [if_neg (fun e => c1 (t.mov.1 e))]
  by_cases c5 : opK x.f0 = 5
  · rw [if_pos (t.lea.2 c5), c5, if_pos (t.imm.2 (.inr (.inr c5))), if_pos (t.imm.2 (.inr (.inr c5)))]
    rfl
  rw [if_neg (fun e => c5 (t.lea.1 e))]
  by_cases c4 : opK x.f0 = 4
  · have im := t.imm.2 (.inr (.inl c4))
    rw [if_pos im, if_pos im, if_pos im, c4, t.f4 c4]
    rfl
  have im : ¬ (zhk (cls x.f0) x.f0).2.2.1 ≤ (zhk (cls x.f0) x.f0).2.2.2.1 := fun e => by have := t.imm.1 e; omega
  rw [if_neg im, if_neg im]
  by_cases c2 : opK x.f0 = 2
  · rw [if_neg (by rw [(t.f2 c2).1]; decide), c2, (t.f2 c2).2]
    rfl
  · have c3 : opK x.f0 = 3 := by omega
    rw [if_pos (t.f3 c3).1, c3, (t.f3 c3).2]
    rfl
theorem zvy {x : Instr} (h : okI x) (s : ShSt) : (stp x s).1.length ≤ s.1.length + 3 ∧ (stp x s).2.length = s.2.length := by
  have hle := (zoy h).le
  unfold stp
  split <;> simp
structure Rp (s : ShSt) (T : Nat → Tr) : Prop where
  ok : okNs 0 s.1 = true
  len : s.2.length = 6
  reg : ∀ j : Nat, j < 6 → 0 ≤ rd s.2 (j : Int) ∧ rd s.2 (j : Int) < s.1.length ∧ TRN s.1 (rd s.2 (j : Int)) = T j
def stT (x : Instr) (T : Nat → Tr) : Tr := match opK x.f0 with
  | 0 => .lf nC x.f4
  | 1 => T x.f2.toNat
  | 2 => .un x.f0 0 (T x.f2.toNat)
  | 3 => .bi x.f0 0 (T x.f2.toNat) (T x.f3.toNat)
  | 4 => .bi (x.f0.extract 0 3) 0 (T x.f2.toNat) (.lf nC x.f4)
  | _ => .bi nAdd 0 (T x.f2.toNat) (.bi nShl 0 (T x.f3.toNat) (.lf nC x.f4))
def updT (T : Nat → Tr) (i : Nat) (t : Tr) : Nat → Tr := fun j => if i = j then t else T j
structure Up (ns ns' : List Node) : Prop where
  ok : okNs 0 ns' = true
  le : ns.length ≤ ns'.length
  old : ∀ i : Nat, i < ns.length → TRN ns' (i : Int) = TRN ns (i : Int)
theorem Up.refl {ns : List Node} (h : okNs 0 ns = true) : Up ns ns := ⟨h, Nat.le_refl _, fun _ _ => rfl⟩
theorem Up.add {ns ns' : List Node} (h : Up ns ns') {n : Node} (hn : okNx n (ns'.length : Int) = true) : Up ns (ns' ++ [n]) ∧ TRN (ns' ++ [n]) (ns'.length : Int) = trN n (TRN ns') := by
  have ok' : okNs 0 (ns' ++ [n]) = true := by rw [zp2, h.ok, Nat.zero_add, hn]; rfl
  exact ⟨⟨ok', by have := h.le; simp; omega, fun i hi => by rw [zyp ok' i (by have := h.le; omega), h.old i hi]⟩, zyq ok'⟩
theorem Rp.put {s : ShSt} {T : Nat → Tr} (h : Rp s T) {ns' : List Node} (u : Up s.1 ns') (i : Nat) (hi : i < 6) {v : Int} {t : Tr} (h0 : 0 ≤ v) (h1 : v < ns'.length) (ht : TRN ns' v = t) : Rp (ns', s.2.set i v) (updT T i t) := by
  refine ⟨u.ok, by simp [h.len], fun j hj => ?_⟩
  rw [zpz _ _ _ _ (by rw [h.len]; exact hi)]
  unfold updT
  split
  · exact ⟨h0, h1, ht⟩
  · obtain ⟨a, b, c⟩ := h.reg j hj
    obtain ⟨p, hp⟩ := Int.eq_ofNat_of_zero_le a
    rw [hp] at b c ⊢
    have := u.le
    exact ⟨by omega, by simp only; omega, by simp only; rw [u.old p (by omega), c]⟩
theorem zml {x : Instr} (h : okI x) : (0 ≤ x.f1 ∧ x.f1 < 6) ∧ (0 ≤ x.f2 ∧ x.f2 < 6) ∧ (0 ≤ x.f3 ∧ x.f3 < 6) := by
  obtain ⟨_, a, b, c, _⟩ := h
  refine ⟨by omega, ?_, ?_⟩
  · rcases b with b | b <;> omega
  · rcases c with c | c <;> omega
theorem zvz {x : Instr} (h : okI x) (k : opK x.f0 = 0 ∨ opK x.f0 = 4 ∨ opK x.f0 = 5) : 0 ≤ x.f4 ∧ x.f4 ≤ 63 := by
  obtain ⟨a, _, _, _, b, c⟩ := h
  have hc := ya2 x.f0
  have : cls x.f0 = 0 ∨ cls x.f0 = 1 ∨ cls x.f0 = 2 ∨ cls x.f0 = 3 ∨ cls x.f0 = 4 ∨ cls x.f0 = 5 ∨ cls x.f0 = 6 ∨ cls x.f0 = 7 := by omega
  rcases this with e | e | e | e | e | e | e | e <;> rw [e] at b c <;> simp only [znr] at b c <;> omega
theorem kN_c : kN nC = 1 := by decide +kernel
theorem ya6 : kN nAdd = 3 := by decide +kernel
theorem ya7 : kN nShl = 3 := by decide +kernel
theorem okc {x : Instr} (h : 0 ≤ x.f4 ∧ x.f4 ≤ 63) (i : Int) : okNx (cN x) i = true := by
  unfold okNx cN
  simp only
  rw [kN_c]
  simp [okNd]
  omega
theorem ok3 {s : ByteArray} (c : kN s = 3) {a b i : Int} (h : (0 ≤ a ∧ a < i) ∧ 0 ≤ b ∧ b < i) : okNx ⟨s, a, b, 0⟩ i = true := by
  unfold okNx
  simp only
  rw [c]
  simp [okNd]
  omega
theorem ok2 {s : ByteArray} (c : kN s = 2) {a i : Int} (h : 0 ≤ a ∧ a < i) : okNx ⟨s, a, 0, 0⟩ i = true := by
  unfold okNx
  simp only
  rw [c]
  simp [okNd]
  omega
theorem ydn {x : Instr} (hx : okI x) {s : ShSt} {T : Nat → Tr} (h : Rp s T) : Rp (stp x s) (updT T x.f1.toNat (stT x T)) := by
  have t := zoy hx
  have hle := t.le
  obtain ⟨r1, r2, r3⟩ := zml hx
  obtain ⟨a, ha⟩ := Int.eq_ofNat_of_zero_le r2.1
  obtain ⟨b, hb⟩ := Int.eq_ofNat_of_zero_le r3.1
  obtain ⟨a1, a2, a3⟩ := h.reg a (by omega)
  obtain ⟨b1, b2, b3⟩ := h.reg b (by omega)
  obtain ⟨pa, hpa⟩ := Int.eq_ofNat_of_zero_le a1
  obtain ⟨pb, hpb⟩ := Int.eq_ofNat_of_zero_le b1
  have hi : x.f1.toNat < 6 := by omega
  have u0 := Up.refl h.ok
  unfold stp stT
  rw [ha, hb, Int.toNat_natCast, Int.toNat_natCast, ← a3, ← b3, hpa, hpb]
  rw [hpa] at a2
  rw [hpb] at b2
  have c : opK x.f0 = 0 ∨ opK x.f0 = 1 ∨ opK x.f0 = 2 ∨ opK x.f0 = 3 ∨ opK x.f0 = 4 ∨ opK x.f0 = 5 := by omega
  rcases c with c | c | c | c | c | c <;> rw [c] <;> simp only
  · obtain ⟨u, e⟩ := u0.add (okc (zvz hx (.inl c)) _)
    exact h.put u _ hi (by omega) (by simp; omega) (by rw [e, zlm _ (.inr kN_c)]; rfl)
  · exact h.put u0 _ hi (by omega) a2 rfl
  · obtain ⟨u, e⟩ := u0.add (n := ⟨x.f0, pa, 0, 0⟩) (ok2 (t.k2 c) (by omega))
    exact h.put u _ hi (by omega) (by simp; omega) (by rw [e, zw4 _ (by exact t.k2 c)])
  · obtain ⟨u, e⟩ := u0.add (n := ⟨x.f0, pa, pb, 0⟩) (ok3 (t.k3 c) (by omega))
    exact h.put u _ hi (by omega) (by simp; omega) (by rw [e, zsc _ (by exact t.k3 c)])
  · obtain ⟨u, e⟩ := u0.add (okc (zvz hx (.inr (.inl c))) _)
    obtain ⟨u', e'⟩ := u.add (n := ⟨x.f0.extract 0 3, pa, (s.1.length : Int), 0⟩) (ok3 (t.k4 c).1 (by simp; omega))
    refine h.put u' _ hi (by omega) (by simp) ?_
    rw [e', zsc _ (by exact (t.k4 c).1)]
    simp only
    rw [u.old pa (by omega), e, zlm _ (.inr kN_c)]
    rfl
  · obtain ⟨u, e⟩ := u0.add (okc (zvz hx (.inr (.inr c))) _)
    obtain ⟨u', e'⟩ := u.add (n := ⟨nShl, pb, (s.1.length : Int), 0⟩) (ok3 ya7 (by simp; omega))
    obtain ⟨u'', e''⟩ := u'.add (n := ⟨nAdd, pa, ((s.1 ++ [cN x]).length : Int), 0⟩) (ok3 ya6 (by simp; omega))
    refine h.put u'' _ hi (by omega) (by simp) ?_
    rw [e'', zsc _ (by exact ya6)]
    simp only
    rw [u'.old pa (by omega), e', zsc _ (by exact ya7)]
    simp only
    rw [u.old pb (by omega), e, zlm _ (.inr kN_c)]
    rfl
theorem ya8 : ∀ (l : List Instr) (s : ShSt), (∀ x ∈ l, okI x) → s.1.length + 3 * l.length < 1000000 → s.2.length = 6 → syL l s = some (l.foldl (fun s x => stp x s) s)
  | [], s, _, _, _ => rfl
  | x :: xs, s, h, hl, h6 => by
    have hx := h x (by simp)
    obtain ⟨r1, r2, r3⟩ := zml hx
    obtain ⟨l1, l2⟩ := zvy hx s
    simp only [List.length_cons] at hl
    unfold syL
    rw [if_pos ⟨r1, r2, r3, by omega, h6⟩, zya, Option.bind_some, yb4 hx]
    exact ya8 xs (stp x s) (fun y hy => h y (by simp [hy])) (by omega) (by rw [l2, h6])
theorem zv0 : ∀ (l : List Instr) (s : ShSt) (T : Nat → Tr), (∀ x ∈ l, okI x) → Rp s T → Rp (l.foldl (fun s x => stp x s) s) (l.foldl (fun T x => updT T x.f1.toNat (stT x T)) T) ∧ (l.foldl (fun s x => stp x s) s).1.length ≤ s.1.length + 3 * l.length
  | [], s, T, _, h => ⟨h, Nat.le_refl _⟩
  | x :: xs, s, T, hx, h => by
    obtain ⟨a, b⟩ := zv0 xs (stp x s) _ (fun y hy => hx y (by simp [hy])) (ydn (hx x (by simp)) h)
    have := (zvy (hx x (by simp)) s).1
    refine ⟨a, ?_⟩
    simp only [List.foldl_cons, List.length_cons]
    omega
def T0 (j : Nat) : Tr := if j = 0 then .lf ⟨#[105, 110]⟩ 0 else if j = 1 then .lf ⟨#[105, 110]⟩ 1 else .lf nC 0
theorem yb5 : Rp (syU 6) T0 := by
  refine ⟨by decide +kernel, rfl, fun j hj => ?_⟩
  have : j = 0 ∨ j = 1 ∨ j = 2 ∨ j = 3 ∨ j = 4 ∨ j = 5 := by omega
  rcases this with rfl | rfl | rfl | rfl | rfl | rfl <;> exact ⟨by decide, by decide, by kernel_rfl⟩
def vaIni : ShSt := ([(⟨(⟨#[105, 110]⟩ : ByteArray), 0, 0, 0⟩ : Node), ⟨⟨#[105, 110]⟩, 0, 0, 1⟩, ⟨⟨#[99, 111, 110, 115, 116]⟩, 0, 0, 0⟩], [0, 1, 2, 2, 2, 2])
theorem yb6 : Rp vaIni T0 := by
  refine ⟨by decide +kernel, rfl, fun j hj => ?_⟩
  have : j = 0 ∨ j = 1 ∨ j = 2 ∨ j = 3 ∨ j = 4 ∨ j = 5 := by omega
  rcases this with rfl | rfl | rfl | rfl | rfl | rfl <;> exact ⟨by decide, by decide, by kernel_rfl⟩
theorem zjp (xs : List Node) (a : ByteArray) (b c d : Int) (h : xs.length < 1000000) : zdq xs a b c d = some (xs ++ [⟨a, b, c, d⟩], (xs.length : Int)) := by
  unfold zdq
  rw [if_pos (by omega)]
section
variable {l : List Instr} {n i : Int} {x : Instr} {s : ShSt} {R : List Node × List Int}
theorem ydo (hx : okI x) (c : opK x.f0 = 4) (hs : s.1.length < 900000) (h6 : s.2.length = 6) (H : Ev (fun k => zav k (stp x s).1 (stp x s).2 l n (wrap64 (i + 1))) R) :
    Ev (fun k => za8 k s.1 s.2 l n i x.f0 true x.f0 x.f1 x.f2 x.f3 x.f4 nC 0 0 x.f4) R := by
  have t := zoy hx
  obtain ⟨r1, r2, r3⟩ := zml hx
  have hsz := (t.k4 c).2
  have ew : wrap64 ((x.f0.size : Int) - 1) = 3 := by rw [hsz]; unfold wrap64; omega
  have e : stp x s = (s.1 ++ [cN x] ++ [⟨x.f0.extract 0 3, rd s.2 x.f2, s.1.length, 0⟩], s.2.set x.f1.toNat ((s.1 ++ [cN x]).length : Int)) := by unfold stp; rw [c]; rfl
  rw [e] at H
  refine Ev.step (fun k => by simp only [za8, ew]; rfl) (zae (show (true : Bool) = true from rfl) (Ev.call (zjp s.1 nC 0 0 x.f4 (by omega)) ?_))
  refine zae (by omega) (zae (by omega) (zae r2.1 (zae (by omega) (Ev.call (zjp (s.1 ++ [cN x]) (x.f0.extract 0 3) (rd s.2 x.f2) s.1.length 0 (by simp; omega)) ?_))))
  exact zae r1.1 (zae (by omega) H)
theorem ydp (hx : okI x) (c : opK x.f0 = 5) (hs : s.1.length < 900000) (h6 : s.2.length = 6) (H : Ev (fun k => zav k (stp x s).1 (stp x s).2 l n (wrap64 (i + 1))) R) :
    Ev (fun k => za8 k s.1 s.2 l n i x.f0 false x.f0 x.f1 x.f2 x.f3 x.f4 nC 0 0 x.f4) R := by
  have t := zoy hx
  obtain ⟨r1, r2, r3⟩ := zml hx
  have e : stp x s = (s.1 ++ [cN x] ++ [⟨nShl, rd s.2 x.f3, s.1.length, 0⟩] ++ [⟨nAdd, rd s.2 x.f2, ((s.1 ++ [cN x]).length : Int), 0⟩], s.2.set x.f1.toNat ((s.1 ++ [cN x] ++ [(⟨nShl, rd s.2 x.f3, s.1.length, 0⟩ : Node)]).length : Int)) := by unfold stp; rw [c]; rfl
  rw [e] at H
  refine Ev.step (fun k => by simp only [za8]; rfl) (zao (by decide) (zae (t.lea.2 c) (Ev.call (zjp s.1 nC 0 0 x.f4 (by omega)) ?_)))
  refine zae r3.1 (zae (by omega) (Ev.call (zjp (s.1 ++ [cN x]) nShl (rd s.2 x.f3) s.1.length 0 (by simp; omega)) ?_))
  refine zae r2.1 (zae (by omega) (Ev.call (zjp (s.1 ++ [cN x] ++ [⟨nShl, rd s.2 x.f3, s.1.length, 0⟩]) nAdd (rd s.2 x.f2) ((s.1 ++ [cN x]).length : Int) 0 (by simp; omega)) ?_))
  exact zae r1.1 (zae (by omega) H)
theorem ydq (hx : okI x) (c : opK x.f0 = 2) (hs : s.1.length < 900000) (h6 : s.2.length = 6) (H : Ev (fun k => zav k (stp x s).1 (stp x s).2 l n (wrap64 (i + 1))) R) :
    Ev (fun k => zbw k s.1 s.2 l n i true x.f0 x.f1 x.f2 x.f3 x.f4) R := by
  obtain ⟨r1, r2, r3⟩ := zml hx
  have e : stp x s = (s.1 ++ [⟨x.f0, rd s.2 x.f2, 0, 0⟩], s.2.set x.f1.toNat s.1.length) := by unfold stp; rw [c]; rfl
  rw [e] at H
  refine Ev.step (fun k => by simp only [zbw]; rfl) (zae (show (true : Bool) = true from rfl) (zae r2.1 (zae (by omega) (Ev.call (zjp s.1 x.f0 (rd s.2 x.f2) 0 0 (by omega)) ?_))))
  exact zae r1.1 (zae (by omega) H)
theorem ydr (hx : okI x) (c : opK x.f0 = 3) (hs : s.1.length < 900000) (h6 : s.2.length = 6) (H : Ev (fun k => zav k (stp x s).1 (stp x s).2 l n (wrap64 (i + 1))) R) :
    Ev (fun k => zbw k s.1 s.2 l n i false x.f0 x.f1 x.f2 x.f3 x.f4) R := by
  obtain ⟨r1, r2, r3⟩ := zml hx
  have e : stp x s = (s.1 ++ [⟨x.f0, rd s.2 x.f2, rd s.2 x.f3, 0⟩], s.2.set x.f1.toNat s.1.length) := by unfold stp; rw [c]; rfl
  rw [e] at H
  refine Ev.step (fun k => by simp only [zbw]; rfl) (zao (by decide) (zae r2.1 (zae (by omega) (zae r3.1 (zae (by omega) (Ev.call (zjp s.1 x.f0 (rd s.2 x.f2) (rd s.2 x.f3) 0 (by omega)) ?_))))))
  exact zae r1.1 (zae (by omega) H)
theorem yb7 (hx : okI x) (c : opK x.f0 = 2 ∨ opK x.f0 = 3 ∨ opK x.f0 = 5) (hs : s.1.length < 900000) (h6 : s.2.length = 6) (H : Ev (fun k => zav k (stp x s).1 (stp x s).2 l n (wrap64 (i + 1))) R) :
    Ev (fun k => za8 k s.1 s.2 l n i x.f0 false x.f0 x.f1 x.f2 x.f3 x.f4 nC 0 0 x.f4) R := by
  have t := zoy hx
  by_cases c5 : opK x.f0 = 5
  · exact ydp hx c5 hs h6 H
  refine Ev.step (fun k => by simp only [za8]; rfl) (zao (by decide) (zao (fun e => c5 (t.lea.1 e)) ?_))
  by_cases c2 : opK x.f0 = 2
  · rcases t.s2.1 c2 with e | e
    · refine zae e ?_
      rw [show (x.f0.toList == ([110, 111, 116] : List UInt8)) = true from beq_iff_eq.2 e]
      exact ydq hx c2 hs h6 H
    · refine zao (fun h => by rw [e] at h; exact absurd h (by decide)) ?_
      rw [show (x.f0.toList == ([110, 101, 103] : List UInt8)) = true from beq_iff_eq.2 e]
      exact ydq hx c2 hs h6 H
  · refine zao (fun h => c2 (t.s2.2 (.inl h))) ?_
    rw [show (x.f0.toList == ([110, 101, 103] : List UInt8)) = false from Bool.eq_false_iff.2 (fun h => c2 (t.s2.2 (.inr (beq_iff_eq.1 h))))]
    exact ydr hx (by omega) hs h6 H
end
theorem zw7 (l : List Instr) (hl : l.length ≤ 1000) (hok : ∀ x ∈ l, okI x) : ∀ (d i : Nat) (s : ShSt), i + d = l.length → s.1.length ≤ 3 + 3 * i → s.2.length = 6 → Ev (fun k => zav k s.1 s.2 l l.length i) ((l.drop i).foldl (fun s x => stp x s) s)
  | 0, i, s, h, hs, h6 => by
    rw [List.drop_of_length_le (by omega)]
    exact Ev.step (fun k => by simp only [zav]; rfl) (zao (by omega) (zaq _))
  | d + 1, i, s, h, hs, h6 => by
    have hi : i < l.length := by omega
    have hx : zaa l (i : Int) = l[i] := zr6 (zcy l i hi)
    have hxo := hok _ (List.getElem_mem hi)
    rw [List.drop_eq_getElem_cons hi, List.foldl_cons]
    obtain ⟨l1, l2⟩ := zvy hxo s
    have H := zw7 l hl hok d (i + 1) (stp l[i] s) (by omega) (by omega) (by omega)
    rw [← w64n i (by omega)] at H
    generalize l[i] = x at hx hxo H l1 l2 ⊢
    have t := zoy hxo
    obtain ⟨r1, r2, r3⟩ := zml hxo
    have hle := t.le
    refine Ev.step (fun k => by simp only [zav, hx]; rfl) (zae (by omega) (zae (by omega) (zae (by omega) ?_)))
    by_cases c0 : opK x.f0 = 0
    · have e : stp x s = (s.1 ++ [cN x], s.2.set x.f1.toNat s.1.length) := by unfold stp; rw [c0]; rfl
      rw [e] at H ⊢
      exact zae (t.set.2 c0) (Ev.call (zjp s.1 nC 0 0 x.f4 (by omega)) (zae r1.1 (zae (by omega) H)))
    refine zao (fun e => c0 (t.set.1 e)) ?_
    by_cases c1 : opK x.f0 = 1
    · have e : stp x s = (s.1, s.2.set x.f1.toNat (rd s.2 x.f2)) := by unfold stp; rw [c1]; rfl
      rw [e] at H ⊢
      exact zae (t.mov.2 c1) (zae r2.1 (zae (by omega) (zae r1.1 (zae (by omega) H))))
    refine zao (fun e => c1 (t.mov.1 e)) ?_
    by_cases c4 : opK x.f0 = 4
    · have J := ydo (l := l) (n := l.length) (i := i) hxo c4 (by omega) h6 H
      rcases t.s4.1 c4 with e | e | e | e | e
      · refine zae e ?_
        rw [show (x.f0.toList == ([97, 100, 100, 105] : List UInt8)) = true from beq_iff_eq.2 e]
        exact J
      · refine zao (fun h => by rw [e] at h; exact absurd h (by decide)) (zae e ?_)
        rw [show (x.f0.toList == ([97, 110, 100, 105] : List UInt8)) = true from beq_iff_eq.2 e]
        exact J
      · refine zao (fun h => by rw [e] at h; exact absurd h (by decide)) (zao (fun h => by rw [e] at h; exact absurd h (by decide)) (zae e ?_))
        rw [show (x.f0.toList == ([120, 111, 114, 105] : List UInt8)) = true from beq_iff_eq.2 e]
        exact J
      · refine zao (fun h => by rw [e] at h; exact absurd h (by decide)) (zao (fun h => by rw [e] at h; exact absurd h (by decide)) (zao (fun h => by rw [e] at h; exact absurd h (by decide)) (zae e ?_)))
        rw [show (x.f0.toList == ([115, 104, 108, 105] : List UInt8)) = true from beq_iff_eq.2 e]
        exact J
      · refine zao (fun h => by rw [e] at h; exact absurd h (by decide)) (zao (fun h => by rw [e] at h; exact absurd h (by decide)) (zao (fun h => by rw [e] at h; exact absurd h (by decide)) (zao (fun h => by rw [e] at h; exact absurd h (by decide)) ?_)))
        rw [show (x.f0.toList == ([115, 104, 114, 105] : List UInt8)) = true from beq_iff_eq.2 e]
        exact J
    · refine zao (fun h => c4 (t.s4.2 (.inl h))) (zao (fun h => c4 (t.s4.2 (.inr (.inl h)))) (zao (fun h => c4 (t.s4.2 (.inr (.inr (.inl h))))) (zao (fun h => c4 (t.s4.2 (.inr (.inr (.inr (.inl h)))))) ?_)))
      rw [show (x.f0.toList == ([115, 104, 114, 105] : List UInt8)) = false from Bool.eq_false_iff.2 (fun h => c4 (t.s4.2 (.inr (.inr (.inr (.inr (beq_iff_eq.1 h)))))))]
      exact yb7 hxo (by omega) (by omega) h6 H
theorem yab (l : List Instr) (hl : l.length ≤ 100) (hok : ∀ x ∈ l, okI x) (r : Int) (h0 : 0 ≤ r) (h1 : r < 6) : ∃ e e' : List Node, okNs 0 e = true ∧ 0 < e.length ∧ e.length ≤ 1000 ∧ okNs 0 e' = true ∧ 0 < e'.length ∧ e'.length ≤ 1000 ∧ shP e = shP e' ∧
    Ev (fun k => zek k l r) (shP e, zoh (shP e)) ∧ Ev (fun k => zem k l r) (shP e', zoh (shP e')) := by
  obtain ⟨p1, p2⟩ := zv0 l (syU 6) T0 hok yb5
  obtain ⟨q1, q2⟩ := zv0 l vaIni T0 hok yb6
  have s1 := ya8 l (syU 6) hok (by have := (zty 6 (by decide)).1; omega) (zty 6 (by decide)).2
  have s2 := zw7 l (by omega) hok l.length 0 vaIni (by omega) (by decide) rfl
  rw [List.drop_zero] at s2
  have z1 : (syU 6).1.length = 6 := (zty 6 (by decide)).1
  have z2 : vaIni.1.length = 3 := rfl
  rw [z1] at p2
  rw [z2] at q2
  generalize l.foldl (fun s x => stp x s) (syU 6) = S at p1 p2 s1
  generalize l.foldl (fun s x => stp x s) vaIni = S' at q1 q2 s2
  generalize l.foldl (fun T x => updT T x.f1.toNat (stT x T)) T0 = T at p1 q1
  obtain ⟨j, rfl⟩ := Int.eq_ofNat_of_zero_le h0
  obtain ⟨a1, a2, a3⟩ := p1.reg j (by omega)
  obtain ⟨b1, b2, b3⟩ := q1.reg j (by omega)
  have hl6 := p1.len
  have hl6' := q1.len
  obtain ⟨u, hu⟩ := Int.eq_ofNat_of_zero_le a1
  obtain ⟨v, hv⟩ := Int.eq_ofNat_of_zero_le b1
  rw [hu] at a2 a3
  rw [hv] at b2 b3
  obtain ⟨e, ke, kk⟩ := zyt S.1 p1.ok (by omega) u (by omega)
  obtain ⟨e', ke', kk'⟩ := zyw S'.1 q1.ok (by omega) v (by omega)
  have hs := zti kk kk' (by rw [a3, b3])
  refine ⟨e, e', kk.1, kk.2.1, by have := kk.2.2.1; omega, kk'.1, kk'.2.1, by have := kk'.2.2.1; omega, hs, ?_, ?_⟩
  · unfold zek
    refine zae ⟨by omega, h0, h1⟩ (Ev.call s1 (zae hl6 ?_))
    rw [hu]
    exact Ev.bind ke (Ev.bind (zmk e kk.2.1 (by have := kk.2.2.1; omega) kk.1) (Ev.bind (zyi _) (zaq _)))
  · unfold zem zfg
    refine Ev.bind s2 (zae h0 (zae (by omega) ?_))
    rw [hv]
    exact Ev.bind ke' (Ev.bind (zqv e' kk'.2.1 (by have := kk'.2.2.1; omega) kk'.1) (Ev.bind (zyj _) (zaq _)))
open Classical in
noncomputable def symR (l : List Instr) (r : Int) : List Node × Bool := if h : ∃ R, Ev (fun k => zek k l r) R then Classical.choose h else ([], false)
theorem yb8 (l : List Instr) (hl : l.length ≤ 100) (hok : ∀ x ∈ l, okI x) (r : Int) (h0 : 0 ≤ r) (h1 : r < 6) : Ev (fun k => zek k l r) (symR l r) ∧ Ev (fun k => zem k l r) (symR l r) ∧ (symR l r).2 = zoh (symR l r).1 := by
  obtain ⟨e, e', _, _, _, _, _, _, hs, a, b⟩ := yab l hl hok r h0 h1
  have h : ∃ R, Ev (fun k => zek k l r) R := ⟨_, a⟩
  have q : symR l r = (shP e, zoh (shP e)) := by
    unfold symR
    rw [dif_pos h]
    exact zt2 (Classical.choose_spec h) a
  rw [q]
  exact ⟨a, by rw [hs]; exact b, rfl⟩
theorem ztj (l : List Instr) : Ev (fun k => zfp k l) (zjt l) := by
  unfold zfp
  rw [ztc]
  by_cases h : (l.length : Int) ≤ 20
  · refine zae h (Ev.bind (zyc l) (Ev.some ?_))
    rw [decide_eq_true (show l.length ≤ 20 by omega), Bool.and_true]
  · refine zao h (Ev.some ?_)
    rw [decide_eq_false (show ¬ l.length ≤ 20 by omega), Bool.and_false]
end Go.Proofs.YtnaafcleafbejaaGreat.PL
end
